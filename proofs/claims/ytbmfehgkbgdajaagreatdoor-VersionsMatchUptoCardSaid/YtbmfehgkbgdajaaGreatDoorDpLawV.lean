/- The plain law: both ways of reading a version are one. -/
import Derived.Test.YtbmfehgkbgdajaaGreatDoorDpV6
import Derived.Test.YtbmfehgkbgdajaaGreatDoorDpV4c
set_option linter.all false
namespace Dp
open Am Go Go.Proofs

/-! ### Parts -/
def consHead (c : UInt8) : List (List UInt8) → List (List UInt8)
  | p :: ps => (c :: p) :: ps
  | [] => [[c]]
def cutL : List UInt8 → List (List UInt8)
  | [] => [[]]
  | c :: r => if c = 46 then [] :: cutL r else consHead c (cutL r)

theorem cutL_cons (c : UInt8) (r : List UInt8) : cutL (c :: r) = if c = 46 then [] :: cutL r else consHead c (cutL r) := rfl
theorem index_cons_ne (c : UInt8) (r : List UInt8) (h : c ≠ 46) : Lib.index (c :: r) [46] = if Lib.index r [46] == -1 then -1 else Lib.index r [46] + 1 := by
  have hp : ([46] : List UInt8).isPrefixOf (c :: r) = false := by simp [List.isPrefixOf, Ne.symm h]
  rw [Lib.index, hp]; simp

theorem splitK_ne (c : UInt8) (h : c ≠ 46) : ∀ (k : Nat) (r : List UInt8), Lib.splitK [46] 0 k (c :: r) = consHead c (Lib.splitK [46] 0 k r)
  | 0, r => rfl
  | k + 1, r => by
    unfold Lib.splitK
    rw [index_cons_ne c r h]
    by_cases hm : Lib.index r [46] = -1
    · simp [hm, consHead]
    · have hge := Lib.index_ge r [46]
      obtain ⟨j, hj⟩ : ∃ j : Nat, Lib.index r [46] = j := ⟨(Lib.index r [46]).toNat, by omega⟩
      have e1 : ((j : Int) == -1) = false := by rw [beq_eq_false_iff_ne]; omega
      have e2 : ((j : Int) + 1 == -1) = false := by rw [beq_eq_false_iff_ne]; omega
      have e3 : ((j : Int) + 1).toNat = j + 1 := by omega
      simp [hj, e1, e2, e3, consHead]
theorem splitK_eq (k : Nat) (r : List UInt8) : Lib.splitK [46] 0 (k + 1) (46 :: r) = [] :: Lib.splitK [46] 0 k r := by
  have hix : Lib.index (46 :: r) [46] = 0 := by rw [Lib.index]; simp [List.isPrefixOf]
  show (if Lib.index (46 :: r) [46] == -1 then _ else _) = _
  rw [hix]
  simp

theorem split_cut : ∀ s : List UInt8, Lib.splitK [46] 0 (Lib.count s [46]) s = cutL s
  | [] => by rw [Lib.count_miss (by simp [Lib.index])]; rfl
  | c :: r => by
    rw [cutL_cons]
    by_cases h : c = 46
    · subst h
      rw [Lib.count_cons_eq, Nat.add_comm, splitK_eq, split_cut r, if_pos rfl]
    · rw [Lib.count_cons_ne c 46 r h, splitK_ne c h, split_cut r, if_neg h]

theorem splitL_cut (s : List UInt8) : splitL s [46] = cutL s := by
  unfold splitL
  rw [Lib.splitB_data, ← split_cut s]

theorem cutL_shape : ∀ l : List UInt8, ∃ q qs rest, cutL l = q :: qs ∧ l = q ++ rest ∧ (∀ x ∈ q, x ≠ 46) ∧ ((rest = [] ∧ qs = []) ∨ ∃ r', rest = 46 :: r' ∧ qs = cutL r' ∧ qs ≠ [])
  | [] => ⟨[], [], [], rfl, rfl, fun _ h => (by cases h), .inl ⟨rfl, rfl⟩⟩
  | c :: r => by
    obtain ⟨q, qs, rest, h1, h2, h3, h4⟩ := cutL_shape r
    rw [cutL_cons]
    by_cases h : c = 46
    · subst h
      rw [if_pos rfl]
      exact ⟨[], cutL r, 46 :: r, rfl, rfl, fun _ h => (by cases h), .inr ⟨r, rfl, rfl, by rw [h1]; simp⟩⟩
    · rw [if_neg h, h1]
      refine ⟨c :: q, qs, rest, rfl, by rw [h2]; rfl, ?_, h4⟩
      intro x hx
      rcases List.mem_cons.1 hx with rfl | hx
      · exact h
      · exact h3 x hx

theorem cutL_len : ∀ (l : List UInt8), ∀ p ∈ cutL l, p.length ≤ l.length
  | [], p, hp => by
    have : p = [] := by simpa [cutL] using hp
    subst this; simp
  | c :: r, p, hp => by
    rw [cutL_cons] at hp
    have ih := cutL_len r
    split at hp
    · rcases List.mem_cons.1 hp with rfl | hp
      · simp
      · have := ih p hp; simp; omega
    · obtain ⟨q, qs, rest, h1, _⟩ := cutL_shape r
      rw [h1] at hp ih
      rcases List.mem_cons.1 hp with rfl | hp
      · have := ih q List.mem_cons_self; simp; omega
      · have := ih p (List.mem_cons_of_mem _ hp); simp; omega

/-! ### Digits -/
def digsL : List UInt8 → Nat → Nat → Int → Option (Nat × Int)
  | _, 0, c, n => some (c, n)
  | [], _ + 1, c, n => some (c, n)
  | d :: r, f + 1, c, n => if isDig d then (if 6 < c + 1 then none else digsL r f (c + 1) (10 * n + ((d.toNat : Int) - 48))) else some (c, n)

theorem digs_list (s : List UInt8) (i : Nat) : ∀ (f c : Nat) (n : Int), digs s i f c n = digsL (s.drop (i + c)) f c n
  | 0, c, n => by unfold digs digsL; rfl
  | f + 1, c, n => by
    unfold digs
    by_cases h : i + c < s.length
    · rw [List.getElem?_eq_getElem h, List.drop_eq_getElem_cons h]
      simp only [digsL]
      rw [digs_list s i f (c + 1), show i + (c + 1) = i + c + 1 by omega]
    · rw [List.getElem?_eq_none (by omega), List.drop_eq_nil_of_le (by omega)]
      rfl

theorem digsL_append (rest : List UInt8) (hr : rest = [] ∨ ∃ r', rest = 46 :: r') : ∀ (q : List UInt8) (f c : Nat) (n : Int), digsL (q ++ rest) f c n = digsL q f c n
  | q, 0, c, n => by cases q <;> cases rest <;> rfl
  | [], f + 1, c, n => by
    rcases hr with rfl | ⟨r', rfl⟩
    · rfl
    · show (if isDig 46 then _ else _) = _
      rw [show isDig 46 = false by decide]; rfl
  | d :: q, f + 1, c, n => by
    show (if isDig d then (if 6 < c + 1 then none else digsL (q ++ rest) f (c + 1) _) else some (c, n)) = _
    rw [digsL_append rest hr q f (c + 1)]
    rfl

/-- what number gives at a part -/
def numQ (q : List UInt8) (p : Nat) : Int × Int × Bool := match digsL q 7 0 0 with
  | none => (0, 0, false)
  | some (c, n) => (n, ((p + c : Nat) : Int), decide (0 < c) && (!headIs q 0 48 || c == 1))

theorem digsL_le : ∀ (q : List UInt8) (f c : Nat) (n : Int) {c' : Nat} {n' : Int}, digsL q f c n = some (c', n') → c ≤ c' ∧ c' ≤ c + q.length
  | q, 0, c, n, c', n', h => by simp only [digsL, Option.some.injEq, Prod.mk.injEq] at h; omega
  | [], f + 1, c, n, c', n', h => by simp only [digsL, Option.some.injEq, Prod.mk.injEq] at h; omega
  | d :: q, f + 1, c, n, c', n', h => by
    unfold digsL at h
    split at h
    · split at h
      · cases h
      · have := digsL_le q f (c + 1) _ h; simp only [List.length_cons]; omega
    · simp only [Option.some.injEq, Prod.mk.injEq] at h; omega

theorem refNum_part {s q rest : List UInt8} {p : Nat} (hl : s.drop p = q ++ rest) (hr : rest = [] ∨ ∃ r', rest = 46 :: r') : refNum s p = numQ q p := by
  unfold refNum numQ
  rw [digs_list, Nat.add_zero, hl, digsL_append rest hr]
  cases hq : digsL q 7 0 0 with
  | none => rfl
  | some x =>
    obtain ⟨c, n⟩ := x
    have hle := digsL_le q 7 0 0 hq
    by_cases hc : 0 < c
    · have e : s[p]? = q[0]? := by
        have : (s.drop p)[0]? = s[p]? := by rw [List.getElem?_drop, Nat.add_zero]
        rw [← this, hl, List.getElem?_append_left (by omega)]
      simp only [headIs, e]
    · simp [hc]

/-! ### Numbers below a thousand -/
def dig3 (v : Nat) : List UInt8 := if v < 10 then [UInt8.ofNat (48 + v)] else if v < 100 then [UInt8.ofNat (48 + v / 10), UInt8.ofNat (48 + v % 10)] else [UInt8.ofNat (48 + v / 100), UInt8.ofNat (48 + v / 10 % 10), UInt8.ofNat (48 + v % 10)]
theorem decDigits_dig3 {v : Nat} (h : v < 1000) : Lib.decDigits v = dig3 v := by
  unfold dig3
  by_cases h1 : v < 10
  · rw [if_pos h1, Lib.decDigits, dif_pos h1]
  · rw [if_neg h1]
    by_cases h2 : v < 100
    · rw [if_pos h2, Lib.decDigits, dif_neg h1, Lib.decDigits, dif_pos (by omega)]; rfl
    · rw [if_neg h2, Lib.decDigits, dif_neg h1, Lib.decDigits, dif_neg (by omega), Lib.decDigits, dif_pos (by omega)]
      rw [Nat.div_div_eq_div_mul]; rfl
theorem itoa_dig3 {v : Nat} (h : v < 1000) : Lib.itoa (v : Int) = dig3 v := by
  unfold Lib.itoa
  rw [if_neg (by omega), Int.toNat_natCast, decDigits_dig3 h]
theorem dig3_facts : ∀ v : Fin 1000, Lib.atoiAll (dig3 v.val) = .ok (v.val : Int) ∧ digsL (dig3 v.val) 7 0 0 = some ((dig3 v.val).length, (v.val : Int)) ∧ (decide (0 < (dig3 v.val).length) && (!headIs (dig3 v.val) 0 48 || (dig3 v.val).length == 1)) = true := by decide +kernel

theorem okPart_dig3 {v : Nat} (h : v < 1000) : okPart (dig3 v) = true ∧ atoiN (dig3 v) = v := by
  have h1 := (dig3_facts ⟨v, h⟩).1
  have h2 : atoiN (dig3 v) = v := by unfold atoiN; rw [show Lib.atoiAll (dig3 v) = _ from h1]
  refine ⟨?_, h2⟩
  unfold okPart numOk
  rw [h2, show Lib.atoiAll (dig3 v) = _ from h1]
  simp only [itoa_dig3 h, beq_self_eq_true, Bool.and_true, Bool.and_eq_true, decide_eq_true_eq]
  omega
theorem okPart_iff {q : List UInt8} (h : okPart q = true) : ∃ v, v < 1000 ∧ q = dig3 v ∧ atoiN q = v := by
  unfold okPart at h
  rw [Bool.and_eq_true, decide_eq_true_iff] at h
  obtain ⟨h1, h2⟩ := h
  unfold numOk at h1
  unfold atoiN at h2 ⊢
  split at h1
  · rename_i v hv
    rw [hv] at h2 ⊢
    simp only at h2 ⊢
    rw [Bool.and_eq_true, decide_eq_true_iff, beq_iff_eq] at h1
    have e : (v.toNat : Int) = v := by omega
    refine ⟨v.toNat, by omega, ?_, by omega⟩
    rw [← itoa_dig3 (by omega), e, h1.2]
  · cases h1

theorem part_ok {q : List UInt8} (h : okPart q = true) (p : Nat) : numQ q p = (atoiN q, ((p + q.length : Nat) : Int), true) ∧ ¬ 999 < atoiN q := by
  obtain ⟨v, hv, rfl, ha⟩ := okPart_iff h
  obtain ⟨_, h2, h3⟩ := dig3_facts ⟨v, hv⟩
  have h2 : digsL (dig3 v) 7 0 0 = some ((dig3 v).length, (v : Int)) := h2
  refine ⟨?_, by omega⟩
  unfold numQ
  rw [h2, ha]
  simp only [show _ = true from h3]

theorem isDig_lt {d : UInt8} (h : isDig d = true) : 48 ≤ d.toNat ∧ d.toNat ≤ 57 := by
  unfold isDig at h
  rw [Bool.and_eq_true, decide_eq_true_iff, decide_eq_true_iff] at h
  omega
theorem ofNat_eq {d : UInt8} {k : Nat} (h : k = d.toNat) : UInt8.ofNat k = d := by subst h; simp

theorem part_back {q : List UInt8} {n : Int} (h : digsL q 7 0 0 = some (q.length, n)) (h0 : 0 < q.length) (hz : headIs q 0 48 = false ∨ q.length = 1) (hn : n ≤ 999) : okPart q = true := by
  have hd : ∀ d : UInt8, d.toNat < 256 := fun d => d.toNat_lt
  have key : ∃ v : Nat, v < 1000 ∧ q = dig3 v := by
    match q, h, h0, hz with
    | [a], h, _, _ =>
      simp only [digsL] at h
      split at h
      · rename_i ha
        have := isDig_lt ha
        refine ⟨a.toNat - 48, by omega, ?_⟩
        unfold dig3; rw [if_pos (by omega), ofNat_eq (d := a) (by omega)]
      · simp at h
    | a :: b :: r, h, _, hz =>
      have hz : headIs (a :: b :: r) 0 48 = false := by
        rcases hz with hz | hz
        · exact hz
        · simp at hz
      have ha0 : a.toNat ≠ 48 := by
        intro e
        have : a = 48 := by apply UInt8.toNat_inj.1; exact e
        subst this
        revert hz; simp [headIs]
      simp only [digsL] at h
      split at h
      case isFalse => simp at h
      rename_i ha
      split at h
      case isTrue => cases h
      split at h
      case isFalse => simp at h
      rename_i hb
      split at h
      case isTrue => cases h
      have := isDig_lt ha
      have := isDig_lt hb
      match r, h with
      | [], h =>
        refine ⟨10 * (a.toNat - 48) + (b.toNat - 48), by omega, ?_⟩
        unfold dig3
        rw [if_neg (by omega), if_pos (by omega), ofNat_eq (d := a) (by omega), ofNat_eq (d := b) (by omega)]
      | c :: r, h =>
        simp only [digsL] at h
        split at h
        case isFalse => simp at h
        rename_i hc
        split at h
        case isTrue => cases h
        have := isDig_lt hc
        match r, h with
        | [], h =>
          refine ⟨100 * (a.toNat - 48) + 10 * (b.toNat - 48) + (c.toNat - 48), by omega, ?_⟩
          unfold dig3
          rw [if_neg (by omega), if_neg (by omega), ofNat_eq (d := a) (by omega), ofNat_eq (d := b) (by omega), ofNat_eq (d := c) (by omega)]
        | d :: r, h =>
          exfalso
          have big : ∀ (q : List UInt8) (f c : Nat) (n : Int) {c' : Nat} {n' : Int}, 100 ≤ n → digsL q f c n = some (c', n') → n ≤ n' := by
            intro q
            induction q with
            | nil => intro f c n c' n' hn h; cases f <;> simp only [digsL, Option.some.injEq, Prod.mk.injEq] at h <;> omega
            | cons x q ih =>
              intro f c n c' n' hn h
              cases f with
              | zero => simp only [digsL, Option.some.injEq, Prod.mk.injEq] at h; omega
              | succ f =>
                unfold digsL at h
                split at h
                · rename_i hx
                  have := isDig_lt hx
                  split at h
                  · cases h
                  · have := ih _ _ _ (by omega) h; omega
                · simp only [Option.some.injEq, Prod.mk.injEq] at h; omega
          simp only [digsL] at h
          split at h
          case isFalse => simp at h
          rename_i hd
          have := isDig_lt hd
          split at h
          case isTrue => cases h
          have := big _ _ _ _ (by omega) h
          omega
  obtain ⟨v, hv, rfl⟩ := key
  exact (okPart_dig3 hv).1

/-! ### The law -/
theorem step_bad {s q rest : List UInt8} {m p : Nat} {a b c : Int} (hp : p ≤ s.length) (hl : s.drop p = q ++ rest) (hq : ∀ x ∈ q, x ≠ 46) (hr : rest = [] ∨ ∃ r', rest = 46 :: r') (ho : okPart q = false) : refGo s (m + 1) p a b c = none := by
  unfold refGo
  rw [refNum_part hl hr]
  unfold numQ
  cases hd : digsL q 7 0 0 with
  | none => rfl
  | some x =>
    obtain ⟨k, n⟩ := x
    simp only
    cases hb : (decide (0 < k) && (!headIs q 0 48 || k == 1)) with
    | false => rfl
    | true =>
      have hle := digsL_le q 7 0 0 hd
      have hlen : s.length - p = q.length + rest.length := by rw [← List.length_drop, hl, List.length_append]
      simp only
      by_cases hn : 999 < n
      · rw [if_pos hn]
      · rw [if_neg hn]
        rw [Bool.and_eq_true, decide_eq_true_iff, Bool.or_eq_true, beq_iff_eq] at hb
        have back : k = q.length → False := by
          intro e
          rw [e] at hd hb
          have := part_back hd hb.1 (hb.2.imp (by cases headIs q 0 48 <;> simp) id) (by omega)
          rw [this] at ho; cases ho
        have hj : ¬ ((p + k : Nat) : Int) = (s.length : Int) := by
          intro e
          have e : p + k = s.length := by omega
          exact back (by omega)
        rw [if_neg hj, Int.toNat_natCast]
        have hh : headIs s (p + k) 46 = false := by
          have hkq : k < q.length := by
            by_cases e : k = q.length
            · exact (back e).elim
            · omega
          have e1 : s[p + k]? = q[k]? := by rw [← List.getElem?_drop, hl, List.getElem?_append_left hkq]
          unfold headIs
          rw [e1, List.getElem?_eq_getElem hkq]
          have := hq q[k] (List.getElem_mem hkq)
          simp [this]
        rw [hh]; rfl
theorem step_end {s q : List UInt8} {m p : Nat} {a b c : Int} (hp : p ≤ s.length) (hl : s.drop p = q ++ []) (ho : okPart q = true) : refGo s (m + 1) p a b c = some (if m = 2 then atoiN q else a, if m = 1 then atoiN q else b, if m = 0 then atoiN q else c) := by
  obtain ⟨h1, h2⟩ := part_ok ho p
  have hlen : s.length - p = q.length := by rw [← List.length_drop, hl, List.append_nil]
  exact refGo_end (j := p + q.length) ((refNum_part hl (.inl rfl)).trans h1) h2 (by omega)
theorem step_dot {s q r' : List UInt8} {m p : Nat} {a b c : Int} (hp : p ≤ s.length) (hl : s.drop p = q ++ 46 :: r') (ho : okPart q = true) : refGo s (m + 1) p a b c = refGo s m (p + q.length + 1) (if m = 2 then atoiN q else a) (if m = 1 then atoiN q else b) (if m = 0 then atoiN q else c) ∧ p + q.length + 1 ≤ s.length ∧ s.drop (p + q.length + 1) = r' := by
  obtain ⟨h1, h2⟩ := part_ok ho p
  have hlen : s.length - p = q.length + (r'.length + 1) := by rw [← List.length_drop, hl, List.length_append]; rfl
  have hd : s[p + q.length]? = some 46 := by rw [← List.getElem?_drop, hl, List.getElem?_append_right (Nat.le_refl _), Nat.sub_self]; rfl
  refine ⟨(refGo_dot (j := p + q.length) ((refNum_part hl (.inr ⟨r', rfl⟩)).trans h1) h2 (by omega) hd).trans (by simp), by omega, ?_⟩
  rw [show p + q.length + 1 = p + (q.length + 1) by omega, ← List.drop_drop, hl, List.drop_append]
  simp

theorem refVer_law (s : List UInt8) : refVer s = verParts (splitL s [46]) := by
  rw [splitL_cut]
  unfold refVer
  obtain ⟨q1, qs1, r1, e1, l1, n1, t1⟩ := cutL_shape s
  have l1' : s.drop 0 = q1 ++ r1 := by simpa using l1
  have d1 : r1 = [] ∨ ∃ r', r1 = 46 :: r' := t1.imp (fun h => h.1) (fun ⟨r', h, _⟩ => ⟨r', h⟩)
  rw [e1]
  cases o1 : okPart q1 with
  | false =>
    rw [step_bad (Nat.zero_le _) l1' n1 d1 o1]
    match qs1 with
    | [] => simp [verParts, o1]
    | [x] => simp [verParts, o1]
    | [x, y] => simp [verParts, o1]
    | x :: y :: z :: r => simp [verParts]
  | true =>
  rcases t1 with ⟨rfl, rfl⟩ | ⟨r1', rfl, hq1, hne1⟩
  · rw [step_end (Nat.zero_le _) l1' o1]; simp [verParts, o1]
  obtain ⟨g1, p1, dr1⟩ := step_dot (m := 2) (a := 0) (b := 0) (c := 0) (Nat.zero_le _) l1' o1
  rw [g1]
  obtain ⟨q2, qs2, r2, e2, l2, n2, t2⟩ := cutL_shape r1'
  have d2 : r2 = [] ∨ ∃ r', r2 = 46 :: r' := t2.imp (fun h => h.1) (fun ⟨r', h, _⟩ => ⟨r', h⟩)
  rw [hq1, e2]
  rw [l2] at dr1
  cases o2 : okPart q2 with
  | false =>
    rw [step_bad p1 dr1 n2 d2 o2]
    match qs2 with
    | [] => simp [verParts, o2]
    | [x] => simp [verParts, o2]
    | x :: y :: r => simp [verParts]
  | true =>
  rcases t2 with ⟨rfl, rfl⟩ | ⟨r2', rfl, hq2, hne2⟩
  · rw [step_end p1 dr1 o2]; simp [verParts, o1, o2]
  obtain ⟨g2, p2, dr2⟩ := step_dot (m := 1) (a := atoiN q1) (b := 0) (c := 0) p1 dr1 o2
  simp only [if_true, show ¬ (2 : Nat) = 1 by omega, show ¬ (2 : Nat) = 0 by omega, if_false]
  rw [g2]
  obtain ⟨q3, qs3, r3, e3, l3, n3, t3⟩ := cutL_shape r2'
  have d3 : r3 = [] ∨ ∃ r', r3 = 46 :: r' := t3.imp (fun h => h.1) (fun ⟨r', h, _⟩ => ⟨r', h⟩)
  rw [hq2, e3]
  rw [l3] at dr2
  cases o3 : okPart q3 with
  | false =>
    rw [step_bad p2 dr2 n3 d3 o3]
    match qs3 with
    | [] => simp [verParts, o3]
    | x :: r => simp [verParts]
  | true =>
  rcases t3 with ⟨rfl, rfl⟩ | ⟨r3', rfl, hq3, hne3⟩
  · rw [step_end p2 dr2 o3]; simp [verParts, o1, o2, o3]
  obtain ⟨g3, p3, dr3⟩ := step_dot (m := 0) (a := atoiN q1) (b := atoiN q2) (c := 0) p2 dr2 o3
  simp only [if_true, show ¬ (1 : Nat) = 2 by omega, show ¬ (1 : Nat) = 0 by omega, if_false]
  rw [g3]
  cases qs3 with
  | nil => exact absurd rfl hne3
  | cons x r => simp [verParts, refGo]
end Dp
