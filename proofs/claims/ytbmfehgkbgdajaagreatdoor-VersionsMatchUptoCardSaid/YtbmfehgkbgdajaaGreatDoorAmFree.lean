/- The evaluator without fuel: it is monotone and continuous, so calls and loops have rules without counts. -/
import Derived.Test.YtbmfehgkbgdajaaGreatDoorAmCore
set_option linter.all false
namespace Am
open Go (FuncId)

abbrev CallT := Tgt → List Val → (Res → St → Prop) → St → Prop

/-- what one calls does, the other does -/
def LeC (c c' : CallT) : Prop := ∀ t a (K K' : Res → St → Prop) s, (∀ r s, K r s → K' r s) → c t a K s → c' t a K' s

/-- what a call does is what the calls of a chain do from some place on -/
def ApC (c : CallT) (C : Nat → CallT) : Prop :=
  ∀ t a (K : Res → St → Prop) (X : Nat → Res → St → Prop) s, (∀ n m, n ≤ m → ∀ r s, X n r s → X m r s) → (∀ r s, K r s → ∃ n, X n r s) → c t a K s → ∃ n0, ∀ n, n0 ≤ n → C n t a (X n) s

section le
variable {c c' : CallT} (hc : LeC c c')
include hc

omit hc in
theorem upon_le {X X' Y Y' : Val → St → Prop} (hX : ∀ v s, X v s → X' v s) (hY : ∀ v s, Y v s → Y' v s) : ∀ r s, upon X Y r s → upon X' Y' r s
  | .ret v, s, h => hY v s h
  | .pan v, s, h => hX v s h

theorem denOne_le {x : AOper} {E : Env} {X X' Y Y' : Val → St → Prop} {N N' : Prop} {s : St} (hX : ∀ v s, X v s → X' v s) (hY : ∀ v s, Y v s → Y' v s) (hN : N → N')
    (h : denOne c x E X Y N s) : denOne c' x E X' Y' N' s := by
  cases x with
  | op d g o k =>
    simp only [denOne] at h ⊢
    split at h
    · split at h
      · exact hY _ _ h
      · exact h.elim
    · exact hN h
    · exact h.elim
  | call d g f l k =>
    simp only [denOne] at h ⊢
    split at h
    · exact hc _ _ _ _ _ (upon_le hX hY) h
    · exact hN h
    · exact h.elim
  | callv d g f l k =>
    simp only [denOne] at h ⊢
    split at h
    · split at h
      · exact hc _ _ _ _ _ (upon_le hX hY) h
      · exact hc _ _ _ _ _ (upon_le hX hY) h
      · exact h.elim
    · exact hN h
    · exact h.elim
  | pan d g x =>
    simp only [denOne] at h ⊢
    split at h
    · split at h
      · exact hX _ _ h
      · exact h.elim
    · exact hN h
    · exact h.elim
  | dfr d g f l => exact h.elim
  | nextMap d g x => exact h.elim

omit hc in
theorem goOn_le {k : Chk} {E : Env} {K K' : Env → St → Prop} {s : St} (hK : ∀ E s, K E s → K' E s) (h : goOn k E s K) : goOn k E s K' := by
  unfold goOn at h ⊢
  split at h
  · exact hK _ _ h
  · split at h
    · rw [if_pos (by assumption)]; exact hK _ _ h
    · exact h.elim

omit hc in
theorem denNext_le {E : Env} {x : AOpd} {K K' : Val → St → Prop} {s : St} (hK : ∀ v s, K v s → K' v s) (h : denNext E x K s) : denNext E x K' s := by
  unfold denNext at h ⊢
  split at h
  case h_2 => exact h.elim
  split at h
  · exact hK _ _ h
  · split at h
    case h_2 => exact h.elim
    split at h
    · exact h.elim
    split at h
    case isFalse => exact h.elim
    rename_i h1 h2
    rw [if_neg h1, if_pos h2]
    intro i hi
    have := h i hi
    dsimp only at this
    split at this
    · exact hK _ _ this
    · exact hK _ _ this
    · exact this.elim
  · exact h.elim

theorem denOps_le : ∀ {l : List AOper} {E : Env} {X X' : Val → Env → St → Prop} {K K' : Env → St → Prop} {s : St}, (∀ v E s, X v E s → X' v E s) → (∀ E s, K E s → K' E s) →
    denOps c l E X K s → denOps c' l E X' K' s
  | [], E, X, X', K, K', s, _, hK, h => hK _ _ h
  | .op d g o k :: l, E, X, X', K, K', s, hX, hK, h =>
    denOne_le hc (fun v s => hX v E s) (fun v s => goOn_le fun E s => denOps_le hX hK) (denOps_le hX hK) h
  | .call d g f as k :: l, E, X, X', K, K', s, hX, hK, h =>
    denOne_le hc (fun v s => hX v E s) (fun v s => goOn_le fun E s => denOps_le hX hK) (denOps_le hX hK) h
  | .callv d g f as k :: l, E, X, X', K, K', s, hX, hK, h =>
    denOne_le hc (fun v s => hX v E s) (fun v s => goOn_le fun E s => denOps_le hX hK) (denOps_le hX hK) h
  | .pan d g x :: l, E, X, X', K, K', s, hX, hK, h =>
    denOne_le hc (fun v s => hX v E s) (fun v s => goOn_le fun E s => denOps_le hX hK) (denOps_le hX hK) h
  | .dfr d g f as :: l, E, X, X', K, K', s, hX, hK, h => by
    simp only [denOps] at h ⊢
    split at h
    · split at h
      · exact denOps_le hX hK h
      · exact h.elim
    · exact denOps_le hX hK h
    · exact h.elim
  | .nextMap d g x :: l, E, X, X', K, K', s, hX, hK, h => by
    simp only [denOps] at h ⊢
    split at h
    · exact denNext_le (fun v s => denOps_le hX hK) h
    · exact denOps_le hX hK h
    · exact h.elim

omit hc in
theorem loopN_le {B B' : Env → (Ex → Env → St → Prop) → St → Prop} (hB : ∀ E Q Q' s, (∀ e E s, Q e E s → Q' e E s) → B E Q s → B' E Q' s) :
    ∀ {i j : Nat} {E : Env} {Q Q' : Ex → Env → St → Prop} {s : St}, i ≤ j → (∀ e E s, Q e E s → Q' e E s) → loopN B i E Q s → loopN B' j E Q' s
  | 0, _, _, _, _, _, _, _, h => h.elim
  | i + 1, 0, _, _, _, _, hij, _, _ => by omega
  | i + 1, j + 1, E, Q, Q', s, hij, hQ, h => by
    simp only [loopN] at h ⊢
    refine hB _ _ _ _ ?_ h
    intro e E s h
    cases e with
    | normal => exact loopN_le hB (by omega) hQ h
    | exit i => exact hQ _ _ _ h
    | ret => exact hQ _ _ _ h
    | panic v => exact hQ _ _ _ h

omit hc in
theorem afterLoop_le {Q Q' : Ex → Env → St → Prop} {E : Env} {l : Nat} {s : St} (hQ : ∀ e E s, Q e E s → Q' e E s) (h : afterLoop Q E l s) : afterLoop Q' E l s := by
  unfold afterLoop at h ⊢
  split at h
  · split at h
    · exact h.elim
    · rename_i h1
      rw [if_neg h1]
      split at h <;> exact hQ _ _ _ h
  · exact h.elim
end le

/-- the evaluator of code over any calls: loops of so many rounds -/
def denG (lp : Nat → Prop) (call : CallT) : ACode → Env → (Ex → Env → St → Prop) → St → Prop
  | .skip, E, Q, s => Q .normal E s
  | .ops mask l, E, Q, s => denOps call l E (fun v E s => Q (.panic v) (dropL E mask) s) (fun E s => Q .normal E s) s
  | .seq a b, E, Q, s => denG lp call a E (fun e E' s' => match e with
    | .normal => denG lp call b E' Q s'
    | e => Q e E' s') s
  | .cond c a b, E, Q, s => match c.ev E with
    | .bool true => denG lp call a E Q s
    | .bool false => denG lp call b E Q s
    | _ => False
  | .block id a, E, Q, s => denG lp call a E (fun e E' s' => match e with
    | .exit i => if i = id then Q .normal E' s' else Q (.exit i) E' s'
    | e => Q e E' s') s
  | .loop a, E, Q, s => ∃ i, lp i ∧ loopN (fun E Q s => denG lp call a E Q s) i E Q s
  | .exit id, E, Q, s => Q (.exit id) E s
  | .ret, E, Q, s => Q .ret E s
  | .rangeFunc g ps as body, E, Q, s => match g.ev E with
    | .fn f first captured =>
      call (.fn f) (first ++ [.yld (s.next + 1)] ++ captured) (fun r s' => match r with
        | .ret _ => afterLoop Q { E with ds := .coll s.next :: E.ds } (s.next + 1) s'
        | .pan v => Q (.panic v) { E with ds := .coll s.next :: E.ds } s')
        ((s.alloc (.dfr false)).alloc (.loop .ready none E.m ps as body s.next))
    | _ => False
  | .drop l, E, Q, s => Q .normal (dropL E l) s
  | .fail, _, _, _ => False

theorem den_eq (call : CallT) (n : Nat) : ∀ c : ACode, den (ρ := Prop) call n c = denG (· = n) call c
  | .skip => rfl
  | .ops _ _ => rfl
  | .seq a b => by funext E Q s; simp only [den, denG, den_eq call n a, den_eq call n b]; rfl
  | .cond c a b => by funext E Q s; simp only [den, denG, den_eq call n a, den_eq call n b]; rfl
  | .block id a => by funext E Q s; simp only [den, denG, den_eq call n a]; rfl
  | .loop a => by funext E Q s; simp only [den, denG, den_eq call n a]; simp
  | .exit _ => rfl
  | .ret => rfl
  | .rangeFunc _ _ _ _ => rfl
  | .drop _ => rfl
  | .fail => rfl

theorem denG_le {c c' : CallT} (hc : LeC c c') {lp lp' : Nat → Prop} (hl : ∀ i, lp i → ∃ j, i ≤ j ∧ lp' j) : ∀ {a : ACode} {E : Env} {Q Q' : Ex → Env → St → Prop} {s : St}, (∀ e E s, Q e E s → Q' e E s) →
    denG lp c a E Q s → denG lp' c' a E Q' s
  | .skip, _, _, _, _, hQ, h => hQ _ _ _ h
  | .ops m l, _, _, _, _, hQ, h => denOps_le hc (fun _ _ _ => hQ _ _ _) (fun _ _ => hQ _ _ _) h
  | .seq a b, E, Q, Q', s, hQ, h => by
    simp only [denG] at h ⊢
    refine denG_le hc hl ?_ h
    intro e E s h
    cases e with
    | normal => exact denG_le hc hl hQ h
    | exit i => exact hQ _ _ _ h
    | ret => exact hQ _ _ _ h
    | panic v => exact hQ _ _ _ h
  | .cond x a b, E, Q, Q', s, hQ, h => by
    simp only [denG] at h ⊢
    split at h
    · exact denG_le hc hl hQ h
    · exact denG_le hc hl hQ h
    · exact h.elim
  | .block id a, E, Q, Q', s, hQ, h => by
    simp only [denG] at h ⊢
    refine denG_le hc hl ?_ h
    intro e E s h
    cases e with
    | normal => exact hQ _ _ _ h
    | exit i =>
      have h : (if i = id then Q .normal E s else Q (.exit i) E s) := h
      show (if i = id then Q' .normal E s else Q' (.exit i) E s)
      split at h
      · rw [if_pos (by assumption)]; exact hQ _ _ _ h
      · rw [if_neg (by assumption)]; exact hQ _ _ _ h
    | ret => exact hQ _ _ _ h
    | panic v => exact hQ _ _ _ h
  | .loop a, E, Q, Q', s, hQ, h => by
    simp only [denG] at h ⊢
    obtain ⟨i, h1, h2⟩ := h
    obtain ⟨j, h3, h4⟩ := hl i h1
    exact ⟨j, h4, loopN_le (B := fun E Q s => denG lp c a E Q s) (B' := fun E Q s => denG lp' c' a E Q s) (fun E Q Q' s hQ h => denG_le (a := a) hc hl hQ h) h3 hQ h2⟩
  | .exit id, _, _, _, _, hQ, h => hQ _ _ _ h
  | .ret, _, _, _, _, hQ, h => hQ _ _ _ h
  | .rangeFunc g ps as body, E, Q, Q', s, hQ, h => by
    simp only [denG] at h ⊢
    split at h
    · refine hc _ _ _ _ _ ?_ h
      intro r s h
      cases r with
      | ret v => exact afterLoop_le hQ h
      | pan v => exact hQ _ _ _ h
    · exact h.elim
  | .drop l, _, _, _, _, hQ, h => hQ _ _ _ h
  | .fail, _, _, _, _, _, h => h.elim

theorem leave_le {c c' : CallT} (hc : LeC c c') {res : List ARes} {E : Env} {K K' : Res → St → Prop} (hK : ∀ r s, K r s → K' r s) : ∀ {ds : List ADef} {p : Option Val} {s : St}, leave c res E K ds p s → leave c' res E K' ds p s
  | [], some v, s, h => hK _ _ h
  | [], none, s, h => by
    simp only [leave] at h ⊢
    split at h
    · exact hK _ _ h
    · exact h.elim
  | .coll d :: r, p, s, h => by
    simp only [leave] at h ⊢
    split at h
    · split at h
      · rw [if_pos (by assumption)]; exact leave_le hc hK h
      · exact h.elim
    · exact h.elim
  | .fn f args :: r, p, s, h => by
    simp only [leave] at h ⊢
    refine hc _ _ _ _ _ ?_ h
    intro e s h
    split at h
    · exact leave_le hc hK h
    · exact h.elim

theorem endRound_le {K K' : Res → St → Prop} (hK : ∀ r s, K r s → K' r s) {l : Nat} {e : Ex} {s : St} (h : endRound K l e s) : endRound K' l e s := by
  unfold endRound at h ⊢
  split at h
  · exact h.elim
  · split at h
    · split at h
      · rw [if_pos (by assumption)]; split at h <;> exact hK _ _ h
      · exact h.elim
    · exact h.elim

theorem beginRound_le {K K' : St → Prop} (hK : ∀ s, K s → K' s) {l : Nat} {s : St} (h : beginRound K l s) : beginRound K' l s := by
  unfold beginRound at h ⊢
  split at h
  · split at h
    · rw [if_pos (by assumption)]; exact hK _ h
    · exact h.elim
  · exact h.elim

theorem callN_le (fns : FuncId → Option AFunc) : ∀ {n m : Nat}, n ≤ m → LeC (callN (ρ := Prop) fns n) (callN fns m)
  | 0, _, _ => fun _ _ _ _ _ _ h => h.elim
  | n + 1, 0, h => by omega
  | n + 1, m + 1, hnm => by
    have ih : LeC (callN (ρ := Prop) fns n) (callN fns m) := callN_le fns (by omega)
    have hlp : ∀ i, i = n → ∃ j, i ≤ j ∧ j = m := fun i hi => ⟨m, by omega, rfl⟩
    intro t a K K' s hK h
    cases t with
    | fn f =>
      simp only [callN, den_eq] at h ⊢
      split at h
      case h_2 => exact h.elim
      split at h
      · split at h
        · exact hK _ _ h
        · exact h.elim
      split at h
      case isFalse => exact h.elim
      rw [if_pos (by assumption)]
      refine denG_le ih hlp ?_ h
      intro e E s h
      cases e with
      | normal => exact leave_le ih hK h
      | exit i => exact h.elim
      | ret => exact leave_le ih hK h
      | panic v =>
        cases v with
        | iface t x => exact leave_le ih hK h
        | _ => exact h.elim
    | dfn f p =>
      simp only [callN, den_eq] at h ⊢
      split at h
      case h_2 => exact h.elim
      split at h
      case isFalse => exact h.elim
      rw [if_pos (by assumption)]
      refine denG_le ih hlp ?_ h
      intro e E s h
      have fin : ∀ {fn : AFunc}, (match E.ds, resVals E s fn.res with
            | [], some _ => K (.ret (.bool fn.rcv.isSome)) s
            | _, _ => Ans.fail) → (match E.ds, resVals E s fn.res with
            | [], some _ => K' (.ret (.bool fn.rcv.isSome)) s
            | _, _ => Ans.fail) := by
        intro fn h
        split at h
        · exact hK _ _ h
        · exact h.elim
      cases e with
      | normal => exact fin h
      | exit i => exact h.elim
      | ret => exact fin h
      | panic v => exact h.elim
    | yld l =>
      simp only [callN, den_eq] at h ⊢
      split at h
      case h_2 => exact h.elim
      split at h
      case isFalse => exact h.elim
      rw [if_pos (by assumption)]
      refine denG_le ih hlp ?_ h
      intro e E s h
      cases e with
      | normal => exact beginRound_le (fun s h => denG_le ih hlp (fun e _ s h => endRound_le hK h) h) h
      | exit i => exact h.elim
      | ret => exact h.elim
      | panic v => exact h.elim

/-! ### Continuity -/

section ap
variable {c : CallT} {C : Nat → CallT} (ha : ApC c C) (hm : ∀ n, LeC (C n) (C n))
include ha hm

theorem denOne_ap {x : AOper} {E : Env} {X Y : Val → St → Prop} {N : Prop} {XX YY : Nat → Val → St → Prop} {NN : Nat → Prop} {s : St}
    (uX : ∀ n m, n ≤ m → ∀ v s, XX n v s → XX m v s) (uY : ∀ n m, n ≤ m → ∀ v s, YY n v s → YY m v s) (uN : ∀ n m, n ≤ m → NN n → NN m)
    (hX : ∀ v s, X v s → ∃ n, XX n v s) (hY : ∀ v s, Y v s → ∃ n, YY n v s) (hN : N → ∃ n, NN n)
    (h : denOne c x E X Y N s) : ∃ n0, ∀ n, n0 ≤ n → denOne (C n) x E (XX n) (YY n) (NN n) s := by
  have two : ∀ r s, upon X Y r s → ∃ n, upon (XX n) (YY n) r s := by
    intro r s h
    cases r with
    | ret v => exact hY v s h
    | pan v => exact hX v s h
  have utwo : ∀ n m, n ≤ m → ∀ r s, upon (XX n) (YY n) r s → upon (XX m) (YY m) r s := by
    intro n m hnm r s h
    cases r with
    | ret v => exact uY n m hnm v s h
    | pan v => exact uX n m hnm v s h
  cases x with
  | op d g o k =>
    simp only [denOne] at h ⊢
    split at h
    · split at h
      · obtain ⟨n0, h⟩ := hY _ _ h
        exact ⟨n0, fun n hn => uY _ _ hn _ _ h⟩
      · exact h.elim
    · obtain ⟨n0, h⟩ := hN h
      exact ⟨n0, fun n hn => uN _ _ hn h⟩
    · exact h.elim
  | call d g f l k =>
    simp only [denOne] at h ⊢
    split at h
    · exact ha _ _ _ (fun n => upon (XX n) (YY n)) _ utwo two h
    · obtain ⟨n0, h⟩ := hN h
      exact ⟨n0, fun n hn => uN _ _ hn h⟩
    · exact h.elim
  | callv d g f l k =>
    simp only [denOne] at h ⊢
    split at h
    · split at h
      · exact ha _ _ _ (fun n => upon (XX n) (YY n)) _ utwo two h
      · exact ha _ _ _ (fun n => upon (XX n) (YY n)) _ utwo two h
      · exact h.elim
    · obtain ⟨n0, h⟩ := hN h
      exact ⟨n0, fun n hn => uN _ _ hn h⟩
    · exact h.elim
  | pan d g x =>
    simp only [denOne] at h ⊢
    split at h
    · split at h
      · obtain ⟨n0, h⟩ := hX _ _ h
        exact ⟨n0, fun n hn => uX _ _ hn _ _ h⟩
      · exact h.elim
    · obtain ⟨n0, h⟩ := hN h
      exact ⟨n0, fun n hn => uN _ _ hn h⟩
    · exact h.elim
  | dfr d g f l => exact h.elim
  | nextMap d g x => exact h.elim

omit ha hm in
/-- so many are bounded -/
theorem forall_ap {m : Nat} {T : Nat → Nat → Prop} (h : ∀ i, i < m → ∃ n0, ∀ n, n0 ≤ n → T n i) : ∃ n0, ∀ n, n0 ≤ n → ∀ i, i < m → T n i := by
  induction m with
  | zero => exact ⟨0, fun _ _ i hi => by omega⟩
  | succ m ih =>
    obtain ⟨n1, h1⟩ := ih fun i hi => h i (by omega)
    obtain ⟨n2, h2⟩ := h m (by omega)
    refine ⟨max n1 n2, fun n hn i hi => ?_⟩
    by_cases him : i = m
    · subst him; exact h2 n (by omega)
    · exact h1 n (by omega) i (by omega)

omit ha hm in
theorem denNext_ap {E : Env} {x : AOpd} {K : Val → St → Prop} {KK : Nat → Val → St → Prop} {s : St} (uK : ∀ n m, n ≤ m → ∀ v s, KK n v s → KK m v s) (hK : ∀ v s, K v s → ∃ n, KK n v s)
    (h : denNext E x K s) : ∃ n0, ∀ n, n0 ≤ n → denNext E x (KK n) s := by
  have fin : ∀ {v s}, K v s → ∃ n0, ∀ n, n0 ≤ n → KK n v s := fun h => let ⟨n0, h⟩ := hK _ _ h; ⟨n0, fun n hn => uK _ _ hn _ _ h⟩
  unfold denNext at h ⊢
  split at h
  case h_2 => exact h.elim
  split at h
  · exact fin h
  · split at h
    case h_2 => exact h.elim
    split at h
    · exact h.elim
    split at h
    case isFalse => exact h.elim
    rename_i h1 h2
    simp only [h1, h2, if_true, if_false, Bool.false_eq_true]
    refine forall_ap fun i hi => ?_
    have := h i hi
    dsimp only at this
    split at this
    · exact fin this
    · exact fin this
    · exact this.elim
  · exact h.elim

omit ha hm in
theorem goOn_ap {k : Chk} {E : Env} {K : Env → St → Prop} {KK : Nat → Env → St → Prop} {s : St} (hK : ∀ E s, K E s → ∃ n, KK n E s) (h : goOn k E s K) : ∃ n, goOn k E s (KK n) := by
  unfold goOn at h ⊢
  split at h
  · exact hK _ _ h
  · split at h
    · rename_i hc; simp only [hc, if_true]; exact hK _ _ h
    · exact h.elim

theorem denOps_ap : ∀ {l : List AOper} {E : Env} {X : Val → Env → St → Prop} {K : Env → St → Prop} {XX : Nat → Val → Env → St → Prop} {KK : Nat → Env → St → Prop} {s : St},
    (∀ n m, n ≤ m → ∀ v E s, XX n v E s → XX m v E s) → (∀ n m, n ≤ m → ∀ E s, KK n E s → KK m E s) → (∀ v E s, X v E s → ∃ n, XX n v E s) → (∀ E s, K E s → ∃ n, KK n E s) →
    denOps c l E X K s → ∃ n0, ∀ n, n0 ≤ n → denOps (C n) l E (XX n) (KK n) s
  | [], E, X, K, XX, KK, s, uX, uK, hX, hK, h => by
    obtain ⟨n0, h⟩ := hK _ _ h
    exact ⟨n0, fun n hn => uK _ _ hn _ _ h⟩
  | x :: l, E, X, K, XX, KK, s, uX, uK, hX, hK, h => by
    have ih : ∀ {E s}, denOps c l E X K s → ∃ n0, ∀ n, n0 ≤ n → denOps (C n) l E (XX n) (KK n) s := fun h => denOps_ap uX uK hX hK h
    have gen : ∀ (x : AOper), denOne c x E (fun v s => X v E s) (fun v s' => goOn x.chk (setO E x.dst v) s' fun E s => denOps c l E X K s) (denOps c l (setO E x.dst (.tup [])) X K s) s →
        ∃ n0, ∀ n, n0 ≤ n → denOne (C n) x E (fun v s => XX n v E s) (fun v s' => goOn x.chk (setO E x.dst v) s' fun E s => denOps (C n) l E (XX n) (KK n) s) (denOps (C n) l (setO E x.dst (.tup [])) (XX n) (KK n) s) s := by
      intro x h
      obtain ⟨n0, h⟩ := denOne_ap ha hm (XX := fun n v s => XX n v E s) (YY := fun n v s' => goOn x.chk (setO E x.dst v) s' fun E s => ∀ m, n ≤ m → denOps (C m) l E (XX m) (KK m) s)
        (NN := fun n => ∀ m, n ≤ m → denOps (C m) l (setO E x.dst (.tup [])) (XX m) (KK m) s) (fun n m hnm v s => uX n m hnm v E s)
        (fun n m hnm v s h => goOn_le (fun E s h k hk => h k (by omega)) h) (fun n m hnm h k hk => h k (by omega)) (fun v s => hX v E s)
        (fun v s h => goOn_ap (KK := fun n E s => ∀ m, n ≤ m → denOps (C m) l E (XX m) (KK m) s) (fun E s h => ih h) h) (fun h => ih h) h
      exact ⟨n0, fun n hn => denOne_le (hm n) (fun _ _ h => h) (fun v s h => goOn_le (fun E s h => h n (Nat.le_refl _)) h) (fun h => h n (Nat.le_refl _)) (h n hn)⟩
    cases x with
    | op d g o k => exact gen (.op d g o k) h
    | call d g f as k => exact gen (.call d g f as k) h
    | callv d g f as k => exact gen (.callv d g f as k) h
    | pan d g x => exact gen (.pan d g x) h
    | dfr d g f as =>
      simp only [denOps] at h ⊢
      split at h
      · split at h
        · exact ih h
        · exact h.elim
      · exact ih h
      · exact h.elim
    | nextMap d g x =>
      simp only [denOps] at h ⊢
      split at h
      · obtain ⟨n0, h⟩ := denNext_ap (KK := fun n v s => ∀ m, n ≤ m → denOps (C m) l (setO E d v) (XX m) (KK m) s) (fun n m hnm v s h k hk => h k (by omega)) (fun v s h => ih h) h
        exact ⟨n0, fun n hn => denNext_le (fun v s h => h n (Nat.le_refl _)) (h n hn)⟩
      · exact ih h
      · exact h.elim

omit ha hm in
theorem afterLoop_ap {Q : Ex → Env → St → Prop} {QQ : Nat → Ex → Env → St → Prop} {E : Env} {l : Nat} {s : St} (hQ : ∀ e E s, Q e E s → ∃ n, QQ n e E s) (h : afterLoop Q E l s) : ∃ n, afterLoop (QQ n) E l s := by
  unfold afterLoop at h ⊢
  split at h
  · split at h
    · exact h.elim
    · rename_i hc
      simp only [hc, if_false]
      split at h <;> exact hQ _ _ _ h
  · exact h.elim

theorem denG_ap {lp : Nat → Prop} {LP : Nat → Nat → Prop} (hl : ∀ i, lp i → ∃ n0, ∀ n, n0 ≤ n → ∃ j, i ≤ j ∧ LP n j) : ∀ {a : ACode} {E : Env} {Q : Ex → Env → St → Prop} {QQ : Nat → Ex → Env → St → Prop} {s : St},
    (∀ n m, n ≤ m → ∀ e E s, QQ n e E s → QQ m e E s) → (∀ e E s, Q e E s → ∃ n, QQ n e E s) → denG lp c a E Q s → ∃ n0, ∀ n, n0 ≤ n → denG (LP n) (C n) a E (QQ n) s
  | .skip, E, Q, QQ, s, uQ, hQ, h => by
    obtain ⟨n0, h⟩ := hQ _ _ _ h
    exact ⟨n0, fun n hn => uQ _ _ hn _ _ _ h⟩
  | .ops m l, E, Q, QQ, s, uQ, hQ, h =>
    denOps_ap ha hm (XX := fun n v E s => QQ n (.panic v) (dropL E m) s) (KK := fun n E s => QQ n .normal E s) (fun n m hnm v E s => uQ n m hnm _ _ _) (fun n m hnm E s => uQ n m hnm _ _ _) (fun v E s => hQ _ _ _) (fun E s => hQ _ _ _) h
  | .seq a b, E, Q, QQ, s, uQ, hQ, h => by
    simp only [denG] at h ⊢
    obtain ⟨n0, h⟩ := denG_ap hl (a := a) (QQ := fun n e E' s' => match e with
      | .normal => ∀ m, n ≤ m → denG (LP m) (C m) b E' (QQ m) s'
      | e => QQ n e E' s') (fun n m hnm e E s h => by
        cases e with
        | normal => exact fun k hk => h k (by omega)
        | exit i => exact uQ n m hnm _ _ _ h
        | ret => exact uQ n m hnm _ _ _ h
        | panic v => exact uQ n m hnm _ _ _ h) (fun e E s h => by
        cases e with
        | normal => exact denG_ap hl uQ hQ h
        | exit i => exact hQ _ _ _ h
        | ret => exact hQ _ _ _ h
        | panic v => exact hQ _ _ _ h) h
    refine ⟨n0, fun n hn => denG_le (hm n) (fun i hi => ⟨i, Nat.le_refl _, hi⟩) ?_ (h n hn)⟩
    intro e E s h
    cases e with
    | normal => exact h n (Nat.le_refl _)
    | exit i => exact h
    | ret => exact h
    | panic v => exact h
  | .cond x a b, E, Q, QQ, s, uQ, hQ, h => by
    simp only [denG] at h ⊢
    split at h
    · exact denG_ap hl uQ hQ h
    · exact denG_ap hl uQ hQ h
    · exact h.elim
  | .block id a, E, Q, QQ, s, uQ, hQ, h => by
    simp only [denG] at h ⊢
    refine denG_ap hl (a := a) (QQ := fun n e E' s' => match e with
      | .exit i => if i = id then QQ n .normal E' s' else QQ n (.exit i) E' s'
      | e => QQ n e E' s') (fun n m hnm e E s h => ?_) (fun e E s h => ?_) h
    · cases e with
      | normal => exact uQ n m hnm _ _ _ h
      | exit i =>
        have h : (if i = id then QQ n .normal E s else QQ n (.exit i) E s) := h
        show (if i = id then QQ m .normal E s else QQ m (.exit i) E s)
        split at h
        · rw [if_pos (by assumption)]; exact uQ n m hnm _ _ _ h
        · rw [if_neg (by assumption)]; exact uQ n m hnm _ _ _ h
      | ret => exact uQ n m hnm _ _ _ h
      | panic v => exact uQ n m hnm _ _ _ h
    · cases e with
      | normal => exact hQ _ _ _ h
      | exit i =>
        have h : (if i = id then Q .normal E s else Q (.exit i) E s) := h
        show ∃ n, (if i = id then QQ n .normal E s else QQ n (.exit i) E s)
        split at h
        · simp only [if_pos (show i = id by assumption)]; exact hQ _ _ _ h
        · simp only [if_neg (show ¬ i = id by assumption)]; exact hQ _ _ _ h
      | ret => exact hQ _ _ _ h
      | panic v => exact hQ _ _ _ h
  | .loop a, E, Q, QQ, s, uQ, hQ, h => by
    simp only [denG] at h ⊢
    obtain ⟨i, h1, h2⟩ := h
    have key : ∀ (i : Nat) (E : Env) (s : St), loopN (fun E Q s => denG lp c a E Q s) i E Q s → ∃ n0, ∀ n, n0 ≤ n → loopN (fun E Q s => denG (LP n) (C n) a E Q s) i E (QQ n) s := by
      intro i
      induction i with
      | zero => intro E s h; exact h.elim
      | succ i ih =>
        intro E s h
        simp only [loopN] at h ⊢
        obtain ⟨n0, h⟩ := denG_ap hl (a := a) (QQ := fun n e E' s' => match e with
          | .normal => ∀ m, n ≤ m → loopN (fun E Q s => denG (LP m) (C m) a E Q s) i E' (QQ m) s'
          | e => QQ n e E' s') (fun n m hnm e E s h => by
            cases e with
            | normal => exact fun k hk => h k (by omega)
            | exit i => exact uQ n m hnm _ _ _ h
            | ret => exact uQ n m hnm _ _ _ h
            | panic v => exact uQ n m hnm _ _ _ h) (fun e E s h => by
            cases e with
            | normal => exact ih E s h
            | exit i => exact hQ _ _ _ h
            | ret => exact hQ _ _ _ h
            | panic v => exact hQ _ _ _ h) h
        refine ⟨n0, fun n hn => denG_le (hm n) (fun i hi => ⟨i, Nat.le_refl _, hi⟩) ?_ (h n hn)⟩
        intro e E s h
        cases e with
        | normal => exact h n (Nat.le_refl _)
        | exit i => exact h
        | ret => exact h
        | panic v => exact h
    obtain ⟨n1, h3⟩ := hl i h1
    obtain ⟨n2, h4⟩ := key i E s h2
    refine ⟨max n1 n2, fun n hn => ?_⟩
    obtain ⟨j, h5, h6⟩ := h3 n (by omega)
    exact ⟨j, h6, loopN_le (B := fun E Q s => denG (LP n) (C n) a E Q s) (B' := fun E Q s => denG (LP n) (C n) a E Q s) (fun E Q Q' s hQ => denG_le (hm n) (fun i hi => ⟨i, Nat.le_refl _, hi⟩) hQ) h5 (fun _ _ _ h => h) (h4 n (by omega))⟩
  | .exit id, E, Q, QQ, s, uQ, hQ, h => by
    obtain ⟨n0, h⟩ := hQ _ _ _ h
    exact ⟨n0, fun n hn => uQ _ _ hn _ _ _ h⟩
  | .ret, E, Q, QQ, s, uQ, hQ, h => by
    obtain ⟨n0, h⟩ := hQ _ _ _ h
    exact ⟨n0, fun n hn => uQ _ _ hn _ _ _ h⟩
  | .rangeFunc g ps as body, E, Q, QQ, s, uQ, hQ, h => by
    simp only [denG] at h ⊢
    split at h
    · refine ha _ _ _ (fun n r s' => match r with
        | .ret _ => afterLoop (QQ n) { E with ds := .coll s.next :: E.ds } (s.next + 1) s'
        | .pan v => QQ n (.panic v) { E with ds := .coll s.next :: E.ds } s') _ (fun n m hnm r s h => ?_) (fun r s h => ?_) h
      · cases r with
        | ret v => exact afterLoop_le (uQ n m hnm) h
        | pan v => exact uQ n m hnm _ _ _ h
      · cases r with
        | ret v => exact afterLoop_ap hQ h
        | pan v => exact hQ _ _ _ h
    · exact h.elim
  | .drop l, E, Q, QQ, s, uQ, hQ, h => by
    obtain ⟨n0, h⟩ := hQ _ _ _ h
    exact ⟨n0, fun n hn => uQ _ _ hn _ _ _ h⟩
  | .fail, _, _, _, _, _, _, h => h.elim

theorem leave_ap {res : List ARes} {E : Env} {K : Res → St → Prop} {KK : Nat → Res → St → Prop} (uK : ∀ n m, n ≤ m → ∀ r s, KK n r s → KK m r s) (hK : ∀ r s, K r s → ∃ n, KK n r s) :
    ∀ {ds : List ADef} {p : Option Val} {s : St}, leave c res E K ds p s → ∃ n0, ∀ n, n0 ≤ n → leave (C n) res E (KK n) ds p s
  | [], some v, s, h => by
    obtain ⟨n0, h⟩ := hK _ _ h
    exact ⟨n0, fun n hn => uK _ _ hn _ _ h⟩
  | [], none, s, h => by
    simp only [leave] at h ⊢
    split at h
    · obtain ⟨n0, h⟩ := hK _ _ h
      exact ⟨n0, fun n hn => uK _ _ hn _ _ h⟩
    · exact h.elim
  | .coll d :: r, p, s, h => by
    simp only [leave] at h ⊢
    split at h
    · split at h
      · rename_i hfl
        simp only [hfl, if_true]
        exact leave_ap uK hK h
      · exact h.elim
    · exact h.elim
  | .fn f args :: r, p, s, h => by
    simp only [leave] at h ⊢
    obtain ⟨n0, h⟩ := ha _ _ _ (fun n e s' => match e with
      | .ret (.bool rec) => ∀ m, n ≤ m → leave (C m) res E (KK m) r (if rec then none else p) s'
      | _ => Ans.fail) _ (fun n m hnm e s h => by
        revert h
        split
        · exact fun h k hk => h k (by omega)
        · exact id) (fun e s h => by
        revert h
        split
        · exact fun h => leave_ap uK hK h
        · exact fun h => h.elim) h
    refine ⟨n0, fun n hn => hm n _ _ _ _ _ ?_ (h n hn)⟩
    intro e s h
    split at h
    · exact h n (Nat.le_refl _)
    · exact h.elim
end ap

theorem endRound_ap {K : Res → St → Prop} {KK : Nat → Res → St → Prop} (hK : ∀ r s, K r s → ∃ n, KK n r s) {l : Nat} {e : Ex} {s : St} (h : endRound K l e s) : ∃ n, endRound (KK n) l e s := by
  unfold endRound at h ⊢
  split at h
  · exact h.elim
  · split at h
    · split at h
      · rename_i hfl
        simp only [hfl, if_true]
        split at h <;> exact hK _ _ h
      · exact h.elim
    · exact h.elim

theorem beginRound_ap {K : St → Prop} {KK : Nat → St → Prop} (hK : ∀ s, K s → ∃ n, KK n s) {l : Nat} {s : St} (h : beginRound K l s) : ∃ n, beginRound (KK n) l s := by
  unfold beginRound at h ⊢
  split at h
  · split at h
    · rename_i hfl
      simp only [hfl, if_true]
      exact hK _ h
    · exact h.elim
  · exact h.elim

/-- so much fuel is continuous -/
theorem callN_ap (fns : FuncId → Option AFunc) : ∀ k, ApC (callN (ρ := Prop) fns k) (fun _ => callN fns k)
  | 0 => fun _ _ _ _ _ _ _ h => h.elim
  | k + 1 => by
    have ih := callN_ap fns k
    have hm : ∀ n : Nat, LeC ((fun _ => callN (ρ := Prop) fns k) n) ((fun _ => callN fns k) n) := fun _ => callN_le fns (Nat.le_refl _)
    have hl : ∀ i, i = k → ∃ n0, ∀ n : Nat, n0 ≤ n → ∃ j, i ≤ j ∧ (fun _ : Nat => (· = k)) n j := fun i hi => ⟨0, fun _ _ => ⟨k, by omega, rfl⟩⟩
    intro t a K KK s uK hK h
    cases t with
    | fn f =>
      simp only [callN, den_eq] at h ⊢
      split at h
      case h_2 => exact h.elim
      rename_i fn _
      split at h
      · split at h
        · obtain ⟨n0, h⟩ := hK _ _ h
          exact ⟨n0, fun n hn => uK _ _ hn _ _ h⟩
        · exact h.elim
      split at h
      case isFalse => exact h.elim
      rename_i hc
      simp only [hc, and_self, if_true]
      obtain ⟨n0, h⟩ := denG_ap ih hm hl (QQ := fun n e E s' => match e with
          | .exit _ => False
          | .panic (.iface t v) => ∀ m, n ≤ m → leave (callN fns k) fn.res E (KK m) E.ds (some (.iface t v)) s'
          | .panic _ => False
          | _ => ∀ m, n ≤ m → leave (callN fns k) fn.res E (KK m) E.ds none s') (fun n m hnm e E s h => by
        cases e with
        | normal => exact fun j hj => h j (by omega)
        | exit i => exact h.elim
        | ret => exact fun j hj => h j (by omega)
        | panic v =>
          cases v with
          | iface t x => exact fun j hj => h j (by omega)
          | _ => exact h.elim) (fun e E s h => by
        cases e with
        | normal => exact leave_ap ih hm uK hK h
        | exit i => exact h.elim
        | ret => exact leave_ap ih hm uK hK h
        | panic v =>
          cases v with
          | iface t x => exact leave_ap ih hm uK hK h
          | _ => exact h.elim) h
      refine ⟨n0, fun n hn => denG_le (hm 0) (fun i hi => ⟨i, Nat.le_refl _, hi⟩) ?_ (h n hn)⟩
      intro e E s h
      cases e with
      | normal => exact h n (Nat.le_refl _)
      | exit i => exact h.elim
      | ret => exact h n (Nat.le_refl _)
      | panic v =>
        cases v with
        | iface t x => exact h n (Nat.le_refl _)
        | _ => exact h.elim
    | dfn f p =>
      simp only [callN, den_eq] at h ⊢
      split at h
      case h_2 => exact h.elim
      split at h
      case isFalse => exact h.elim
      rename_i fn _ hc
      simp only [hc, if_true]
      refine denG_ap ih hm hl (QQ := fun n e E s' => match e with
          | .exit _ | .panic _ => Ans.fail
          | _ => match E.ds, resVals E s' fn.res with
            | [], some _ => KK n (.ret (.bool fn.rcv.isSome)) s'
            | _, _ => Ans.fail) (fun n m hnm e E s h => ?_) (fun e E s h => ?_) h
      · have fin : (match E.ds, resVals E s fn.res with
            | [], some _ => KK n (.ret (.bool fn.rcv.isSome)) s
            | _, _ => Ans.fail) → (match E.ds, resVals E s fn.res with
            | [], some _ => KK m (.ret (.bool fn.rcv.isSome)) s
            | _, _ => Ans.fail) := by
          intro h
          split at h
          · exact uK n m hnm _ _ h
          · exact h.elim
        cases e with
        | normal => exact fin h
        | exit i => exact h.elim
        | ret => exact fin h
        | panic v => exact h.elim
      · have fin : (match E.ds, resVals E s fn.res with
            | [], some _ => K (.ret (.bool fn.rcv.isSome)) s
            | _, _ => Ans.fail) → ∃ n, (match E.ds, resVals E s fn.res with
            | [], some _ => KK n (.ret (.bool fn.rcv.isSome)) s
            | _, _ => Ans.fail) := by
          intro h
          split at h
          · exact hK _ _ h
          · exact h.elim
        cases e with
        | normal => exact fin h
        | exit i => exact h.elim
        | ret => exact fin h
        | panic v => exact h.elim
    | yld l =>
      simp only [callN, den_eq] at h ⊢
      split at h
      case h_2 => exact h.elim
      split at h
      case isFalse => exact h.elim
      rename_i st pend E0 ps as body d _ hc
      simp only [hc, if_true]
      obtain ⟨n0, h⟩ := denG_ap ih hm hl (QQ := fun n e E s' => match e with
          | .normal => ∀ m, n ≤ m → beginRound (fun s => ∀ m', m ≤ m' → denG (· = k) (callN fns k) body E (fun e _ s' => endRound (KK m') l e s') s) l s'
          | _ => Ans.fail) (fun n m hnm e E s h => by
        cases e with
        | normal => exact fun j hj => h j (by omega)
        | exit i => exact h.elim
        | ret => exact h.elim
        | panic v => exact h.elim) (fun e E s h => by
        cases e with
        | normal =>
          obtain ⟨n0, h⟩ := beginRound_ap (KK := fun n s => ∀ m', n ≤ m' → denG (· = k) (callN fns k) body E (fun e _ s' => endRound (KK m') l e s') s) (fun s h =>
            denG_ap ih hm hl (QQ := fun n e _ s' => endRound (KK n) l e s') (fun n m hnm e _ s h => endRound_le (uK n m hnm) h) (fun e _ s h => endRound_ap hK h) h) h
          exact ⟨n0, fun m hm => beginRound_le (fun s h m' hm' => h m' (by omega)) h⟩
        | exit i => exact h.elim
        | ret => exact h.elim
        | panic v => exact h.elim) h
      refine ⟨n0, fun n hn => denG_le (hm 0) (fun i hi => ⟨i, Nat.le_refl _, hi⟩) ?_ (h n hn)⟩
      intro e E s h
      cases e with
      | normal => exact beginRound_le (fun s h => h n (Nat.le_refl _)) (h n (Nat.le_refl _))
      | exit i => exact h.elim
      | ret => exact h.elim
      | panic v => exact h.elim

/-! ### Without fuel -/

section free
variable (fns : FuncId → Option AFunc)

/-- a call, with fuel enough -/
def Call (t : Tgt) (a : List Val) (K : Res → St → Prop) (s : St) : Prop := ∃ n, callN (ρ := Prop) fns n t a K s

theorem call_le : LeC (Call fns) (Call fns) := fun t a K K' s hK ⟨n, h⟩ => ⟨n, callN_le fns (Nat.le_refl _) t a K K' s hK h⟩

/-- the calls with fuel come to it -/
theorem call_ap : ApC (Call fns) (callN fns) := by
  intro t a K KK s uK hK ⟨k, h⟩
  obtain ⟨n0, h⟩ := callN_ap fns k t a K KK s uK hK h
  refine ⟨max n0 k, fun n hn => callN_le fns (show k ≤ n by omega) t a _ _ s (fun _ _ h => h) (h n (by omega))⟩

/-- and it is continuous itself -/
theorem call_ap' : ApC (Call fns) (fun _ => Call fns) := by
  intro t a K KK s uK hK ⟨k, h⟩
  obtain ⟨n0, h⟩ := callN_ap fns k t a K KK s uK hK h
  exact ⟨n0, fun n hn => ⟨k, h n hn⟩⟩

/-- code, with fuel enough -/
def Run (c : ACode) (E : Env) (Q : Ex → Env → St → Prop) (s : St) : Prop := denG (fun _ => True) (Call fns) c E Q s

theorem run_le {c : ACode} {E : Env} {Q Q' : Ex → Env → St → Prop} {s : St} (hQ : ∀ e E s, Q e E s → Q' e E s) (h : Run fns c E Q s) : Run fns c E Q' s :=
  denG_le (call_le fns) (fun i _ => ⟨i, Nat.le_refl _, trivial⟩) hQ h

theorem run_ap {c : ACode} {E : Env} {Q : Ex → Env → St → Prop} {QQ : Nat → Ex → Env → St → Prop} {s : St} (uQ : ∀ n m, n ≤ m → ∀ e E s, QQ n e E s → QQ m e E s) (hQ : ∀ e E s, Q e E s → ∃ n, QQ n e E s)
    (h : Run fns c E Q s) : ∃ n0, ∀ n, n0 ≤ n → denG (· = n) (callN fns n) c E (QQ n) s :=
  denG_ap (call_ap fns) (fun n => callN_le fns (Nat.le_refl n)) (LP := fun n => (· = n)) (fun i _ => ⟨i, fun n hn => ⟨n, hn, rfl⟩⟩) uQ hQ h

theorem run_ap' {c : ACode} {E : Env} {Q : Ex → Env → St → Prop} {QQ : Nat → Ex → Env → St → Prop} {s : St} (uQ : ∀ n m, n ≤ m → ∀ e E s, QQ n e E s → QQ m e E s) (hQ : ∀ e E s, Q e E s → ∃ n, QQ n e E s)
    (h : Run fns c E Q s) : ∃ n0, Run fns c E (QQ n0) s :=
  let ⟨n0, h⟩ := denG_ap (call_ap' fns) (fun _ => call_le fns) (LP := fun _ _ => True) (fun i _ => ⟨0, fun n _ => ⟨i, Nat.le_refl _, trivial⟩⟩) uQ hQ h
  ⟨n0, h n0 (Nat.le_refl _)⟩

/-- what a function does when its body has ended -/
def atEnd (fn : AFunc) (K : Res → St → Prop) (e : Ex) (E : Env) (s : St) : Prop :=
  match e with
  | .exit _ => False
  | .panic (.iface t v) => leave (Call fns) fn.res E K E.ds (some (.iface t v)) s
  | .panic _ => False
  | _ => leave (Call fns) fn.res E K E.ds none s

/-- a function that is told by a contract -/
theorem call_nat {f : FuncId} {g : List Val → St → Option (Val × St)} (hf : fns f = some (natFunc g)) {a : List Val} {s s' : St} {v : Val} (hg : g a s = some (v, s')) {K : Res → St → Prop} (h : K (.ret v) s') : Call fns (.fn f) a K s := by
  refine ⟨1, ?_⟩
  simp only [callN, hf, natFunc, hg]
  exact h

theorem call_fn {f : FuncId} {fn : AFunc} (hf : fns f = some fn) {a : List Val} (hn : a.length = fn.nparams) (hr : fn.rcv = none) (hnat : fn.nat = none) {K : Res → St → Prop} {s : St}
    (h : Run fns fn.body { m := envOf a 0 } (atEnd fns fn K) s) : Call fns (.fn f) a K s := by
  obtain ⟨n0, h⟩ := run_ap fns (QQ := fun n e E s' => match e with
          | .exit _ => False
          | .panic (.iface t v) => ∀ m, n ≤ m → leave (callN fns m) fn.res E K E.ds (some (.iface t v)) s'
          | .panic _ => False
          | _ => ∀ m, n ≤ m → leave (callN fns m) fn.res E K E.ds none s') (fun n m hnm e E s h => by
        cases e with
        | normal => exact fun j hj => h j (by omega)
        | exit i => exact h.elim
        | ret => exact fun j hj => h j (by omega)
        | panic v =>
          cases v with
          | iface t x => exact fun j hj => h j (by omega)
          | _ => exact h.elim) (fun e E s h => by
        have ap := fun {p s} (h : leave (Call fns) fn.res E K E.ds p s) => leave_ap (call_ap fns) (fun n => callN_le fns (Nat.le_refl n)) (KK := fun _ => K) (fun _ _ _ _ _ h => h) (fun _ _ h => ⟨0, h⟩) h
        cases e with
        | normal => exact ap h
        | exit i => exact h.elim
        | ret => exact ap h
        | panic v =>
          cases v with
          | iface t x => exact ap h
          | _ => exact h.elim) h
  refine ⟨n0 + 1, ?_⟩
  simp only [callN, hf, hnat, hn, hr, and_self, if_true, den_eq]
  refine denG_le (callN_le fns (Nat.le_refl _)) (fun i hi => ⟨i, Nat.le_refl _, hi⟩) ?_ (h n0 (Nat.le_refl _))
  intro e E s h
  cases e with
  | normal => exact h n0 (Nat.le_refl _)
  | exit i => exact h.elim
  | ret => exact h n0 (Nat.le_refl _)
  | panic v =>
    cases v with
    | iface t x => exact h n0 (Nat.le_refl _)
    | _ => exact h.elim

/-- a deferred function -/
theorem call_dfn {f : FuncId} {p : Val} {fn : AFunc} (hf : fns f = some fn) {a : List Val} (hn : a.length = fn.nparams) {K : Res → St → Prop} {s : St}
    (h : Run fns fn.body (match fn.rcv with
          | some d => { m := (envOf a 0).set d p }
          | none => { m := envOf a 0 }) (fun e E s' => match e with
          | .exit _ | .panic _ => False
          | _ => match E.ds, resVals E s' fn.res with
            | [], some _ => K (.ret (.bool fn.rcv.isSome)) s'
            | _, _ => False) s) : Call fns (.dfn f p) a K s := by
  obtain ⟨n0, h⟩ := run_ap fns (QQ := fun _ e E s' => match e with
          | .exit _ | .panic _ => False
          | _ => match E.ds, resVals E s' fn.res with
            | [], some _ => K (.ret (.bool fn.rcv.isSome)) s'
            | _, _ => False) (fun _ _ _ _ _ _ h => h) (fun _ _ _ h => ⟨0, h⟩) h
  refine ⟨n0 + 1, ?_⟩
  simp only [callN, hf, hn, if_true, den_eq]
  exact h n0 (Nat.le_refl _)

/-- a round of a range over a function -/
theorem call_yld {l : Nat} {a : List Val} {st : LState} {pend : Option Jump} {E0 : PM Val} {ps : List Nat} {as body : ACode} {d : Nat} {s : St} (hl : s.heap.get l = some (.loop st pend E0 ps as body d)) (hn : a.length = ps.length) {K : Res → St → Prop}
    (h : Run fns as { m := setL E0 ps a } (fun e E s' => match e with
      | .normal => beginRound (fun s => Run fns body E (fun e _ s' => endRound K l e s') s) l s'
      | _ => False) s) : Call fns (.yld l) a K s := by
  obtain ⟨n0, h⟩ := run_ap fns (QQ := fun n e E s' => match e with
      | .normal => ∀ m, n ≤ m → beginRound (fun s => ∀ j, m ≤ j → denG (· = j) (callN fns j) body E (fun e _ s' => endRound K l e s') s) l s'
      | _ => False) (fun n m hnm e E s h => by
        cases e with
        | normal => exact fun j hj => h j (by omega)
        | exit i => exact h.elim
        | ret => exact h.elim
        | panic v => exact h.elim) (fun e E s h => by
        cases e with
        | normal =>
          obtain ⟨n0, h⟩ := beginRound_ap (KK := fun n s => ∀ j, n ≤ j → denG (· = j) (callN fns j) body E (fun e _ s' => endRound K l e s') s) (fun s h =>
            run_ap fns (QQ := fun _ e _ s' => endRound K l e s') (fun _ _ _ _ _ _ h => h) (fun _ _ _ h => ⟨0, h⟩) h) h
          exact ⟨n0, fun m hm => beginRound_le (fun s h m' hm' => h m' (by omega)) h⟩
        | exit i => exact h.elim
        | ret => exact h.elim
        | panic v => exact h.elim) h
  refine ⟨n0 + 1, ?_⟩
  simp only [callN, hl, hn, if_true, den_eq]
  refine denG_le (callN_le fns (Nat.le_refl _)) (fun i hi => ⟨i, Nat.le_refl _, hi⟩) ?_ (h n0 (Nat.le_refl _))
  intro e E s h
  cases e with
  | normal => exact beginRound_le (fun s h => h n0 (Nat.le_refl _)) (h n0 (Nat.le_refl _))
  | exit i => exact h.elim
  | ret => exact h.elim
  | panic v => exact h.elim

/-- A LOOP, by what holds at its head and a measure. -/
theorem run_loop {c : ACode} {Q : Ex → Env → St → Prop} (I : Nat → Env → St → Prop)
    (hI : ∀ m E s, I m E s → Run fns c E (fun e E' s' => match e with
      | .normal => ∃ m', m' < m ∧ I m' E' s'
      | e => Q e E' s') s) : ∀ {m : Nat} {E : Env} {s : St}, I m E s → Run fns (.loop c) E Q s := by
  intro m
  induction m using Nat.strongRecOn with
  | ind m ih =>
    intro E s h
    have h1 := hI m E s h
    obtain ⟨n0, h2⟩ := run_ap' fns (QQ := fun n e E' s' => match e with
      | .normal => loopN (fun E Q s => Run fns c E Q s) n E' Q s'
      | e => Q e E' s') (fun n m hnm e E s h => by
        cases e with
        | normal => exact loopN_le (B := fun E Q s => Run fns c E Q s) (B' := fun E Q s => Run fns c E Q s) (fun E Q Q' s hQ h => run_le fns hQ h) hnm (fun _ _ _ h => h) h
        | exit i => exact h
        | ret => exact h
        | panic v => exact h) (fun e E s h => by
        cases e with
        | normal =>
          obtain ⟨m', hm, h⟩ := h
          obtain ⟨i, _, h⟩ := ih m' hm h
          exact ⟨i, h⟩
        | exit i => exact ⟨0, h⟩
        | ret => exact ⟨0, h⟩
        | panic v => exact ⟨0, h⟩) h1
    refine ⟨n0 + 1, trivial, ?_⟩
    simp only [loopN]
    refine run_le fns ?_ h2
    intro e E s h
    cases e with
    | normal => exact h
    | exit i => exact h
    | ret => exact h
    | panic v => exact h

/-- one round more -/
theorem run_once' {c : ACode} {E : Env} {Q : Ex → Env → St → Prop} {s : St} (h : Run fns c E (fun e E' s' => match e with
      | .normal => Run fns (.loop c) E' Q s'
      | e => Q e E' s') s) : Run fns (.loop c) E Q s := by
  obtain ⟨n0, h2⟩ := run_ap' fns (QQ := fun n e E' s' => match e with
    | .normal => loopN (fun E Q s => Run fns c E Q s) n E' Q s'
    | e => Q e E' s') (fun n m hnm e E s h => by
      cases e with
      | normal => exact loopN_le (B := fun E Q s => Run fns c E Q s) (B' := fun E Q s => Run fns c E Q s) (fun E Q Q' s hQ h => run_le fns hQ h) hnm (fun _ _ _ h => h) h
      | exit i => exact h
      | ret => exact h
      | panic v => exact h) (fun e E s h => by
      cases e with
      | normal =>
        obtain ⟨i, _, h⟩ := h
        exact ⟨i, h⟩
      | exit i => exact ⟨0, h⟩
      | ret => exact ⟨0, h⟩
      | panic v => exact ⟨0, h⟩) h
  refine ⟨n0 + 1, trivial, ?_⟩
  simp only [loopN]
  refine run_le fns ?_ h2
  intro e E s h
  cases e with
  | normal => exact h
  | exit i => exact h
  | ret => exact h
  | panic v => exact h
end free
attribute [irreducible] Run atEnd Call
end Am
