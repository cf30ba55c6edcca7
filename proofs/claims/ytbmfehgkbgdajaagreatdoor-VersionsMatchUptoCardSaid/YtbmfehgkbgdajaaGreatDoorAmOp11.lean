/- Each operation of the abstract machine stands for the model's: maps. -/
import Derived.Test.YtbmfehgkbgdajaaGreatDoorAmOp10
set_option linter.all false
namespace Am
open Go (IntKind BinOp UnOp FuncId TypeId Program Value World Addr Obj Operand Oper Op Sem Act)

variable {W0 : Ctx} {φ : Phi} {s : St} {w w' : World} {P : Program}

/-! ### A key is checked -/

theorem check_fields (em : Bool) (D : Nat) (X : Array Value) (n : Nat) (hX : X.size = n) (d : Nat)
    (ih : ∀ t l k, leaves P d t = some l → sizeOf P t = some k → ∀ (X : Array Value) (x : Value), X.size = k → IsVal P t X x → (Go.Instr.checkKey em D t x).run P w = .ok () w) :
    ∀ (fs : List Go.Field) (ls : List (List (Nat × LK))), listM (fun (f : Go.Field) => if f.name = "_" then none else match leaves P d f.type, sizeOf P f.type with
        | some l, some k => if f.offset + k ≤ n ∧ l.all (fun p => decide (p.1 < k)) = true then some (l.map fun p => (f.offset + p.1, p.2)) else none
        | _, _ => none) fs = some ls →
      (forIn fs PUnit.unit fun f _ => do
        if f.name ≠ "_" then Go.Instr.checkKey em D f.type (← Go.part f.type X f.offset)
        pure (ForInStep.yield PUnit.unit) : Sem PUnit).run P w = .ok PUnit.unit w
  | [], _, _ => rfl
  | f :: fs, ls, hl => by
    simp only [listM] at hl
    split at hl
    case h_2 => cases hl
    rename_i lf hlf
    split at hl
    case h_2 => cases hl
    rename_i m hm
    split at hlf
    · cases hlf
    · rename_i hname
      split at hlf
      case h_2 => cases hlf
      rename_i l k hlv hsz
      split at hlf
      case isFalse => cases hlf
      rename_i hcond
      have hun : ∃ dd, P.underlying f.type = some dd := by
        cases d with
        | zero => simp [leaves] at hlv
        | succ d =>
          unfold leaves at hlv
          cases hu : P.underlying f.type with
          | none => rw [hu] at hlv; simp at hlv
          | some dd => exact ⟨dd, rfl⟩
      obtain ⟨dd, hun⟩ := hun
      obtain ⟨a, pa, va⟩ := part_isVal (P := P) hun hsz (leaves_scalar hlv hsz) X (o := f.offset) (by omega) w
      have key := ih f.type l k hlv hsz _ a (by simp; omega) va
      simp only [List.forIn_cons, if_pos hname, Go.Sem.run_bind, pa, Go.Result.andThen_ok, key, Go.Sem.run_pure]
      exact check_fields em D X n hX d ih fs m hm

theorem check_items (em : Bool) (D : Nat) (X : Array Value) (n : Nat) (hX : X.size = n) (d : Nat) (e : TypeId) (k : Nat) (l : List (Nat × LK)) (hlv : leaves P d e = some l) (hsz : sizeOf P e = some k)
    (ih : ∀ (X : Array Value) (x : Value), X.size = k → IsVal P e X x → (Go.Instr.checkKey em D e x).run P w = .ok () w) :
    ∀ (is : List Nat), (∀ i ∈ is, (i + 1) * k ≤ n) →
      (forIn is PUnit.unit fun i _ => do
        Go.Instr.checkKey em D e (← Go.part e X (i * (← Go.sizeOf e)))
        pure (ForInStep.yield PUnit.unit) : Sem PUnit).run P w = .ok PUnit.unit w
  | [], _ => rfl
  | i :: is, hi => by
    have hik : i * k + k ≤ n := by have := hi i (by simp); rw [Nat.succ_mul] at this; exact this
    have hun : ∃ dd, P.underlying e = some dd := by
      cases d with
      | zero => simp [leaves] at hlv
      | succ d =>
        unfold leaves at hlv
        cases hu : P.underlying e with
        | none => rw [hu] at hlv; simp at hlv
        | some dd => exact ⟨dd, rfl⟩
    obtain ⟨dd, hun⟩ := hun
    obtain ⟨a, pa, va⟩ := part_isVal (P := P) hun hsz (leaves_scalar hlv hsz) X (o := i * k) (by omega) w
    have key := ih _ a (by simp; omega) va
    simp only [List.forIn_cons, Go.Sem.run_bind, run_size hsz, pa, Go.Result.andThen_ok, key, Go.Sem.run_pure]
    exact check_items em D X n hX d e k l hlv hsz ih is (fun j hj => hi j (by simp [hj]))

theorem check_sound (em : Bool) : ∀ (d : Nat) (t : TypeId) (l : List (Nat × LK)) (n : Nat), leaves P d t = some l → sizeOf P t = some n → ∀ (D : Nat), d ≤ D → ∀ (X : Array Value) (x : Value), X.size = n →
    IsVal P t X x → (Go.Instr.checkKey em D t x).run P w = .ok () w := by
  intro d
  induction d with
  | zero => intro t l n hl; simp [leaves] at hl
  | succ d ih =>
    intro t l n hl hn D hD X x hX hx
    obtain ⟨D, rfl⟩ : ∃ D', D = D' + 1 := ⟨D - 1, by omega⟩
    unfold leaves at hl
    split at hl
    · rename_i hu hs1; simp [Go.Instr.checkKey, run_under hu]
    · rename_i hu hs1; simp [Go.Instr.checkKey, run_under hu]
    · rename_i hu hs1; simp [Go.Instr.checkKey, run_under hu]
    · rename_i hu hs1; simp [Go.Instr.checkKey, run_under hu]
    · rename_i fs n' hu hs1
      rw [hn] at hs1; injection hs1 with hs1; subst hs1
      split at hl
      · cases hl
      · simp only [Option.map_eq_some_iff] at hl
        obtain ⟨ls, hls, rfl⟩ := hl
        have ha : isAgg P t = some true := by simp [isAgg, hu]
        have hx1 : x = .agg X := by
          rcases hx with hx | hx
          · exact hx.2
          · rw [ha] at hx; cases hx.1
        subst hx1
        have := check_fields (P := P) (w := w) em D X n hX d (fun t l k h1 h2 => ih t l k h1 h2 D (by omega)) fs.toList ls hls
        simp only [Go.Instr.checkKey, Go.Sem.run_bind, run_under hu, Go.Result.andThen_ok]
        rw [← Array.forIn_toList]
        simp at this ⊢
        rw [this]
        rfl
    · rename_i m e n' hu hs1
      rw [hn] at hs1; injection hs1 with hs1; subst hs1
      split at hl
      case h_2 => cases hl
      rename_i le k hle hk
      split at hl
      case isFalse => cases hl
      rename_i hcond
      have ha : isAgg P t = some true := by simp [isAgg, hu]
      have hx1 : x = .agg X := by
        rcases hx with hx | hx
        · exact hx.2
        · rw [ha] at hx; cases hx.1
      subst hx1
      have := check_items (P := P) (w := w) em D X n hX d e k le hle hk (fun X x h1 h2 => ih e le k hle hk D (by omega) X x h1 h2) (List.range m) (by
        intro j hj
        have := List.mem_range.1 hj
        exact Nat.le_trans (Nat.mul_le_mul_right k (by omega : j + 1 ≤ m)) hcond.1)
      simp only [Go.Instr.checkKey, Go.Sem.run_bind, run_under hu, Go.Result.andThen_ok]
      simp only [Std.Legacy.Range.forIn_eq_forIn_range', Std.Legacy.Range.size, Nat.sub_zero, Nat.add_one_sub_one, Nat.div_one]
      rw [← List.range_eq_range']
      simp at this ⊢
      rw [this]
      rfl
    · cases hl

theorem checkKey_sound {kt : EqK} {t : TypeId} (hk : keyKind P t = some kt) {k : Val} {k' : Value} (hb : keyB s kt k = true) (hv : VRel φ k k') (em : Bool) (D : Nat) (hD : 5 ≤ D + 1) : (Go.Instr.checkKey em (D + 1) t k').run P w = .ok () w := by
  have hT := keyKind_sound hk
  unfold keyB at hb
  split at hb
  · obtain rfl : k' = _ := hv
    have hu : P.underlying t = some .bool := hT
    simp [Go.Instr.checkKey, run_under hu]
  · obtain rfl : k' = _ := hv
    obtain ⟨q, hu⟩ := hT
    simp [Go.Instr.checkKey, run_under hu]
  · obtain rfl : k' = _ := hv
    have hu : P.underlying t = some .string := hT
    simp [Go.Instr.checkKey, run_under hu]
  · obtain ⟨X, rfl, hX⟩ := hv
    obtain ⟨hn, hl, _, _, ha⟩ := hT
    simp only [Bool.and_eq_true, beq_iff_eq] at hb
    have := hX.length
    exact check_sound em 5 t _ _ hl hn (D + 1) hD X _ (by simp at this; omega) (.inl ⟨ha, rfl⟩)
  · cases hb

/-! ### An entry is found -/

theorem MRel.get : ∀ {l : List MEnt} {l' : List Go.MapEntry} {i : Nat} {e : MEnt}, MRel φ l l' → l[i]? = some e → ∃ e', l'[i]? = some e' ∧ VRel φ e.key e'.key ∧ VRel φ e.val e'.val ∧ e'.born = e.born
  | [], _, _, _, _, h => by simp at h
  | a :: r, _, 0, v, ⟨b, s, e, h1, h2, h3, _⟩, h => by
    obtain rfl : a = v := by simpa using h
    exact ⟨b, by simp [e], h1, h2, h3⟩
  | a :: r, _, i + 1, v, ⟨b, s, e, _, _, _, hs⟩, h => by
    obtain ⟨v', h1, h2⟩ := MRel.get hs (i := i) (e := v) (by simpa using h)
    exact ⟨v', by simp [e, h1], h2⟩

theorem mapFind_get {kt : EqK} {k : Val} : ∀ {es : List MEnt} {i j : Nat} {e : MEnt}, mapFind s kt k es i = some (some (j, e)) → i ≤ j ∧ es[j - i]? = some e ∧ eqV s kt k e.key = some true
  | [], i, j, e, h => by simp [mapFind] at h
  | x :: es, i, j, e, h => by
    simp only [mapFind] at h
    split at h
    · rename_i he
      simp only [Option.some.injEq, Prod.mk.injEq] at h
      obtain ⟨rfl, rfl⟩ := h
      exact ⟨Nat.le_refl _, by simp, he⟩
    · obtain ⟨h1, h2, h3⟩ := mapFind_get h
      refine ⟨by omega, ?_, h3⟩
      rw [show j - i = (j - (i + 1)) + 1 by omega]
      simpa using h2
    · cases h

/-- what a search comes to -/
def FoundRel (φ : Phi) : Option (Nat × MEnt) → Option (Nat × Value) → Prop
  | none, r' => r' = none
  | some (j, e), r' => ∃ v', r' = some (j, v') ∧ VRel φ e.val v'

theorem findAsking_sound (h : R W0 φ s w) {kt : EqK} {t : TypeId} (hT : EqT P t kt) {k : Val} {k' : Value} (hv : VRel φ k k') : ∀ {es : List MEnt} {es' : List Go.MapEntry} {i : Nat} {r : Option (Nat × MEnt)}, MRel φ es es' → mapFind s kt k es i = some r →
    ∃ r', (Go.Instr.findAsking t k' es' i).run P w = .ok r' w ∧ FoundRel φ r r'
  | [], es', i, r, hm, hf => by
    rw [show es' = [] from hm]
    simp [mapFind] at hf; subst hf
    exact ⟨none, rfl, rfl⟩
  | x :: es, es', i, r, ⟨e', s', e1, h1, h2, h3, h4⟩, hf => by
    subst e1
    simp only [mapFind] at hf
    split at hf
    · rename_i he
      injection hf with hf; subst hf
      have hq : (Go.Op.equal t k' e'.key).run P w = .ok true w := equal_of_eqV (P := P) h hT hv h1 he 9999 (by decide)
      exact ⟨some (i, e'.val), by simp [Go.Instr.findAsking, hq], e'.val, rfl, h2⟩
    · rename_i he
      have hq : (Go.Op.equal t k' e'.key).run P w = .ok false w := equal_of_eqV (P := P) h hT hv h1 he 9999 (by decide)
      obtain ⟨r', h5, h6⟩ := findAsking_sound h hT hv h4 hf
      exact ⟨r', by simp [Go.Instr.findAsking, hq, h5], h6⟩
    · cases hf

theorem findNow_sound {k : LK} {d : Go.TypeDesc} (hd : (k = .bool ∧ d = .bool) ∨ (k = .int ∧ ∃ q, d = .int q) ∨ (k = .str ∧ d = .string)) {kv : Val} {k' : Value} (hv : VRel φ kv k') : ∀ {es : List MEnt} {es' : List Go.MapEntry} {i : Nat} {r : Option (Nat × MEnt)}, MRel φ es es' → mapFind s (.leaf k) kv es i = some r →
    ∃ r', Go.Instr.findNow d k' es' i = some r' ∧ FoundRel φ r r'
  | [], es', i, r, hm, hf => by
    rw [show es' = [] from hm]
    simp [mapFind] at hf; subst hf
    exact ⟨none, rfl, rfl⟩
  | x :: es, es', i, r, ⟨e', s', e1, h1, h2, h3, h4⟩, hf => by
    subst e1
    have hsame : ∀ b, eqLeaf s k kv x.key = some b → Go.Instr.sameNow d k' e'.key = some b := by
      intro b hb
      have h1' := h1
      generalize x.key = xk at hb h1'
      clear h1
      have h1 : VRel φ xk e'.key := h1'
      unfold eqLeaf at hb
      split at hb
      · injection hb with hb; subst hb
        have e2 : k' = _ := hv
        have e3 : e'.key = _ := h1
        rcases hd with ⟨_, rfl⟩ | ⟨hk, _⟩ | ⟨hk, _⟩
        · rw [e2, e3]; rfl
        · cases hk
        · cases hk
      · split at hb
        case isFalse => cases hb
        rename_i hkk
        injection hb with hb; subst hb
        have e2 : k' = _ := hv
        have e3 : e'.key = _ := h1
        rcases hd with ⟨hk, _⟩ | ⟨_, q, rfl⟩ | ⟨hk, _⟩
        · cases hk
        · rw [e2, e3]; simp [Go.Instr.sameNow, hkk]
        · cases hk
      · injection hb with hb; subst hb
        have e2 : k' = _ := hv
        have e3 : e'.key = _ := h1
        rcases hd with ⟨hk, _⟩ | ⟨hk, _⟩ | ⟨_, rfl⟩
        · cases hk
        · cases hk
        · rw [e2, e3]
          simp only [Go.Instr.sameNow]
          rw [Go.beq_toListBytes]
          simp
      all_goals (rcases hd with ⟨hk, _⟩ | ⟨hk, _⟩ | ⟨hk, _⟩ <;> cases hk)
      all_goals cases hb
    simp only [mapFind, eqV] at hf
    split at hf
    · rename_i he
      injection hf with hf; subst hf
      exact ⟨some (i, e'.val), by simp [Go.Instr.findNow, hsame _ he], e'.val, rfl, h2⟩
    · rename_i he
      obtain ⟨r', h5, h6⟩ := findNow_sound hd hv h4 hf
      exact ⟨r', by simp [Go.Instr.findNow, hsame _ he, h5], h6⟩
    · cases hf

theorem findKey_sound (h : R W0 φ s w) {kt : EqK} {t : TypeId} (hk : keyKind P t = some kt) {k : Val} {k' : Value} (hv : VRel φ k k') {es : List MEnt} {es' : List Go.MapEntry} {r : Option (Nat × MEnt)} (hm : MRel φ es es') (hf : mapFind s kt k es 0 = some r) :
    ∃ r', (Go.Instr.findKey t k' es').run P w = .ok r' w ∧ FoundRel φ r r' := by
  have hT := keyKind_sound hk
  have hun : ∃ d, P.underlying t = some d := by
    unfold keyKind at hk
    cases hu : P.underlying t with
    | none => rw [hu] at hk; cases hk
    | some d => exact ⟨d, rfl⟩
  obtain ⟨d, hu⟩ := hun
  have viaAsk : (∀ r', (Go.Instr.findAsking t k' es' 0).run P w = .ok r' w → FoundRel φ r r' → (Go.Instr.findNow d k' es' 0 = none ∨ Go.Instr.findNow d k' es' 0 = some r') →
      ∃ r', (Go.Instr.findKey t k' es').run P w = .ok r' w ∧ FoundRel φ r r') := by
    intro r' h1 h2 h3
    refine ⟨r', ?_, h2⟩
    unfold Go.Instr.findKey
    simp only [Go.Sem.run_bind, run_under hu, Go.Result.andThen_ok]
    rcases h3 with h3 | h3
    · rw [h3]; exact h1
    · rw [h3]; rfl
  cases kt with
  | leaf lk =>
    have hd : (lk = .bool ∧ d = .bool) ∨ (lk = .int ∧ ∃ q, d = .int q) ∨ (lk = .str ∧ d = .string) := by
      unfold keyKind at hk
      rw [hu] at hk
      cases d <;> simp at hk
      · exact .inl ⟨hk.symm, rfl⟩
      · exact .inr (.inl ⟨hk.symm, _, rfl⟩)
      · exact .inr (.inr ⟨hk.symm, rfl⟩)
      · split at hk
        · split at hk <;> simp at hk
        · cases hk
      · split at hk
        · split at hk <;> simp at hk
        · cases hk
    obtain ⟨r', h1, h2⟩ := findNow_sound hd hv hm hf
    refine ⟨r', ?_, h2⟩
    unfold Go.Instr.findKey
    simp only [Go.Sem.run_bind, run_under hu, Go.Result.andThen_ok, h1, Go.Sem.run_pure]
  | cells n ls =>
    obtain ⟨r', h1, h2⟩ := findAsking_sound (P := P) h hT hv hm hf
    refine viaAsk r' h1 h2 ?_
    cases es with
    | nil =>
      obtain rfl : es' = [] := hm
      simp [mapFind] at hf; subst hf
      have h2 : r' = none := h2
      subst h2
      exact .inr rfl
    | cons x es =>
      obtain ⟨e', s', e1, g1, _⟩ := hm
      subst e1
      left
      have hagg : ∃ X, k' = .agg X := by
        simp only [mapFind, eqV] at hf
        unfold eqAgg at hf
        cases k <;> simp at hf
        obtain ⟨X, rfl, _⟩ := hv
        exact ⟨X, rfl⟩
      obtain ⟨X, rfl⟩ := hagg
      simp only [Go.Instr.findNow]
      have : Go.Instr.sameNow d (.agg X) e'.key = none := by
        cases d <;> first | rfl | (cases e'.key <;> rfl)
      rw [this]
  | nilc nk =>
    exfalso
    unfold keyKind at hk
    rw [hu] at hk
    cases d <;> simp at hk
    all_goals (split at hk <;> first | (split at hk <;> simp at hk) | (cases hk))
end Am
