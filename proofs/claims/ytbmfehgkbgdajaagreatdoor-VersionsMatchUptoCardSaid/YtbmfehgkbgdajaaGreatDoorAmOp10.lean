/- Each operation of the abstract machine stands for the model's: operators on two values, maps. -/
import Derived.Test.YtbmfehgkbgdajaaGreatDoorAmOp9
set_option linter.all false
namespace Am
open Go (IntKind BinOp UnOp FuncId TypeId Program Value World Addr Obj Operand Oper Op Sem Act)

variable {W0 : Ctx} {φ : Phi} {s : St} {w w' : World} {P : Program}

/-- the type at which a comparison is made -/
def EqT (P : Program) (t : TypeId) : EqK → Prop
  | .leaf k => LKT P t k
  | .cells n ls => sizeOf P t = some n ∧ leaves P 5 t = some ls ∧ 5 ≤ P.depth ∧ P.eqGuardType P.depth t = false ∧ isAgg P t = some true
  | .nilc .slice => ∃ e, P.underlying t = some (.slice e)
  | .nilc .map => ∃ k e, P.underlying t = some (.map k e)
  | .nilc .func => ∃ a b c, P.underlying t = some (.func a b c)
  | .nilc .iface => ∃ ms, P.underlying t = some (.interface ms)

theorem keyKind_sound {t : TypeId} {k : EqK} (h : keyKind P t = some k) : EqT P t k := by
  unfold keyKind at h
  split at h
  · rename_i hu; injection h with h; subst h; exact hu
  · rename_i q hu; injection h with h; subst h; exact ⟨q, hu⟩
  · rename_i hu; injection h with h; subst h; exact hu
  · rename_i fs hu
    split at h
    case h_2 => cases h
    rename_i n l hn hl
    split at h
    case isFalse => cases h
    rename_i hc
    injection h with h; subst h
    exact ⟨hn, hl, hc.1, hc.2, by simp [isAgg, hu]⟩
  · rename_i m e hu
    split at h
    case h_2 => cases h
    rename_i n l hn hl
    split at h
    case isFalse => cases h
    rename_i hc
    injection h with h; subst h
    exact ⟨hn, hl, hc.1, hc.2, by simp [isAgg, hu]⟩
  · cases h

theorem eqKind_sound {t : TypeId} {x y : Operand} {k : EqK} (h : eqKind P t x y = some k) : EqT P t k ∧ (k = .nilc .iface → (isConstNil x || isConstNil y) = true) := by
  unfold eqKind at h
  split at h
  · rename_i e hu
    split at h
    case h_2 => cases h
    rename_i n hn
    injection h with h; subst h
    exact ⟨⟨e, n, hu, hn⟩, by simp⟩
  · rename_i e hu; injection h with h; subst h; exact ⟨⟨e, hu⟩, by simp⟩
  · rename_i e e' hu; injection h with h; subst h; exact ⟨⟨e, e', hu⟩, by simp⟩
  · rename_i e e' e'' hu; injection h with h; subst h; exact ⟨⟨e, e', e'', hu⟩, by simp⟩
  · rename_i ms hu
    split at h
    case isFalse => cases h
    rename_i hc
    injection h with h; subst h
    exact ⟨⟨ms, hu⟩, fun _ => hc⟩
  · rename_i h1 h2 h3 h4 h5
    have := keyKind_sound h
    refine ⟨this, ?_⟩
    rintro rfl
    obtain ⟨ms, hu⟩ := this
    exact absurd hu (h5 ms)

/-- what '==' gives, past its guard -/
theorem equal_of_eqV (h : R W0 φ s w) {t : TypeId} {k : EqK} (hk : EqT P t k) {x y : Val} {x' y' : Value} (hx : VRel φ x x') (hy : VRel φ y y') {r : Bool} (he : eqV s k x y = some r) :
    ∀ D, 5 ≤ D + 1 → (Go.Op.equalIn (D + 1) t x' y').run P w = .ok r w := by
  intro D hD
  cases k with
  | leaf k => exact eqLeaf_sound h hk hx hy he D
  | cells n ls =>
    obtain ⟨hn, hl, _, _, ha⟩ := hk
    simp only [eqV] at he
    unfold eqAgg at he
    split at he
    case h_2 => cases he
    split at he
    case isFalse => cases he
    rename_i hlen
    obtain ⟨X, rfl, hX⟩ := hx
    obtain ⟨Y, rfl, hY⟩ := hy
    exact equal_sound h 5 t ls n hl hn (D + 1) hD _ _ X Y _ _ hlen.1 hlen.2 hX hY (.inl ⟨ha, rfl⟩) (.inl ⟨ha, rfl⟩) r he
  | nilc k =>
    simp only [eqV] at he
    unfold eqNil at he
    split at he
    · rename_i n c b n' c'
      injection he with he; subst he
      obtain ⟨e, hu⟩ := hk
      cases c with
      | op _ => exact (show False from hx).elim
      | ex c =>
        rw [show x' = _ from hx]
        cases b with
        | none => cases c' with
          | op _ => exact (show False from hy).elim
          | ex c' => rw [show y' = _ from hy]; simp [Go.Op.equalIn, run_under hu]
        | some b => obtain ⟨b', c'', rfl, _⟩ := hy.slice_some; simp [Go.Op.equalIn, run_under hu]
    · rename_i b n c n' c'
      injection he with he; subst he
      obtain ⟨e, hu⟩ := hk
      obtain ⟨b', c'', rfl, _⟩ := hx.slice_some
      cases c' with
      | op _ => exact (show False from hy).elim
      | ex c' => rw [show y' = _ from hy]; simp [Go.Op.equalIn, run_under hu]
    · rename_i b
      injection he with he; subst he
      obtain ⟨e, e', hu⟩ := hk
      rw [show x' = _ from hx]
      cases b with
      | none => rw [show y' = _ from hy]; simp [Go.Op.equalIn, run_under hu]
      | some b => obtain ⟨b', rfl, _⟩ := hy; simp [Go.Op.equalIn, run_under hu]
    · injection he with he; subst he
      obtain ⟨e, e', hu⟩ := hk
      obtain ⟨b', rfl, _⟩ := hx
      rw [show y' = _ from hy]; simp [Go.Op.equalIn, run_under hu]
    · injection he with he; subst he
      obtain ⟨a, b, c, hu⟩ := hk
      rw [show x' = _ from hx, show y' = _ from hy]; simp [Go.Op.equalIn, run_under hu]
    · injection he with he; subst he
      obtain ⟨a, b, c, hu⟩ := hk
      obtain ⟨p', q', rfl, _⟩ := hy
      rw [show x' = _ from hx]; simp [Go.Op.equalIn, run_under hu]
    · injection he with he; subst he
      obtain ⟨a, b, c, hu⟩ := hk
      obtain ⟨p', q', rfl, _⟩ := hx
      rw [show y' = _ from hy]; simp [Go.Op.equalIn, run_under hu]
    · injection he with he; subst he
      obtain ⟨ms, hu⟩ := hk
      rw [show x' = _ from hx, show y' = _ from hy]; simp [Go.Op.equalIn, run_under hu]
    · injection he with he; subst he
      obtain ⟨ms, hu⟩ := hk
      obtain ⟨z, rfl, _⟩ := hy
      rw [show x' = _ from hx]; simp [Go.Op.equalIn, run_under hu]
    · injection he with he; subst he
      obtain ⟨ms, hu⟩ := hk
      obtain ⟨z, rfl, _⟩ := hx
      rw [show y' = _ from hy]; simp [Go.Op.equalIn, run_under hu]
    · cases he

theorem eq_sound (h : R W0 φ s w) {t : TypeId} {k : EqK} (hk : EqT P t k) {xo yo : Operand} (hc : k = .nilc .iface → (isConstNil xo || isConstNil yo) = true) {x y : Val} {x' y' : Value} (hx : VRel φ x x') (hy : VRel φ y y') {r : Bool}
    (he : eqV s k x y = some r) (op : BinOp) (hop : op = .eql ∨ op = .neq) :
    (do Go.eqGuard op t xo yo x' y'; Go.binOp op t x' y' : Sem Value).run P w = .ok (.bool (if op == .neq then !r else r)) w := by
  have hE : (Go.Op.equal t x' y').run P w = .ok r w := equal_of_eqV (P := P) h hk hx hy he 9999 (by decide)
  have guardless : (Go.eqGuard op t xo yo x' y').run P w = .ok () w → (Go.binOp op t x' y' = (if op == .neq then (do pure (.bool (!(← Go.Op.equal t x' y')))) else (do pure (.bool (← Go.Op.equal t x' y'))))) →
      (do Go.eqGuard op t xo yo x' y'; Go.binOp op t x' y' : Sem Value).run P w = .ok (.bool (if op == .neq then !r else r)) w := by
    intro h1 h2
    simp only [Go.Sem.run_bind, h1, Go.Result.andThen_ok, h2]
    rcases hop with rfl | rfl <;> simp [hE]
  have direct : (Go.eqGuard op t xo yo x' y').run P w = .ok () w → ((Go.binOp op t x' y').run P w = .ok (.bool (if op == .neq then !r else r)) w) →
      (do Go.eqGuard op t xo yo x' y'; Go.binOp op t x' y' : Sem Value).run P w = .ok (.bool (if op == .neq then !r else r)) w := by
    intro h1 h2; simp only [Go.Sem.run_bind, h1, Go.Result.andThen_ok, h2]
  cases k with
  | leaf k =>
    simp only [eqV] at he
    unfold eqLeaf at he
    split at he
    · have hx' := (show x' = _ from hx); have hy' := (show y' = _ from hy); subst hx'; subst hy'
      refine guardless (by rcases hop with rfl | rfl <;> rfl) (by rcases hop with rfl | rfl <;> rfl)
    · split at he
      case isFalse => cases he
      rename_i hkk
      subst hkk
      injection he with he; subst he
      have hx' := (show x' = _ from hx); have hy' := (show y' = _ from hy); subst hx'; subst hy'
      refine direct (by rcases hop with rfl | rfl <;> rfl) ?_
      rcases hop with rfl | rfl <;> simp [Go.binOp, Go.Op.intCmp, bne]
    · injection he with he; subst he
      have hx' := (show x' = _ from hx); have hy' := (show y' = _ from hy); subst hx'; subst hy'
      refine direct (by rcases hop with rfl | rfl <;> rfl) ?_
      rcases hop with rfl | rfl <;> simp [Go.binOp, Go.Op.stringOp]
    · rename_i b
      have hx' := (show x' = _ from hx); subst hx'
      cases b with
      | none =>
        have hy' := (show y' = _ from hy); subst hy'
        refine guardless (by rcases hop with rfl | rfl <;> rfl) (by rcases hop with rfl | rfl <;> rfl)
      | some b =>
        obtain ⟨b', rfl, _⟩ := hy
        refine guardless (by rcases hop with rfl | rfl <;> rfl) (by rcases hop with rfl | rfl <;> rfl)
    · obtain ⟨a', rfl, _⟩ := hx
      have hy' := (show y' = _ from hy); subst hy'
      refine guardless (by rcases hop with rfl | rfl <;> rfl) (by rcases hop with rfl | rfl <;> rfl)
    · obtain ⟨a', rfl, _⟩ := hx
      obtain ⟨b', rfl, _⟩ := hy
      refine guardless (by rcases hop with rfl | rfl <;> rfl) (by rcases hop with rfl | rfl <;> rfl)
    · cases he
  | cells n ls =>
    obtain ⟨hn, hl, hd, hg, ha⟩ := hk
    simp only [eqV] at he
    unfold eqAgg at he
    split at he
    case h_2 => cases he
    obtain ⟨X, rfl, hX⟩ := hx
    obtain ⟨Y, rfl, hY⟩ := hy
    exact guardless (Go.run_eqGuard_agg w op t xo yo X Y hg) (by rcases hop with rfl | rfl <;> rfl)
  | nilc k =>
    simp only [eqV] at he
    unfold eqNil at he
    split at he
    · rename_i n c b n' c'
      cases c with
      | op _ => exact (show False from hx).elim
      | ex c =>
        have hx' := (show x' = _ from hx); subst hx'
        cases b with
        | none => cases c' with
          | op _ => exact (show False from hy).elim
          | ex c' =>
            have hy' := (show y' = _ from hy); subst hy'
            exact guardless (by rcases hop with rfl | rfl <;> rfl) (by rcases hop with rfl | rfl <;> rfl)
        | some b =>
          obtain ⟨b', c'', rfl, _⟩ := hy.slice_some
          exact guardless (by rcases hop with rfl | rfl <;> rfl) (by rcases hop with rfl | rfl <;> rfl)
    · rename_i b n c n' c'
      obtain ⟨b', c'', rfl, _⟩ := hx.slice_some
      cases c' with
      | op _ => exact (show False from hy).elim
      | ex c' =>
        have hy' := (show y' = _ from hy); subst hy'
        exact guardless (by rcases hop with rfl | rfl <;> rfl) (by rcases hop with rfl | rfl <;> rfl)
    · rename_i b
      have hx' := (show x' = _ from hx); subst hx'
      cases b with
      | none =>
        have hy' := (show y' = _ from hy); subst hy'
        exact guardless (by rcases hop with rfl | rfl <;> rfl) (by rcases hop with rfl | rfl <;> rfl)
      | some b =>
        obtain ⟨b', rfl, _⟩ := hy
        exact guardless (by rcases hop with rfl | rfl <;> rfl) (by rcases hop with rfl | rfl <;> rfl)
    · obtain ⟨b', rfl, _⟩ := hx
      have hy' := (show y' = _ from hy); subst hy'
      exact guardless (by rcases hop with rfl | rfl <;> rfl) (by rcases hop with rfl | rfl <;> rfl)
    · have hx' := (show x' = _ from hx); have hy' := (show y' = _ from hy); subst hx'; subst hy'
      exact guardless (by rcases hop with rfl | rfl <;> rfl) (by rcases hop with rfl | rfl <;> rfl)
    · have hx' := (show x' = _ from hx); subst hx'
      obtain ⟨p', q', rfl, _⟩ := hy
      exact guardless (by rcases hop with rfl | rfl <;> rfl) (by rcases hop with rfl | rfl <;> rfl)
    · have hy' := (show y' = _ from hy); subst hy'
      obtain ⟨p', q', rfl, _⟩ := hx
      exact guardless (by rcases hop with rfl | rfl <;> rfl) (by rcases hop with rfl | rfl <;> rfl)
    · have hx' := (show x' = _ from hx); have hy' := (show y' = _ from hy); subst hx'; subst hy'
      refine guardless ?_ (by rcases hop with rfl | rfl <;> rfl)
      have hcc := hc rfl
      clear hc guardless direct
      cases xo <;> cases yo <;> first
        | (exfalso; simp [isConstNil] at hcc; done)
        | (rcases hop with rfl | rfl <;> rfl)
    · have hx' := (show x' = _ from hx); subst hx'
      obtain ⟨z, rfl, _⟩ := hy
      exact guardless (by rcases hop with rfl | rfl <;> rfl) (by rcases hop with rfl | rfl <;> rfl)
    · have hy' := (show y' = _ from hy); subst hy'
      obtain ⟨z, rfl, _⟩ := hx
      exact guardless (by rcases hop with rfl | rfl <;> rfl) (by rcases hop with rfl | rfl <;> rfl)
    · cases he

section ops
variable {E : Env} {a : Act} {o : Oper} {v : Val} {s' : St}

theorem sound_binOp (h : R W0 φ s w) (hE : ERel φ E a.tmps) (hG : GRel φ P.globals.size) {b : BinOp} {t yt : TypeId} {x y : Operand} (hop : o.op = .binOp b t x y yt) {o' : AOp} (hc : compOp P o = some o')
    (he : evOp o' E s = some (v, s')) : Done P W0 φ s w ((Go.execOp a.eval o).run P w) v s' := by
  simp only [compOp, hop] at hc
  split at hc
  case h_2 => cases hc
  rename_i x' y' hx hy
  have hxv := opd_sound hE hG hx
  have hyv := opd_sound hE hG hy
  have eqCase : ∀ (neg : Bool) (k : EqK), eqKind P t x y = some k → (b = .eql ∨ b = .neq) → neg = (b == .neq) → o' = .eq k neg x' y' → Done P W0 φ s w ((Go.execOp a.eval o).run P w) v s' := by
    rintro neg k hk hb rfl rfl
    simp only [evOp, Option.map_eq_some_iff, Prod.mk.injEq] at he
    obtain ⟨r, h1, rfl, rfl⟩ := he
    have hs := eqKind_sound hk
    have := eq_sound (P := P) h hs.1 hs.2 hxv hyv h1 b hb
    refine Done.val h (v' := .bool (if b == .neq then !r else r)) ?_ rfl
    simp only [Go.execOp, hop, Go.Sem.run_bind] at this ⊢
    rw [this]
    simp
  split at hc
  · split at hc
    case h_2 => cases hc
    rename_i k hk
    injection hc with hc
    exact eqCase false k hk (.inl rfl) rfl hc.symm
  · split at hc
    case h_2 => cases hc
    rename_i k hk
    injection hc with hc
    exact eqCase true k hk (.inr rfl) rfl hc.symm
  · rename_i hne1 hne2
    have fin : o' = .bin b x' y' → Done P W0 φ s w ((Go.execOp a.eval o).run P w) v s' := by
      rintro rfl
      simp only [evOp, Option.map_eq_some_iff, Prod.mk.injEq] at he
      obtain ⟨v1, h1, rfl, rfl⟩ := he
      have hb1 : b ≠ .eql := by rintro rfl; exact hne1 rfl
      have hb2 : b ≠ .neq := by rintro rfl; exact hne2 rfl
      obtain ⟨v', h2, h3⟩ := binOp_sound (P := P) h1 hb1 hb2 hxv hyv w t
      refine Done.val h (v' := v') ?_ h3
      have hg : (Go.eqGuard b t x y (a.eval x) (a.eval y)).run P w = .ok () w := by
        cases b <;> first | rfl | exact absurd rfl hb1 | exact absurd rfl hb2
      simp only [Go.execOp, hop, Go.Sem.run_bind, hg, Go.Result.andThen_ok, h2]
      rfl
    split at hc
    all_goals first | (injection hc with hc; exact fin hc.symm) | (cases hc)
end ops
end Am
