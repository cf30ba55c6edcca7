/- Each operation of the abstract machine stands for the model's: comparisons. -/
import Derived.Test.YtbmfehgkbgdajaaGreatDoorAmOp8
import Derived.Laws.StructEq
import Derived.ChangeKeysEq
set_option linter.all false
namespace Am
open Go (IntKind BinOp UnOp FuncId TypeId Program Value World Addr Obj Operand Oper Op Sem Act)

variable {W0 : Ctx} {φ : Phi} {s : St} {w w' : World} {P : Program}

/-- the type of a cell that is compared -/
def LKT (P : Program) (t : TypeId) : LK → Prop
  | .bool => P.underlying t = some .bool
  | .int => ∃ k, P.underlying t = some (.int k)
  | .str => P.underlying t = some .string
  | .ptr => ∃ e n, P.underlying t = some (.pointer e) ∧ sizeOf P e = some (n + 1)

theorem addr_beq (c o o' : Nat) : ((⟨c, o, none⟩ : Addr) == ⟨c, o', none⟩) = (o == o') := by
  by_cases h : o = o'
  · subst h; simp
  · have h1 : (⟨c, o, none⟩ : Addr) ≠ ⟨c, o', none⟩ := by intro e; injection e; contradiction
    rw [beq_eq_false_iff_ne.2 h1, beq_eq_false_iff_ne.2 h]

theorem sameAddr_sound (h : R W0 φ s w) {a b : Nat × Nat} {a' b' : Addr} (ha : ARel φ a a') (hb : ARel φ b b') {r : Bool} (he : eqAddr s a b = some r) : (Go.sameAddr a' b').run P w = .ok r w := by
  unfold eqAddr at he
  split at he
  case h_2 => cases he
  rename_i ra hra
  obtain ⟨c, sz, arr, et, fr, hc, hw, hrow⟩ := h.row hra ha.notUnk
  rw [ha.eq hc]
  split at he
  · rename_i hab
    injection he with he; subst he
    rw [hb.eq (by rw [← hab]; exact hc)]
    simp only [Go.sameAddr, beq_self_eq_true, if_true]
    rw [addr_beq]
    rfl
  · rename_i hab
    split at he
    case h_2 => cases he
    rename_i rb hrb
    split at he
    case isFalse => cases he
    rename_i hcond
    injection he with he; subst he
    obtain ⟨c', sz', arr', et', fr', hc', hw', hrow'⟩ := h.row hrb hb.notUnk
    rw [hb.eq hc']
    have hne : c ≠ c' := by
      intro e; subst e
      rcases hcond.1 with h1 | h1
      · exact hab (h.inj a.1 b.1 c sz sz' _ hc hc' (row?_some hra) h1).symm
      · exact hab (h.inj b.1 a.1 c sz' sz _ hc' hc (row?_some hrb) h1)
    have hf : fr = (0, 0) := hrow.2.2.2.2.1 hcond.2.1
    have hf' : fr' = (0, 0) := hrow'.2.2.2.2.1 hcond.2.2
    subst hf; subst hf'
    have hbq : ((⟨c, a.2, none⟩ : Addr).block == (⟨c', b.2, none⟩ : Addr).block) = false := by simpa using hne
    simp only [Go.sameAddr, hbq, Bool.false_eq_true, if_false, Go.Sem.run_bind, Go.run_frozen, Go.Result.andThen_ok, frozen_of hw, frozen_of hw', Go.noView, viewAt_cells (o := 0) hw, viewAt_cells (o := 0) hw',
      Go.mayBeOne, Go.stringish, Go.run_shape, World.shape?]
    simp [hw, hw', frozen_of hw, frozen_of hw', viewAt_cells (P := P) (o := 0) hw, viewAt_cells (P := P) (o := 0) hw', World.shape?]

theorem eqLeaf_sound (h : R W0 φ s w) {t : TypeId} {k : LK} (hk : LKT P t k) {x y : Val} {x' y' : Value} (hx : VRel φ x x') (hy : VRel φ y y') {r : Bool} (he : eqLeaf s k x y = some r) (d : Nat) :
    (Go.Op.equalIn (d + 1) t x' y').run P w = .ok r w := by
  unfold eqLeaf at he
  split at he
  · injection he with he; subst he
    rw [show x' = _ from hx, show y' = _ from hy]
    exact Go.run_equalIn_bool' w d t _ _ hk
  · split at he
    case isFalse => cases he
    rename_i hkk
    subst hkk
    injection he with he; subst he
    rw [show x' = _ from hx, show y' = _ from hy]
    obtain ⟨k', hk'⟩ := hk
    exact Go.run_equalIn_int w d t _ k' _ _ hk'
  · injection he with he; subst he
    rw [show x' = _ from hx, show y' = _ from hy]
    rw [Go.run_equalIn_string w d t _ _ hk]
    simp
  · rename_i b
    injection he with he; subst he
    rw [show x' = _ from hx]
    obtain ⟨e, n, hu, hn⟩ := hk
    cases b with
    | none => rw [show y' = _ from hy]; simp [Go.Op.equalIn, run_under hu]
    | some b => obtain ⟨b', rfl, _⟩ := hy; simp [Go.Op.equalIn, run_under hu]
  · injection he with he; subst he
    obtain ⟨a', rfl, _⟩ := hx
    rw [show y' = _ from hy]
    obtain ⟨e, n, hu, hn⟩ := hk
    simp [Go.Op.equalIn, run_under hu]
  · rename_i a b
    obtain ⟨a', rfl, ha⟩ := hx
    obtain ⟨b', rfl, hb⟩ := hy
    obtain ⟨e, n, hu, hn⟩ := hk
    simp [Go.Op.equalIn, run_under hu, run_size hn, sameAddr_sound (P := P) h ha hb he]
  · cases he

/-! ### Aggregates -/

theorem eqCells_append (xs ys : List Val) : ∀ (l1 l2 : List (Nat × LK)), eqCells s xs ys (l1 ++ l2) = (match eqCells s xs ys l1 with
    | some true => eqCells s xs ys l2
    | r => r)
  | [], l2 => by simp [eqCells]
  | (o, k) :: r, l2 => by
    simp only [List.cons_append, eqCells]
    split
    · split
      · exact eqCells_append xs ys r l2
      · rfl
      · rfl
    · rfl

theorem eqCells_window (xs ys : List Val) (o n : Nat) (hx : o + n ≤ xs.length) (hy : o + n ≤ ys.length) : ∀ (l : List (Nat × LK)), (l.all fun p => decide (p.1 < n)) = true →
    eqCells s xs ys (l.map fun p => (o + p.1, p.2)) = eqCells s (seg xs o n) (seg ys o n) l
  | [], _ => rfl
  | (i, k) :: r, h => by
    simp only [List.all_cons, Bool.and_eq_true, decide_eq_true_eq] at h
    have e1 : (seg xs o n)[i]? = xs[o + i]? := by simp [seg, List.getElem?_take_of_lt h.1]
    have e2 : (seg ys o n)[i]? = ys[o + i]? := by simp [seg, List.getElem?_take_of_lt h.1]
    simp only [List.map_cons, eqCells, e1, e2, eqCells_window xs ys o n hx hy r h.2]

/-- a value of a type, and its cells -/
def IsVal (P : Program) (t : TypeId) (X : Array Value) (v : Value) : Prop := (isAgg P t = some true ∧ v = .agg X) ∨ (isAgg P t = some false ∧ X = #[v])

theorem isAgg_some {t : TypeId} {d : Go.TypeDesc} (h : P.underlying t = some d) : isAgg P t = some true ∨ isAgg P t = some false := by
  unfold isAgg; rw [h]; cases d <;> simp

theorem part_isVal {t : TypeId} {d : Go.TypeDesc} (hu : P.underlying t = some d) {n : Nat} (hn : sizeOf P t = some n) (hn1 : isAgg P t = some false → n = 1) (X : Array Value) {o : Nat} (ho : o + n ≤ X.size) (w : World) :
    ∃ v, (Go.part t X o).run P w = .ok v w ∧ IsVal P t (X.extract o (o + n)) v := by
  rcases isAgg_some hu with h | h
  · exact ⟨.agg (X.extract o (o + n)), by simp [Go.part, run_isAgg h, run_size hn], .inl ⟨h, rfl⟩⟩
  · have := hn1 h; subst this
    refine ⟨X[o], ?_, .inr ⟨h, ?_⟩⟩
    · have hg : X[o]? = some X[o] := Array.getElem?_eq_getElem (by omega)
      simp only [Go.part, Go.Sem.run_bind, run_isAgg h, Go.Result.andThen_ok, Bool.false_eq_true, if_false, hg, Go.Sem.run_pure]
    · apply Array.ext
      · simp; omega
      · intro i h1 h2
        simp at h2; subst h2
        simp

theorem leaves_scalar {d : Nat} {t : TypeId} {l : List (Nat × LK)} (h : leaves P d t = some l) {n : Nat} (hn : sizeOf P t = some n) (ha : isAgg P t = some false) : n = 1 := by
  cases d with
  | zero => simp [leaves] at h
  | succ d =>
    unfold leaves at h
    unfold isAgg at ha
    split at h
    · rename_i h1 h2; rw [hn] at h2; injection h2
    · rename_i h1 h2; rw [hn] at h2; injection h2
    · rename_i h1 h2; rw [hn] at h2; injection h2
    · rename_i h1 h2; rw [hn] at h2; injection h2
    · rename_i h1 h2; rw [h1] at ha; simp at ha
    · rename_i h1 h2; rw [h1] at ha; simp at ha
    · cases h

theorem equal_fields (D : Nat) (XS YS : Array Value) (xs ys : List Val) (n : Nat) (hX : VsRel φ xs XS.toList) (hY : VsRel φ ys YS.toList) (hxl : xs.length = n) (hyl : ys.length = n) (d : Nat)
    (ih : ∀ t l k, leaves P d t = some l → sizeOf P t = some k → ∀ (xs ys : List Val) (X Y : Array Value) (x y : Value), xs.length = k → ys.length = k → VsRel φ xs X.toList → VsRel φ ys Y.toList → IsVal P t X x → IsVal P t Y y →
      ∀ r, eqCells s xs ys l = some r → (Go.Op.equalIn D t x y).run P w = .ok r w) :
    ∀ (fs : List Go.Field) (ls : List (List (Nat × LK))), listM (fun (f : Go.Field) => if f.name = "_" then none else match leaves P d f.type, sizeOf P f.type with
        | some l, some k => if f.offset + k ≤ n ∧ l.all (fun p => decide (p.1 < k)) = true then some (l.map fun p => (f.offset + p.1, p.2)) else none
        | _, _ => none) fs = some ls → ∀ r, eqCells s xs ys ls.flatten = some r → (Go.Op.eqFields D XS YS fs).run P w = .ok r w
  | [], ls, hl, r, hr => by
    simp [listM] at hl; subst hl
    simp [eqCells] at hr; subst hr
    rfl
  | f :: fs, ls, hl, r, hr => by
    simp only [listM] at hl
    split at hl
    case h_2 => cases hl
    rename_i lf hlf
    split at hl
    case h_2 => cases hl
    rename_i m hm
    injection hl with hl; subst hl
    split at hlf
    · cases hlf
    · rename_i hname
      split at hlf
      case h_2 => cases hlf
      rename_i l k hlv hsz
      split at hlf
      case isFalse => cases hlf
      rename_i hcond
      injection hlf with hlf; subst hlf
      simp only [List.flatten_cons, eqCells_append] at hr
      rw [eqCells_window xs ys f.offset k (by omega) (by omega) l hcond.2] at hr
      have hun : ∃ dd, P.underlying f.type = some dd := by
        cases d with
        | zero => simp [leaves] at hlv
        | succ d =>
          unfold leaves at hlv
          cases hu : P.underlying f.type with
          | none => rw [hu] at hlv; simp at hlv
          | some dd => exact ⟨dd, rfl⟩
      obtain ⟨dd, hun⟩ := hun
      have hXl := hX.length
      have hYl := hY.length
      simp only [Array.length_toList] at hXl hYl
      obtain ⟨a, pa, va⟩ := part_isVal (P := P) hun hsz (leaves_scalar hlv hsz) XS (o := f.offset) (by omega) w
      obtain ⟨b, pb, vb⟩ := part_isVal (P := P) hun hsz (leaves_scalar hlv hsz) YS (o := f.offset) (by omega) w
      have hsx : VsRel φ (seg xs f.offset k) (XS.extract f.offset (f.offset + k)).toList := by
        have := hX.seg f.offset k; simpa [List.extract_eq_take_drop] using this
      have hsy : VsRel φ (seg ys f.offset k) (YS.extract f.offset (f.offset + k)).toList := by
        have := hY.seg f.offset k; simpa [List.extract_eq_take_drop] using this
      have key := ih f.type l k hlv hsz (seg xs f.offset k) (seg ys f.offset k) _ _ a b (by simp [seg]; omega) (by simp [seg]; omega) hsx hsy va vb
      simp only [Go.Op.eqFields, if_pos hname, Go.Sem.run_bind, pa, pb, Go.Result.andThen_ok]
      cases he : eqCells s (seg xs f.offset k) (seg ys f.offset k) l with
      | none => rw [he] at hr; cases hr
      | some q =>
        rw [he] at hr
        rw [key q he]
        cases q
        · injection hr with hr; subst hr; rfl
        · simp only [Go.Result.andThen_ok, Bool.not_true, Bool.false_eq_true, if_false]
          exact equal_fields D XS YS xs ys n hX hY hxl hyl d ih fs m hm r hr

theorem equal_items (D : Nat) (XS YS : Array Value) (xs ys : List Val) (n : Nat) (hX : VsRel φ xs XS.toList) (hY : VsRel φ ys YS.toList) (hxl : xs.length = n) (hyl : ys.length = n) (d : Nat) (e : TypeId) (k : Nat) (l : List (Nat × LK))
    (hlv : leaves P d e = some l) (hsz : sizeOf P e = some k) (hall : l.all (fun p => decide (p.1 < k)) = true)
    (ih : ∀ (xs ys : List Val) (X Y : Array Value) (x y : Value), xs.length = k → ys.length = k → VsRel φ xs X.toList → VsRel φ ys Y.toList → IsVal P e X x → IsVal P e Y y →
      ∀ r, eqCells s xs ys l = some r → (Go.Op.equalIn D e x y).run P w = .ok r w) :
    ∀ (is : List Nat), (∀ i ∈ is, (i + 1) * k ≤ n) → ∀ r, eqCells s xs ys (is.flatMap fun i => l.map fun p => (i * k + p.1, p.2)) = some r → (Go.Op.eqItems D e k XS YS is).run P w = .ok r w
  | [], _, r, hr => by simp [eqCells] at hr; subst hr; rfl
  | i :: is, hi, r, hr => by
    have hik : i * k + k ≤ n := by have := hi i (by simp); rw [Nat.succ_mul] at this; exact this
    simp only [List.flatMap_cons, eqCells_append] at hr
    rw [eqCells_window xs ys (i * k) k (by omega) (by omega) l hall] at hr
    have hun : ∃ dd, P.underlying e = some dd := by
      cases d with
      | zero => simp [leaves] at hlv
      | succ d =>
        unfold leaves at hlv
        cases hu : P.underlying e with
        | none => rw [hu] at hlv; simp at hlv
        | some dd => exact ⟨dd, rfl⟩
    obtain ⟨dd, hun⟩ := hun
    have hXl := hX.length
    have hYl := hY.length
    simp only [Array.length_toList] at hXl hYl
    obtain ⟨a, pa, va⟩ := part_isVal (P := P) hun hsz (leaves_scalar hlv hsz) XS (o := i * k) (by omega) w
    obtain ⟨b, pb, vb⟩ := part_isVal (P := P) hun hsz (leaves_scalar hlv hsz) YS (o := i * k) (by omega) w
    have hsx : VsRel φ (seg xs (i * k) k) (XS.extract (i * k) (i * k + k)).toList := by
      have := hX.seg (i * k) k; simpa [List.extract_eq_take_drop] using this
    have hsy : VsRel φ (seg ys (i * k) k) (YS.extract (i * k) (i * k + k)).toList := by
      have := hY.seg (i * k) k; simpa [List.extract_eq_take_drop] using this
    have key := ih (seg xs (i * k) k) (seg ys (i * k) k) _ _ a b (by simp [seg]; omega) (by simp [seg]; omega) hsx hsy va vb
    simp only [Go.Op.eqItems, Go.Sem.run_bind, pa, pb, Go.Result.andThen_ok]
    cases he : eqCells s (seg xs (i * k) k) (seg ys (i * k) k) l with
    | none => rw [he] at hr; cases hr
    | some q =>
      rw [he] at hr
      rw [key q he]
      cases q
      · injection hr with hr; subst hr; rfl
      · simp only [Go.Result.andThen_ok, Bool.not_true, Bool.false_eq_true, if_false]
        exact equal_items D XS YS xs ys n hX hY hxl hyl d e k l hlv hsz hall ih is (fun j hj => hi j (by simp [hj])) r hr

theorem equal_sound (h : R W0 φ s w) : ∀ (d : Nat) (t : TypeId) (l : List (Nat × LK)) (n : Nat), leaves P d t = some l → sizeOf P t = some n → ∀ (D : Nat), d ≤ D → ∀ (xs ys : List Val) (X Y : Array Value) (x y : Value), xs.length = n → ys.length = n →
    VsRel φ xs X.toList → VsRel φ ys Y.toList → IsVal P t X x → IsVal P t Y y → ∀ r, eqCells s xs ys l = some r → (Go.Op.equalIn D t x y).run P w = .ok r w := by
  intro d
  induction d with
  | zero => intro t l n hl; simp [leaves] at hl
  | succ d ih =>
    intro t l n hl hn D hD xs ys X Y x y hxl hyl hX hY hx hy r hr
    obtain ⟨D, rfl⟩ : ∃ D', D = D' + 1 := ⟨D - 1, by omega⟩
    have leafCase : ∀ k, LKT P t k → isAgg P t = some false → l = [(0, k)] → n = 1 → (Go.Op.equalIn (D + 1) t x y).run P w = .ok r w := by
      intro k hk ha hl1 hn1
      subst hl1; subst hn1
      obtain ⟨x0, rfl⟩ := List.length_eq_one_iff.1 hxl
      obtain ⟨y0, rfl⟩ := List.length_eq_one_iff.1 hyl
      have hx1 : X = #[x] := by
        rcases hx with hx | hx
        · rw [ha] at hx; cases hx.1
        · exact hx.2
      have hy1 : Y = #[y] := by
        rcases hy with hy | hy
        · rw [ha] at hy; cases hy.1
        · exact hy.2
      subst hx1; subst hy1
      obtain ⟨_, e1, hx2⟩ := rel1 hX
      obtain ⟨_, e2, hy2⟩ := rel1 hY
      injection e1 with e1; subst e1
      injection e2 with e2; subst e2
      simp only [eqCells, List.getElem?_cons_zero] at hr
      cases he : eqLeaf s k x0 y0 with
      | none => rw [he] at hr; cases hr
      | some q =>
        rw [he] at hr
        have := eqLeaf_sound (P := P) h hk hx2 hy2 he D
        cases q <;> (injection hr with hr; subst hr; exact this)
    unfold leaves at hl
    split at hl
    · rename_i hu hs1
      injection hl with hl
      exact leafCase .bool hu (by simp [isAgg, hu]) hl.symm (by rw [hn] at hs1; injection hs1)
    · rename_i k hu hs1
      injection hl with hl
      exact leafCase .int ⟨k, hu⟩ (by simp [isAgg, hu]) hl.symm (by rw [hn] at hs1; injection hs1)
    · rename_i hu hs1
      injection hl with hl
      exact leafCase .str hu (by simp [isAgg, hu]) hl.symm (by rw [hn] at hs1; injection hs1)
    · rename_i e hu hs1
      split at hl
      case h_2 => cases hl
      rename_i m hm
      injection hl with hl
      exact leafCase .ptr ⟨e, m, hu, hm⟩ (by simp [isAgg, hu]) hl.symm (by rw [hn] at hs1; injection hs1)
    · rename_i fs n' hu hs1
      rw [hn] at hs1; injection hs1 with hs1; subst hs1
      split at hl
      · cases hl
      · rename_i hst
        simp only [Option.map_eq_some_iff] at hl
        obtain ⟨ls, hls, rfl⟩ := hl
        have ha : isAgg P t = some true := by simp [isAgg, hu]
        have hx1 : x = .agg X := by
          rcases hx with hx | hx
          · exact hx.2
          · rw [ha] at hx; cases hx.1
        have hy1 : y = .agg Y := by
          rcases hy with hy | hy
          · exact hy.2
          · rw [ha] at hy; cases hy.1
        subst hx1; subst hy1
        have hfo : P.fieldsOf t = fs := by simp [Program.fieldsOf, hu]
        rw [Go.run_equalIn_struct w D t X Y (by rw [hfo]; exact hu) (by simpa using hst), hfo]
        exact equal_fields D X Y xs ys n hX hY hxl hyl d (fun t l k h1 h2 => ih t l k h1 h2 D (by omega)) fs.toList ls hls r hr
    · rename_i m e n' hu hs1
      rw [hn] at hs1; injection hs1 with hs1; subst hs1
      split at hl
      case h_2 => cases hl
      rename_i le k hle hk
      split at hl
      case isFalse => cases hl
      rename_i hcond
      injection hl with hl; subst hl
      have ha : isAgg P t = some true := by simp [isAgg, hu]
      have hx1 : x = .agg X := by
        rcases hx with hx | hx
        · exact hx.2
        · rw [ha] at hx; cases hx.1
      have hy1 : y = .agg Y := by
        rcases hy with hy | hy
        · exact hy.2
        · rw [ha] at hy; cases hy.1
      subst hx1; subst hy1
      have hi := hk
      simp only [sizeOf, Option.map_eq_some_iff] at hi
      obtain ⟨i, hi, hi2⟩ := hi
      have hco : P.cellsOf e = k := by simp [Program.cellsOf, hi, hi2]
      rw [Go.run_equalIn_array w D X Y hu hi, hco]
      refine equal_items D X Y xs ys n hX hY hxl hyl d e k le hle hk hcond.2 (fun xs ys X Y x y h1 h2 h3 h4 h5 h6 => ih e le k hle hk D (by omega) xs ys X Y x y h1 h2 h3 h4 h5 h6) _ ?_ r hr
      intro j hj
      have := List.mem_range.1 hj
      exact Nat.le_trans (Nat.mul_le_mul_right k (by omega : j + 1 ≤ m)) hcond.1
    · cases hl
end Am
