/- Each operation of the abstract machine stands for the model's. -/
import Derived.Test.YtbmfehgkbgdajaaGreatDoorAmStep
import Derived.Test.YtbmfehgkbgdajaaGreatDoorAmComp
import Derived.Laws.Cells
import Derived.Laws.Entries
import Derived.Laws.Strings
set_option linter.all false
namespace Am
open Go (IntKind BinOp UnOp FuncId TypeId Program Value World Addr Obj Operand Oper Op Sem Act)
open Go.Sem (run_bind run_pure)

variable {W0 : Ctx} {φ : Phi} {s : St} {w w' : World} {P : Program}

/-- the slots -/
def ERel (φ : Phi) (E : Env) (tmps : Array Value) : Prop := ∀ i, VRel φ (E.get i) (tmps.getD i Go.undef)

/-- the package-level variables lie where they lie -/
def GRel (φ : Phi) (n : Nat) : Prop := ∀ g, g < n → ARel φ (g, 0) ⟨g, 0, none⟩

theorem ERel.mono {φ' : Phi} (h : PLe φ φ') {E : Env} {t : Array Value} (hr : ERel φ E t) : ERel φ' E t := fun i => (hr i).mono h
theorem GRel.mono {φ' : Phi} (h : PLe φ φ') {n : Nat} (hr : GRel φ n) : GRel φ' n := fun g hg => (hr g hg).mono h

/-! ### Constants and operands -/

theorem listM_some {α β : Type} {f : α → Option β} : ∀ {l : List α} {l' : List β}, listM f l = some l' → l'.length = l.length ∧ ∀ (i : Nat) (a : α), l[i]? = some a → ∃ b, l'[i]? = some b ∧ f a = some b
  | [], l', h => by simp [listM] at h; subst h; simp
  | a :: r, l', h => by
    simp only [listM] at h
    split at h
    · rename_i b hb
      split at h
      · rename_i m hm
        injection h with h; subst h
        obtain ⟨h1, h2⟩ := listM_some hm
        refine ⟨by simp [h1], fun i x hx => ?_⟩
        cases i with
        | zero => simp at hx; subst hx; exact ⟨b, by simp, hb⟩
        | succ i => obtain ⟨c, h3, h4⟩ := h2 i x (by simpa using hx); exact ⟨c, by simpa using h3, h4⟩
      · cases h
    · cases h

theorem listM_rel {α : Type} {f : α → Option Val} {g : α → Value} : ∀ {l : List α} {l' : List Val}, (∀ a ∈ l, ∀ b, f a = some b → VRel φ b (g a)) → listM f l = some l' → VsRel φ l' (l.map g)
  | [], l', _, h => by simp [listM] at h; subst h; rfl
  | a :: r, l', hf, h => by
    simp only [listM] at h
    split at h
    · rename_i b hb
      split at h
      · rename_i m hm
        injection h with h; subst h
        exact ⟨g a, r.map g, rfl, hf a (by simp) b hb, listM_rel (fun x hx => hf x (by simp [hx])) hm⟩
      · cases h
    · cases h

theorem valOf_sound : ∀ {n : Nat} {v : Value} {v' : Val}, valOf n v = some v' → VRel φ v' v := by
  intro n
  induction n with
  | zero => intro v v' h; simp [valOf] at h
  | succ n ih =>
    intro v v' h
    cases v with
    | bool b => simp [valOf] at h; subst h; rfl
    | int k m => simp [valOf] at h; subst h; rfl
    | string x => simp [valOf] at h; subst h; simp [VRel]
    | pointer a => cases a with
      | none => simp [valOf] at h; subst h; rfl
      | some a => simp [valOf] at h
    | slice a len cap => cases a with
      | none =>
        cases len with
        | zero => cases cap with
          | zero => simp [valOf] at h; subst h; rfl
          | succ c => simp [valOf] at h
        | succ m => simp [valOf] at h
      | some a => simp [valOf] at h
    | map r => cases r with
      | none => simp [valOf] at h; subst h; rfl
      | some r => simp [valOf] at h
    | nilFunc => simp [valOf] at h; subst h; rfl
    | nilIface => simp [valOf] at h; subst h; rfl
    | agg cs =>
      simp only [valOf, Option.map_eq_some_iff] at h
      obtain ⟨l, h1, rfl⟩ := h
      refine ⟨cs, rfl, ?_⟩
      have := listM_rel (φ := φ) (g := id) (fun a _ b hb => ih hb) h1
      simpa using this
    | float => simp [valOf] at h
    | complex => simp [valOf] at h
    | chan => simp [valOf] at h
    | func => simp [valOf] at h
    | iface => simp [valOf] at h
    | tuple => simp [valOf] at h

theorem opd_sound {E : Env} {a : Act} (hE : ERel φ E a.tmps) (hG : GRel φ P.globals.size) {x : Operand} {x' : AOpd} (h : opdOf P x = some x') : VRel φ (x'.ev E) (a.eval x) := by
  cases x with
  | tmp t => simp [opdOf] at h; subst h; exact hE t
  | const v =>
    simp only [opdOf, Option.map_eq_some_iff] at h
    obtain ⟨v', h1, rfl⟩ := h
    exact valOf_sound h1
  | global g =>
    simp only [opdOf] at h
    split at h
    · rename_i hg; injection h with h; subst h; exact ⟨_, rfl, hG g hg⟩
    · cases h
  | func f => simp [opdOf] at h; subst h; exact ⟨#[], #[], rfl, rfl, rfl⟩

theorem opds_sound {E : Env} {a : Act} (hE : ERel φ E a.tmps) (hG : GRel φ P.globals.size) {l : List Operand} {l' : List AOpd} (h : listM (opdOf P) l = some l') : VsRel φ (evs E l') (l.map a.eval) := by
  induction l generalizing l' with
  | nil => simp [listM] at h; subst h; rfl
  | cons x r ih =>
    simp only [listM] at h
    split at h
    · rename_i b hb
      split at h
      · rename_i m hm
        injection h with h; subst h
        exact ⟨_, _, rfl, opd_sound hE hG hb, ih hm⟩
      · cases h
    · cases h

/-! ### Types -/

theorem run_under {t : TypeId} {d : Go.TypeDesc} (h : P.underlying t = some d) (w : World) : (Go.underlying t).run P w = .ok d w := Go.run_underlying h w
theorem run_size {t : TypeId} {n : Nat} (h : sizeOf P t = some n) (w : World) : (Go.sizeOf t).run P w = .ok n w := by
  simp only [sizeOf, Option.map_eq_some_iff] at h
  obtain ⟨i, h1, rfl⟩ := h
  simp [Go.sizeOf, Go.typeInfo, h1]
theorem run_bytes {t : TypeId} {n : Nat} (h : bytesOf P t = some n) (w : World) : ∃ i, (Go.typeInfo t).run P w = .ok i w ∧ i.bytes = n := by
  simp only [bytesOf, Option.map_eq_some_iff] at h
  obtain ⟨i, h1, rfl⟩ := h
  exact ⟨i, by simp [Go.typeInfo, h1], rfl⟩
theorem run_isAgg {t : TypeId} {b : Bool} (h : isAgg P t = some b) (w : World) : (Go.isAgg t).run P w = .ok b w := by
  unfold isAgg at h
  cases hu : P.underlying t with
  | none => rw [hu] at h; cases h
  | some d =>
    rw [hu] at h
    simp only [Go.isAgg, Go.Sem.run_bind, run_under hu, Go.Result.andThen_ok]
    cases d <;> simp at h <;> subst h <;> rfl

theorem loadK_some {t : TypeId} {k : Option Nat} (h : loadK P t = some k) : (k = none ∧ isAgg P t = some false) ∨ (∃ n, k = some n ∧ isAgg P t = some true ∧ sizeOf P t = some n) := by
  unfold loadK at h
  split at h
  · rename_i hb
    simp only [Option.map_eq_some_iff] at h
    obtain ⟨n, h1, rfl⟩ := h
    exact .inr ⟨n, rfl, hb, h1⟩
  · rename_i hb
    injection h with h; exact .inl ⟨h.symm, hb⟩
  · cases h

theorem zeroOf_some {t : TypeId} {z : List Val} (h : zeroOf P t = some z) (φ : Phi) : ∃ i zv, P.info? t = some i ∧ i.zero = some zv ∧ VsRel φ z zv.cells.toList ∧ z.length = i.size ∧ z.all Val.one = true := by
  unfold zeroOf at h
  split at h
  · rename_i i hi
    split at h
    · rename_i zv hz
      split at h
      · rename_i v hv
        split at h
        · rename_i hc
          injection h with h; subst h
          refine ⟨i, zv, hi, hz, ?_, hc.1, hc.2⟩
          refine VRel.cells ?_ (valOf_sound hv)
          intro e; subst e; simp [Val.cells, Val.one] at hc
        · cases h
      · cases h
    · cases h
  · cases h

theorem run_zero {t : TypeId} {i : Go.TypeInfo} {zv : Value} (h : P.info? t = some i) (hz : i.zero = some zv) (w : World) : (Go.zeroValue t).run P w = .ok zv w := by
  simp [Go.zeroValue, Go.typeInfo, h, hz]

/-! ### What an operation comes to -/

def Done (P : Program) (W0 : Ctx) (φ : Phi) (s : St) (w : World) (r : Go.Result Go.Next) (v : Val) (s' : St) : Prop :=
  ∃ φ' v' w', (r = .ok (.value v') w' ∨ (r = .ok .skip w' ∧ v' = Go.undef)) ∧ VRel φ' v v' ∧ Post W0 φ s w φ' s' w'

theorem Done.val (h : R W0 φ s w) {r : Go.Result Go.Next} {v : Val} {v' : Value} (hr : r = .ok (.value v') w) (hv : VRel φ v v') : Done P W0 φ s w r v s :=
  ⟨φ, v', w, .inl hr, hv, Post.refl h⟩

/-! ### Loads -/

theorem run_load1 (h : R W0 φ s w) {a : Nat × Nat} {a' : Addr} (ha : ARel φ a a') {v : Val} (hv : s.load1 a = some v) :
    ∃ v', (Go.load a').run P w = .ok v' w ∧ VRel φ v v' := by
  unfold St.load1 at hv
  split at hv
  · rename_i r hr
    obtain ⟨c, sz, arr, e, fr, hc, hw, hrel⟩ := h.row hr ha.notUnk
    obtain ⟨v', h1, h2⟩ := hrel.cell hv
    refine ⟨v', ?_, h2⟩
    rw [ha.eq hc]
    simp [cell_of hw, h1]
  · cases hv

theorem run_loadN' (h : R W0 φ s w) {a : Nat × Nat} {a' : Addr} (ha : ARel φ a a') {n : Nat} {l : List Val} (hl : s.loadN a n = some l) :
    ∃ l', (∀ w1 : World, w1.heap = w.heap → (Go.loadCells a' n).run P w1 = .ok l'.toArray w1) ∧ VsRel φ l l' ∧ l'.length = n := by
  unfold St.loadN at hl
  split at hl
  · rename_i r hr
    split at hl
    · rename_i hle
      injection hl with hl; subst hl
      obtain ⟨c, sz, arr, e, fr, hc, hw, hrel⟩ := h.row hr ha.notUnk
      have hlen : ((arr.toList.drop a.2).take n).length = n := by
        simp; have := hrel.1; have := hrel.2.1; omega
      refine ⟨(arr.toList.drop a.2).take n, ?_, hrel.seg hle, hlen⟩
      intro w1 hw1
      rw [ha.eq hc]
      have := Go.run_loadCells_list (P := P) w1 ⟨c, a.2, none⟩ ((arr.toList.drop a.2).take n) (fun j v hj => by
        rw [addr_add, cell_of (by rw [hw1]; exact hw)]
        rw [List.getElem?_take] at hj
        split at hj
        · simpa using hj
        · cases hj)
      rw [hlen] at this
      exact this
    · cases hl
  · cases hl

theorem run_loadN (h : R W0 φ s w) {a : Nat × Nat} {a' : Addr} (ha : ARel φ a a') {n : Nat} {l : List Val} (hl : s.loadN a n = some l) :
    ∃ l', (Go.loadCells a' n).run P w = .ok l'.toArray w ∧ VsRel φ l l' ∧ l'.length = n := by
  obtain ⟨l', h1, h2, h3⟩ := run_loadN' (P := P) h ha hl
  exact ⟨l', h1 w rfl, h2, h3⟩

theorem run_loadVar (h : R W0 φ s w) {t : TypeId} {k : Option Nat} (hk : loadK P t = some k) {a : Nat × Nat} {a' : Addr} (ha : ARel φ a a') {v : Val}
    (hv : s.loadK k a = some v) :
    ∃ v', (Go.loadVar t a').run P w = .ok v' w ∧ VRel φ v v' := by
  rcases loadK_some hk with ⟨rfl, h1⟩ | ⟨n, rfl, h1, h2⟩
  · obtain ⟨v', h3, h4⟩ := run_load1 (P := P) h ha hv
    exact ⟨v', by simp only [Go.loadVar, Go.Sem.run_bind, run_isAgg h1, Go.Result.andThen_ok, Bool.false_eq_true, if_false]; exact h3, h4⟩
  · simp only [St.loadK, Option.map_eq_some_iff] at hv
    obtain ⟨l, hl, rfl⟩ := hv
    obtain ⟨l', h3, h4, _⟩ := run_loadN (P := P) h ha hl
    refine ⟨.agg l'.toArray, ?_, ⟨_, rfl, by simpa using h4⟩⟩
    simp only [Go.loadVar, Go.Sem.run_bind, run_isAgg h1, Go.Result.andThen_ok, if_true, run_size h2, h3, Go.Sem.run_pure]

/-! ### Stores -/

def arrSplice (arr : Array Value) (o : Nat) (vs : List Value) : Array Value := (arr.toList.take o ++ vs ++ arr.toList.drop (o + vs.length)).toArray

theorem arrSplice_nil (arr : Array Value) (o : Nat) : arrSplice arr o [] = arr := by simp [arrSplice]

theorem arrSplice_size {arr : Array Value} {o : Nat} {vs : List Value} (h : o + vs.length ≤ arr.size) : (arrSplice arr o vs).size = arr.size := by
  simp [arrSplice]; omega

theorem arrSplice_cons {arr : Array Value} {o : Nat} {v : Value} {vs : List Value} (h : o + (vs.length + 1) ≤ arr.size) :
    arrSplice (arr.setIfInBounds o v) (o + 1) vs = arrSplice arr o (v :: vs) := by
  unfold arrSplice
  congr 1
  have hset : (arr.setIfInBounds o v).toList = arr.toList.take o ++ v :: arr.toList.drop (o + 1) := by
    rw [Array.toList_setIfInBounds, List.set_eq_take_append_cons_drop, if_pos (by simp; omega)]
  have hl : (arr.toList.take o).length = o := by simp; omega
  rw [hset]
  rw [show o + 1 = (arr.toList.take o).length + 1 by rw [hl]]
  rw [List.take_append, List.drop_append]
  simp only [hl]
  have e1 : List.take (o + 1) (List.take o arr.toList) = List.take o arr.toList := List.take_of_length_le (by rw [hl]; omega)
  have e2 : List.drop (o + 1 + vs.length) (List.take o arr.toList) = [] := List.drop_eq_nil_of_le (by rw [hl]; omega)
  rw [e1, e2, show o + 1 - o = 1 by omega, show o + 1 + vs.length - o = vs.length + 1 by omega]
  simp [List.drop_drop, Nat.add_comm, Nat.add_left_comm]

theorem run_storeCells (vs : List Value) : ∀ (c o i : Nat) (w : World) (arr : Array Value) (e : TypeId) (fr : Nat × Nat), w.heap[c]? = some (.cells arr e fr) → o + i + vs.length ≤ arr.size →
    (∀ j, o + i ≤ j → j < o + i + vs.length → ¬ (fr.1 ≤ j ∧ j < fr.2)) → (∀ v ∈ vs, v.oneCell' = true) →
    (Go.storeCells ⟨c, o, none⟩ vs i).run P w = .ok () { w with heap := w.heap.setIfInBounds c (.cells (arrSplice arr (o + i) vs) e fr) } := by
  induction vs with
  | nil =>
    intro c o i w arr e fr hw _ _ _
    have : w.heap.setIfInBounds c (.cells (arrSplice arr (o + i) []) e fr) = w.heap := by
      rw [arrSplice_nil]
      apply Array.ext_getElem?
      intro j
      by_cases hj : c = j
      · subst hj
        have hlt : c < w.heap.size := (Array.getElem?_eq_some_iff.1 hw).1
        rw [Array.getElem?_setIfInBounds_self_of_lt hlt, hw]
      · rw [Array.getElem?_setIfInBounds_ne hj]
    rw [this]
    rfl
  | cons v vs ih =>
    intro c o i w arr e fr hw hle hfr hone
    simp only [List.length_cons] at hle hfr
    have hlt : c < w.heap.size := (Array.getElem?_eq_some_iff.1 hw).1
    have hcell : w.cell? ((⟨c, o, none⟩ : Addr).add i) = some arr[o + i] := by
      rw [addr_add, cell_of hw, Array.getElem?_eq_getElem (by omega)]
    have hfz : w.frozen? ((⟨c, o, none⟩ : Addr).add i) = false := by
      rw [addr_add, frozen_of hw]
      have := hfr (o + i) (by omega) (by omega)
      simp only [Bool.and_eq_false_iff, decide_eq_false_iff_not]; omega
    have hset : w.setCell ((⟨c, o, none⟩ : Addr).add i) v = { w with heap := w.heap.setIfInBounds c (.cells (arr.setIfInBounds (o + i) v) e fr) } := by
      rw [addr_add]
      unfold World.setCell
      congr 1
      apply Array.ext_getElem?
      intro j
      by_cases hj : c = j
      · subst hj
        rw [Array.getElem?_setIfInBounds_self_of_lt hlt, Array.getElem?_modify, if_pos rfl, hw]
        simp
      · rw [Array.getElem?_setIfInBounds_ne hj, Array.getElem?_modify, if_neg hj]
    have h1 : (Go.store ((⟨c, o, none⟩ : Addr).add i) v).run P w = .ok () (w.setCell ((⟨c, o, none⟩ : Addr).add i) v) := by
      rw [Go.run_store P w _ v _ (hone v (by simp)), hcell]
      simp [hfz]
    unfold Go.storeCells
    simp only [Go.Sem.run_bind, h1, Go.Result.andThen_ok, hset]
    have h2 := ih c o (i + 1) { w with heap := w.heap.setIfInBounds c (.cells (arr.setIfInBounds (o + i) v) e fr) } (arr.setIfInBounds (o + i) v) e fr
      (by simp only []; rw [Array.getElem?_setIfInBounds_self_of_lt hlt]) (by simp; omega) (fun j h1 h2 => hfr j (by omega) (by omega)) (fun x hx => hone x (by simp [hx]))
    rw [h2]
    congr 2
    rw [Array.setIfInBounds_setIfInBounds, ← Nat.add_assoc, arrSplice_cons (by omega)]
end Am
