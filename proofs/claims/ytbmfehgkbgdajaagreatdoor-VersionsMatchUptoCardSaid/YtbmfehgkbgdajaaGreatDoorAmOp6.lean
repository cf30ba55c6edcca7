/- Each operation of the abstract machine stands for the model's: append and copy. -/
import Derived.Test.YtbmfehgkbgdajaaGreatDoorAmOp5
set_option linter.all false
namespace Am
open Go (IntKind BinOp UnOp FuncId TypeId Program Value World Addr Obj Operand Oper Op Sem Act)

variable {W0 : Ctx} {φ : Phi} {s : St} {w w' : World} {P : Program}

theorem bytesVals_rel (l : List UInt8) : VsRel φ (bytesVals l) (l.map fun b => Value.int .u8 b.toNat) := by
  induction l with
  | nil => rfl
  | cons b l ih => exact ⟨_, _, rfl, rfl, ih⟩

/-- the source of an append or a copy -/
theorem srcCells_sound (h : R W0 φ s w) {size n : Nat} {x : Val} {x' : Value} (hx : VRel φ x x') {l : List Val} (hs : srcCells s size x = some (n, l)) :
    (Go.Builtin.lenOf x').run P w = .ok n w ∧ ∃ l', (∀ w1 : World, w1.heap = w.heap → (Go.Builtin.firstCells size n x').run P w1 = .ok l'.toArray w1) ∧ VsRel φ l l' ∧ l'.length = n * size := by
  unfold srcCells at hs
  split at hs
  · rename_i len cap
    split at hs
    · rename_i hn
      simp only [Option.some.injEq, Prod.mk.injEq] at hs
      obtain ⟨rfl, rfl⟩ := hs
      subst hn
      cases cap with
      | ex c => rw [show x' = _ from hx]; exact ⟨rfl, [], fun _ _ => by simp [Go.Builtin.firstCells], rfl, by simp⟩
      | op e => exact (show False from hx).elim
    · cases hs
  · rename_i ad len cap
    simp only [Option.map_eq_some_iff, Prod.mk.injEq] at hs
    obtain ⟨l1, hl, rfl, rfl⟩ := hs
    obtain ⟨a', c', rfl, hnu⟩ := hx.slice_some
    refine ⟨rfl, ?_⟩
    have hA : ∀ c sz, φ ad.1 = .at c sz → (ARel φ ad a' ∨ len = 0) := by
      intro c sz hc
      cases cap with
      | ex c1 => obtain ⟨a2, e, hr⟩ := hx; injection e with e1; injection e1 with e1; subst e1; exact .inl hr
      | op e =>
        obtain ⟨a2, c2, e1, hr⟩ := hx
        injection e1 with e1 e2 e3; injection e1 with e1; subst e1; subst e3
        unfold SRel at hr; rw [hc] at hr
        rcases hr.2.2.2 with h4 | h4
        · exact .inl (by unfold ARel; rw [hc]; exact h4)
        · exact .inr (by omega)
    have hrow : ∃ r, s.row? ad.1 = some r := by
      unfold St.loadN at hl
      split at hl
      · rename_i r hr; exact ⟨r, hr⟩
      · cases hl
    obtain ⟨r, hr⟩ := hrow
    obtain ⟨c, sz, hc⟩ := h.at_of_get (row?_some hr) hnu
    rcases hA c sz hc with hr1 | h0
    · obtain ⟨l', h3, h4, h5⟩ := run_loadN' (P := P) h hr1 hl
      exact ⟨l', fun w1 hw1 => by simp [Go.Builtin.firstCells, h3 w1 hw1], h4, h5⟩
    · subst h0
      have hl0 : l1 = [] := by
        unfold St.loadN at hl; rw [hr] at hl
        simp [seg] at hl
        exact hl.2
      subst hl0
      exact ⟨[], fun _ _ => by simp [Go.Builtin.firstCells, Go.loadCells, Go.loadCellsFrom], rfl, by simp⟩
  · rename_i b
    split at hs
    case isFalse => cases hs
    rename_i hs1
    simp only [Option.some.injEq, Prod.mk.injEq] at hs
    obtain ⟨rfl, rfl⟩ := hs
    rw [show x' = _ from hx]
    refine ⟨by simp [Go.Builtin.lenOf, bytes_size], b.map fun c => .int .u8 c.toNat, ?_, bytesVals_rel b, by simp [hs1]⟩
    have e1 : (ByteArray.mk b.toArray).extract 0 b.length = ByteArray.mk b.toArray := by rw [bytes_extract]; simp
    intro w1 _
    simp [Go.Builtin.firstCells, e1]
  · cases hs

theorem allOne_iff {l : List Val} : allOne l = true ↔ l.all Val.one = true := Iff.rfl

/-- the capacity that a grown slice gets -/
def grown (w : World) (need old : Nat) (e : TypeId) : Nat := (Go.Question.appendCap need old e).cut (w.tape w.drawn (.appendCap need old e))

theorem grown_ge (w : World) (need old : Nat) (e : TypeId) : need ≤ grown w need old e := by simp [grown, Go.Question.cut]

theorem zeroCells_size (z : Array Value) (n : Nat) : (Go.Builtin.zeroCells z n).size = n * z.size := by simp [Go.Builtin.zeroCells]

theorem maxI64 : IntKind.i64.max = 9223372036854775807 := by simp [IntKind.max, IntKind.signed, IntKind.bits]

structure AppT (P : Program) (argTypes : Array TypeId) (e : TypeId) (size bytes : Nat) (i : Go.TypeInfo) (zv : Value) : Prop where
  st : ∃ st, argTypes[0]? = some st ∧ P.underlying st = some (.slice e)
  xt : ∃ xt d, argTypes[1]? = some xt ∧ P.underlying xt = some d ∧ ∀ k, d ≠ .int k
  info : P.info? e = some i
  hsize : i.size = size
  hbytes : i.bytes = bytes
  zero : i.zero = some zv
  zsize : zv.cells.size = size

theorem run_append_room {argTypes : Array TypeId} {e : TypeId} {size bytes : Nat} {i : Go.TypeInfo} {zv : Value} (T : AppT P argTypes e size bytes i zv) {base : Option Addr} {len cap n : Nat} {x' : Value} {l' : List Value} (ty : TypeId)
    (hlen : (Go.Builtin.lenOf x').run P w = .ok n w) (hcells : (Go.Builtin.firstCells size n x').run P w = .ok l'.toArray w) (hroom : len + n ≤ cap) :
    (Go.Builtin.append_ argTypes ty #[.slice base len cap, x']).run P w =
      (match base with
       | some a => (Go.storeCells (a.add (len * size)) l').run P w
       | none => .ok () w).andThen fun _ w' => .ok (.slice base (len + n) cap) w' := by
  obtain ⟨st, h1, h2⟩ := T.st
  obtain ⟨xt, d, h3, h4, h5⟩ := T.xt
  have hsz : sizeOf P e = some size := by simp [sizeOf, T.info, T.hsize]
  have hd : (Go.underlying xt).run P w = .ok d w := run_under h4 w
  simp only [Go.Builtin.append_, h1, h3, Go.Sem.run_bind, run_under h2, Go.Result.andThen_ok, run_size hsz, List.getElem?_toArray, List.getElem?_cons_zero, List.getElem?_cons_succ, Go.Sem.run_pure, hd]
  simp only [Bool.false_eq_true, if_false, Go.Sem.run_bind, hlen, Go.Result.andThen_ok, if_pos hroom, Bool.not_false, if_true, hcells]
  cases base with
  | none => simp
  | some a => simp

theorem run_append_grow {argTypes : Array TypeId} {e : TypeId} {size bytes : Nat} {i : Go.TypeInfo} {zv : Value} (T : AppT P argTypes e size bytes i zv) {base : Option Addr} {len cap n : Nat} {x' : Value} {l' old : List Value} (ty : TypeId)
    (hlen : (Go.Builtin.lenOf x').run P w = .ok n w) (hcells : ∀ w1 : World, w1.heap = w.heap → (Go.Builtin.firstCells size n x').run P w1 = .ok l'.toArray w1)
    (hold : ∀ w1 : World, w1.heap = w.heap → (Go.Builtin.firstCells size len (.slice base len cap)).run P w1 = .ok old.toArray w1) (hroom : ¬ len + n ≤ cap)
    (hb : (len + n) * bytes ≤ 140737488355328) (hm : len + n ≤ 140737488355328) :
    ∃ w', (Go.Builtin.append_ argTypes ty #[.slice base len cap, x']).run P w = .ok (.slice (some ⟨w.heap.size, 0, none⟩) (len + n) (grown w (len + n) cap e)) w' ∧
      w'.heap = w.heap.push (.cells ((old ++ l').toArray ++ Go.Builtin.zeroCells zv.cells (grown w (len + n) cap e - (len + n))) e) ∧ w'.os = w.os ∧ w'.output = w.output := by
  obtain ⟨st, h1, h2⟩ := T.st
  obtain ⟨xt, d, h3, h4, h5⟩ := T.xt
  have hsz : sizeOf P e = some size := by simp [sizeOf, T.info, T.hsize]
  have hd : ∀ w : World, (Go.underlying xt).run P w = .ok d w := fun w => run_under h4 w
  have hti : ∀ w : World, (Go.typeInfo e).run P w = .ok i w := fun w => by simp [Go.typeInfo, T.info]
  have hfit : ¬ Go.Builtin.nextslicecap (len + n) cap * i.bytes > 2 ^ 48 := by
    rw [T.hbytes]; have := Go.growslice_fits (need := len + n) (old := cap) (by omega) hb; omega
  have hmax : ¬ (((len + n : Nat) : Int) > IntKind.i64.max) := by rw [maxI64]; omega
  refine ⟨{ w with heap := w.heap.push (.cells ((old ++ l').toArray ++ Go.Builtin.zeroCells zv.cells (grown w (len + n) cap e - (len + n))) e), drawn := w.drawn + 1 }, ?_, rfl, rfl, rfl⟩
  simp only [Go.Builtin.append_, h1, h3, Go.Sem.run_bind, run_under h2, Go.Result.andThen_ok, run_size hsz, List.getElem?_toArray, List.getElem?_cons_zero, List.getElem?_cons_succ, Go.Sem.run_pure, hd]
  simp only [Bool.false_eq_true, if_false, Go.Sem.run_bind, hlen, Go.Result.andThen_ok, if_neg hroom, hti]
  rw [if_neg (fun hc => hmax hc.1)]
  simp only [hti, Go.Sem.run_bind, Go.Result.andThen_ok, if_neg hfit]
  simp only [Go.run_choose, Go.Question.forced, Bool.false_eq_true, if_false, Go.Result.andThen_ok, hti, Go.run_askRoom, Bool.not_false, if_true]
  rw [hold { w with drawn := w.drawn + 1 } rfl]
  simp only [Go.Result.andThen_ok]
  rw [hcells { w with drawn := w.drawn + 1 } rfl]
  simp only [Go.Result.andThen_ok]
  rw [run_zero T.info T.zero]
  simp [Go.newRow, grown]
  rfl

/-- the cells of an own slice -/
theorem own_cells (h : R W0 φ s w) {a : Nat × Nat} {a' : Addr} (ha : ARel φ a a') {size len cap : Nat} {l : List Val} (hl : s.loadN a (len * size) = some l) :
    ∃ l', (∀ w1 : World, w1.heap = w.heap → (Go.Builtin.firstCells size len (.slice (some a') len cap)).run P w1 = .ok l'.toArray w1) ∧ VsRel φ l l' ∧ l'.length = len * size := by
  obtain ⟨l', h3, h4, h5⟩ := run_loadN' (P := P) h ha hl
  exact ⟨l', fun w1 hw1 => by simp [Go.Builtin.firstCells, h3 w1 hw1], h4, h5⟩

/-- append, whatever is appended -/
theorem appendV_gen (h : R W0 φ s w) {argTypes : Array TypeId} {e : TypeId} {size bytes : Nat} {zv : Value} (hzs : zv.cells.size = size) (hpos : 0 < size) {x v : Val} {x' y' : Value} {n : Nat} {news : List Val} {l' : List Value} {s' : St} (ty : TypeId)
    (hx : VRel φ x x') (hrel : VsRel φ news l') (hll : l'.length = n * size)
    (HR : ∀ (base : Option Addr) (len cap : Nat), len + n ≤ cap → (Go.Builtin.append_ argTypes ty #[.slice base len cap, y']).run P w =
      (match base with
       | some a => (Go.storeCells (a.add (len * size)) l').run P w
       | none => .ok () w).andThen fun _ w' => .ok (.slice base (len + n) cap) w')
    (HG : ∀ (base : Option Addr) (len cap : Nat) (old : List Value), (∀ w1 : World, w1.heap = w.heap → (Go.Builtin.firstCells size len (.slice base len cap)).run P w1 = .ok old.toArray w1) → ¬ len + n ≤ cap →
      (len + n) * bytes ≤ 140737488355328 → len + n ≤ 140737488355328 →
      ∃ w', (Go.Builtin.append_ argTypes ty #[.slice base len cap, y']).run P w = .ok (.slice (some ⟨w.heap.size, 0, none⟩) (len + n) (grown w (len + n) cap e)) w' ∧
      w'.heap = w.heap.push (.cells ((old ++ l').toArray ++ Go.Builtin.zeroCells zv.cells (grown w (len + n) cap e - (len + n))) e) ∧ w'.os = w.os ∧ w'.output = w.output)
    (hv : appendV s e size bytes x n news = some (v, s')) :
    ∃ φ' v' w', (Go.Builtin.append_ argTypes ty #[x', y']).run P w = .ok v' w' ∧ VRel φ' v v' ∧ Post W0 φ s w φ' s' w' := by
  have hnl := hrel.length
  unfold appendV at hv
  split at hv
  · rename_i a len cap
    split at hv
    · rename_i hbd
      obtain ⟨hb, hm⟩ := hbd
      split at hv
      · -- nil
        rename_i c
        rw [show x' = _ from hx]
        split at hv
        · rename_i h0
          obtain ⟨rfl, rfl⟩ := h0
          split at hv
          · rename_i hn0
            subst hn0
            simp only [Option.some.injEq, Prod.mk.injEq] at hv
            obtain ⟨rfl, rfl⟩ := hv
            refine ⟨φ, .slice none 0 0, w, ?_, rfl, Post.refl h⟩
            rw [HR _ _ _ (by omega)]
            simp
          · rename_i hn0
            simp only [Option.some.injEq, Prod.mk.injEq] at hv
            obtain ⟨rfl, rfl⟩ := hv
            obtain ⟨w', h2, h3, h4, h5⟩ := HG none 0 0 [] (fun w1 _ => by simp [Go.Builtin.firstCells]) (by omega) hb hm
            simp only [Nat.zero_add] at h2 h3
            have hsz : ((([] : List Value) ++ l').toArray ++ Go.Builtin.zeroCells zv.cells (grown w n 0 e - n)).size = grown w n 0 e * size := by
              have hg := grown_ge w n 0 e
              simp only [List.nil_append, Array.size_append, List.size_toArray, zeroCells_size, hzs, hll]
              rw [← Nat.add_mul]; congr 1; omega
            refine ⟨_, _, w', h2, ?_, h.newRow true true (some e) ?_ ?_ h3 h4 h5 (noFrz _) (fun _ => rfl) (fun t ht => by injection ht)⟩
            · refine ⟨_, _, rfl, ?_⟩
              unfold SRel; rw [Phi.ext_same]
              refine ⟨hpos, grown_ge w n 0 e, ?_, .inl rfl⟩
              rw [hsz]; simp
            · simp; omega
            · simp only [List.nil_append, Array.toList_append, ← hnl]
              simpa using hrel
        · cases hv
      · -- an exact capacity
        rename_i c ad
        obtain ⟨a', rfl, hr⟩ := hx
        split at hv
        · rename_i hroom
          split at hv
          · rename_i hn0
            subst hn0
            simp only [Option.some.injEq, Prod.mk.injEq] at hv
            obtain ⟨rfl, rfl⟩ := hv
            have hl0 : l' = [] := List.eq_nil_of_length_eq_zero (by omega)
            subst hl0
            refine ⟨φ, .slice (some a') len c, w, ?_, ⟨a', rfl, hr⟩, Post.refl h⟩
            rw [HR _ _ _ (by omega)]
            simp [Go.storeCells]
          · simp only [Option.map_eq_some_iff, Prod.mk.injEq] at hv
            obtain ⟨s1, hs1, rfl, rfl⟩ := hv
            obtain ⟨w', h2, h3⟩ := run_storeN (P := P) h (hr.add (len * size)) hrel hs1
            refine ⟨φ, .slice (some a') (len + n) c, w', ?_, ⟨a', rfl, hr⟩, h3⟩
            rw [HR _ _ _ (by omega)]
            simp [h2]
        · rename_i hroom
          split at hv
          · rename_i old hold
            simp only [Option.some.injEq, Prod.mk.injEq] at hv
            obtain ⟨rfl, rfl⟩ := hv
            obtain ⟨ol, ho1, ho2, ho3⟩ := own_cells (P := P) (cap := c) h hr hold
            have hol := ho2.length
            obtain ⟨w', h2, h3, h4, h5⟩ := HG _ _ _ _ ho1 hroom hb hm
            have hsz : ((ol ++ l').toArray ++ Go.Builtin.zeroCells zv.cells (grown w (len + n) c e - (len + n))).size = grown w (len + n) c e * size := by
              have hg := grown_ge w (len + n) c e
              simp only [Array.size_append, List.size_toArray, List.length_append, zeroCells_size, hzs, hll, ho3]
              rw [← Nat.add_mul, ← Nat.add_mul]; congr 1; omega
            refine ⟨_, _, w', h2, ?_, h.newRow true true (some e) ?_ ?_ h3 h4 h5 (noFrz _) (fun _ => rfl) (fun t ht => by injection ht)⟩
            · refine ⟨_, _, rfl, ?_⟩
              unfold SRel; rw [Phi.ext_same]
              refine ⟨hpos, grown_ge w (len + n) c e, ?_, .inl rfl⟩
              rw [hsz]; simp
            · simp; omega
            · have := ho2.append hrel
              have e1 : (old ++ news).length = (ol ++ l').length := by simp; omega
              rw [e1]
              simpa [List.take_append, List.take_of_length_le (Nat.le_add_right ol.length l'.length)] using this
          · cases hv
      · -- to the end of its block
        rename_i e1 ad
        obtain ⟨a', c', rfl, hs⟩ := hx
        split at hv
        · rename_i hcond
          obtain ⟨rfl, ho⟩ := hcond
          split at hv
          · rename_i hn0
            subst hn0
            simp only [Option.some.injEq, Prod.mk.injEq] at hv
            obtain ⟨rfl, rfl⟩ := hv
            have hl0 : l' = [] := List.eq_nil_of_length_eq_zero (by omega)
            subst hl0
            have hnc : len ≤ c' := by
              unfold SRel at hs; split at hs
              · exact hs.2.1
              · exact hs
              · exact hs.elim
            refine ⟨φ, .slice (some a') len c', w, ?_, ⟨a', c', rfl, hs⟩, Post.refl h⟩
            rw [HR _ _ _ (by omega)]
            simp [Go.storeCells]
          · rename_i hn0
            split at hv
            · rename_i r hr
              have hnu : φ ad.1 ≠ .unk := by intro hu; unfold SRel at hs; rw [hu] at hs; exact hs
              obtain ⟨cc, sz, arr, et, fr, hcc, hw, hrow⟩ := h.row hr hnu
              have hs' := hs
              unfold SRel at hs
              rw [hcc] at hs
              obtain ⟨_, hnc, hsz, had⟩ := hs
              rw [ho, Nat.zero_add] at hsz
              have hcs := hrow.2.1
              split at hv
              · -- surely in place
                rename_i hfit
                simp only [Option.map_eq_some_iff, Prod.mk.injEq] at hv
                obtain ⟨s1, hs1, rfl, rfl⟩ := hv
                have hroom : len + n ≤ c' := by
                  have : (len + n) * e1 ≤ c' * e1 := by omega
                  exact Nat.le_of_mul_le_mul_right this hpos
                have had' : a' = ⟨cc, ad.2, none⟩ := by
                  rcases had with h4 | h4
                  · exact h4
                  · omega
                have hA : ARel φ ad a' := by rw [had']; exact ARel.mk hcc
                have hA2 : ARel φ (ad.1, len * e1) (a'.add (len * e1)) := by
                  have := hA.add (len * e1); rw [ho, Nat.zero_add] at this; exact this
                obtain ⟨w', h2, h3⟩ := run_storeN (P := P) h hA2 hrel hs1
                refine ⟨φ, .slice (some a') (len + n) c', w', ?_, ⟨a', c', rfl, ?_⟩, h3⟩
                · rw [HR _ _ _ hroom]
                  simp [h2]
                · unfold SRel; rw [hcc]; exact ⟨hpos, hroom, by rw [ho]; omega, .inl had'⟩
              · rename_i hfit
                split at hv
                · rename_i hc2
                  obtain ⟨hfl, hro, hfz, hle, hone⟩ := hc2
                  simp only [Option.some.injEq, Prod.mk.injEq] at hv
                  obtain ⟨rfl, rfl⟩ := hv
                  have htk : VsRel φ (r.cs.take (len * e1)) (arr.toList.take (len * e1)) := by
                    have := hrow.2.2.1.take (len * e1)
                    rw [List.take_take, Nat.min_eq_left hle] at this
                    exact this
                  have hcl : (r.cs.take (len * e1) ++ news).length = (len + n) * e1 := by
                    simp only [List.length_append, List.length_take, Nat.min_eq_left hle, Nat.add_mul]; omega
                  by_cases hroom : len + n ≤ c'
                  · -- in place
                    have had' : a' = ⟨cc, ad.2, none⟩ := by
                      rcases had with h4 | h4
                      · exact h4
                      · omega
                    have hmul : (len + n) * e1 ≤ c' * e1 := Nat.mul_le_mul_right _ hroom
                    have hmul2 : (len + n) * e1 = len * e1 + l'.length := by rw [Nat.add_mul, hll]
                    have hst := run_storeCells (P := P) l' cc (len * e1) 0 w arr et fr hw (by have := hrow.1; omega) (fun j h5 h6 => hrow.2.2.2.1 hro j (by omega) (by have := hrow.1; omega)) (VsRel.ones hone hrel)
                    have hlt : cc < w.heap.size := (Array.getElem?_eq_some_iff.1 hw).1
                    have hmv := h.move (w' := { w with heap := w.heap.setIfInBounds cc (.cells (arrSplice arr (len * e1 + 0) l') et fr) }) (x' := .row { cs := r.cs.take (len * e1) ++ news, opn := true, ro := false, frz := r.frz, clean := r.clean, elem := if r.elem = some e then some e else none })
                      hcc (row?_some hr) hro hfl rfl rfl rfl rfl
                    have hple : PLe φ ((φ.ext ad.1 .dead).ext s.next (.at cc sz)) := by
                      intro i
                      by_cases hi : i = s.next
                      · subst hi; exact .inl (h.fresh _ (Nat.le_refl _)).1
                      · rw [Phi.ext_ne _ _ hi]
                        by_cases hi : i = ad.1
                        · subst hi; exact .inr (.inr (Phi.ext_same _ _ _))
                        · exact .inr (.inl (Phi.ext_ne _ _ hi))
                    have hpost := hmv (by
                      refine ⟨arrSplice arr (len * e1 + 0) l', et, fr, ?_, ?_, ?_, ?_, fun _ => hrow.2.2.2.1 hro, hrow.2.2.2.2.1, ?_⟩
                      · rw [Array.getElem?_setIfInBounds_self_of_lt hlt]
                      · rw [arrSplice_size (by have := hrow.1; omega)]; exact hrow.1
                      · show (r.cs.take (len * e1) ++ news).length ≤ sz
                        rw [hcl]; omega
                      · show VsRel _ (r.cs.take (len * e1) ++ news) ((arrSplice arr (len * e1 + 0) l').toList.take (r.cs.take (len * e1) ++ news).length)
                        rw [hcl]
                        have e2 : (arrSplice arr (len * e1 + 0) l').toList.take ((len + n) * e1) = arr.toList.take (len * e1) ++ l' := by
                          have hl1 : (arr.toList.take (len * e1)).length = len * e1 := by simp; have := hrow.1; omega
                          simp only [arrSplice, Nat.add_zero]
                          rw [List.take_append, List.take_append]
                          rw [List.take_of_length_le (by rw [hl1]; omega : (arr.toList.take (len * e1)).length ≤ (len + n) * e1)]
                          rw [List.take_of_length_le (by rw [hl1]; omega : l'.length ≤ (len + n) * e1 - (arr.toList.take (len * e1)).length)]
                          simp [hl1]; omega
                        rw [e2]
                        exact (htk.append hrel).mono hple
                      · intro t ht
                        have ht' : (if r.elem = some e then some e else none) = some t := ht
                        split at ht'
                        · rename_i he; injection ht' with ht'; subst ht'; exact hrow.2.2.2.2.2 _ he
                        · cases ht')
                    refine ⟨_, .slice (some a') (len + n) c', _, ?_, ⟨a', c', rfl, ?_⟩, hpost⟩
                    · rw [HR _ _ _ hroom]
                      simp only [had', ho, addr_add, Nat.zero_add, hst, Go.Result.andThen_ok]
                    · unfold SRel; rw [Phi.ext_same]
                      exact ⟨hpos, hroom, by show 0 + c' * e1 = sz; omega, .inl (by rw [had', ho])⟩
                  · -- a new block
                    have hkill := h.kill hcc hfl
                    have hA : ARel φ ad a' ∨ len = 0 := by
                      rcases had with h4 | h4
                      · exact .inl (by rw [h4]; exact ARel.mk hcc)
                      · exact .inr (by omega)
                    have hold : s.loadN ad (len * e1) = some (r.cs.take (len * e1)) := by
                      unfold St.loadN
                      rw [hr]
                      simp only [ho, Nat.zero_add, hle, if_true, seg, List.drop_zero]
                    obtain ⟨ol, ho1, ho2, ho3⟩ : ∃ ol : List Value, (∀ w1 : World, w1.heap = w.heap → (Go.Builtin.firstCells e1 len (.slice (some a') len c')).run P w1 = .ok ol.toArray w1) ∧ VsRel φ (r.cs.take (len * e1)) ol ∧ ol.length = len * e1 := by
                      rcases hA with hA | hA
                      · exact own_cells (P := P) h hA hold
                      · subst hA
                        exact ⟨[], fun _ _ => by simp [Go.Builtin.firstCells, Go.loadCells, Go.loadCellsFrom], by simp [VsRel], by simp⟩
                    obtain ⟨w', h2, h3, h4, h5⟩ := HG _ _ _ _ ho1 hroom hb hm
                    have hsz2 : ((ol ++ l').toArray ++ Go.Builtin.zeroCells zv.cells (grown w (len + n) c' e - (len + n))).size = grown w (len + n) c' e * e1 := by
                      have hg := grown_ge w (len + n) c' e
                      simp only [Array.size_append, List.size_toArray, List.length_append, zeroCells_size, hzs, hll, ho3]
                      rw [← Nat.add_mul, ← Nat.add_mul]; congr 1; omega
                    have hal := hkill.rel.alloc (.row { cs := r.cs.take (len * e1) ++ news, opn := true, ro := false, frz := r.frz, clean := r.clean, elem := if r.elem = some e then some e else none }) _ ((ol ++ l').toArray ++ Go.Builtin.zeroCells zv.cells (grown w (len + n) c' e - (len + n))).size h3 h4 h5 (by
                      refine ⟨((ol ++ l').toArray ++ Go.Builtin.zeroCells zv.cells (grown w (len + n) c' e - (len + n))), e, (0, 0), by rw [h3]; simp, rfl, ?_, ?_, fun _ i _ _ hh => by simp at hh, fun _ => rfl, ?_⟩
                      · show (r.cs.take (len * e1) ++ news).length ≤ _
                        rw [hcl, hsz2]
                        exact Nat.mul_le_mul_right _ (grown_ge w (len + n) c' e)
                      · show VsRel _ (r.cs.take (len * e1) ++ news) _
                        have e1' : (r.cs.take (len * e1) ++ news).length = (ol ++ l').length := by rw [hcl]; simp [Nat.add_mul]; omega
                        rw [e1']
                        have := ((ho2.append hrel).mono hkill.ple).mono (hkill.rel.ple_ext (.at w.heap.size ((ol ++ l').toArray ++ Go.Builtin.zeroCells zv.cells (grown w (len + n) c' e - (len + n))).size))
                        simpa [List.take_append, List.take_of_length_le (Nat.le_add_right ol.length l'.length)] using this
                      · intro t ht
                        have ht' : (if r.elem = some e then some e else none) = some t := ht
                        split at ht'
                        · injection ht'
                        · cases ht')
                    refine ⟨_, _, w', h2, ?_, Post.trans h hkill hal⟩
                    refine ⟨_, _, rfl, ?_⟩
                    have hnx : (s.kill ad.1).next = s.next := rfl
                    unfold SRel; rw [← hnx, Phi.ext_same]
                    refine ⟨hpos, grown_ge w (len + n) c' e, ?_, .inl rfl⟩
                    rw [hsz2]; simp
                · cases hv
            · cases hv
        · cases hv
      · cases hv
    · cases hv
  · cases hv

theorem appendV_sound (h : R W0 φ s w) {argTypes : Array TypeId} {e : TypeId} {size bytes : Nat} {i : Go.TypeInfo} {zv : Value} (T : AppT P argTypes e size bytes i zv) (hpos : 0 < size) {x y v : Val} {x' y' : Value} {n : Nat} {news : List Val} {s' : St} (ty : TypeId)
    (hx : VRel φ x x') (hy : VRel φ y y') (hsrc : srcCells s size y = some (n, news)) (hv : appendV s e size bytes x n news = some (v, s')) :
    ∃ φ' v' w', (Go.Builtin.append_ argTypes ty #[x', y']).run P w = .ok v' w' ∧ VRel φ' v v' ∧ Post W0 φ s w φ' s' w' := by
  obtain ⟨hlen, l', hcells, hrel, hll⟩ := srcCells_sound (P := P) h hy hsrc
  exact appendV_gen h T.zsize hpos ty hx hrel hll (fun base len cap hroom => run_append_room T ty hlen (hcells w rfl) hroom)
    (fun base len cap old hold hroom hb hm => run_append_grow T ty hlen hcells hold hroom hb hm) hv

structure AppZ (P : Program) (argTypes : Array TypeId) (e : TypeId) (size bytes : Nat) (i : Go.TypeInfo) (zv : Value) : Prop where
  st : ∃ st, argTypes[0]? = some st ∧ P.underlying st = some (.slice e)
  xt : ∃ xt, argTypes[1]? = some xt ∧ P.underlying xt = some (.int .i64)
  info : P.info? e = some i
  hsize : i.size = size
  hbytes : i.bytes = bytes
  zero : i.zero = some zv
  zsize : zv.cells.size = size

theorem run_appendMk_room {argTypes : Array TypeId} {e : TypeId} {size bytes : Nat} {i : Go.TypeInfo} {zv : Value} (T : AppZ P argTypes e size bytes i zv) (hpos : 0 < size) {base : Option Addr} {len cap : Nat} {n : Int} (h0 : 0 ≤ n) (h1 : n ≤ 140737488355328) (h2 : n * bytes ≤ 140737488355328) (ty : TypeId)
    (hroom : len + n.toNat ≤ cap) :
    (Go.Builtin.append_ argTypes ty #[.slice base len cap, .int .i64 n]).run P w =
      (match base with
       | some a => (Go.storeCells (a.add (len * size)) (Go.Builtin.zeroCells zv.cells n.toNat).toList).run P w
       | none => .ok () w).andThen fun _ w' => .ok (.slice base (len + n.toNat) cap) w' := by
  obtain ⟨st, g1, g2⟩ := T.st
  obtain ⟨xt, g3, g4⟩ := T.xt
  have hsz : sizeOf P e = some size := by simp [sizeOf, T.info, T.hsize]
  have hd : (Go.underlying xt).run P w = .ok (.int .i64) w := run_under g4 w
  have hti : ∀ w : World, (Go.typeInfo e).run P w = .ok i w := fun w => by simp [Go.typeInfo, T.info]
  have hneg : ¬ n < 0 := by omega
  have hbig : ¬ n * (i.bytes : Int) > 2 ^ 48 := by rw [T.hbytes]; omega
  simp only [Go.Builtin.append_, g1, g3, Go.Sem.run_bind, run_under g2, Go.Result.andThen_ok, run_size hsz, List.getElem?_toArray, List.getElem?_cons_zero, List.getElem?_cons_succ, Go.Sem.run_pure, hd]
  simp only [if_true, Go.Sem.run_bind, Go.asInt, Go.asIntOf, Go.Sem.run_pure, Go.Result.andThen_ok, wrap_small h0 (show n ≤ 281474976710656 by omega), if_neg hneg, hti, if_neg hbig, if_pos hroom, Bool.not_true, Bool.false_eq_true, if_false]
  by_cases hn : n.toNat = 0
  · have hz : Go.Builtin.zeroCells zv.cells n.toNat = #[] := by rw [hn]; simp [Go.Builtin.zeroCells]
    have hz0 : n.toNat * size = 0 := by rw [hn]; simp
    rw [if_pos hz0, hz]
    cases base with
    | none => simp
    | some a => simp
  · have hz0 : ¬ n.toNat * size = 0 := by
      intro h; rcases Nat.mul_eq_zero.1 h with h | h <;> omega
    rw [if_neg hz0]
    simp only [Go.Sem.run_bind, run_zero T.info T.zero, Go.Result.andThen_ok, Go.Sem.run_pure]
    cases base with
    | none => simp
    | some a => simp

theorem run_appendMk_grow {argTypes : Array TypeId} {e : TypeId} {size bytes : Nat} {i : Go.TypeInfo} {zv : Value} (T : AppZ P argTypes e size bytes i zv) (hpos : 0 < size) {base : Option Addr} {len cap : Nat} {n : Int} (h0 : 0 ≤ n) (h1 : n ≤ 140737488355328) (h2 : n * bytes ≤ 140737488355328) {old : List Value} (ty : TypeId)
    (hold : ∀ w1 : World, w1.heap = w.heap → (Go.Builtin.firstCells size len (.slice base len cap)).run P w1 = .ok old.toArray w1) (hroom : ¬ len + n.toNat ≤ cap)
    (hb : (len + n.toNat) * bytes ≤ 140737488355328) (hm : len + n.toNat ≤ 140737488355328) :
    ∃ w', (Go.Builtin.append_ argTypes ty #[.slice base len cap, .int .i64 n]).run P w = .ok (.slice (some ⟨w.heap.size, 0, none⟩) (len + n.toNat) (grown w (len + n.toNat) cap e)) w' ∧
      w'.heap = w.heap.push (.cells ((old ++ (Go.Builtin.zeroCells zv.cells n.toNat).toList).toArray ++ Go.Builtin.zeroCells zv.cells (grown w (len + n.toNat) cap e - (len + n.toNat))) e) ∧ w'.os = w.os ∧ w'.output = w.output := by
  obtain ⟨st, g1, g2⟩ := T.st
  obtain ⟨xt, g3, g4⟩ := T.xt
  have hsz : sizeOf P e = some size := by simp [sizeOf, T.info, T.hsize]
  have hd : ∀ w : World, (Go.underlying xt).run P w = .ok (.int .i64) w := fun w => run_under g4 w
  have hti : ∀ w : World, (Go.typeInfo e).run P w = .ok i w := fun w => by simp [Go.typeInfo, T.info]
  have hneg : ¬ n < 0 := by omega
  have hbig : ¬ n * (i.bytes : Int) > 2 ^ 48 := by rw [T.hbytes]; omega
  have hfit : ¬ Go.Builtin.nextslicecap (len + n.toNat) cap * i.bytes > 2 ^ 48 := by
    rw [T.hbytes]; have := Go.growslice_fits (need := len + n.toNat) (old := cap) (by omega) hb; omega
  have hmax : ¬ (((len + n.toNat : Nat) : Int) > IntKind.i64.max) := by rw [maxI64]; omega
  refine ⟨{ w with heap := w.heap.push (.cells ((old ++ (Go.Builtin.zeroCells zv.cells n.toNat).toList).toArray ++ Go.Builtin.zeroCells zv.cells (grown w (len + n.toNat) cap e - (len + n.toNat))) e), drawn := w.drawn + 1 }, ?_, rfl, rfl, rfl⟩
  simp only [Go.Builtin.append_, g1, g3, Go.Sem.run_bind, run_under g2, Go.Result.andThen_ok, run_size hsz, List.getElem?_toArray, List.getElem?_cons_zero, List.getElem?_cons_succ, Go.Sem.run_pure, hd]
  simp only [if_true, Go.Sem.run_bind, Go.asInt, Go.asIntOf, Go.Sem.run_pure, Go.Result.andThen_ok, wrap_small h0 (show n ≤ 281474976710656 by omega), if_neg hneg, hti, if_neg hbig, if_neg hroom, Bool.not_true, Bool.false_eq_true, if_false]
  rw [if_neg (fun hc => hmax hc.1)]
  simp only [hti, Go.Sem.run_bind, Go.Result.andThen_ok, if_neg hfit]
  simp only [Go.run_choose, Go.Question.forced, Bool.false_eq_true, if_false, Go.Result.andThen_ok, hti, Go.run_askRoom]
  rw [hold { w with drawn := w.drawn + 1 } rfl]
  simp only [Go.Result.andThen_ok]
  by_cases hn : n.toNat = 0
  · have hz : Go.Builtin.zeroCells zv.cells n.toNat = #[] := by rw [hn]; simp [Go.Builtin.zeroCells]
    have hz0 : n.toNat * size = 0 := by rw [hn]; simp
    rw [if_pos hz0, hz]
    simp only [Go.Sem.run_pure, Go.Result.andThen_ok]
    rw [run_zero T.info T.zero]
    simp [Go.newRow, grown]
    rfl
  · have hz0 : ¬ n.toNat * size = 0 := by
      intro h; rcases Nat.mul_eq_zero.1 h with h | h <;> omega
    rw [if_neg hz0]
    simp only [Go.Sem.run_bind, run_zero T.info T.zero, Go.Result.andThen_ok, Go.Sem.run_pure]
    simp [Go.newRow, grown]
    refine ⟨?_, rfl, rfl⟩
    have e1 : (old ++ (Go.Builtin.zeroCells zv.cells n.toNat).toList).toArray = old.toArray ++ Go.Builtin.zeroCells zv.cells n.toNat := by simp
    rw [e1, Array.append_assoc]
    rfl

theorem appendMk_sound (h : R W0 φ s w) {argTypes : Array TypeId} {e : TypeId} {size bytes : Nat} {i : Go.TypeInfo} {zv : Value} {z : List Val} (T : AppZ P argTypes e size bytes i zv) (hz : VsRel φ z zv.cells.toList) (hpos : 0 < size) {x v : Val} {x' : Value} {n : Int} (h0 : 0 ≤ n) (h1 : n ≤ 140737488355328) (h2 : n * bytes ≤ 140737488355328) {s' : St} (ty : TypeId)
    (hx : VRel φ x x') (hv : appendV s e size bytes x n.toNat (zeros z n.toNat) = some (v, s')) :
    ∃ φ' v' w', (Go.Builtin.append_ argTypes ty #[x', .int .i64 n]).run P w = .ok v' w' ∧ VRel φ' v v' ∧ Post W0 φ s w φ' s' w' := by
  have hzr : VsRel φ (zeros z n.toNat) (Go.Builtin.zeroCells zv.cells n.toNat).toList := by
    have := arr_zeros zv size n.toNat T.zsize
    have e1 : (Go.Builtin.zeroCells zv.cells n.toNat).toList = (List.replicate n.toNat zv.cells.toList).flatten := by
      rw [← this]; simp only [Go.Builtin.zeroCells, T.zsize]
    rw [e1]; exact zeros_rel hz _
  exact appendV_gen h T.zsize hpos ty hx hzr (by simp [zeroCells_size, T.zsize]) (fun base len cap hroom => run_appendMk_room T hpos h0 h1 h2 ty hroom)
    (fun base len cap old hold hroom hb hm => run_appendMk_grow T hpos h0 h1 h2 ty hold hroom hb hm) hv
end Am
