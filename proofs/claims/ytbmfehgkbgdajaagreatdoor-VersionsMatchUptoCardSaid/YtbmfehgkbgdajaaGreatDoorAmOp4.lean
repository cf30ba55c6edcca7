/- Each operation of the abstract machine stands for the model's: aggregates, slices. -/
import Derived.Test.YtbmfehgkbgdajaaGreatDoorAmOp3
import Derived.Laws.AppendOwn
set_option linter.all false
namespace Am
open Go (IntKind BinOp UnOp FuncId TypeId Program Value World Addr Obj Operand Oper Op Sem Act)

variable {W0 : Ctx} {φ : Phi} {s : St} {w w' : World} {P : Program}

theorem foldl_set (vs : List Value) : ∀ (k off : Nat) (arr : Array Value), off + k + vs.length ≤ arr.size →
    (vs.zipIdx k).foldl (fun cs (p : Value × Nat) => cs.setIfInBounds (off + p.2) p.1) arr = arrSplice arr (off + k) vs := by
  induction vs with
  | nil => intro k off arr _; simp [arrSplice_nil]
  | cons v vs ih =>
    intro k off arr h
    simp only [List.length_cons] at h
    simp only [List.zipIdx_cons, List.foldl_cons]
    rw [ih (k + 1) off _ (by simp; omega), ← Nat.add_assoc, arrSplice_cons (by omega)]

theorem fill_step (vs : Array Value) (off : Nat) (arr : Array Value) (h : off + vs.size ≤ arr.size) :
    vs.zipIdx.foldl (fun cs (p : Value × Nat) => cs.setIfInBounds (off + p.2) p.1) arr = arrSplice arr off vs.toList := by
  rw [← Array.foldl_toList, Array.toList_zipIdx]
  exact foldl_set vs.toList 0 off arr (by simpa using h)

theorem VsRel.arrSplice {l : List Val} {arr : Array Value} {r : List Val} {vs : List Value} (h : VsRel φ l arr.toList) (h' : VsRel φ r vs) (o : Nat) :
    VsRel φ (Am.splice l o r) (Am.arrSplice arr o vs).toList := by
  have e : (Am.arrSplice arr o vs).toList = arr.toList.take o ++ vs ++ arr.toList.drop (o + vs.length) := by simp [Am.arrSplice]
  rw [e]
  exact h.splice h' o

/-- the parts of an aggregate -/
theorem fill_sound {E : Env} {a : Act} (hE : ERel φ E a.tmps) (hG : GRel φ P.globals.size) (places : Nat → Option (Nat × Nat)) : ∀ {ps : List (Nat × Operand)} {l : List (Nat × Nat × AOpd)}, partsOf P places ps = some l →
    ∀ {cells cs : List Val} {arr : Array Value}, VsRel φ cells arr.toList → fillL cells (l.map fun p => (p.1, p.2.1, p.2.2.ev E)) = some cs →
    ∃ arr', Go.Instr.fill places arr (ps.map fun p => (p.1, a.eval p.2)) = some arr' ∧ VsRel φ cs arr'.toList
  | [], l, hl, cells, cs, arr, hr, hf => by
    simp [partsOf, listM] at hl; subst hl
    simp [fillL] at hf; subst hf
    exact ⟨arr, rfl, hr⟩
  | p :: ps, l, hl, cells, cs, arr, hr, hf => by
    obtain ⟨i, x⟩ := p
    simp only [partsOf, listM] at hl
    split at hl
    · rename_i q hq
      split at hl
      · rename_i m hm
        injection hl with hl; subst hl
        split at hq
        · rename_i off size x' hp hx
          injection hq with hq; subst hq
          simp only [List.map_cons, fillL] at hf
          split at hf
          · rename_i hc
            obtain ⟨hk, hsz, hle⟩ := hc
            have hv := opd_sound hE hG hx
            have hne : x'.ev E ≠ .undef := by intro e; rw [e] at hk; simp [Val.known] at hk
            have hcv := hv.cells hne
            have hlv := hcv.length
            have hla := hr.length
            simp only [Array.length_toList] at hlv hla
            have hle' : off + (a.eval x).cells.size ≤ arr.size := by omega
            obtain ⟨arr', h1, h2⟩ := fill_sound hE hG places (ps := ps) (l := m) hm (hr.arrSplice hcv off) hf
            refine ⟨arr', ?_, h2⟩
            simp only [List.map_cons, Go.Instr.fill, hp]
            have hcond : ((a.eval x).cells.size ≠ size || decide (off + (a.eval x).cells.size > arr.size)) = false := by
              simp only [Bool.or_eq_false_iff, decide_eq_false_iff_not, ne_eq, Decidable.not_not]
              exact ⟨by omega, by omega⟩
            rw [if_neg (by simpa using hcond)]
            have := fill_step (a.eval x).cells off arr hle'
            rw [← h1]
            congr 1
          · cases hf
        · cases hq
      · cases hl
    · cases hl

theorem run_mapM_fields {β : Type} (f : Go.Field → Sem β) (g : Go.Field → β) (w : World) : ∀ (l : List Go.Field), (∀ x ∈ l, (f x).run P w = .ok (g x) w) → (l.mapM f).run P w = .ok (l.map g) w
  | [], _ => rfl
  | x :: l, h => by
    rw [List.mapM_cons]
    simp only [Go.Sem.run_bind, h x (by simp), Go.Result.andThen_ok, run_mapM_fields f g w l (fun y hy => h y (by simp [hy])), Go.Sem.run_pure, List.map_cons]

section ops
variable {E : Env} {a : Act} {o : Oper} {v : Val} {s' : St}

theorem sound_build (h : R W0 φ s w) (hE : ERel φ E a.tmps) (hG : GRel φ P.globals.size) {t : TypeId} {ps : Array (Nat × Operand)} (hop : o.op = .build t ps) {o' : AOp} (hc : compOp P o = some o')
    (he : evOp o' E s = some (v, s')) : Done P W0 φ s w ((Go.execOp a.eval o).run P w) v s' := by
  simp only [compOp, hop] at hc
  split at hc
  · rename_i z fs hz ht
    split at hc
    · rename_i hall
      simp only [Option.map_eq_some_iff] at hc
      obtain ⟨l, hl, rfl⟩ := hc
      simp only [evOp, Option.map_eq_some_iff, Prod.mk.injEq] at he
      obtain ⟨cs, hcs, rfl, rfl⟩ := he
      obtain ⟨i, zv, hi, hzv, hrel, _, _⟩ := zeroOf_some hz φ
      obtain ⟨arr', h1, h2⟩ := fill_sound hE hG _ hl hrel hcs
      refine Done.val h (v' := .agg arr') ?_ ⟨_, rfl, h2⟩
      have hm : (fs.mapM fun f => (do pure (f.offset, ← Go.sizeOf f.type) : Sem (Nat × Nat))).run P w = .ok (fs.map fun f => (f.offset, (sizeOf P f.type).getD 0)) w := by
        obtain ⟨fl⟩ := fs
        rw [List.mapM_toArray]
        simp only [Go.Sem.run_map]
        rw [run_mapM_fields _ (fun f => (f.offset, (sizeOf P f.type).getD 0)) w fl]
        · simp
        · intro x hx
          have := List.all_eq_true.1 hall x (by simpa using hx)
          obtain ⟨n, hn⟩ := Option.isSome_iff_exists.1 this
          simp [run_size hn, hn]
      have hpl : (fun (i : Nat) => (fs.map fun (f : Go.Field) => (f.offset, (sizeOf P f.type).getD 0))[i]?) = fieldPlaces P fs := by
        funext i
        simp only [Array.getElem?_map, fieldPlaces]
        cases hf : fs[i]? with
        | none => rfl
        | some f =>
          have := List.all_eq_true.1 hall f (by have := Array.mem_of_getElem? hf; simpa using this)
          obtain ⟨n, hn⟩ := Option.isSome_iff_exists.1 this
          simp [hn]
      simp only [Go.execOp, hop, Go.Instr.build, Go.Sem.run_bind, run_zero hi hzv, Go.Result.andThen_ok, run_under ht, hm, Go.Sem.run_pure]
      have e1 : (ps.map fun (i, x) => (i, a.eval x)).toList = ps.toList.map fun p => (p.1, a.eval p.2) := by simp
      rw [e1, hpl, h1]
      rfl
    · cases hc
  · rename_i z n e hz ht
    split at hc
    · rename_i sz hsz
      simp only [Option.map_eq_some_iff] at hc
      obtain ⟨l, hl, rfl⟩ := hc
      simp only [evOp, Option.map_eq_some_iff, Prod.mk.injEq] at he
      obtain ⟨cs, hcs, rfl, rfl⟩ := he
      obtain ⟨i, zv, hi, hzv, hrel, _, _⟩ := zeroOf_some hz φ
      obtain ⟨arr', h1, h2⟩ := fill_sound hE hG _ hl hrel hcs
      refine Done.val h (v' := .agg arr') ?_ ⟨_, rfl, h2⟩
      simp only [Go.execOp, hop, Go.Instr.build, Go.Sem.run_bind, run_zero hi hzv, Go.Result.andThen_ok, run_under ht, run_size hsz, Go.Sem.run_pure]
      have e1 : (ps.map fun (i, x) => (i, a.eval x)).toList = ps.toList.map fun p => (p.1, a.eval p.2) := by simp
      rw [e1, h1]
      rfl
    · cases hc
  · cases hc

/-- the zero cells of a row -/
theorem range_zeros (l : List Value) (k : Nat) (hk : l.length = k) : ∀ n, (List.range (n * k)).map (fun i => l[i % k]!) = (List.replicate n l).flatten
  | 0 => by simp
  | n + 1 => by
    rw [List.replicate_succ', List.flatten_append, ← range_zeros l k hk n, Nat.succ_mul, List.range_add, List.map_append]
    congr 1
    simp only [List.map_map, List.flatten_cons, List.flatten_nil, List.append_nil]
    apply List.ext_getElem
    · simp [hk]
    · intro i h1 h2
      simp only [List.getElem_map, List.getElem_range, Function.comp]
      have hi : i < k := by simpa using h1
      rw [Nat.mul_comm n k, Nat.mul_add_mod, Nat.mod_eq_of_lt hi, getElem!_pos l i (by omega)]

theorem zeros_rel {z : List Val} {l : List Value} (h : VsRel φ z l) (n : Nat) : VsRel φ (zeros z n) (List.replicate n l).flatten := by
  induction n with
  | zero => rfl
  | succ n ih => rw [List.replicate_succ, List.flatten_cons]; exact h.append ih

theorem zeros_length (z : List Val) (n : Nat) : (zeros z n).length = n * z.length := by
  induction n with
  | zero => simp [zeros]
  | succ n ih => simp [zeros, ih, Nat.succ_mul, Nat.add_comm]

theorem arr_zeros (zv : Value) (k n : Nat) (hk : zv.cells.size = k) : ((Array.range (n * k)).map (zv.cells[· % zv.cells.size]!)).toList = (List.replicate n zv.cells.toList).flatten := by
  rw [← range_zeros zv.cells.toList k (by simpa using hk) n, hk]
  simp only [Array.toList_map, Array.toList_range]
  apply List.map_congr_left
  intro i _
  rw [getElem!_def, getElem!_def, Array.getElem?_toList]

theorem sound_buildSlice (h : R W0 φ s w) (hE : ERel φ E a.tmps) (hG : GRel φ P.globals.size) {t : TypeId} {len : Nat} {ps : Array (Nat × Operand)} (hop : o.op = .buildSlice t len ps) {o' : AOp} (hc : compOp P o = some o')
    (he : evOp o' E s = some (v, s')) : Done P W0 φ s w ((Go.execOp a.eval o).run P w) v s' := by
  simp only [compOp, hop] at hc
  split at hc
  · rename_i e ht
    split at hc
    · rename_i z sz hz hsz
      split at hc
      · rename_i hbig
        simp only [Option.map_eq_some_iff] at hc
        obtain ⟨l, hl, rfl⟩ := hc
        simp only [evOp] at he
        split at he
        · rename_i cs hcs
          split at he
          · rename_i hone
            simp only [Option.some.injEq, Prod.mk.injEq] at he
            obtain ⟨rfl, rfl⟩ := he
            obtain ⟨i, zv, hi, hzv, hrel, hzl, _⟩ := zeroOf_some hz φ
            have hsz' : i.size = sz := by simp [sizeOf, hi] at hsz; exact hsz
            have hzs : zv.cells.size = sz := by have := hrel.length; simp at this; omega
            obtain ⟨arr', h1, h2⟩ := fill_sound (arr := (Array.range (len * sz)).map (zv.cells[· % zv.cells.size]!)) hE hG _ hl (by rw [arr_zeros zv sz len hzs]; exact zeros_rel hrel len) hcs
            have hl2 := h2.length
            refine ⟨_, .slice (some ⟨w.heap.size, 0, none⟩) len len, { w with heap := w.heap.push (.cells arr' e) }, .inl ?_, ⟨_, rfl, by unfold ARel; rw [Phi.ext_same]⟩, h.newRow (arr := arr') (fr := (0, 0)) false true (some e) ?_ ?_ rfl rfl rfl (noFrz _) (fun _ => rfl) (fun t ht => by injection ht)⟩
            · have e1 : (ps.map fun (i, x) => (i, a.eval x)).toList = ps.toList.map fun p => (p.1, a.eval p.2) := by simp
              have hb : ¬ len * sz > 2 ^ 24 := by omega
              simp only [Go.execOp, hop, Go.Instr.buildSlice, Go.Sem.run_bind, Go.Result.andThen_ok, run_under ht, run_size hsz, if_neg hb]
              by_cases h0 : len * sz = 0
              · have e2 : (Array.range (len * sz)).map ((#[] : Array Value)[· % (#[] : Array Value).size]!) = (Array.range (len * sz)).map (zv.cells[· % zv.cells.size]!) := by rw [h0]; simp
                rw [if_pos h0]
                simp only [pure_bind, e1, e2, h1]
                simp [Go.newRow]
              · rw [if_neg h0]
                simp only [pure_bind, Go.Sem.run_bind, run_zero hi hzv, Go.Result.andThen_ok, e1, h1]
                simp [Go.newRow]
            · rw [← hl2]; simp
            · rw [← hl2, Array.length_toList]; simpa [List.take_of_length_le] using h2
          · cases he
        · cases he
      · cases hc
    · cases hc
  · cases hc
end ops
end Am
