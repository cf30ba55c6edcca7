/- Each operation of the abstract machine stands for the model's: the simple ones. -/
import Derived.Test.YtbmfehgkbgdajaaGreatDoorAmOp
set_option linter.all false
namespace Am
open Go (IntKind BinOp UnOp FuncId TypeId Program Value World Addr Obj Operand Oper Op Sem Act)

variable {W0 : Ctx} {φ : Phi} {s : St} {w w' : World} {P : Program}

theorem take_splice (l v : List Value) (o m : Nat) (h1 : o + v.length ≤ m) (h2 : m ≤ l.length) :
    (l.take o ++ v ++ l.drop (o + v.length)).take m = (l.take m).take o ++ v ++ (l.take m).drop (o + v.length) := by
  have ho : (l.take o).length = o := by simp; omega
  have e1 : List.take m (List.take o l) = List.take o l := List.take_of_length_le (by rw [ho]; omega)
  have e2 : List.take o (List.take m l) = List.take o l := by rw [List.take_take, Nat.min_eq_left (by omega)]
  have e3 : List.take (m - (l.take o).length) v = v := List.take_of_length_le (by rw [ho]; omega)
  rw [List.take_append, List.take_append, e1, e2, e3, List.drop_take]
  congr 2
  simp only [List.length_append, ho]

theorem splice_length {l v : List Val} {o : Nat} (h : o + v.length ≤ l.length) : (splice l o v).length = l.length := by
  simp [splice]; omega

/-- a store -/
theorem run_storeN (h : R W0 φ s w) {a : Nat × Nat} {a' : Addr} (ha : ARel φ a a') {vs : List Val} {vs' : List Value} (hv : VsRel φ vs vs') {s' : St} (hs : s.storeN a vs = some s') :
    ∃ w', (Go.storeCells a' vs').run P w = .ok () w' ∧ Post W0 φ s w φ s' w' := by
  unfold St.storeN at hs
  split at hs
  · rename_i r hr
    split at hs
    · rename_i hc
      injection hs with hs; subst hs
      obtain ⟨hfl, hro, hfz, hle, hone⟩ := hc
      obtain ⟨c, sz, arr, e, fr, hcc, hw, hrel⟩ := h.row hr ha.notUnk
      have hlen := hv.length
      have hsz := hrel.1
      have hcs := hrel.2.1
      rw [ha.eq hcc]
      refine ⟨_, run_storeCells (P := P) vs' c a.2 0 w arr e fr hw (by omega) (fun j h1 h2 => hrel.2.2.2.1 hro j (by omega) (by omega)) (VsRel.ones hone hv), ?_⟩
      refine h.put hcc (row?_some hr) hro hfl hro rfl rfl rfl ?_
      have hlt : c < w.heap.size := (Array.getElem?_eq_some_iff.1 hw).1
      refine ⟨arrSplice arr a.2 vs', e, fr, ?_, ?_⟩
      · simp only [Nat.add_zero]; rw [Array.getElem?_setIfInBounds_self_of_lt hlt]
      · refine ⟨by rw [arrSplice_size (by omega)]; exact hsz, by simp only [splice_length hle]; exact hcs, ?_, hrel.2.2.2⟩
        simp only [splice_length hle]
        have et : (arrSplice arr a.2 vs').toList = arr.toList.take a.2 ++ vs' ++ arr.toList.drop (a.2 + vs'.length) := by simp [arrSplice]
        rw [et, take_splice _ _ _ _ (by omega) (by simp; omega)]
        exact hrel.2.2.1.splice hv a.2
    · cases hs
  · cases hs

/-- a new row -/
theorem R.newRow (h : R W0 φ s w) {cs : List Val} {arr : Array Value} {e : TypeId} {fr : Nat × Nat} (opn clean : Bool) (el : Option TypeId) (hcs : cs.length ≤ arr.size) (hv : VsRel φ cs (arr.toList.take cs.length))
    (hh : w'.heap = w.heap.push (.cells arr e fr)) (ho : w'.os = w.os) (hu : w'.output = w.output) (hfr : ∀ i, i < arr.size → ¬ (fr.1 ≤ i ∧ i < fr.2)) (hcl : clean = true → fr = (0, 0)) (hel : ∀ t, el = some t → e = t) :
    Post W0 φ s w (φ.ext s.next (.at w.heap.size arr.size)) (s.alloc (.row { cs := cs, opn := opn, ro := false, frz := 0, clean := clean, elem := el })) w' := by
  refine h.alloc _ _ _ hh ho hu ?_
  refine ⟨arr, e, fr, by rw [hh]; simp, rfl, hcs, hv.mono (h.ple_ext _), fun _ i _ hi => hfr i hi, hcl, hel⟩

theorem newPtr (φ : Phi) (b c sz : Nat) : VRel (φ.ext b (.at c sz)) (.ptr (some (b, 0))) (.pointer (some ⟨c, 0, none⟩)) :=
  ⟨_, rfl, by unfold ARel; rw [Phi.ext_same]⟩

theorem noFrz (n : Nat) : ∀ i, i < n → ¬ (((0, 0) : Nat × Nat).1 ≤ i ∧ i < ((0, 0) : Nat × Nat).2) := fun i _ h => by simp at h

theorem zeros_eq (z : List Val) (n : Nat) : zeros z n = (List.replicate n z).flatten := by
  induction n with
  | zero => rfl
  | succ n ih => simp [zeros, ih, List.replicate_succ]

section ops
variable {E : Env} {a : Act} {o : Oper} {v : Val} {s' : St}

theorem sound_move (h : R W0 φ s w) (hE : ERel φ E a.tmps) (hG : GRel φ P.globals.size) {x : Operand} (hop : o.op = .move x ∨ o.op = .assign x) {o' : AOp} (hc : (opdOf P x).map .move = some o')
    (he : evOp o' E s = some (v, s')) : Done P W0 φ s w ((Go.execOp a.eval o).run P w) v s' := by
  simp only [Option.map_eq_some_iff] at hc
  obtain ⟨x', hx, rfl⟩ := hc
  simp only [evOp, Option.some.injEq, Prod.mk.injEq] at he
  obtain ⟨rfl, rfl⟩ := he
  refine Done.val h (v' := a.eval x) ?_ (opd_sound hE hG hx)
  rcases hop with hop | hop <;> simp [Go.execOp, hop]

theorem sound_pick (h : R W0 φ s w) (hE : ERel φ E a.tmps) (hG : GRel φ P.globals.size) {c x y : Operand} (hop : o.op = .pick c x y) {o' : AOp} (hc : compOp P o = some o')
    (he : evOp o' E s = some (v, s')) : Done P W0 φ s w ((Go.execOp a.eval o).run P w) v s' := by
  simp only [compOp, hop] at hc
  split at hc
  · rename_i c' x' y' h1 h2 h3
    injection hc with hc; subst hc
    simp only [evOp] at he
    split at he
    · rename_i t ht
      simp only [Option.some.injEq, Prod.mk.injEq] at he
      obtain ⟨rfl, rfl⟩ := he
      have hcv := opd_sound hE hG h1
      rw [ht] at hcv
      have hcv : a.eval c = .bool t := hcv
      refine Done.val h (v' := if t then a.eval x else a.eval y) ?_ ?_
      · simp [Go.execOp, hop, hcv, Go.asBool]
      · cases t
        · exact opd_sound hE hG h3
        · exact opd_sound hE hG h2
    · cases he
  · cases hc

theorem sound_alloc (h : R W0 φ s w) {e : TypeId} (hop : o.op = .alloc e) {o' : AOp} (hc : compOp P o = some o')
    (he : evOp o' E s = some (v, s')) : Done P W0 φ s w ((Go.execOp a.eval o).run P w) v s' := by
  simp only [compOp, hop, Option.map_eq_some_iff] at hc
  obtain ⟨z, hz, rfl⟩ := hc
  simp only [evOp, Option.some.injEq, Prod.mk.injEq] at he
  obtain ⟨rfl, rfl⟩ := he
  obtain ⟨i, zv, hi, hzv, hrel, _, _⟩ := zeroOf_some hz φ
  have hl := hrel.length
  refine ⟨_, .pointer (some ⟨w.heap.size, 0, none⟩), { w with heap := w.heap.push (.cells zv.cells e) }, .inl ?_, newPtr _ _ _ _, h.newRow (arr := zv.cells) (fr := (0, 0)) false true (some e) ?_ ?_ rfl rfl rfl (noFrz _) (fun _ => rfl) (fun t ht => by injection ht)⟩
  · simp [Go.execOp, hop, Go.Instr.alloc, run_zero hi hzv, Go.newVar, Go.newRow]
  · rw [← hl]; simp
  · rw [← hl, Array.length_toList]; simpa [List.take_of_length_le] using hrel

theorem sound_box (h : R W0 φ s w) (hE : ERel φ E a.tmps) (hG : GRel φ P.globals.size) {e : TypeId} {x : Operand} (hop : o.op = .box e x) {o' : AOp} (hc : compOp P o = some o')
    (he : evOp o' E s = some (v, s')) : Done P W0 φ s w ((Go.execOp a.eval o).run P w) v s' := by
  simp only [compOp, hop, Option.map_eq_some_iff] at hc
  obtain ⟨x', hx, rfl⟩ := hc
  simp only [evOp] at he
  split at he
  · rename_i hone
    simp only [Option.some.injEq, Prod.mk.injEq] at he
    obtain ⟨rfl, rfl⟩ := he
    have hv := opd_sound hE hG hx
    have hne : x'.ev E ≠ .undef := by intro e'; rw [e'] at hone; simp [allOne, Val.cells, Val.one] at hone
    have hrel := hv.cells hne
    have hl := hrel.length
    refine ⟨_, .pointer (some ⟨w.heap.size, 0, none⟩), { w with heap := w.heap.push (.cells (a.eval x).cells e) }, .inl ?_, newPtr _ _ _ _, h.newRow (arr := (a.eval x).cells) (fr := (0, 0)) false true (some e) ?_ ?_ rfl rfl rfl (noFrz _) (fun _ => rfl) (fun t ht => by injection ht)⟩
    · simp [Go.execOp, hop, Go.Instr.box, Go.newVar, Go.newRow]
    · rw [← hl]; simp
    · rw [← hl, Array.length_toList]; simpa [List.take_of_length_le] using hrel
  · cases he

theorem sound_load (h : R W0 φ s w) (hE : ERel φ E a.tmps) (hG : GRel φ P.globals.size) {t : TypeId} {x : Operand} (hop : o.op = .load t x) {o' : AOp} (hc : compOp P o = some o')
    (he : evOp o' E s = some (v, s')) : Done P W0 φ s w ((Go.execOp a.eval o).run P w) v s' := by
  simp only [compOp, hop] at hc
  split at hc
  · rename_i n x' hk hx
    injection hc with hc; subst hc
    simp only [evOp] at he
    split at he
    · rename_i ad had
      have hv := opd_sound hE hG hx
      rw [had] at hv
      obtain ⟨a', e1, hr⟩ := hv
      simp only [Option.map_eq_some_iff, Prod.mk.injEq] at he
      obtain ⟨v1, h1, rfl, rfl⟩ := he
      obtain ⟨v', h3, h4⟩ := run_loadVar (P := P) h hk hr h1
      refine Done.val h (v' := v') ?_ h4
      simp [Go.execOp, hop, e1, Go.Instr.loadAt, Go.Instr.sureAddr, h3]
    · cases he
  · cases hc

theorem sound_store (h : R W0 φ s w) (hE : ERel φ E a.tmps) (hG : GRel φ P.globals.size) {t : TypeId} {x y : Operand} (hop : o.op = .store t x y) {o' : AOp} (hc : compOp P o = some o')
    (he : evOp o' E s = some (v, s')) : Done P W0 φ s w ((Go.execOp a.eval o).run P w) v s' := by
  simp only [compOp, hop] at hc
  split at hc
  · rename_i n x' y' hn hx hy
    injection hc with hc; subst hc
    simp only [evOp] at he
    split at he
    · rename_i ad had
      split at he
      · rename_i hlen
        simp only [Option.map_eq_some_iff, Prod.mk.injEq] at he
        obtain ⟨s1, hs, rfl, rfl⟩ := he
        have hv := opd_sound hE hG hx
        rw [had] at hv
        obtain ⟨a', e1, hr⟩ := hv
        have hy := opd_sound hE hG hy
        have hne : y'.ev E ≠ .undef := by
          intro e'
          rw [e'] at hs
          unfold St.storeN at hs
          split at hs
          · split at hs
            · rename_i hcc; simp [Val.cells, Val.one] at hcc
            · cases hs
          · cases hs
        have hcells := hy.cells hne
        obtain ⟨w', h1, h2⟩ := run_storeN (P := P) h hr hcells hs
        refine ⟨φ, Go.undef, w', .inr ⟨?_, rfl⟩, ⟨#[], rfl, rfl⟩, h2⟩
        have hsize : (a.eval y).cells.size = n := by have := hcells.length; simpa [hlen] using this
        simp [Go.execOp, hop, e1, Go.Instr.storeAt, Go.Instr.sureAddr, Go.storeVar, run_size hn, hsize, h1]
      · cases he
    · cases he
  · cases hc

theorem sound_nilCheck (h : R W0 φ s w) (hE : ERel φ E a.tmps) (hG : GRel φ P.globals.size) {x : Operand} (hop : o.op = .nilCheck x) {o' : AOp} (hc : compOp P o = some o')
    (he : evOp o' E s = some (v, s')) : Done P W0 φ s w ((Go.execOp a.eval o).run P w) v s' := by
  simp only [compOp, hop, Option.map_eq_some_iff] at hc
  obtain ⟨x', hx, rfl⟩ := hc
  have hv := opd_sound hE hG hx
  simp only [evOp] at he
  split at he
  · rename_i ad had
    simp only [Option.some.injEq, Prod.mk.injEq] at he
    obtain ⟨rfl, rfl⟩ := he
    rw [had] at hv
    have hv' := hv
    obtain ⟨a', e1, hr⟩ := hv'
    refine Done.val h (v' := a.eval x) ?_ hv
    simp [Go.execOp, hop, e1]
  · rename_i f p q had
    simp only [Option.some.injEq, Prod.mk.injEq] at he
    obtain ⟨rfl, rfl⟩ := he
    rw [had] at hv
    have hv' := hv
    obtain ⟨p', q', e1, hr⟩ := hv'
    refine Done.val h (v' := a.eval x) ?_ hv
    simp [Go.execOp, hop, e1]
  · rename_i t y had
    simp only [Option.some.injEq, Prod.mk.injEq] at he
    obtain ⟨rfl, rfl⟩ := he
    rw [had] at hv
    have hv' := hv
    obtain ⟨y', e1, hr⟩ := hv'
    refine Done.val h (v' := a.eval x) ?_ hv
    simp [Go.execOp, hop, e1]
  · cases he

theorem sound_mkIface (h : R W0 φ s w) (hE : ERel φ E a.tmps) (hG : GRel φ P.globals.size) {t : TypeId} {x : Operand} (hop : o.op = .makeInterface t x) {o' : AOp} (hc : compOp P o = some o')
    (he : evOp o' E s = some (v, s')) : Done P W0 φ s w ((Go.execOp a.eval o).run P w) v s' := by
  simp only [compOp, hop] at hc
  split at hc
  · cases hc
  · rename_i d x' hni hd hx
    injection hc with hc; subst hc
    simp only [evOp] at he
    split at he
    · simp only [Option.some.injEq, Prod.mk.injEq] at he
      obtain ⟨rfl, rfl⟩ := he
      refine Done.val h (v' := .iface t (a.eval x)) ?_ ⟨_, rfl, opd_sound hE hG hx⟩
      simp only [Go.execOp, hop, Go.Instr.makeInterface, Go.Sem.run_bind, run_under hd, Go.Result.andThen_ok]
      cases d <;> first | rfl | exact absurd hd (by simpa using hni _)
    · cases he
  · cases hc

theorem sound_mkFn (h : R W0 φ s w) (hE : ERel φ E a.tmps) (hG : GRel φ P.globals.size) {fn : Go.Fn} {p q : Array Operand} (hop : o.op = .makeFunc fn p q) {o' : AOp} (hc : compOp P o = some o')
    (he : evOp o' E s = some (v, s')) : Done P W0 φ s w ((Go.execOp a.eval o).run P w) v s' := by
  cases fn <;> simp only [compOp, hop] at hc
  case func f =>
    split at hc
    · rename_i p' q' h1 h2
      injection hc with hc; subst hc
      simp only [evOp, Option.some.injEq, Prod.mk.injEq] at he
      obtain ⟨rfl, rfl⟩ := he
      refine Done.val h (v' := .func (.func f) (p.map a.eval) (q.map a.eval)) ?_ ⟨_, _, rfl, ?_, ?_⟩
      · simp [Go.execOp, hop, Go.Instr.makeFunc]
      · simpa using opds_sound hE hG h1
      · simpa using opds_sound hE hG h2
    · cases hc
  all_goals cases hc

theorem sound_extract (h : R W0 φ s w) (hE : ERel φ E a.tmps) (hG : GRel φ P.globals.size) {x : Operand} {i : Nat} (hop : o.op = .extract x i) {o' : AOp} (hc : compOp P o = some o')
    (he : evOp o' E s = some (v, s')) : Done P W0 φ s w ((Go.execOp a.eval o).run P w) v s' := by
  simp only [compOp, hop, Option.map_eq_some_iff] at hc
  obtain ⟨x', hx, rfl⟩ := hc
  have hv := opd_sound hE hG hx
  simp only [evOp] at he
  split at he
  · rename_i vs hvs
    simp only [Option.map_eq_some_iff, Prod.mk.injEq] at he
    obtain ⟨v1, h1, rfl, rfl⟩ := he
    rw [hvs] at hv
    obtain ⟨cs', e1, hr⟩ := hv
    obtain ⟨v', h2, h3⟩ := hr.get h1
    refine Done.val h (v' := v') ?_ h3
    simp at h2
    simp [Go.execOp, hop, e1, Go.Instr.extract, h2]
  · cases he

theorem sound_makeMap (h : R W0 φ s w) {t : TypeId} {r : Option Operand} (hop : o.op = .makeMap t r) {o' : AOp} (hc : compOp P o = some o')
    (he : evOp o' E s = some (v, s')) : Done P W0 φ s w ((Go.execOp a.eval o).run P w) v s' := by
  cases r <;> simp only [compOp, hop] at hc
  case some => cases hc
  case none =>
    injection hc with hc; subst hc
    simp only [evOp, Option.some.injEq, Prod.mk.injEq] at he
    obtain ⟨rfl, rfl⟩ := he
    refine ⟨_, .map (some w.heap.size), { w with heap := w.heap.push (.map #[] 0) }, .inl ?_, ⟨_, rfl, by unfold BRel; rw [Phi.ext_same]⟩, h.alloc _ (.map #[] 0) 0 rfl rfl rfl ⟨#[], by simp, rfl⟩⟩
    simp [Go.execOp, hop, Go.Instr.makeMap]
end ops
end Am
