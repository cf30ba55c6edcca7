/- Operations that make a new block and do nothing else. -/
import Derived.Test.YtbmfehgkbgdajaaGreatDoorAmRun
import Derived.Test.YtbmfehgkbgdajaaGreatDoorAmEv
set_option linter.all false
namespace Am
open Go (IntKind BinOp UnOp FuncId TypeId Program Value World Addr Obj Operand Oper Op Sem Act)

variable {W0 : Ctx} {φ : Phi} {s : St} {w w' : World} {P : Program}

def AllocDone (P : Program) (φ : Phi) (w : World) (r : Go.Result Go.Next) (f : Nat → Val) (blk : Blk) : Prop :=
  ∃ v' w' obj sz, r = .ok (.value v') w' ∧ w'.heap = w.heap.push obj ∧ w'.os = w.os ∧ w'.output = w.output ∧
    (∀ (φ'' : Phi) n, φ'' n = .at w.heap.size sz → VRel φ'' (f n) v') ∧ BlkRel P φ w' w.heap.size sz blk ∧ blk.ro = false

theorem evOp_alloc {o : AOp} (hk : o.kind = .alloc) (E : Env) (s : St) : evOp o E s = (allocOf o E).map fun p => (p.1 s.next, s.alloc p.2) := by
  cases o <;> simp only [AOp.kind] at hk <;> try cases hk
  case newRow e z => rfl
  case buildSlice e c n ps =>
    simp only [evOp, allocOf]
    cases fillL c (ps.map fun p => (p.1, p.2.1, p.2.2.ev E)) with
    | none => rfl
    | some cs => by_cases h : allOne cs = true <;> simp [h]
  case mkSlice e z b l c =>
    simp only [evOp, allocOf]
    generalize l.ev E = x
    generalize c.ev E = y
    split
    · rename_i ln cn
      simp only []
      split <;> rfl
    · rename_i hne
      cases x <;> try rfl
      rename_i k1 n1
      cases k1 <;> try rfl
      cases y <;> try rfl
      rename_i k2 n2
      cases k2 <;> first | rfl | exact (hne _ _ rfl rfl).elim
  case len k x => cases k <;> cases hk

theorem allocOf_congr {o : AOp} {E E' : Env} (h : ∀ x ∈ o.opds, x.ev E = x.ev E') : allocOf o E = allocOf o E' := by
  cases o <;> try rfl
  case buildSlice e c n ps => simp only [allocOf, parts_congr h]
  case mkSlice e z b l c =>
    have h1 : l.ev E = l.ev E' := h l (by simp [AOp.opds])
    have h2 : c.ev E = c.ev E' := h c (by simp [AOp.opds])
    simp only [allocOf, h1, h2]

section ops
variable {E : Env} {a : Act} {o : Oper}

theorem newRow_blk {cs : List Val} {arr : Array Value} {e : TypeId} (hv : VsRel φ cs arr.toList) (hh : w'.heap = w.heap.push (.cells arr e)) :
    BlkRel P φ w' w.heap.size arr.size (.row { cs := cs, opn := false, ro := false, frz := 0, elem := some e }) := by
  have hl := hv.length
  refine ⟨arr, e, (0, 0), by rw [hh]; simp, rfl, ?_, ?_, fun _ i _ hi => noFrz _ i hi, fun _ => rfl, fun t ht => by injection ht⟩
  · rw [← hl]; simp
  · rw [← hl, Array.length_toList]; simpa [List.take_of_length_le] using hv

theorem compBuiltin_kind {b : Go.Builtin} {ts : Array TypeId} {l : List AOpd} {o' : AOp} (h : compBuiltin P b ts l = some o') : o'.kind ≠ .alloc := by
  unfold compBuiltin at h
  split at h
  · split at h
    · rename_i h1
      injection h with h; subst h
      unfold compAppend at h1; repeat' split at h1
      all_goals first | (injection h1 with h1; subst h1; simp [AOp.kind]; done) | cases h1
    · unfold compAppendMk at h; repeat' split at h
      all_goals first | (injection h with h; subst h; simp [AOp.kind]; done) | cases h
  · unfold compClear at h; split at h
    · simp only [Option.map_eq_some_iff] at h; obtain ⟨_, _, rfl⟩ := h; simp [AOp.kind]
    · cases h
  · unfold compCopy at h; split at h
    · simp only [Option.map_eq_some_iff] at h; obtain ⟨_, _, rfl⟩ := h; simp [AOp.kind]
    · cases h
  · unfold compLen at h; repeat' split at h
    all_goals first | (injection h with h; subst h; simp [AOp.kind]; done) | cases h
  · unfold compCap at h; repeat' split at h
    all_goals first | (injection h with h; subst h; simp [AOp.kind]; done) | cases h
  · injection h with h; subst h; simp [AOp.kind]
  · unfold compUnsafeStr at h; repeat' split at h
    all_goals first | (injection h with h; subst h; simp [AOp.kind]; done) | cases h
  · injection h with h; subst h; simp [AOp.kind]
  · injection h with h; subst h; simp [AOp.kind]
  · cases h

theorem compOp_alloc {o' : AOp} (hc : compOp P o = some o') (hk : o'.kind = .alloc) :
    (∃ e, o.op = .alloc e) ∨ (∃ t n ps, o.op = .buildSlice t n ps) ∨ (∃ t l c, o.op = .makeSlice t l c) := by
  cases hop : o.op
  case alloc e => exact .inl ⟨e, rfl⟩
  case buildSlice t n ps => exact .inr (.inl ⟨t, n, ps, rfl⟩)
  case makeSlice t l c => exact .inr (.inr ⟨t, l, c, rfl⟩)
  case call c =>
    exfalso
    obtain ⟨cal, args, ats⟩ := c
    cases cal with
    | value f => simp [compOp, hop] at hc
    | invoke r m => simp [compOp, hop] at hc
    | builtin b =>
      simp only [compOp, hop] at hc
      split at hc
      · exact compBuiltin_kind hc hk
      · cases hc
  case makeFunc fn p q =>
    exfalso
    cases fn <;> simp only [compOp, hop] at hc
    case func f =>
      split at hc
      · injection hc with hc; subst hc; simp [AOp.kind] at hk
      · cases hc
    all_goals cases hc
  case next x isS =>
    exfalso
    cases isS
    · simp [compOp, hop] at hc
    · simp only [compOp, hop, Option.map_eq_some_iff] at hc
      obtain ⟨_, _, rfl⟩ := hc
      simp [AOp.kind] at hk
  case makeMap t r =>
    exfalso
    cases r <;> simp only [compOp, hop] at hc
    · injection hc with hc; subst hc; simp [AOp.kind] at hk
    · cases hc
  all_goals
    exfalso
    first
      | (simp [compOp, hop] at hc; done)
      | (simp only [compOp, hop] at hc
         repeat' split at hc
         all_goals first
           | (cases hc; done)
           | (injection hc with hc; subst hc; simp [AOp.kind] at hk; done)
           | (simp only [Option.map_eq_some_iff] at hc; obtain ⟨_, _, rfl⟩ := hc; simp [AOp.kind] at hk; done)
           | (unfold compMapSet at hc; repeat' split at hc
              all_goals first | (cases hc; done) | (injection hc with hc; subst hc; simp [AOp.kind] at hk; done)))

theorem alloc_sound (hE : ERel φ E a.tmps) (hG : GRel φ P.globals.size) {o' : AOp} (hc : compOp P o = some o') (hk : o'.kind = .alloc) {f : Nat → Val} {blk : Blk}
    (he : allocOf o' E = some (f, blk)) : AllocDone P φ w ((Go.execOp a.eval o).run P w) f blk := by
  rcases compOp_alloc hc hk with ⟨e, hop⟩ | ⟨t, len, ps, hop⟩ | ⟨t, l, c, hop⟩
  · simp only [compOp, hop, Option.map_eq_some_iff] at hc
    obtain ⟨z, hz, rfl⟩ := hc
    simp only [allocOf, Option.some.injEq, Prod.mk.injEq] at he
    obtain ⟨rfl, rfl⟩ := he
    obtain ⟨i, zv, hi, hzv, hrel, _, _⟩ := zeroOf_some hz φ
    refine ⟨.pointer (some ⟨w.heap.size, 0, none⟩), { w with heap := w.heap.push (.cells zv.cells e) }, _, zv.cells.size, ?_, rfl, rfl, rfl, ?_, newRow_blk hrel rfl, rfl⟩
    · simp [Go.execOp, hop, Go.Instr.alloc, run_zero hi hzv, Go.newVar, Go.newRow]
    · intro φ'' n hn; exact ⟨_, rfl, by unfold ARel; rw [hn]⟩
  · simp only [compOp, hop] at hc
    split at hc
    case h_2 => cases hc
    rename_i e ht
    split at hc
    case h_2 => cases hc
    rename_i z sz hz hsz
    split at hc
    case isFalse => cases hc
    rename_i hbig
    simp only [Option.map_eq_some_iff] at hc
    obtain ⟨l, hl, rfl⟩ := hc
    simp only [allocOf] at he
    split at he
    case h_2 => cases he
    rename_i cs hcs
    split at he
    case isFalse => cases he
    rename_i hone
    simp only [Option.some.injEq, Prod.mk.injEq] at he
    obtain ⟨rfl, rfl⟩ := he
    obtain ⟨i, zv, hi, hzv, hrel, hzl, _⟩ := zeroOf_some hz φ
    have hsz' : i.size = sz := by simp [sizeOf, hi] at hsz; exact hsz
    have hzs : zv.cells.size = sz := by have := hrel.length; simp at this; omega
    obtain ⟨arr', h1, h2⟩ := fill_sound (arr := (Array.range (len * sz)).map (zv.cells[· % zv.cells.size]!)) hE hG _ hl (by rw [arr_zeros zv sz len hzs]; exact zeros_rel hrel len) hcs
    refine ⟨.slice (some ⟨w.heap.size, 0, none⟩) len len, { w with heap := w.heap.push (.cells arr' e) }, _, arr'.size, ?_, rfl, rfl, rfl, ?_, newRow_blk h2 rfl, rfl⟩
    · have e1 : (ps.map fun (i, x) => (i, a.eval x)).toList = ps.toList.map fun p => (p.1, a.eval p.2) := by simp
      have hb : ¬ len * sz > 2 ^ 24 := by omega
      simp only [Go.execOp, hop, Go.Instr.buildSlice, Go.Sem.run_bind, Go.Result.andThen_ok, run_under ht, run_size hsz, if_neg hb]
      by_cases h0 : len * sz = 0
      · have e2 : (Array.range (len * sz)).map ((#[] : Array Value)[· % (#[] : Array Value).size]!) = (Array.range (len * sz)).map (zv.cells[· % zv.cells.size]!) := by rw [h0]; simp
        rw [if_pos h0]
        simp only [pure_bind, e1, e2, h1]
        simp [Go.newRow]
      · rw [if_neg h0]
        simp only [pure_bind, Go.Sem.run_bind, run_zero hi hzv, Go.Result.andThen_ok, e1, h1]
        simp [Go.newRow]
    · intro φ'' n hn; exact ⟨_, rfl, by unfold ARel; rw [hn]⟩
  · simp only [compOp, hop] at hc
    split at hc
    case h_2 => cases hc
    rename_i e ht
    split at hc
    case h_2 => cases hc
    rename_i z b l' c' hz hb hl hcap
    injection hc with hc; subst hc
    have hlv := opd_sound hE hG hl
    have hcv := opd_sound hE hG hcap
    simp only [allocOf] at he
    split at he
    case h_2 => cases he
    rename_i ln cn hle hce
    split at he
    case isFalse => cases he
    rename_i hcond
    obtain ⟨h0, h1, h2, h3⟩ := hcond
    simp only [Option.some.injEq, Prod.mk.injEq] at he
    obtain ⟨rfl, rfl⟩ := he
    rw [hle] at hlv
    rw [hce] at hcv
    have e1 : a.eval l = _ := hlv
    have e2 : a.eval c = _ := hcv
    obtain ⟨i, zv, hi, hzv, hrel, hzl, _⟩ := zeroOf_some hz φ
    obtain ⟨i', hi', hb'⟩ := run_bytes hb w
    have hib : i.bytes = b := by simp [bytesOf, hi] at hb; exact hb
    have hzs : zv.cells.size = i.size := by have := hrel.length; simp at this; omega
    have hsz : sizeOf P e = some i.size := by simp [sizeOf, hi]
    have hwl : IntKind.i64.wrap ln = ln := wrap_small h0 (by omega)
    have hwc : IntKind.i64.wrap cn = cn := wrap_small (by omega) h3
    have hti : (Go.typeInfo e).run P w = .ok i w := by simp [Go.typeInfo, hi]
    have harr := arr_zeros zv i.size cn.toNat hzs
    have hrz := zeros_rel hrel cn.toNat
    rw [← harr] at hrz
    refine ⟨.slice (some ⟨w.heap.size, 0, none⟩) ln.toNat cn.toNat, { w with heap := w.heap.push (.cells ((Array.range (cn.toNat * i.size)).map (zv.cells[· % zv.cells.size]!)) e) }, _, _, ?_, rfl, rfl, rfl, ?_, newRow_blk hrz rfl, rfl⟩
    · have hc1 : (decide (cn < 0) || decide ((i.bytes : Int) * cn > 2 ^ 48)) = false := by
        simp only [Bool.or_eq_false_iff, decide_eq_false_iff_not]
        refine ⟨by omega, ?_⟩
        rw [hib, Int.mul_comm]; omega
      simp only [Go.execOp, hop, Go.Instr.makeSlice, Go.Sem.run_bind, run_under ht, Go.Result.andThen_ok, e1, e2, Go.asInt, Go.asIntOf, Go.Sem.run_pure, hti, hwl, hwc]
      have hc2 : (decide (cn < 0) || decide ((i.bytes : Int) * cn > 2 ^ 48) || decide (ln < 0) || decide (ln > cn)) = false := by
        rw [hc1]; simp; omega
      simp only [hc2, Bool.false_eq_true, if_false, Go.run_askRoom, Go.Result.andThen_ok, run_size hsz, Go.Sem.run_bind, Go.Sem.run_pure, Go.Sem.run_ite]
      by_cases hn0 : cn.toNat * i.size = 0
      · rw [if_pos hn0]
        have hr0 : Array.range 0 = #[] := rfl
        simp [Go.newRow, hn0, hr0]
      · rw [if_neg hn0]
        simp [run_zero hi hzv, Go.newRow]
    · intro φ'' n hn; exact ⟨_, rfl, by unfold ARel; rw [hn]⟩
end ops

theorem compOper_alloc {ops : Array Oper} {rnd : Bool} {o : Oper} {d : Option Nat} {g : Option (Nat × Bool)} {o' : AOp} {ch : Chk} (hc : compOper P ops rnd o = .op d g o' ch) (hk : o'.kind = .alloc) :
    compOp P o = some o' ∧ guardOf ops o.guard = some g := by
  rcases compOper_cases hc with hc | hc
  case inr => injection hc with h1 h2 h3 h4; subst h3; simp [AOp.kind] at hk
  refine ⟨?_, (compOper0_dst hc).2⟩
  unfold compOper0 at hc
  split at hc
  case h_1 => cases hc
  rename_i g' hg
  split at hc
  · split at hc
    · simp only [Option.map_eq_some_iff] at hc
      obtain ⟨l, _, he⟩ := hc; cases he
    · split at hc
      case h_2 => cases hc
      rename_i l hl
      simp only [Option.map_eq_some_iff] at hc
      obtain ⟨o2, h2, he⟩ := hc
      injection he with h3 h4 h5 h6
      subst h5
      exfalso
      unfold compExtern at h2
      repeat' split at h2
      all_goals first
        | (cases h2; done)
        | (injection h2 with h2; subst h2; simp [AOp.kind] at hk; done)
  · split at hc
    case h_2 => cases hc
    injection hc with hc; cases hc
  · simp only [Option.map_eq_some_iff] at hc
    obtain ⟨l, _, he⟩ := hc; cases he
  · split at hc
    · cases hc
    · split at hc
      case h_2 => cases hc
      injection hc with hc; cases hc
  · simp only [Option.map_eq_some_iff] at hc
    obtain ⟨l, _, he⟩ := hc; cases he
  · simp only [Option.map_eq_some_iff] at hc
    obtain ⟨o2, h2, he⟩ := hc
    injection he with h3 h4 h5 h6
    subst h5
    exact h2

/-! ### A block that the abstract machine has before the model has it -/

theorem R.ahead (h : R W0 φ s w) (x : Blk) : R W0 φ (s.alloc x) w := by
  have hget : ∀ b, (s.alloc x).heap.get b = if b = s.next then some x else s.heap.get b := fun b => PM.get_set _ _ _ _
  have hn : φ s.next = .unk := (h.fresh _ (Nat.le_refl _)).1
  have ne : ∀ b c sz, φ b = .at c sz → b ≠ s.next := by intro b c sz hb e; subst e; rw [hn] at hb; cases hb
  refine ⟨?_, ?_, ?_, ?_, ?_, h.lt, ?_, h.old, h.size, h.os, h.out, Nat.le_succ_of_le h.floor⟩
  · intro b c sz y h1 h2
    rw [hget, if_neg (ne b c sz h1)] at h2
    exact h.blk b c sz y h1 h2
  · intro b c sz h1
    rw [hget, if_neg (ne b c sz h1)]; exact h.live b c sz h1
  · intro b h1
    rw [hget, if_neg (by intro e; subst e; rw [hn] at h1; cases h1)]; exact h.gone b h1
  · intro b hb
    have hb' : s.next + 1 ≤ b := hb
    rw [hget, if_neg (by omega)]; exact h.fresh b (by omega)
  · intro b b' c sz sz' y h1 h2 h3 h4
    rw [hget, if_neg (ne b c sz h1)] at h3
    exact h.inj b b' c sz sz' y h1 h2 h3 h4
  · intro b c sz y h1 h2 h3
    rw [hget, if_neg (ne b c sz h1)] at h2
    exact h.own b c sz y h1 h2 h3

theorem R.lt_next (h : R W0 φ s w) {b : Nat} {x : Blk} (hx : s.heap.get b = some x) : b < s.next := by
  rcases Nat.lt_or_ge b s.next with h1 | h1
  · exact h1
  · rw [(h.fresh b h1).2] at hx; cases hx

theorem PLe.know {n : Nat} {t : Tri} (hu : φ n = .unk) : PLe φ (φ.ext n t) := by
  intro b
  by_cases hb : b = n
  · subst hb; exact .inl hu
  · exact .inr (.inl (Phi.ext_ne φ t hb))

theorem R.know (h : R W0 φ s w) {n : Nat} {x : Blk} (hx : s.heap.get n = some x) (hu : φ n = .unk) {o : Obj} {sz : Nat} (hh : w'.heap = w.heap.push o) (ho : w'.os = w.os) (hout : w'.output = w.output)
    (hb : BlkRel W0.P φ w' w.heap.size sz x) : R W0 (φ.ext n (.at w.heap.size sz)) s w' := by
  have hple : PLe φ (φ.ext n (.at w.heap.size sz)) := PLe.know hu
  have hlt := h.lt_next hx
  have hold : ∀ c, c < w.heap.size → w'.heap[c]? = w.heap[c]? := by
    intro c hc; rw [hh, Array.getElem?_push_lt hc, Array.getElem?_eq_getElem hc]
  have hsz : w'.heap.size = w.heap.size + 1 := by rw [hh]; simp
  have hφ : ∀ b c z, φ.ext n (.at w.heap.size sz) b = .at c z → (b = n ∧ c = w.heap.size ∧ z = sz) ∨ (b ≠ n ∧ φ b = .at c z) := by
    intro b c z he
    by_cases hb : b = n
    · subst hb; rw [Phi.ext_same] at he; injection he with h1 h2; exact .inl ⟨rfl, h1.symm, h2.symm⟩
    · rw [Phi.ext_ne _ _ hb] at he; exact .inr ⟨hb, he⟩
  refine ⟨?_, ?_, ?_, ?_, ?_, ?_, ?_, ?_, ?_, ho.trans h.os, hout.trans h.out, h.floor⟩
  · intro b c z y h1 h2
    rcases hφ b c z h1 with ⟨rfl, rfl, rfl⟩ | ⟨hb', h1⟩
    · rw [hx] at h2; injection h2 with h2; subst h2; exact hb.mono hple
    · exact ((h.blk b c z y h1 h2).heap (hold c (h.lt b c z h1))).mono hple
  · intro b c z h1
    rcases hφ b c z h1 with ⟨rfl, rfl, rfl⟩ | ⟨hb', h1⟩
    · exact ⟨x, hx⟩
    · exact h.live b c z h1
  · intro b h1
    by_cases hb' : b = n
    · subst hb'; rw [Phi.ext_same] at h1; cases h1
    · rw [Phi.ext_ne _ _ hb'] at h1; exact h.gone b h1
  · intro b hb'
    rw [Phi.ext_ne _ _ (by omega)]; exact h.fresh b hb'
  · intro b b' c z z' y h1 h2 h3 h4
    rcases hφ b c z h1 with ⟨rfl, rfl, rfl⟩ | ⟨hb1, g1⟩
    · rcases hφ b' _ z' h2 with ⟨rfl, _, _⟩ | ⟨hb2, h2⟩
      · rfl
      · have := h.lt b' _ z' h2; omega
    · clear h1
      rcases hφ b' c z' h2 with ⟨rfl, rfl, rfl⟩ | ⟨hb2, h2⟩
      · have := h.lt b _ z g1; omega
      · exact h.inj b b' c z z' y g1 h2 h3 h4
  · intro b c z h1
    rcases hφ b c z h1 with ⟨rfl, rfl, rfl⟩ | ⟨hb1, h1⟩
    · omega
    · have := h.lt b c z h1; omega
  · intro b c z y h1 h2 h3
    rcases hφ b c z h1 with ⟨rfl, rfl, rfl⟩ | ⟨hb1, h1⟩
    · exact h.size
    · exact h.own b c z y h1 h2 h3
  · intro c hc
    rw [hold c (Nat.lt_of_lt_of_le hc h.size)]; exact h.old c hc
  · have := h.size; omega

theorem Post.ahead {φ0 : Phi} {s0 : St} {w0 : World} (h : Post W0 φ0 s0 w0 φ s w) (h0 : R W0 φ0 s0 w0) (x : Blk) : Post W0 φ0 s0 w0 φ (s.alloc x) w := by
  have hget : ∀ b, (s.alloc x).heap.get b = if b = s.next then some x else s.heap.get b := fun b => PM.get_set _ _ _ _
  have hn := h.next
  have hfl := h0.floor
  refine ⟨h.rel.ahead x, h.ple, h.stay, ?_, ?_, Nat.le_succ_of_le hn, h.floor, h.grew, h.frame, h.new⟩
  · intro b hb; rw [hget, if_neg (by omega)]; exact h.low b hb
  · intro b hb hu; rw [hget, if_neg (by omega)]; exact h.unk b hb hu

theorem Post.know {φ0 : Phi} {s0 : St} {w0 : World} (h : Post W0 φ0 s0 w0 φ s w) {n : Nat} (hn : s0.next ≤ n) {x : Blk} (hx : s.heap.get n = some x) (hu : φ n = .unk) {o : Obj} {sz : Nat}
    (hh : w'.heap = w.heap.push o) (ho : w'.os = w.os) (hout : w'.output = w.output) (hb : BlkRel W0.P φ w' w.heap.size sz x) : Post W0 φ0 s0 w0 (φ.ext n (.at w.heap.size sz)) s w' := by
  have hold : ∀ c, c < w.heap.size → w'.heap[c]? = w.heap[c]? := by
    intro c hc; rw [hh, Array.getElem?_push_lt hc, Array.getElem?_eq_getElem hc]
  have hgrew := h.grew
  refine ⟨h.rel.know hx hu hh ho hout hb, h.ple.trans (PLe.know hu), ?_, h.low, h.unk, h.next, h.floor, ?_, ?_, ?_⟩
  · intro b hb'; rw [Phi.ext_ne _ _ (by omega)]; exact h.stay b hb'
  · rw [hh]; simp; omega
  · intro c hc hno
    rw [hold c (by omega)]; exact h.frame c hc hno
  · intro b c z hb' he
    by_cases hbn : b = n
    · subst hbn; rw [Phi.ext_same] at he; injection he with h1 h2; exact .inl (by omega)
    · rw [Phi.ext_ne _ _ hbn] at he; exact h.new b c z hb' he
end Am
