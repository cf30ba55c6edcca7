/- Each operation of the abstract machine stands for the model's: conversions of memory. -/
import Derived.Test.YtbmfehgkbgdajaaGreatDoorAmOp7
import Derived.Laws.BytesString
set_option linter.all false
namespace Am
open Go (IntKind BinOp UnOp FuncId TypeId Program Value World Addr Obj Operand Oper Op Sem Act)

variable {W0 : Ctx} {φ : Phi} {s : St} {w w' : World} {P : Program}

theorem foldl_push (ns : List Int) : ∀ r : ByteArray, ns.foldl (fun (r : ByteArray) (n : Int) => r.push (UInt8.ofNat n.toNat)) r = r ++ ⟨(ns.map fun (n : Int) => UInt8.ofNat n.toNat).toArray⟩ := by
  induction ns with
  | nil => intro r; apply ByteArray.ext; simp [ByteArray.data_append]
  | cons n ns ih =>
    intro r
    simp only [List.foldl_cons, ih, List.map_cons]
    apply ByteArray.ext
    simp [ByteArray.data_append, ByteArray.data_push]

theorem freeze_heap {w : World} {c o n : Nat} {arr : Array Value} {e : TypeId} (hn : n ≠ 0) (hw : w.heap[c]? = some (.cells arr e (0, 0))) :
    (w.freeze ⟨c, o, none⟩ n).heap = w.heap.setIfInBounds c (.cells arr e (o, o + n)) := by
  unfold World.freeze
  rw [if_neg hn]
  apply Array.ext_getElem?
  intro j
  have hlt : c < w.heap.size := (Array.getElem?_eq_some_iff.1 hw).1
  by_cases hj : c = j
  · subst hj
    rw [Array.getElem?_setIfInBounds_self_of_lt hlt, Array.getElem?_modify, if_pos rfl, hw]
    simp
  · rw [Array.getElem?_setIfInBounds_ne hj, Array.getElem?_modify, if_neg hj]

theorem viewAt_cells {c : Nat} {o : Nat} {arr : Array Value} {e : TypeId} {fr : Nat × Nat} (hw : w.heap[c]? = some (.cells arr e fr)) : (Go.viewAt c).run P w = .ok none w := by
  simp [Go.viewAt, World.shape?, hw]

theorem seenAt_cells {a : Addr} {arr : Array Value} {e : TypeId} {fr : Nat × Nat} (hw : w.heap[a.block]? = some (.cells arr e fr)) : (Go.Conv.seenAt a).run P w = .ok a w := by
  simp [Go.Conv.seenAt, viewAt_cells (o := 0) hw]

section ops
variable {E : Env} {a : Act} {o : Oper} {v : Val} {s' : St}

theorem conv_toBytes (h : R W0 φ s w) {sr ds e : TypeId} {x : Operand} (hop : o.op = .convert sr ds x) (hs : P.underlying sr = some .string) (hd : P.underlying ds = some (.slice e)) (hu : P.underlying e = some (.int .u8))
    {b : List UInt8} (e1 : a.eval x = .string ⟨b.toArray⟩)  :
    Done P W0 φ s w ((Go.execOp a.eval o).run P w) (.slice (some (s.next, 0)) b.length (.op 1)) (s.alloc (.row { cs := bytesVals b, opn := true, ro := false, frz := 0, clean := false, elem := some e })) := by
  have hg := grown_ge w b.length 0 e
  have hbl : ((b.map fun c => Value.int .u8 c.toNat).toArray ++ Array.replicate (grown w b.length 0 e - b.length) (Value.int .u8 0)).size = grown w b.length 0 e := by simp; omega
  have hw1 : ({ w with drawn := w.drawn + 1, heap := w.heap.push (.cells ((b.map fun c => Value.int .u8 c.toNat).toArray ++ Array.replicate (grown w b.length 0 e - b.length) (Value.int .u8 0)) e) } : World).heap[w.heap.size]? = some (.cells ((b.map fun c => Value.int .u8 c.toNat).toArray ++ Array.replicate (grown w b.length 0 e - b.length) (Value.int .u8 0)) e (0, 0)) := by simp
  have hfz := freeze_heap (w := { w with drawn := w.drawn + 1, heap := w.heap.push (.cells ((b.map fun c => Value.int .u8 c.toNat).toArray ++ Array.replicate (grown w b.length 0 e - b.length) (Value.int .u8 0)) e) }) (c := w.heap.size) (o := grown w b.length 0 e) (n := 1) (by decide) hw1
  refine ⟨_, .slice (some ⟨w.heap.size, 0, none⟩) b.length (grown w b.length 0 e), _, .inl ?_, ⟨_, _, rfl, ?_⟩, h.newRow (w' := ({ w with drawn := w.drawn + 1, heap := w.heap.push (.cells ((b.map fun c => Value.int .u8 c.toNat).toArray ++ Array.replicate (grown w b.length 0 e - b.length) (Value.int .u8 0)) e) } : World).freeze ⟨w.heap.size, grown w b.length 0 e, none⟩ 1) (arr := (b.map fun c => Value.int .u8 c.toNat).toArray ++ Array.replicate (grown w b.length 0 e - b.length) (Value.int .u8 0)) (fr := (grown w b.length 0 e, grown w b.length 0 e + 1)) true false (some e) ?_ ?_ ?_ ?_ ?_ ?_ (fun hf => by cases hf) (fun t ht => by injection ht)⟩
  · simp only [Go.execOp, hop, Go.convert, Go.Sem.run_bind, run_under hs, run_under hd, Go.Result.andThen_ok, e1, run_under hu, Go.Conv.stringToBytes, Go.run_choose, Go.Question.forced, Bool.false_eq_true, if_false, bytes_size]
    have e2 : (Go.Question.appendCap b.length 0 e).cut (w.tape w.drawn (.appendCap b.length 0 e)) = grown w b.length 0 e := rfl
    rw [e2]
    simp only [Go.newRow, Go.Sem.run_bind, Go.run_newObj, Go.Result.andThen_ok, Go.Sem.run_pure, Go.markStringish, Go.run_shape, World.shape?]
    simp [hbl, Go.run_freeze]
  · unfold SRel; rw [Phi.ext_same]
    exact ⟨by decide, hg, by rw [hbl]; simp, .inl rfl⟩
  · simp [bytesVals]
  · have := bytesVals_rel (φ := φ) b
    simpa [bytesVals] using this
  · rw [hfz]
    apply Array.ext_getElem?
    intro j
    by_cases hj : w.heap.size = j
    · subst hj
      rw [Array.getElem?_setIfInBounds_self_of_lt (by simp)]
      simp
    · rw [Array.getElem?_setIfInBounds_ne hj]
      have hj' : ¬ j = w.heap.size := fun hh => hj hh.symm
      simp [Array.getElem?_push, hj']
  · unfold World.freeze; rw [if_neg (by decide)]
  · unfold World.freeze; rw [if_neg (by decide)]
  · intro i hi hh
    rw [hbl] at hi
    simp at hh; omega

theorem conv_fromBytes (h : R W0 φ s w) {sr ds e : TypeId} {x : Operand} (hop : o.op = .convert sr ds x) (hs : P.underlying sr = some (.slice e)) (hd : P.underlying ds = some .string) (hu : P.underlying e = some (.int .u8))
    {ad : Nat × Nat} {n : Nat} {cap : Cap} (hv : VRel φ (.slice (some ad) n cap) (a.eval x)) {l : List Val} {b : List UInt8} (hl : s.loadN ad n = some l) (hb : optBytes l = some b) :
    Done P W0 φ s w ((Go.execOp a.eval o).run P w) (.str b) s := by
  by_cases hn : 0 < n
  · obtain ⟨a', c', e1, hA⟩ := slice_addr h hv hn
    obtain ⟨l', h1, h2, h3⟩ := run_loadN (P := P) h hA hl
    obtain ⟨ns, h4, rfl⟩ := bytes_sound hb h2
    subst h4
    have := Go.run_bytesToString (P := P) w a' n c' ns h1
    rw [foldl_push] at this
    refine Done.val h (v' := .string ⟨(ns.map fun (n : Int) => UInt8.ofNat n.toNat).toArray⟩) ?_ rfl
    simp only [Go.execOp, hop, Go.convert, Go.Sem.run_bind, run_under hs, run_under hd, Go.Result.andThen_ok, e1, run_under hu, this]
    simp
  · obtain rfl : n = 0 := by omega
    obtain ⟨a', c', e1, _⟩ := hv.slice_some
    have hl0 : l = [] := by
      unfold St.loadN at hl
      split at hl
      · split at hl
        · injection hl with hl; subst hl; simp [seg]
        · cases hl
      · cases hl
    subst hl0
    simp [optBytes] at hb; subst hb
    have := Go.run_bytesToString (P := P) w a' 0 c' [] (by simp [Go.loadCells, Go.loadCellsFrom])
    refine Done.val h (v' := .string .empty) ?_ rfl
    simp only [Go.execOp, hop, Go.convert, Go.Sem.run_bind, run_under hs, run_under hd, Go.Result.andThen_ok, e1, run_under hu, this]
    simp

theorem conv_toUnsafe (h : R W0 φ s w) {sr ds t : TypeId} {x : Operand} (hop : o.op = .convert sr ds x) (hs : P.underlying sr = some (.pointer t)) (hd : P.underlying ds = some .unsafePointer) {n : Nat} (hn : sizeOf P t = some n) (hn0 : n ≠ 0)
    {ad : Nat × Nat} {a' : Addr} (e1 : a.eval x = .pointer (some a')) (hA : ARel φ ad a') {r : Row} (hr : s.row? ad.1 = some r) (hoff : ad.2 < r.cs.length) :
    Done P W0 φ s w ((Go.execOp a.eval o).run P w) (.ptr (some ad)) s := by
  obtain ⟨c, sz, arr, et, fr, hcc, hw, hrow⟩ := h.row hr hA.notUnk
  have ha := hA.eq hcc
  subst ha
  refine Done.val h (v' := .pointer (some ⟨c, ad.2, none⟩)) ?_ ⟨_, rfl, hA⟩
  have hci : (Go.cellsIn c).run P w = .ok (some arr.size) w := by simp [Go.cellsIn, World.shape?, hw]
  have hlt : ¬ ad.2 ≥ arr.size := by have := hrow.1; have := hrow.2.1; omega
  simp only [Go.execOp, hop, Go.convert, Go.Sem.run_bind, run_under hs, run_under hd, Go.Result.andThen_ok, e1, Go.Conv.unsafePointer, seenAt_cells (a := ⟨c, ad.2, none⟩) hw, hci, run_size hn]
  simp [hn0]
  omega

theorem conv_fromUnsafe (h : R W0 φ s w) {sr ds u : TypeId} {x : Operand} (hop : o.op = .convert sr ds x) (hs : P.underlying sr = some .unsafePointer) (hd : P.underlying ds = some (.pointer u)) {n : Nat} (hn : sizeOf P u = some n) (hn0 : n ≠ 0)
    {ad : Nat × Nat} {a' : Addr} (e1 : a.eval x = .pointer (some a')) (hA : ARel φ ad a') {r : Row} (hr : s.row? ad.1 = some r) (hoff : ad.2 = 0) (hel : r.elem = some u) (hsz : n ≤ r.cs.length) :
    Done P W0 φ s w ((Go.execOp a.eval o).run P w) (.ptr (some ad)) s := by
  obtain ⟨c, sz, arr, et, fr, hcc, hw, hrow⟩ := h.row hr hA.notUnk
  obtain rfl : et = u := hrow.2.2.2.2.2 u hel
  have ha := hA.eq hcc
  subst ha
  refine Done.val h (v' := .pointer (some ⟨c, ad.2, none⟩)) ?_ ⟨_, rfl, hA⟩
  have hco : P.cellsOf et = n := by
    simp only [sizeOf, Option.map_eq_some_iff] at hn
    obtain ⟨i, hi, hi1⟩ := hn
    simp [Program.cellsOf, hi, hi1]
  have hva : (Go.variablesAt ⟨c, ad.2, none⟩ et 1).run P w = .ok true w := by
    simp only [Go.variablesAt, Go.Sem.run_bind, Go.run_program, Go.run_shape, Go.Result.andThen_ok, World.shape?, hw, Go.Sem.run_pure]
    obtain ⟨d, hd⟩ : ∃ d, P.depth = d + 1 := ⟨2 * (P.types.size + Go.Made.depth) + 1, rfl⟩
    have hcnt : 0 + 1 ≤ arr.size / n := by
      rw [Nat.zero_add]
      exact (Nat.le_div_iff_mul_le (by omega)).2 (by have := hrow.1; have := hrow.2.1; omega)
    have hrow1 : Go.rowAt P (Go.sameLayout P (d + 1) · et) (d + 1) et (arr.size / n) 0 1 = true := by
      unfold Go.rowAt
      have h0 : 0 / n = 0 := Nat.zero_div n
      have hm0 : 0 % n = 0 := Nat.zero_mod n
      simp only [hco, if_neg hn0, h0, hm0]
      simp [Go.sameLayout, hcnt]
    simp only [Go.liesAt, hd, hco, hoff, hrow1, Bool.true_or]
  simp only [Go.execOp, hop, Go.convert, Go.Sem.run_bind, run_under hs, run_under hd, Go.Result.andThen_ok, e1, Go.Conv.unsafePointer, seenAt_cells (a := ⟨c, ad.2, none⟩) hw, run_size hn, hva]
  simp

theorem isU8 {e : TypeId} (h : isU8T P e = true) : P.underlying e = some (.int .u8) := by
  unfold isU8T at h
  split at h
  · assumption
  · cases h

theorem sound_conv (h : R W0 φ s w) (hE : ERel φ E a.tmps) (hG : GRel φ P.globals.size) {sr ds : TypeId} {x : Operand} (hop : o.op = .convert sr ds x) {o' : AOp} (hc : compOp P o = some o')
    (he : evOp o' E s = some (v, s')) : Done P W0 φ s w ((Go.execOp a.eval o).run P w) v s' := by
  simp only [compOp, hop] at hc
  split at hc
  · -- int to int
    rename_i k k' x' hs hd hx
    injection hc with hc; subst hc
    have hv := opd_sound hE hG hx
    simp only [evOp] at he
    split at he
    · rename_i k1 n hn
      simp only [Option.some.injEq, Prod.mk.injEq] at he
      obtain ⟨rfl, rfl⟩ := he
      rw [hn] at hv
      have e1 : a.eval x = _ := hv
      refine Done.val h (v' := .int k' (k'.wrap n)) ?_ rfl
      simp [Go.execOp, hop, Go.convert, run_under hs, run_under hd, e1, Go.Conv.intToInt]
    · cases he
  · -- rune to string
    rename_i k x' hs hd hx
    injection hc with hc; subst hc
    have hv := opd_sound hE hG hx
    simp only [evOp] at he
    split at he
    · rename_i k1 n hn
      simp only [Option.some.injEq, Prod.mk.injEq] at he
      obtain ⟨rfl, rfl⟩ := he
      rw [hn] at hv
      have e1 : a.eval x = _ := hv
      refine Done.val h (v' := .string (Go.Utf8.encode n)) ?_ (by simp [VRel])
      simp [Go.execOp, hop, Go.convert, run_under hs, run_under hd, e1, Go.Conv.intToString]
    · cases he
  · -- string to string
    rename_i x' hs hd hx
    injection hc with hc; subst hc
    have hv := opd_sound hE hG hx
    simp only [evOp] at he
    split at he
    · rename_i b hb
      simp only [Option.some.injEq, Prod.mk.injEq] at he
      obtain ⟨rfl, rfl⟩ := he
      rw [hb] at hv
      have e1 : a.eval x = _ := hv
      refine Done.val h (v' := .string ⟨b.toArray⟩) ?_ rfl
      simp [Go.execOp, hop, Go.convert, run_under hs, run_under hd, e1]
    · cases he
  · -- string to bytes
    rename_i e x' hs hd hx
    split at hc
    case isFalse => cases hc
    rename_i hu
    injection hc with hc; subst hc
    have hv := opd_sound hE hG hx
    simp only [evOp] at he
    split at he
    case h_2 => cases he
    rename_i b hb
    split at he
    case isFalse => cases he
    simp only [Option.some.injEq, Prod.mk.injEq] at he
    obtain ⟨rfl, rfl⟩ := he
    rw [hb] at hv
    exact conv_toBytes h hop hs hd (isU8 hu) hv
  · -- bytes to string
    rename_i e x' hs hd hx
    split at hc
    case isFalse => cases hc
    rename_i hu
    injection hc with hc; subst hc
    have hv := opd_sound hE hG hx
    simp only [evOp] at he
    split at he
    case h_3 => cases he
    · rename_i n cap heq
      split at he
      case isFalse => cases he
      simp only [Option.some.injEq, Prod.mk.injEq] at he
      obtain ⟨rfl, rfl⟩ := he
      rw [heq] at hv
      cases cap with
      | op e => exact (show False from hv).elim
      | ex c =>
        have e1 : a.eval x = _ := hv
        refine Done.val h (v' := .string .empty) ?_ rfl
        simp only [Go.execOp, hop, Go.convert, Go.Sem.run_bind, run_under hs, run_under hd, Go.Result.andThen_ok, e1, run_under (isU8 hu), Go.Conv.bytesToString]
        simp
    · rename_i ad n cap heq
      split at he
      case h_2 => cases he
      rename_i l hl
      simp only [Option.map_eq_some_iff, Prod.mk.injEq] at he
      obtain ⟨b, hb, rfl, rfl⟩ := he
      rw [heq] at hv
      exact conv_fromBytes h hop hs hd (isU8 hu) hv hl hb
  · -- to an unsafe pointer
    rename_i e x' hs hd hx
    split at hc
    all_goals try (cases hc; done)
    rename_i n hn0 hn
    injection hc with hc; subst hc
    have hv := opd_sound hE hG hx
    simp only [evOp] at he
    split at he
    case h_3 => cases he
    · rename_i heq
      simp only [Option.some.injEq, Prod.mk.injEq] at he
      obtain ⟨rfl, rfl⟩ := he
      rw [heq] at hv
      have e1 : a.eval x = _ := hv
      refine Done.val h (v' := .pointer none) ?_ rfl
      simp only [Go.execOp, hop, Go.convert, Go.Sem.run_bind, run_under hs, run_under hd, Go.Result.andThen_ok, e1, Go.Conv.unsafePointer]
      simp
    · rename_i ad heq
      split at he
      case h_2 => cases he
      rename_i r hr
      split at he
      case isFalse => cases he
      rename_i hoff
      simp only [Option.some.injEq, Prod.mk.injEq] at he
      obtain ⟨rfl, rfl⟩ := he
      rw [heq] at hv
      obtain ⟨a', e1, hA⟩ := hv
      cases hsz : sizeOf P e with
      | none => exact absurd hsz hn
      | some m => exact conv_toUnsafe h hop hs hd hsz (by rintro rfl; exact hn0 hsz) e1 hA hr hoff
  · -- from an unsafe pointer
    rename_i e x' hs hd hx
    split at hc
    all_goals try (cases hc; done)
    rename_i n hn0 hn
    injection hc with hc; subst hc
    have hv := opd_sound hE hG hx
    simp only [evOp] at he
    split at he
    case h_3 => cases he
    · rename_i heq
      simp only [Option.some.injEq, Prod.mk.injEq] at he
      obtain ⟨rfl, rfl⟩ := he
      rw [heq] at hv
      have e1 : a.eval x = _ := hv
      refine Done.val h (v' := .pointer none) ?_ rfl
      simp only [Go.execOp, hop, Go.convert, Go.Sem.run_bind, run_under hs, run_under hd, Go.Result.andThen_ok, e1, Go.Conv.unsafePointer]
      simp
    · rename_i ad heq
      split at he
      case h_2 => cases he
      rename_i r hr
      split at he
      case isFalse => cases he
      rename_i hcond
      simp only [Option.some.injEq, Prod.mk.injEq] at he
      obtain ⟨rfl, rfl⟩ := he
      rw [heq] at hv
      obtain ⟨a', e1, hA⟩ := hv
      exact conv_fromUnsafe h hop hs hd hn (by rintro rfl; exact hn0 rfl) e1 hA hr hcond.1 hcond.2.1 hcond.2.2
  · cases hc

end ops
end Am
