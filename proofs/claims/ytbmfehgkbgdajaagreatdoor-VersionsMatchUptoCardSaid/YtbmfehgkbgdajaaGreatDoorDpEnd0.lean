/- What every law of the depot wants at its end. -/
import Derived.Test.YtbmfehgkbgdajaaGreatDoorDpFns
import Derived.Test.YtbmfehgkbgdajaaGreatDoorCards
import Derived.Test.YtbmfehgkbgdajaaGreatDoorTie
import Derived.WalkKit
import Derived.ProofKit
import Derived.OpenShut
import Derived.Deep.DeepHandedRow
import Derived.Lib.LaidTab
import Derived.Shelf.Vars
import Derived.Lay
set_option linter.all false
namespace Dp
open Am Go Go.Proofs Go.Proofs.YtbmfehgkbgdajaaGreatDoor
open Go.ChangeShapes Go.WideShapes Go.ChangeAt Go.RowKit

theorem own : ownKnob Tryz.prog.godebug = none := by kernel_rfl
theorem gPow : Tryz.prog.globalNamed "internal/strconv.uint64pow10" = some 1 := by kernel_rfl
theorem gSyn : Tryz.prog.globalNamed "strconv.ErrSyntax" = some 2 := by kernel_rfl
theorem gRan : Tryz.prog.globalNamed "strconv.ErrRange" = some 3 := by kernel_rfl
theorem tPow : (Tryz.prog.globals[1]?).map (·.type) = some 287 := by kernel_rfl
theorem tSyn : (Tryz.prog.globals[2]?).map (·.type) = some 126 := by kernel_rfl
theorem tRan : (Tryz.prog.globals[3]?).map (·.type) = some 126 := by kernel_rfl
theorem nGlob : 0 < Tryz.prog.globals.size := by decide +kernel

theorem laidVars_mem {P : Program} {W : World} {n : String} {d : DataW Unit} : ∀ {l : List (String × DataW Unit)} {ps : List MemPlace}, DataW.LaidVars P W l ps → (n, d) ∈ l → ∃ g t cs fuel p, P.globalNamed n = some g ∧ (P.globals[g]?).map (·.type) = some t ∧ W.var? P n = some cs ∧ DataW.trod (fun _ => ()) P W 0 (fun _ => true) false fuel t cs.toList = some (d, p)
  | (m, e) :: r, ps, h, hm => by
    obtain ⟨g, t, cs, fuel, p, q, h1, h2, h3, h4, h5, _⟩ := h
    rcases List.mem_cons.1 hm with hm | hm
    · injection hm with hm1 hm2
      subst hm1; subst hm2
      exact ⟨g, t, cs, fuel, p, h1, h2, h3, h4⟩
    · exact laidVars_mem h5 hm

/-- an error variable holds some error -/
theorem iface_of {P : Program} {W : World} {sp : Nat → Bool} {fuel t : Nat} {ms : Array (String × TypeId)} {cs : Array Value} {name : String} {d : DataW Unit} {p : List MemPlace} (ht : P.underlying t = some (.interface ms))
    (h : DataW.trod (fun _ => ()) P W 0 sp false fuel t cs.toList = some (.iface name d, p)) : ∃ u v, cs = #[.iface u v] := by
  cases fuel with
  | zero => simp [DataW.trod] at h
  | succ n =>
    obtain ⟨l⟩ := cs
    simp only at h
    unfold DataW.trod at h
    rw [ht] at h
    split at h <;> simp_all

theorem G_of {W : World} {laid : List (String × DataW Unit)} (hL : laidMetH Tryz.prog laid W) (hp : (laid.all fun x => x.2.handleName?.isNone) = true) (hsh : W.ShapedOpen Tryz.prog)
    (m1 : ("internal/strconv.uint64pow10", Rows.laid_internal_strconv_uint64pow10) ∈ laid) (m2 : ("strconv.ErrSyntax", Rows.laid_strconv_ErrSyntax) ∈ laid) (m3 : ("strconv.ErrRange", Rows.laid_strconv_ErrRange) ∈ laid) : G (ctxOf Tryz.prog W) := by
  rw [MakeChecks.laidMetH_plain _ _ _ hp] at hL
  obtain ⟨ps, hL, _⟩ := hL
  refine ⟨?_, ?_, ?_, ?_⟩
  · obtain ⟨m, hm⟩ := cell_of_shapedOpen_int (g := 0) (t := 3) (zero := #[.int .i64 0]) (k := .i64) hsh (by decide +kernel) (by kernel_rfl) rfl (by kernel_rfl) (by kernel_rfl) Tryz.underlying3
    obtain ⟨cs, hh, hs, _⟩ := hsh.1 0 #[.int .i64 0] 3 (by decide +kernel) (by kernel_rfl)
    refine ⟨m, ?_⟩
    have hv : varAt Tryz.prog W.heap "internal/bytealg.MaxLen" = some cs := by
      unfold varAt; rw [gMax]; simp only [Option.bind_some, hh]
    rw [show (ctxOf Tryz.prog W).heap = W.heap from rfl, hv]
    have hc := varAt_cell gMax hv 0
    rw [hm] at hc
    congr 1
    have hs : cs.size = 1 := hs
    obtain ⟨l⟩ := cs
    match l, hs, hc with
    | [x], _, hc => simp at hc; rw [hc]
  · obtain ⟨g, t, cs, fuel, p, h1, h2, h3, h4⟩ := laidVars_mem hL m1
    obtain rfl := Option.some.inj (gPow.symm.trans h1)
    obtain rfl := Option.some.inj (tPow.symm.trans h2)
    have e := Lib.cells_of_tab (zs := Lib.pow10Tab) (k := .u64) Tryz.underlying287 Tryz.underlying140 (by kernel_rfl) (by kernel_rfl) (show _ = some (Lib.tabData .u64 Lib.pow10Tab, p) from h4)
    show varAt Tryz.prog W.heap _ = some pow10
    rw [← varAt_world, h3]
    unfold pow10
    rw [← e]
  · obtain ⟨g, t, cs, fuel, p, h1, h2, h3, h4⟩ := laidVars_mem hL m2
    obtain rfl := Option.some.inj (gSyn.symm.trans h1)
    obtain rfl := Option.some.inj (tSyn.symm.trans h2)
    obtain ⟨u, v, rfl⟩ := iface_of Tryz.underlying126 h4
    exact ⟨u, v, h3⟩
  · obtain ⟨g, t, cs, fuel, p, h1, h2, h3, h4⟩ := laidVars_mem hL m3
    obtain rfl := Option.some.inj (gRan.symm.trans h1)
    obtain rfl := Option.some.inj (tRan.symm.trans h2)
    obtain ⟨u, v, rfl⟩ := iface_of Tryz.underlying126 h4
    exact ⟨u, v, h3⟩

theorem laidOut : laidOutB Tryz.prog = true := by kernel_rfl

theorem size_of_shaped {W : World} (h : W.ShapedOpen Tryz.prog) : Tryz.prog.globals.size ≤ W.heap.size := by
  have hz : Tryz.prog.globals.size < (begin Tryz.prog (fun _ _ => 0) default).world.heap.size := of_decide_eq_true (by kernel_rfl)
  obtain ⟨o, o0, hh, _⟩ := h.2 Tryz.prog.globals.size (Nat.le_refl _) hz
  exact Nat.le_of_lt (Array.getElem?_eq_some_iff.1 hh).1

section
variable {H : Type} {enc : TypeId × Value → H} {P : Program} {W W' : World}

theorem kept_old (hh : ∀ c, c < W.heap.size → W'.heap[c]? = W.heap[c]?) (ho : W'.os = W.os) (hu : W'.output = W.output) (may : MemPlace → Prop) : W.keptBut W' may := by
  refine ⟨ho, hu, fun i hi => ?_⟩
  rw [hh i hi]
  split <;> simp_all

theorem same_old (hh : ∀ c, c < W.heap.size → W'.heap[c]? = W.heap[c]?) {p : MemPlace} (hp : p.block < W.heap.size) : W.sameAt W' p := by
  cases p with
  | cell b o => exact World.cell?_of_block (w := W) (hh b hp)
  | map b => exact hh b hp

theorem trodAll_old (hl : laidOutB P = true) (hh : ∀ c, c < W.heap.size → W'.heap[c]? = W.heap[c]?) : ∀ {ts : List TypeId} {vs : List Value} {ds : List (DataW H)} {ps : List MemPlace}, (∀ t ∈ ts, P.readableRec t = true ∧ t < P.types.size) →
    DataW.TrodAll enc P W 0 (fun _ => true) true ts vs ds ps → (∀ p ∈ ps, p.block < W.heap.size) → DataW.TrodAll enc P W' 0 (fun b => decide (b < W.heap.size)) true ts vs ds ps
  | [], vs, ds, ps, _, h, _ => by
    obtain ⟨rfl, rfl, rfl⟩ := trodAll_nil h; exact rfl
  | t :: ts, vs, ds, ps, hr, h, hp => by
    obtain ⟨v, vs1, d, ds1, a, b, rfl, rfl, rfl, h1, h2⟩ := trodAll_cons h
    obtain ⟨r1, r2⟩ := hr t List.mem_cons_self
    exact ⟨a, b, WideElems.Trod_stays hl r1 r2 h1 (fun x hx => same_old hh (hp x (List.mem_append_left _ hx))) (fun x hx => by simpa using hp x (List.mem_append_left _ hx)),
      trodAll_old hl hh (fun t ht => hr t (List.mem_cons_of_mem _ ht)) h2 (fun x hx => hp x (List.mem_append_right _ hx)), rfl⟩

/-- WHAT A LAW's STATEMENT ASKS BEHIND A CALL THAT GIVES TRUE AND LEAVES OLD MEMORY. -/
theorem post_true {f : Func} {s : ChangeSpec} {args : Array Value} {ds gs : List (DataW H)} {before : List MemPlace} (hl : laidOutB P = true) (hr : ∀ t ∈ f.params.toList, P.readableRec t = true ∧ t < P.types.size)
    (hW : DataW.Whole enc P f.params.toList s.vars false W args.toList ds gs before) (hv : s.vars = []) {b : TypeId} (hres : f.resultTypes = #[b]) (hb : P.underlying b = some .bool) (hfn : s.fn H (ds ++ gs) = { results := [.lit (.bool true)], args := ds })
    (hh : ∀ c, c < W.heap.size → W'.heap[c]? = W.heap[c]?) (ho : W'.os = W.os) (hu : W'.output = W.output) : s.post enc P f false true false false W args (.bool true) W' := by
  have hlt : ∀ x ∈ before, x.block < W.heap.size := fun x hx => by simpa using hW.lt x hx
  obtain ⟨p, q, hA, hV, rfl, _⟩ := id hW
  refine ⟨ds, gs, p ++ q, [], p, [], hW, ?_, ?_, ?_, kept_old hh ho hu _, fun h => by cases h⟩
  · rw [hfn, hres]; exact trodAll_mk1 (shut_bool hb _)
  · rw [hfn]; exact trodAll_old hl hh hr hA (fun x hx => hlt x (List.mem_append_left _ hx))
  · rw [hfn, hv]; rfl
end

/-- THERE IS AN INPUT THAT FITS: all listed variables laid. -/
theorem witness_zip {H : Type} {enc : TypeId × Value → H} {C : Checked} {os : Os} {f : FuncId} {fn : Func} {s : OpenSpec} {conds : List PathCond} {apart : Bool} {laid : List (String × DataW Unit)} (w0 : World) (args : Array Value) (hos : w0.os = os)
    (hsh : (w0.forCall (fun _ _ => 0) ⟨#[], args, []⟩).Shaped C.prog)
    (hok : Input.okWideB C.prog (w0.forCall (fun _ _ => 0) ⟨#[], args, []⟩) f ⟨#[], args, []⟩ = true)
    (hrow : s.preRow enc C.prog fn conds apart laid (w0.forCall (fun _ _ => 0) ⟨#[], args, []⟩).memory args) :
    ∃ (w : World) (tape : Tape) (i : Input), w.os = os ∧ (w.forCall tape i).Shaped C.prog ∧ i.vars = [] ∧ Input.okWide C.prog (w.forCall tape i) .any w.heap.size f i ∧
      s.preRow enc C.prog fn conds apart laid (w.forCall tape i).memory i.args ∧ ({} : Assume).holds C.prog (lone (Frame.enter C.prog f i.args .normal) [] (w.forCall tape i)) :=
  ⟨w0, fun _ _ => 0, ⟨#[], args, []⟩, hos, hsh, (Input.okWide_of_okWideB (base := 0) hok).1, (Input.okWide_of_okWideB hok).2, hrow, by
    simp [Assume.holds]⟩
end Dp
