/- VersionsMatch: the statement. -/
import Derived.Test.YtbmfehgkbgdajaaGreatDoorDpEnd0
import Derived.Test.YtbmfehgkbgdajaaGreatDoorDpV7
import Derived.Test.YtbmfehgkbgdajaaGreatDoorDpLawV
import Derived.Lib.SmallJoins
import Derived.ChangeMaps5
set_option linter.all false
set_option maxRecDepth 100000
namespace Dp
open Am Go Go.Proofs Go.Proofs.YtbmfehgkbgdajaaGreatDoor
open Go.ChangeShapes Go.WideShapes Go.ChangeAt Go.RowKit Go.Joins Go.ChangeMaps Go.Deep

theorem call_versions {w : World} (hG : G (ctxOf Tryz.prog w)) (hsz : Tryz.prog.globals.size ≤ w.heap.size) {s t : ByteArray} (hs : s.size ≤ 1048576) {a b c k x y z : Int} (ha : i64 a) (hb : i64 b) (hc : i64 c) :
    Calls Tryz.prog 5 #[.string s, .agg #[.int .i64 a, .int .i64 b, .int .i64 c], .agg #[.string t, .int .i64 k, .int .i64 x, .int .i64 y, .int .i64 z]] w fun e w' => e = .returned (.bool true) ∧ (∀ c, c < w.heap.size → w'.heap[c]? = w.heap[c]?) ∧ w.heap.size ≤ w'.heap.size ∧ w'.os = w.os ∧ w'.output = w.output := by
  refine law_calls mixed fns_ok hG hsz _ ?_
  have hl : s.data.toList.length ≤ 1048576 := by rw [← Lib.size_eq]; exact hs
  refine versionsMatch_spec s.data.toList hl ?_ (refVer_law _) a b c ha hb hc t.data.toList k x y z _ _ (Nat.le_refl _) (fun st' _ => rfl)
  intro p hp
  rw [splitL_cut] at hp
  exact Nat.le_trans (cutL_len _ p hp) hl



theorem array5 {α : Type} {cs : Array α} (h : cs.size = 5) : ∃ c0 c1 c2 c3 c4, cs = #[c0, c1, c2, c3, c4] := by
  obtain ⟨l⟩ := cs
  match l, h with
  | [c0, c1, c2, c3, c4], _ => exact ⟨c0, c1, c2, c3, c4, rfl⟩

theorem i64_wf {n : Int} (h : (Lit.int .i64 n).wf = true) : i64 n := by
  simp only [Lit.wf, Bool.and_eq_true, decide_eq_true_eq] at h
  unfold i64
  simpa [IntKind.min, IntKind.max, IntKind.has, IntKind.bits, IntKind.signed] using h

section
variable {H : Type} {enc : TypeId × Value → H} {W : World} {sp : Nat → Bool}

theorem open_version {r : Reach} {b0 : Nat} {v : Value} {d : DataW H} {p : List MemPlace} (hv : Value.okWide Tryz.prog W r b0 32 v) (h : DataW.Trod enc Tryz.prog W 0 sp true 32 v d p) :
    ∃ a b c, v = .agg #[.int .i64 a, .int .i64 b, .int .i64 c] ∧ i64 a ∧ i64 b ∧ i64 c := by
  obtain ⟨v0, v1, v2, y0, y1, y2, n, rfl, _, _, h0, h1, h2⟩ := open_agg3 Tryz.underlying32 (by kernel_rfl) (by kernel_rfl) hv h
  obtain ⟨a, e0, _, w0⟩ := DataW.trod_int Tryz.underlying3 h0
  obtain ⟨b, e1, _, w1⟩ := DataW.trod_int Tryz.underlying3 h1
  obtain ⟨c, e2, _, w2⟩ := DataW.trod_int Tryz.underlying3 h2
  simp only [List.cons.injEq, and_true] at e0 e1 e2
  subst e0; subst e1; subst e2
  exact ⟨a, b, c, rfl, i64_wf w0, i64_wf w1, i64_wf w2⟩

theorem open_need {r : Reach} {b0 : Nat} {v : Value} {d : DataW H} {p : List MemPlace} (hv : Value.okWide Tryz.prog W r b0 34 v) (h : DataW.Trod enc Tryz.prog W 0 sp true 34 v d p) :
    ∃ t k x y z, v = .agg #[.string t, .int .i64 k, .int .i64 x, .int .i64 y, .int .i64 z] := by
  obtain ⟨cs, rfl, hsz⟩ := okWide_struct Tryz.underlying34 hv
  have e34 : Tryz.prog.cellsOf 34 = 5 := by kernel_rfl
  obtain ⟨c0, c1, c2, c3, c4, rfl⟩ := array5 (hsz.trans e34)
  obtain ⟨fuel, hf⟩ := h
  obtain ⟨y0, y1, y2, n, _, _, h0, h1, h2⟩ := trod_struct3 Tryz.underlying34 hf
  have e9 : Tryz.prog.cellsOf 9 = 1 := by kernel_rfl
  have e3 : Tryz.prog.cellsOf 3 = 1 := by kernel_rfl
  have e32 : Tryz.prog.cellsOf 32 = 3 := by kernel_rfl
  simp only [Value.cells, e9, e3, e32, List.drop_zero, List.drop_succ_cons, List.take_succ_cons, List.take_zero] at h0 h1 h2
  obtain ⟨t, e0, _⟩ := DataW.trod_string Tryz.underlying9 h0
  obtain ⟨k, e1, _⟩ := DataW.trod_int Tryz.underlying3 h1
  obtain ⟨z0, z1, z2, m, _, _, g0, g1, g2⟩ := trod_struct3 Tryz.underlying32 h2
  simp only [e3, List.drop_zero, List.drop_succ_cons, List.take_succ_cons, List.take_zero] at g0 g1 g2
  obtain ⟨x, f0, _⟩ := DataW.trod_int Tryz.underlying3 g0
  obtain ⟨y, f1, _⟩ := DataW.trod_int Tryz.underlying3 g1
  obtain ⟨z, f2, _⟩ := DataW.trod_int Tryz.underlying3 g2
  simp only [List.cons.injEq, and_true] at e0 e1 f0 f1 f2
  subst e0; subst e1; subst f0; subst f1; subst f2
  exact ⟨t, k, x, y, z, rfl⟩
end

theorem contract (H : Type) (enc : TypeId × Value → H) (F : Stop.Interp) (W : World) (base : Nat) (args : Array Value) (ds gs : List (DataW H)) (before : List MemPlace)
    (hval : ∀ (j : Nat) t v, Tryz.f5.params[j]? = some t → args[j]? = some v → Value.okWide Tryz.prog W .any base t v)
    (hW : DataW.Whole enc Tryz.prog Tryz.f5.params.toList Rows.versionsMatchSpec.vars false W args.toList ds gs before)
    (hk : Rows.uptoSmall H (ds ++ gs) = true) (hL : laidMetH Tryz.prog Rows.versionsMatchRow.laid W) (hsh : W.ShapedOpen Tryz.prog) :
    Calls Tryz.prog 5 args W fun e W' => ∃ v, e = .returned v ∧ Rows.versionsMatchSpec.post enc Tryz.prog Tryz.f5 false true false false W args v W' := by
  have hW' := hW
  have hG := G_of hL (by kernel_rfl) hsh (by simp [Rows.versionsMatchRow]) (by simp [Rows.versionsMatchRow]) (by simp [Rows.versionsMatchRow])
  obtain ⟨p, q, hA0, hV, rfl, hfz, hnd⟩ := hW
  have hA : DataW.TrodAll enc Tryz.prog W 0 (fun _ => true) true Tryz.f5.params.toList args.toList ds p := hA0
  rw [Tryz.params5] at hA hval
  obtain ⟨v0, vs0, d0, ds0, p0, q0, ea, rfl, rfl, h0, r0⟩ := trodAll_cons hA
  obtain ⟨v1, vs1, d1, ds1, p1, q1, rfl, rfl, rfl, h1, r1⟩ := trodAll_cons r0
  obtain ⟨v2, vs2, d2, ds2, p2, q2, rfl, rfl, rfl, h2, r2⟩ := trodAll_cons r1
  obtain ⟨rfl, rfl, rfl⟩ := trodAll_nil r2
  obtain rfl : args = #[v0, v1, v2] := by cases args; simp_all
  obtain ⟨rfl, rfl⟩ := trodVars_none hV
  obtain ⟨s, rfl, rfl, _⟩ := open_string Tryz.underlying9 (hval 0 9 v0 rfl rfl) h0
  obtain ⟨a, b, c, rfl, ha, hb, hc⟩ := open_version (hval 1 32 v1 rfl rfl) h1
  obtain ⟨t, k, x, y, z, rfl⟩ := open_need (hval 2 34 v2 rfl rfl) h2
  have hs : s.size ≤ 1048576 := by
    have h : Rows.uptoBulkAll [DataW.lit (H := H) (.string s.data.toList), d1, d2] ≤ 1048576 := by
      have := hk
      simp only [List.append_nil] at this
      exact of_decide_eq_true this
    simp only [Rows.uptoBulkAll, Rows.uptoBulk] at h
    rw [Lib.size_eq]
    omega
  refine (call_versions hG (size_of_shaped hsh) hs ha hb hc).mono ?_
  rintro e W' ⟨rfl, hh, hz, ho, hu⟩
  refine ⟨_, rfl, post_true laidOut ?_ hW' rfl (b := 4) (by kernel_rfl) Tryz.underlying4 rfl hh ho hu⟩
  have all : (Tryz.f5.params.toList.all fun t => Tryz.prog.readableRec t && decide (t < Tryz.prog.types.size)) = true := by kernel_rfl
  intro t ht
  have := List.all_eq_true.1 all t ht
  simpa using this
end Dp
