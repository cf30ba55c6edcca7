/- VersionsMatch: the card. -/
import Derived.Test.YtbmfehgkbgdajaaGreatDoorDpEndV
set_option linter.all false
set_option maxRecDepth 100000
namespace Dp
open Am Go Go.Proofs Go.Proofs.YtbmfehgkbgdajaaGreatDoor
open Go.ChangeShapes Go.WideShapes Go.ChangeAt Go.RowKit

noncomputable abbrev vArgs : Array Value := #[.string ByteArray.empty, .agg #[.int .i64 0, .int .i64 0, .int .i64 0], .agg #[.string ByteArray.empty, .int .i64 0, .int .i64 0, .int .i64 0, .int .i64 0]]

noncomputable def vWorld (os : Os) : World := World.laidAll Tryz.prog os Rows.versionsMatchRow.laid

theorem vLaid (os : Os) : laidMet Tryz.prog Rows.versionsMatchRow.laid ((vWorld os).forCall (fun _ _ => 0) ⟨#[], vArgs, []⟩).memory :=
  laidMet_laidAll _ (by kernel_rfl) (by kernel_rfl)
theorem vShaped (os : Os) : ((vWorld os).forCall (fun _ _ => 0) ⟨#[], vArgs, []⟩).Shaped Tryz.prog :=
  World.shaped_of_ZipB (by kernel_rfl) (by kernel_rfl)

theorem vReads (os : Os) {H : Type} (enc : TypeId × Value → H) : ∃ places, DataW.whole enc Tryz.prog ((vWorld os).forCall (fun _ _ => 0) ⟨#[], vArgs, []⟩).memory Tryz.f5.params.toList Rows.versionsMatchSpec.vars false vArgs.toList 8 =
    some ([.lit (.string []), .agg [.lit (.int .i64 0), .lit (.int .i64 0), .lit (.int .i64 0)], .agg [.lit (.string []), .lit (.int .i64 0), .agg [.lit (.int .i64 0), .lit (.int .i64 0), .lit (.int .i64 0)]]], [], places) :=
  ⟨[], by kernel_rfl⟩

theorem vLaidH (os : Os) : laidMetH Tryz.prog Rows.versionsMatchUptoRow.laid ((vWorld os).forCall (fun _ _ => 0) ⟨#[], vArgs, []⟩).memory := by
  rw [MakeChecks.laidMetH_plain _ _ _ (by kernel_rfl)]
  exact vLaid os
theorem vSized (os : Os) {H : Type} (enc : TypeId × Value → H) : (Rows.OpenSpec.upto Rows.versionsMatchSpec).bare.sizedB enc Tryz.prog Tryz.f5 false ((vWorld os).forCall (fun _ _ => 0) ⟨#[], vArgs, []⟩).memory vArgs 8 = true := by kernel_rfl
theorem vOk (os : Os) : Input.okWideB Tryz.prog ((vWorld os).forCall (fun _ _ => 0) ⟨#[], vArgs, []⟩) 5 ⟨#[], vArgs, []⟩ = true := by kernel_rfl
theorem vNoInit : Tryz.prog.inits.idxOf? 5 = none := by kernel_rfl
theorem vBulk (H : Type) : Rows.uptoSmall H ([.lit (.string []), .agg [.lit (.int .i64 0), .lit (.int .i64 0), .lit (.int .i64 0)], .agg [.lit (.string []), .lit (.int .i64 0), .agg [.lit (.int .i64 0), .lit (.int .i64 0), .lit (.int .i64 0)]]] ++ []) = true := by kernel_rfl

theorem vRow (os : Os) {H : Type} (enc : TypeId × Value → H) : (Rows.OpenSpec.upto Rows.versionsMatchSpec).preRow enc Tryz.prog Tryz.f5 Rows.versionsMatchUptoRow.domain false Rows.versionsMatchUptoRow.laid ((vWorld os).forCall (fun _ _ => 0) ⟨#[], vArgs, []⟩).memory vArgs := by
  obtain ⟨places, hx⟩ := vReads os enc
  exact OpenSpec.preRow_of_cond 8 hx rfl (fun k hk => by cases hk; exact vBulk H) (vSized os enc) (vLaidH os)

theorem vWitness (os : Os) {H : Type} (enc : TypeId × Value → H) : ∃ (w : World) (tape : Tape) (i : Input), w.os = os ∧ (w.forCall tape i).Shaped Tryz.checked.prog ∧ i.vars = [] ∧ Input.okWide Tryz.checked.prog (w.forCall tape i) .any w.heap.size 5 i ∧
      (Rows.OpenSpec.upto Rows.versionsMatchSpec).preRow enc Tryz.checked.prog Tryz.f5 Rows.versionsMatchUptoRow.domain false Rows.versionsMatchUptoRow.laid (w.forCall tape i).memory i.args ∧ ({} : Assume).holds Tryz.checked.prog (lone (Frame.enter Tryz.checked.prog 5 i.args .normal) [] (w.forCall tape i)) :=
  witness_zip (enc := enc) (C := Tryz.checked) (vWorld os) vArgs (World.laidAll_os _ _ _) (vShaped os) (vOk os) (vRow os enc)

theorem vCon (P : Program) (hP : P = Tryz.prog) (H : Type) (enc : TypeId × Value → H) (F : Stop.Interp) : ∀ (W : World) (base : Nat) (args : Array Value) (ds gs : List (DataW H)) (before : List MemPlace),
      (∀ (j : Nat) t v, Tryz.f5.params[j]? = some t → args[j]? = some v → Value.okWide P W .any base t v) →
      DataW.Whole enc P Tryz.f5.params.toList (Rows.OpenSpec.upto Rows.versionsMatchSpec).vars false W args.toList ds gs before →
      (∀ k, (Rows.OpenSpec.upto Rows.versionsMatchSpec).cond = some k → k H (ds ++ gs) = true) →
      laidMetH P Rows.versionsMatchUptoRow.laid W →
      W.ShapedOpen P →
      Calls P 5 args W fun e W' => ∃ v, e = .returned v ∧ ((Rows.OpenSpec.upto Rows.versionsMatchSpec).at F).post enc P Tryz.f5 false true false false W args v W' := by
  subst hP
  intro W base args ds gs before hval hW hcond hL hsh
  exact contract H enc F W base args ds gs before hval hW (hcond _ rfl) hL hsh

theorem vLifted (os : Os) (started : os.Started) (H : Type) (enc : TypeId × Value → H) (F : Stop.Interp) :
    ReturnsInHanded {} Tryz.checked os 5 .any ((Rows.OpenSpec.upto Rows.versionsMatchSpec).preRow enc Tryz.checked.prog Tryz.f5 Rows.versionsMatchUptoRow.domain false Rows.versionsMatchUptoRow.laid) (((Rows.OpenSpec.upto Rows.versionsMatchSpec).at F).post enc Tryz.checked.prog Tryz.f5 false true false false) := by
  refine returnsInHanded_of_row (C := Tryz.checked) (s := Rows.OpenSpec.upto Rows.versionsMatchSpec) own started vNoInit Tryz.func5 (vWitness os enc) ?_
  intro W base args ds gs before hval hW _ hcond _ hL hsh _
  exact vCon Tryz.checked.prog rfl H enc F W base args ds gs before hval hW hcond hL hsh

theorem vLiftedC (C : Checked) (hC : C = Tryz.checked) (os : Os) (started : os.Started) (H : Type) (enc : TypeId × Value → H) (F : Stop.Interp) :
    ReturnsInHanded {} C os 5 .any ((Rows.OpenSpec.upto Rows.versionsMatchSpec).preRow enc C.prog Tryz.f5 Rows.versionsMatchUptoRow.domain false Rows.versionsMatchUptoRow.laid) (((Rows.OpenSpec.upto Rows.versionsMatchSpec).at F).post enc C.prog Tryz.f5 false true false false) := by
  subst hC; exact vLifted os started H enc F
end Dp
