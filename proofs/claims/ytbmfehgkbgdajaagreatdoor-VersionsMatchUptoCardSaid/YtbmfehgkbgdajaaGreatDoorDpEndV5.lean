/- VersionsMatch: the row's statement. -/
import Derived.Test.YtbmfehgkbgdajaaGreatDoorDpEndV2
import Derived.Test.YtbmfehgkbgdajaaGreatDoorDpEndV4
import Derived.Test.YtbmfehgkbgdajaaGreatDoorDpEndV4b
import Derived.Test.YtbmfehgkbgdajaaGreatDoorDpEndV4c
set_option linter.all false
set_option maxRecDepth 100000
namespace Dp
open Am Go Go.Proofs Go.Proofs.YtbmfehgkbgdajaaGreatDoor
open Go.ChangeShapes Go.WideShapes Go.ChangeAt Go.RowKit

theorem vFacts : joinedFacts Tryz.prog 5 Tryz.f5 (Rows.OpenSpec.upto Rows.versionsMatchSpec).bare Rows.versionsMatchUptoRow = true := by
  unfold joinedFacts
  simp only [Bool.and_eq_true]
  repeat' (refine And.intro ?_ ?_)
  · exact j1
  · exact laidOut
  · exact j3
  · exact j4
  · exact j5
  · kernel_rfl
  · kernel_rfl
  · kernel_rfl
  · kernel_rfl
  · exact j6
  · exact j7
  · exact j8
  · exact j9
  · kernel_rfl
  · kernel_rfl
  · kernel_rfl
  · kernel_rfl
  · kernel_rfl
  · kernel_rfl
  · kernel_rfl
  · kernel_rfl
  · kernel_rfl
  · exact j12
  · kernel_rfl
  · exact j13
  · exact j14
  · exact j15
  · exact j16
  · kernel_rfl
  · kernel_rfl
  · kernel_rfl
  · kernel_rfl

theorem saidOf (p : Pinned) (hc : p.checked = Tryz.checked) (hn : Rows.versionsMatchUptoRow.program = p.name) (hs : Rows.versionsMatchUptoRow.sum = p.sum) : Rows.versionsMatchUptoRow.holds p (Rows.OpenSpec.upto Rows.versionsMatchSpec) := by
  have hP : p.checked.prog = Tryz.prog := by rw [hc]; rfl
  exact OpenClaim.holds_of_cond 5 Tryz.f5 hn hs rfl rfl rfl rfl rfl ⟨rfl, rfl, rfl, rfl, rfl⟩ rfl rfl rfl rfl rfl (by rw [hP]; exact vName) (by rw [hP]; exact Tryz.func5) (by rw [hP]; exact vFacts)
    (by rw [hP]; exact vInst) (by rw [hP]; exact vWrap)
    (fun os started H enc _ F => by rw [OpenClaim.pre_eq_preRow]; exact vLiftedC p.checked hc os started H enc F)
end Dp
