/- VersionsMatch: the closed facts of its row, second part. -/
import Derived.Test.YtbmfehgkbgdajaaGreatDoorDpEnd0
set_option linter.all false
set_option maxRecDepth 100000
namespace Dp
open Am Go Go.Proofs Go.Proofs.YtbmfehgkbgdajaaGreatDoor
open Go.ChangeShapes Go.WideShapes Go.ChangeAt Go.RowKit

theorem j8 : (Rows.versionsMatchUptoRow.recurses == Tryz.prog.recurses 5) = true := by kernel_rfl
theorem j9 : (Rows.versionsMatchUptoRow.named == Tryz.prog.varsNamed 5) = true := by kernel_rfl
theorem vName : Tryz.prog.funcNamed Rows.versionsMatchUptoRow.func = some 5 := by kernel_rfl
theorem vInst : Tryz.f5.isInstance Tryz.prog Rows.versionsMatchUptoRow.origin Rows.versionsMatchUptoRow.targs := of_decide_eq_true (by kernel_rfl)
theorem vWrap : Tryz.f5.isWrapper Tryz.prog Rows.versionsMatchUptoRow.wrapper Rows.versionsMatchUptoRow.mainSum := by unfold Func.isWrapper; first | (rw [if_pos (by decide +kernel)]; kernel_rfl) | (rw [if_neg (by decide +kernel)]; exact ⟨rfl, rfl⟩)
end Dp
