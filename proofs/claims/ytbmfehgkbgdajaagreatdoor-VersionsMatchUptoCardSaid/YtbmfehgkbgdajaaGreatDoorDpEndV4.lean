/- VersionsMatch: the closed facts of its row, each by itself. -/
import Derived.Test.YtbmfehgkbgdajaaGreatDoorDpEnd0
set_option linter.all false
set_option maxRecDepth 100000
namespace Dp
open Am Go Go.Proofs Go.Proofs.YtbmfehgkbgdajaaGreatDoor
open Go.ChangeShapes Go.WideShapes Go.ChangeAt Go.RowKit

theorem j1 : Rows.versionsMatchUptoRow.wf (OpenSpec.ofChange (Rows.OpenSpec.upto Rows.versionsMatchSpec).bare) = true := by kernel_rfl
theorem j3 : mapsRowed Tryz.prog = true := by kernel_rfl
theorem j4 : Tryz.f5.params.all (Tryz.prog.readableRec ·) = true := by kernel_rfl
theorem j5 : namedTie Tryz.prog Rows.versionsMatchUptoRow.named (Rows.OpenSpec.upto Rows.versionsMatchSpec).bare.vars = true := by kernel_rfl
theorem j6 : (Rows.versionsMatchUptoRow.inPlace == Tryz.prog.inPlace 5) = true := by kernel_rfl
theorem j7 : (Rows.versionsMatchUptoRow.unfollowed == Tryz.prog.unfollowed 5) = true := by kernel_rfl
end Dp
