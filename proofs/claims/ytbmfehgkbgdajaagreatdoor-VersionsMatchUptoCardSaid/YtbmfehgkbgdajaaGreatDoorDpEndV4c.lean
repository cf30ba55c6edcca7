/- VersionsMatch: the closed facts of its row, third part. -/
import Derived.Test.YtbmfehgkbgdajaaGreatDoorDpEnd0
set_option linter.all false
set_option maxRecDepth 100000
namespace Dp
open Am Go Go.Proofs Go.Proofs.YtbmfehgkbgdajaaGreatDoor
open Go.ChangeShapes Go.WideShapes Go.ChangeAt Go.RowKit

theorem j12 : (Rows.versionsMatchUptoRow.plainKeys == Tryz.prog.plainKeys) = true := by kernel_rfl
theorem j13 : Tryz.prog.stopsHeard = true := by kernel_rfl
theorem j14 : Tryz.prog.mayEnter = true := by kernel_rfl
theorem j15 : (Rows.versionsMatchUptoRow.lifted == Tryz.prog.liftsFinal) = true := by kernel_rfl
theorem j16 : (Tryz.prog.make == some Rows.versionsMatchUptoRow.make) = true := by kernel_rfl
end Dp
