/- VersionsMatch: the card. -/
import Derived.Test.YtbmfehgkbgdajaaGreatDoorDpEndV5
import Derived.Test.YtbmfehgkbgdajaaGreatDoorDpEndV4d
set_option linter.all false
set_option maxRecDepth 100000
namespace Dp
open Am Go Go.Proofs Go.Proofs.YtbmfehgkbgdajaaGreatDoor
open Go.ChangeShapes Go.WideShapes Go.ChangeAt Go.RowKit

theorem said : Rows.VersionsMatchUptoSaid := saidOf Tryz.pinned rfl rfl rfl
end Dp

namespace Go.Proofs.YtbmfehgkbgdajaaGreatDoor
/-- ████ THE CARD ████ -/
theorem versionsMatchUpto_card : Rows.VersionsMatchUptoCardSaid := Dp.cardOf Dp.said
#print axioms versionsMatchUpto_card
end Go.Proofs.YtbmfehgkbgdajaaGreatDoor
