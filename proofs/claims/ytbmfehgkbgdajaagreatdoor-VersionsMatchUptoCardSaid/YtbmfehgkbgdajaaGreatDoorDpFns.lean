/- The table that the walks go by. -/
import Derived.Test.YtbmfehgkbgdajaaGreatDoorDpStores
set_option linter.all false
namespace Dp
open Am Go Go.Proofs
/-! ### The table that the walks go by -/

def nats1 : List (Nat × Nat') := [(164, natIndex), (66, natSplit), (71, natItoa), (142, natAtoi), (25, natStores)]
noncomputable def fns : FuncId → Option AFunc := tabOf Tryz.prog nats1
theorem fns_ok : TableOk G Tryz.prog fns := tabOf_ok names (by
  intro p hp
  simp only [nats1, List.mem_cons, List.not_mem_nil, or_false] at hp
  rcases hp with rfl | rfl | rfl | rfl | rfl
  · exact ok_index
  · exact ok_split
  · exact ok_itoa
  · exact ok_atoi
  · exact ok_stores)
end Dp
