/- The closed check, run by the kernel. -/
import Derived.Test.YtbmfehgkbgdajaaGreatDoorDpBase
set_option linter.all false
namespace Dp
open Am Go Go.Proofs
theorem names : (Tryz.prog.funcs.toList.all fun fn => fn.name != "runtime.NumGoroutine") = true := by kernel_rfl
/-! ### The closed check -/

def nats0 : List (Nat × Nat') := [(164, natIndex)]
theorem nats0_ok : TableOk G Tryz.prog (tabOf Tryz.prog nats0) := tabOf_ok names (by
  intro p hp
  rcases List.mem_singleton.1 hp with rfl
  exact ok_index)

theorem run_stores : callN (ρ := Option Val) (tabOf Tryz.prog nats0) 1000 (.fn 25) [] ansOf (baseSt 8) = some (.bool true) := by kernel_rfl

def natStores : Nat' := fun args s => if args.isEmpty then some (.bool true, s) else none
theorem ok_stores : NatOk G Tryz.prog 25 natStores := nat_closed mixed nats0_ok keeps (by kernel_rfl) (by decide +kernel) run_stores

end Dp
