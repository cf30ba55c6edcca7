/- VersionsMatch: the card, out of the row's statement. -/
import Derived.Test.YtbmfehgkbgdajaaGreatDoorDpEnd0
set_option linter.all false
set_option maxRecDepth 100000
namespace Dp
open Am Go Go.Proofs Go.Proofs.YtbmfehgkbgdajaaGreatDoor
open Go.ChangeShapes Go.WideShapes Go.ChangeAt Go.RowKit

theorem vPlain (f : FuncId) (fn : Func) (hf : Tryz.pinned.checked.prog.funcNamed "periwinkle/periwinklelaw1.VersionsMatch" = some f) (hfn : Tryz.pinned.checked.prog.funcs[f]? = some fn) :
    true = Tryz.pinned.checked.prog.looks [] ∧ ∀ (j : Nat) t, fn.params[j]? = some t → Tryz.pinned.checked.prog.wantsStandIn t = false := by
  obtain rfl : f = 5 := Option.some.inj ((show Tryz.prog.funcNamed "periwinkle/periwinklelaw1.VersionsMatch" = some 5 by kernel_rfl).symm.trans hf) |>.symm
  obtain rfl : fn = Tryz.f5 := (Option.some.inj (Tryz.func5.symm.trans hfn)).symm
  refine ⟨by kernel_rfl, fun j t ht => ?_⟩
  rw [Tryz.params5] at ht
  have hm : t ∈ [9, 32, 34] := by simpa using Array.mem_of_getElem? ht
  have hall : ([9, 32, 34].all fun u => !Tryz.prog.wantsStandIn u) = true := by kernel_rfl
  exact (show Tryz.prog.wantsStandIn t = false by simpa using List.all_eq_true.1 hall t hm)
theorem cardOf (said : Rows.VersionsMatchUptoSaid) : Rows.VersionsMatchUptoCardSaid :=
  Claim7.holds_tied_plain_at .later [] _ _ _ _ said (fun _ h => by cases h) (by kernel_rfl) (fun _ h => by cases h) versionsMatchUpto_row_tie rfl ⟨rfl, rfl⟩ (by kernel_rfl) rfl vPlain (by kernel_rfl)
end Dp
