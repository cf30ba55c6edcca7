/- The code of functions, printed by program. -/
import Derived.Test.YtbmfehgkbgdajaaGreatDoorDpFns
import Derived.Test.YtbmfehgkbgdajaaGreatDoorAmSym
set_option linter.all false
namespace Dp
open Am Go Go.Proofs
/- 5: periwinkle/periwinklelaw1.VersionsMatch -/
def k5_0 : ACode := .seq (.ops [59, 60, 61, 62, 63, 64, 65, 6] [.op (some 59) none (.load (some 5) (.t 5)) [], .op (some 60) none (.load (some 3) (.t 4)) [], .op (some 62) none (.load (some 5) (.t 5)) [], .op (some 63) none (.load (some 3) (.t 4)) [], .call (some 61) none 32 [.t 59, .t 60] [(some 63, none, .load (some 3) (.t 4)), (some 62, none, .load (some 5) (.t 5))], .call (some 64) none 33 [.t 62, .t 63] [], .op (some 65) none (.eq (.leaf (.bool)) false (.t 61) (.t 64)) [], .op (some 6) none (.move (.t 65)) []]) (.ret)
def k5_1 : ACode := .seq (.ops [] [.op (some 6) none (.move (.c (.bool false))) []]) (.ret)
def k5_2 : ACode := .cond (.t 50) k5_1 (.skip)
def k5_3 : ACode := .seq (.ops [] [.op (some 45) none (.move (.t 11)) [], .op (some 46) none (.eq (.leaf (.str)) true (.t 45) (.c (.str []))) [], .op (some 47) none (.move (.t 46)) [], .op (some 48) (some (47, false)) (.move (.t 12)) [], .op (some 49) (some (47, false)) (.eq (.leaf (.int)) true (.t 48) (.c (.int (.i64) 3))) [], .op (some 50) none (.pick (.t 47) (.c (.bool true)) (.t 49)) []]) k5_2
def k5_4 : ACode := .seq (.ops [] [.op (some 6) none (.move (.c (.bool false))) []]) (.ret)
def k5_5 : ACode := .cond (.t 58) k5_4 (.skip)
def k5_6 : ACode := .seq (.ops [] [.op (some 51) none (.move (.t 12)) [], .op (some 52) none (.eq (.leaf (.int)) true (.t 51) (.c (.int (.i64) 0))) [], .op (some 53) none (.move (.t 52)) [], .op (some 54) (some (53, false)) (.move (.t 11)) [], .op (some 55) (some (53, false)) (.load (some 3) (.t 4)) [], .call (some 56) (some (53, false)) 31 [.t 55] [], .op (some 57) (some (53, false)) (.eq (.leaf (.str)) true (.t 54) (.t 56)) [], .op (some 58) none (.pick (.t 53) (.c (.bool true)) (.t 57)) []]) k5_5
def k5_7 : ACode := .cond (.t 44) k5_3 k5_6
def k5_8 : ACode := .seq (.ops [] [.op (some 42) none (.load (some 3) (.t 4)) [], .call (some 43) none 30 [.t 42] [], .op (some 44) none (.un (.not) (.t 43)) []]) k5_7
def k5_9 : ACode := .seq k5_8 k5_0
def k5_10 : ACode := .seq (.ops [] [.op (some 38) none (.load (some 3) (.t 4)) [], .call (some 39) none 29 [.t 38] [], .op (some 37) none (.move (.t 39)) [], .op (some 40) none (.extract (.t 37) 0) [], .op (some 41) none (.extract (.t 37) 1) [], .op (some 11) none (.move (.t 40)) [], .op (some 12) none (.move (.t 41)) []]) k5_9
def k5_11 : ACode := .seq (.ops [] [.op (some 6) none (.move (.c (.bool false))) []]) (.ret)
def k5_12 : ACode := .cond (.t 36) k5_11 (.skip)
def k5_13 : ACode := .seq (.ops [] [.call (some 23) none 25 [] [], .op (some 24) none (.un (.not) (.t 23)) [], .op (some 25) none (.move (.t 24)) [], .op (some 26) (some (25, false)) (.load (some 3) (.t 7)) [], .op (some 27) (some (25, false)) (.load (some 3) (.t 9)) [], .op (some 28) (some (25, false)) (.eq (.cells 3 [(0, .int), (1, .int), (2, .int)]) true (.t 26) (.t 27)) [], .op (some 29) none (.pick (.t 25) (.c (.bool true)) (.t 28)) [], .op (some 30) none (.move (.t 29)) [], .op (some 31) (some (30, false)) (.move (.t 8)) [], .op (some 32) (some (30, false)) (.move (.t 10)) [], .op (some 33) (some (30, false)) (.un (.not) (.t 32)) [], .call (some 34) (some (30, false)) 28 [.t 33, .c (.int (.i64) 1)] [], .op (some 35) (some (30, false)) (.eq (.leaf (.int)) true (.t 31) (.t 34)) [], .op (some 36) none (.pick (.t 30) (.c (.bool true)) (.t 35)) []]) k5_12
def k5_14 : ACode := .seq k5_13 k5_10
def k5_15 : ACode := .seq (.ops [] [.op (some 19) none (.move (.t 0)) [], .call (some 20) none 27 [.t 19] [], .op (some 18) none (.move (.t 20)) [], .op (some 21) none (.extract (.t 18) 0) [], .op (some 22) none (.extract (.t 18) 1) [], .op (some 9) none (.newRow 32 [.int (.i64) 0, .int (.i64) 0, .int (.i64) 0]) [], .op none none (.store 3 (.t 9) (.t 21)) [], .op (some 10) none (.move (.t 22)) []]) k5_14
def k5_16 : ACode := .seq (.ops [] [.op (some 14) none (.move (.t 0)) [], .call (some 15) none 26 [.t 14] [], .op (some 13) none (.move (.t 15)) [], .op (some 16) none (.extract (.t 13) 0) [], .op (some 17) none (.extract (.t 13) 1) [], .op (some 7) none (.newRow 32 [.int (.i64) 0, .int (.i64) 0, .int (.i64) 0]) [], .op none none (.store 3 (.t 7) (.t 16)) [], .op (some 8) none (.move (.t 17)) []]) k5_15
def F5 : AFunc := { nparams := 3, body := .seq (.ops [] [.op (some 4) none (.box 32 (.t 1)) [], .op (some 5) none (.box 34 (.t 2)) [], .op (some 6) none (.move (.c (.bool false))) []]) k5_16, res := [.tmp 6] }
theorem t5 : compFunc Tryz.prog Tryz.f5 = some F5 := by kernel_rfl
/- 22: cmp.Compare[int] -/
def k22_0 : ACode := .seq (.ops [] [.op (some 4) none (.move (.c (.int (.i64) 0))) []]) (.ret)
def k22_1 : ACode := .seq (.ops [] [.op (some 4) none (.move (.c (.int (.i64) 1))) []]) (.ret)
def k22_2 : ACode := .cond (.t 19) k22_1 (.skip)
def k22_3 : ACode := .seq (.ops [] [.op (some 17) none (.move (.t 0)) [], .op (some 18) none (.move (.t 1)) [], .op (some 19) none (.bin (.gtr) (.t 17) (.t 18)) []]) k22_2
def k22_4 : ACode := .seq k22_3 k22_0
def k22_5 : ACode := .seq (.ops [] [.op (some 4) none (.move (.c (.int (.i64) (-1)))) []]) (.ret)
def k22_6 : ACode := .cond (.t 16) k22_5 (.skip)
def k22_7 : ACode := .seq (.ops [] [.op (some 14) none (.move (.t 0)) [], .op (some 15) none (.move (.t 1)) [], .op (some 16) none (.bin (.lss) (.t 14) (.t 15)) []]) k22_6
def k22_8 : ACode := .seq k22_7 k22_4
def k22_9 : ACode := .seq (.ops [] [.op (some 4) none (.move (.c (.int (.i64) 1))) []]) (.ret)
def k22_10 : ACode := .cond (.t 13) k22_9 (.skip)
def k22_11 : ACode := .seq (.ops [] [.op (some 13) none (.move (.t 6)) []]) k22_10
def k22_12 : ACode := .seq k22_11 k22_8
def k22_13 : ACode := .seq (.ops [] [.op (some 4) none (.move (.c (.int (.i64) (-1)))) []]) (.ret)
def k22_14 : ACode := .seq (.ops [] [.op (some 4) none (.move (.c (.int (.i64) 0))) []]) (.ret)
def k22_15 : ACode := .cond (.t 12) k22_14 (.skip)
def k22_16 : ACode := .seq (.ops [] [.op (some 12) none (.move (.t 6)) []]) k22_15
def k22_17 : ACode := .seq k22_16 k22_13
def k22_18 : ACode := .cond (.t 11) k22_17 (.skip)
def k22_19 : ACode := .seq (.ops [] [.op (some 11) none (.move (.t 5)) []]) k22_18
def k22_20 : ACode := .seq k22_19 k22_12
def k22_21 : ACode := .seq (.ops [] [.op (some 9) none (.move (.t 1)) [], .call (some 10) none 63 [.t 9] [], .op (some 6) none (.move (.t 10)) []]) k22_20
def k22_22 : ACode := .seq (.ops [] [.op (some 7) none (.move (.t 0)) [], .call (some 8) none 63 [.t 7] [], .op (some 5) none (.move (.t 8)) []]) k22_21
def F22 : AFunc := { nparams := 2, body := .seq (.ops [] [.op (some 4) none (.move (.c (.int (.i64) 0))) []]) k22_22, res := [.tmp 4] }
theorem t22 : compFunc Tryz.prog Tryz.f22 = some F22 := by kernel_rfl
/- 26: periwinkle/depot.ParseVersion -/
def k26_0 : ACode := .seq (.ops [] [.op (some 39) none (.idxArr 3 1 (.t 4) (.c (.int (.i64) 0))) [], .op (some 40) none (.load none (.t 39)) [], .op (some 41) none (.idxArr 3 1 (.t 4) (.c (.int (.i64) 1))) [], .op (some 42) none (.load none (.t 41)) [], .op (some 43) none (.idxArr 3 1 (.t 4) (.c (.int (.i64) 2))) [], .op (some 44) none (.load none (.t 43)) [], .op (some 45) none (.build [.int (.i64) 0, .int (.i64) 0, .int (.i64) 0] [(0, 1, .t 40), (1, 1, .t 42), (2, 1, .t 44)]) [], .op none none (.store 3 (.t 2) (.t 45)) [], .op (some 3) none (.move (.c (.int (.i64) 0))) []]) (.ret)
def k26_1 : ACode := .ops [] [.op (some 38) none (.bin (.add) (.t 18) (.c (.int (.i64) 1))) [], .op (some 18) none (.move (.t 38)) []]
def k26_2 : ACode := .ops [] [.op (some 35) none (.move (.t 6)) [], .op (some 36) none (.move (.t 8)) [], .op (some 37) none (.idxArr 3 1 (.t 4) (.t 35)) [], .op none none (.store 1 (.t 37) (.t 36)) []]
def k26_3 : ACode := .seq (.ops [] [.op (some 34) none (.build [.int (.i64) 0, .int (.i64) 0, .int (.i64) 0] []) [], .op none none (.store 3 (.t 2) (.t 34)) [], .op (some 3) none (.move (.c (.int (.i64) 1))) []]) (.ret)
def k26_4 : ACode := .cond (.t 33) k26_3 (.skip)
def k26_5 : ACode := .seq (.ops [] [.op (some 28) none (.move (.t 9)) [], .op (some 29) none (.un (.not) (.t 28)) [], .op (some 30) none (.move (.t 29)) [], .op (some 31) (some (30, false)) (.move (.t 8)) [], .op (some 32) (some (30, false)) (.bin (.gtr) (.t 31) (.c (.int (.i64) 999))) [], .op (some 33) none (.pick (.t 30) (.c (.bool true)) (.t 32)) []]) k26_4
def k26_6 : ACode := .seq k26_5 k26_2
def k26_7 : ACode := .seq (.ops [] [.op (some 24) none (.move (.t 7)) [], .call (some 25) none 67 [.t 24] [], .op (some 23) none (.move (.t 25)) [], .op (some 26) none (.extract (.t 23) 0) [], .op (some 27) none (.extract (.t 23) 1) [], .op (some 8) none (.move (.t 26)) [], .op (some 9) none (.move (.t 27)) []]) k26_6
def k26_8 : ACode := .seq (.ops [] [.op (some 20) none (.move (.t 18)) [], .op (some 21) none (.idxSl 1 (.t 16) (.t 18)) [], .op (some 22) none (.load none (.t 21)) [], .op (some 6) none (.move (.t 20)) [], .op (some 7) none (.move (.t 22)) []]) k26_7
def k26_9 : ACode := .block 1 k26_8
def k26_10 : ACode := .seq k26_9 k26_1
def k26_11 : ACode := .cond (.t 19) (.skip) (.exit 0)
def k26_12 : ACode := .seq k26_11 k26_10
def k26_13 : ACode := .seq (.ops [] [.op (some 19) none (.bin (.lss) (.t 18) (.t 17)) []]) k26_12
def k26_14 : ACode := .loop k26_13
def k26_15 : ACode := .block 0 k26_14
def k26_16 : ACode := .seq (.ops [] [.op (some 16) none (.move (.t 5)) [], .op (some 17) none (.len (.slice) (.t 16)) [], .op (some 18) none (.move (.c (.int (.i64) 0))) []]) k26_15
def k26_17 : ACode := .seq k26_16 k26_0
def k26_18 : ACode := .seq (.ops [] [.op (some 15) none (.build [.int (.i64) 0, .int (.i64) 0, .int (.i64) 0] []) [], .op none none (.store 3 (.t 2) (.t 15)) [], .op (some 3) none (.move (.c (.int (.i64) 1))) []]) (.ret)
def k26_19 : ACode := .cond (.t 14) k26_18 (.skip)
def k26_20 : ACode := .seq (.ops [] [.op (some 12) none (.move (.t 5)) [], .op (some 13) none (.len (.slice) (.t 12)) [], .op (some 14) none (.bin (.gtr) (.t 13) (.c (.int (.i64) 3))) []]) k26_19
def k26_21 : ACode := .seq k26_20 k26_17
def k26_22 : ACode := .seq (.ops [] [.op (some 10) none (.move (.t 0)) [], .call (some 11) none 66 [.t 10, .c (.str [46])] [], .op (some 5) none (.move (.t 11)) []]) k26_21
def k26_23 : ACode := .seq (.ops [] [.op (some 4) none (.newRow 102 [.int (.i64) 0, .int (.i64) 0, .int (.i64) 0]) []]) k26_22
def F26 : AFunc := { nparams := 1, body := .seq (.ops [] [.op (some 2) none (.newRow 32 [.int (.i64) 0, .int (.i64) 0, .int (.i64) 0]) [], .op (some 3) none (.move (.c (.int (.i64) 0))) []]) k26_23, res := [.cell 2 (some 3), .tmp 3] }
theorem t26 : compFunc Tryz.prog Tryz.f26 = some F26 := by kernel_rfl
/- 27: periwinkle/periwinkleref1.VersionOf -/
def k27_0 : ACode := .seq (.ops [] [.op (some 50) none (.build [.int (.i64) 0, .int (.i64) 0, .int (.i64) 0] []) [], .op none none (.store 3 (.t 2) (.t 50)) [], .op (some 3) none (.move (.c (.bool false))) []]) (.ret)
def k27_1 : ACode := .ops [] [.op (some 49) none (.bin (.add) (.t 10) (.c (.int (.i64) 1))) [], .op (some 10) none (.move (.t 49)) []]
def k27_2 : ACode := .ops [] [.op (some 47) none (.move (.t 5)) [], .op (some 48) none (.bin (.add) (.t 47) (.c (.int (.i64) 1))) [], .op (some 5) none (.move (.t 48)) []]
def k27_3 : ACode := .seq (.ops [] [.op (some 46) none (.build [.int (.i64) 0, .int (.i64) 0, .int (.i64) 0] []) [], .op none none (.store 3 (.t 2) (.t 46)) [], .op (some 3) none (.move (.c (.bool false))) []]) (.ret)
def k27_4 : ACode := .cond (.t 45) k27_3 (.skip)
def k27_5 : ACode := .seq (.ops [] [.op (some 42) none (.move (.t 0)) [], .op (some 43) none (.move (.t 5)) [], .op (some 44) none (.idxStr (.t 42) (.t 43)) [], .op (some 45) none (.eq (.leaf (.int)) true (.t 44) (.c (.int (.u8) 46))) []]) k27_4
def k27_6 : ACode := .seq k27_5 k27_2
def k27_7 : ACode := .seq (.ops [] [.op (some 35) none (.idxArr 3 1 (.t 4) (.c (.int (.i64) 0))) [], .op (some 36) none (.load none (.t 35)) [], .op (some 37) none (.idxArr 3 1 (.t 4) (.c (.int (.i64) 1))) [], .op (some 38) none (.load none (.t 37)) [], .op (some 39) none (.idxArr 3 1 (.t 4) (.c (.int (.i64) 2))) [], .op (some 40) none (.load none (.t 39)) [], .op (some 41) none (.build [.int (.i64) 0, .int (.i64) 0, .int (.i64) 0] [(0, 1, .t 36), (1, 1, .t 38), (2, 1, .t 40)]) [], .op none none (.store 3 (.t 2) (.t 41)) [], .op (some 3) none (.move (.c (.bool true))) []]) (.ret)
def k27_8 : ACode := .cond (.t 34) k27_7 (.skip)
def k27_9 : ACode := .seq (.ops [] [.op (some 31) none (.move (.t 5)) [], .op (some 32) none (.move (.t 0)) [], .op (some 33) none (.len (.str) (.t 32)) [], .op (some 34) none (.eq (.leaf (.int)) false (.t 31) (.t 33)) []]) k27_8
def k27_10 : ACode := .seq k27_9 k27_6
def k27_11 : ACode := .seq (.ops [] [.op (some 30) none (.move (.t 8)) [], .op (some 5) none (.move (.t 30)) []]) k27_10
def k27_12 : ACode := .seq (.ops [] [.op (some 27) none (.move (.t 6)) [], .op (some 28) none (.move (.t 7)) [], .op (some 29) none (.idxArr 3 1 (.t 4) (.t 27)) [], .op none none (.store 1 (.t 29) (.t 28)) []]) k27_11
def k27_13 : ACode := .seq (.ops [] [.op (some 26) none (.build [.int (.i64) 0, .int (.i64) 0, .int (.i64) 0] []) [], .op none none (.store 3 (.t 2) (.t 26)) [], .op (some 3) none (.move (.c (.bool false))) []]) (.ret)
def k27_14 : ACode := .cond (.t 25) k27_13 (.skip)
def k27_15 : ACode := .seq (.ops [] [.op (some 20) none (.move (.t 9)) [], .op (some 21) none (.un (.not) (.t 20)) [], .op (some 22) none (.move (.t 21)) [], .op (some 23) (some (22, false)) (.move (.t 7)) [], .op (some 24) (some (22, false)) (.bin (.gtr) (.t 23) (.c (.int (.i64) 999))) [], .op (some 25) none (.pick (.t 22) (.c (.bool true)) (.t 24)) []]) k27_14
def k27_16 : ACode := .seq k27_15 k27_12
def k27_17 : ACode := .seq (.ops [] [.op (some 14) none (.move (.t 0)) [], .op (some 15) none (.move (.t 5)) [], .call (some 16) none 68 [.t 14, .t 15] [], .op (some 13) none (.move (.t 16)) [], .op (some 17) none (.extract (.t 13) 0) [], .op (some 18) none (.extract (.t 13) 1) [], .op (some 19) none (.extract (.t 13) 2) [], .op (some 7) none (.move (.t 17)) [], .op (some 8) none (.move (.t 18)) [], .op (some 9) none (.move (.t 19)) []]) k27_16
def k27_18 : ACode := .seq (.ops [] [.op (some 12) none (.move (.t 10)) [], .op (some 6) none (.move (.t 12)) []]) k27_17
def k27_19 : ACode := .block 1 k27_18
def k27_20 : ACode := .seq k27_19 k27_1
def k27_21 : ACode := .cond (.t 11) (.skip) (.exit 0)
def k27_22 : ACode := .seq k27_21 k27_20
def k27_23 : ACode := .seq (.ops [] [.op (some 11) none (.bin (.lss) (.t 10) (.c (.int (.i64) 3))) []]) k27_22
def k27_24 : ACode := .loop k27_23
def k27_25 : ACode := .block 0 k27_24
def k27_26 : ACode := .seq (.ops [] [.op (some 10) none (.move (.c (.int (.i64) 0))) []]) k27_25
def k27_27 : ACode := .seq k27_26 k27_0
def k27_28 : ACode := .seq (.ops [] [.op (some 5) none (.move (.c (.int (.i64) 0))) []]) k27_27
def k27_29 : ACode := .seq (.ops [] [.op (some 4) none (.newRow 102 [.int (.i64) 0, .int (.i64) 0, .int (.i64) 0]) []]) k27_28
def F27 : AFunc := { nparams := 1, body := .seq (.ops [] [.op (some 2) none (.newRow 32 [.int (.i64) 0, .int (.i64) 0, .int (.i64) 0]) [], .op (some 3) none (.move (.c (.bool false))) []]) k27_29, res := [.cell 2 (some 3), .tmp 3] }
theorem t27 : compFunc Tryz.prog Tryz.f27 = some F27 := by kernel_rfl
/- 28: periwinkle/periwinklelaw1.when -/
def k28_0 : ACode := .seq (.ops [] [.op (some 4) none (.move (.c (.int (.i64) 0))) []]) (.ret)
def k28_1 : ACode := .seq (.ops [] [.op (some 6) none (.move (.t 1)) [], .op (some 4) none (.move (.t 6)) []]) (.ret)
def k28_2 : ACode := .cond (.t 5) k28_1 (.skip)
def k28_3 : ACode := .seq (.ops [] [.op (some 5) none (.move (.t 0)) []]) k28_2
def k28_4 : ACode := .seq k28_3 k28_0
def F28 : AFunc := { nparams := 2, body := .seq (.ops [] [.op (some 4) none (.move (.c (.int (.i64) 0))) []]) k28_4, res := [.tmp 4] }
theorem t28 : compFunc Tryz.prog Tryz.f28 = some F28 := by kernel_rfl
/- 29: periwinkle/depot.ShowVersion -/
def k29_0 : ACode := .seq (.ops [] [.op (some 7) none (.load (some 3) (.t 1)) [], .call (some 8) none 70 [.t 7] [], .op (some 2) none (.move (.t 8)) [], .op (some 3) none (.move (.c (.int (.i64) 0))) []]) (.ret)
def k29_1 : ACode := .seq (.ops [] [.op (some 2) none (.move (.c (.str []))) [], .op (some 3) none (.move (.c (.int (.i64) 3))) []]) (.ret)
def k29_2 : ACode := .cond (.t 6) k29_1 (.skip)
def k29_3 : ACode := .seq (.ops [] [.op (some 4) none (.load (some 3) (.t 1)) [], .call (some 5) none 69 [.t 4] [], .op (some 6) none (.un (.not) (.t 5)) []]) k29_2
def k29_4 : ACode := .seq k29_3 k29_0
def F29 : AFunc := { nparams := 1, body := .seq (.ops [] [.op (some 1) none (.box 32 (.t 0)) [], .op (some 2) none (.move (.c (.str []))) [], .op (some 3) none (.move (.c (.int (.i64) 0))) []]) k29_4, res := [.tmp 2, .tmp 3] }
theorem t29 : compFunc Tryz.prog Tryz.f29 = some F29 := by kernel_rfl
/- 30: periwinkle/periwinkleref1.VersionRight -/
def k30_0 : ACode := .seq (.ops [] [.op (some 3) none (.addOff 0 (.t 1)) [], .op (some 4) none (.load none (.t 3)) [], .op (some 5) none (.bin (.geq) (.t 4) (.c (.int (.i64) 0))) [], .op (some 6) none (.move (.t 5)) [], .op (some 7) (some (6, true)) (.addOff 0 (.t 1)) [], .op (some 8) (some (6, true)) (.load none (.t 7)) [], .op (some 9) (some (6, true)) (.bin (.leq) (.t 8) (.c (.int (.i64) 999))) [], .op (some 10) none (.pick (.t 6) (.t 9) (.c (.bool false))) [], .op (some 11) none (.move (.t 10)) [], .op (some 12) (some (11, true)) (.addOff 1 (.t 1)) [], .op (some 13) (some (11, true)) (.load none (.t 12)) [], .op (some 14) (some (11, true)) (.bin (.geq) (.t 13) (.c (.int (.i64) 0))) [], .op (some 15) none (.pick (.t 11) (.t 14) (.c (.bool false))) [], .op (some 16) none (.move (.t 15)) [], .op (some 17) (some (16, true)) (.addOff 1 (.t 1)) [], .op (some 18) (some (16, true)) (.load none (.t 17)) [], .op (some 19) (some (16, true)) (.bin (.leq) (.t 18) (.c (.int (.i64) 999))) [], .op (some 20) none (.pick (.t 16) (.t 19) (.c (.bool false))) [], .op (some 21) none (.move (.t 20)) [], .op (some 22) (some (21, true)) (.addOff 2 (.t 1)) [], .op (some 23) (some (21, true)) (.load none (.t 22)) [], .op (some 24) (some (21, true)) (.bin (.geq) (.t 23) (.c (.int (.i64) 0))) [], .op (some 25) none (.pick (.t 21) (.t 24) (.c (.bool false))) [], .op (some 26) none (.move (.t 25)) [], .op (some 27) (some (26, true)) (.addOff 2 (.t 1)) [], .op (some 28) (some (26, true)) (.load none (.t 27)) [], .op (some 29) (some (26, true)) (.bin (.leq) (.t 28) (.c (.int (.i64) 999))) [], .op (some 30) none (.pick (.t 26) (.t 29) (.c (.bool false))) [], .op (some 2) none (.move (.t 30)) []]) (.ret)
def F30 : AFunc := { nparams := 1, body := .seq (.ops [] [.op (some 1) none (.box 32 (.t 0)) [], .op (some 2) none (.move (.c (.bool false))) []]) k30_0, res := [.tmp 2] }
theorem t30 : compFunc Tryz.prog Tryz.f30 = some F30 := by kernel_rfl
/- 31: periwinkle/periwinkleref1.VersionText -/
def k31_0 : ACode := .seq (.ops [3, 4, 5, 6, 7, 8, 9, 10, 11, 12, 13, 14, 15, 2] [.op (some 3) none (.addOff 0 (.t 1)) [], .op (some 4) none (.load none (.t 3)) [], .op (some 7) none (.addOff 1 (.t 1)) [], .op (some 8) none (.load none (.t 7)) [], .op (some 12) none (.addOff 2 (.t 1)) [], .op (some 13) none (.load none (.t 12)) [], .call (some 5) none 71 [.t 4] [(some 13, none, .load none (.t 12)), (some 8, none, .load none (.t 7))], .op (some 6) none (.bin (.add) (.t 5) (.c (.str [46]))) [], .call (some 9) none 71 [.t 8] [(some 13, none, .load none (.t 12))], .op (some 10) none (.bin (.add) (.t 6) (.t 9)) [], .op (some 11) none (.bin (.add) (.t 10) (.c (.str [46]))) [], .call (some 14) none 71 [.t 13] [], .op (some 15) none (.bin (.add) (.t 11) (.t 14)) [], .op (some 2) none (.move (.t 15)) []]) (.ret)
def F31 : AFunc := { nparams := 1, body := .seq (.ops [] [.op (some 1) none (.box 32 (.t 0)) [], .op (some 2) none (.move (.c (.str []))) []]) k31_0, res := [.tmp 2] }
theorem t31 : compFunc Tryz.prog Tryz.f31 = some F31 := by kernel_rfl
/- 32: periwinkle/depot.Fits -/
def k32_0 : ACode := .seq (.ops [] [.op (some 4) none (.move (.c (.bool false))) []]) (.ret)
def k32_1 : ACode := .seq (.ops [] [.op (some 4) none (.move (.c (.bool true))) []]) (.ret)
def k32_2 : ACode := .seq (.ops [] [.op (some 23) none (.move (.t 5)) [], .op (some 24) none (.eq (.leaf (.int)) false (.t 23) (.c (.int (.i64) 0))) [], .op (some 4) none (.move (.t 24)) []]) (.ret)
def k32_3 : ACode := .seq (.ops [] [.op (some 27) none (.move (.t 5)) [], .op (some 28) none (.bin (.geq) (.t 27) (.c (.int (.i64) 0))) [], .op (some 4) none (.move (.t 28)) []]) (.ret)
def k32_4 : ACode := .seq (.ops [] [.op (some 31) none (.move (.t 5)) [], .op (some 32) none (.bin (.lss) (.t 31) (.c (.int (.i64) 0))) [], .op (some 4) none (.move (.t 32)) []]) (.ret)
def k32_5 : ACode := .seq (.ops [] [.op (some 35) none (.move (.t 5)) [], .op (some 36) none (.bin (.geq) (.t 35) (.c (.int (.i64) 0))) [], .op (some 37) none (.move (.t 36)) [], .op (some 38) (some (37, true)) (.move (.t 6)) [], .op (some 39) none (.pick (.t 37) (.t 38) (.c (.bool false))) [], .op (some 40) none (.move (.t 39)) [], .op (some 41) (some (40, true)) (.addOff 1 (.t 3)) [], .op (some 42) (some (40, true)) (.load none (.t 41)) [], .op (some 43) (some (40, true)) (.addOff 2 (.t 2)) [], .op (some 44) (some (40, true)) (.addOff 1 (.t 43)) [], .op (some 45) (some (40, true)) (.load none (.t 44)) [], .op (some 46) (some (40, true)) (.eq (.leaf (.int)) false (.t 42) (.t 45)) [], .op (some 47) none (.pick (.t 40) (.t 46) (.c (.bool false))) [], .op (some 4) none (.move (.t 47)) []]) (.ret)
def k32_6 : ACode := .seq (.ops [] [.op (some 50) none (.move (.t 5)) [], .op (some 51) none (.bin (.geq) (.t 50) (.c (.int (.i64) 0))) [], .op (some 52) none (.move (.t 51)) [], .op (some 53) (some (52, true)) (.move (.t 6)) [], .op (some 54) none (.pick (.t 52) (.t 53) (.c (.bool false))) [], .op (some 4) none (.move (.t 54)) []]) (.ret)
def k32_7 : ACode := .cond (.t 48) k32_6 (.skip)
def k32_8 : ACode := .seq (.ops [] [.op (some 49) none (.eq (.leaf (.int)) false (.t 18) (.c (.int (.i64) 5))) [], .op (some 48) none (.move (.t 49)) []]) k32_7
def k32_9 : ACode := .cond (.t 33) k32_5 k32_8
def k32_10 : ACode := .seq (.ops [] [.op (some 34) none (.eq (.leaf (.int)) false (.t 18) (.c (.int (.i64) 4))) [], .op (some 33) none (.move (.t 34)) []]) k32_9
def k32_11 : ACode := .cond (.t 29) k32_4 k32_10
def k32_12 : ACode := .seq (.ops [] [.op (some 30) none (.eq (.leaf (.int)) false (.t 18) (.c (.int (.i64) 3))) [], .op (some 29) none (.move (.t 30)) []]) k32_11
def k32_13 : ACode := .cond (.t 25) k32_3 k32_12
def k32_14 : ACode := .seq (.ops [] [.op (some 26) none (.eq (.leaf (.int)) false (.t 18) (.c (.int (.i64) 2))) [], .op (some 25) none (.move (.t 26)) []]) k32_13
def k32_15 : ACode := .cond (.t 21) k32_2 k32_14
def k32_16 : ACode := .seq (.ops [] [.op (some 22) none (.eq (.leaf (.int)) false (.t 18) (.c (.int (.i64) 1))) [], .op (some 21) none (.move (.t 22)) []]) k32_15
def k32_17 : ACode := .cond (.t 19) k32_1 k32_16
def k32_18 : ACode := .seq (.ops [] [.op (some 20) none (.eq (.leaf (.int)) false (.t 18) (.c (.int (.i64) 0))) [], .op (some 19) none (.move (.t 20)) []]) k32_17
def k32_19 : ACode := .block 0 k32_18
def k32_20 : ACode := .seq (.ops [] [.op (some 17) none (.addOff 1 (.t 2)) [], .op (some 18) none (.load none (.t 17)) []]) k32_19
def k32_21 : ACode := .seq k32_20 k32_0
def k32_22 : ACode := .seq (.ops [] [.op (some 11) none (.addOff 0 (.t 3)) [], .op (some 12) none (.load none (.t 11)) [], .op (some 13) none (.addOff 2 (.t 2)) [], .op (some 14) none (.addOff 0 (.t 13)) [], .op (some 15) none (.load none (.t 14)) [], .op (some 16) none (.eq (.leaf (.int)) false (.t 12) (.t 15)) [], .op (some 6) none (.move (.t 16)) []]) k32_21
def k32_23 : ACode := .seq (.ops [] [.op (some 7) none (.load (some 3) (.t 3)) [], .op (some 8) none (.addOff 2 (.t 2)) [], .op (some 9) none (.load (some 3) (.t 8)) [], .call (some 10) none 72 [.t 7, .t 9] [], .op (some 5) none (.move (.t 10)) []]) k32_22
def F32 : AFunc := { nparams := 2, body := .seq (.ops [] [.op (some 2) none (.box 34 (.t 0)) [], .op (some 3) none (.box 32 (.t 1)) [], .op (some 4) none (.move (.c (.bool false))) []]) k32_23, res := [.tmp 4] }
theorem t32 : compFunc Tryz.prog Tryz.f32 = some F32 := by kernel_rfl
/- 33: periwinkle/periwinkleref1.FitsVersion -/
def k33_0 : ACode := .seq (.ops [] [.op (some 4) none (.move (.c (.bool false))) []]) (.ret)
def k33_1 : ACode := .seq (.ops [] [.op (some 4) none (.move (.c (.bool true))) []]) (.ret)
def k33_2 : ACode := .seq (.ops [] [.op (some 16) none (.move (.t 5)) [], .op (some 17) none (.eq (.leaf (.int)) false (.t 16) (.c (.int (.i64) 0))) [], .op (some 4) none (.move (.t 17)) []]) (.ret)
def k33_3 : ACode := .seq (.ops [] [.op (some 20) none (.move (.t 5)) [], .op (some 21) none (.bin (.geq) (.t 20) (.c (.int (.i64) 0))) [], .op (some 4) none (.move (.t 21)) []]) (.ret)
def k33_4 : ACode := .seq (.ops [] [.op (some 24) none (.move (.t 5)) [], .op (some 25) none (.bin (.lss) (.t 24) (.c (.int (.i64) 0))) [], .op (some 4) none (.move (.t 25)) []]) (.ret)
def k33_5 : ACode := .seq (.ops [] [.op (some 28) none (.move (.t 5)) [], .op (some 29) none (.bin (.geq) (.t 28) (.c (.int (.i64) 0))) [], .op (some 30) none (.move (.t 29)) [], .op (some 31) (some (30, true)) (.addOff 0 (.t 3)) [], .op (some 32) (some (30, true)) (.load none (.t 31)) [], .op (some 33) (some (30, true)) (.addOff 2 (.t 2)) [], .op (some 34) (some (30, true)) (.addOff 0 (.t 33)) [], .op (some 35) (some (30, true)) (.load none (.t 34)) [], .op (some 36) (some (30, true)) (.eq (.leaf (.int)) false (.t 32) (.t 35)) [], .op (some 37) none (.pick (.t 30) (.t 36) (.c (.bool false))) [], .op (some 38) none (.move (.t 37)) [], .op (some 39) (some (38, true)) (.addOff 1 (.t 3)) [], .op (some 40) (some (38, true)) (.load none (.t 39)) [], .op (some 41) (some (38, true)) (.addOff 2 (.t 2)) [], .op (some 42) (some (38, true)) (.addOff 1 (.t 41)) [], .op (some 43) (some (38, true)) (.load none (.t 42)) [], .op (some 44) (some (38, true)) (.eq (.leaf (.int)) false (.t 40) (.t 43)) [], .op (some 45) none (.pick (.t 38) (.t 44) (.c (.bool false))) [], .op (some 4) none (.move (.t 45)) []]) (.ret)
def k33_6 : ACode := .seq (.ops [] [.op (some 48) none (.move (.t 5)) [], .op (some 49) none (.bin (.geq) (.t 48) (.c (.int (.i64) 0))) [], .op (some 50) none (.move (.t 49)) [], .op (some 51) (some (50, true)) (.addOff 0 (.t 3)) [], .op (some 52) (some (50, true)) (.load none (.t 51)) [], .op (some 53) (some (50, true)) (.addOff 2 (.t 2)) [], .op (some 54) (some (50, true)) (.addOff 0 (.t 53)) [], .op (some 55) (some (50, true)) (.load none (.t 54)) [], .op (some 56) (some (50, true)) (.eq (.leaf (.int)) false (.t 52) (.t 55)) [], .op (some 57) none (.pick (.t 50) (.t 56) (.c (.bool false))) [], .op (some 4) none (.move (.t 57)) []]) (.ret)
def k33_7 : ACode := .cond (.t 46) k33_6 (.skip)
def k33_8 : ACode := .seq (.ops [] [.op (some 47) none (.eq (.leaf (.int)) false (.t 11) (.c (.int (.i64) 5))) [], .op (some 46) none (.move (.t 47)) []]) k33_7
def k33_9 : ACode := .cond (.t 26) k33_5 k33_8
def k33_10 : ACode := .seq (.ops [] [.op (some 27) none (.eq (.leaf (.int)) false (.t 11) (.c (.int (.i64) 4))) [], .op (some 26) none (.move (.t 27)) []]) k33_9
def k33_11 : ACode := .cond (.t 22) k33_4 k33_10
def k33_12 : ACode := .seq (.ops [] [.op (some 23) none (.eq (.leaf (.int)) false (.t 11) (.c (.int (.i64) 3))) [], .op (some 22) none (.move (.t 23)) []]) k33_11
def k33_13 : ACode := .cond (.t 18) k33_3 k33_12
def k33_14 : ACode := .seq (.ops [] [.op (some 19) none (.eq (.leaf (.int)) false (.t 11) (.c (.int (.i64) 2))) [], .op (some 18) none (.move (.t 19)) []]) k33_13
def k33_15 : ACode := .cond (.t 14) k33_2 k33_14
def k33_16 : ACode := .seq (.ops [] [.op (some 15) none (.eq (.leaf (.int)) false (.t 11) (.c (.int (.i64) 1))) [], .op (some 14) none (.move (.t 15)) []]) k33_15
def k33_17 : ACode := .cond (.t 12) k33_1 k33_16
def k33_18 : ACode := .seq (.ops [] [.op (some 13) none (.eq (.leaf (.int)) false (.t 11) (.c (.int (.i64) 0))) [], .op (some 12) none (.move (.t 13)) []]) k33_17
def k33_19 : ACode := .block 0 k33_18
def k33_20 : ACode := .seq (.ops [] [.op (some 10) none (.addOff 1 (.t 2)) [], .op (some 11) none (.load none (.t 10)) []]) k33_19
def k33_21 : ACode := .seq k33_20 k33_0
def k33_22 : ACode := .seq (.ops [] [.op (some 6) none (.load (some 3) (.t 3)) [], .op (some 7) none (.addOff 2 (.t 2)) [], .op (some 8) none (.load (some 3) (.t 7)) [], .call (some 9) none 73 [.t 6, .t 8] [], .op (some 5) none (.move (.t 9)) []]) k33_21
def F33 : AFunc := { nparams := 2, body := .seq (.ops [] [.op (some 2) none (.box 34 (.t 0)) [], .op (some 3) none (.box 32 (.t 1)) [], .op (some 4) none (.move (.c (.bool false))) []]) k33_22, res := [.tmp 4] }
theorem t33 : compFunc Tryz.prog Tryz.f33 = some F33 := by kernel_rfl
/- 63: cmp.isNaN[int] -/
def k63_0 : ACode := .seq (.ops [] [.op (some 3) none (.move (.t 0)) [], .op (some 4) none (.move (.t 0)) [], .op (some 5) none (.eq (.leaf (.int)) true (.t 3) (.t 4)) [], .op (some 2) none (.move (.t 5)) []]) (.ret)
def F63 : AFunc := { nparams := 1, body := .seq (.ops [] [.op (some 2) none (.move (.c (.bool false))) []]) k63_0, res := [.tmp 2] }
theorem t63 : compFunc Tryz.prog Tryz.f63 = some F63 := by kernel_rfl
/- 67: periwinkle/depot.number -/
def k67_0 : ACode := .seq (.ops [] [.op (some 11) none (.move (.t 4)) [], .op (some 12) none (.move (.t 5)) [], .op (some 13) none (.eq (.nilc (.iface)) false (.t 12) (.c (.nilIface))) [], .op (some 14) none (.move (.t 13)) [], .op (some 15) (some (14, true)) (.move (.t 4)) [], .op (some 16) (some (14, true)) (.bin (.geq) (.t 15) (.c (.int (.i64) 0))) [], .op (some 17) none (.pick (.t 14) (.t 16) (.c (.bool false))) [], .op (some 18) none (.move (.t 17)) [], .op (some 19) (some (18, true)) (.move (.t 4)) [], .call (some 20) (some (18, true)) 71 [.t 19] [], .op (some 21) (some (18, true)) (.move (.t 0)) [], .op (some 22) (some (18, true)) (.eq (.leaf (.str)) false (.t 20) (.t 21)) [], .op (some 23) none (.pick (.t 18) (.t 22) (.c (.bool false))) [], .op (some 2) none (.move (.t 11)) [], .op (some 3) none (.move (.t 23)) []]) (.ret)
def k67_1 : ACode := .seq (.ops [] [.op (some 7) none (.move (.t 0)) [], .call (some 8) none 142 [.t 7] [], .op (some 6) none (.move (.t 8)) [], .op (some 9) none (.extract (.t 6) 0) [], .op (some 10) none (.extract (.t 6) 1) [], .op (some 4) none (.move (.t 9)) [], .op (some 5) none (.move (.t 10)) []]) k67_0
def F67 : AFunc := { nparams := 1, body := .seq (.ops [] [.op (some 2) none (.move (.c (.int (.i64) 0))) [], .op (some 3) none (.move (.c (.bool false))) []]) k67_1, res := [.tmp 2, .tmp 3] }
theorem t67 : compFunc Tryz.prog Tryz.f67 = some F67 := by kernel_rfl
/- 68: periwinkle/periwinkleref1.number -/
def k68_0 : ACode := .seq (.ops [] [.op (some 34) none (.move (.t 8)) [], .op (some 35) none (.move (.t 1)) [], .op (some 36) none (.move (.t 1)) [], .op (some 37) none (.move (.t 7)) [], .op (some 38) none (.bin (.gtr) (.t 36) (.t 37)) [], .op (some 39) none (.move (.t 38)) [], .op (some 40) (some (39, true)) (.move (.t 0)) [], .op (some 41) (some (39, true)) (.move (.t 7)) [], .op (some 42) (some (39, true)) (.idxStr (.t 40) (.t 41)) [], .op (some 43) (some (39, true)) (.eq (.leaf (.int)) true (.t 42) (.c (.int (.u8) 48))) [], .op (some 44) (some (39, true)) (.move (.t 43)) [], .op (some 45) (some (44, false)) (.move (.t 1)) [], .op (some 46) (some (44, false)) (.move (.t 7)) [], .op (some 47) (some (44, false)) (.bin (.add) (.t 46) (.c (.int (.i64) 1))) [], .op (some 48) (some (44, false)) (.eq (.leaf (.int)) false (.t 45) (.t 47)) [], .op (some 49) (some (39, true)) (.pick (.t 44) (.c (.bool true)) (.t 48)) [], .op (some 50) none (.pick (.t 39) (.t 49) (.c (.bool false))) [], .op (some 4) none (.move (.t 34)) [], .op (some 5) none (.move (.t 35)) [], .op (some 6) none (.move (.t 50)) []]) (.ret)
def k68_1 : ACode := .seq (.ops [] [.op (some 4) none (.move (.c (.int (.i64) 0))) [], .op (some 5) none (.move (.c (.int (.i64) 0))) [], .op (some 6) none (.move (.c (.bool false))) []]) (.ret)
def k68_2 : ACode := .cond (.t 33) k68_1 (.skip)
def k68_3 : ACode := .seq (.ops [] [.op (some 30) none (.move (.t 1)) [], .op (some 31) none (.move (.t 7)) [], .op (some 32) none (.bin (.sub) (.t 30) (.t 31)) [], .op (some 33) none (.bin (.gtr) (.t 32) (.c (.int (.i64) 6))) []]) k68_2
def k68_4 : ACode := .seq (.ops [] [.op (some 28) none (.move (.t 1)) [], .op (some 29) none (.bin (.add) (.t 28) (.c (.int (.i64) 1))) [], .op (some 1) none (.move (.t 29)) []]) k68_3
def k68_5 : ACode := .seq (.ops [] [.op (some 20) none (.move (.t 8)) [], .op (some 21) none (.bin (.mul) (.c (.int (.i64) 10)) (.t 20)) [], .op (some 22) none (.move (.t 0)) [], .op (some 23) none (.move (.t 1)) [], .op (some 24) none (.idxStr (.t 22) (.t 23)) [], .op (some 25) none (.bin (.sub) (.t 24) (.c (.int (.u8) 48))) [], .op (some 26) none (.toInt (.i64) (.t 25)) [], .op (some 27) none (.bin (.add) (.t 21) (.t 26)) [], .op (some 8) none (.move (.t 27)) []]) k68_4
def k68_6 : ACode := .block 1 k68_5
def k68_7 : ACode := .cond (.t 19) (.skip) (.exit 0)
def k68_8 : ACode := .seq (.ops [] [.op (some 10) none (.move (.t 1)) [], .op (some 11) none (.move (.t 0)) [], .op (some 12) none (.len (.str) (.t 11)) [], .op (some 13) none (.bin (.lss) (.t 10) (.t 12)) [], .op (some 14) none (.move (.t 13)) [], .op (some 15) (some (14, true)) (.move (.t 0)) [], .op (some 16) (some (14, true)) (.move (.t 1)) [], .op (some 17) (some (14, true)) (.idxStr (.t 15) (.t 16)) [], .call (some 18) (some (14, true)) 143 [.t 17] [], .op (some 19) none (.pick (.t 14) (.t 18) (.c (.bool false))) []]) k68_7
def k68_9 : ACode := .seq k68_8 k68_6
def k68_10 : ACode := .loop k68_9
def k68_11 : ACode := .block 0 k68_10
def k68_12 : ACode := .seq k68_11 k68_0
def k68_13 : ACode := .seq (.ops [] [.op (some 9) none (.move (.t 1)) [], .op (some 7) none (.move (.t 9)) [], .op (some 8) none (.move (.c (.int (.i64) 0))) []]) k68_12
def F68 : AFunc := { nparams := 2, body := .seq (.ops [] [.op (some 4) none (.move (.c (.int (.i64) 0))) [], .op (some 5) none (.move (.c (.int (.i64) 0))) [], .op (some 6) none (.move (.c (.bool false))) []]) k68_13, res := [.tmp 4, .tmp 5, .tmp 6] }
theorem t68 : compFunc Tryz.prog Tryz.f68 = some F68 := by kernel_rfl
/- 69: periwinkle/depot.isVersion -/
def k69_0 : ACode := .seq (.ops [] [.op (some 3) none (.addOff 0 (.t 1)) [], .op (some 4) none (.load none (.t 3)) [], .call (some 5) none 116 [.t 4, .c (.int (.i64) 0), .c (.int (.i64) 999)] [], .op (some 6) none (.move (.t 5)) [], .op (some 7) (some (6, true)) (.addOff 1 (.t 1)) [], .op (some 8) (some (6, true)) (.load none (.t 7)) [], .call (some 9) (some (6, true)) 116 [.t 8, .c (.int (.i64) 0), .c (.int (.i64) 999)] [], .op (some 10) none (.pick (.t 6) (.t 9) (.c (.bool false))) [], .op (some 11) none (.move (.t 10)) [], .op (some 12) (some (11, true)) (.addOff 2 (.t 1)) [], .op (some 13) (some (11, true)) (.load none (.t 12)) [], .call (some 14) (some (11, true)) 116 [.t 13, .c (.int (.i64) 0), .c (.int (.i64) 999)] [], .op (some 15) none (.pick (.t 11) (.t 14) (.c (.bool false))) [], .op (some 2) none (.move (.t 15)) []]) (.ret)
def F69 : AFunc := { nparams := 1, body := .seq (.ops [] [.op (some 1) none (.box 32 (.t 0)) [], .op (some 2) none (.move (.c (.bool false))) []]) k69_0, res := [.tmp 2] }
theorem t69 : compFunc Tryz.prog Tryz.f69 = some F69 := by kernel_rfl
/- 70: periwinkle/depot.shown -/
def k70_0 : ACode := .seq (.ops [3, 4, 5, 6, 7, 8, 9, 10, 11, 12, 13, 14, 15, 2] [.op (some 3) none (.addOff 0 (.t 1)) [], .op (some 4) none (.load none (.t 3)) [], .op (some 7) none (.addOff 1 (.t 1)) [], .op (some 8) none (.load none (.t 7)) [], .op (some 12) none (.addOff 2 (.t 1)) [], .op (some 13) none (.load none (.t 12)) [], .call (some 5) none 71 [.t 4] [(some 13, none, .load none (.t 12)), (some 8, none, .load none (.t 7))], .op (some 6) none (.bin (.add) (.t 5) (.c (.str [46]))) [], .call (some 9) none 71 [.t 8] [(some 13, none, .load none (.t 12))], .op (some 10) none (.bin (.add) (.t 6) (.t 9)) [], .op (some 11) none (.bin (.add) (.t 10) (.c (.str [46]))) [], .call (some 14) none 71 [.t 13] [], .op (some 15) none (.bin (.add) (.t 11) (.t 14)) [], .op (some 2) none (.move (.t 15)) []]) (.ret)
def F70 : AFunc := { nparams := 1, body := .seq (.ops [] [.op (some 1) none (.box 32 (.t 0)) [], .op (some 2) none (.move (.c (.str []))) []]) k70_0, res := [.tmp 2] }
theorem t70 : compFunc Tryz.prog Tryz.f70 = some F70 := by kernel_rfl
/- 72: periwinkle/depot.compare -/
def k72_0 : ACode := .seq (.ops [5, 6, 7, 8, 9, 10, 11, 12, 13, 14, 15, 16, 17, 18, 19, 20, 21, 4] [.op (some 5) none (.addOff 0 (.t 2)) [], .op (some 6) none (.load none (.t 5)) [], .op (some 7) none (.addOff 0 (.t 3)) [], .op (some 8) none (.load none (.t 7)) [], .op (some 10) none (.addOff 1 (.t 2)) [], .op (some 11) none (.load none (.t 10)) [], .op (some 12) none (.addOff 1 (.t 3)) [], .op (some 13) none (.load none (.t 12)) [], .op (some 15) none (.addOff 2 (.t 2)) [], .op (some 16) none (.load none (.t 15)) [], .op (some 17) none (.addOff 2 (.t 3)) [], .op (some 18) none (.load none (.t 17)) [], .call (some 9) none 22 [.t 6, .t 8] [(some 18, none, .load none (.t 17)), (some 16, none, .load none (.t 15)), (some 13, none, .load none (.t 12)), (some 11, none, .load none (.t 10))], .call (some 14) none 22 [.t 11, .t 13] [(some 18, none, .load none (.t 17)), (some 16, none, .load none (.t 15))], .call (some 19) none 22 [.t 16, .t 18] [], .op (some 20) none (.buildSlice 3 [.int (.i64) 0, .int (.i64) 0, .int (.i64) 0] 3 [(0, 1, .t 9), (1, 1, .t 14), (2, 1, .t 19)]) [(some 18, none, .load none (.t 17)), (some 16, none, .load none (.t 15)), (some 13, none, .load none (.t 12)), (some 11, none, .load none (.t 10)), (some 8, none, .load none (.t 7)), (some 6, none, .load none (.t 5))], .call (some 21) none 145 [.t 20] [], .op (some 4) none (.move (.t 21)) []]) (.ret)
def F72 : AFunc := { nparams := 2, body := .seq (.ops [] [.op (some 2) none (.box 32 (.t 0)) [], .op (some 3) none (.box 32 (.t 1)) [], .op (some 4) none (.move (.c (.int (.i64) 0))) []]) k72_0, res := [.tmp 4] }
theorem t72 : compFunc Tryz.prog Tryz.f72 = some F72 := by kernel_rfl
/- 73: periwinkle/periwinkleref1.Later -/
def k73_0 : ACode := .seq (.ops [] [.op (some 4) none (.move (.c (.int (.i64) 0))) []]) (.ret)
def k73_1 : ACode := .ops [] [.op (some 43) none (.bin (.add) (.t 22) (.c (.int (.i64) 1))) [], .op (some 22) none (.move (.t 43)) []]
def k73_2 : ACode := .seq (.ops [] [.op (some 4) none (.move (.c (.int (.i64) 1))) []]) (.ret)
def k73_3 : ACode := .cond (.t 42) k73_2 (.skip)
def k73_4 : ACode := .seq (.ops [34, 35, 36, 37, 38, 39, 40, 41, 42] [.op (some 34) none (.move (.t 5)) [], .op (some 35) none (.move (.t 7)) [], .op (some 36) none (.idxSl 1 (.t 34) (.t 35)) [], .op (some 37) none (.load none (.t 36)) [], .op (some 38) none (.move (.t 6)) [], .op (some 39) none (.move (.t 7)) [], .op (some 40) none (.idxSl 1 (.t 38) (.t 39)) [], .op (some 41) none (.load none (.t 40)) [], .op (some 42) none (.bin (.gtr) (.t 37) (.t 41)) []]) k73_3
def k73_5 : ACode := .seq (.ops [] [.op (some 4) none (.move (.c (.int (.i64) (-1)))) []]) (.ret)
def k73_6 : ACode := .cond (.t 33) k73_5 (.skip)
def k73_7 : ACode := .seq (.ops [25, 26, 27, 28, 29, 30, 31, 32, 33] [.op (some 25) none (.move (.t 5)) [], .op (some 26) none (.move (.t 7)) [], .op (some 27) none (.idxSl 1 (.t 25) (.t 26)) [], .op (some 28) none (.load none (.t 27)) [], .op (some 29) none (.move (.t 6)) [], .op (some 30) none (.move (.t 7)) [], .op (some 31) none (.idxSl 1 (.t 29) (.t 30)) [], .op (some 32) none (.load none (.t 31)) [], .op (some 33) none (.bin (.lss) (.t 28) (.t 32)) []]) k73_6
def k73_8 : ACode := .seq k73_7 k73_4
def k73_9 : ACode := .seq (.ops [] [.op (some 24) none (.move (.t 22)) [], .op (some 7) none (.move (.t 24)) []]) k73_8
def k73_10 : ACode := .block 1 k73_9
def k73_11 : ACode := .seq k73_10 k73_1
def k73_12 : ACode := .cond (.t 23) (.skip) (.exit 0)
def k73_13 : ACode := .seq k73_12 k73_11
def k73_14 : ACode := .seq (.ops [] [.op (some 23) none (.bin (.lss) (.t 22) (.c (.int (.i64) 3))) []]) k73_13
def k73_15 : ACode := .loop k73_14
def k73_16 : ACode := .block 0 k73_15
def k73_17 : ACode := .seq (.ops [] [.op (some 22) none (.move (.c (.int (.i64) 0))) []]) k73_16
def k73_18 : ACode := .seq k73_17 k73_0
def k73_19 : ACode := .seq (.ops [8, 9, 10, 11, 12, 13, 14, 15, 16, 17, 18, 19, 20, 21, 5, 6] [.op (some 8) none (.addOff 0 (.t 2)) [], .op (some 9) none (.load none (.t 8)) [], .op (some 10) none (.addOff 1 (.t 2)) [], .op (some 11) none (.load none (.t 10)) [], .op (some 12) none (.addOff 2 (.t 2)) [], .op (some 13) none (.load none (.t 12)) [], .op (some 14) none (.buildSlice 3 [.int (.i64) 0, .int (.i64) 0, .int (.i64) 0] 3 [(0, 1, .t 9), (1, 1, .t 11), (2, 1, .t 13)]) [(some 13, none, .load none (.t 12)), (some 11, none, .load none (.t 10)), (some 9, none, .load none (.t 8))], .op (some 15) none (.addOff 0 (.t 3)) [], .op (some 16) none (.load none (.t 15)) [], .op (some 17) none (.addOff 1 (.t 3)) [], .op (some 18) none (.load none (.t 17)) [], .op (some 19) none (.addOff 2 (.t 3)) [], .op (some 20) none (.load none (.t 19)) [], .op (some 21) none (.buildSlice 3 [.int (.i64) 0, .int (.i64) 0, .int (.i64) 0] 3 [(0, 1, .t 16), (1, 1, .t 18), (2, 1, .t 20)]) [(some 20, none, .load none (.t 19)), (some 18, none, .load none (.t 17)), (some 16, none, .load none (.t 15)), (some 13, none, .load none (.t 12)), (some 11, none, .load none (.t 10)), (some 9, none, .load none (.t 8))], .op (some 5) none (.move (.t 14)) [(some 20, none, .load none (.t 19)), (some 18, none, .load none (.t 17)), (some 16, none, .load none (.t 15))], .op (some 6) none (.move (.t 21)) []]) k73_18
def F73 : AFunc := { nparams := 2, body := .seq (.ops [] [.op (some 2) none (.box 32 (.t 0)) [], .op (some 3) none (.box 32 (.t 1)) [], .op (some 4) none (.move (.c (.int (.i64) 0))) []]) k73_19, res := [.tmp 4] }
theorem t73 : compFunc Tryz.prog Tryz.f73 = some F73 := by kernel_rfl
/- 116: periwinkle/depot.within -/
def k116_0 : ACode := .seq (.ops [] [.op (some 7) none (.move (.t 0)) [], .op (some 8) none (.move (.t 1)) [], .op (some 9) none (.bin (.geq) (.t 7) (.t 8)) [], .op (some 10) none (.move (.t 9)) [], .op (some 11) (some (10, true)) (.move (.t 0)) [], .op (some 12) (some (10, true)) (.move (.t 2)) [], .op (some 13) (some (10, true)) (.bin (.leq) (.t 11) (.t 12)) [], .op (some 14) none (.pick (.t 10) (.t 13) (.c (.bool false))) [], .op (some 6) none (.move (.t 14)) []]) (.ret)
def F116 : AFunc := { nparams := 3, body := .seq (.ops [] [.op (some 6) none (.move (.c (.bool false))) []]) k116_0, res := [.tmp 6] }
theorem t116 : compFunc Tryz.prog Tryz.f116 = some F116 := by kernel_rfl
/- 143: periwinkle/periwinkleref1.digit -/
def k143_0 : ACode := .seq (.ops [] [.op (some 3) none (.move (.t 0)) [], .op (some 4) none (.bin (.geq) (.t 3) (.c (.int (.u8) 48))) [], .op (some 5) none (.move (.t 4)) [], .op (some 6) (some (5, true)) (.move (.t 0)) [], .op (some 7) (some (5, true)) (.bin (.leq) (.t 6) (.c (.int (.u8) 57))) [], .op (some 8) none (.pick (.t 5) (.t 7) (.c (.bool false))) [], .op (some 2) none (.move (.t 8)) []]) (.ret)
def F143 : AFunc := { nparams := 1, body := .seq (.ops [] [.op (some 2) none (.move (.c (.bool false))) []]) k143_0, res := [.tmp 2] }
theorem t143 : compFunc Tryz.prog Tryz.f143 = some F143 := by kernel_rfl
/- 145: cmp.Or[int] -/
def k145_0 : ACode := .seq (.ops [] [.op (some 17) none (.move (.t 3)) [], .op (some 2) none (.move (.t 17)) []]) (.ret)
def k145_1 : ACode := .ops [] [.op (some 16) none (.bin (.add) (.t 8) (.c (.int (.i64) 1))) [], .op (some 8) none (.move (.t 16)) []]
def k145_2 : ACode := .seq (.ops [] [.op (some 15) none (.move (.t 5)) [], .op (some 2) none (.move (.t 15)) []]) (.ret)
def k145_3 : ACode := .cond (.t 14) k145_2 (.skip)
def k145_4 : ACode := .seq (.ops [] [.op (some 12) none (.move (.t 5)) [], .op (some 13) none (.move (.t 3)) [], .op (some 14) none (.eq (.leaf (.int)) true (.t 12) (.t 13)) []]) k145_3
def k145_5 : ACode := .seq (.ops [] [.op (some 10) none (.idxSl 1 (.t 6) (.t 8)) [], .op (some 11) none (.load none (.t 10)) [], .op (some 5) none (.move (.t 11)) []]) k145_4
def k145_6 : ACode := .block 1 k145_5
def k145_7 : ACode := .seq k145_6 k145_1
def k145_8 : ACode := .cond (.t 9) (.skip) (.exit 0)
def k145_9 : ACode := .seq k145_8 k145_7
def k145_10 : ACode := .seq (.ops [] [.op (some 9) none (.bin (.lss) (.t 8) (.t 7)) []]) k145_9
def k145_11 : ACode := .loop k145_10
def k145_12 : ACode := .block 0 k145_11
def k145_13 : ACode := .seq (.ops [] [.op (some 6) none (.move (.t 0)) [], .op (some 7) none (.len (.slice) (.t 6)) [], .op (some 8) none (.move (.c (.int (.i64) 0))) []]) k145_12
def k145_14 : ACode := .seq k145_13 k145_0
def k145_15 : ACode := .seq (.ops [] [.op (some 3) none (.move (.c (.int (.i64) 0))) []]) k145_14
def F145 : AFunc := { nparams := 1, body := .seq (.ops [] [.op (some 2) none (.move (.c (.int (.i64) 0))) []]) k145_15, res := [.tmp 2] }
theorem t145 : compFunc Tryz.prog Tryz.f145 = some F145 := by kernel_rfl
end Dp
