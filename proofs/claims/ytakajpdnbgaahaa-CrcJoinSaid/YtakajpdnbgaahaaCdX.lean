/-
  What is proved here: the texts of the functions, looked up.
  Conditions: none.
-/
import Derived.Test.YtakajpdnbgaahaaRows
import Derived.Test.YtakajpdnbgaahaaDv3
import Derived.KernelRfl
set_option linter.unusedVariables false
set_option linter.unusedSimpArgs false
set_option maxRecDepth 100000
namespace Go.Proofs.Ytakajpdnbgaahaa.Cd
open Go Go.Proofs Go.Proofs.Ev Go.Proofs.Dv
noncomputable section
noncomputable def l4_0 : DC :=
 .seq (.seq (.reg [⟨.op (.mv (.t 7)), (some 17), none⟩, ⟨.op (.mv (.t 0)), (some 18), none⟩, ⟨.op (.len (.t 18)), (some 19), none⟩, ⟨.op (.bin .lss 0 (.t 17) (.t 19)), (some 20), none⟩])
 [0, 1, 5, 6, 7, 20]
 (.cond (.t 20) (.skip) (.exit 0)))
 [0, 1, 5, 6, 7]
 (.seq (.block 1 (.seq (.seq (.reg [⟨.op (.mv (.t 0)), (some 23), none⟩, ⟨.op (.mv (.t 7)), (some 24), none⟩, ⟨.op (.ia 1 none (.t 23) (.t 24)), (some 25), none⟩, ⟨.op (.ld1 (.t 25)), (some 26), none⟩, ⟨.op (.bin .rem 0 (.t 26) (.c (.int .u8 3))), (some 27), none⟩, ⟨.op (.bin .gtr 0 (.t 27) (.c (.int .u8 0))), (some 28), none⟩])
 [0, 1, 5, 6, 7, 28]
 (.cond (.t 28) (.seq (.reg [⟨.op (.mv (.t 0)), (some 29), none⟩, ⟨.op (.mv (.t 7)), (some 30), none⟩, ⟨.op (.ia 1 none (.t 29) (.t 30)), (some 31), none⟩, ⟨.op (.ld1 (.t 31)), (some 32), none⟩, ⟨.op (.bin .rem 0 (.t 32) (.c (.int .u8 26))), (some 33), none⟩, ⟨.op (.bin .add 0 (.c (.int .u8 97)) (.t 33)), (some 34), none⟩, ⟨.op (.bslice 1 1 [(.int .u8 0)] [(0, 1, (.t 34))]), (some 35), none⟩, ⟨.op (.string (.t 35)), (some 36), none⟩, ⟨.op (.mv (.t 36)), (some 8), none⟩])
 [0, 1, 5, 6, 7, 8]
 (.drw [⟨⟨.op (.ldn 4 (.t 5)), (some 37), none⟩, .n, []⟩, ⟨⟨.op (.mv (.t 8)), (some 38), none⟩, .n, []⟩, ⟨⟨.op (.ldn 4 (.t 6)), (some 40), none⟩, .n, []⟩, ⟨⟨.op (.mv (.t 8)), (some 41), none⟩, .n, []⟩, ⟨⟨.call 10 [(.t 37), (.t 38)], (some 39), none⟩, .x, [(true, 2)]⟩, ⟨⟨.call 11 [(.t 40), (.t 41)], (some 42), none⟩, .x, []⟩, ⟨⟨.op (.st 4 (.t 5) (.t 39)), none, none⟩, .x, []⟩, ⟨⟨.op (.st 4 (.t 6) (.t 42)), none, none⟩, .x, []⟩])) (.seq (.drw [⟨⟨.op (.fa 0 (.t 6)), (some 43), none⟩, .n, []⟩, ⟨⟨.op (.ld1 (.t 43)), (some 44), none⟩, .n, []⟩, ⟨⟨.op (.bin .sub 0 (.t 44) (.c (.int .i64 1))), (some 45), none⟩, .n, []⟩, ⟨⟨.op (.mv (.t 0)), (some 46), none⟩, .n, []⟩, ⟨⟨.op (.mv (.t 7)), (some 47), none⟩, .n, []⟩, ⟨⟨.op (.ia 1 none (.t 46) (.t 47)), (some 48), none⟩, .n, []⟩, ⟨⟨.op (.ld1 (.t 48)), (some 49), none⟩, .n, []⟩, ⟨⟨.op (.bin .quo 0 (.t 49) (.c (.int .u8 3))), (some 50), none⟩, .n, []⟩, ⟨⟨.op (.bin .rem 0 (.t 50) (.c (.int .u8 7))), (some 51), none⟩, .n, []⟩, ⟨⟨.op (.conv .i64 (.t 51)), (some 52), none⟩, .n, []⟩, ⟨⟨.op (.bin .add 0 (.t 45) (.t 52)), (some 53), none⟩, .n, []⟩, ⟨⟨.op (.mv (.t 53)), (some 9), none⟩, .x, []⟩])
 [0, 1, 5, 6, 7, 9]
 (.seq (.seq (.reg [⟨.op (.mv (.t 7)), (some 54), none⟩, ⟨.op (.bin .rem 0 (.t 54) (.c (.int .i64 9))), (some 55), none⟩, ⟨.op (.bin .eql 0 (.t 55) (.c (.int .i64 8))), (some 56), none⟩])
 [0, 1, 5, 6, 7, 9, 56]
 (.cond (.t 56) (.reg [⟨.op (.mv (.t 1)), (some 57), none⟩, ⟨.op (.mv (.t 57)), (some 9), none⟩]) (.skip)))
 [0, 1, 5, 6, 7, 9]
 (.drw [⟨⟨.op (.ldn 4 (.t 5)), (some 58), none⟩, .n, []⟩, ⟨⟨.op (.mv (.t 9)), (some 59), none⟩, .n, []⟩, ⟨⟨.op (.ldn 4 (.t 6)), (some 61), none⟩, .n, []⟩, ⟨⟨.op (.mv (.t 9)), (some 62), none⟩, .n, []⟩, ⟨⟨.call 12 [(.t 58), (.t 59)], (some 60), none⟩, .x, [(true, 2)]⟩, ⟨⟨.call 13 [(.t 61), (.t 62)], (some 63), none⟩, .x, []⟩, ⟨⟨.op (.st 4 (.t 5) (.t 60)), none, none⟩, .x, []⟩, ⟨⟨.op (.st 4 (.t 6) (.t 63)), none, none⟩, .x, []⟩])))))
 [0, 1, 5, 6, 7]
 (.seq (.reg [⟨.op (.ldn 4 (.t 5)), (some 64), none⟩, ⟨.op (.ldn 4 (.t 6)), (some 65), none⟩, ⟨.call 14 [(.t 64), (.t 65)], (some 66), none⟩, ⟨.op (.not (.t 66)), (some 67), none⟩])
 [0, 1, 5, 6, 7, 67]
 (.cond (.t 67) (.seq (.reg [⟨.op (.mv (.c (.bool false))), (some 4), none⟩])
 [4]
 (.ret)) (.skip)))))
 [0, 1, 5, 6, 7]
 (.reg [⟨.op (.mv (.t 7)), (some 21), none⟩, ⟨.op (.bin .add 0 (.t 21) (.c (.int .i64 1))), (some 22), none⟩, ⟨.op (.mv (.t 22)), (some 7), none⟩]))
theorem u4_0 (call : DCall) (T : Tm) (st : Dv.St) : dCw Try.prog call l4_0 T st = dCw Try.prog call
 (.seq (.seq (.reg [⟨.op (.mv (.t 7)), (some 17), none⟩, ⟨.op (.mv (.t 0)), (some 18), none⟩, ⟨.op (.len (.t 18)), (some 19), none⟩, ⟨.op (.bin .lss 0 (.t 17) (.t 19)), (some 20), none⟩])
 [0, 1, 5, 6, 7, 20]
 (.cond (.t 20) (.skip) (.exit 0)))
 [0, 1, 5, 6, 7]
 (.seq (.block 1 (.seq (.seq (.reg [⟨.op (.mv (.t 0)), (some 23), none⟩, ⟨.op (.mv (.t 7)), (some 24), none⟩, ⟨.op (.ia 1 none (.t 23) (.t 24)), (some 25), none⟩, ⟨.op (.ld1 (.t 25)), (some 26), none⟩, ⟨.op (.bin .rem 0 (.t 26) (.c (.int .u8 3))), (some 27), none⟩, ⟨.op (.bin .gtr 0 (.t 27) (.c (.int .u8 0))), (some 28), none⟩])
 [0, 1, 5, 6, 7, 28]
 (.cond (.t 28) (.seq (.reg [⟨.op (.mv (.t 0)), (some 29), none⟩, ⟨.op (.mv (.t 7)), (some 30), none⟩, ⟨.op (.ia 1 none (.t 29) (.t 30)), (some 31), none⟩, ⟨.op (.ld1 (.t 31)), (some 32), none⟩, ⟨.op (.bin .rem 0 (.t 32) (.c (.int .u8 26))), (some 33), none⟩, ⟨.op (.bin .add 0 (.c (.int .u8 97)) (.t 33)), (some 34), none⟩, ⟨.op (.bslice 1 1 [(.int .u8 0)] [(0, 1, (.t 34))]), (some 35), none⟩, ⟨.op (.string (.t 35)), (some 36), none⟩, ⟨.op (.mv (.t 36)), (some 8), none⟩])
 [0, 1, 5, 6, 7, 8]
 (.drw [⟨⟨.op (.ldn 4 (.t 5)), (some 37), none⟩, .n, []⟩, ⟨⟨.op (.mv (.t 8)), (some 38), none⟩, .n, []⟩, ⟨⟨.op (.ldn 4 (.t 6)), (some 40), none⟩, .n, []⟩, ⟨⟨.op (.mv (.t 8)), (some 41), none⟩, .n, []⟩, ⟨⟨.call 10 [(.t 37), (.t 38)], (some 39), none⟩, .x, [(true, 2)]⟩, ⟨⟨.call 11 [(.t 40), (.t 41)], (some 42), none⟩, .x, []⟩, ⟨⟨.op (.st 4 (.t 5) (.t 39)), none, none⟩, .x, []⟩, ⟨⟨.op (.st 4 (.t 6) (.t 42)), none, none⟩, .x, []⟩])) (.seq (.drw [⟨⟨.op (.fa 0 (.t 6)), (some 43), none⟩, .n, []⟩, ⟨⟨.op (.ld1 (.t 43)), (some 44), none⟩, .n, []⟩, ⟨⟨.op (.bin .sub 0 (.t 44) (.c (.int .i64 1))), (some 45), none⟩, .n, []⟩, ⟨⟨.op (.mv (.t 0)), (some 46), none⟩, .n, []⟩, ⟨⟨.op (.mv (.t 7)), (some 47), none⟩, .n, []⟩, ⟨⟨.op (.ia 1 none (.t 46) (.t 47)), (some 48), none⟩, .n, []⟩, ⟨⟨.op (.ld1 (.t 48)), (some 49), none⟩, .n, []⟩, ⟨⟨.op (.bin .quo 0 (.t 49) (.c (.int .u8 3))), (some 50), none⟩, .n, []⟩, ⟨⟨.op (.bin .rem 0 (.t 50) (.c (.int .u8 7))), (some 51), none⟩, .n, []⟩, ⟨⟨.op (.conv .i64 (.t 51)), (some 52), none⟩, .n, []⟩, ⟨⟨.op (.bin .add 0 (.t 45) (.t 52)), (some 53), none⟩, .n, []⟩, ⟨⟨.op (.mv (.t 53)), (some 9), none⟩, .x, []⟩])
 [0, 1, 5, 6, 7, 9]
 (.seq (.seq (.reg [⟨.op (.mv (.t 7)), (some 54), none⟩, ⟨.op (.bin .rem 0 (.t 54) (.c (.int .i64 9))), (some 55), none⟩, ⟨.op (.bin .eql 0 (.t 55) (.c (.int .i64 8))), (some 56), none⟩])
 [0, 1, 5, 6, 7, 9, 56]
 (.cond (.t 56) (.reg [⟨.op (.mv (.t 1)), (some 57), none⟩, ⟨.op (.mv (.t 57)), (some 9), none⟩]) (.skip)))
 [0, 1, 5, 6, 7, 9]
 (.drw [⟨⟨.op (.ldn 4 (.t 5)), (some 58), none⟩, .n, []⟩, ⟨⟨.op (.mv (.t 9)), (some 59), none⟩, .n, []⟩, ⟨⟨.op (.ldn 4 (.t 6)), (some 61), none⟩, .n, []⟩, ⟨⟨.op (.mv (.t 9)), (some 62), none⟩, .n, []⟩, ⟨⟨.call 12 [(.t 58), (.t 59)], (some 60), none⟩, .x, [(true, 2)]⟩, ⟨⟨.call 13 [(.t 61), (.t 62)], (some 63), none⟩, .x, []⟩, ⟨⟨.op (.st 4 (.t 5) (.t 60)), none, none⟩, .x, []⟩, ⟨⟨.op (.st 4 (.t 6) (.t 63)), none, none⟩, .x, []⟩])))))
 [0, 1, 5, 6, 7]
 (.seq (.reg [⟨.op (.ldn 4 (.t 5)), (some 64), none⟩, ⟨.op (.ldn 4 (.t 6)), (some 65), none⟩, ⟨.call 14 [(.t 64), (.t 65)], (some 66), none⟩, ⟨.op (.not (.t 66)), (some 67), none⟩])
 [0, 1, 5, 6, 7, 67]
 (.cond (.t 67) (.seq (.reg [⟨.op (.mv (.c (.bool false))), (some 4), none⟩])
 [4]
 (.ret)) (.skip)))))
 [0, 1, 5, 6, 7]
 (.reg [⟨.op (.mv (.t 7)), (some 21), none⟩, ⟨.op (.bin .add 0 (.t 21) (.c (.int .i64 1))), (some 22), none⟩, ⟨.op (.mv (.t 22)), (some 7), none⟩]))) T st := rfl
/-- cardamom/cardamomlaw20.WindAll -/
noncomputable def c4 : DFn := ⟨68, .pure,
 .seq (.reg [⟨.op (.mv (.c (.bool false))), (some 4), none⟩])
 [0, 1]
 (.seq (.seq (.reg [⟨.call 7 [], (some 10), none⟩, ⟨.op (.not (.t 10)), (some 11), none⟩])
 [0, 1, 11]
 (.cond (.t 11) (.seq (.reg [⟨.op (.mv (.c (.bool false))), (some 4), none⟩])
 [4]
 (.ret)) (.skip)))
 [0, 1]
 (.seq (.seq (.reg [⟨.op (.mv (.t 0)), (some 12), none⟩, ⟨.op (.len (.t 12)), (some 13), none⟩, ⟨.op (.bin .gtr 0 (.t 13) (.c (.int .i64 60))), (some 14), none⟩])
 [0, 1, 14]
 (.cond (.t 14) (.seq (.reg [⟨.op (.mv (.c (.bool true))), (some 4), none⟩])
 [4]
 (.ret)) (.skip)))
 [0, 1]
 (.seq (.reg [⟨.call 8 [], (some 15), none⟩, ⟨.call 9 [], (some 16), none⟩, ⟨.op (.new [(.int .i64 0), (.int .i64 0), (.sl none 0), (.sl none 0)]), (some 5), none⟩, ⟨.op (.new [(.int .i64 0), (.int .i64 0), (.sl none 0), (.sl none 0)]), (some 6), none⟩, ⟨.op (.st 4 (.t 5) (.t 15)), none, none⟩, ⟨.op (.st 4 (.t 6) (.t 16)), none, none⟩])
 [0, 1, 5, 6]
 (.seq (.seq (.reg [⟨.op (.mv (.c (.int .i64 0))), (some 7), none⟩])
 [0, 1, 5, 6, 7]
 (.block 0 (.loop [0, 1, 5, 6, 7] (l4_0))))
 []
 (.seq (.reg [⟨.op (.mv (.c (.bool true))), (some 4), none⟩])
 [4]
 (.ret)))))),
 [.tmp 4]⟩
theorem k4 : cFn Try.prog 4 = some c4.toE := by kernel_rfl
theorem w4 : c4.body.wf = true := by kernel_rfl
noncomputable def l7_0 : DC :=
 .seq (.seq (.reg [⟨.op (.mv (.t 2)), (some 5), none⟩, ⟨.op (.bin .lss 0 (.t 5) (.c (.int .i64 5))), (some 6), none⟩])
 [1, 2, 6]
 (.cond (.t 6) (.skip) (.exit 0)))
 [1, 2]
 (.seq (.block 1 (.reg [⟨.op (.ldn 4 (.t 1)), (some 9), none⟩, ⟨.call 10 [(.t 9), (.c (.str [97]))], (some 10), none⟩, ⟨.op (.st 4 (.t 1) (.t 10)), none, none⟩]))
 [1, 2]
 (.reg [⟨.op (.mv (.t 2)), (some 7), none⟩, ⟨.op (.bin .add 0 (.t 7) (.c (.int .i64 1))), (some 8), none⟩, ⟨.op (.mv (.t 8)), (some 2), none⟩]))
theorem u7_0 (call : DCall) (T : Tm) (st : Dv.St) : dCw Try.prog call l7_0 T st = dCw Try.prog call
 (.seq (.seq (.reg [⟨.op (.mv (.t 2)), (some 5), none⟩, ⟨.op (.bin .lss 0 (.t 5) (.c (.int .i64 5))), (some 6), none⟩])
 [1, 2, 6]
 (.cond (.t 6) (.skip) (.exit 0)))
 [1, 2]
 (.seq (.block 1 (.reg [⟨.op (.ldn 4 (.t 1)), (some 9), none⟩, ⟨.call 10 [(.t 9), (.c (.str [97]))], (some 10), none⟩, ⟨.op (.st 4 (.t 1) (.t 10)), none, none⟩]))
 [1, 2]
 (.reg [⟨.op (.mv (.t 2)), (some 7), none⟩, ⟨.op (.bin .add 0 (.t 7) (.c (.int .i64 1))), (some 8), none⟩, ⟨.op (.mv (.t 8)), (some 2), none⟩]))) T st := rfl
/-- cardamom/cardamomlaw20.begun -/
noncomputable def c7 : DFn := ⟨55, .pure,
 .seq (.reg [⟨.op (.mv (.c (.bool false))), (some 0), none⟩])
 []
 (.seq (.reg [⟨.call 8 [], (some 4), none⟩, ⟨.op (.new [(.int .i64 0), (.int .i64 0), (.sl none 0), (.sl none 0)]), (some 1), none⟩, ⟨.op (.st 4 (.t 1) (.t 4)), none, none⟩])
 [1]
 (.seq (.seq (.reg [⟨.op (.mv (.c (.int .i64 0))), (some 2), none⟩])
 [1, 2]
 (.block 0 (.loop [1, 2] (l7_0))))
 [1]
 (.seq (.reg [⟨.op (.ldn 4 (.t 1)), (some 11), none⟩, ⟨.call 12 [(.t 11), (.c (.int .i64 2))], (some 12), none⟩, ⟨.op (.new [(.int .i64 0), (.int .i64 0), (.sl none 0), (.sl none 0)]), (some 3), none⟩, ⟨.op (.st 4 (.t 3) (.t 12)), none, none⟩])
 [1, 3]
 (.seq (.reg [⟨.op (.fa 0 (.t 1)), (some 13), none⟩, ⟨.op (.ld1 (.t 13)), (some 14), none⟩, ⟨.op (.bin .eql 0 (.t 14) (.c (.int .i64 1))), (some 15), none⟩, ⟨.op (.mv (.t 15)), (some 16), none⟩, ⟨.op (.fa 1 (.t 1)), (some 17), (some (16, true))⟩, ⟨.op (.ld1 (.t 17)), (some 18), (some (16, true))⟩, ⟨.op (.bin .eql 0 (.t 18) (.c (.int .i64 5))), (some 19), (some (16, true))⟩, ⟨.op (.pick (.t 16) (.t 19) (.c (.bool false))), (some 20), none⟩, ⟨.op (.mv (.t 20)), (some 21), none⟩, ⟨.op (.fa 2 (.t 1)), (some 22), (some (21, true))⟩, ⟨.op (.ld1 (.t 22)), (some 23), (some (21, true))⟩, ⟨.op (.len (.t 23)), (some 24), (some (21, true))⟩, ⟨.op (.bin .eql 0 (.t 24) (.c (.int .i64 4))), (some 25), (some (21, true))⟩, ⟨.op (.pick (.t 21) (.t 25) (.c (.bool false))), (some 26), none⟩, ⟨.op (.mv (.t 26)), (some 27), none⟩, ⟨.op (.fa 3 (.t 1)), (some 28), (some (27, true))⟩, ⟨.op (.ld1 (.t 28)), (some 29), (some (27, true))⟩, ⟨.op (.len (.t 29)), (some 30), (some (27, true))⟩, ⟨.op (.bin .eql 0 (.t 30) (.c (.int .i64 1))), (some 31), (some (27, true))⟩, ⟨.op (.pick (.t 27) (.t 31) (.c (.bool false))), (some 32), none⟩, ⟨.op (.mv (.t 32)), (some 33), none⟩, ⟨.op (.fa 0 (.t 3)), (some 34), (some (33, true))⟩, ⟨.op (.ld1 (.t 34)), (some 35), (some (33, true))⟩, ⟨.op (.bin .eql 0 (.t 35) (.c (.int .i64 3))), (some 36), (some (33, true))⟩, ⟨.op (.pick (.t 33) (.t 36) (.c (.bool false))), (some 37), none⟩, ⟨.op (.mv (.t 37)), (some 38), none⟩, ⟨.op (.fa 1 (.t 3)), (some 39), (some (38, true))⟩, ⟨.op (.ld1 (.t 39)), (some 40), (some (38, true))⟩, ⟨.op (.bin .eql 0 (.t 40) (.c (.int .i64 6))), (some 41), (some (38, true))⟩, ⟨.op (.pick (.t 38) (.t 41) (.c (.bool false))), (some 42), none⟩, ⟨.op (.mv (.t 42)), (some 43), none⟩, ⟨.op (.fa 2 (.t 3)), (some 44), (some (43, true))⟩, ⟨.op (.ld1 (.t 44)), (some 45), (some (43, true))⟩, ⟨.op (.len (.t 45)), (some 46), (some (43, true))⟩, ⟨.op (.bin .eql 0 (.t 46) (.c (.int .i64 3))), (some 47), (some (43, true))⟩, ⟨.op (.pick (.t 43) (.t 47) (.c (.bool false))), (some 48), none⟩, ⟨.op (.mv (.t 48)), (some 49), none⟩, ⟨.op (.fa 3 (.t 3)), (some 50), (some (49, true))⟩, ⟨.op (.ld1 (.t 50)), (some 51), (some (49, true))⟩, ⟨.op (.len (.t 51)), (some 52), (some (49, true))⟩, ⟨.op (.bin .eql 0 (.t 52) (.c (.int .i64 0))), (some 53), (some (49, true))⟩, ⟨.op (.pick (.t 49) (.t 53) (.c (.bool false))), (some 54), none⟩, ⟨.op (.mv (.t 54)), (some 0), none⟩])
 [0]
 (.ret))))),
 [.tmp 0]⟩
theorem k7 : cFn Try.prog 7 = some c7.toE := by kernel_rfl
theorem w7 : c7.body.wf = true := by kernel_rfl
/-- cardamom/wind.New -/
noncomputable def c8 : DFn := ⟨2, .pure,
 .seq (.reg [⟨.op (.new [(.int .i64 0), (.int .i64 0), (.sl none 0), (.sl none 0)]), (some 0), none⟩])
 [0]
 (.seq (.reg [⟨.op (.build [(.int .i64 0), (.int .i64 0), (.sl none 0), (.sl none 0)] [(0, 1, (.c (.int .i64 1))), (1, 1, (.c (.int .i64 1)))]), (some 1), none⟩, ⟨.op (.st 4 (.t 0) (.t 1)), none, none⟩])
 [0]
 (.ret)),
 [.celln 4 0]⟩
theorem k8 : cFn Try.prog 8 = some c8.toE := by kernel_rfl
theorem w8 : c8.body.wf = true := by kernel_rfl
/-- cardamom/wind.Send -/
noncomputable def c10 : DFn := ⟨15, .pure,
 .seq (.reg [⟨.op (.box (.t 0)), (some 2), none⟩, ⟨.op (.new [(.int .i64 0), (.int .i64 0), (.sl none 0), (.sl none 0)]), (some 4), none⟩])
 [1, 2, 4]
 (.seq (.reg [⟨.op (.ldn 4 (.t 2)), (some 5), none⟩, ⟨.call 15 [(.t 5)], (some 6), none⟩, ⟨.op (.st 4 (.t 2) (.t 6)), none, none⟩])
 [1, 2, 4]
 (.seq (.reg [⟨.op (.fa 3 (.t 2)), (some 7), none⟩, ⟨.op (.ld1 (.t 7)), (some 8), none⟩, ⟨.op (.mv (.t 1)), (some 9), none⟩, ⟨.op (.bslice 1 1 [(.str [])] [(0, 1, (.t 9))]), (some 10), none⟩, ⟨.op (.app 1 16 false (.t 8) (.t 10)), (some 11), none⟩, ⟨.op (.fa 3 (.t 2)), (some 12), none⟩, ⟨.op (.st 1 (.t 12) (.t 11)), none, none⟩])
 [2, 4]
 (.seq (.reg [⟨.op (.ldn 4 (.t 2)), (some 13), none⟩, ⟨.call 16 [(.t 13)], (some 14), none⟩, ⟨.op (.st 4 (.t 4) (.t 14)), none, none⟩])
 [4]
 (.ret)))),
 [.celln 4 4]⟩
theorem k10 : cFn Try.prog 10 = some c10.toE := by kernel_rfl
theorem w10 : c10.body.wf = true := by kernel_rfl
/-- cardamom/wind.Told -/
noncomputable def c12 : DFn := ⟨28, .pure,
 .seq (.reg [⟨.op (.box (.t 0)), (some 2), none⟩, ⟨.op (.box (.t 1)), (some 3), none⟩, ⟨.op (.new [(.int .i64 0), (.int .i64 0), (.sl none 0), (.sl none 0)]), (some 4), none⟩])
 [2, 3, 4]
 (.seq (.reg [⟨.op (.ldn 4 (.t 2)), (some 5), none⟩, ⟨.call 15 [(.t 5)], (some 6), none⟩, ⟨.op (.st 4 (.t 2) (.t 6)), none, none⟩])
 [2, 3, 4]
 (.seq (.block 0 (.seq (.block 2 (.block 1 (.seq (.seq (.seq (.reg [⟨.op (.ld1 (.t 3)), (some 8), none⟩, ⟨.op (.fa 0 (.t 2)), (some 9), none⟩, ⟨.op (.ld1 (.t 9)), (some 10), none⟩, ⟨.op (.bin .lss 0 (.t 8) (.t 10)), (some 11), none⟩, ⟨.op (.mv (.t 11)), (some 7), none⟩])
 [2, 3, 4, 7]
 (.cond (.t 7) (.exit 1) (.skip)))
 [2, 3, 4]
 (.seq (.reg [⟨.op (.ld1 (.t 3)), (some 13), none⟩, ⟨.op (.fa 1 (.t 2)), (some 14), none⟩, ⟨.op (.ld1 (.t 14)), (some 15), none⟩, ⟨.op (.bin .geq 0 (.t 13) (.t 15)), (some 16), none⟩, ⟨.op (.mv (.t 16)), (some 12), none⟩])
 [2, 3, 4, 12]
 (.cond (.t 12) (.exit 2) (.skip))))
 [2, 3, 4]
 (.exit 0))))
 [2, 4]
 (.seq (.seq (.reg [⟨.op (.ldn 4 (.t 2)), (some 17), none⟩, ⟨.op (.st 4 (.t 4) (.t 17)), none, none⟩])
 [4]
 (.ret))
 [2, 3, 4]
 (.exit 0))))
 [2, 3, 4]
 (.seq (.reg [⟨.op (.fa 2 (.t 2)), (some 18), none⟩, ⟨.op (.ld1 (.t 18)), (some 19), none⟩, ⟨.op (.fn 19 [(.t 3)]), (some 20), none⟩, ⟨.call 18 [(.t 19), (.t 20)], (some 21), none⟩, ⟨.op (.fa 2 (.t 2)), (some 22), none⟩, ⟨.op (.st 1 (.t 22) (.t 21)), none, none⟩])
 [2, 3, 4]
 (.seq (.reg [⟨.op (.ld1 (.t 3)), (some 23), none⟩, ⟨.op (.bin .add 0 (.t 23) (.c (.int .i64 1))), (some 24), none⟩, ⟨.op (.fa 0 (.t 2)), (some 25), none⟩, ⟨.op (.st 1 (.t 25) (.t 24)), none, none⟩])
 [2, 4]
 (.seq (.reg [⟨.op (.ldn 4 (.t 2)), (some 26), none⟩, ⟨.call 16 [(.t 26)], (some 27), none⟩, ⟨.op (.st 4 (.t 4) (.t 27)), none, none⟩])
 [4]
 (.ret)))))),
 [.celln 4 4]⟩
theorem k12 : cFn Try.prog 12 = some c12.toE := by kernel_rfl
theorem w12 : c12.body.wf = true := by kernel_rfl
/-- cardamom/wind.Told$1 -/
noncomputable def c19 : DFn := ⟨8, .pure,
 .seq (.reg [⟨.op (.box (.t 0)), (some 2), none⟩, ⟨.op (.mv (.c (.bool false))), (some 3), none⟩])
 [1, 2]
 (.seq (.reg [⟨.op (.fa 0 (.t 2)), (some 4), none⟩, ⟨.op (.ld1 (.t 4)), (some 5), none⟩, ⟨.op (.ld1 (.t 1)), (some 6), none⟩, ⟨.op (.bin .leq 0 (.t 5) (.t 6)), (some 7), none⟩, ⟨.op (.mv (.t 7)), (some 3), none⟩])
 [3]
 (.ret)),
 [.tmp 3]⟩
theorem k19 : cFn Try.prog 19 = some c19.toE := by kernel_rfl
theorem w19 : c19.body.wf = true := by kernel_rfl
/-- cardamom/wind.twin -/
noncomputable def c15 : DFn := ⟨12, .own,
 .seq (.reg [⟨.op (.box (.t 0)), (some 1), none⟩, ⟨.op (.new [(.int .i64 0), (.int .i64 0), (.sl none 0), (.sl none 0)]), (some 2), none⟩])
 [1, 2]
 (.seq (.drw [⟨⟨.op (.fa 2 (.t 1)), (some 3), none⟩, .n, []⟩, ⟨⟨.op (.ld1 (.t 3)), (some 4), none⟩, .n, []⟩, ⟨⟨.op (.fa 3 (.t 1)), (some 6), none⟩, .n, []⟩, ⟨⟨.op (.ld1 (.t 6)), (some 7), none⟩, .n, []⟩, ⟨⟨.call 21 [(.t 4)], (some 5), none⟩, .x, [(true, 3)]⟩, ⟨⟨.op (.fa 2 (.t 1)), (some 9), none⟩, .n, []⟩, ⟨⟨.call 22 [(.t 7)], (some 8), none⟩, .x, []⟩, ⟨⟨.op (.st 1 (.t 9) (.t 5)), none, none⟩, .x, []⟩, ⟨⟨.op (.fa 3 (.t 1)), (some 10), none⟩, .n, []⟩, ⟨⟨.op (.st 1 (.t 10) (.t 8)), none, none⟩, .x, []⟩])
 [1, 2]
 (.seq (.reg [⟨.op (.ldn 4 (.t 1)), (some 11), none⟩, ⟨.op (.st 4 (.t 2) (.t 11)), none, none⟩])
 [2]
 (.ret))),
 [.celln 4 2]⟩
theorem k15 : cFn Try.prog 15 = some c15.toE := by kernel_rfl
theorem w15 : c15.body.wf = true := by kernel_rfl
noncomputable def l16_0 : DC :=
 .seq (.seq (.reg [⟨.op (.fa 3 (.t 1)), (some 3), none⟩, ⟨.op (.ld1 (.t 3)), (some 4), none⟩, ⟨.op (.len (.t 4)), (some 5), none⟩, ⟨.op (.bin .gtr 0 (.t 5) (.c (.int .i64 0))), (some 6), none⟩, ⟨.op (.mv (.t 6)), (some 7), none⟩, ⟨.op (.fa 1 (.t 1)), (some 8), (some (7, true))⟩, ⟨.op (.ld1 (.t 8)), (some 9), (some (7, true))⟩, ⟨.op (.fa 0 (.t 1)), (some 10), (some (7, true))⟩, ⟨.op (.ld1 (.t 10)), (some 11), (some (7, true))⟩, ⟨.op (.bin .add 0 (.t 11) (.c (.int .i64 4))), (some 12), (some (7, true))⟩, ⟨.op (.bin .lss 0 (.t 9) (.t 12)), (some 13), (some (7, true))⟩, ⟨.op (.pick (.t 7) (.t 13) (.c (.bool false))), (some 14), none⟩])
 [1, 2, 14]
 (.cond (.t 14) (.skip) (.exit 0)))
 [1, 2]
 (.block 1 (.seq (.drw [⟨⟨.op (.fa 2 (.t 1)), (some 15), none⟩, .n, []⟩, ⟨⟨.op (.ld1 (.t 15)), (some 16), none⟩, .n, []⟩, ⟨⟨.op (.fa 1 (.t 1)), (some 17), none⟩, .n, []⟩, ⟨⟨.op (.ld1 (.t 17)), (some 18), none⟩, .n, []⟩, ⟨⟨.op (.fa 3 (.t 1)), (some 19), none⟩, .n, []⟩, ⟨⟨.op (.ld1 (.t 19)), (some 20), none⟩, .n, []⟩, ⟨⟨.op (.ia 1 none (.t 20) (.c (.int .i64 0))), (some 21), none⟩, .n, []⟩, ⟨⟨.op (.ld1 (.t 21)), (some 22), none⟩, .n, []⟩, ⟨⟨.op (.build [(.int .i64 0), (.str [])] [(0, 1, (.t 18)), (1, 1, (.t 22))]), (some 23), none⟩, .n, []⟩, ⟨⟨.op (.bslice 2 1 [(.int .i64 0), (.str [])] [(0, 2, (.t 23))]), (some 24), none⟩, .a, [(true, 7), (true, 5), (true, 3), (true, 1)]⟩, ⟨⟨.op (.app 2 24 false (.t 16) (.t 24)), (some 25), none⟩, .x, []⟩, ⟨⟨.op (.fa 2 (.t 1)), (some 26), none⟩, .n, []⟩, ⟨⟨.op (.st 1 (.t 26) (.t 25)), none, none⟩, .x, []⟩])
 [1, 2]
 (.seq (.reg [⟨.op (.fa 3 (.t 1)), (some 27), none⟩, ⟨.op (.ld1 (.t 27)), (some 28), none⟩, ⟨.op (.cut 1 none (.t 28) (some (.c (.int .i64 1))) none), (some 29), none⟩, ⟨.op (.fa 3 (.t 1)), (some 30), none⟩, ⟨.op (.st 1 (.t 30) (.t 29)), none, none⟩])
 [1, 2]
 (.reg [⟨.op (.fa 1 (.t 1)), (some 31), none⟩, ⟨.op (.ld1 (.t 31)), (some 32), none⟩, ⟨.op (.bin .add 0 (.t 32) (.c (.int .i64 1))), (some 33), none⟩, ⟨.op (.fa 1 (.t 1)), (some 34), none⟩, ⟨.op (.st 1 (.t 34) (.t 33)), none, none⟩]))))
theorem u16_0 (call : DCall) (T : Tm) (st : Dv.St) : dCw Try.prog call l16_0 T st = dCw Try.prog call
 (.seq (.seq (.reg [⟨.op (.fa 3 (.t 1)), (some 3), none⟩, ⟨.op (.ld1 (.t 3)), (some 4), none⟩, ⟨.op (.len (.t 4)), (some 5), none⟩, ⟨.op (.bin .gtr 0 (.t 5) (.c (.int .i64 0))), (some 6), none⟩, ⟨.op (.mv (.t 6)), (some 7), none⟩, ⟨.op (.fa 1 (.t 1)), (some 8), (some (7, true))⟩, ⟨.op (.ld1 (.t 8)), (some 9), (some (7, true))⟩, ⟨.op (.fa 0 (.t 1)), (some 10), (some (7, true))⟩, ⟨.op (.ld1 (.t 10)), (some 11), (some (7, true))⟩, ⟨.op (.bin .add 0 (.t 11) (.c (.int .i64 4))), (some 12), (some (7, true))⟩, ⟨.op (.bin .lss 0 (.t 9) (.t 12)), (some 13), (some (7, true))⟩, ⟨.op (.pick (.t 7) (.t 13) (.c (.bool false))), (some 14), none⟩])
 [1, 2, 14]
 (.cond (.t 14) (.skip) (.exit 0)))
 [1, 2]
 (.block 1 (.seq (.drw [⟨⟨.op (.fa 2 (.t 1)), (some 15), none⟩, .n, []⟩, ⟨⟨.op (.ld1 (.t 15)), (some 16), none⟩, .n, []⟩, ⟨⟨.op (.fa 1 (.t 1)), (some 17), none⟩, .n, []⟩, ⟨⟨.op (.ld1 (.t 17)), (some 18), none⟩, .n, []⟩, ⟨⟨.op (.fa 3 (.t 1)), (some 19), none⟩, .n, []⟩, ⟨⟨.op (.ld1 (.t 19)), (some 20), none⟩, .n, []⟩, ⟨⟨.op (.ia 1 none (.t 20) (.c (.int .i64 0))), (some 21), none⟩, .n, []⟩, ⟨⟨.op (.ld1 (.t 21)), (some 22), none⟩, .n, []⟩, ⟨⟨.op (.build [(.int .i64 0), (.str [])] [(0, 1, (.t 18)), (1, 1, (.t 22))]), (some 23), none⟩, .n, []⟩, ⟨⟨.op (.bslice 2 1 [(.int .i64 0), (.str [])] [(0, 2, (.t 23))]), (some 24), none⟩, .a, [(true, 7), (true, 5), (true, 3), (true, 1)]⟩, ⟨⟨.op (.app 2 24 false (.t 16) (.t 24)), (some 25), none⟩, .x, []⟩, ⟨⟨.op (.fa 2 (.t 1)), (some 26), none⟩, .n, []⟩, ⟨⟨.op (.st 1 (.t 26) (.t 25)), none, none⟩, .x, []⟩])
 [1, 2]
 (.seq (.reg [⟨.op (.fa 3 (.t 1)), (some 27), none⟩, ⟨.op (.ld1 (.t 27)), (some 28), none⟩, ⟨.op (.cut 1 none (.t 28) (some (.c (.int .i64 1))) none), (some 29), none⟩, ⟨.op (.fa 3 (.t 1)), (some 30), none⟩, ⟨.op (.st 1 (.t 30) (.t 29)), none, none⟩])
 [1, 2]
 (.reg [⟨.op (.fa 1 (.t 1)), (some 31), none⟩, ⟨.op (.ld1 (.t 31)), (some 32), none⟩, ⟨.op (.bin .add 0 (.t 32) (.c (.int .i64 1))), (some 33), none⟩, ⟨.op (.fa 1 (.t 1)), (some 34), none⟩, ⟨.op (.st 1 (.t 34) (.t 33)), none, none⟩]))))) T st := rfl
/-- cardamom/wind.goes -/
noncomputable def c16 : DFn := ⟨36, .own,
 .seq (.reg [⟨.op (.box (.t 0)), (some 1), none⟩, ⟨.op (.new [(.int .i64 0), (.int .i64 0), (.sl none 0), (.sl none 0)]), (some 2), none⟩])
 [1, 2]
 (.seq (.block 0 (.loop [1, 2] (l16_0)))
 [1, 2]
 (.seq (.reg [⟨.op (.ldn 4 (.t 1)), (some 35), none⟩, ⟨.op (.st 4 (.t 2) (.t 35)), none, none⟩])
 [2]
 (.ret))),
 [.celln 4 2]⟩
theorem k16 : cFn Try.prog 16 = some c16.toE := by kernel_rfl
theorem w16 : c16.body.wf = true := by kernel_rfl
/-- cardamom/cardamomref20.NewWind -/
noncomputable def c9 : DFn := ⟨2, .pure,
 .seq (.reg [⟨.op (.new [(.int .i64 0), (.int .i64 0), (.sl none 0), (.sl none 0)]), (some 0), none⟩])
 [0]
 (.seq (.reg [⟨.op (.build [(.int .i64 0), (.int .i64 0), (.sl none 0), (.sl none 0)] [(0, 1, (.c (.int .i64 1))), (1, 1, (.c (.int .i64 1)))]), (some 1), none⟩, ⟨.op (.st 4 (.t 0) (.t 1)), none, none⟩])
 [0]
 (.ret)),
 [.celln 4 0]⟩
theorem k9 : cFn Try.prog 9 = some c9.toE := by kernel_rfl
theorem w9 : c9.body.wf = true := by kernel_rfl
/-- cardamom/cardamomref20.Send -/
noncomputable def c11 : DFn := ⟨15, .pure,
 .seq (.reg [⟨.op (.box (.t 0)), (some 2), none⟩, ⟨.op (.new [(.int .i64 0), (.int .i64 0), (.sl none 0), (.sl none 0)]), (some 4), none⟩])
 [1, 2, 4]
 (.seq (.reg [⟨.op (.bslice 1 0 [] []), (some 5), none⟩, ⟨.op (.fa 3 (.t 2)), (some 6), none⟩, ⟨.op (.ld1 (.t 6)), (some 7), none⟩, ⟨.op (.app 1 16 false (.t 5) (.t 7)), (some 8), none⟩, ⟨.op (.mv (.t 1)), (some 9), none⟩, ⟨.op (.bslice 1 1 [(.str [])] [(0, 1, (.t 9))]), (some 10), none⟩, ⟨.op (.app 1 16 false (.t 8) (.t 10)), (some 11), none⟩, ⟨.op (.fa 3 (.t 2)), (some 12), none⟩, ⟨.op (.st 1 (.t 12) (.t 11)), none, none⟩])
 [2, 4]
 (.seq (.reg [⟨.op (.ldn 4 (.t 2)), (some 13), none⟩, ⟨.call 17 [(.t 13)], (some 14), none⟩, ⟨.op (.st 4 (.t 4) (.t 14)), none, none⟩])
 [4]
 (.ret))),
 [.celln 4 4]⟩
theorem k11 : cFn Try.prog 11 = some c11.toE := by kernel_rfl
theorem w11 : c11.body.wf = true := by kernel_rfl
noncomputable def l13_0 : DC :=
 .seq (.seq (.reg [⟨.op (.mv (.t 6)), (some 18), none⟩, ⟨.op (.fa 2 (.t 2)), (some 19), none⟩, ⟨.op (.ld1 (.t 19)), (some 20), none⟩, ⟨.op (.len (.t 20)), (some 21), none⟩, ⟨.op (.bin .lss 0 (.t 18) (.t 21)), (some 22), none⟩])
 [1, 2, 4, 5, 6, 22]
 (.cond (.t 22) (.skip) (.exit 0)))
 [1, 2, 4, 5, 6]
 (.seq (.block 1 (.seq (.reg [⟨.op (.fa 2 (.t 2)), (some 25), none⟩, ⟨.op (.ld1 (.t 25)), (some 26), none⟩, ⟨.op (.mv (.t 6)), (some 27), none⟩, ⟨.op (.ia 2 none (.t 26) (.t 27)), (some 28), none⟩, ⟨.op (.fa 0 (.t 28)), (some 29), none⟩, ⟨.op (.ld1 (.t 29)), (some 30), none⟩, ⟨.op (.mv (.t 1)), (some 31), none⟩, ⟨.op (.bin .gtr 0 (.t 30) (.t 31)), (some 32), none⟩])
 [1, 2, 4, 5, 6, 32]
 (.cond (.t 32) (.reg [⟨.op (.mv (.t 5)), (some 33), none⟩, ⟨.op (.fa 2 (.t 2)), (some 34), none⟩, ⟨.op (.ld1 (.t 34)), (some 35), none⟩, ⟨.op (.mv (.t 6)), (some 36), none⟩, ⟨.op (.ia 2 none (.t 35) (.t 36)), (some 37), none⟩, ⟨.op (.ldn 2 (.t 37)), (some 38), none⟩, ⟨.op (.bslice 2 1 [(.int .i64 0), (.str [])] [(0, 2, (.t 38))]), (some 39), none⟩, ⟨.op (.app 2 24 false (.t 33) (.t 39)), (some 40), none⟩, ⟨.op (.mv (.t 40)), (some 5), none⟩]) (.skip))))
 [1, 2, 4, 5, 6]
 (.reg [⟨.op (.mv (.t 6)), (some 23), none⟩, ⟨.op (.bin .add 0 (.t 23) (.c (.int .i64 1))), (some 24), none⟩, ⟨.op (.mv (.t 24)), (some 6), none⟩]))
theorem u13_0 (call : DCall) (T : Tm) (st : Dv.St) : dCw Try.prog call l13_0 T st = dCw Try.prog call
 (.seq (.seq (.reg [⟨.op (.mv (.t 6)), (some 18), none⟩, ⟨.op (.fa 2 (.t 2)), (some 19), none⟩, ⟨.op (.ld1 (.t 19)), (some 20), none⟩, ⟨.op (.len (.t 20)), (some 21), none⟩, ⟨.op (.bin .lss 0 (.t 18) (.t 21)), (some 22), none⟩])
 [1, 2, 4, 5, 6, 22]
 (.cond (.t 22) (.skip) (.exit 0)))
 [1, 2, 4, 5, 6]
 (.seq (.block 1 (.seq (.reg [⟨.op (.fa 2 (.t 2)), (some 25), none⟩, ⟨.op (.ld1 (.t 25)), (some 26), none⟩, ⟨.op (.mv (.t 6)), (some 27), none⟩, ⟨.op (.ia 2 none (.t 26) (.t 27)), (some 28), none⟩, ⟨.op (.fa 0 (.t 28)), (some 29), none⟩, ⟨.op (.ld1 (.t 29)), (some 30), none⟩, ⟨.op (.mv (.t 1)), (some 31), none⟩, ⟨.op (.bin .gtr 0 (.t 30) (.t 31)), (some 32), none⟩])
 [1, 2, 4, 5, 6, 32]
 (.cond (.t 32) (.reg [⟨.op (.mv (.t 5)), (some 33), none⟩, ⟨.op (.fa 2 (.t 2)), (some 34), none⟩, ⟨.op (.ld1 (.t 34)), (some 35), none⟩, ⟨.op (.mv (.t 6)), (some 36), none⟩, ⟨.op (.ia 2 none (.t 35) (.t 36)), (some 37), none⟩, ⟨.op (.ldn 2 (.t 37)), (some 38), none⟩, ⟨.op (.bslice 2 1 [(.int .i64 0), (.str [])] [(0, 2, (.t 38))]), (some 39), none⟩, ⟨.op (.app 2 24 false (.t 33) (.t 39)), (some 40), none⟩, ⟨.op (.mv (.t 40)), (some 5), none⟩]) (.skip))))
 [1, 2, 4, 5, 6]
 (.reg [⟨.op (.mv (.t 6)), (some 23), none⟩, ⟨.op (.bin .add 0 (.t 23) (.c (.int .i64 1))), (some 24), none⟩, ⟨.op (.mv (.t 24)), (some 6), none⟩]))) T st := rfl
/-- cardamom/cardamomref20.Told -/
noncomputable def c13 : DFn := ⟨48, .pure,
 .seq (.reg [⟨.op (.box (.t 0)), (some 2), none⟩, ⟨.op (.new [(.int .i64 0), (.int .i64 0), (.sl none 0), (.sl none 0)]), (some 4), none⟩])
 [1, 2, 4]
 (.seq (.seq (.reg [⟨.op (.mv (.t 1)), (some 7), none⟩, ⟨.op (.fa 0 (.t 2)), (some 8), none⟩, ⟨.op (.ld1 (.t 8)), (some 9), none⟩, ⟨.op (.bin .lss 0 (.t 7) (.t 9)), (some 10), none⟩, ⟨.op (.mv (.t 10)), (some 11), none⟩, ⟨.op (.mv (.t 1)), (some 12), (some (11, false))⟩, ⟨.op (.fa 1 (.t 2)), (some 13), (some (11, false))⟩, ⟨.op (.ld1 (.t 13)), (some 14), (some (11, false))⟩, ⟨.op (.bin .geq 0 (.t 12) (.t 14)), (some 15), (some (11, false))⟩, ⟨.op (.pick (.t 11) (.c (.bool true)) (.t 15)), (some 16), none⟩])
 [1, 2, 4, 16]
 (.cond (.t 16) (.seq (.reg [⟨.op (.ldn 4 (.t 2)), (some 17), none⟩, ⟨.op (.st 4 (.t 4) (.t 17)), none, none⟩])
 [4]
 (.ret)) (.skip)))
 [1, 2, 4]
 (.seq (.reg [⟨.op (.mv (.c (.sl none 0))), (some 5), none⟩])
 [1, 2, 4, 5]
 (.seq (.seq (.reg [⟨.op (.mv (.c (.int .i64 0))), (some 6), none⟩])
 [1, 2, 4, 5, 6]
 (.block 0 (.loop [1, 2, 4, 5, 6] (l13_0))))
 [1, 2, 4, 5]
 (.seq (.reg [⟨.op (.mv (.t 5)), (some 41), none⟩, ⟨.op (.mv (.t 1)), (some 42), none⟩, ⟨.op (.bin .add 0 (.t 42) (.c (.int .i64 1))), (some 43), none⟩, ⟨.op (.fa 2 (.t 2)), (some 44), none⟩, ⟨.op (.st 1 (.t 44) (.t 41)), none, none⟩, ⟨.op (.fa 0 (.t 2)), (some 45), none⟩, ⟨.op (.st 1 (.t 45) (.t 43)), none, none⟩])
 [2, 4]
 (.seq (.reg [⟨.op (.ldn 4 (.t 2)), (some 46), none⟩, ⟨.call 17 [(.t 46)], (some 47), none⟩, ⟨.op (.st 4 (.t 4) (.t 47)), none, none⟩])
 [4]
 (.ret)))))),
 [.celln 4 4]⟩
theorem k13 : cFn Try.prog 13 = some c13.toE := by kernel_rfl
theorem w13 : c13.body.wf = true := by kernel_rfl
noncomputable def l17_0 : DC :=
 .seq (.seq (.reg [⟨.op (.fa 3 (.t 3)), (some 17), none⟩, ⟨.op (.ld1 (.t 17)), (some 18), none⟩, ⟨.op (.len (.t 18)), (some 19), none⟩, ⟨.op (.bin .gtr 0 (.t 19) (.c (.int .i64 0))), (some 20), none⟩, ⟨.op (.mv (.t 20)), (some 21), none⟩, ⟨.op (.fa 1 (.t 3)), (some 22), (some (21, true))⟩, ⟨.op (.ld1 (.t 22)), (some 23), (some (21, true))⟩, ⟨.op (.fa 0 (.t 3)), (some 24), (some (21, true))⟩, ⟨.op (.ld1 (.t 24)), (some 25), (some (21, true))⟩, ⟨.op (.bin .add 0 (.t 25) (.c (.int .i64 4))), (some 26), (some (21, true))⟩, ⟨.op (.bin .lss 0 (.t 23) (.t 26)), (some 27), (some (21, true))⟩, ⟨.op (.pick (.t 21) (.t 27) (.c (.bool false))), (some 28), none⟩])
 [2, 3, 28]
 (.cond (.t 28) (.skip) (.exit 0)))
 [2, 3]
 (.block 1 (.seq (.drw [⟨⟨.op (.fa 2 (.t 3)), (some 29), none⟩, .n, []⟩, ⟨⟨.op (.ld1 (.t 29)), (some 30), none⟩, .n, []⟩, ⟨⟨.op (.fa 1 (.t 3)), (some 31), none⟩, .n, []⟩, ⟨⟨.op (.ld1 (.t 31)), (some 32), none⟩, .n, []⟩, ⟨⟨.op (.fa 3 (.t 3)), (some 33), none⟩, .n, []⟩, ⟨⟨.op (.ld1 (.t 33)), (some 34), none⟩, .n, []⟩, ⟨⟨.op (.ia 1 none (.t 34) (.c (.int .i64 0))), (some 35), none⟩, .n, []⟩, ⟨⟨.op (.ld1 (.t 35)), (some 36), none⟩, .n, []⟩, ⟨⟨.op (.build [(.int .i64 0), (.str [])] [(0, 1, (.t 32)), (1, 1, (.t 36))]), (some 37), none⟩, .n, []⟩, ⟨⟨.op (.bslice 2 1 [(.int .i64 0), (.str [])] [(0, 2, (.t 37))]), (some 38), none⟩, .a, [(true, 7), (true, 5), (true, 3), (true, 1)]⟩, ⟨⟨.op (.app 2 24 false (.t 30) (.t 38)), (some 39), none⟩, .x, []⟩, ⟨⟨.op (.fa 2 (.t 3)), (some 40), none⟩, .n, []⟩, ⟨⟨.op (.st 1 (.t 40) (.t 39)), none, none⟩, .x, []⟩])
 [2, 3]
 (.drw [⟨⟨.op (.fa 1 (.t 3)), (some 41), none⟩, .n, []⟩, ⟨⟨.op (.ld1 (.t 41)), (some 42), none⟩, .n, []⟩, ⟨⟨.op (.bin .add 0 (.t 42) (.c (.int .i64 1))), (some 43), none⟩, .n, []⟩, ⟨⟨.op (.fa 3 (.t 3)), (some 44), none⟩, .n, []⟩, ⟨⟨.op (.ld1 (.t 44)), (some 45), none⟩, .n, []⟩, ⟨⟨.op (.cut 1 none (.t 45) (some (.c (.int .i64 1))) none), (some 46), none⟩, .n, []⟩, ⟨⟨.op (.fa 1 (.t 3)), (some 47), none⟩, .n, []⟩, ⟨⟨.op (.st 1 (.t 47) (.t 43)), none, none⟩, .x, [(true, 5)]⟩, ⟨⟨.op (.fa 3 (.t 3)), (some 48), none⟩, .n, []⟩, ⟨⟨.op (.st 1 (.t 48) (.t 46)), none, none⟩, .x, []⟩])))
theorem u17_0 (call : DCall) (T : Tm) (st : Dv.St) : dCw Try.prog call l17_0 T st = dCw Try.prog call
 (.seq (.seq (.reg [⟨.op (.fa 3 (.t 3)), (some 17), none⟩, ⟨.op (.ld1 (.t 17)), (some 18), none⟩, ⟨.op (.len (.t 18)), (some 19), none⟩, ⟨.op (.bin .gtr 0 (.t 19) (.c (.int .i64 0))), (some 20), none⟩, ⟨.op (.mv (.t 20)), (some 21), none⟩, ⟨.op (.fa 1 (.t 3)), (some 22), (some (21, true))⟩, ⟨.op (.ld1 (.t 22)), (some 23), (some (21, true))⟩, ⟨.op (.fa 0 (.t 3)), (some 24), (some (21, true))⟩, ⟨.op (.ld1 (.t 24)), (some 25), (some (21, true))⟩, ⟨.op (.bin .add 0 (.t 25) (.c (.int .i64 4))), (some 26), (some (21, true))⟩, ⟨.op (.bin .lss 0 (.t 23) (.t 26)), (some 27), (some (21, true))⟩, ⟨.op (.pick (.t 21) (.t 27) (.c (.bool false))), (some 28), none⟩])
 [2, 3, 28]
 (.cond (.t 28) (.skip) (.exit 0)))
 [2, 3]
 (.block 1 (.seq (.drw [⟨⟨.op (.fa 2 (.t 3)), (some 29), none⟩, .n, []⟩, ⟨⟨.op (.ld1 (.t 29)), (some 30), none⟩, .n, []⟩, ⟨⟨.op (.fa 1 (.t 3)), (some 31), none⟩, .n, []⟩, ⟨⟨.op (.ld1 (.t 31)), (some 32), none⟩, .n, []⟩, ⟨⟨.op (.fa 3 (.t 3)), (some 33), none⟩, .n, []⟩, ⟨⟨.op (.ld1 (.t 33)), (some 34), none⟩, .n, []⟩, ⟨⟨.op (.ia 1 none (.t 34) (.c (.int .i64 0))), (some 35), none⟩, .n, []⟩, ⟨⟨.op (.ld1 (.t 35)), (some 36), none⟩, .n, []⟩, ⟨⟨.op (.build [(.int .i64 0), (.str [])] [(0, 1, (.t 32)), (1, 1, (.t 36))]), (some 37), none⟩, .n, []⟩, ⟨⟨.op (.bslice 2 1 [(.int .i64 0), (.str [])] [(0, 2, (.t 37))]), (some 38), none⟩, .a, [(true, 7), (true, 5), (true, 3), (true, 1)]⟩, ⟨⟨.op (.app 2 24 false (.t 30) (.t 38)), (some 39), none⟩, .x, []⟩, ⟨⟨.op (.fa 2 (.t 3)), (some 40), none⟩, .n, []⟩, ⟨⟨.op (.st 1 (.t 40) (.t 39)), none, none⟩, .x, []⟩])
 [2, 3]
 (.drw [⟨⟨.op (.fa 1 (.t 3)), (some 41), none⟩, .n, []⟩, ⟨⟨.op (.ld1 (.t 41)), (some 42), none⟩, .n, []⟩, ⟨⟨.op (.bin .add 0 (.t 42) (.c (.int .i64 1))), (some 43), none⟩, .n, []⟩, ⟨⟨.op (.fa 3 (.t 3)), (some 44), none⟩, .n, []⟩, ⟨⟨.op (.ld1 (.t 44)), (some 45), none⟩, .n, []⟩, ⟨⟨.op (.cut 1 none (.t 45) (some (.c (.int .i64 1))) none), (some 46), none⟩, .n, []⟩, ⟨⟨.op (.fa 1 (.t 3)), (some 47), none⟩, .n, []⟩, ⟨⟨.op (.st 1 (.t 47) (.t 43)), none, none⟩, .x, [(true, 5)]⟩, ⟨⟨.op (.fa 3 (.t 3)), (some 48), none⟩, .n, []⟩, ⟨⟨.op (.st 1 (.t 48) (.t 46)), none, none⟩, .x, []⟩])))) T st := rfl
/-- cardamom/cardamomref20.goes -/
noncomputable def c17 : DFn := ⟨50, .pure,
 .seq (.reg [⟨.op (.box (.t 0)), (some 1), none⟩, ⟨.op (.new [(.int .i64 0), (.int .i64 0), (.sl none 0), (.sl none 0)]), (some 2), none⟩])
 [1, 2]
 (.seq (.drw [⟨⟨.op (.fa 0 (.t 1)), (some 4), none⟩, .n, []⟩, ⟨⟨.op (.ld1 (.t 4)), (some 5), none⟩, .n, []⟩, ⟨⟨.op (.fa 1 (.t 1)), (some 6), none⟩, .n, []⟩, ⟨⟨.op (.ld1 (.t 6)), (some 7), none⟩, .n, []⟩, ⟨⟨.op (.bslice 2 0 [] []), (some 8), none⟩, .a, [(true, 3), (true, 1)]⟩, ⟨⟨.op (.fa 2 (.t 1)), (some 9), none⟩, .n, []⟩, ⟨⟨.op (.ld1 (.t 9)), (some 10), none⟩, .n, []⟩, ⟨⟨.op (.bslice 1 0 [] []), (some 12), none⟩, .a, [(true, 6), (true, 3), (true, 1)]⟩, ⟨⟨.op (.fa 3 (.t 1)), (some 13), none⟩, .n, []⟩, ⟨⟨.op (.ld1 (.t 13)), (some 14), none⟩, .n, []⟩, ⟨⟨.op (.new [(.int .i64 0), (.int .i64 0), (.sl none 0), (.sl none 0)]), (some 3), none⟩, .a, [(true, 9), (true, 6), (true, 3), (true, 1)]⟩, ⟨⟨.op (.app 2 24 false (.t 8) (.t 10)), (some 11), none⟩, .x, [(false, 10), (true, 9), (false, 7), (true, 3), (true, 1)]⟩, ⟨⟨.op (.app 1 16 false (.t 12) (.t 14)), (some 15), none⟩, .x, [(false, 10), (true, 3), (true, 1)]⟩, ⟨⟨.op (.build [(.int .i64 0), (.int .i64 0), (.sl none 0), (.sl none 0)] [(0, 1, (.t 5)), (1, 1, (.t 7)), (2, 1, (.t 11)), (3, 1, (.t 15))]), (some 16), none⟩, .n, []⟩, ⟨⟨.op (.st 4 (.t 3) (.t 16)), none, none⟩, .x, []⟩])
 [2, 3]
 (.seq (.block 0 (.loop [2, 3] (l17_0)))
 [2, 3]
 (.seq (.reg [⟨.op (.ldn 4 (.t 3)), (some 49), none⟩, ⟨.op (.st 4 (.t 2) (.t 49)), none, none⟩])
 [2]
 (.ret)))),
 [.celln 4 2]⟩
theorem k17 : cFn Try.prog 17 = some c17.toE := by kernel_rfl
theorem w17 : c17.body.wf = true := by kernel_rfl
noncomputable def l14_0 : DC :=
 .seq (.seq (.reg [⟨.op (.mv (.t 5)), (some 27), none⟩, ⟨.op (.fa 3 (.t 2)), (some 28), none⟩, ⟨.op (.ld1 (.t 28)), (some 29), none⟩, ⟨.op (.len (.t 29)), (some 30), none⟩, ⟨.op (.bin .lss 0 (.t 27) (.t 30)), (some 31), none⟩])
 [2, 3, 5, 31]
 (.cond (.t 31) (.skip) (.exit 0)))
 [2, 3, 5]
 (.seq (.block 1 (.seq (.drw [⟨⟨.op (.fa 3 (.t 2)), (some 34), none⟩, .n, []⟩, ⟨⟨.op (.ld1 (.t 34)), (some 35), none⟩, .n, []⟩, ⟨⟨.op (.mv (.t 5)), (some 36), none⟩, .n, []⟩, ⟨⟨.op (.ia 1 none (.t 35) (.t 36)), (some 37), none⟩, .n, []⟩, ⟨⟨.op (.ld1 (.t 37)), (some 38), none⟩, .n, []⟩, ⟨⟨.op (.fa 3 (.t 3)), (some 39), none⟩, .n, []⟩, ⟨⟨.op (.ld1 (.t 39)), (some 40), none⟩, .n, []⟩, ⟨⟨.op (.mv (.t 5)), (some 41), none⟩, .n, []⟩, ⟨⟨.op (.ia 1 none (.t 40) (.t 41)), (some 42), none⟩, .n, []⟩, ⟨⟨.op (.ld1 (.t 42)), (some 43), none⟩, .n, []⟩, ⟨⟨.op (.bin .neq 0 (.t 38) (.t 43)), (some 44), none⟩, .n, []⟩])
 [2, 3, 5, 44]
 (.cond (.t 44) (.seq (.reg [⟨.op (.mv (.c (.bool false))), (some 4), none⟩])
 [4]
 (.ret)) (.skip))))
 [2, 3, 5]
 (.reg [⟨.op (.mv (.t 5)), (some 32), none⟩, ⟨.op (.bin .add 0 (.t 32) (.c (.int .i64 1))), (some 33), none⟩, ⟨.op (.mv (.t 33)), (some 5), none⟩]))
theorem u14_0 (call : DCall) (T : Tm) (st : Dv.St) : dCw Try.prog call l14_0 T st = dCw Try.prog call
 (.seq (.seq (.reg [⟨.op (.mv (.t 5)), (some 27), none⟩, ⟨.op (.fa 3 (.t 2)), (some 28), none⟩, ⟨.op (.ld1 (.t 28)), (some 29), none⟩, ⟨.op (.len (.t 29)), (some 30), none⟩, ⟨.op (.bin .lss 0 (.t 27) (.t 30)), (some 31), none⟩])
 [2, 3, 5, 31]
 (.cond (.t 31) (.skip) (.exit 0)))
 [2, 3, 5]
 (.seq (.block 1 (.seq (.drw [⟨⟨.op (.fa 3 (.t 2)), (some 34), none⟩, .n, []⟩, ⟨⟨.op (.ld1 (.t 34)), (some 35), none⟩, .n, []⟩, ⟨⟨.op (.mv (.t 5)), (some 36), none⟩, .n, []⟩, ⟨⟨.op (.ia 1 none (.t 35) (.t 36)), (some 37), none⟩, .n, []⟩, ⟨⟨.op (.ld1 (.t 37)), (some 38), none⟩, .n, []⟩, ⟨⟨.op (.fa 3 (.t 3)), (some 39), none⟩, .n, []⟩, ⟨⟨.op (.ld1 (.t 39)), (some 40), none⟩, .n, []⟩, ⟨⟨.op (.mv (.t 5)), (some 41), none⟩, .n, []⟩, ⟨⟨.op (.ia 1 none (.t 40) (.t 41)), (some 42), none⟩, .n, []⟩, ⟨⟨.op (.ld1 (.t 42)), (some 43), none⟩, .n, []⟩, ⟨⟨.op (.bin .neq 0 (.t 38) (.t 43)), (some 44), none⟩, .n, []⟩])
 [2, 3, 5, 44]
 (.cond (.t 44) (.seq (.reg [⟨.op (.mv (.c (.bool false))), (some 4), none⟩])
 [4]
 (.ret)) (.skip))))
 [2, 3, 5]
 (.reg [⟨.op (.mv (.t 5)), (some 32), none⟩, ⟨.op (.bin .add 0 (.t 32) (.c (.int .i64 1))), (some 33), none⟩, ⟨.op (.mv (.t 33)), (some 5), none⟩]))) T st := rfl
/-- cardamom/cardamomref20.SameWind -/
noncomputable def c14 : DFn := ⟨50, .pure,
 .seq (.reg [⟨.op (.box (.t 0)), (some 2), none⟩, ⟨.op (.box (.t 1)), (some 3), none⟩, ⟨.op (.mv (.c (.bool false))), (some 4), none⟩])
 [2, 3]
 (.seq (.seq (.reg [⟨.op (.fa 0 (.t 2)), (some 6), none⟩, ⟨.op (.ld1 (.t 6)), (some 7), none⟩, ⟨.op (.fa 0 (.t 3)), (some 8), none⟩, ⟨.op (.ld1 (.t 8)), (some 9), none⟩, ⟨.op (.bin .neq 0 (.t 7) (.t 9)), (some 10), none⟩, ⟨.op (.mv (.t 10)), (some 11), none⟩, ⟨.op (.fa 1 (.t 2)), (some 12), (some (11, false))⟩, ⟨.op (.ld1 (.t 12)), (some 13), (some (11, false))⟩, ⟨.op (.fa 1 (.t 3)), (some 14), (some (11, false))⟩, ⟨.op (.ld1 (.t 14)), (some 15), (some (11, false))⟩, ⟨.op (.bin .neq 0 (.t 13) (.t 15)), (some 16), (some (11, false))⟩, ⟨.op (.pick (.t 11) (.c (.bool true)) (.t 16)), (some 17), none⟩, ⟨.op (.mv (.t 17)), (some 18), none⟩, ⟨.op (.fa 3 (.t 2)), (some 19), (some (18, false))⟩, ⟨.op (.ld1 (.t 19)), (some 20), (some (18, false))⟩, ⟨.op (.len (.t 20)), (some 21), (some (18, false))⟩, ⟨.op (.fa 3 (.t 3)), (some 22), (some (18, false))⟩, ⟨.op (.ld1 (.t 22)), (some 23), (some (18, false))⟩, ⟨.op (.len (.t 23)), (some 24), (some (18, false))⟩, ⟨.op (.bin .neq 0 (.t 21) (.t 24)), (some 25), (some (18, false))⟩, ⟨.op (.pick (.t 18) (.c (.bool true)) (.t 25)), (some 26), none⟩])
 [2, 3, 26]
 (.cond (.t 26) (.seq (.reg [⟨.op (.mv (.c (.bool false))), (some 4), none⟩])
 [4]
 (.ret)) (.skip)))
 [2, 3]
 (.seq (.seq (.reg [⟨.op (.mv (.c (.int .i64 0))), (some 5), none⟩])
 [2, 3, 5]
 (.block 0 (.loop [2, 3, 5] (l14_0))))
 [2, 3]
 (.seq (.reg [⟨.op (.fa 2 (.t 2)), (some 45), none⟩, ⟨.op (.ld1 (.t 45)), (some 46), none⟩, ⟨.op (.fa 2 (.t 3)), (some 47), none⟩, ⟨.op (.ld1 (.t 47)), (some 48), none⟩, ⟨.call 20 [(.t 46), (.t 48)], (some 49), none⟩, ⟨.op (.mv (.t 49)), (some 4), none⟩])
 [4]
 (.ret)))),
 [.tmp 4]⟩
theorem k14 : cFn Try.prog 14 = some c14.toE := by kernel_rfl
theorem w14 : c14.body.wf = true := by kernel_rfl
noncomputable def l20_0 : DC :=
 .seq (.seq (.reg [⟨.op (.mv (.t 5)), (some 11), none⟩, ⟨.op (.mv (.t 0)), (some 12), none⟩, ⟨.op (.len (.t 12)), (some 13), none⟩, ⟨.op (.bin .lss 0 (.t 11) (.t 13)), (some 14), none⟩])
 [0, 1, 5, 14]
 (.cond (.t 14) (.skip) (.exit 0)))
 [0, 1, 5]
 (.seq (.block 1 (.seq (.drw [⟨⟨.op (.mv (.t 0)), (some 17), none⟩, .n, []⟩, ⟨⟨.op (.mv (.t 5)), (some 18), none⟩, .n, []⟩, ⟨⟨.op (.ia 2 none (.t 17) (.t 18)), (some 19), none⟩, .n, []⟩, ⟨⟨.op (.ldn 2 (.t 19)), (some 20), none⟩, .n, []⟩, ⟨⟨.op (.mv (.t 1)), (some 21), none⟩, .n, []⟩, ⟨⟨.op (.mv (.t 5)), (some 22), none⟩, .n, []⟩, ⟨⟨.op (.ia 2 none (.t 21) (.t 22)), (some 23), none⟩, .n, []⟩, ⟨⟨.op (.ldn 2 (.t 23)), (some 24), none⟩, .n, []⟩, ⟨⟨.op (.slow (operAt Try.prog 20 20)), (some 25), none⟩, .n, []⟩])
 [0, 1, 5, 25]
 (.cond (.t 25) (.seq (.reg [⟨.op (.mv (.c (.bool false))), (some 4), none⟩])
 [4]
 (.ret)) (.skip))))
 [0, 1, 5]
 (.reg [⟨.op (.mv (.t 5)), (some 15), none⟩, ⟨.op (.bin .add 0 (.t 15) (.c (.int .i64 1))), (some 16), none⟩, ⟨.op (.mv (.t 16)), (some 5), none⟩]))
theorem u20_0 (call : DCall) (T : Tm) (st : Dv.St) : dCw Try.prog call l20_0 T st = dCw Try.prog call
 (.seq (.seq (.reg [⟨.op (.mv (.t 5)), (some 11), none⟩, ⟨.op (.mv (.t 0)), (some 12), none⟩, ⟨.op (.len (.t 12)), (some 13), none⟩, ⟨.op (.bin .lss 0 (.t 11) (.t 13)), (some 14), none⟩])
 [0, 1, 5, 14]
 (.cond (.t 14) (.skip) (.exit 0)))
 [0, 1, 5]
 (.seq (.block 1 (.seq (.drw [⟨⟨.op (.mv (.t 0)), (some 17), none⟩, .n, []⟩, ⟨⟨.op (.mv (.t 5)), (some 18), none⟩, .n, []⟩, ⟨⟨.op (.ia 2 none (.t 17) (.t 18)), (some 19), none⟩, .n, []⟩, ⟨⟨.op (.ldn 2 (.t 19)), (some 20), none⟩, .n, []⟩, ⟨⟨.op (.mv (.t 1)), (some 21), none⟩, .n, []⟩, ⟨⟨.op (.mv (.t 5)), (some 22), none⟩, .n, []⟩, ⟨⟨.op (.ia 2 none (.t 21) (.t 22)), (some 23), none⟩, .n, []⟩, ⟨⟨.op (.ldn 2 (.t 23)), (some 24), none⟩, .n, []⟩, ⟨⟨.op (.slow (operAt Try.prog 20 20)), (some 25), none⟩, .n, []⟩])
 [0, 1, 5, 25]
 (.cond (.t 25) (.seq (.reg [⟨.op (.mv (.c (.bool false))), (some 4), none⟩])
 [4]
 (.ret)) (.skip))))
 [0, 1, 5]
 (.reg [⟨.op (.mv (.t 5)), (some 15), none⟩, ⟨.op (.bin .add 0 (.t 15) (.c (.int .i64 1))), (some 16), none⟩, ⟨.op (.mv (.t 16)), (some 5), none⟩]))) T st := rfl
/-- cardamom/cardamomref20.SameSegs -/
noncomputable def c20 : DFn := ⟨26, .pure,
 .seq (.reg [⟨.op (.mv (.c (.bool false))), (some 4), none⟩])
 [0, 1]
 (.seq (.seq (.reg [⟨.op (.mv (.t 0)), (some 6), none⟩, ⟨.op (.len (.t 6)), (some 7), none⟩, ⟨.op (.mv (.t 1)), (some 8), none⟩, ⟨.op (.len (.t 8)), (some 9), none⟩, ⟨.op (.bin .neq 0 (.t 7) (.t 9)), (some 10), none⟩])
 [0, 1, 10]
 (.cond (.t 10) (.seq (.reg [⟨.op (.mv (.c (.bool false))), (some 4), none⟩])
 [4]
 (.ret)) (.skip)))
 [0, 1]
 (.seq (.seq (.reg [⟨.op (.mv (.c (.int .i64 0))), (some 5), none⟩])
 [0, 1, 5]
 (.block 0 (.loop [0, 1, 5] (l20_0))))
 []
 (.seq (.reg [⟨.op (.mv (.c (.bool true))), (some 4), none⟩])
 [4]
 (.ret)))),
 [.tmp 4]⟩
theorem k20 : cFn Try.prog 20 = some c20.toE := by kernel_rfl
theorem w20 : c20.body.wf = true := by kernel_rfl
noncomputable def l18_0 : DC :=
 .seq (.seq (.reg [⟨.op (.mv (.t 6)), (some 16), none⟩, ⟨.op (.mv (.t 0)), (some 17), none⟩, ⟨.op (.len (.t 17)), (some 18), none⟩, ⟨.op (.bin .lss 0 (.t 16) (.t 18)), (some 19), none⟩])
 [0, 1, 5, 6, 19]
 (.cond (.t 19) (.skip) (.exit 0)))
 [0, 1, 5, 6]
 (.seq (.block 1 (.seq (.reg [⟨.op (.mv (.t 0)), (some 22), none⟩, ⟨.op (.mv (.t 6)), (some 23), none⟩, ⟨.op (.ia 2 none (.t 22) (.t 23)), (some 24), none⟩, ⟨.op (.ldn 2 (.t 24)), (some 25), none⟩, ⟨.op (.new [(.int .i64 0), (.str [])]), (some 7), none⟩, ⟨.op (.st 2 (.t 7) (.t 25)), none, none⟩])
 [0, 1, 5, 6, 7]
 (.seq (.reg [⟨.op (.mv (.t 1)), (some 26), none⟩, ⟨.op (.ldn 2 (.t 7)), (some 27), none⟩, ⟨.callv (.t 26) [(.t 27)], (some 28), none⟩, ⟨.op (.not (.t 28)), (some 29), none⟩])
 [0, 1, 5, 6, 7, 29]
 (.cond (.t 29) (.seq (.reg [⟨.op (.mv (.t 0)), (some 30), none⟩, ⟨.op (.mv (.t 5)), (some 31), none⟩, ⟨.op (.ldn 2 (.t 7)), (some 32), none⟩, ⟨.op (.ia 2 none (.t 30) (.t 31)), (some 33), none⟩, ⟨.op (.st 2 (.t 33) (.t 32)), none, none⟩])
 [0, 1, 5, 6]
 (.reg [⟨.op (.mv (.t 5)), (some 34), none⟩, ⟨.op (.bin .add 0 (.t 34) (.c (.int .i64 1))), (some 35), none⟩, ⟨.op (.mv (.t 35)), (some 5), none⟩])) (.skip)))))
 [0, 1, 5, 6]
 (.reg [⟨.op (.mv (.t 6)), (some 20), none⟩, ⟨.op (.bin .add 0 (.t 20) (.c (.int .i64 1))), (some 21), none⟩, ⟨.op (.mv (.t 21)), (some 6), none⟩]))
theorem u18_0 (call : DCall) (T : Tm) (st : Dv.St) : dCw Try.prog call l18_0 T st = dCw Try.prog call
 (.seq (.seq (.reg [⟨.op (.mv (.t 6)), (some 16), none⟩, ⟨.op (.mv (.t 0)), (some 17), none⟩, ⟨.op (.len (.t 17)), (some 18), none⟩, ⟨.op (.bin .lss 0 (.t 16) (.t 18)), (some 19), none⟩])
 [0, 1, 5, 6, 19]
 (.cond (.t 19) (.skip) (.exit 0)))
 [0, 1, 5, 6]
 (.seq (.block 1 (.seq (.reg [⟨.op (.mv (.t 0)), (some 22), none⟩, ⟨.op (.mv (.t 6)), (some 23), none⟩, ⟨.op (.ia 2 none (.t 22) (.t 23)), (some 24), none⟩, ⟨.op (.ldn 2 (.t 24)), (some 25), none⟩, ⟨.op (.new [(.int .i64 0), (.str [])]), (some 7), none⟩, ⟨.op (.st 2 (.t 7) (.t 25)), none, none⟩])
 [0, 1, 5, 6, 7]
 (.seq (.reg [⟨.op (.mv (.t 1)), (some 26), none⟩, ⟨.op (.ldn 2 (.t 7)), (some 27), none⟩, ⟨.callv (.t 26) [(.t 27)], (some 28), none⟩, ⟨.op (.not (.t 28)), (some 29), none⟩])
 [0, 1, 5, 6, 7, 29]
 (.cond (.t 29) (.seq (.reg [⟨.op (.mv (.t 0)), (some 30), none⟩, ⟨.op (.mv (.t 5)), (some 31), none⟩, ⟨.op (.ldn 2 (.t 7)), (some 32), none⟩, ⟨.op (.ia 2 none (.t 30) (.t 31)), (some 33), none⟩, ⟨.op (.st 2 (.t 33) (.t 32)), none, none⟩])
 [0, 1, 5, 6]
 (.reg [⟨.op (.mv (.t 5)), (some 34), none⟩, ⟨.op (.bin .add 0 (.t 34) (.c (.int .i64 1))), (some 35), none⟩, ⟨.op (.mv (.t 35)), (some 5), none⟩])) (.skip)))))
 [0, 1, 5, 6]
 (.reg [⟨.op (.mv (.t 6)), (some 20), none⟩, ⟨.op (.bin .add 0 (.t 20) (.c (.int .i64 1))), (some 21), none⟩, ⟨.op (.mv (.t 21)), (some 6), none⟩]))) T st := rfl
/-- slices.DeleteFunc[[]cardamom/api.Seg,cardamom/api.Seg] -/
noncomputable def c18 : DFn := ⟨42, .own,
 .seq (.reg [⟨.op (.mv (.c (.sl none 0))), (some 4), none⟩])
 [0, 1]
 (.seq (.reg [⟨.op (.mv (.t 0)), (some 8), none⟩, ⟨.op (.mv (.t 1)), (some 9), none⟩, ⟨.call 23 [(.t 8), (.t 9)], (some 10), none⟩, ⟨.op (.mv (.t 10)), (some 5), none⟩])
 [0, 1, 5]
 (.seq (.seq (.reg [⟨.op (.mv (.t 5)), (some 11), none⟩, ⟨.op (.bin .eql 0 (.t 11) (.c (.int .i64 (-1)))), (some 12), none⟩])
 [0, 1, 5, 12]
 (.cond (.t 12) (.seq (.reg [⟨.op (.mv (.t 0)), (some 13), none⟩, ⟨.op (.mv (.t 13)), (some 4), none⟩])
 [4]
 (.ret)) (.skip)))
 [0, 1, 5]
 (.seq (.seq (.reg [⟨.op (.mv (.t 5)), (some 14), none⟩, ⟨.op (.bin .add 0 (.t 14) (.c (.int .i64 1))), (some 15), none⟩, ⟨.op (.mv (.t 15)), (some 6), none⟩])
 [0, 1, 5, 6]
 (.block 0 (.loop [0, 1, 5, 6] (l18_0))))
 [0, 5]
 (.seq (.reg [⟨.op (.mv (.t 0)), (some 36), none⟩, ⟨.op (.mv (.t 5)), (some 37), none⟩, ⟨.op (.cut 2 none (.t 36) (some (.t 37)) none), (some 38), none⟩, ⟨.op (.clr 2 [(.int .i64 0), (.str [])] (.t 38)), none, none⟩])
 [0, 5]
 (.seq (.reg [⟨.op (.mv (.t 0)), (some 39), none⟩, ⟨.op (.mv (.t 5)), (some 40), none⟩, ⟨.op (.cut 2 none (.t 39) none (some (.t 40))), (some 41), none⟩, ⟨.op (.mv (.t 41)), (some 4), none⟩])
 [4]
 (.ret)))))),
 [.tmp 4]⟩
theorem k18 : cFn Try.prog 18 = some c18.toE := by kernel_rfl
theorem w18 : c18.body.wf = true := by kernel_rfl
noncomputable def l23_0 : DC :=
 .seq (.reg [⟨.op (.bin .lss 0 (.t 8) (.t 7)), (some 9), none⟩])
 [0, 1, 7, 8, 9]
 (.seq (.cond (.t 9) (.skip) (.exit 0))
 [0, 1, 7, 8]
 (.seq (.block 1 (.seq (.reg [⟨.op (.mv (.t 8)), (some 10), none⟩, ⟨.op (.mv (.t 10)), (some 5), none⟩])
 [0, 1, 5, 7, 8]
 (.seq (.reg [⟨.op (.mv (.t 1)), (some 11), none⟩, ⟨.op (.mv (.t 0)), (some 12), none⟩, ⟨.op (.mv (.t 5)), (some 13), none⟩, ⟨.op (.ia 2 none (.t 12) (.t 13)), (some 14), none⟩, ⟨.op (.ldn 2 (.t 14)), (some 15), none⟩, ⟨.callv (.t 11) [(.t 15)], (some 16), none⟩])
 [0, 1, 5, 7, 8, 16]
 (.cond (.t 16) (.seq (.reg [⟨.op (.mv (.t 5)), (some 17), none⟩, ⟨.op (.mv (.t 17)), (some 4), none⟩])
 [4]
 (.ret)) (.skip)))))
 [0, 1, 7, 8]
 (.reg [⟨.op (.bin .add 0 (.t 8) (.c (.int .i64 1))), (some 18), none⟩, ⟨.op (.mv (.t 18)), (some 8), none⟩])))
theorem u23_0 (call : DCall) (T : Tm) (st : Dv.St) : dCw Try.prog call l23_0 T st = dCw Try.prog call
 (.seq (.reg [⟨.op (.bin .lss 0 (.t 8) (.t 7)), (some 9), none⟩])
 [0, 1, 7, 8, 9]
 (.seq (.cond (.t 9) (.skip) (.exit 0))
 [0, 1, 7, 8]
 (.seq (.block 1 (.seq (.reg [⟨.op (.mv (.t 8)), (some 10), none⟩, ⟨.op (.mv (.t 10)), (some 5), none⟩])
 [0, 1, 5, 7, 8]
 (.seq (.reg [⟨.op (.mv (.t 1)), (some 11), none⟩, ⟨.op (.mv (.t 0)), (some 12), none⟩, ⟨.op (.mv (.t 5)), (some 13), none⟩, ⟨.op (.ia 2 none (.t 12) (.t 13)), (some 14), none⟩, ⟨.op (.ldn 2 (.t 14)), (some 15), none⟩, ⟨.callv (.t 11) [(.t 15)], (some 16), none⟩])
 [0, 1, 5, 7, 8, 16]
 (.cond (.t 16) (.seq (.reg [⟨.op (.mv (.t 5)), (some 17), none⟩, ⟨.op (.mv (.t 17)), (some 4), none⟩])
 [4]
 (.ret)) (.skip)))))
 [0, 1, 7, 8]
 (.reg [⟨.op (.bin .add 0 (.t 8) (.c (.int .i64 1))), (some 18), none⟩, ⟨.op (.mv (.t 18)), (some 8), none⟩])))) T st := rfl
/-- slices.IndexFunc[[]cardamom/api.Seg,cardamom/api.Seg] -/
noncomputable def c23 : DFn := ⟨19, .pure,
 .seq (.reg [⟨.op (.mv (.c (.int .i64 0))), (some 4), none⟩])
 [0, 1]
 (.seq (.seq (.reg [⟨.op (.mv (.t 0)), (some 6), none⟩, ⟨.op (.len (.t 6)), (some 7), none⟩, ⟨.op (.mv (.c (.int .i64 0))), (some 8), none⟩])
 [0, 1, 7, 8]
 (.block 0 (.loop [0, 1, 7, 8] (l23_0))))
 []
 (.seq (.reg [⟨.op (.mv (.c (.int .i64 (-1)))), (some 4), none⟩])
 [4]
 (.ret))),
 [.tmp 4]⟩
theorem k23 : cFn Try.prog 23 = some c23.toE := by kernel_rfl
theorem w23 : c23.body.wf = true := by kernel_rfl
/-- slices.Clone[[]cardamom/api.Seg,cardamom/api.Seg] -/
noncomputable def c21 : DFn := ⟨8, .pure,
 .seq (.reg [⟨.op (.mv (.c (.sl none 0))), (some 2), none⟩])
 [0]
 (.seq (.seq (.reg [⟨.op (.mv (.t 0)), (some 3), none⟩, ⟨.op (.bin .eql 1 (.t 3) (.c (.sl none 0))), (some 4), none⟩])
 [0, 4]
 (.cond (.t 4) (.seq (.reg [⟨.op (.mv (.c (.sl none 0))), (some 2), none⟩])
 [2]
 (.ret)) (.skip)))
 [0]
 (.seq (.reg [⟨.op (.bslice 2 0 [] []), (some 5), none⟩, ⟨.op (.mv (.t 0)), (some 6), none⟩, ⟨.op (.app 2 24 false (.t 5) (.t 6)), (some 7), none⟩, ⟨.op (.mv (.t 7)), (some 2), none⟩])
 [2]
 (.ret))),
 [.tmp 2]⟩
theorem k21 : cFn Try.prog 21 = some c21.toE := by kernel_rfl
theorem w21 : c21.body.wf = true := by kernel_rfl
/-- slices.Clone[[]string,string] -/
noncomputable def c22 : DFn := ⟨8, .pure,
 .seq (.reg [⟨.op (.mv (.c (.sl none 0))), (some 2), none⟩])
 [0]
 (.seq (.seq (.reg [⟨.op (.mv (.t 0)), (some 3), none⟩, ⟨.op (.bin .eql 1 (.t 3) (.c (.sl none 0))), (some 4), none⟩])
 [0, 4]
 (.cond (.t 4) (.seq (.reg [⟨.op (.mv (.c (.sl none 0))), (some 2), none⟩])
 [2]
 (.ret)) (.skip)))
 [0]
 (.seq (.reg [⟨.op (.bslice 1 0 [] []), (some 5), none⟩, ⟨.op (.mv (.t 0)), (some 6), none⟩, ⟨.op (.app 1 16 false (.t 5) (.t 6)), (some 7), none⟩, ⟨.op (.mv (.t 7)), (some 2), none⟩])
 [2]
 (.ret))),
 [.tmp 2]⟩
theorem k22 : cFn Try.prog 22 = some c22.toE := by kernel_rfl
theorem w22 : c22.body.wf = true := by kernel_rfl
noncomputable def l3_0 : DC :=
 .seq (.seq (.reg [⟨.op (.mv (.t 8)), (some 11), none⟩, ⟨.op (.bin .lss 0 (.t 11) (.c (.int .i64 20))), (some 12), none⟩])
 [3, 4, 5, 7, 8, 12]
 (.cond (.t 12) (.skip) (.exit 0)))
 [3, 4, 5, 7, 8]
 (.seq (.block 1 (.drw [⟨⟨.op (.mv (.t 8)), (some 15), none⟩, .n, []⟩, ⟨⟨.op (.mv (.t 8)), (some 16), none⟩, .n, []⟩, ⟨⟨.op (.ia 1 (some 20) (.t 3) (.t 16)), (some 17), none⟩, .n, []⟩, ⟨⟨.op (.ld1 (.t 17)), (some 18), none⟩, .n, []⟩, ⟨⟨.op (.mv (.t 8)), (some 19), none⟩, .n, []⟩, ⟨⟨.op (.ia 1 (some 20) (.t 4) (.t 19)), (some 20), none⟩, .n, []⟩, ⟨⟨.op (.ld1 (.t 20)), (some 21), none⟩, .n, []⟩, ⟨⟨.op (.slow (operAt Try.prog 3 18)), (some 22), none⟩, .n, []⟩, ⟨⟨.op (.mv (.t 8)), (some 23), none⟩, .n, []⟩, ⟨⟨.op (.ia 1 (some 20) (.t 5) (.t 23)), (some 24), none⟩, .n, []⟩, ⟨⟨.op (.ld1 (.t 24)), (some 25), none⟩, .n, []⟩, ⟨⟨.op (.slow (operAt Try.prog 3 22)), (some 26), none⟩, .n, []⟩, ⟨⟨.op (.ia 1 (some 20) (.t 7) (.t 15)), (some 27), none⟩, .n, []⟩, ⟨⟨.op (.st 1 (.t 27) (.t 26)), none, none⟩, .x, []⟩]))
 [3, 4, 5, 7, 8]
 (.reg [⟨.op (.mv (.t 8)), (some 13), none⟩, ⟨.op (.bin .add 0 (.t 13) (.c (.int .i64 1))), (some 14), none⟩, ⟨.op (.mv (.t 14)), (some 8), none⟩]))
theorem u3_0 (call : DCall) (T : Tm) (st : Dv.St) : dCw Try.prog call l3_0 T st = dCw Try.prog call
 (.seq (.seq (.reg [⟨.op (.mv (.t 8)), (some 11), none⟩, ⟨.op (.bin .lss 0 (.t 11) (.c (.int .i64 20))), (some 12), none⟩])
 [3, 4, 5, 7, 8, 12]
 (.cond (.t 12) (.skip) (.exit 0)))
 [3, 4, 5, 7, 8]
 (.seq (.block 1 (.drw [⟨⟨.op (.mv (.t 8)), (some 15), none⟩, .n, []⟩, ⟨⟨.op (.mv (.t 8)), (some 16), none⟩, .n, []⟩, ⟨⟨.op (.ia 1 (some 20) (.t 3) (.t 16)), (some 17), none⟩, .n, []⟩, ⟨⟨.op (.ld1 (.t 17)), (some 18), none⟩, .n, []⟩, ⟨⟨.op (.mv (.t 8)), (some 19), none⟩, .n, []⟩, ⟨⟨.op (.ia 1 (some 20) (.t 4) (.t 19)), (some 20), none⟩, .n, []⟩, ⟨⟨.op (.ld1 (.t 20)), (some 21), none⟩, .n, []⟩, ⟨⟨.op (.slow (operAt Try.prog 3 18)), (some 22), none⟩, .n, []⟩, ⟨⟨.op (.mv (.t 8)), (some 23), none⟩, .n, []⟩, ⟨⟨.op (.ia 1 (some 20) (.t 5) (.t 23)), (some 24), none⟩, .n, []⟩, ⟨⟨.op (.ld1 (.t 24)), (some 25), none⟩, .n, []⟩, ⟨⟨.op (.slow (operAt Try.prog 3 22)), (some 26), none⟩, .n, []⟩, ⟨⟨.op (.ia 1 (some 20) (.t 7) (.t 15)), (some 27), none⟩, .n, []⟩, ⟨⟨.op (.st 1 (.t 27) (.t 26)), none, none⟩, .x, []⟩]))
 [3, 4, 5, 7, 8]
 (.reg [⟨.op (.mv (.t 8)), (some 13), none⟩, ⟨.op (.bin .add 0 (.t 13) (.c (.int .i64 1))), (some 14), none⟩, ⟨.op (.mv (.t 14)), (some 8), none⟩]))) T st := rfl
/-- cardamom/cardamomlaw16.CrcJoin -/
noncomputable def c3 : DFn := ⟨39, .pure,
 .seq (.reg [⟨.op (.box (.t 0)), (some 3), none⟩, ⟨.op (.box (.t 1)), (some 4), none⟩, ⟨.op (.box (.t 2)), (some 5), none⟩, ⟨.op (.mv (.c (.bool false))), (some 6), none⟩])
 [3, 4, 5]
 (.seq (.seq (.reg [⟨.call 5 [], (some 9), none⟩, ⟨.op (.not (.t 9)), (some 10), none⟩])
 [3, 4, 5, 10]
 (.cond (.t 10) (.seq (.reg [⟨.op (.mv (.c (.bool false))), (some 6), none⟩])
 [6]
 (.ret)) (.skip)))
 [3, 4, 5]
 (.seq (.reg [⟨.op (.new [(.int .u8 0), (.int .u8 0), (.int .u8 0), (.int .u8 0), (.int .u8 0), (.int .u8 0), (.int .u8 0), (.int .u8 0), (.int .u8 0), (.int .u8 0), (.int .u8 0), (.int .u8 0), (.int .u8 0), (.int .u8 0), (.int .u8 0), (.int .u8 0), (.int .u8 0), (.int .u8 0), (.int .u8 0), (.int .u8 0)]), (some 7), none⟩])
 [3, 4, 5, 7]
 (.seq (.seq (.reg [⟨.op (.mv (.c (.int .i64 0))), (some 8), none⟩])
 [3, 4, 5, 7, 8]
 (.block 0 (.loop [3, 4, 5, 7, 8] (l3_0))))
 [3, 4, 5, 7]
 (.seq (.drw [⟨⟨.op (.cut 1 (some 20) (.t 7) none none), (some 28), none⟩, .n, []⟩, ⟨⟨.op (.cut 1 (some 20) (.t 3) none none), (some 30), none⟩, .n, []⟩, ⟨⟨.op (.cut 1 (some 20) (.t 4) none none), (some 32), none⟩, .n, []⟩, ⟨⟨.op (.cut 1 (some 20) (.t 5) none none), (some 35), none⟩, .n, []⟩, ⟨⟨.call 6 [(.t 28)], (some 29), none⟩, .x, [(true, 3), (true, 2), (true, 1)]⟩, ⟨⟨.call 6 [(.t 30)], (some 31), none⟩, .x, [(true, 3), (true, 2)]⟩, ⟨⟨.call 6 [(.t 32)], (some 33), none⟩, .x, [(true, 3)]⟩, ⟨⟨.op (.slow (operAt Try.prog 3 34)), (some 34), none⟩, .n, []⟩, ⟨⟨.call 6 [(.t 35)], (some 36), none⟩, .x, []⟩, ⟨⟨.op (.slow (operAt Try.prog 3 37)), (some 37), none⟩, .n, []⟩, ⟨⟨.op (.bin .eql 0 (.t 29) (.t 37)), (some 38), none⟩, .n, []⟩, ⟨⟨.op (.mv (.t 38)), (some 6), none⟩, .x, []⟩])
 [6]
 (.ret))))),
 [.tmp 6]⟩
theorem k3 : cFn Try.prog 3 = some c3.toE := by kernel_rfl
theorem w3 : c3.body.wf = true := by kernel_rfl
noncomputable def l6_0 : DC :=
 .seq (.reg [⟨.op (.bin .lss 0 (.t 18) (.c (.int .i64 8))), (some 19), none⟩])
 [3, 7, 8, 9, 18, 19]
 (.seq (.cond (.t 19) (.skip) (.exit 2))
 [3, 7, 8, 9, 18]
 (.seq (.block 3 (.seq (.reg [⟨.op (.mv (.t 3)), (some 20), none⟩, ⟨.op (.slow (operAt Try.prog 6 18)), (some 21), none⟩, ⟨.op (.mv (.t 21)), (some 6), none⟩])
 [3, 6, 7, 8, 9, 18]
 (.seq (.reg [⟨.op (.mv (.t 3)), (some 22), none⟩, ⟨.op (.slow (operAt Try.prog 6 21)), (some 23), none⟩, ⟨.op (.mv (.t 23)), (some 3), none⟩])
 [3, 6, 7, 8, 9, 18]
 (.seq (.reg [⟨.op (.mv (.t 6)), (some 24), none⟩, ⟨.op (.bin .neq 0 (.t 24) (.c (.int .u16 0))), (some 25), none⟩])
 [3, 7, 8, 9, 18, 25]
 (.cond (.t 25) (.reg [⟨.op (.mv (.t 3)), (some 26), none⟩, ⟨.op (.slow (operAt Try.prog 6 26)), (some 27), none⟩, ⟨.op (.mv (.t 27)), (some 3), none⟩]) (.skip))))))
 [3, 7, 8, 9, 18]
 (.reg [⟨.op (.bin .add 0 (.t 18) (.c (.int .i64 1))), (some 28), none⟩, ⟨.op (.mv (.t 28)), (some 18), none⟩])))
theorem u6_0 (call : DCall) (T : Tm) (st : Dv.St) : dCw Try.prog call l6_0 T st = dCw Try.prog call
 (.seq (.reg [⟨.op (.bin .lss 0 (.t 18) (.c (.int .i64 8))), (some 19), none⟩])
 [3, 7, 8, 9, 18, 19]
 (.seq (.cond (.t 19) (.skip) (.exit 2))
 [3, 7, 8, 9, 18]
 (.seq (.block 3 (.seq (.reg [⟨.op (.mv (.t 3)), (some 20), none⟩, ⟨.op (.slow (operAt Try.prog 6 18)), (some 21), none⟩, ⟨.op (.mv (.t 21)), (some 6), none⟩])
 [3, 6, 7, 8, 9, 18]
 (.seq (.reg [⟨.op (.mv (.t 3)), (some 22), none⟩, ⟨.op (.slow (operAt Try.prog 6 21)), (some 23), none⟩, ⟨.op (.mv (.t 23)), (some 3), none⟩])
 [3, 6, 7, 8, 9, 18]
 (.seq (.reg [⟨.op (.mv (.t 6)), (some 24), none⟩, ⟨.op (.bin .neq 0 (.t 24) (.c (.int .u16 0))), (some 25), none⟩])
 [3, 7, 8, 9, 18, 25]
 (.cond (.t 25) (.reg [⟨.op (.mv (.t 3)), (some 26), none⟩, ⟨.op (.slow (operAt Try.prog 6 26)), (some 27), none⟩, ⟨.op (.mv (.t 27)), (some 3), none⟩]) (.skip))))))
 [3, 7, 8, 9, 18]
 (.reg [⟨.op (.bin .add 0 (.t 18) (.c (.int .i64 1))), (some 28), none⟩, ⟨.op (.mv (.t 28)), (some 18), none⟩])))) T st := rfl
noncomputable def l6_1 : DC :=
 .seq (.reg [⟨.op (.bin .lss 0 (.t 9) (.t 8)), (some 10), none⟩])
 [3, 7, 8, 9, 10]
 (.seq (.cond (.t 10) (.skip) (.exit 0))
 [3, 7, 8, 9]
 (.seq (.block 1 (.seq (.reg [⟨.op (.ia 1 none (.t 7) (.t 9)), (some 11), none⟩, ⟨.op (.ld1 (.t 11)), (some 12), none⟩, ⟨.op (.mv (.t 12)), (some 5), none⟩])
 [3, 5, 7, 8, 9]
 (.seq (.reg [⟨.op (.mv (.t 3)), (some 13), none⟩, ⟨.op (.mv (.t 5)), (some 14), none⟩, ⟨.op (.conv .u16 (.t 14)), (some 15), none⟩, ⟨.op (.slow (operAt Try.prog 6 12)), (some 16), none⟩, ⟨.op (.slow (operAt Try.prog 6 13)), (some 17), none⟩, ⟨.op (.mv (.t 17)), (some 3), none⟩])
 [3, 7, 8, 9]
 (.seq (.reg [⟨.op (.mv (.c (.int .i64 0))), (some 18), none⟩])
 [3, 7, 8, 9, 18]
 (.block 2 (.loop [3, 7, 8, 9, 18] (l6_0)))))))
 [3, 7, 8, 9]
 (.reg [⟨.op (.bin .add 0 (.t 9) (.c (.int .i64 1))), (some 29), none⟩, ⟨.op (.mv (.t 29)), (some 9), none⟩])))
theorem u6_1 (call : DCall) (T : Tm) (st : Dv.St) : dCw Try.prog call l6_1 T st = dCw Try.prog call
 (.seq (.reg [⟨.op (.bin .lss 0 (.t 9) (.t 8)), (some 10), none⟩])
 [3, 7, 8, 9, 10]
 (.seq (.cond (.t 10) (.skip) (.exit 0))
 [3, 7, 8, 9]
 (.seq (.block 1 (.seq (.reg [⟨.op (.ia 1 none (.t 7) (.t 9)), (some 11), none⟩, ⟨.op (.ld1 (.t 11)), (some 12), none⟩, ⟨.op (.mv (.t 12)), (some 5), none⟩])
 [3, 5, 7, 8, 9]
 (.seq (.reg [⟨.op (.mv (.t 3)), (some 13), none⟩, ⟨.op (.mv (.t 5)), (some 14), none⟩, ⟨.op (.conv .u16 (.t 14)), (some 15), none⟩, ⟨.op (.slow (operAt Try.prog 6 12)), (some 16), none⟩, ⟨.op (.slow (operAt Try.prog 6 13)), (some 17), none⟩, ⟨.op (.mv (.t 17)), (some 3), none⟩])
 [3, 7, 8, 9]
 (.seq (.reg [⟨.op (.mv (.c (.int .i64 0))), (some 18), none⟩])
 [3, 7, 8, 9, 18]
 (.block 2 (.loop [3, 7, 8, 9, 18] (l6_0)))))))
 [3, 7, 8, 9]
 (.reg [⟨.op (.bin .add 0 (.t 9) (.c (.int .i64 1))), (some 29), none⟩, ⟨.op (.mv (.t 29)), (some 9), none⟩])))) T st := rfl
/-- cardamom/crc.Sum -/
noncomputable def c6 : DFn := ⟨31, .pure,
 .seq (.reg [⟨.op (.mv (.c (.int .u16 0))), (some 2), none⟩])
 [0]
 (.seq (.reg [⟨.op (.mv (.c (.int .u16 65535))), (some 3), none⟩])
 [0, 3]
 (.seq (.seq (.reg [⟨.op (.mv (.t 0)), (some 7), none⟩, ⟨.op (.len (.t 7)), (some 8), none⟩, ⟨.op (.mv (.c (.int .i64 0))), (some 9), none⟩])
 [3, 7, 8, 9]
 (.block 0 (.loop [3, 7, 8, 9] (l6_1))))
 [3]
 (.seq (.reg [⟨.op (.mv (.t 3)), (some 30), none⟩, ⟨.op (.mv (.t 30)), (some 2), none⟩])
 [2]
 (.ret)))),
 [.tmp 2]⟩
theorem k6 : cFn Try.prog 6 = some c6.toE := by kernel_rfl
theorem w6 : c6.body.wf = true := by kernel_rfl
def tbl : Nat → Option DFn := fun f => bif Nat.beq f 4 then some c4 else bif Nat.beq f 7 then some c7 else bif Nat.beq f 8 then some c8 else bif Nat.beq f 10 then some c10 else bif Nat.beq f 12 then some c12 else bif Nat.beq f 19 then some c19 else bif Nat.beq f 15 then some c15 else bif Nat.beq f 16 then some c16 else bif Nat.beq f 9 then some c9 else bif Nat.beq f 11 then some c11 else bif Nat.beq f 13 then some c13 else bif Nat.beq f 17 then some c17 else bif Nat.beq f 14 then some c14 else bif Nat.beq f 20 then some c20 else bif Nat.beq f 18 then some c18 else bif Nat.beq f 23 then some c23 else bif Nat.beq f 3 then some c3 else bif Nat.beq f 6 then some c6 else none
def dx : DX := fun f => bif Nat.beq f 21 then some (dClone 2 24) else bif Nat.beq f 22 then some (dClone 1 16) else none
def prims : Prims := fun f => bif Nat.beq f 5 then some .yes else none
theorem code_ok : ∀ f df, tbl f = some df → cFn Try.prog f = some df.toE ∧ df.body.wf = true := by
  intro f df h
  unfold tbl at h
  by_cases h4 : f = 4
  · subst h4; rw [Nat.beq_refl, cond_true] at h; rw [← Option.some.inj h]; exact ⟨k4, w4⟩
  rw [Ev.beq_false _ _ h4, cond_false] at h
  by_cases h7 : f = 7
  · subst h7; rw [Nat.beq_refl, cond_true] at h; rw [← Option.some.inj h]; exact ⟨k7, w7⟩
  rw [Ev.beq_false _ _ h7, cond_false] at h
  by_cases h8 : f = 8
  · subst h8; rw [Nat.beq_refl, cond_true] at h; rw [← Option.some.inj h]; exact ⟨k8, w8⟩
  rw [Ev.beq_false _ _ h8, cond_false] at h
  by_cases h10 : f = 10
  · subst h10; rw [Nat.beq_refl, cond_true] at h; rw [← Option.some.inj h]; exact ⟨k10, w10⟩
  rw [Ev.beq_false _ _ h10, cond_false] at h
  by_cases h12 : f = 12
  · subst h12; rw [Nat.beq_refl, cond_true] at h; rw [← Option.some.inj h]; exact ⟨k12, w12⟩
  rw [Ev.beq_false _ _ h12, cond_false] at h
  by_cases h19 : f = 19
  · subst h19; rw [Nat.beq_refl, cond_true] at h; rw [← Option.some.inj h]; exact ⟨k19, w19⟩
  rw [Ev.beq_false _ _ h19, cond_false] at h
  by_cases h15 : f = 15
  · subst h15; rw [Nat.beq_refl, cond_true] at h; rw [← Option.some.inj h]; exact ⟨k15, w15⟩
  rw [Ev.beq_false _ _ h15, cond_false] at h
  by_cases h16 : f = 16
  · subst h16; rw [Nat.beq_refl, cond_true] at h; rw [← Option.some.inj h]; exact ⟨k16, w16⟩
  rw [Ev.beq_false _ _ h16, cond_false] at h
  by_cases h9 : f = 9
  · subst h9; rw [Nat.beq_refl, cond_true] at h; rw [← Option.some.inj h]; exact ⟨k9, w9⟩
  rw [Ev.beq_false _ _ h9, cond_false] at h
  by_cases h11 : f = 11
  · subst h11; rw [Nat.beq_refl, cond_true] at h; rw [← Option.some.inj h]; exact ⟨k11, w11⟩
  rw [Ev.beq_false _ _ h11, cond_false] at h
  by_cases h13 : f = 13
  · subst h13; rw [Nat.beq_refl, cond_true] at h; rw [← Option.some.inj h]; exact ⟨k13, w13⟩
  rw [Ev.beq_false _ _ h13, cond_false] at h
  by_cases h17 : f = 17
  · subst h17; rw [Nat.beq_refl, cond_true] at h; rw [← Option.some.inj h]; exact ⟨k17, w17⟩
  rw [Ev.beq_false _ _ h17, cond_false] at h
  by_cases h14 : f = 14
  · subst h14; rw [Nat.beq_refl, cond_true] at h; rw [← Option.some.inj h]; exact ⟨k14, w14⟩
  rw [Ev.beq_false _ _ h14, cond_false] at h
  by_cases h20 : f = 20
  · subst h20; rw [Nat.beq_refl, cond_true] at h; rw [← Option.some.inj h]; exact ⟨k20, w20⟩
  rw [Ev.beq_false _ _ h20, cond_false] at h
  by_cases h18 : f = 18
  · subst h18; rw [Nat.beq_refl, cond_true] at h; rw [← Option.some.inj h]; exact ⟨k18, w18⟩
  rw [Ev.beq_false _ _ h18, cond_false] at h
  by_cases h23 : f = 23
  · subst h23; rw [Nat.beq_refl, cond_true] at h; rw [← Option.some.inj h]; exact ⟨k23, w23⟩
  rw [Ev.beq_false _ _ h23, cond_false] at h
  by_cases h3 : f = 3
  · subst h3; rw [Nat.beq_refl, cond_true] at h; rw [← Option.some.inj h]; exact ⟨k3, w3⟩
  rw [Ev.beq_false _ _ h3, cond_false] at h
  by_cases h6 : f = 6
  · subst h6; rw [Nat.beq_refl, cond_true] at h; rw [← Option.some.inj h]; exact ⟨k6, w6⟩
  rw [Ev.beq_false _ _ h6, cond_false] at h
  cases h
theorem ext_ok : ∀ f g, prims f = none → dx f = some g → ∀ (k : Nat) (ds : List D) (st : Dv.St) (r : D × Dv.St × List Nat) (c : Ct) (H : Heap) (vs : List V), g ds st = some r → SR c st H → Row (DR c H) ds vs → Fol c st H r (eFn Try.prog prims (cFn Try.prog) listHP (k + 1) f vs H) := by
  intro f g _ h
  unfold dx at h
  by_cases h21 : f = 21
  · subst h21; rw [Nat.beq_refl, cond_true] at h; rw [← Option.some.inj h]; exact clone_ok (z := 2) (bytes := 24) (by kernel_rfl) k21
  rw [Ev.beq_false _ _ h21, cond_false] at h
  by_cases h22 : f = 22
  · subst h22; rw [Nat.beq_refl, cond_true] at h; rw [← Option.some.inj h]; exact clone_ok (z := 1) (bytes := 16) (by kernel_rfl) k22
  rw [Ev.beq_false _ _ h22, cond_false] at h
  cases h
theorem tbl_ok : TblOK Try.prog prims (cFn Try.prog) dx tbl := ⟨fun f df _ _ h => code_ok f df h, ext_ok⟩
theorem prims_ok : PrimsOK Try.prog prims := by
  intro f p h
  unfold prims at h
  by_cases h5 : f = 5
  · subst h5
    rw [Nat.beq_refl, cond_true] at h
    rw [← Option.some.inj h]
    exact ⟨by kernel_rfl, fun vs H v H' he β cs w hr s => Go.Proofs.Ev.yes_ok Try.checked.mixed (k := 60) (by kernel_rfl) vs H v H' he β cs w hr s⟩
  rw [Go.Proofs.Ev.beq_false _ _ h5, cond_false] at h
  cases h
end
end Go.Proofs.Ytakajpdnbgaahaa.Cd
