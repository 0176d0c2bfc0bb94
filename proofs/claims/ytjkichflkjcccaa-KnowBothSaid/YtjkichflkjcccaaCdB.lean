/-
  What is proved here: the texts of the functions, looked up.
  Conditions: none.
-/
import Derived.Test.YtjkichflkjcccaaRows
import Derived.Test.YtjkichflkjcccaaDv3
import Derived.KernelRfl
import Derived.Shelf.Slices.In.SortAlone
set_option linter.unusedVariables false
set_option linter.unusedSimpArgs false
set_option maxRecDepth 100000
namespace Go.Proofs.Ytjkichflkjcccaa.Cd
open Go Go.Proofs Go.Proofs.Ev Go.Proofs.Dv
noncomputable section
noncomputable def l3_0 : DC :=
 .seq (.seq (.reg [⟨.op (.mv (.t 11)), (some 36), none⟩, ⟨.op (.bin .lss 0 (.t 36) (.c (.int .i64 60))), (some 37), none⟩])
 [7, 8, 9, 10, 11, 37]
 (.cond (.t 37) (.skip) (.exit 0)))
 [7, 8, 9, 10, 11]
 (.seq (.block 1 (.seq (.drw [⟨⟨.op (.ldn 2 (.t 10)), (some 40), none⟩, .n, []⟩, ⟨⟨.op (.mv (.t 11)), (some 41), none⟩, .n, []⟩, ⟨⟨.op (.ldn 2 (.t 7)), (some 43), none⟩, .n, []⟩, ⟨⟨.op (.mv (.t 11)), (some 44), none⟩, .n, []⟩, ⟨⟨.call 7 [(.t 40), (.t 41)], (some 42), none⟩, .x, [(true, 2)]⟩, ⟨⟨.call 7 [(.t 43), (.t 44)], (some 45), none⟩, .x, []⟩, ⟨⟨.op (.mv (.t 45)), (some 46), none⟩, .n, []⟩, ⟨⟨.op (.ldn 2 (.t 8)), (some 47), (some (46, false))⟩, .n, []⟩, ⟨⟨.op (.mv (.t 11)), (some 48), (some (46, false))⟩, .n, []⟩, ⟨⟨.call 7 [(.t 47), (.t 48)], (some 49), (some (46, false))⟩, .x, []⟩, ⟨⟨.op (.pick (.t 46) (.c (.bool true)) (.t 49)), (some 50), none⟩, .n, []⟩, ⟨⟨.op (.bin .neq 5 (.t 42) (.t 50)), (some 51), none⟩, .n, []⟩])
 [7, 8, 9, 10, 11, 51]
 (.cond (.t 51) (.seq (.reg [⟨.op (.mv (.c (.bool false))), (some 6), none⟩])
 [6]
 (.ret)) (.skip))))
 [7, 8, 9, 10, 11]
 (.reg [⟨.op (.mv (.t 11)), (some 38), none⟩, ⟨.op (.bin .add 0 (.t 38) (.c (.int .i64 1))), (some 39), none⟩, ⟨.op (.mv (.t 39)), (some 11), none⟩]))
theorem u3_0 (call : DCall) (T : Tm) (st : Dv.St) : dCw Try.prog call l3_0 T st = dCw Try.prog call
 (.seq (.seq (.reg [⟨.op (.mv (.t 11)), (some 36), none⟩, ⟨.op (.bin .lss 0 (.t 36) (.c (.int .i64 60))), (some 37), none⟩])
 [7, 8, 9, 10, 11, 37]
 (.cond (.t 37) (.skip) (.exit 0)))
 [7, 8, 9, 10, 11]
 (.seq (.block 1 (.seq (.drw [⟨⟨.op (.ldn 2 (.t 10)), (some 40), none⟩, .n, []⟩, ⟨⟨.op (.mv (.t 11)), (some 41), none⟩, .n, []⟩, ⟨⟨.op (.ldn 2 (.t 7)), (some 43), none⟩, .n, []⟩, ⟨⟨.op (.mv (.t 11)), (some 44), none⟩, .n, []⟩, ⟨⟨.call 7 [(.t 40), (.t 41)], (some 42), none⟩, .x, [(true, 2)]⟩, ⟨⟨.call 7 [(.t 43), (.t 44)], (some 45), none⟩, .x, []⟩, ⟨⟨.op (.mv (.t 45)), (some 46), none⟩, .n, []⟩, ⟨⟨.op (.ldn 2 (.t 8)), (some 47), (some (46, false))⟩, .n, []⟩, ⟨⟨.op (.mv (.t 11)), (some 48), (some (46, false))⟩, .n, []⟩, ⟨⟨.call 7 [(.t 47), (.t 48)], (some 49), (some (46, false))⟩, .x, []⟩, ⟨⟨.op (.pick (.t 46) (.c (.bool true)) (.t 49)), (some 50), none⟩, .n, []⟩, ⟨⟨.op (.bin .neq 5 (.t 42) (.t 50)), (some 51), none⟩, .n, []⟩])
 [7, 8, 9, 10, 11, 51]
 (.cond (.t 51) (.seq (.reg [⟨.op (.mv (.c (.bool false))), (some 6), none⟩])
 [6]
 (.ret)) (.skip))))
 [7, 8, 9, 10, 11]
 (.reg [⟨.op (.mv (.t 11)), (some 38), none⟩, ⟨.op (.bin .add 0 (.t 38) (.c (.int .i64 1))), (some 39), none⟩, ⟨.op (.mv (.t 39)), (some 11), none⟩]))) T st := rfl
/-- cardamom/cardamomlaw2.KnowBoth -/
noncomputable def c3 : DFn := ⟨98, .pure,
 .seq (.reg [⟨.op (.mv (.c (.bool false))), (some 6), none⟩])
 [0, 1, 2]
 (.seq (.seq (.reg [⟨.call 4 [], (some 12), none⟩, ⟨.op (.not (.t 12)), (some 13), none⟩])
 [0, 1, 2, 13]
 (.cond (.t 13) (.seq (.reg [⟨.op (.mv (.c (.bool false))), (some 6), none⟩])
 [6]
 (.ret)) (.skip)))
 [0, 1, 2]
 (.seq (.seq (.reg [⟨.op (.mv (.t 0)), (some 14), none⟩, ⟨.op (.len (.t 14)), (some 15), none⟩, ⟨.op (.bin .gtr 0 (.t 15) (.c (.int .i64 20))), (some 16), none⟩, ⟨.op (.mv (.t 16)), (some 17), none⟩, ⟨.op (.mv (.t 1)), (some 18), (some (17, false))⟩, ⟨.op (.len (.t 18)), (some 19), (some (17, false))⟩, ⟨.op (.bin .gtr 0 (.t 19) (.c (.int .i64 20))), (some 20), (some (17, false))⟩, ⟨.op (.pick (.t 17) (.c (.bool true)) (.t 20)), (some 21), none⟩, ⟨.op (.mv (.t 21)), (some 22), none⟩, ⟨.op (.mv (.t 2)), (some 23), (some (22, false))⟩, ⟨.op (.len (.t 23)), (some 24), (some (22, false))⟩, ⟨.op (.bin .gtr 0 (.t 24) (.c (.int .i64 20))), (some 25), (some (22, false))⟩, ⟨.op (.pick (.t 22) (.c (.bool true)) (.t 25)), (some 26), none⟩])
 [0, 1, 2, 26]
 (.cond (.t 26) (.seq (.reg [⟨.op (.mv (.c (.bool true))), (some 6), none⟩])
 [6]
 (.ret)) (.skip)))
 [0, 1, 2]
 (.seq (.reg [⟨.op (.mv (.t 0)), (some 27), none⟩, ⟨.call 5 [(.t 27)], (some 28), none⟩, ⟨.op (.mv (.t 1)), (some 29), none⟩, ⟨.call 5 [(.t 29)], (some 30), none⟩, ⟨.op (.mv (.t 2)), (some 31), none⟩, ⟨.call 5 [(.t 31)], (some 32), none⟩, ⟨.op (.new [(.int .i64 0), (.sl none 0)]), (some 7), none⟩, ⟨.op (.new [(.int .i64 0), (.sl none 0)]), (some 8), none⟩, ⟨.op (.new [(.int .i64 0), (.sl none 0)]), (some 9), none⟩, ⟨.op (.st 2 (.t 7) (.t 28)), none, none⟩, ⟨.op (.st 2 (.t 8) (.t 30)), none, none⟩, ⟨.op (.st 2 (.t 9) (.t 32)), none, none⟩])
 [7, 8, 9]
 (.seq (.reg [⟨.op (.ldn 2 (.t 7)), (some 33), none⟩, ⟨.op (.ldn 2 (.t 8)), (some 34), none⟩, ⟨.call 6 [(.t 33), (.t 34)], (some 35), none⟩, ⟨.op (.new [(.int .i64 0), (.sl none 0)]), (some 10), none⟩, ⟨.op (.st 2 (.t 10) (.t 35)), none, none⟩])
 [7, 8, 9, 10]
 (.seq (.seq (.reg [⟨.op (.mv (.c (.int .i64 0))), (some 11), none⟩])
 [7, 8, 9, 10, 11]
 (.block 0 (.loop [7, 8, 9, 10, 11] (l3_0))))
 [7, 8, 9, 10]
 (.seq (.drw [⟨⟨.op (.ldn 2 (.t 10)), (some 52), none⟩, .n, []⟩, ⟨⟨.call 8 [(.t 52)], (some 53), none⟩, .x, []⟩, ⟨⟨.op (.mv (.t 53)), (some 54), none⟩, .n, []⟩, ⟨⟨.op (.ldn 2 (.t 7)), (some 55), (some (54, true))⟩, .n, []⟩, ⟨⟨.op (.ldn 2 (.t 10)), (some 56), (some (54, true))⟩, .n, []⟩, ⟨⟨.call 9 [(.t 55), (.t 56)], (some 57), (some (54, true))⟩, .x, []⟩, ⟨⟨.op (.pick (.t 54) (.t 57) (.c (.bool false))), (some 58), none⟩, .n, []⟩, ⟨⟨.op (.mv (.t 58)), (some 59), none⟩, .n, []⟩, ⟨⟨.op (.ldn 2 (.t 8)), (some 60), (some (59, true))⟩, .n, []⟩, ⟨⟨.op (.ldn 2 (.t 10)), (some 61), (some (59, true))⟩, .n, []⟩, ⟨⟨.call 9 [(.t 60), (.t 61)], (some 62), (some (59, true))⟩, .x, []⟩, ⟨⟨.op (.pick (.t 59) (.t 62) (.c (.bool false))), (some 63), none⟩, .n, []⟩, ⟨⟨.op (.mv (.t 63)), (some 64), none⟩, .n, []⟩, ⟨⟨.op (.ldn 2 (.t 10)), (some 65), (some (64, true))⟩, .n, []⟩, ⟨⟨.op (.ldn 2 (.t 8)), (some 66), (some (64, true))⟩, .n, []⟩, ⟨⟨.op (.ldn 2 (.t 7)), (some 67), (some (64, true))⟩, .n, []⟩, ⟨⟨.call 6 [(.t 66), (.t 67)], (some 68), (some (64, true))⟩, .x, [(true, 13)]⟩, ⟨⟨.call 10 [(.t 65), (.t 68)], (some 69), (some (64, true))⟩, .x, []⟩, ⟨⟨.op (.pick (.t 64) (.t 69) (.c (.bool false))), (some 70), none⟩, .n, []⟩, ⟨⟨.op (.mv (.t 70)), (some 71), none⟩, .n, []⟩, ⟨⟨.op (.ldn 2 (.t 10)), (some 72), (some (71, true))⟩, .n, []⟩, ⟨⟨.op (.ldn 2 (.t 9)), (some 73), (some (71, true))⟩, .n, []⟩, ⟨⟨.op (.ldn 2 (.t 7)), (some 75), (some (71, true))⟩, .n, []⟩, ⟨⟨.op (.ldn 2 (.t 8)), (some 76), (some (71, true))⟩, .n, []⟩, ⟨⟨.op (.ldn 2 (.t 9)), (some 77), (some (71, true))⟩, .n, []⟩, ⟨⟨.call 6 [(.t 72), (.t 73)], (some 74), (some (71, true))⟩, .x, [(true, 24), (true, 23), (true, 22)]⟩, ⟨⟨.call 6 [(.t 76), (.t 77)], (some 78), (some (71, true))⟩, .x, [(true, 22)]⟩, ⟨⟨.call 6 [(.t 75), (.t 78)], (some 79), (some (71, true))⟩, .x, []⟩, ⟨⟨.call 10 [(.t 74), (.t 79)], (some 80), (some (71, true))⟩, .x, []⟩, ⟨⟨.op (.pick (.t 71) (.t 80) (.c (.bool false))), (some 81), none⟩, .n, []⟩, ⟨⟨.op (.mv (.t 81)), (some 82), none⟩, .n, []⟩, ⟨⟨.op (.ldn 2 (.t 10)), (some 83), (some (82, true))⟩, .n, []⟩, ⟨⟨.op (.ldn 2 (.t 7)), (some 84), (some (82, true))⟩, .n, []⟩, ⟨⟨.op (.ldn 2 (.t 8)), (some 86), (some (82, true))⟩, .n, []⟩, ⟨⟨.op (.ldn 2 (.t 7)), (some 87), (some (82, true))⟩, .n, []⟩, ⟨⟨.call 9 [(.t 83), (.t 84)], (some 85), (some (82, true))⟩, .x, [(true, 34), (true, 33)]⟩, ⟨⟨.call 9 [(.t 86), (.t 87)], (some 88), (some (82, true))⟩, .x, []⟩, ⟨⟨.op (.bin .eql 5 (.t 85) (.t 88)), (some 89), (some (82, true))⟩, .n, []⟩, ⟨⟨.op (.pick (.t 82) (.t 89) (.c (.bool false))), (some 90), none⟩, .n, []⟩, ⟨⟨.op (.mv (.t 90)), (some 91), none⟩, .n, []⟩, ⟨⟨.op (.ldn 2 (.t 7)), (some 92), (some (91, true))⟩, .n, []⟩, ⟨⟨.op (.ldn 2 (.t 7)), (some 93), (some (91, true))⟩, .n, []⟩, ⟨⟨.op (.ldn 2 (.t 7)), (some 95), (some (91, true))⟩, .n, []⟩, ⟨⟨.call 6 [(.t 92), (.t 93)], (some 94), (some (91, true))⟩, .x, [(true, 42)]⟩, ⟨⟨.call 10 [(.t 94), (.t 95)], (some 96), (some (91, true))⟩, .x, []⟩, ⟨⟨.op (.pick (.t 91) (.t 96) (.c (.bool false))), (some 97), none⟩, .n, []⟩, ⟨⟨.op (.mv (.t 97)), (some 6), none⟩, .x, []⟩])
 [6]
 (.ret))))))),
 [.tmp 6]⟩
theorem k3 : cFn Try.prog 3 = some c3.toE := by kernel_rfl
theorem w3 : c3.body.wf = true := by kernel_rfl
noncomputable def l5_0 : DC :=
 .seq (.seq (.reg [⟨.op (.mv (.t 4)), (some 6), none⟩, ⟨.op (.mv (.t 0)), (some 7), none⟩, ⟨.op (.len (.t 7)), (some 8), none⟩, ⟨.op (.bin .lss 0 (.t 6) (.t 8)), (some 9), none⟩])
 [0, 2, 3, 4, 9]
 (.cond (.t 9) (.skip) (.exit 0)))
 [0, 2, 3, 4]
 (.seq (.block 1 (.drw [⟨⟨.op (.ldn 2 (.t 3)), (some 12), none⟩, .n, []⟩, ⟨⟨.op (.mv (.t 0)), (some 13), none⟩, .n, []⟩, ⟨⟨.op (.mv (.t 4)), (some 14), none⟩, .n, []⟩, ⟨⟨.op (.ia 1 none (.t 13) (.t 14)), (some 15), none⟩, .n, []⟩, ⟨⟨.op (.ld1 (.t 15)), (some 16), none⟩, .n, []⟩, ⟨⟨.op (.bin .rem 0 (.t 16) (.c (.int .u8 50))), (some 17), none⟩, .n, []⟩, ⟨⟨.op (.conv .i64 (.t 17)), (some 18), none⟩, .n, []⟩, ⟨⟨.op (.bin .add 0 (.c (.int .i64 1)) (.t 18)), (some 19), none⟩, .n, []⟩, ⟨⟨.call 13 [(.t 12), (.t 19)], (some 20), none⟩, .x, []⟩, ⟨⟨.op (.st 2 (.t 3) (.t 20)), none, none⟩, .x, []⟩]))
 [0, 2, 3, 4]
 (.reg [⟨.op (.mv (.t 4)), (some 10), none⟩, ⟨.op (.bin .add 0 (.t 10) (.c (.int .i64 1))), (some 11), none⟩, ⟨.op (.mv (.t 11)), (some 4), none⟩]))
theorem u5_0 (call : DCall) (T : Tm) (st : Dv.St) : dCw Try.prog call l5_0 T st = dCw Try.prog call
 (.seq (.seq (.reg [⟨.op (.mv (.t 4)), (some 6), none⟩, ⟨.op (.mv (.t 0)), (some 7), none⟩, ⟨.op (.len (.t 7)), (some 8), none⟩, ⟨.op (.bin .lss 0 (.t 6) (.t 8)), (some 9), none⟩])
 [0, 2, 3, 4, 9]
 (.cond (.t 9) (.skip) (.exit 0)))
 [0, 2, 3, 4]
 (.seq (.block 1 (.drw [⟨⟨.op (.ldn 2 (.t 3)), (some 12), none⟩, .n, []⟩, ⟨⟨.op (.mv (.t 0)), (some 13), none⟩, .n, []⟩, ⟨⟨.op (.mv (.t 4)), (some 14), none⟩, .n, []⟩, ⟨⟨.op (.ia 1 none (.t 13) (.t 14)), (some 15), none⟩, .n, []⟩, ⟨⟨.op (.ld1 (.t 15)), (some 16), none⟩, .n, []⟩, ⟨⟨.op (.bin .rem 0 (.t 16) (.c (.int .u8 50))), (some 17), none⟩, .n, []⟩, ⟨⟨.op (.conv .i64 (.t 17)), (some 18), none⟩, .n, []⟩, ⟨⟨.op (.bin .add 0 (.c (.int .i64 1)) (.t 18)), (some 19), none⟩, .n, []⟩, ⟨⟨.call 13 [(.t 12), (.t 19)], (some 20), none⟩, .x, []⟩, ⟨⟨.op (.st 2 (.t 3) (.t 20)), none, none⟩, .x, []⟩]))
 [0, 2, 3, 4]
 (.reg [⟨.op (.mv (.t 4)), (some 10), none⟩, ⟨.op (.bin .add 0 (.t 10) (.c (.int .i64 1))), (some 11), none⟩, ⟨.op (.mv (.t 11)), (some 4), none⟩]))) T st := rfl
/-- cardamom/cardamomlaw2.made -/
noncomputable def c5 : DFn := ⟨22, .pure,
 .seq (.reg [⟨.op (.new [(.int .i64 0), (.sl none 0)]), (some 2), none⟩])
 [0, 2]
 (.seq (.reg [⟨.op (.build [(.int .i64 0), (.sl none 0)] []), (some 5), none⟩, ⟨.op (.new [(.int .i64 0), (.sl none 0)]), (some 3), none⟩, ⟨.op (.st 2 (.t 3) (.t 5)), none, none⟩])
 [0, 2, 3]
 (.seq (.seq (.reg [⟨.op (.mv (.c (.int .i64 0))), (some 4), none⟩])
 [0, 2, 3, 4]
 (.block 0 (.loop [0, 2, 3, 4] (l5_0))))
 [2, 3]
 (.seq (.reg [⟨.op (.ldn 2 (.t 3)), (some 21), none⟩, ⟨.op (.st 2 (.t 2) (.t 21)), none, none⟩])
 [2]
 (.ret)))),
 [.celln 2 2]⟩
theorem k5 : cFn Try.prog 5 = some c5.toE := by kernel_rfl
theorem w5 : c5.body.wf = true := by kernel_rfl
/-- cardamom/know.Both -/
noncomputable def c6 : DFn := ⟨23, .pure,
 .seq (.reg [⟨.op (.box (.t 0)), (some 2), none⟩, ⟨.op (.box (.t 1)), (some 3), none⟩, ⟨.op (.new [(.int .i64 0), (.sl none 0)]), (some 4), none⟩])
 [2, 3, 4]
 (.seq (.reg [⟨.op (.fa 1 (.t 2)), (some 6), none⟩, ⟨.op (.ld1 (.t 6)), (some 7), none⟩, ⟨.op (.fa 1 (.t 3)), (some 8), none⟩, ⟨.op (.ld1 (.t 8)), (some 9), none⟩, ⟨.op (.bslice 1 2 [(.sl none 0), (.sl none 0)] [(0, 1, (.t 7)), (1, 1, (.t 9))]), (some 10), none⟩, ⟨.call 14 [(.t 10)], (some 11), none⟩, ⟨.op (.mv (.t 11)), (some 5), none⟩])
 [2, 3, 4, 5]
 (.seq (.srt [⟨.op (.mv (.t 5)), (some 12), none⟩] 15 12 (some 13) [])
 [2, 3, 4, 5]
 (.seq (.drw [⟨⟨.op (.fa 0 (.t 2)), (some 14), none⟩, .n, []⟩, ⟨⟨.op (.ld1 (.t 14)), (some 15), none⟩, .n, []⟩, ⟨⟨.op (.fa 0 (.t 3)), (some 16), none⟩, .n, []⟩, ⟨⟨.op (.ld1 (.t 16)), (some 17), none⟩, .n, []⟩, ⟨⟨.op (.slow (operAt Try.prog 6 16)), (some 18), none⟩, .n, []⟩, ⟨⟨.op (.mv (.t 5)), (some 19), none⟩, .n, []⟩, ⟨⟨.call 17 [(.t 19)], (some 20), none⟩, .x, [(true, 3), (true, 1)]⟩, ⟨⟨.op (.build [(.int .i64 0), (.sl none 0)] [(0, 1, (.t 18)), (1, 1, (.t 20))]), (some 21), none⟩, .n, []⟩, ⟨⟨.call 16 [(.t 21)], (some 22), none⟩, .x, []⟩, ⟨⟨.op (.st 2 (.t 4) (.t 22)), none, none⟩, .x, []⟩])
 [4]
 (.ret)))),
 [.celln 2 4]⟩
theorem k6 : cFn Try.prog 6 = some c6.toE := by kernel_rfl
theorem w6 : c6.body.wf = true := by kernel_rfl
/-- cardamom/know.Has -/
noncomputable def c7 : DFn := ⟨19, .pure,
 .seq (.reg [⟨.op (.box (.t 0)), (some 2), none⟩, ⟨.op (.mv (.c (.bool false))), (some 4), none⟩])
 [1, 2]
 (.seq (.reg [⟨.op (.mv (.t 1)), (some 5), none⟩, ⟨.op (.bin .geq 0 (.t 5) (.c (.int .i64 1))), (some 6), none⟩, ⟨.op (.mv (.t 6)), (some 7), none⟩, ⟨.op (.mv (.t 1)), (some 8), (some (7, true))⟩, ⟨.op (.fa 0 (.t 2)), (some 9), (some (7, true))⟩, ⟨.op (.ld1 (.t 9)), (some 10), (some (7, true))⟩, ⟨.op (.bin .leq 0 (.t 8) (.t 10)), (some 11), (some (7, true))⟩, ⟨.op (.pick (.t 7) (.t 11) (.c (.bool false))), (some 12), none⟩, ⟨.op (.mv (.t 12)), (some 13), none⟩, ⟨.op (.fa 1 (.t 2)), (some 14), (some (13, false))⟩, ⟨.op (.ld1 (.t 14)), (some 15), (some (13, false))⟩, ⟨.op (.mv (.t 1)), (some 16), (some (13, false))⟩, ⟨.call 18 [(.t 15), (.t 16)], (some 17), (some (13, false))⟩, ⟨.op (.pick (.t 13) (.c (.bool true)) (.t 17)), (some 18), none⟩, ⟨.op (.mv (.t 18)), (some 4), none⟩])
 [4]
 (.ret)),
 [.tmp 4]⟩
theorem k7 : cFn Try.prog 7 = some c7.toE := by kernel_rfl
theorem w7 : c7.body.wf = true := by kernel_rfl
/-- cardamom/know.May -/
noncomputable def c8 : DFn := ⟨9, .pure,
 .seq (.reg [⟨.op (.box (.t 0)), (some 1), none⟩, ⟨.op (.mv (.c (.bool false))), (some 2), none⟩])
 [1]
 (.seq (.reg [⟨.op (.ldn 2 (.t 1)), (some 3), none⟩, ⟨.call 20 [(.t 3)], (some 4), none⟩, ⟨.op (.build [] []), (some 5), none⟩, ⟨.op (.ifc 45 (.t 5)), (some 6), none⟩, ⟨.call 19 [(.t 4), (.t 6)], (some 7), none⟩, ⟨.op (.not (.t 7)), (some 8), none⟩, ⟨.op (.mv (.t 8)), (some 2), none⟩])
 [2]
 (.ret)),
 [.tmp 2]⟩
theorem k8 : cFn Try.prog 8 = some c8.toE := by kernel_rfl
theorem w8 : c8.body.wf = true := by kernel_rfl
/-- cardamom/know.Within -/
noncomputable def c9 : DFn := ⟨17, .pure,
 .seq (.reg [⟨.op (.box (.t 0)), (some 2), none⟩, ⟨.op (.box (.t 1)), (some 3), none⟩, ⟨.op (.mv (.c (.bool false))), (some 4), none⟩])
 [2, 3]
 (.seq (.reg [⟨.op (.fa 0 (.t 2)), (some 5), none⟩, ⟨.op (.ld1 (.t 5)), (some 6), none⟩, ⟨.op (.fa 0 (.t 3)), (some 7), none⟩, ⟨.op (.ld1 (.t 7)), (some 8), none⟩, ⟨.op (.bin .leq 0 (.t 6) (.t 8)), (some 9), none⟩, ⟨.op (.mv (.t 9)), (some 10), none⟩, ⟨.op (.fa 1 (.t 2)), (some 11), (some (10, true))⟩, ⟨.op (.ld1 (.t 11)), (some 12), (some (10, true))⟩, ⟨.op (.fn 22 [(.t 3)]), (some 13), (some (10, true))⟩, ⟨.call 21 [(.t 12), (.t 13)], (some 14), (some (10, true))⟩, ⟨.op (.not (.t 14)), (some 15), (some (10, true))⟩, ⟨.op (.pick (.t 10) (.t 15) (.c (.bool false))), (some 16), none⟩, ⟨.op (.mv (.t 16)), (some 4), none⟩])
 [4]
 (.ret)),
 [.tmp 4]⟩
theorem k9 : cFn Try.prog 9 = some c9.toE := by kernel_rfl
theorem w9 : c9.body.wf = true := by kernel_rfl
/-- cardamom/know.Within$1 -/
noncomputable def c22 : DFn := ⟨8, .pure,
 .seq (.reg [⟨.op (.mv (.c (.bool false))), (some 3), none⟩])
 [0, 1]
 (.seq (.reg [⟨.op (.ldn 2 (.t 1)), (some 4), none⟩, ⟨.op (.mv (.t 0)), (some 5), none⟩, ⟨.call 7 [(.t 4), (.t 5)], (some 6), none⟩, ⟨.op (.not (.t 6)), (some 7), none⟩, ⟨.op (.mv (.t 7)), (some 3), none⟩])
 [3]
 (.ret)),
 [.tmp 3]⟩
theorem k22 : cFn Try.prog 22 = some c22.toE := by kernel_rfl
theorem w22 : c22.body.wf = true := by kernel_rfl
/-- cardamom/know.Add -/
noncomputable def c11 : DFn := ⟨39, .pure,
 .seq (.reg [⟨.op (.box (.t 0)), (some 2), none⟩, ⟨.op (.new [(.int .i64 0), (.sl none 0)]), (some 4), none⟩])
 [1, 2, 4]
 (.seq (.reg [⟨.op (.fa 1 (.t 2)), (some 7), none⟩, ⟨.op (.ld1 (.t 7)), (some 8), none⟩, ⟨.call 24 [(.t 8)], (some 9), none⟩, ⟨.op (.fa 1 (.t 2)), (some 10), none⟩, ⟨.op (.st 1 (.t 10) (.t 9)), none, none⟩])
 [1, 2, 4]
 (.seq (.seq (.reg [⟨.op (.mv (.t 1)), (some 11), none⟩, ⟨.op (.bin .lss 0 (.t 11) (.c (.int .i64 1))), (some 12), none⟩, ⟨.op (.mv (.t 12)), (some 13), none⟩, ⟨.op (.mv (.t 1)), (some 14), (some (13, false))⟩, ⟨.op (.bin .gtr 0 (.t 14) (.c (.int .i64 1000000))), (some 15), (some (13, false))⟩, ⟨.op (.pick (.t 13) (.c (.bool true)) (.t 15)), (some 16), none⟩, ⟨.op (.mv (.t 16)), (some 17), none⟩, ⟨.op (.ldn 2 (.t 2)), (some 18), (some (17, false))⟩, ⟨.op (.mv (.t 1)), (some 19), (some (17, false))⟩, ⟨.call 7 [(.t 18), (.t 19)], (some 20), (some (17, false))⟩, ⟨.op (.pick (.t 17) (.c (.bool true)) (.t 20)), (some 21), none⟩])
 [1, 2, 4, 21]
 (.cond (.t 21) (.seq (.reg [⟨.op (.ldn 2 (.t 2)), (some 22), none⟩, ⟨.op (.st 2 (.t 4) (.t 22)), none, none⟩])
 [4]
 (.ret)) (.skip)))
 [1, 2, 4]
 (.seq (.reg [⟨.op (.fa 1 (.t 2)), (some 24), none⟩, ⟨.op (.ld1 (.t 24)), (some 25), none⟩, ⟨.op (.mv (.t 1)), (some 26), none⟩, ⟨.call 25 [(.t 25), (.t 26)], (some 27), none⟩, ⟨.op (.mv (.t 27)), (some 23), none⟩, ⟨.op (.ext (.t 23) 0), (some 28), none⟩, ⟨.op (.ext (.t 23) 1), (some 29), none⟩, ⟨.op (.mv (.t 28)), (some 5), none⟩, ⟨.op (.mv (.t 29)), (some 6), none⟩])
 [1, 2, 4, 5]
 (.seq (.reg [⟨.op (.fa 1 (.t 2)), (some 30), none⟩, ⟨.op (.ld1 (.t 30)), (some 31), none⟩, ⟨.op (.mv (.t 5)), (some 32), none⟩, ⟨.op (.mv (.t 1)), (some 33), none⟩, ⟨.op (.bslice 1 1 [(.int .i64 0)] [(0, 1, (.t 33))]), (some 34), none⟩, ⟨.call 26 [(.t 31), (.t 32), (.t 34)], (some 35), none⟩, ⟨.op (.fa 1 (.t 2)), (some 36), none⟩, ⟨.op (.st 1 (.t 36) (.t 35)), none, none⟩])
 [2, 4]
 (.seq (.reg [⟨.op (.ldn 2 (.t 2)), (some 37), none⟩, ⟨.call 16 [(.t 37)], (some 38), none⟩, ⟨.op (.st 2 (.t 4) (.t 38)), none, none⟩])
 [4]
 (.ret)))))),
 [.celln 2 4]⟩
theorem k11 : cFn Try.prog 11 = some c11.toE := by kernel_rfl
theorem w11 : c11.body.wf = true := by kernel_rfl
noncomputable def l16_0 : DC :=
 .seq (.seq (.drw [⟨⟨.op (.mv (.t 3)), (some 7), none⟩, .n, []⟩, ⟨⟨.op (.len (.t 7)), (some 8), none⟩, .n, []⟩, ⟨⟨.op (.bin .gtr 0 (.t 8) (.c (.int .i64 0))), (some 9), none⟩, .n, []⟩, ⟨⟨.op (.mv (.t 9)), (some 10), none⟩, .n, []⟩, ⟨⟨.op (.mv (.t 3)), (some 11), (some (10, true))⟩, .n, []⟩, ⟨⟨.op (.ia 1 none (.t 11) (.c (.int .i64 0))), (some 12), (some (10, true))⟩, .n, []⟩, ⟨⟨.op (.ld1 (.t 12)), (some 13), (some (10, true))⟩, .n, []⟩, ⟨⟨.op (.fa 0 (.t 1)), (some 14), (some (10, true))⟩, .n, []⟩, ⟨⟨.op (.ld1 (.t 14)), (some 15), (some (10, true))⟩, .n, []⟩, ⟨⟨.op (.bin .add 0 (.t 15) (.c (.int .i64 1))), (some 16), (some (10, true))⟩, .n, []⟩, ⟨⟨.op (.bin .leq 0 (.t 13) (.t 16)), (some 17), (some (10, true))⟩, .n, []⟩, ⟨⟨.op (.pick (.t 10) (.t 17) (.c (.bool false))), (some 18), none⟩, .n, []⟩])
 [1, 2, 3, 18]
 (.cond (.t 18) (.skip) (.exit 0)))
 [1, 2, 3]
 (.block 1 (.drw [⟨⟨.op (.fa 0 (.t 1)), (some 19), none⟩, .n, []⟩, ⟨⟨.op (.ld1 (.t 19)), (some 20), none⟩, .n, []⟩, ⟨⟨.op (.mv (.t 3)), (some 21), none⟩, .n, []⟩, ⟨⟨.op (.ia 1 none (.t 21) (.c (.int .i64 0))), (some 22), none⟩, .n, []⟩, ⟨⟨.op (.ld1 (.t 22)), (some 23), none⟩, .n, []⟩, ⟨⟨.op (.slow (operAt Try.prog 16 23)), (some 24), none⟩, .n, []⟩, ⟨⟨.op (.mv (.t 3)), (some 25), none⟩, .n, []⟩, ⟨⟨.op (.cut 1 none (.t 25) (some (.c (.int .i64 1))) none), (some 26), none⟩, .n, []⟩, ⟨⟨.op (.fa 0 (.t 1)), (some 27), none⟩, .n, []⟩, ⟨⟨.op (.st 1 (.t 27) (.t 24)), none, none⟩, .x, [(true, 7)]⟩, ⟨⟨.op (.mv (.t 26)), (some 3), none⟩, .x, []⟩]))
theorem u16_0 (call : DCall) (T : Tm) (st : Dv.St) : dCw Try.prog call l16_0 T st = dCw Try.prog call
 (.seq (.seq (.drw [⟨⟨.op (.mv (.t 3)), (some 7), none⟩, .n, []⟩, ⟨⟨.op (.len (.t 7)), (some 8), none⟩, .n, []⟩, ⟨⟨.op (.bin .gtr 0 (.t 8) (.c (.int .i64 0))), (some 9), none⟩, .n, []⟩, ⟨⟨.op (.mv (.t 9)), (some 10), none⟩, .n, []⟩, ⟨⟨.op (.mv (.t 3)), (some 11), (some (10, true))⟩, .n, []⟩, ⟨⟨.op (.ia 1 none (.t 11) (.c (.int .i64 0))), (some 12), (some (10, true))⟩, .n, []⟩, ⟨⟨.op (.ld1 (.t 12)), (some 13), (some (10, true))⟩, .n, []⟩, ⟨⟨.op (.fa 0 (.t 1)), (some 14), (some (10, true))⟩, .n, []⟩, ⟨⟨.op (.ld1 (.t 14)), (some 15), (some (10, true))⟩, .n, []⟩, ⟨⟨.op (.bin .add 0 (.t 15) (.c (.int .i64 1))), (some 16), (some (10, true))⟩, .n, []⟩, ⟨⟨.op (.bin .leq 0 (.t 13) (.t 16)), (some 17), (some (10, true))⟩, .n, []⟩, ⟨⟨.op (.pick (.t 10) (.t 17) (.c (.bool false))), (some 18), none⟩, .n, []⟩])
 [1, 2, 3, 18]
 (.cond (.t 18) (.skip) (.exit 0)))
 [1, 2, 3]
 (.block 1 (.drw [⟨⟨.op (.fa 0 (.t 1)), (some 19), none⟩, .n, []⟩, ⟨⟨.op (.ld1 (.t 19)), (some 20), none⟩, .n, []⟩, ⟨⟨.op (.mv (.t 3)), (some 21), none⟩, .n, []⟩, ⟨⟨.op (.ia 1 none (.t 21) (.c (.int .i64 0))), (some 22), none⟩, .n, []⟩, ⟨⟨.op (.ld1 (.t 22)), (some 23), none⟩, .n, []⟩, ⟨⟨.op (.slow (operAt Try.prog 16 23)), (some 24), none⟩, .n, []⟩, ⟨⟨.op (.mv (.t 3)), (some 25), none⟩, .n, []⟩, ⟨⟨.op (.cut 1 none (.t 25) (some (.c (.int .i64 1))) none), (some 26), none⟩, .n, []⟩, ⟨⟨.op (.fa 0 (.t 1)), (some 27), none⟩, .n, []⟩, ⟨⟨.op (.st 1 (.t 27) (.t 24)), none, none⟩, .x, [(true, 7)]⟩, ⟨⟨.op (.mv (.t 26)), (some 3), none⟩, .x, []⟩]))) T st := rfl
/-- cardamom/know.whole -/
noncomputable def c16 : DFn := ⟨31, .pure,
 .seq (.reg [⟨.op (.box (.t 0)), (some 1), none⟩, ⟨.op (.new [(.int .i64 0), (.sl none 0)]), (some 2), none⟩])
 [1, 2]
 (.seq (.reg [⟨.op (.fa 1 (.t 1)), (some 4), none⟩, ⟨.op (.ld1 (.t 4)), (some 5), none⟩, ⟨.call 24 [(.t 5)], (some 6), none⟩, ⟨.op (.mv (.t 6)), (some 3), none⟩])
 [1, 2, 3]
 (.seq (.block 0 (.loop [1, 2, 3] (l16_0)))
 [1, 2, 3]
 (.seq (.reg [⟨.op (.mv (.t 3)), (some 28), none⟩, ⟨.op (.fa 1 (.t 1)), (some 29), none⟩, ⟨.op (.st 1 (.t 29) (.t 28)), none, none⟩])
 [1, 2]
 (.seq (.reg [⟨.op (.ldn 2 (.t 1)), (some 30), none⟩, ⟨.op (.st 2 (.t 2) (.t 30)), none, none⟩])
 [2]
 (.ret))))),
 [.celln 2 2]⟩
theorem k16 : cFn Try.prog 16 = some c16.toE := by kernel_rfl
theorem w16 : c16.body.wf = true := by kernel_rfl
noncomputable def l20_0 : DC :=
 .seq (.reg [⟨.op (.bin .lss 0 (.t 28) (.t 27)), (some 29), none⟩])
 [3, 26, 27, 28, 29]
 (.seq (.cond (.t 29) (.skip) (.exit 0))
 [3, 26, 27, 28]
 (.seq (.block 1 (.seq (.reg [⟨.op (.ia 1 none (.t 26) (.t 28)), (some 30), none⟩, ⟨.op (.ld1 (.t 30)), (some 31), none⟩, ⟨.op (.mv (.t 31)), (some 5), none⟩])
 [3, 5, 26, 27, 28]
 (.seq (.seq (.reg [⟨.op (.mv (.t 5)), (some 32), none⟩, ⟨.op (.mv (.t 3)), (some 33), none⟩, ⟨.op (.bin .leq 0 (.t 32) (.t 33)), (some 34), none⟩, ⟨.op (.mv (.t 34)), (some 35), none⟩, ⟨.op (.mv (.t 5)), (some 36), (some (35, false))⟩, ⟨.op (.bin .gtr 0 (.t 36) (.c (.int .i64 1000000))), (some 37), (some (35, false))⟩, ⟨.op (.pick (.t 35) (.c (.bool true)) (.t 37)), (some 38), none⟩])
 [5, 26, 27, 28, 38]
 (.cond (.t 38) (.seq (.reg [⟨.op (.build [] []), (some 39), none⟩, ⟨.op (.ifc 45 (.t 39)), (some 40), none⟩, ⟨.op (.build [.nilifc] [(0, 1, (.t 40))]), (some 41), none⟩, ⟨.op (.ifc 64 (.t 41)), (some 42), none⟩, ⟨.op (.mv (.t 42)), (some 2), none⟩])
 [2]
 (.ret)) (.skip)))
 [5, 26, 27, 28]
 (.reg [⟨.op (.mv (.t 5)), (some 43), none⟩, ⟨.op (.mv (.t 43)), (some 3), none⟩]))))
 [3, 26, 27, 28]
 (.reg [⟨.op (.bin .add 0 (.t 28) (.c (.int .i64 1))), (some 44), none⟩, ⟨.op (.mv (.t 44)), (some 28), none⟩])))
theorem u20_0 (call : DCall) (T : Tm) (st : Dv.St) : dCw Try.prog call l20_0 T st = dCw Try.prog call
 (.seq (.reg [⟨.op (.bin .lss 0 (.t 28) (.t 27)), (some 29), none⟩])
 [3, 26, 27, 28, 29]
 (.seq (.cond (.t 29) (.skip) (.exit 0))
 [3, 26, 27, 28]
 (.seq (.block 1 (.seq (.reg [⟨.op (.ia 1 none (.t 26) (.t 28)), (some 30), none⟩, ⟨.op (.ld1 (.t 30)), (some 31), none⟩, ⟨.op (.mv (.t 31)), (some 5), none⟩])
 [3, 5, 26, 27, 28]
 (.seq (.seq (.reg [⟨.op (.mv (.t 5)), (some 32), none⟩, ⟨.op (.mv (.t 3)), (some 33), none⟩, ⟨.op (.bin .leq 0 (.t 32) (.t 33)), (some 34), none⟩, ⟨.op (.mv (.t 34)), (some 35), none⟩, ⟨.op (.mv (.t 5)), (some 36), (some (35, false))⟩, ⟨.op (.bin .gtr 0 (.t 36) (.c (.int .i64 1000000))), (some 37), (some (35, false))⟩, ⟨.op (.pick (.t 35) (.c (.bool true)) (.t 37)), (some 38), none⟩])
 [5, 26, 27, 28, 38]
 (.cond (.t 38) (.seq (.reg [⟨.op (.build [] []), (some 39), none⟩, ⟨.op (.ifc 45 (.t 39)), (some 40), none⟩, ⟨.op (.build [.nilifc] [(0, 1, (.t 40))]), (some 41), none⟩, ⟨.op (.ifc 64 (.t 41)), (some 42), none⟩, ⟨.op (.mv (.t 42)), (some 2), none⟩])
 [2]
 (.ret)) (.skip)))
 [5, 26, 27, 28]
 (.reg [⟨.op (.mv (.t 5)), (some 43), none⟩, ⟨.op (.mv (.t 43)), (some 3), none⟩]))))
 [3, 26, 27, 28]
 (.reg [⟨.op (.bin .add 0 (.t 28) (.c (.int .i64 1))), (some 44), none⟩, ⟨.op (.mv (.t 44)), (some 28), none⟩])))) T st := rfl
/-- cardamom/know.check -/
noncomputable def c20 : DFn := ⟨45, .pure,
 .seq (.reg [⟨.op (.box (.t 0)), (some 1), none⟩, ⟨.op (.mv (.c .nilifc)), (some 2), none⟩])
 [1]
 (.seq (.reg [⟨.op (.fa 0 (.t 1)), (some 6), none⟩, ⟨.op (.ld1 (.t 6)), (some 7), none⟩, ⟨.op (.bin .add 0 (.t 7) (.c (.int .i64 1))), (some 8), none⟩, ⟨.op (.mv (.t 8)), (some 3), none⟩])
 [1, 3]
 (.seq (.seq (.reg [⟨.op (.fa 0 (.t 1)), (some 9), none⟩, ⟨.op (.ld1 (.t 9)), (some 10), none⟩, ⟨.op (.bin .lss 0 (.t 10) (.c (.int .i64 0))), (some 11), none⟩, ⟨.op (.mv (.t 11)), (some 12), none⟩, ⟨.op (.fa 0 (.t 1)), (some 13), (some (12, false))⟩, ⟨.op (.ld1 (.t 13)), (some 14), (some (12, false))⟩, ⟨.op (.bin .gtr 0 (.t 14) (.c (.int .i64 1000000))), (some 15), (some (12, false))⟩, ⟨.op (.pick (.t 12) (.c (.bool true)) (.t 15)), (some 16), none⟩, ⟨.op (.mv (.t 16)), (some 17), none⟩, ⟨.op (.fa 1 (.t 1)), (some 18), (some (17, false))⟩, ⟨.op (.ld1 (.t 18)), (some 19), (some (17, false))⟩, ⟨.op (.len (.t 19)), (some 20), (some (17, false))⟩, ⟨.op (.bin .gtr 0 (.t 20) (.c (.int .i64 60))), (some 21), (some (17, false))⟩, ⟨.op (.pick (.t 17) (.c (.bool true)) (.t 21)), (some 22), none⟩])
 [1, 3, 22]
 (.cond (.t 22) (.seq (.reg [⟨.op (.build [] []), (some 23), none⟩, ⟨.op (.ifc 45 (.t 23)), (some 24), none⟩, ⟨.op (.mv (.t 24)), (some 2), none⟩])
 [2]
 (.ret)) (.skip)))
 [1, 3]
 (.seq (.seq (.reg [⟨.op (.fa 1 (.t 1)), (some 25), none⟩, ⟨.op (.ld1 (.t 25)), (some 26), none⟩, ⟨.op (.len (.t 26)), (some 27), none⟩, ⟨.op (.mv (.c (.int .i64 0))), (some 28), none⟩])
 [3, 26, 27, 28]
 (.block 0 (.loop [3, 26, 27, 28] (l20_0))))
 []
 (.seq (.reg [⟨.op (.mv (.c .nilifc)), (some 2), none⟩])
 [2]
 (.ret))))),
 [.tmp 2]⟩
theorem k20 : cFn Try.prog 20 = some c20.toE := by kernel_rfl
theorem w20 : c20.body.wf = true := by kernel_rfl
/-- cardamom/cardamomref1.SameKnow -/
noncomputable def c10 : DFn := ⟨17, .pure,
 .seq (.reg [⟨.op (.box (.t 0)), (some 2), none⟩, ⟨.op (.box (.t 1)), (some 3), none⟩, ⟨.op (.mv (.c (.bool false))), (some 4), none⟩])
 [2, 3]
 (.seq (.reg [⟨.op (.fa 0 (.t 2)), (some 5), none⟩, ⟨.op (.ld1 (.t 5)), (some 6), none⟩, ⟨.op (.fa 0 (.t 3)), (some 7), none⟩, ⟨.op (.ld1 (.t 7)), (some 8), none⟩, ⟨.op (.bin .eql 0 (.t 6) (.t 8)), (some 9), none⟩, ⟨.op (.mv (.t 9)), (some 10), none⟩, ⟨.op (.fa 1 (.t 2)), (some 11), (some (10, true))⟩, ⟨.op (.ld1 (.t 11)), (some 12), (some (10, true))⟩, ⟨.op (.fa 1 (.t 3)), (some 13), (some (10, true))⟩, ⟨.op (.ld1 (.t 13)), (some 14), (some (10, true))⟩, ⟨.call 23 [(.t 12), (.t 14)], (some 15), (some (10, true))⟩, ⟨.op (.pick (.t 10) (.t 15) (.c (.bool false))), (some 16), none⟩, ⟨.op (.mv (.t 16)), (some 4), none⟩])
 [4]
 (.ret)),
 [.tmp 4]⟩
theorem k10 : cFn Try.prog 10 = some c10.toE := by kernel_rfl
theorem w10 : c10.body.wf = true := by kernel_rfl
noncomputable def l23_0 : DC :=
 .seq (.seq (.reg [⟨.op (.mv (.t 5)), (some 11), none⟩, ⟨.op (.mv (.t 0)), (some 12), none⟩, ⟨.op (.len (.t 12)), (some 13), none⟩, ⟨.op (.bin .lss 0 (.t 11) (.t 13)), (some 14), none⟩])
 [0, 1, 5, 14]
 (.cond (.t 14) (.skip) (.exit 0)))
 [0, 1, 5]
 (.seq (.block 1 (.seq (.drw [⟨⟨.op (.mv (.t 0)), (some 17), none⟩, .n, []⟩, ⟨⟨.op (.mv (.t 5)), (some 18), none⟩, .n, []⟩, ⟨⟨.op (.ia 1 none (.t 17) (.t 18)), (some 19), none⟩, .n, []⟩, ⟨⟨.op (.ld1 (.t 19)), (some 20), none⟩, .n, []⟩, ⟨⟨.op (.mv (.t 1)), (some 21), none⟩, .n, []⟩, ⟨⟨.op (.mv (.t 5)), (some 22), none⟩, .n, []⟩, ⟨⟨.op (.ia 1 none (.t 21) (.t 22)), (some 23), none⟩, .n, []⟩, ⟨⟨.op (.ld1 (.t 23)), (some 24), none⟩, .n, []⟩, ⟨⟨.op (.bin .neq 0 (.t 20) (.t 24)), (some 25), none⟩, .n, []⟩])
 [0, 1, 5, 25]
 (.cond (.t 25) (.seq (.reg [⟨.op (.mv (.c (.bool false))), (some 4), none⟩])
 [4]
 (.ret)) (.skip))))
 [0, 1, 5]
 (.reg [⟨.op (.mv (.t 5)), (some 15), none⟩, ⟨.op (.bin .add 0 (.t 15) (.c (.int .i64 1))), (some 16), none⟩, ⟨.op (.mv (.t 16)), (some 5), none⟩]))
theorem u23_0 (call : DCall) (T : Tm) (st : Dv.St) : dCw Try.prog call l23_0 T st = dCw Try.prog call
 (.seq (.seq (.reg [⟨.op (.mv (.t 5)), (some 11), none⟩, ⟨.op (.mv (.t 0)), (some 12), none⟩, ⟨.op (.len (.t 12)), (some 13), none⟩, ⟨.op (.bin .lss 0 (.t 11) (.t 13)), (some 14), none⟩])
 [0, 1, 5, 14]
 (.cond (.t 14) (.skip) (.exit 0)))
 [0, 1, 5]
 (.seq (.block 1 (.seq (.drw [⟨⟨.op (.mv (.t 0)), (some 17), none⟩, .n, []⟩, ⟨⟨.op (.mv (.t 5)), (some 18), none⟩, .n, []⟩, ⟨⟨.op (.ia 1 none (.t 17) (.t 18)), (some 19), none⟩, .n, []⟩, ⟨⟨.op (.ld1 (.t 19)), (some 20), none⟩, .n, []⟩, ⟨⟨.op (.mv (.t 1)), (some 21), none⟩, .n, []⟩, ⟨⟨.op (.mv (.t 5)), (some 22), none⟩, .n, []⟩, ⟨⟨.op (.ia 1 none (.t 21) (.t 22)), (some 23), none⟩, .n, []⟩, ⟨⟨.op (.ld1 (.t 23)), (some 24), none⟩, .n, []⟩, ⟨⟨.op (.bin .neq 0 (.t 20) (.t 24)), (some 25), none⟩, .n, []⟩])
 [0, 1, 5, 25]
 (.cond (.t 25) (.seq (.reg [⟨.op (.mv (.c (.bool false))), (some 4), none⟩])
 [4]
 (.ret)) (.skip))))
 [0, 1, 5]
 (.reg [⟨.op (.mv (.t 5)), (some 15), none⟩, ⟨.op (.bin .add 0 (.t 15) (.c (.int .i64 1))), (some 16), none⟩, ⟨.op (.mv (.t 16)), (some 5), none⟩]))) T st := rfl
/-- cardamom/cardamomref1.sameInts -/
noncomputable def c23 : DFn := ⟨26, .pure,
 .seq (.reg [⟨.op (.mv (.c (.bool false))), (some 4), none⟩])
 [0, 1]
 (.seq (.seq (.reg [⟨.op (.mv (.t 0)), (some 6), none⟩, ⟨.op (.len (.t 6)), (some 7), none⟩, ⟨.op (.mv (.t 1)), (some 8), none⟩, ⟨.op (.len (.t 8)), (some 9), none⟩, ⟨.op (.bin .neq 0 (.t 7) (.t 9)), (some 10), none⟩])
 [0, 1, 10]
 (.cond (.t 10) (.seq (.reg [⟨.op (.mv (.c (.bool false))), (some 4), none⟩])
 [4]
 (.ret)) (.skip)))
 [0, 1]
 (.seq (.seq (.reg [⟨.op (.mv (.c (.int .i64 0))), (some 5), none⟩])
 [0, 1, 5]
 (.block 0 (.loop [0, 1, 5] (l23_0))))
 []
 (.seq (.reg [⟨.op (.mv (.c (.bool true))), (some 4), none⟩])
 [4]
 (.ret)))),
 [.tmp 4]⟩
theorem k23 : cFn Try.prog 23 = some c23.toE := by kernel_rfl
theorem w23 : c23.body.wf = true := by kernel_rfl
/-- cardamom/cardamomref1.AddNum -/
noncomputable def c13 : DFn := ⟨26, .pure,
 .seq (.reg [⟨.op (.box (.t 0)), (some 2), none⟩, ⟨.op (.new [(.int .i64 0), (.sl none 0)]), (some 4), none⟩])
 [1, 2, 4]
 (.seq (.seq (.reg [⟨.op (.mv (.t 1)), (some 5), none⟩, ⟨.op (.bin .lss 0 (.t 5) (.c (.int .i64 1))), (some 6), none⟩, ⟨.op (.mv (.t 6)), (some 7), none⟩, ⟨.op (.mv (.t 1)), (some 8), (some (7, false))⟩, ⟨.op (.bin .gtr 0 (.t 8) (.c (.int .i64 1000000))), (some 9), (some (7, false))⟩, ⟨.op (.pick (.t 7) (.c (.bool true)) (.t 9)), (some 10), none⟩])
 [1, 2, 4, 10]
 (.cond (.t 10) (.seq (.reg [⟨.op (.fa 0 (.t 2)), (some 11), none⟩, ⟨.op (.ld1 (.t 11)), (some 12), none⟩, ⟨.op (.fa 1 (.t 2)), (some 13), none⟩, ⟨.op (.ld1 (.t 13)), (some 14), none⟩, ⟨.call 27 [(.t 12), (.t 14)], (some 15), none⟩, ⟨.op (.st 2 (.t 4) (.t 15)), none, none⟩])
 [4]
 (.ret)) (.skip)))
 [1, 2, 4]
 (.seq (.drw [⟨⟨.op (.fa 0 (.t 2)), (some 16), none⟩, .n, []⟩, ⟨⟨.op (.ld1 (.t 16)), (some 17), none⟩, .n, []⟩, ⟨⟨.op (.bslice 1 0 [] []), (some 18), none⟩, .a, [(true, 1)]⟩, ⟨⟨.op (.fa 1 (.t 2)), (some 19), none⟩, .n, []⟩, ⟨⟨.op (.ld1 (.t 19)), (some 20), none⟩, .n, []⟩, ⟨⟨.op (.mv (.t 1)), (some 22), none⟩, .n, []⟩, ⟨⟨.op (.bslice 1 1 [(.int .i64 0)] [(0, 1, (.t 22))]), (some 23), none⟩, .a, [(true, 4), (true, 1)]⟩, ⟨⟨.op (.app 1 8 false (.t 18) (.t 20)), (some 21), none⟩, .x, [(false, 6), (true, 1)]⟩, ⟨⟨.op (.app 1 8 false (.t 21) (.t 23)), (some 24), none⟩, .x, [(true, 1)]⟩, ⟨⟨.call 27 [(.t 17), (.t 24)], (some 25), none⟩, .x, []⟩, ⟨⟨.op (.st 2 (.t 4) (.t 25)), none, none⟩, .x, []⟩])
 [4]
 (.ret))),
 [.celln 2 4]⟩
theorem k13 : cFn Try.prog 13 = some c13.toE := by kernel_rfl
theorem w13 : c13.body.wf = true := by kernel_rfl
noncomputable def l39_0 : DC :=
 .seq (.seq (.reg [⟨.op (.mv (.t 6)), (some 15), none⟩, ⟨.op (.fa 1 (.t 2)), (some 16), none⟩, ⟨.op (.ld1 (.t 16)), (some 17), none⟩, ⟨.op (.len (.t 17)), (some 18), none⟩, ⟨.op (.bin .lss 0 (.t 15) (.t 18)), (some 19), none⟩])
 [1, 2, 5, 6, 19]
 (.cond (.t 19) (.skip) (.exit 0)))
 [1, 2, 5, 6]
 (.seq (.block 1 (.reg [⟨.op (.mv (.t 5)), (some 22), none⟩, ⟨.op (.mv (.t 22)), (some 23), none⟩, ⟨.op (.fa 1 (.t 2)), (some 24), (some (23, false))⟩, ⟨.op (.ld1 (.t 24)), (some 25), (some (23, false))⟩, ⟨.op (.mv (.t 6)), (some 26), (some (23, false))⟩, ⟨.op (.ia 1 none (.t 25) (.t 26)), (some 27), (some (23, false))⟩, ⟨.op (.ld1 (.t 27)), (some 28), (some (23, false))⟩, ⟨.op (.mv (.t 1)), (some 29), (some (23, false))⟩, ⟨.op (.bin .eql 0 (.t 28) (.t 29)), (some 30), (some (23, false))⟩, ⟨.op (.pick (.t 23) (.c (.bool true)) (.t 30)), (some 31), none⟩, ⟨.op (.mv (.t 31)), (some 5), none⟩]))
 [1, 2, 5, 6]
 (.reg [⟨.op (.mv (.t 6)), (some 20), none⟩, ⟨.op (.bin .add 0 (.t 20) (.c (.int .i64 1))), (some 21), none⟩, ⟨.op (.mv (.t 21)), (some 6), none⟩]))
theorem u39_0 (call : DCall) (T : Tm) (st : Dv.St) : dCw Try.prog call l39_0 T st = dCw Try.prog call
 (.seq (.seq (.reg [⟨.op (.mv (.t 6)), (some 15), none⟩, ⟨.op (.fa 1 (.t 2)), (some 16), none⟩, ⟨.op (.ld1 (.t 16)), (some 17), none⟩, ⟨.op (.len (.t 17)), (some 18), none⟩, ⟨.op (.bin .lss 0 (.t 15) (.t 18)), (some 19), none⟩])
 [1, 2, 5, 6, 19]
 (.cond (.t 19) (.skip) (.exit 0)))
 [1, 2, 5, 6]
 (.seq (.block 1 (.reg [⟨.op (.mv (.t 5)), (some 22), none⟩, ⟨.op (.mv (.t 22)), (some 23), none⟩, ⟨.op (.fa 1 (.t 2)), (some 24), (some (23, false))⟩, ⟨.op (.ld1 (.t 24)), (some 25), (some (23, false))⟩, ⟨.op (.mv (.t 6)), (some 26), (some (23, false))⟩, ⟨.op (.ia 1 none (.t 25) (.t 26)), (some 27), (some (23, false))⟩, ⟨.op (.ld1 (.t 27)), (some 28), (some (23, false))⟩, ⟨.op (.mv (.t 1)), (some 29), (some (23, false))⟩, ⟨.op (.bin .eql 0 (.t 28) (.t 29)), (some 30), (some (23, false))⟩, ⟨.op (.pick (.t 23) (.c (.bool true)) (.t 30)), (some 31), none⟩, ⟨.op (.mv (.t 31)), (some 5), none⟩]))
 [1, 2, 5, 6]
 (.reg [⟨.op (.mv (.t 6)), (some 20), none⟩, ⟨.op (.bin .add 0 (.t 20) (.c (.int .i64 1))), (some 21), none⟩, ⟨.op (.mv (.t 21)), (some 6), none⟩]))) T st := rfl
/-- cardamom/cardamomref1.HasNum -/
noncomputable def c39 : DFn := ⟨33, .pure,
 .seq (.reg [⟨.op (.box (.t 0)), (some 2), none⟩, ⟨.op (.mv (.c (.bool false))), (some 4), none⟩])
 [1, 2]
 (.seq (.reg [⟨.op (.mv (.t 1)), (some 7), none⟩, ⟨.op (.bin .geq 0 (.t 7) (.c (.int .i64 1))), (some 8), none⟩, ⟨.op (.mv (.t 8)), (some 9), none⟩, ⟨.op (.mv (.t 1)), (some 10), (some (9, true))⟩, ⟨.op (.fa 0 (.t 2)), (some 11), (some (9, true))⟩, ⟨.op (.ld1 (.t 11)), (some 12), (some (9, true))⟩, ⟨.op (.bin .leq 0 (.t 10) (.t 12)), (some 13), (some (9, true))⟩, ⟨.op (.pick (.t 9) (.t 13) (.c (.bool false))), (some 14), none⟩, ⟨.op (.mv (.t 14)), (some 5), none⟩])
 [1, 2, 5]
 (.seq (.seq (.reg [⟨.op (.mv (.c (.int .i64 0))), (some 6), none⟩])
 [1, 2, 5, 6]
 (.block 0 (.loop [1, 2, 5, 6] (l39_0))))
 [5]
 (.seq (.reg [⟨.op (.mv (.t 5)), (some 32), none⟩, ⟨.op (.mv (.t 32)), (some 4), none⟩])
 [4]
 (.ret)))),
 [.tmp 4]⟩
theorem k39 : cFn Try.prog 39 = some c39.toE := by kernel_rfl
theorem w39 : c39.body.wf = true := by kernel_rfl
noncomputable def l27_0 : DC :=
 .seq (.seq (.reg [⟨.op (.mv (.t 7)), (some 13), none⟩, ⟨.op (.mv (.t 1)), (some 14), none⟩, ⟨.op (.len (.t 14)), (some 15), none⟩, ⟨.op (.bin .lss 0 (.t 13) (.t 15)), (some 16), none⟩])
 [1, 4, 5, 6, 7, 16]
 (.cond (.t 16) (.skip) (.exit 2)))
 [1, 4, 5, 6, 7]
 (.seq (.block 3 (.seq (.drw [⟨⟨.op (.mv (.t 1)), (some 19), none⟩, .n, []⟩, ⟨⟨.op (.mv (.t 7)), (some 20), none⟩, .n, []⟩, ⟨⟨.op (.ia 1 none (.t 19) (.t 20)), (some 21), none⟩, .n, []⟩, ⟨⟨.op (.ld1 (.t 21)), (some 22), none⟩, .n, []⟩, ⟨⟨.op (.fa 0 (.t 5)), (some 23), none⟩, .n, []⟩, ⟨⟨.op (.ld1 (.t 23)), (some 24), none⟩, .n, []⟩, ⟨⟨.op (.bin .add 0 (.t 24) (.c (.int .i64 1))), (some 25), none⟩, .n, []⟩, ⟨⟨.op (.bin .eql 0 (.t 22) (.t 25)), (some 26), none⟩, .n, []⟩])
 [1, 4, 5, 6, 7, 26]
 (.cond (.t 26) (.reg [⟨.op (.mv (.t 1)), (some 27), none⟩, ⟨.op (.mv (.t 7)), (some 28), none⟩, ⟨.op (.ia 1 none (.t 27) (.t 28)), (some 29), none⟩, ⟨.op (.ld1 (.t 29)), (some 30), none⟩, ⟨.op (.fa 0 (.t 5)), (some 31), none⟩, ⟨.op (.st 1 (.t 31) (.t 30)), none, none⟩, ⟨.op (.mv (.c (.bool true))), (some 6), none⟩]) (.skip))))
 [1, 4, 5, 6, 7]
 (.reg [⟨.op (.mv (.t 7)), (some 17), none⟩, ⟨.op (.bin .add 0 (.t 17) (.c (.int .i64 1))), (some 18), none⟩, ⟨.op (.mv (.t 18)), (some 7), none⟩]))
theorem u27_0 (call : DCall) (T : Tm) (st : Dv.St) : dCw Try.prog call l27_0 T st = dCw Try.prog call
 (.seq (.seq (.reg [⟨.op (.mv (.t 7)), (some 13), none⟩, ⟨.op (.mv (.t 1)), (some 14), none⟩, ⟨.op (.len (.t 14)), (some 15), none⟩, ⟨.op (.bin .lss 0 (.t 13) (.t 15)), (some 16), none⟩])
 [1, 4, 5, 6, 7, 16]
 (.cond (.t 16) (.skip) (.exit 2)))
 [1, 4, 5, 6, 7]
 (.seq (.block 3 (.seq (.drw [⟨⟨.op (.mv (.t 1)), (some 19), none⟩, .n, []⟩, ⟨⟨.op (.mv (.t 7)), (some 20), none⟩, .n, []⟩, ⟨⟨.op (.ia 1 none (.t 19) (.t 20)), (some 21), none⟩, .n, []⟩, ⟨⟨.op (.ld1 (.t 21)), (some 22), none⟩, .n, []⟩, ⟨⟨.op (.fa 0 (.t 5)), (some 23), none⟩, .n, []⟩, ⟨⟨.op (.ld1 (.t 23)), (some 24), none⟩, .n, []⟩, ⟨⟨.op (.bin .add 0 (.t 24) (.c (.int .i64 1))), (some 25), none⟩, .n, []⟩, ⟨⟨.op (.bin .eql 0 (.t 22) (.t 25)), (some 26), none⟩, .n, []⟩])
 [1, 4, 5, 6, 7, 26]
 (.cond (.t 26) (.reg [⟨.op (.mv (.t 1)), (some 27), none⟩, ⟨.op (.mv (.t 7)), (some 28), none⟩, ⟨.op (.ia 1 none (.t 27) (.t 28)), (some 29), none⟩, ⟨.op (.ld1 (.t 29)), (some 30), none⟩, ⟨.op (.fa 0 (.t 5)), (some 31), none⟩, ⟨.op (.st 1 (.t 31) (.t 30)), none, none⟩, ⟨.op (.mv (.c (.bool true))), (some 6), none⟩]) (.skip))))
 [1, 4, 5, 6, 7]
 (.reg [⟨.op (.mv (.t 7)), (some 17), none⟩, ⟨.op (.bin .add 0 (.t 17) (.c (.int .i64 1))), (some 18), none⟩, ⟨.op (.mv (.t 18)), (some 7), none⟩]))) T st := rfl
noncomputable def l27_1 : DC :=
 .seq (.seq (.reg [⟨.op (.mv (.t 6)), (some 12), none⟩])
 [1, 4, 5, 12]
 (.cond (.t 12) (.skip) (.exit 0)))
 [1, 4, 5]
 (.block 1 (.seq (.reg [⟨.op (.mv (.c (.bool false))), (some 6), none⟩])
 [1, 4, 5, 6]
 (.seq (.reg [⟨.op (.mv (.c (.int .i64 0))), (some 7), none⟩])
 [1, 4, 5, 6, 7]
 (.block 2 (.loop [1, 4, 5, 6, 7] (l27_0))))))
theorem u27_1 (call : DCall) (T : Tm) (st : Dv.St) : dCw Try.prog call l27_1 T st = dCw Try.prog call
 (.seq (.seq (.reg [⟨.op (.mv (.t 6)), (some 12), none⟩])
 [1, 4, 5, 12]
 (.cond (.t 12) (.skip) (.exit 0)))
 [1, 4, 5]
 (.block 1 (.seq (.reg [⟨.op (.mv (.c (.bool false))), (some 6), none⟩])
 [1, 4, 5, 6]
 (.seq (.reg [⟨.op (.mv (.c (.int .i64 0))), (some 7), none⟩])
 [1, 4, 5, 6, 7]
 (.block 2 (.loop [1, 4, 5, 6, 7] (l27_0))))))) T st := rfl
noncomputable def l27_2 : DC :=
 .seq (.seq (.reg [⟨.op (.mv (.t 9)), (some 32), none⟩, ⟨.op (.mv (.t 1)), (some 33), none⟩, ⟨.op (.len (.t 33)), (some 34), none⟩, ⟨.op (.bin .lss 0 (.t 32) (.t 34)), (some 35), none⟩])
 [1, 4, 5, 8, 9, 35]
 (.cond (.t 35) (.skip) (.exit 6)))
 [1, 4, 5, 8, 9]
 (.seq (.block 7 (.seq (.drw [⟨⟨.op (.ldn 2 (.t 5)), (some 38), none⟩, .n, []⟩, ⟨⟨.op (.mv (.t 1)), (some 39), none⟩, .n, []⟩, ⟨⟨.op (.mv (.t 9)), (some 40), none⟩, .n, []⟩, ⟨⟨.op (.ia 1 none (.t 39) (.t 40)), (some 41), none⟩, .n, []⟩, ⟨⟨.op (.ld1 (.t 41)), (some 42), none⟩, .n, []⟩, ⟨⟨.call 39 [(.t 38), (.t 42)], (some 43), none⟩, .x, []⟩, ⟨⟨.op (.not (.t 43)), (some 44), none⟩, .n, []⟩, ⟨⟨.op (.mv (.t 44)), (some 45), none⟩, .n, []⟩, ⟨⟨.op (.mv (.t 1)), (some 46), (some (45, true))⟩, .n, []⟩, ⟨⟨.op (.mv (.t 9)), (some 47), (some (45, true))⟩, .n, []⟩, ⟨⟨.op (.ia 1 none (.t 46) (.t 47)), (some 48), (some (45, true))⟩, .n, []⟩, ⟨⟨.op (.ld1 (.t 48)), (some 49), (some (45, true))⟩, .n, []⟩, ⟨⟨.op (.fa 0 (.t 5)), (some 50), (some (45, true))⟩, .n, []⟩, ⟨⟨.op (.ld1 (.t 50)), (some 51), (some (45, true))⟩, .n, []⟩, ⟨⟨.op (.bin .gtr 0 (.t 49) (.t 51)), (some 52), (some (45, true))⟩, .n, []⟩, ⟨⟨.op (.pick (.t 45) (.t 52) (.c (.bool false))), (some 53), none⟩, .n, []⟩, ⟨⟨.op (.mv (.t 53)), (some 54), none⟩, .n, []⟩, ⟨⟨.op (.mv (.t 8)), (some 55), (some (54, true))⟩, .n, []⟩, ⟨⟨.op (.bin .eql 0 (.t 55) (.c (.int .i64 0))), (some 56), (some (54, true))⟩, .n, []⟩, ⟨⟨.op (.mv (.t 56)), (some 57), (some (54, true))⟩, .n, []⟩, ⟨⟨.op (.mv (.t 1)), (some 58), (some (57, false))⟩, .n, []⟩, ⟨⟨.op (.mv (.t 9)), (some 59), (some (57, false))⟩, .n, []⟩, ⟨⟨.op (.ia 1 none (.t 58) (.t 59)), (some 60), (some (57, false))⟩, .n, []⟩, ⟨⟨.op (.ld1 (.t 60)), (some 61), (some (57, false))⟩, .n, []⟩, ⟨⟨.op (.mv (.t 8)), (some 62), (some (57, false))⟩, .n, []⟩, ⟨⟨.op (.bin .lss 0 (.t 61) (.t 62)), (some 63), (some (57, false))⟩, .n, []⟩, ⟨⟨.op (.pick (.t 57) (.c (.bool true)) (.t 63)), (some 64), (some (54, true))⟩, .n, []⟩, ⟨⟨.op (.pick (.t 54) (.t 64) (.c (.bool false))), (some 65), none⟩, .n, []⟩])
 [1, 4, 5, 8, 9, 65]
 (.cond (.t 65) (.reg [⟨.op (.mv (.t 1)), (some 66), none⟩, ⟨.op (.mv (.t 9)), (some 67), none⟩, ⟨.op (.ia 1 none (.t 66) (.t 67)), (some 68), none⟩, ⟨.op (.ld1 (.t 68)), (some 69), none⟩, ⟨.op (.mv (.t 69)), (some 8), none⟩]) (.skip))))
 [1, 4, 5, 8, 9]
 (.reg [⟨.op (.mv (.t 9)), (some 36), none⟩, ⟨.op (.bin .add 0 (.t 36) (.c (.int .i64 1))), (some 37), none⟩, ⟨.op (.mv (.t 37)), (some 9), none⟩]))
theorem u27_2 (call : DCall) (T : Tm) (st : Dv.St) : dCw Try.prog call l27_2 T st = dCw Try.prog call
 (.seq (.seq (.reg [⟨.op (.mv (.t 9)), (some 32), none⟩, ⟨.op (.mv (.t 1)), (some 33), none⟩, ⟨.op (.len (.t 33)), (some 34), none⟩, ⟨.op (.bin .lss 0 (.t 32) (.t 34)), (some 35), none⟩])
 [1, 4, 5, 8, 9, 35]
 (.cond (.t 35) (.skip) (.exit 6)))
 [1, 4, 5, 8, 9]
 (.seq (.block 7 (.seq (.drw [⟨⟨.op (.ldn 2 (.t 5)), (some 38), none⟩, .n, []⟩, ⟨⟨.op (.mv (.t 1)), (some 39), none⟩, .n, []⟩, ⟨⟨.op (.mv (.t 9)), (some 40), none⟩, .n, []⟩, ⟨⟨.op (.ia 1 none (.t 39) (.t 40)), (some 41), none⟩, .n, []⟩, ⟨⟨.op (.ld1 (.t 41)), (some 42), none⟩, .n, []⟩, ⟨⟨.call 39 [(.t 38), (.t 42)], (some 43), none⟩, .x, []⟩, ⟨⟨.op (.not (.t 43)), (some 44), none⟩, .n, []⟩, ⟨⟨.op (.mv (.t 44)), (some 45), none⟩, .n, []⟩, ⟨⟨.op (.mv (.t 1)), (some 46), (some (45, true))⟩, .n, []⟩, ⟨⟨.op (.mv (.t 9)), (some 47), (some (45, true))⟩, .n, []⟩, ⟨⟨.op (.ia 1 none (.t 46) (.t 47)), (some 48), (some (45, true))⟩, .n, []⟩, ⟨⟨.op (.ld1 (.t 48)), (some 49), (some (45, true))⟩, .n, []⟩, ⟨⟨.op (.fa 0 (.t 5)), (some 50), (some (45, true))⟩, .n, []⟩, ⟨⟨.op (.ld1 (.t 50)), (some 51), (some (45, true))⟩, .n, []⟩, ⟨⟨.op (.bin .gtr 0 (.t 49) (.t 51)), (some 52), (some (45, true))⟩, .n, []⟩, ⟨⟨.op (.pick (.t 45) (.t 52) (.c (.bool false))), (some 53), none⟩, .n, []⟩, ⟨⟨.op (.mv (.t 53)), (some 54), none⟩, .n, []⟩, ⟨⟨.op (.mv (.t 8)), (some 55), (some (54, true))⟩, .n, []⟩, ⟨⟨.op (.bin .eql 0 (.t 55) (.c (.int .i64 0))), (some 56), (some (54, true))⟩, .n, []⟩, ⟨⟨.op (.mv (.t 56)), (some 57), (some (54, true))⟩, .n, []⟩, ⟨⟨.op (.mv (.t 1)), (some 58), (some (57, false))⟩, .n, []⟩, ⟨⟨.op (.mv (.t 9)), (some 59), (some (57, false))⟩, .n, []⟩, ⟨⟨.op (.ia 1 none (.t 58) (.t 59)), (some 60), (some (57, false))⟩, .n, []⟩, ⟨⟨.op (.ld1 (.t 60)), (some 61), (some (57, false))⟩, .n, []⟩, ⟨⟨.op (.mv (.t 8)), (some 62), (some (57, false))⟩, .n, []⟩, ⟨⟨.op (.bin .lss 0 (.t 61) (.t 62)), (some 63), (some (57, false))⟩, .n, []⟩, ⟨⟨.op (.pick (.t 57) (.c (.bool true)) (.t 63)), (some 64), (some (54, true))⟩, .n, []⟩, ⟨⟨.op (.pick (.t 54) (.t 64) (.c (.bool false))), (some 65), none⟩, .n, []⟩])
 [1, 4, 5, 8, 9, 65]
 (.cond (.t 65) (.reg [⟨.op (.mv (.t 1)), (some 66), none⟩, ⟨.op (.mv (.t 9)), (some 67), none⟩, ⟨.op (.ia 1 none (.t 66) (.t 67)), (some 68), none⟩, ⟨.op (.ld1 (.t 68)), (some 69), none⟩, ⟨.op (.mv (.t 69)), (some 8), none⟩]) (.skip))))
 [1, 4, 5, 8, 9]
 (.reg [⟨.op (.mv (.t 9)), (some 36), none⟩, ⟨.op (.bin .add 0 (.t 36) (.c (.int .i64 1))), (some 37), none⟩, ⟨.op (.mv (.t 37)), (some 9), none⟩]))) T st := rfl
noncomputable def l27_3 : DC :=
 .block 5 (.seq (.reg [⟨.op (.mv (.c (.int .i64 0))), (some 8), none⟩])
 [1, 4, 5, 8]
 (.seq (.seq (.reg [⟨.op (.mv (.c (.int .i64 0))), (some 9), none⟩])
 [1, 4, 5, 8, 9]
 (.block 6 (.loop [1, 4, 5, 8, 9] (l27_2))))
 [1, 4, 5, 8]
 (.seq (.seq (.reg [⟨.op (.mv (.t 8)), (some 70), none⟩, ⟨.op (.bin .eql 0 (.t 70) (.c (.int .i64 0))), (some 71), none⟩])
 [1, 4, 5, 8, 71]
 (.cond (.t 71) (.seq (.reg [⟨.op (.ldn 2 (.t 5)), (some 72), none⟩, ⟨.op (.st 2 (.t 4) (.t 72)), none, none⟩])
 [4]
 (.ret)) (.skip)))
 [1, 4, 5, 8]
 (.reg [⟨.op (.fa 1 (.t 5)), (some 73), none⟩, ⟨.op (.ld1 (.t 73)), (some 74), none⟩, ⟨.op (.mv (.t 8)), (some 75), none⟩, ⟨.op (.bslice 1 1 [(.int .i64 0)] [(0, 1, (.t 75))]), (some 76), none⟩, ⟨.op (.app 1 8 false (.t 74) (.t 76)), (some 77), none⟩, ⟨.op (.fa 1 (.t 5)), (some 78), none⟩, ⟨.op (.st 1 (.t 78) (.t 77)), none, none⟩]))))
theorem u27_3 (call : DCall) (T : Tm) (st : Dv.St) : dCw Try.prog call l27_3 T st = dCw Try.prog call
 (.block 5 (.seq (.reg [⟨.op (.mv (.c (.int .i64 0))), (some 8), none⟩])
 [1, 4, 5, 8]
 (.seq (.seq (.reg [⟨.op (.mv (.c (.int .i64 0))), (some 9), none⟩])
 [1, 4, 5, 8, 9]
 (.block 6 (.loop [1, 4, 5, 8, 9] (l27_2))))
 [1, 4, 5, 8]
 (.seq (.seq (.reg [⟨.op (.mv (.t 8)), (some 70), none⟩, ⟨.op (.bin .eql 0 (.t 70) (.c (.int .i64 0))), (some 71), none⟩])
 [1, 4, 5, 8, 71]
 (.cond (.t 71) (.seq (.reg [⟨.op (.ldn 2 (.t 5)), (some 72), none⟩, ⟨.op (.st 2 (.t 4) (.t 72)), none, none⟩])
 [4]
 (.ret)) (.skip)))
 [1, 4, 5, 8]
 (.reg [⟨.op (.fa 1 (.t 5)), (some 73), none⟩, ⟨.op (.ld1 (.t 73)), (some 74), none⟩, ⟨.op (.mv (.t 8)), (some 75), none⟩, ⟨.op (.bslice 1 1 [(.int .i64 0)] [(0, 1, (.t 75))]), (some 76), none⟩, ⟨.op (.app 1 8 false (.t 74) (.t 76)), (some 77), none⟩, ⟨.op (.fa 1 (.t 5)), (some 78), none⟩, ⟨.op (.st 1 (.t 78) (.t 77)), none, none⟩]))))) T st := rfl
/-- cardamom/cardamomref1.Made -/
noncomputable def c27 : DFn := ⟨79, .pure,
 .seq (.reg [⟨.op (.new [(.int .i64 0), (.sl none 0)]), (some 4), none⟩])
 [0, 1, 4]
 (.seq (.reg [⟨.op (.mv (.t 0)), (some 10), none⟩, ⟨.op (.build [(.int .i64 0), (.sl none 0)] [(0, 1, (.t 10))]), (some 11), none⟩, ⟨.op (.new [(.int .i64 0), (.sl none 0)]), (some 5), none⟩, ⟨.op (.st 2 (.t 5) (.t 11)), none, none⟩])
 [1, 4, 5]
 (.seq (.seq (.reg [⟨.op (.mv (.c (.bool true))), (some 6), none⟩])
 [1, 4, 5, 6]
 (.block 0 (.loop [1, 4, 5, 6] (l27_1))))
 [1, 4, 5]
 (.block 4 (.loop [1, 4, 5] (l27_3))))),
 [.celln 2 4]⟩
theorem k27 : cFn Try.prog 27 = some c27.toE := by kernel_rfl
theorem w27 : c27.body.wf = true := by kernel_rfl
noncomputable def l14_0 : DC :=
 .seq (.reg [⟨.op (.bin .lss 0 (.t 11) (.t 10)), (some 12), none⟩])
 [0, 3, 9, 10, 11, 12]
 (.seq (.cond (.t 12) (.skip) (.exit 0))
 [0, 3, 9, 10, 11]
 (.seq (.block 1 (.seq (.reg [⟨.op (.ia 1 none (.t 9) (.t 11)), (some 13), none⟩, ⟨.op (.ld1 (.t 13)), (some 14), none⟩, ⟨.op (.mv (.t 14)), (some 5), none⟩])
 [0, 3, 5, 9, 10, 11]
 (.seq (.reg [⟨.op (.mv (.t 3)), (some 15), none⟩, ⟨.op (.mv (.t 5)), (some 16), none⟩, ⟨.op (.len (.t 16)), (some 17), none⟩, ⟨.op (.bin .add 0 (.t 15) (.t 17)), (some 18), none⟩, ⟨.op (.mv (.t 18)), (some 3), none⟩])
 [0, 3, 9, 10, 11]
 (.seq (.reg [⟨.op (.mv (.t 3)), (some 19), none⟩, ⟨.op (.bin .lss 0 (.t 19) (.c (.int .i64 0))), (some 20), none⟩])
 [0, 3, 9, 10, 11, 20]
 (.cond (.t 20) (.reg [⟨.op (.ifc 9 (.c (.str [108, 101, 110, 32, 111, 117, 116, 32, 111, 102, 32, 114, 97, 110, 103, 101]))), (some 21), none⟩, ⟨.op (.slow (operAt Try.prog 14 17)), none, none⟩]) (.skip))))))
 [0, 3, 9, 10, 11]
 (.reg [⟨.op (.bin .add 0 (.t 11) (.c (.int .i64 1))), (some 22), none⟩, ⟨.op (.mv (.t 22)), (some 11), none⟩])))
theorem u14_0 (call : DCall) (T : Tm) (st : Dv.St) : dCw Try.prog call l14_0 T st = dCw Try.prog call
 (.seq (.reg [⟨.op (.bin .lss 0 (.t 11) (.t 10)), (some 12), none⟩])
 [0, 3, 9, 10, 11, 12]
 (.seq (.cond (.t 12) (.skip) (.exit 0))
 [0, 3, 9, 10, 11]
 (.seq (.block 1 (.seq (.reg [⟨.op (.ia 1 none (.t 9) (.t 11)), (some 13), none⟩, ⟨.op (.ld1 (.t 13)), (some 14), none⟩, ⟨.op (.mv (.t 14)), (some 5), none⟩])
 [0, 3, 5, 9, 10, 11]
 (.seq (.reg [⟨.op (.mv (.t 3)), (some 15), none⟩, ⟨.op (.mv (.t 5)), (some 16), none⟩, ⟨.op (.len (.t 16)), (some 17), none⟩, ⟨.op (.bin .add 0 (.t 15) (.t 17)), (some 18), none⟩, ⟨.op (.mv (.t 18)), (some 3), none⟩])
 [0, 3, 9, 10, 11]
 (.seq (.reg [⟨.op (.mv (.t 3)), (some 19), none⟩, ⟨.op (.bin .lss 0 (.t 19) (.c (.int .i64 0))), (some 20), none⟩])
 [0, 3, 9, 10, 11, 20]
 (.cond (.t 20) (.reg [⟨.op (.ifc 9 (.c (.str [108, 101, 110, 32, 111, 117, 116, 32, 111, 102, 32, 114, 97, 110, 103, 101]))), (some 21), none⟩, ⟨.op (.slow (operAt Try.prog 14 17)), none, none⟩]) (.skip))))))
 [0, 3, 9, 10, 11]
 (.reg [⟨.op (.bin .add 0 (.t 11) (.c (.int .i64 1))), (some 22), none⟩, ⟨.op (.mv (.t 22)), (some 11), none⟩])))) T st := rfl
noncomputable def l14_1 : DC :=
 .seq (.reg [⟨.op (.bin .lss 0 (.t 27) (.t 26)), (some 28), none⟩])
 [6, 25, 26, 27, 28]
 (.seq (.cond (.t 28) (.skip) (.exit 2))
 [6, 25, 26, 27]
 (.seq (.block 3 (.seq (.reg [⟨.op (.ia 1 none (.t 25) (.t 27)), (some 29), none⟩, ⟨.op (.ld1 (.t 29)), (some 30), none⟩, ⟨.op (.mv (.t 30)), (some 8), none⟩])
 [6, 8, 25, 26, 27]
 (.reg [⟨.op (.mv (.t 6)), (some 31), none⟩, ⟨.op (.mv (.t 8)), (some 32), none⟩, ⟨.op (.app 1 8 false (.t 31) (.t 32)), (some 33), none⟩, ⟨.op (.mv (.t 33)), (some 6), none⟩])))
 [6, 25, 26, 27]
 (.reg [⟨.op (.bin .add 0 (.t 27) (.c (.int .i64 1))), (some 34), none⟩, ⟨.op (.mv (.t 34)), (some 27), none⟩])))
theorem u14_1 (call : DCall) (T : Tm) (st : Dv.St) : dCw Try.prog call l14_1 T st = dCw Try.prog call
 (.seq (.reg [⟨.op (.bin .lss 0 (.t 27) (.t 26)), (some 28), none⟩])
 [6, 25, 26, 27, 28]
 (.seq (.cond (.t 28) (.skip) (.exit 2))
 [6, 25, 26, 27]
 (.seq (.block 3 (.seq (.reg [⟨.op (.ia 1 none (.t 25) (.t 27)), (some 29), none⟩, ⟨.op (.ld1 (.t 29)), (some 30), none⟩, ⟨.op (.mv (.t 30)), (some 8), none⟩])
 [6, 8, 25, 26, 27]
 (.reg [⟨.op (.mv (.t 6)), (some 31), none⟩, ⟨.op (.mv (.t 8)), (some 32), none⟩, ⟨.op (.app 1 8 false (.t 31) (.t 32)), (some 33), none⟩, ⟨.op (.mv (.t 33)), (some 6), none⟩])))
 [6, 25, 26, 27]
 (.reg [⟨.op (.bin .add 0 (.t 27) (.c (.int .i64 1))), (some 34), none⟩, ⟨.op (.mv (.t 34)), (some 27), none⟩])))) T st := rfl
/-- slices.Concat[[]int,int] -/
noncomputable def c14 : DFn := ⟨36, .own,
 .seq (.reg [⟨.op (.mv (.c (.sl none 0))), (some 2), none⟩])
 [0]
 (.seq (.reg [⟨.op (.mv (.c (.int .i64 0))), (some 3), none⟩])
 [0, 3]
 (.seq (.seq (.reg [⟨.op (.mv (.t 0)), (some 9), none⟩, ⟨.op (.len (.t 9)), (some 10), none⟩, ⟨.op (.mv (.c (.int .i64 0))), (some 11), none⟩])
 [0, 3, 9, 10, 11]
 (.block 0 (.loop [0, 3, 9, 10, 11] (l14_0))))
 [0, 3]
 (.seq (.reg [⟨.op (.mv (.t 3)), (some 23), none⟩, ⟨.call 28 [(.c (.sl none 0)), (.t 23)], (some 24), none⟩, ⟨.op (.mv (.t 24)), (some 6), none⟩])
 [0, 6]
 (.seq (.seq (.reg [⟨.op (.mv (.t 0)), (some 25), none⟩, ⟨.op (.len (.t 25)), (some 26), none⟩, ⟨.op (.mv (.c (.int .i64 0))), (some 27), none⟩])
 [6, 25, 26, 27]
 (.block 2 (.loop [6, 25, 26, 27] (l14_1))))
 [6]
 (.seq (.reg [⟨.op (.mv (.t 6)), (some 35), none⟩, ⟨.op (.mv (.t 35)), (some 2), none⟩])
 [2]
 (.ret)))))),
 [.tmp 2]⟩
theorem k14 : cFn Try.prog 14 = some c14.toE := by kernel_rfl
theorem w14 : c14.body.wf = true := by kernel_rfl
/-- slices.Grow[[]int,int] -/
noncomputable def c28 : DFn := ⟨27, .own,
 .seq (.reg [⟨.op (.mv (.c (.sl none 0))), (some 4), none⟩])
 [0, 1]
 (.seq (.seq (.reg [⟨.op (.mv (.t 1)), (some 5), none⟩, ⟨.op (.bin .lss 0 (.t 5) (.c (.int .i64 0))), (some 6), none⟩])
 [0, 1, 6]
 (.cond (.t 6) (.reg [⟨.op (.ifc 9 (.c (.str [99, 97, 110, 110, 111, 116, 32, 98, 101, 32, 110, 101, 103, 97, 116, 105, 118, 101]))), (some 7), none⟩, ⟨.op (.slow (operAt Try.prog 28 4)), none, none⟩]) (.skip)))
 [0, 1]
 (.seq (.seq (.reg [⟨.op (.mv (.t 1)), (some 8), none⟩, ⟨.op (.mv (.t 0)), (some 9), none⟩, ⟨.op (.slow (operAt Try.prog 28 7)), (some 10), none⟩, ⟨.op (.mv (.t 0)), (some 11), none⟩, ⟨.op (.len (.t 11)), (some 12), none⟩, ⟨.op (.bin .sub 0 (.t 10) (.t 12)), (some 13), none⟩, ⟨.op (.bin .sub 0 (.t 8) (.t 13)), (some 14), none⟩, ⟨.op (.mv (.t 14)), (some 1), none⟩])
 [0, 1]
 (.seq (.reg [⟨.op (.mv (.t 1)), (some 15), none⟩, ⟨.op (.bin .gtr 0 (.t 15) (.c (.int .i64 0))), (some 16), none⟩])
 [0, 1, 16]
 (.cond (.t 16) (.reg [⟨.op (.mv (.t 0)), (some 17), none⟩, ⟨.op (.mv (.t 0)), (some 18), none⟩, ⟨.op (.slow (operAt Try.prog 28 17)), (some 19), none⟩, ⟨.op (.cut 1 none (.t 17) none (some (.t 19))), (some 20), none⟩, ⟨.op (.mv (.t 1)), (some 21), none⟩, ⟨.op (.grow 1 8 [(.int .i64 0)] (.t 20) (.t 21)), (some 22), none⟩, ⟨.op (.mv (.t 0)), (some 23), none⟩, ⟨.op (.len (.t 23)), (some 24), none⟩, ⟨.op (.cut 1 none (.t 22) none (some (.t 24))), (some 25), none⟩, ⟨.op (.mv (.t 25)), (some 0), none⟩]) (.skip))))
 [0]
 (.seq (.reg [⟨.op (.mv (.t 0)), (some 26), none⟩, ⟨.op (.mv (.t 26)), (some 4), none⟩])
 [4]
 (.ret)))),
 [.tmp 4]⟩
theorem k28 : cFn Try.prog 28 = some c28.toE := by kernel_rfl
theorem w28 : c28.body.wf = true := by kernel_rfl
noncomputable def l17_0 : DC :=
 .seq (.seq (.reg [⟨.op (.mv (.t 5)), (some 29), none⟩, ⟨.op (.mv (.t 4)), (some 30), none⟩, ⟨.op (.len (.t 30)), (some 31), none⟩, ⟨.op (.bin .lss 0 (.t 29) (.t 31)), (some 32), none⟩])
 [0, 3, 4, 5, 32]
 (.cond (.t 32) (.skip) (.exit 2)))
 [0, 3, 4, 5]
 (.seq (.block 3 (.seq (.drw [⟨⟨.op (.mv (.t 4)), (some 35), none⟩, .n, []⟩, ⟨⟨.op (.mv (.t 5)), (some 36), none⟩, .n, []⟩, ⟨⟨.op (.ia 1 none (.t 35) (.t 36)), (some 37), none⟩, .n, []⟩, ⟨⟨.op (.ld1 (.t 37)), (some 38), none⟩, .n, []⟩, ⟨⟨.op (.mv (.t 4)), (some 39), none⟩, .n, []⟩, ⟨⟨.op (.mv (.t 5)), (some 40), none⟩, .n, []⟩, ⟨⟨.op (.bin .sub 0 (.t 40) (.c (.int .i64 1))), (some 41), none⟩, .n, []⟩, ⟨⟨.op (.ia 1 none (.t 39) (.t 41)), (some 42), none⟩, .n, []⟩, ⟨⟨.op (.ld1 (.t 42)), (some 43), none⟩, .n, []⟩, ⟨⟨.op (.bin .neq 0 (.t 38) (.t 43)), (some 44), none⟩, .n, []⟩])
 [0, 3, 4, 5, 44]
 (.cond (.t 44) (.seq (.reg [⟨.op (.mv (.t 0)), (some 45), none⟩, ⟨.op (.mv (.t 3)), (some 46), none⟩, ⟨.op (.mv (.t 4)), (some 47), none⟩, ⟨.op (.mv (.t 5)), (some 48), none⟩, ⟨.op (.ia 1 none (.t 47) (.t 48)), (some 49), none⟩, ⟨.op (.ld1 (.t 49)), (some 50), none⟩, ⟨.op (.ia 1 none (.t 45) (.t 46)), (some 51), none⟩, ⟨.op (.st 1 (.t 51) (.t 50)), none, none⟩])
 [0, 3, 4, 5]
 (.reg [⟨.op (.mv (.t 3)), (some 52), none⟩, ⟨.op (.bin .add 0 (.t 52) (.c (.int .i64 1))), (some 53), none⟩, ⟨.op (.mv (.t 53)), (some 3), none⟩])) (.skip))))
 [0, 3, 4, 5]
 (.reg [⟨.op (.mv (.t 5)), (some 33), none⟩, ⟨.op (.bin .add 0 (.t 33) (.c (.int .i64 1))), (some 34), none⟩, ⟨.op (.mv (.t 34)), (some 5), none⟩]))
theorem u17_0 (call : DCall) (T : Tm) (st : Dv.St) : dCw Try.prog call l17_0 T st = dCw Try.prog call
 (.seq (.seq (.reg [⟨.op (.mv (.t 5)), (some 29), none⟩, ⟨.op (.mv (.t 4)), (some 30), none⟩, ⟨.op (.len (.t 30)), (some 31), none⟩, ⟨.op (.bin .lss 0 (.t 29) (.t 31)), (some 32), none⟩])
 [0, 3, 4, 5, 32]
 (.cond (.t 32) (.skip) (.exit 2)))
 [0, 3, 4, 5]
 (.seq (.block 3 (.seq (.drw [⟨⟨.op (.mv (.t 4)), (some 35), none⟩, .n, []⟩, ⟨⟨.op (.mv (.t 5)), (some 36), none⟩, .n, []⟩, ⟨⟨.op (.ia 1 none (.t 35) (.t 36)), (some 37), none⟩, .n, []⟩, ⟨⟨.op (.ld1 (.t 37)), (some 38), none⟩, .n, []⟩, ⟨⟨.op (.mv (.t 4)), (some 39), none⟩, .n, []⟩, ⟨⟨.op (.mv (.t 5)), (some 40), none⟩, .n, []⟩, ⟨⟨.op (.bin .sub 0 (.t 40) (.c (.int .i64 1))), (some 41), none⟩, .n, []⟩, ⟨⟨.op (.ia 1 none (.t 39) (.t 41)), (some 42), none⟩, .n, []⟩, ⟨⟨.op (.ld1 (.t 42)), (some 43), none⟩, .n, []⟩, ⟨⟨.op (.bin .neq 0 (.t 38) (.t 43)), (some 44), none⟩, .n, []⟩])
 [0, 3, 4, 5, 44]
 (.cond (.t 44) (.seq (.reg [⟨.op (.mv (.t 0)), (some 45), none⟩, ⟨.op (.mv (.t 3)), (some 46), none⟩, ⟨.op (.mv (.t 4)), (some 47), none⟩, ⟨.op (.mv (.t 5)), (some 48), none⟩, ⟨.op (.ia 1 none (.t 47) (.t 48)), (some 49), none⟩, ⟨.op (.ld1 (.t 49)), (some 50), none⟩, ⟨.op (.ia 1 none (.t 45) (.t 46)), (some 51), none⟩, ⟨.op (.st 1 (.t 51) (.t 50)), none, none⟩])
 [0, 3, 4, 5]
 (.reg [⟨.op (.mv (.t 3)), (some 52), none⟩, ⟨.op (.bin .add 0 (.t 52) (.c (.int .i64 1))), (some 53), none⟩, ⟨.op (.mv (.t 53)), (some 3), none⟩])) (.skip))))
 [0, 3, 4, 5]
 (.reg [⟨.op (.mv (.t 5)), (some 33), none⟩, ⟨.op (.bin .add 0 (.t 33) (.c (.int .i64 1))), (some 34), none⟩, ⟨.op (.mv (.t 34)), (some 5), none⟩]))) T st := rfl
noncomputable def l17_1 : DC :=
 .seq (.seq (.reg [⟨.op (.mv (.t 3)), (some 10), none⟩, ⟨.op (.mv (.t 0)), (some 11), none⟩, ⟨.op (.len (.t 11)), (some 12), none⟩, ⟨.op (.bin .lss 0 (.t 10) (.t 12)), (some 13), none⟩])
 [0, 3, 13]
 (.cond (.t 13) (.skip) (.exit 0)))
 [0, 3]
 (.seq (.block 1 (.seq (.drw [⟨⟨.op (.mv (.t 0)), (some 16), none⟩, .n, []⟩, ⟨⟨.op (.mv (.t 3)), (some 17), none⟩, .n, []⟩, ⟨⟨.op (.ia 1 none (.t 16) (.t 17)), (some 18), none⟩, .n, []⟩, ⟨⟨.op (.ld1 (.t 18)), (some 19), none⟩, .n, []⟩, ⟨⟨.op (.mv (.t 0)), (some 20), none⟩, .n, []⟩, ⟨⟨.op (.mv (.t 3)), (some 21), none⟩, .n, []⟩, ⟨⟨.op (.bin .sub 0 (.t 21) (.c (.int .i64 1))), (some 22), none⟩, .n, []⟩, ⟨⟨.op (.ia 1 none (.t 20) (.t 22)), (some 23), none⟩, .n, []⟩, ⟨⟨.op (.ld1 (.t 23)), (some 24), none⟩, .n, []⟩, ⟨⟨.op (.bin .eql 0 (.t 19) (.t 24)), (some 25), none⟩, .n, []⟩])
 [0, 3, 25]
 (.cond (.t 25) (.seq (.reg [⟨.op (.mv (.t 0)), (some 26), none⟩, ⟨.op (.mv (.t 3)), (some 27), none⟩, ⟨.op (.cut 1 none (.t 26) (some (.t 27)) none), (some 28), none⟩, ⟨.op (.mv (.t 28)), (some 4), none⟩])
 [0, 3, 4]
 (.seq (.seq (.reg [⟨.op (.mv (.c (.int .i64 1))), (some 5), none⟩])
 [0, 3, 4, 5]
 (.block 2 (.loop [0, 3, 4, 5] (l17_0))))
 [0, 3]
 (.seq (.reg [⟨.op (.mv (.t 0)), (some 54), none⟩, ⟨.op (.mv (.t 3)), (some 55), none⟩, ⟨.op (.cut 1 none (.t 54) (some (.t 55)) none), (some 56), none⟩, ⟨.op (.clr 1 [(.int .i64 0)] (.t 56)), none, none⟩])
 [0, 3]
 (.seq (.reg [⟨.op (.mv (.t 0)), (some 57), none⟩, ⟨.op (.mv (.t 3)), (some 58), none⟩, ⟨.op (.cut 1 none (.t 57) none (some (.t 58))), (some 59), none⟩, ⟨.op (.mv (.t 59)), (some 2), none⟩])
 [2]
 (.ret))))) (.skip))))
 [0, 3]
 (.reg [⟨.op (.mv (.t 3)), (some 14), none⟩, ⟨.op (.bin .add 0 (.t 14) (.c (.int .i64 1))), (some 15), none⟩, ⟨.op (.mv (.t 15)), (some 3), none⟩]))
theorem u17_1 (call : DCall) (T : Tm) (st : Dv.St) : dCw Try.prog call l17_1 T st = dCw Try.prog call
 (.seq (.seq (.reg [⟨.op (.mv (.t 3)), (some 10), none⟩, ⟨.op (.mv (.t 0)), (some 11), none⟩, ⟨.op (.len (.t 11)), (some 12), none⟩, ⟨.op (.bin .lss 0 (.t 10) (.t 12)), (some 13), none⟩])
 [0, 3, 13]
 (.cond (.t 13) (.skip) (.exit 0)))
 [0, 3]
 (.seq (.block 1 (.seq (.drw [⟨⟨.op (.mv (.t 0)), (some 16), none⟩, .n, []⟩, ⟨⟨.op (.mv (.t 3)), (some 17), none⟩, .n, []⟩, ⟨⟨.op (.ia 1 none (.t 16) (.t 17)), (some 18), none⟩, .n, []⟩, ⟨⟨.op (.ld1 (.t 18)), (some 19), none⟩, .n, []⟩, ⟨⟨.op (.mv (.t 0)), (some 20), none⟩, .n, []⟩, ⟨⟨.op (.mv (.t 3)), (some 21), none⟩, .n, []⟩, ⟨⟨.op (.bin .sub 0 (.t 21) (.c (.int .i64 1))), (some 22), none⟩, .n, []⟩, ⟨⟨.op (.ia 1 none (.t 20) (.t 22)), (some 23), none⟩, .n, []⟩, ⟨⟨.op (.ld1 (.t 23)), (some 24), none⟩, .n, []⟩, ⟨⟨.op (.bin .eql 0 (.t 19) (.t 24)), (some 25), none⟩, .n, []⟩])
 [0, 3, 25]
 (.cond (.t 25) (.seq (.reg [⟨.op (.mv (.t 0)), (some 26), none⟩, ⟨.op (.mv (.t 3)), (some 27), none⟩, ⟨.op (.cut 1 none (.t 26) (some (.t 27)) none), (some 28), none⟩, ⟨.op (.mv (.t 28)), (some 4), none⟩])
 [0, 3, 4]
 (.seq (.seq (.reg [⟨.op (.mv (.c (.int .i64 1))), (some 5), none⟩])
 [0, 3, 4, 5]
 (.block 2 (.loop [0, 3, 4, 5] (l17_0))))
 [0, 3]
 (.seq (.reg [⟨.op (.mv (.t 0)), (some 54), none⟩, ⟨.op (.mv (.t 3)), (some 55), none⟩, ⟨.op (.cut 1 none (.t 54) (some (.t 55)) none), (some 56), none⟩, ⟨.op (.clr 1 [(.int .i64 0)] (.t 56)), none, none⟩])
 [0, 3]
 (.seq (.reg [⟨.op (.mv (.t 0)), (some 57), none⟩, ⟨.op (.mv (.t 3)), (some 58), none⟩, ⟨.op (.cut 1 none (.t 57) none (some (.t 58))), (some 59), none⟩, ⟨.op (.mv (.t 59)), (some 2), none⟩])
 [2]
 (.ret))))) (.skip))))
 [0, 3]
 (.reg [⟨.op (.mv (.t 3)), (some 14), none⟩, ⟨.op (.bin .add 0 (.t 14) (.c (.int .i64 1))), (some 15), none⟩, ⟨.op (.mv (.t 15)), (some 3), none⟩]))) T st := rfl
/-- slices.Compact[[]int,int] -/
noncomputable def c17 : DFn := ⟨61, .own,
 .seq (.reg [⟨.op (.mv (.c (.sl none 0))), (some 2), none⟩])
 [0]
 (.seq (.seq (.reg [⟨.op (.mv (.t 0)), (some 6), none⟩, ⟨.op (.len (.t 6)), (some 7), none⟩, ⟨.op (.bin .lss 0 (.t 7) (.c (.int .i64 2))), (some 8), none⟩])
 [0, 8]
 (.cond (.t 8) (.seq (.reg [⟨.op (.mv (.t 0)), (some 9), none⟩, ⟨.op (.mv (.t 9)), (some 2), none⟩])
 [2]
 (.ret)) (.skip)))
 [0]
 (.seq (.seq (.reg [⟨.op (.mv (.c (.int .i64 1))), (some 3), none⟩])
 [0, 3]
 (.block 0 (.loop [0, 3] (l17_1))))
 [0]
 (.seq (.reg [⟨.op (.mv (.t 0)), (some 60), none⟩, ⟨.op (.mv (.t 60)), (some 2), none⟩])
 [2]
 (.ret)))),
 [.tmp 2]⟩
theorem k17 : cFn Try.prog 17 = some c17.toE := by kernel_rfl
theorem w17 : c17.body.wf = true := by kernel_rfl
/-- slices.Contains[[]int,int] -/
noncomputable def c18 : DFn := ⟨9, .pure,
 .seq (.reg [⟨.op (.mv (.c (.bool false))), (some 4), none⟩])
 [0, 1]
 (.seq (.reg [⟨.op (.mv (.t 0)), (some 5), none⟩, ⟨.op (.mv (.t 1)), (some 6), none⟩, ⟨.call 31 [(.t 5), (.t 6)], (some 7), none⟩, ⟨.op (.bin .geq 0 (.t 7) (.c (.int .i64 0))), (some 8), none⟩, ⟨.op (.mv (.t 8)), (some 4), none⟩])
 [4]
 (.ret)),
 [.tmp 4]⟩
theorem k18 : cFn Try.prog 18 = some c18.toE := by kernel_rfl
theorem w18 : c18.body.wf = true := by kernel_rfl
noncomputable def l31_0 : DC :=
 .seq (.reg [⟨.op (.bin .lss 0 (.t 8) (.t 7)), (some 9), none⟩])
 [0, 1, 7, 8, 9]
 (.seq (.cond (.t 9) (.skip) (.exit 0))
 [0, 1, 7, 8]
 (.seq (.block 1 (.seq (.reg [⟨.op (.mv (.t 8)), (some 10), none⟩, ⟨.op (.mv (.t 10)), (some 5), none⟩])
 [0, 1, 5, 7, 8]
 (.seq (.reg [⟨.op (.mv (.t 1)), (some 11), none⟩, ⟨.op (.mv (.t 0)), (some 12), none⟩, ⟨.op (.mv (.t 5)), (some 13), none⟩, ⟨.op (.ia 1 none (.t 12) (.t 13)), (some 14), none⟩, ⟨.op (.ld1 (.t 14)), (some 15), none⟩, ⟨.op (.bin .eql 0 (.t 11) (.t 15)), (some 16), none⟩])
 [0, 1, 5, 7, 8, 16]
 (.cond (.t 16) (.seq (.reg [⟨.op (.mv (.t 5)), (some 17), none⟩, ⟨.op (.mv (.t 17)), (some 4), none⟩])
 [4]
 (.ret)) (.skip)))))
 [0, 1, 7, 8]
 (.reg [⟨.op (.bin .add 0 (.t 8) (.c (.int .i64 1))), (some 18), none⟩, ⟨.op (.mv (.t 18)), (some 8), none⟩])))
theorem u31_0 (call : DCall) (T : Tm) (st : Dv.St) : dCw Try.prog call l31_0 T st = dCw Try.prog call
 (.seq (.reg [⟨.op (.bin .lss 0 (.t 8) (.t 7)), (some 9), none⟩])
 [0, 1, 7, 8, 9]
 (.seq (.cond (.t 9) (.skip) (.exit 0))
 [0, 1, 7, 8]
 (.seq (.block 1 (.seq (.reg [⟨.op (.mv (.t 8)), (some 10), none⟩, ⟨.op (.mv (.t 10)), (some 5), none⟩])
 [0, 1, 5, 7, 8]
 (.seq (.reg [⟨.op (.mv (.t 1)), (some 11), none⟩, ⟨.op (.mv (.t 0)), (some 12), none⟩, ⟨.op (.mv (.t 5)), (some 13), none⟩, ⟨.op (.ia 1 none (.t 12) (.t 13)), (some 14), none⟩, ⟨.op (.ld1 (.t 14)), (some 15), none⟩, ⟨.op (.bin .eql 0 (.t 11) (.t 15)), (some 16), none⟩])
 [0, 1, 5, 7, 8, 16]
 (.cond (.t 16) (.seq (.reg [⟨.op (.mv (.t 5)), (some 17), none⟩, ⟨.op (.mv (.t 17)), (some 4), none⟩])
 [4]
 (.ret)) (.skip)))))
 [0, 1, 7, 8]
 (.reg [⟨.op (.bin .add 0 (.t 8) (.c (.int .i64 1))), (some 18), none⟩, ⟨.op (.mv (.t 18)), (some 8), none⟩])))) T st := rfl
/-- slices.Index[[]int,int] -/
noncomputable def c31 : DFn := ⟨19, .pure,
 .seq (.reg [⟨.op (.mv (.c (.int .i64 0))), (some 4), none⟩])
 [0, 1]
 (.seq (.seq (.reg [⟨.op (.mv (.t 0)), (some 6), none⟩, ⟨.op (.len (.t 6)), (some 7), none⟩, ⟨.op (.mv (.c (.int .i64 0))), (some 8), none⟩])
 [0, 1, 7, 8]
 (.block 0 (.loop [0, 1, 7, 8] (l31_0))))
 []
 (.seq (.reg [⟨.op (.mv (.c (.int .i64 (-1)))), (some 4), none⟩])
 [4]
 (.ret))),
 [.tmp 4]⟩
theorem k31 : cFn Try.prog 31 = some c31.toE := by kernel_rfl
theorem w31 : c31.body.wf = true := by kernel_rfl
/-- slices.ContainsFunc[[]int,int] -/
noncomputable def c21 : DFn := ⟨9, .pure,
 .seq (.reg [⟨.op (.mv (.c (.bool false))), (some 4), none⟩])
 [0, 1]
 (.seq (.reg [⟨.op (.mv (.t 0)), (some 5), none⟩, ⟨.op (.mv (.t 1)), (some 6), none⟩, ⟨.call 34 [(.t 5), (.t 6)], (some 7), none⟩, ⟨.op (.bin .geq 0 (.t 7) (.c (.int .i64 0))), (some 8), none⟩, ⟨.op (.mv (.t 8)), (some 4), none⟩])
 [4]
 (.ret)),
 [.tmp 4]⟩
theorem k21 : cFn Try.prog 21 = some c21.toE := by kernel_rfl
theorem w21 : c21.body.wf = true := by kernel_rfl
noncomputable def l34_0 : DC :=
 .seq (.reg [⟨.op (.bin .lss 0 (.t 8) (.t 7)), (some 9), none⟩])
 [0, 1, 7, 8, 9]
 (.seq (.cond (.t 9) (.skip) (.exit 0))
 [0, 1, 7, 8]
 (.seq (.block 1 (.seq (.reg [⟨.op (.mv (.t 8)), (some 10), none⟩, ⟨.op (.mv (.t 10)), (some 5), none⟩])
 [0, 1, 5, 7, 8]
 (.seq (.reg [⟨.op (.mv (.t 1)), (some 11), none⟩, ⟨.op (.mv (.t 0)), (some 12), none⟩, ⟨.op (.mv (.t 5)), (some 13), none⟩, ⟨.op (.ia 1 none (.t 12) (.t 13)), (some 14), none⟩, ⟨.op (.ld1 (.t 14)), (some 15), none⟩, ⟨.callv (.t 11) [(.t 15)], (some 16), none⟩])
 [0, 1, 5, 7, 8, 16]
 (.cond (.t 16) (.seq (.reg [⟨.op (.mv (.t 5)), (some 17), none⟩, ⟨.op (.mv (.t 17)), (some 4), none⟩])
 [4]
 (.ret)) (.skip)))))
 [0, 1, 7, 8]
 (.reg [⟨.op (.bin .add 0 (.t 8) (.c (.int .i64 1))), (some 18), none⟩, ⟨.op (.mv (.t 18)), (some 8), none⟩])))
theorem u34_0 (call : DCall) (T : Tm) (st : Dv.St) : dCw Try.prog call l34_0 T st = dCw Try.prog call
 (.seq (.reg [⟨.op (.bin .lss 0 (.t 8) (.t 7)), (some 9), none⟩])
 [0, 1, 7, 8, 9]
 (.seq (.cond (.t 9) (.skip) (.exit 0))
 [0, 1, 7, 8]
 (.seq (.block 1 (.seq (.reg [⟨.op (.mv (.t 8)), (some 10), none⟩, ⟨.op (.mv (.t 10)), (some 5), none⟩])
 [0, 1, 5, 7, 8]
 (.seq (.reg [⟨.op (.mv (.t 1)), (some 11), none⟩, ⟨.op (.mv (.t 0)), (some 12), none⟩, ⟨.op (.mv (.t 5)), (some 13), none⟩, ⟨.op (.ia 1 none (.t 12) (.t 13)), (some 14), none⟩, ⟨.op (.ld1 (.t 14)), (some 15), none⟩, ⟨.callv (.t 11) [(.t 15)], (some 16), none⟩])
 [0, 1, 5, 7, 8, 16]
 (.cond (.t 16) (.seq (.reg [⟨.op (.mv (.t 5)), (some 17), none⟩, ⟨.op (.mv (.t 17)), (some 4), none⟩])
 [4]
 (.ret)) (.skip)))))
 [0, 1, 7, 8]
 (.reg [⟨.op (.bin .add 0 (.t 8) (.c (.int .i64 1))), (some 18), none⟩, ⟨.op (.mv (.t 18)), (some 8), none⟩])))) T st := rfl
/-- slices.IndexFunc[[]int,int] -/
noncomputable def c34 : DFn := ⟨19, .pure,
 .seq (.reg [⟨.op (.mv (.c (.int .i64 0))), (some 4), none⟩])
 [0, 1]
 (.seq (.seq (.reg [⟨.op (.mv (.t 0)), (some 6), none⟩, ⟨.op (.len (.t 6)), (some 7), none⟩, ⟨.op (.mv (.c (.int .i64 0))), (some 8), none⟩])
 [0, 1, 7, 8]
 (.block 0 (.loop [0, 1, 7, 8] (l34_0))))
 []
 (.seq (.reg [⟨.op (.mv (.c (.int .i64 (-1)))), (some 4), none⟩])
 [4]
 (.ret))),
 [.tmp 4]⟩
theorem k34 : cFn Try.prog 34 = some c34.toE := by kernel_rfl
theorem w34 : c34.body.wf = true := by kernel_rfl
/-- errors.Is -/
noncomputable def c19 : DFn := ⟨22, .pure,
 .seq (.reg [⟨.op (.mv (.c (.bool false))), (some 4), none⟩])
 [0, 1]
 (.seq (.seq (.reg [⟨.op (.mv (.t 0)), (some 6), none⟩, ⟨.op (.bin .eql 4 (.t 6) (.c .nilifc)), (some 7), none⟩, ⟨.op (.mv (.t 7)), (some 8), none⟩, ⟨.op (.mv (.t 1)), (some 9), (some (8, false))⟩, ⟨.op (.bin .eql 4 (.t 9) (.c .nilifc)), (some 10), (some (8, false))⟩, ⟨.op (.pick (.t 8) (.c (.bool true)) (.t 10)), (some 11), none⟩])
 [0, 1, 11]
 (.cond (.t 11) (.seq (.reg [⟨.op (.mv (.t 0)), (some 12), none⟩, ⟨.op (.mv (.t 1)), (some 13), none⟩, ⟨.op (.slow (operAt Try.prog 19 9)), (some 14), none⟩, ⟨.op (.mv (.t 14)), (some 4), none⟩])
 [4]
 (.ret)) (.skip)))
 [0, 1]
 (.seq (.reg [⟨.op (.mv (.t 1)), (some 15), none⟩, ⟨.ext (operAt Try.prog 19 12), (some 16), none⟩, ⟨.inv (.t 16) "Comparable" [] (operAt Try.prog 19 13), (some 17), none⟩, ⟨.op (.mv (.t 17)), (some 5), none⟩])
 [0, 1, 5]
 (.seq (.reg [⟨.op (.mv (.t 0)), (some 18), none⟩, ⟨.op (.mv (.t 1)), (some 19), none⟩, ⟨.op (.mv (.t 5)), (some 20), none⟩, ⟨.call 33 [(.t 18), (.t 19), (.t 20)], (some 21), none⟩, ⟨.op (.mv (.t 21)), (some 4), none⟩])
 [4]
 (.ret)))),
 [.tmp 4]⟩
theorem k19 : cFn Try.prog 19 = some c19.toE := by kernel_rfl
theorem w19 : c19.body.wf = true := by kernel_rfl
/-- slices.Clone[[]int,int] -/
noncomputable def c24 : DFn := ⟨8, .pure,
 .seq (.reg [⟨.op (.mv (.c (.sl none 0))), (some 2), none⟩])
 [0]
 (.seq (.seq (.reg [⟨.op (.mv (.t 0)), (some 3), none⟩, ⟨.op (.bin .eql 1 (.t 3) (.c (.sl none 0))), (some 4), none⟩])
 [0, 4]
 (.cond (.t 4) (.seq (.reg [⟨.op (.mv (.c (.sl none 0))), (some 2), none⟩])
 [2]
 (.ret)) (.skip)))
 [0]
 (.seq (.reg [⟨.op (.bslice 1 0 [] []), (some 5), none⟩, ⟨.op (.mv (.t 0)), (some 6), none⟩, ⟨.op (.app 1 8 false (.t 5) (.t 6)), (some 7), none⟩, ⟨.op (.mv (.t 7)), (some 2), none⟩])
 [2]
 (.ret))),
 [.tmp 2]⟩
theorem k24 : cFn Try.prog 24 = some c24.toE := by kernel_rfl
theorem w24 : c24.body.wf = true := by kernel_rfl
noncomputable def l25_0 : DC :=
 .seq (.seq (.reg [⟨.op (.mv (.t 7)), (some 13), none⟩, ⟨.op (.mv (.t 8)), (some 14), none⟩, ⟨.op (.bin .lss 0 (.t 13) (.t 14)), (some 15), none⟩])
 [0, 1, 6, 7, 8, 15]
 (.cond (.t 15) (.skip) (.exit 0)))
 [0, 1, 6, 7, 8]
 (.block 1 (.seq (.reg [⟨.op (.mv (.t 7)), (some 16), none⟩, ⟨.op (.mv (.t 8)), (some 17), none⟩, ⟨.op (.bin .add 0 (.t 16) (.t 17)), (some 18), none⟩, ⟨.op (.conv .u64 (.t 18)), (some 19), none⟩, ⟨.op (.slow (operAt Try.prog 25 15)), (some 20), none⟩, ⟨.op (.conv .i64 (.t 20)), (some 21), none⟩, ⟨.op (.mv (.t 21)), (some 9), none⟩])
 [0, 1, 6, 7, 8, 9]
 (.seq (.reg [⟨.op (.mv (.t 0)), (some 22), none⟩, ⟨.op (.mv (.t 9)), (some 23), none⟩, ⟨.op (.ia 1 none (.t 22) (.t 23)), (some 24), none⟩, ⟨.op (.ld1 (.t 24)), (some 25), none⟩, ⟨.op (.mv (.t 1)), (some 26), none⟩, ⟨.call 35 [(.t 25), (.t 26)], (some 27), none⟩])
 [0, 1, 6, 7, 8, 9, 27]
 (.cond (.t 27) (.reg [⟨.op (.mv (.t 9)), (some 28), none⟩, ⟨.op (.bin .add 0 (.t 28) (.c (.int .i64 1))), (some 29), none⟩, ⟨.op (.mv (.t 29)), (some 7), none⟩]) (.reg [⟨.op (.mv (.t 9)), (some 30), none⟩, ⟨.op (.mv (.t 30)), (some 8), none⟩])))))
theorem u25_0 (call : DCall) (T : Tm) (st : Dv.St) : dCw Try.prog call l25_0 T st = dCw Try.prog call
 (.seq (.seq (.reg [⟨.op (.mv (.t 7)), (some 13), none⟩, ⟨.op (.mv (.t 8)), (some 14), none⟩, ⟨.op (.bin .lss 0 (.t 13) (.t 14)), (some 15), none⟩])
 [0, 1, 6, 7, 8, 15]
 (.cond (.t 15) (.skip) (.exit 0)))
 [0, 1, 6, 7, 8]
 (.block 1 (.seq (.reg [⟨.op (.mv (.t 7)), (some 16), none⟩, ⟨.op (.mv (.t 8)), (some 17), none⟩, ⟨.op (.bin .add 0 (.t 16) (.t 17)), (some 18), none⟩, ⟨.op (.conv .u64 (.t 18)), (some 19), none⟩, ⟨.op (.slow (operAt Try.prog 25 15)), (some 20), none⟩, ⟨.op (.conv .i64 (.t 20)), (some 21), none⟩, ⟨.op (.mv (.t 21)), (some 9), none⟩])
 [0, 1, 6, 7, 8, 9]
 (.seq (.reg [⟨.op (.mv (.t 0)), (some 22), none⟩, ⟨.op (.mv (.t 9)), (some 23), none⟩, ⟨.op (.ia 1 none (.t 22) (.t 23)), (some 24), none⟩, ⟨.op (.ld1 (.t 24)), (some 25), none⟩, ⟨.op (.mv (.t 1)), (some 26), none⟩, ⟨.call 35 [(.t 25), (.t 26)], (some 27), none⟩])
 [0, 1, 6, 7, 8, 9, 27]
 (.cond (.t 27) (.reg [⟨.op (.mv (.t 9)), (some 28), none⟩, ⟨.op (.bin .add 0 (.t 28) (.c (.int .i64 1))), (some 29), none⟩, ⟨.op (.mv (.t 29)), (some 7), none⟩]) (.reg [⟨.op (.mv (.t 9)), (some 30), none⟩, ⟨.op (.mv (.t 30)), (some 8), none⟩])))))) T st := rfl
/-- slices.BinarySearch[[]int,int] -/
noncomputable def c25 : DFn := ⟨54, .pure,
 .seq (.reg [⟨.op (.mv (.c (.int .i64 0))), (some 4), none⟩, ⟨.op (.mv (.c (.bool false))), (some 5), none⟩])
 [0, 1]
 (.seq (.reg [⟨.op (.mv (.t 0)), (some 10), none⟩, ⟨.op (.len (.t 10)), (some 11), none⟩, ⟨.op (.mv (.t 11)), (some 6), none⟩])
 [0, 1, 6]
 (.seq (.reg [⟨.op (.mv (.t 6)), (some 12), none⟩, ⟨.op (.mv (.c (.int .i64 0))), (some 7), none⟩, ⟨.op (.mv (.t 12)), (some 8), none⟩])
 [0, 1, 6, 7, 8]
 (.seq (.block 0 (.loop [0, 1, 6, 7, 8] (l25_0)))
 [0, 1, 6, 7]
 (.seq (.reg [⟨.op (.mv (.t 7)), (some 31), none⟩, ⟨.op (.mv (.t 7)), (some 32), none⟩, ⟨.op (.mv (.t 6)), (some 33), none⟩, ⟨.op (.bin .lss 0 (.t 32) (.t 33)), (some 34), none⟩, ⟨.op (.mv (.t 34)), (some 35), none⟩, ⟨.op (.mv (.t 0)), (some 36), (some (35, true))⟩, ⟨.op (.mv (.t 7)), (some 37), (some (35, true))⟩, ⟨.op (.ia 1 none (.t 36) (.t 37)), (some 38), (some (35, true))⟩, ⟨.op (.ld1 (.t 38)), (some 39), (some (35, true))⟩, ⟨.op (.mv (.t 1)), (some 40), (some (35, true))⟩, ⟨.op (.bin .eql 0 (.t 39) (.t 40)), (some 41), (some (35, true))⟩, ⟨.op (.mv (.t 41)), (some 42), (some (35, true))⟩, ⟨.op (.mv (.t 0)), (some 43), (some (42, false))⟩, ⟨.op (.mv (.t 7)), (some 44), (some (42, false))⟩, ⟨.op (.ia 1 none (.t 43) (.t 44)), (some 45), (some (42, false))⟩, ⟨.op (.ld1 (.t 45)), (some 46), (some (42, false))⟩, ⟨.call 36 [(.t 46)], (some 47), (some (42, false))⟩, ⟨.op (.mv (.t 47)), (some 48), (some (42, false))⟩, ⟨.op (.mv (.t 1)), (some 49), (some (48, true))⟩, ⟨.call 36 [(.t 49)], (some 50), (some (48, true))⟩, ⟨.op (.pick (.t 48) (.t 50) (.c (.bool false))), (some 51), (some (42, false))⟩, ⟨.op (.pick (.t 42) (.c (.bool true)) (.t 51)), (some 52), (some (35, true))⟩, ⟨.op (.pick (.t 35) (.t 52) (.c (.bool false))), (some 53), none⟩, ⟨.op (.mv (.t 31)), (some 4), none⟩, ⟨.op (.mv (.t 53)), (some 5), none⟩])
 [4, 5]
 (.ret))))),
 [.tmp 4, .tmp 5]⟩
theorem k25 : cFn Try.prog 25 = some c25.toE := by kernel_rfl
theorem w25 : c25.body.wf = true := by kernel_rfl
/-- cmp.Less[int] -/
noncomputable def c35 : DFn := ⟨17, .pure,
 .seq (.reg [⟨.op (.mv (.c (.bool false))), (some 4), none⟩])
 [0, 1]
 (.seq (.reg [⟨.op (.mv (.t 0)), (some 5), none⟩, ⟨.call 50 [(.t 5)], (some 6), none⟩, ⟨.op (.mv (.t 6)), (some 7), none⟩, ⟨.op (.mv (.t 1)), (some 8), (some (7, true))⟩, ⟨.call 50 [(.t 8)], (some 9), (some (7, true))⟩, ⟨.op (.not (.t 9)), (some 10), (some (7, true))⟩, ⟨.op (.pick (.t 7) (.t 10) (.c (.bool false))), (some 11), none⟩, ⟨.op (.mv (.t 11)), (some 12), none⟩, ⟨.op (.mv (.t 0)), (some 13), (some (12, false))⟩, ⟨.op (.mv (.t 1)), (some 14), (some (12, false))⟩, ⟨.op (.bin .lss 0 (.t 13) (.t 14)), (some 15), (some (12, false))⟩, ⟨.op (.pick (.t 12) (.c (.bool true)) (.t 15)), (some 16), none⟩, ⟨.op (.mv (.t 16)), (some 4), none⟩])
 [4]
 (.ret)),
 [.tmp 4]⟩
theorem k35 : cFn Try.prog 35 = some c35.toE := by kernel_rfl
theorem w35 : c35.body.wf = true := by kernel_rfl
/-- slices.isNaN[int] -/
noncomputable def c36 : DFn := ⟨6, .pure,
 .seq (.reg [⟨.op (.mv (.c (.bool false))), (some 2), none⟩])
 [0]
 (.seq (.reg [⟨.op (.mv (.t 0)), (some 3), none⟩, ⟨.op (.mv (.t 0)), (some 4), none⟩, ⟨.op (.bin .neq 0 (.t 3) (.t 4)), (some 5), none⟩, ⟨.op (.mv (.t 5)), (some 2), none⟩])
 [2]
 (.ret)),
 [.tmp 2]⟩
theorem k36 : cFn Try.prog 36 = some c36.toE := by kernel_rfl
theorem w36 : c36.body.wf = true := by kernel_rfl
/-- cmp.isNaN[int] -/
noncomputable def c50 : DFn := ⟨6, .pure,
 .seq (.reg [⟨.op (.mv (.c (.bool false))), (some 2), none⟩])
 [0]
 (.seq (.reg [⟨.op (.mv (.t 0)), (some 3), none⟩, ⟨.op (.mv (.t 0)), (some 4), none⟩, ⟨.op (.bin .neq 0 (.t 3) (.t 4)), (some 5), none⟩, ⟨.op (.mv (.t 5)), (some 2), none⟩])
 [2]
 (.ret)),
 [.tmp 2]⟩
theorem k50 : cFn Try.prog 50 = some c50.toE := by kernel_rfl
theorem w50 : c50.body.wf = true := by kernel_rfl
def tbl : Nat → Option DFn := fun f => bif Nat.beq f 3 then some c3 else bif Nat.beq f 5 then some c5 else bif Nat.beq f 6 then some c6 else bif Nat.beq f 7 then some c7 else bif Nat.beq f 8 then some c8 else bif Nat.beq f 9 then some c9 else bif Nat.beq f 22 then some c22 else bif Nat.beq f 11 then some c11 else bif Nat.beq f 16 then some c16 else bif Nat.beq f 20 then some c20 else bif Nat.beq f 10 then some c10 else bif Nat.beq f 23 then some c23 else bif Nat.beq f 13 then some c13 else bif Nat.beq f 39 then some c39 else bif Nat.beq f 27 then some c27 else bif Nat.beq f 14 then some c14 else bif Nat.beq f 28 then some c28 else bif Nat.beq f 17 then some c17 else bif Nat.beq f 18 then some c18 else bif Nat.beq f 31 then some c31 else bif Nat.beq f 21 then some c21 else bif Nat.beq f 34 then some c34 else bif Nat.beq f 19 then some c19 else bif Nat.beq f 25 then some c25 else bif Nat.beq f 35 then some c35 else bif Nat.beq f 36 then some c36 else bif Nat.beq f 50 then some c50 else none
def dx : DX := fun f => bif Nat.beq f 24 then some (dClone 1 8) else none
def ren26 : Go.Shelf.Ren := ⟨fun n => if n = 29 then 37 else if n = 30 then 38 else n, fun n => if n = 24 then 24 else if n = 9 then 3 else if n = 3 then 3 else if n = 4 then 4 else 0, fun n => n⟩
theorem lay26 : Go.Proofs.Ev.InsLay Try.prog ren26 26 ((Try.prog.info? 3).getD default).size ((Try.prog.info? 3).getD default) (((Try.prog.info? 3).getD default).zero.getD .nilFunc) where
  mixed := Try.checked.mixed
  hf := ⟨Try.f26.name, by rw [Try.func26]; exact congrArg some (show Try.f26 = { Go.Proofs.Body2.n22 ren26 with name := Try.f26.name } from by kernel_rfl)⟩
  hov := fun args w => run_callFunc_extern (fn := Try.f37) Try.func37 (by kernel_rfl) (by kernel_rfl) (by kernel_rfl) (e := Extern.SlicesOverlaps.overlaps #[24, 24] #[4]) (by kernel_rfl) args w
  t3 := by kernel_rfl
  a3 := fun w => Go.Proofs.Ev.tagg_run (by kernel_rfl) w
  z3 := fun w => Go.Proofs.Ev.tsize_run (by kernel_rfl) w
  v3 := fun w => Go.Proofs.Ev.zero_run (by kernel_rfl) w
  t4 := by kernel_rfl
  a4 := fun w => Go.Proofs.Ev.tagg_run (by kernel_rfl) w
  z4 := fun w => Go.Proofs.Ev.tsize_run (by kernel_rfl) w
  v4 := fun w => Go.Proofs.Ev.zero_run (by kernel_rfl) w
  t24 := by kernel_rfl
  a24 := fun w => Go.Proofs.Ev.tagg_run (by kernel_rfl) w
  z24 := fun w => Go.Proofs.Ev.tsize_run (by kernel_rfl) w
  v24 := fun w => Go.Proofs.Ev.zero_run (by kernel_rfl) w
  i9 := by kernel_rfl
  iz := rfl
  ib := Nat.le_of_ble_eq_true (by kernel_rfl)
  izv := by kernel_rfl
  hzv := by kernel_rfl
  hz0 := Nat.le_of_ble_eq_true (by kernel_rfl)
theorem siz26 : Prim.ins 1 8 = .ins ((Try.prog.info? 3).getD default).size ((Try.prog.info? 3).getD default).bytes := by kernel_rfl
def ren15 : Go.Shelf.Ren := ⟨fun n => if n = 189 then 15 else if n = 125 then 30 else if n = 257 then 29 else if n = 128 then 48 else if n = 129 then 49 else if n = 294 then 40 else if n = 295 then 41 else if n = 296 then 42 else if n = 297 then 43 else if n = 298 then 44 else if n = 299 then 45 else if n = 216 then 35 else if n = 300 then 46 else if n = 301 then 47 else if n = 328 then 52 else if n = 329 then 53 else if n = 330 then 54 else if n = 331 then 55 else if n = 332 then 56 else if n = 215 then 50 else if n = 343 then 58 else n, fun n => if n = 28 then 24 else if n = 3 then 3 else if n = 46 then 57 else if n = 0 then 0 else if n = 51 then 76 else if n = 53 then 78 else if n = 4 then 4 else if n = 183 then 70 else if n = 182 then 69 else if n = 131 then 49 else if n = 5 then 5 else if n = 9 then 9 else if n = 218 then 90 else if n = 222 then 94 else if n = 228 then 96 else if n = 229 then 97 else n, fun n => n⟩
theorem lay15 : Go.Proofs.Lays.n189 Try.prog ren15 where
  mixed := Try.checked.mixed
  f125 := Try.func30.trans (congrArg some (by kernel_rfl))
  f128 := Try.func48.trans (congrArg some (by kernel_rfl))
  f129 := Try.func49.trans (congrArg some (by kernel_rfl))
  f189 := Try.func15.trans (congrArg some (by kernel_rfl))
  f215 := Try.func50.trans (congrArg some (by kernel_rfl))
  f216 := Try.func35.trans (congrArg some (by kernel_rfl))
  f257 := Try.func29.trans (congrArg some (by kernel_rfl))
  f294 := Try.func40.trans (congrArg some (by kernel_rfl))
  f295 := Try.func41.trans (congrArg some (by kernel_rfl))
  f296 := Try.func42.trans (congrArg some (by kernel_rfl))
  f297 := Try.func43.trans (congrArg some (by kernel_rfl))
  f298 := Try.func44.trans (congrArg some (by kernel_rfl))
  f299 := Try.func45.trans (congrArg some (by kernel_rfl))
  f300 := Try.func46.trans (congrArg some (by kernel_rfl))
  f301 := Try.func47.trans (congrArg some (by kernel_rfl))
  f328 := Try.func52.trans (congrArg some (by kernel_rfl))
  f329 := Try.func53.trans (congrArg some (by kernel_rfl))
  f330 := Try.func54.trans (congrArg some (by kernel_rfl))
  f331 := Try.func55.trans (congrArg some (by kernel_rfl))
  f332 := Try.func56.trans (congrArg some (by kernel_rfl))
  f343 := Try.func58.trans (congrArg some (by kernel_rfl))
  t0 := by kernel_rfl
  a0 := fun w => Go.Proofs.Ev.tagg_run (by kernel_rfl) w
  z0 := fun w => Go.Proofs.Ev.tsize_run (by kernel_rfl) w
  v0 := fun w => Go.Proofs.Ev.zero_run (by kernel_rfl) w
  t3 := by kernel_rfl
  a3 := fun w => Go.Proofs.Ev.tagg_run (by kernel_rfl) w
  z3 := fun w => Go.Proofs.Ev.tsize_run (by kernel_rfl) w
  v3 := fun w => Go.Proofs.Ev.zero_run (by kernel_rfl) w
  t4 := by kernel_rfl
  a4 := fun w => Go.Proofs.Ev.tagg_run (by kernel_rfl) w
  z4 := fun w => Go.Proofs.Ev.tsize_run (by kernel_rfl) w
  v4 := fun w => Go.Proofs.Ev.zero_run (by kernel_rfl) w
  t5 := by kernel_rfl
  a5 := fun w => Go.Proofs.Ev.tagg_run (by kernel_rfl) w
  z5 := fun w => Go.Proofs.Ev.tsize_run (by kernel_rfl) w
  v5 := fun w => Go.Proofs.Ev.zero_run (by kernel_rfl) w
  t9 := by kernel_rfl
  a9 := fun w => Go.Proofs.Ev.tagg_run (by kernel_rfl) w
  z9 := fun w => Go.Proofs.Ev.tsize_run (by kernel_rfl) w
  v9 := fun w => Go.Proofs.Ev.zero_run (by kernel_rfl) w
  t28 := by kernel_rfl
  a28 := fun w => Go.Proofs.Ev.tagg_run (by kernel_rfl) w
  z28 := fun w => Go.Proofs.Ev.tsize_run (by kernel_rfl) w
  v28 := fun w => Go.Proofs.Ev.zero_run (by kernel_rfl) w
  t46 := by kernel_rfl
  a46 := fun w => Go.Proofs.Ev.tagg_run (by kernel_rfl) w
  z46 := fun w => Go.Proofs.Ev.tsize_run (by kernel_rfl) w
  v46 := fun w => Go.Proofs.Ev.zero_run (by kernel_rfl) w
  t51 := by kernel_rfl
  a51 := fun w => Go.Proofs.Ev.tagg_run (by kernel_rfl) w
  z51 := fun w => Go.Proofs.Ev.tsize_run (by kernel_rfl) w
  v51 := fun w => Go.Proofs.Ev.zero_run (by kernel_rfl) w
  t53 := by kernel_rfl
  a53 := fun w => Go.Proofs.Ev.tagg_run (by kernel_rfl) w
  z53 := fun w => Go.Proofs.Ev.tsize_run (by kernel_rfl) w
  v53 := fun w => Go.Proofs.Ev.zero_run (by kernel_rfl) w
  t131 := by kernel_rfl
  a131 := fun w => Go.Proofs.Ev.tagg_run (by kernel_rfl) w
  z131 := fun w => Go.Proofs.Ev.tsize_run (by kernel_rfl) w
  v131 := fun w => Go.Proofs.Ev.zero_run (by kernel_rfl) w
  t182 := by kernel_rfl
  a182 := fun w => Go.Proofs.Ev.tagg_run (by kernel_rfl) w
  z182 := fun w => Go.Proofs.Ev.tsize_run (by kernel_rfl) w
  v182 := fun w => Go.Proofs.Ev.zero_run (by kernel_rfl) w
  t183 := by kernel_rfl
  a183 := fun w => Go.Proofs.Ev.tagg_run (by kernel_rfl) w
  z183 := fun w => Go.Proofs.Ev.tsize_run (by kernel_rfl) w
  v183 := fun w => Go.Proofs.Ev.zero_run (by kernel_rfl) w
  t218 := by kernel_rfl
  a218 := fun w => Go.Proofs.Ev.tagg_run (by kernel_rfl) w
  z218 := fun w => Go.Proofs.Ev.tsize_run (by kernel_rfl) w
  v218 := fun w => Go.Proofs.Ev.zero_run (by kernel_rfl) w
  t222 := by kernel_rfl
  a222 := fun w => Go.Proofs.Ev.tagg_run (by kernel_rfl) w
  z222 := fun w => Go.Proofs.Ev.tsize_run (by kernel_rfl) w
  v222 := fun w => Go.Proofs.Ev.zero_run (by kernel_rfl) w
  t228 := by kernel_rfl
  a228 := fun w => Go.Proofs.Ev.tagg_run (by kernel_rfl) w
  z228 := fun w => Go.Proofs.Ev.tsize_run (by kernel_rfl) w
  v228 := fun w => Go.Proofs.Ev.zero_run (by kernel_rfl) w
  t229 := by kernel_rfl
  a229 := fun w => Go.Proofs.Ev.tagg_run (by kernel_rfl) w
  z229 := fun w => Go.Proofs.Ev.tsize_run (by kernel_rfl) w
  v229 := fun w => Go.Proofs.Ev.zero_run (by kernel_rfl) w
theorem snil15 : Go.Proofs.Ev.SortNil Try.prog 15 := Go.Proofs.Ev.srtNil_ok Try.checked.mixed (k := 60) (by kernel_rfl)
theorem srun15 : Go.Proofs.Ev.SrtSpec Try.prog 15 false := by
  intro blk off cap zs w h1 h2 h3
  have e := Go.Proofs.Ev.sortI_eq zs
  rw [e]
  exact Go.Proofs.Ev.calls_of fun D => Go.Proofs.AnyS.slices_Sort_int_alone lay15 D blk off cap zs w h1 h2 h3
def prims : Prims := fun f => bif Nat.beq f 26 then some (.ins 1 8) else bif Nat.beq f 4 then some .yes else bif Nat.beq f 15 then some (.srt false) else none
theorem code_ok : ∀ f df, tbl f = some df → cFn Try.prog f = some df.toE ∧ df.body.wf = true := by
  intro f df h
  unfold tbl at h
  by_cases h3 : f = 3
  · subst h3; rw [Nat.beq_refl, cond_true] at h; rw [← Option.some.inj h]; exact ⟨k3, w3⟩
  rw [Ev.beq_false _ _ h3, cond_false] at h
  by_cases h5 : f = 5
  · subst h5; rw [Nat.beq_refl, cond_true] at h; rw [← Option.some.inj h]; exact ⟨k5, w5⟩
  rw [Ev.beq_false _ _ h5, cond_false] at h
  by_cases h6 : f = 6
  · subst h6; rw [Nat.beq_refl, cond_true] at h; rw [← Option.some.inj h]; exact ⟨k6, w6⟩
  rw [Ev.beq_false _ _ h6, cond_false] at h
  by_cases h7 : f = 7
  · subst h7; rw [Nat.beq_refl, cond_true] at h; rw [← Option.some.inj h]; exact ⟨k7, w7⟩
  rw [Ev.beq_false _ _ h7, cond_false] at h
  by_cases h8 : f = 8
  · subst h8; rw [Nat.beq_refl, cond_true] at h; rw [← Option.some.inj h]; exact ⟨k8, w8⟩
  rw [Ev.beq_false _ _ h8, cond_false] at h
  by_cases h9 : f = 9
  · subst h9; rw [Nat.beq_refl, cond_true] at h; rw [← Option.some.inj h]; exact ⟨k9, w9⟩
  rw [Ev.beq_false _ _ h9, cond_false] at h
  by_cases h22 : f = 22
  · subst h22; rw [Nat.beq_refl, cond_true] at h; rw [← Option.some.inj h]; exact ⟨k22, w22⟩
  rw [Ev.beq_false _ _ h22, cond_false] at h
  by_cases h11 : f = 11
  · subst h11; rw [Nat.beq_refl, cond_true] at h; rw [← Option.some.inj h]; exact ⟨k11, w11⟩
  rw [Ev.beq_false _ _ h11, cond_false] at h
  by_cases h16 : f = 16
  · subst h16; rw [Nat.beq_refl, cond_true] at h; rw [← Option.some.inj h]; exact ⟨k16, w16⟩
  rw [Ev.beq_false _ _ h16, cond_false] at h
  by_cases h20 : f = 20
  · subst h20; rw [Nat.beq_refl, cond_true] at h; rw [← Option.some.inj h]; exact ⟨k20, w20⟩
  rw [Ev.beq_false _ _ h20, cond_false] at h
  by_cases h10 : f = 10
  · subst h10; rw [Nat.beq_refl, cond_true] at h; rw [← Option.some.inj h]; exact ⟨k10, w10⟩
  rw [Ev.beq_false _ _ h10, cond_false] at h
  by_cases h23 : f = 23
  · subst h23; rw [Nat.beq_refl, cond_true] at h; rw [← Option.some.inj h]; exact ⟨k23, w23⟩
  rw [Ev.beq_false _ _ h23, cond_false] at h
  by_cases h13 : f = 13
  · subst h13; rw [Nat.beq_refl, cond_true] at h; rw [← Option.some.inj h]; exact ⟨k13, w13⟩
  rw [Ev.beq_false _ _ h13, cond_false] at h
  by_cases h39 : f = 39
  · subst h39; rw [Nat.beq_refl, cond_true] at h; rw [← Option.some.inj h]; exact ⟨k39, w39⟩
  rw [Ev.beq_false _ _ h39, cond_false] at h
  by_cases h27 : f = 27
  · subst h27; rw [Nat.beq_refl, cond_true] at h; rw [← Option.some.inj h]; exact ⟨k27, w27⟩
  rw [Ev.beq_false _ _ h27, cond_false] at h
  by_cases h14 : f = 14
  · subst h14; rw [Nat.beq_refl, cond_true] at h; rw [← Option.some.inj h]; exact ⟨k14, w14⟩
  rw [Ev.beq_false _ _ h14, cond_false] at h
  by_cases h28 : f = 28
  · subst h28; rw [Nat.beq_refl, cond_true] at h; rw [← Option.some.inj h]; exact ⟨k28, w28⟩
  rw [Ev.beq_false _ _ h28, cond_false] at h
  by_cases h17 : f = 17
  · subst h17; rw [Nat.beq_refl, cond_true] at h; rw [← Option.some.inj h]; exact ⟨k17, w17⟩
  rw [Ev.beq_false _ _ h17, cond_false] at h
  by_cases h18 : f = 18
  · subst h18; rw [Nat.beq_refl, cond_true] at h; rw [← Option.some.inj h]; exact ⟨k18, w18⟩
  rw [Ev.beq_false _ _ h18, cond_false] at h
  by_cases h31 : f = 31
  · subst h31; rw [Nat.beq_refl, cond_true] at h; rw [← Option.some.inj h]; exact ⟨k31, w31⟩
  rw [Ev.beq_false _ _ h31, cond_false] at h
  by_cases h21 : f = 21
  · subst h21; rw [Nat.beq_refl, cond_true] at h; rw [← Option.some.inj h]; exact ⟨k21, w21⟩
  rw [Ev.beq_false _ _ h21, cond_false] at h
  by_cases h34 : f = 34
  · subst h34; rw [Nat.beq_refl, cond_true] at h; rw [← Option.some.inj h]; exact ⟨k34, w34⟩
  rw [Ev.beq_false _ _ h34, cond_false] at h
  by_cases h19 : f = 19
  · subst h19; rw [Nat.beq_refl, cond_true] at h; rw [← Option.some.inj h]; exact ⟨k19, w19⟩
  rw [Ev.beq_false _ _ h19, cond_false] at h
  by_cases h25 : f = 25
  · subst h25; rw [Nat.beq_refl, cond_true] at h; rw [← Option.some.inj h]; exact ⟨k25, w25⟩
  rw [Ev.beq_false _ _ h25, cond_false] at h
  by_cases h35 : f = 35
  · subst h35; rw [Nat.beq_refl, cond_true] at h; rw [← Option.some.inj h]; exact ⟨k35, w35⟩
  rw [Ev.beq_false _ _ h35, cond_false] at h
  by_cases h36 : f = 36
  · subst h36; rw [Nat.beq_refl, cond_true] at h; rw [← Option.some.inj h]; exact ⟨k36, w36⟩
  rw [Ev.beq_false _ _ h36, cond_false] at h
  by_cases h50 : f = 50
  · subst h50; rw [Nat.beq_refl, cond_true] at h; rw [← Option.some.inj h]; exact ⟨k50, w50⟩
  rw [Ev.beq_false _ _ h50, cond_false] at h
  cases h
theorem ext_ok : ∀ f g, prims f = none → dx f = some g → ∀ (k : Nat) (ds : List D) (st : Dv.St) (r : D × Dv.St × List Nat) (c : Ct) (H : Heap) (vs : List V), g ds st = some r → SR c st H → Row (DR c H) ds vs → Fol c st H r (eFn Try.prog prims (cFn Try.prog) listHP (k + 1) f vs H) := by
  intro f g _ h
  unfold dx at h
  by_cases h24 : f = 24
  · subst h24; rw [Nat.beq_refl, cond_true] at h; rw [← Option.some.inj h]; exact clone_ok (z := 1) (bytes := 8) (by kernel_rfl) k24
  rw [Ev.beq_false _ _ h24, cond_false] at h
  cases h
theorem extq_ok : ∀ f g, dx f = some g → kSrt (g [.ptr 0 0] ⟨[], [], 0⟩) = none := by
  intro f g h
  unfold dx at h
  by_cases h24 : f = 24
  · subst h24; rw [Nat.beq_refl, cond_true] at h; rw [← Option.some.inj h]; rfl
  rw [Ev.beq_false _ _ h24, cond_false] at h
  cases h
theorem tbl_ok : TblOK Try.prog prims (cFn Try.prog) dx tbl := ⟨fun f df _ _ h => code_ok f df h, extq_ok, ext_ok⟩
def prims0 : Prims := fun f => bif Nat.beq f 26 then some (.ins 1 8) else none
theorem prims0_ok : PrimsOK Try.prog prims0 := by
  intro f p h
  unfold prims0 at h
  by_cases h26 : f = 26
  · subst h26
    rw [Nat.beq_refl, cond_true] at h
    rw [← Option.some.inj h, siz26]
    exact ⟨by kernel_rfl, fun vs H v H' he β cs w hr s => Go.Proofs.Ev.evIns_ok lay26 (by intro hz; have : (Go.Proofs.Ev.zeroV Try.prog 3).isSome = true := by kernel_rfl
                                                                                          rw [show ren26.t 9 = 3 from rfl] at hz; rw [hz] at this; cases this) vs H v H' he β cs w hr s⟩
  rw [Go.Proofs.Ev.beq_false _ _ h26, cond_false] at h
  cases h
theorem yes_okP {P : Program} (hm : P.follows .mixedOrders = true) {pr : Prims} (hpr : PrimsOK P pr) {k f : Nat} (h : saysTrue (evFn P pr k f [] []) = true) (vs : List V) (H : Heap) (v : V) (H' : Heap) (he : evPrim .yes vs H = some (v, H'))
    (β : Inj) (cs : Array Value) (w : World) (hL : LRel β vs cs) (s : Sim β H w) : Calls P f cs w fun e w' => ∃ β' c, e = .returned c ∧ Ext β H w β' H' w' ∧ VRel β' v c := by
  cases vs with
  | cons a l => cases he
  | nil =>
    cases he
    have hc : cs = #[] := by
      obtain ⟨h1, _⟩ := hL
      exact Array.eq_empty_of_size_eq_zero (by simpa using h1.symm)
    subst hc
    refine (closed_true hm hpr h w).mono ?_
    rintro e w' ⟨rfl, hb⟩
    exact ⟨β, .bool true, rfl, ⟨s.as hb, fun _ _ => rfl, Nat.le_refl _, hb.os, hb.tape, hb.output, hb.size, fun B hB _ => hb.block B hB, fun _ h => .inl h⟩, .bool true⟩
theorem prims_ok : PrimsOK Try.prog prims := by
  intro f p h
  unfold prims at h
  by_cases h26 : f = 26
  · subst h26
    rw [Nat.beq_refl, cond_true] at h
    rw [← Option.some.inj h, siz26]
    exact ⟨by kernel_rfl, fun vs H v H' he β cs w hr s => Go.Proofs.Ev.evIns_ok lay26 (by intro hz; have : (Go.Proofs.Ev.zeroV Try.prog 3).isSome = true := by kernel_rfl
                                                                                          rw [show ren26.t 9 = 3 from rfl] at hz; rw [hz] at this; cases this) vs H v H' he β cs w hr s⟩
  rw [Go.Proofs.Ev.beq_false _ _ h26, cond_false] at h
  by_cases h4 : f = 4
  · subst h4
    rw [Nat.beq_refl, cond_true] at h
    rw [← Option.some.inj h]
    exact ⟨by kernel_rfl, fun vs H v H' he β cs w hr s => yes_okP Try.checked.mixed prims0_ok (k := 60) (by kernel_rfl) vs H v H' he β cs w hr s⟩
  rw [Go.Proofs.Ev.beq_false _ _ h4, cond_false] at h
  by_cases h15 : f = 15
  · subst h15
    rw [Nat.beq_refl, cond_true] at h
    rw [← Option.some.inj h]
    exact ⟨by kernel_rfl, fun vs H v H' he β cs w hr s => Go.Proofs.Ev.srt_ok snil15 srun15 vs H v H' he β cs w hr s⟩
  rw [Go.Proofs.Ev.beq_false _ _ h15, cond_false] at h
  cases h
end
end Go.Proofs.Ytjkichflkjcccaa.Cd
