/-
  What is proved here: the texts of the functions, looked up.
  Conditions: none.
-/
import Derived.Test.YtiloimenibbeoaaRows
import Derived.Test.YtiloimenibbeoaaDv3
import Derived.KernelRfl
import Derived.Shelf.Slices.In.SortAlone
set_option linter.unusedVariables false
set_option linter.unusedSimpArgs false
set_option maxRecDepth 100000
namespace Go.Proofs.Ytiloimenibbeoaa.Cd
open Go Go.Proofs Go.Proofs.Ev Go.Proofs.Dv
noncomputable section
/-- cardamom/cardamomlaw7.NormAll -/
noncomputable def c3 : DFn := ⟨40, .pure,
 .seq (.reg [⟨.op (.mv (.c (.bool false))), (some 4), none⟩])
 [0, 1]
 (.seq (.seq (.reg [⟨.call 9 [], (some 10), none⟩, ⟨.op (.not (.t 10)), (some 11), none⟩])
 [0, 1, 11]
 (.cond (.t 11) (.seq (.reg [⟨.op (.mv (.c (.bool false))), (some 4), none⟩])
 [4]
 (.ret)) (.skip)))
 [0, 1]
 (.seq (.seq (.reg [⟨.op (.mv (.t 0)), (some 12), none⟩, ⟨.op (.len (.t 12)), (some 13), none⟩, ⟨.op (.bin .gtr 0 (.t 13) (.c (.int .i64 50))), (some 14), none⟩])
 [0, 1, 14]
 (.cond (.t 14) (.seq (.reg [⟨.op (.mv (.c (.bool true))), (some 4), none⟩])
 [4]
 (.ret)) (.skip)))
 [0, 1]
 (.seq (.reg [⟨.op (.mv (.t 0)), (some 15), none⟩, ⟨.call 10 [(.t 15)], (some 16), none⟩, ⟨.op (.mv (.t 1)), (some 17), none⟩, ⟨.op (.bin .rem 0 (.t 17) (.c (.int .u8 3))), (some 18), none⟩, ⟨.op (.conv .i64 (.t 18)), (some 19), none⟩, ⟨.op (.bin .add 0 (.c (.int .i64 3)) (.t 19)), (some 20), none⟩, ⟨.call 11 [(.t 16), (.t 20)], (some 21), none⟩, ⟨.op (.new [(.int .i64 0), (.int .i64 0), (.int .i64 0), (.int .i64 0), (.str []), (.sl none 0)]), (some 5), none⟩, ⟨.op (.st 6 (.t 5) (.t 21)), none, none⟩])
 [5]
 (.seq (.reg [⟨.op (.ldn 6 (.t 5)), (some 23), none⟩, ⟨.call 12 [(.t 23)], (some 24), none⟩, ⟨.op (.mv (.t 24)), (some 22), none⟩, ⟨.op (.ext (.t 22) 0), (some 25), none⟩, ⟨.op (.ext (.t 22) 1), (some 26), none⟩, ⟨.op (.mv (.t 25)), (some 6), none⟩, ⟨.op (.mv (.t 26)), (some 7), none⟩])
 [5, 6, 7]
 (.seq (.reg [⟨.op (.ldn 6 (.t 5)), (some 28), none⟩, ⟨.call 13 [(.t 28)], (some 29), none⟩, ⟨.op (.mv (.t 29)), (some 27), none⟩, ⟨.op (.ext (.t 27) 0), (some 30), none⟩, ⟨.op (.ext (.t 27) 1), (some 31), none⟩, ⟨.op (.mv (.t 30)), (some 8), none⟩, ⟨.op (.mv (.t 31)), (some 9), none⟩])
 [6, 7, 8, 9]
 (.seq (.reg [⟨.op (.mv (.t 7)), (some 32), none⟩, ⟨.op (.mv (.t 9)), (some 33), none⟩, ⟨.op (.bin .eql 5 (.t 32) (.t 33)), (some 34), none⟩, ⟨.op (.mv (.t 34)), (some 35), none⟩, ⟨.op (.mv (.t 6)), (some 36), (some (35, true))⟩, ⟨.op (.mv (.t 8)), (some 37), (some (35, true))⟩, ⟨.call 14 [(.t 36), (.t 37)], (some 38), (some (35, true))⟩, ⟨.op (.pick (.t 35) (.t 38) (.c (.bool false))), (some 39), none⟩, ⟨.op (.mv (.t 39)), (some 4), none⟩])
 [4]
 (.ret))))))),
 [.tmp 4]⟩
theorem k3 : cFn Try.prog 3 = some c3.toE := by kernel_rfl
theorem w3 : c3.body.wf = true := by kernel_rfl
noncomputable def l4_0 : DC :=
 .seq (.seq (.reg [⟨.op (.mv (.t 10)), (some 67), none⟩, ⟨.op (.mv (.t 5)), (some 68), none⟩, ⟨.op (.len (.t 68)), (some 69), none⟩, ⟨.op (.bin .lss 0 (.t 67) (.t 69)), (some 70), none⟩])
 [5, 7, 8, 9, 10, 70]
 (.cond (.t 70) (.skip) (.exit 2)))
 [5, 7, 8, 9, 10]
 (.seq (.block 3 (.seq (.drw [⟨⟨.op (.mv (.t 5)), (some 74), none⟩, .n, []⟩, ⟨⟨.op (.mv (.t 9)), (some 75), none⟩, .n, []⟩, ⟨⟨.op (.ia 14 none (.t 74) (.t 75)), (some 76), none⟩, .n, []⟩, ⟨⟨.op (.ldn 14 (.t 76)), (some 77), none⟩, .n, []⟩, ⟨⟨.op (.mv (.t 5)), (some 78), none⟩, .n, []⟩, ⟨⟨.op (.mv (.t 10)), (some 79), none⟩, .n, []⟩, ⟨⟨.op (.ia 14 none (.t 78) (.t 79)), (some 80), none⟩, .n, []⟩, ⟨⟨.op (.ldn 14 (.t 80)), (some 81), none⟩, .n, []⟩, ⟨⟨.op (.new [(.int .i64 0), (.int .i64 0), (.int .i64 0), (.int .i64 0), (.int .i64 0), (.int .i64 0), (.int .i64 0), (.int .i64 0), (.int .i64 0), (.int .i64 0), (.int .i64 0), (.int .i64 0), (.str []), (.sl none 0)]), (some 11), none⟩, .a, [(true, 7), (true, 3)]⟩, ⟨⟨.call 19 [(.t 77), (.t 81)], (some 82), none⟩, .x, [(false, 8)]⟩, ⟨⟨.op (.mv (.t 82)), (some 73), none⟩, .n, []⟩, ⟨⟨.op (.ext (.t 73) 0), (some 83), none⟩, .n, []⟩, ⟨⟨.op (.ext (.t 73) 1), (some 84), none⟩, .n, []⟩, ⟨⟨.op (.st 14 (.t 11) (.t 83)), none, none⟩, .x, []⟩, ⟨⟨.op (.mv (.t 84)), (some 12), none⟩, .x, []⟩])
 [5, 7, 8, 9, 10, 11, 12]
 (.seq (.drw [⟨⟨.op (.mv (.t 5)), (some 86), none⟩, .n, []⟩, ⟨⟨.op (.mv (.t 9)), (some 87), none⟩, .n, []⟩, ⟨⟨.op (.ia 14 none (.t 86) (.t 87)), (some 88), none⟩, .n, []⟩, ⟨⟨.op (.ldn 14 (.t 88)), (some 89), none⟩, .n, []⟩, ⟨⟨.op (.mv (.t 5)), (some 90), none⟩, .n, []⟩, ⟨⟨.op (.mv (.t 10)), (some 91), none⟩, .n, []⟩, ⟨⟨.op (.ia 14 none (.t 90) (.t 91)), (some 92), none⟩, .n, []⟩, ⟨⟨.op (.ldn 14 (.t 92)), (some 93), none⟩, .n, []⟩, ⟨⟨.op (.new [(.int .i64 0), (.int .i64 0), (.int .i64 0), (.int .i64 0), (.int .i64 0), (.int .i64 0), (.int .i64 0), (.int .i64 0), (.int .i64 0), (.int .i64 0), (.int .i64 0), (.int .i64 0), (.str []), (.sl none 0)]), (some 13), none⟩, .a, [(true, 7), (true, 3)]⟩, ⟨⟨.call 20 [(.t 89), (.t 93)], (some 94), none⟩, .x, [(false, 8)]⟩, ⟨⟨.op (.mv (.t 94)), (some 85), none⟩, .n, []⟩, ⟨⟨.op (.ext (.t 85) 0), (some 95), none⟩, .n, []⟩, ⟨⟨.op (.ext (.t 85) 1), (some 96), none⟩, .n, []⟩, ⟨⟨.op (.st 14 (.t 13) (.t 95)), none, none⟩, .x, []⟩, ⟨⟨.op (.mv (.t 96)), (some 14), none⟩, .x, []⟩])
 [5, 7, 8, 9, 10, 11, 12, 13, 14]
 (.seq (.reg [⟨.op (.mv (.t 12)), (some 97), none⟩, ⟨.op (.mv (.t 14)), (some 98), none⟩, ⟨.op (.bin .neq 5 (.t 97) (.t 98)), (some 99), none⟩, ⟨.op (.mv (.t 99)), (some 100), none⟩, ⟨.op (.ldn 14 (.t 11)), (some 101), (some (100, false))⟩, ⟨.op (.ldn 14 (.t 13)), (some 102), (some (100, false))⟩, ⟨.call 21 [(.t 101), (.t 102)], (some 103), (some (100, false))⟩, ⟨.op (.not (.t 103)), (some 104), (some (100, false))⟩, ⟨.op (.pick (.t 100) (.c (.bool true)) (.t 104)), (some 105), none⟩])
 [5, 7, 8, 9, 10, 105]
 (.cond (.t 105) (.seq (.reg [⟨.op (.mv (.c (.bool false))), (some 4), none⟩])
 [4]
 (.ret)) (.skip))))))
 [5, 7, 8, 9, 10]
 (.reg [⟨.op (.mv (.t 10)), (some 71), none⟩, ⟨.op (.bin .add 0 (.t 71) (.c (.int .i64 1))), (some 72), none⟩, ⟨.op (.mv (.t 72)), (some 10), none⟩]))
theorem u4_0 (call : DCall) (T : Tm) (st : Dv.St) : dCw Try.prog call l4_0 T st = dCw Try.prog call
 (.seq (.seq (.reg [⟨.op (.mv (.t 10)), (some 67), none⟩, ⟨.op (.mv (.t 5)), (some 68), none⟩, ⟨.op (.len (.t 68)), (some 69), none⟩, ⟨.op (.bin .lss 0 (.t 67) (.t 69)), (some 70), none⟩])
 [5, 7, 8, 9, 10, 70]
 (.cond (.t 70) (.skip) (.exit 2)))
 [5, 7, 8, 9, 10]
 (.seq (.block 3 (.seq (.drw [⟨⟨.op (.mv (.t 5)), (some 74), none⟩, .n, []⟩, ⟨⟨.op (.mv (.t 9)), (some 75), none⟩, .n, []⟩, ⟨⟨.op (.ia 14 none (.t 74) (.t 75)), (some 76), none⟩, .n, []⟩, ⟨⟨.op (.ldn 14 (.t 76)), (some 77), none⟩, .n, []⟩, ⟨⟨.op (.mv (.t 5)), (some 78), none⟩, .n, []⟩, ⟨⟨.op (.mv (.t 10)), (some 79), none⟩, .n, []⟩, ⟨⟨.op (.ia 14 none (.t 78) (.t 79)), (some 80), none⟩, .n, []⟩, ⟨⟨.op (.ldn 14 (.t 80)), (some 81), none⟩, .n, []⟩, ⟨⟨.op (.new [(.int .i64 0), (.int .i64 0), (.int .i64 0), (.int .i64 0), (.int .i64 0), (.int .i64 0), (.int .i64 0), (.int .i64 0), (.int .i64 0), (.int .i64 0), (.int .i64 0), (.int .i64 0), (.str []), (.sl none 0)]), (some 11), none⟩, .a, [(true, 7), (true, 3)]⟩, ⟨⟨.call 19 [(.t 77), (.t 81)], (some 82), none⟩, .x, [(false, 8)]⟩, ⟨⟨.op (.mv (.t 82)), (some 73), none⟩, .n, []⟩, ⟨⟨.op (.ext (.t 73) 0), (some 83), none⟩, .n, []⟩, ⟨⟨.op (.ext (.t 73) 1), (some 84), none⟩, .n, []⟩, ⟨⟨.op (.st 14 (.t 11) (.t 83)), none, none⟩, .x, []⟩, ⟨⟨.op (.mv (.t 84)), (some 12), none⟩, .x, []⟩])
 [5, 7, 8, 9, 10, 11, 12]
 (.seq (.drw [⟨⟨.op (.mv (.t 5)), (some 86), none⟩, .n, []⟩, ⟨⟨.op (.mv (.t 9)), (some 87), none⟩, .n, []⟩, ⟨⟨.op (.ia 14 none (.t 86) (.t 87)), (some 88), none⟩, .n, []⟩, ⟨⟨.op (.ldn 14 (.t 88)), (some 89), none⟩, .n, []⟩, ⟨⟨.op (.mv (.t 5)), (some 90), none⟩, .n, []⟩, ⟨⟨.op (.mv (.t 10)), (some 91), none⟩, .n, []⟩, ⟨⟨.op (.ia 14 none (.t 90) (.t 91)), (some 92), none⟩, .n, []⟩, ⟨⟨.op (.ldn 14 (.t 92)), (some 93), none⟩, .n, []⟩, ⟨⟨.op (.new [(.int .i64 0), (.int .i64 0), (.int .i64 0), (.int .i64 0), (.int .i64 0), (.int .i64 0), (.int .i64 0), (.int .i64 0), (.int .i64 0), (.int .i64 0), (.int .i64 0), (.int .i64 0), (.str []), (.sl none 0)]), (some 13), none⟩, .a, [(true, 7), (true, 3)]⟩, ⟨⟨.call 20 [(.t 89), (.t 93)], (some 94), none⟩, .x, [(false, 8)]⟩, ⟨⟨.op (.mv (.t 94)), (some 85), none⟩, .n, []⟩, ⟨⟨.op (.ext (.t 85) 0), (some 95), none⟩, .n, []⟩, ⟨⟨.op (.ext (.t 85) 1), (some 96), none⟩, .n, []⟩, ⟨⟨.op (.st 14 (.t 13) (.t 95)), none, none⟩, .x, []⟩, ⟨⟨.op (.mv (.t 96)), (some 14), none⟩, .x, []⟩])
 [5, 7, 8, 9, 10, 11, 12, 13, 14]
 (.seq (.reg [⟨.op (.mv (.t 12)), (some 97), none⟩, ⟨.op (.mv (.t 14)), (some 98), none⟩, ⟨.op (.bin .neq 5 (.t 97) (.t 98)), (some 99), none⟩, ⟨.op (.mv (.t 99)), (some 100), none⟩, ⟨.op (.ldn 14 (.t 11)), (some 101), (some (100, false))⟩, ⟨.op (.ldn 14 (.t 13)), (some 102), (some (100, false))⟩, ⟨.call 21 [(.t 101), (.t 102)], (some 103), (some (100, false))⟩, ⟨.op (.not (.t 103)), (some 104), (some (100, false))⟩, ⟨.op (.pick (.t 100) (.c (.bool true)) (.t 104)), (some 105), none⟩])
 [5, 7, 8, 9, 10, 105]
 (.cond (.t 105) (.seq (.reg [⟨.op (.mv (.c (.bool false))), (some 4), none⟩])
 [4]
 (.ret)) (.skip))))))
 [5, 7, 8, 9, 10]
 (.reg [⟨.op (.mv (.t 10)), (some 71), none⟩, ⟨.op (.bin .add 0 (.t 71) (.c (.int .i64 1))), (some 72), none⟩, ⟨.op (.mv (.t 72)), (some 10), none⟩]))) T st := rfl
noncomputable def l4_1 : DC :=
 .seq (.seq (.reg [⟨.op (.mv (.t 9)), (some 33), none⟩, ⟨.op (.mv (.t 5)), (some 34), none⟩, ⟨.op (.len (.t 34)), (some 35), none⟩, ⟨.op (.bin .lss 0 (.t 33) (.t 35)), (some 36), none⟩])
 [5, 7, 8, 9, 36]
 (.cond (.t 36) (.skip) (.exit 0)))
 [5, 7, 8, 9]
 (.seq (.block 1 (.seq (.seq (.drw [⟨⟨.op (.mv (.t 5)), (some 39), none⟩, .n, []⟩, ⟨⟨.op (.mv (.t 9)), (some 40), none⟩, .n, []⟩, ⟨⟨.op (.ia 14 none (.t 39) (.t 40)), (some 41), none⟩, .n, []⟩, ⟨⟨.op (.ldn 14 (.t 41)), (some 42), none⟩, .n, []⟩, ⟨⟨.op (.ldn 8 (.t 7)), (some 43), none⟩, .n, []⟩, ⟨⟨.op (.mv (.t 5)), (some 45), none⟩, .n, []⟩, ⟨⟨.op (.mv (.t 9)), (some 46), none⟩, .n, []⟩, ⟨⟨.op (.ia 14 none (.t 45) (.t 46)), (some 47), none⟩, .n, []⟩, ⟨⟨.op (.ldn 14 (.t 47)), (some 48), none⟩, .n, []⟩, ⟨⟨.op (.ldn 8 (.t 7)), (some 49), none⟩, .n, []⟩, ⟨⟨.call 17 [(.t 42), (.t 43)], (some 44), none⟩, .x, [(true, 9), (true, 8)]⟩, ⟨⟨.call 18 [(.t 48), (.t 49)], (some 50), none⟩, .x, []⟩, ⟨⟨.op (.bin .neq 5 (.t 44) (.t 50)), (some 51), none⟩, .n, []⟩, ⟨⟨.op (.mv (.t 51)), (some 52), none⟩, .n, []⟩, ⟨⟨.op (.mv (.t 5)), (some 53), (some (52, false))⟩, .n, []⟩, ⟨⟨.op (.mv (.t 9)), (some 54), (some (52, false))⟩, .n, []⟩, ⟨⟨.op (.ia 14 none (.t 53) (.t 54)), (some 55), (some (52, false))⟩, .n, []⟩, ⟨⟨.op (.ldn 14 (.t 55)), (some 56), (some (52, false))⟩, .n, []⟩, ⟨⟨.op (.ldn 8 (.t 8)), (some 57), (some (52, false))⟩, .n, []⟩, ⟨⟨.op (.mv (.t 5)), (some 59), (some (52, false))⟩, .n, []⟩, ⟨⟨.op (.mv (.t 9)), (some 60), (some (52, false))⟩, .n, []⟩, ⟨⟨.op (.ia 14 none (.t 59) (.t 60)), (some 61), (some (52, false))⟩, .n, []⟩, ⟨⟨.op (.ldn 14 (.t 61)), (some 62), (some (52, false))⟩, .n, []⟩, ⟨⟨.op (.ldn 8 (.t 8)), (some 63), (some (52, false))⟩, .n, []⟩, ⟨⟨.call 17 [(.t 56), (.t 57)], (some 58), (some (52, false))⟩, .x, [(true, 23), (true, 22)]⟩, ⟨⟨.call 18 [(.t 62), (.t 63)], (some 64), (some (52, false))⟩, .x, []⟩, ⟨⟨.op (.bin .neq 5 (.t 58) (.t 64)), (some 65), (some (52, false))⟩, .n, []⟩, ⟨⟨.op (.pick (.t 52) (.c (.bool true)) (.t 65)), (some 66), none⟩, .n, []⟩])
 [5, 7, 8, 9, 66]
 (.cond (.t 66) (.seq (.reg [⟨.op (.mv (.c (.bool false))), (some 4), none⟩])
 [4]
 (.ret)) (.skip)))
 [5, 7, 8, 9]
 (.seq (.reg [⟨.op (.mv (.c (.int .i64 0))), (some 10), none⟩])
 [5, 7, 8, 9, 10]
 (.block 2 (.loop [5, 7, 8, 9, 10] (l4_0))))))
 [5, 7, 8, 9]
 (.reg [⟨.op (.mv (.t 9)), (some 37), none⟩, ⟨.op (.bin .add 0 (.t 37) (.c (.int .i64 1))), (some 38), none⟩, ⟨.op (.mv (.t 38)), (some 9), none⟩]))
theorem u4_1 (call : DCall) (T : Tm) (st : Dv.St) : dCw Try.prog call l4_1 T st = dCw Try.prog call
 (.seq (.seq (.reg [⟨.op (.mv (.t 9)), (some 33), none⟩, ⟨.op (.mv (.t 5)), (some 34), none⟩, ⟨.op (.len (.t 34)), (some 35), none⟩, ⟨.op (.bin .lss 0 (.t 33) (.t 35)), (some 36), none⟩])
 [5, 7, 8, 9, 36]
 (.cond (.t 36) (.skip) (.exit 0)))
 [5, 7, 8, 9]
 (.seq (.block 1 (.seq (.seq (.drw [⟨⟨.op (.mv (.t 5)), (some 39), none⟩, .n, []⟩, ⟨⟨.op (.mv (.t 9)), (some 40), none⟩, .n, []⟩, ⟨⟨.op (.ia 14 none (.t 39) (.t 40)), (some 41), none⟩, .n, []⟩, ⟨⟨.op (.ldn 14 (.t 41)), (some 42), none⟩, .n, []⟩, ⟨⟨.op (.ldn 8 (.t 7)), (some 43), none⟩, .n, []⟩, ⟨⟨.op (.mv (.t 5)), (some 45), none⟩, .n, []⟩, ⟨⟨.op (.mv (.t 9)), (some 46), none⟩, .n, []⟩, ⟨⟨.op (.ia 14 none (.t 45) (.t 46)), (some 47), none⟩, .n, []⟩, ⟨⟨.op (.ldn 14 (.t 47)), (some 48), none⟩, .n, []⟩, ⟨⟨.op (.ldn 8 (.t 7)), (some 49), none⟩, .n, []⟩, ⟨⟨.call 17 [(.t 42), (.t 43)], (some 44), none⟩, .x, [(true, 9), (true, 8)]⟩, ⟨⟨.call 18 [(.t 48), (.t 49)], (some 50), none⟩, .x, []⟩, ⟨⟨.op (.bin .neq 5 (.t 44) (.t 50)), (some 51), none⟩, .n, []⟩, ⟨⟨.op (.mv (.t 51)), (some 52), none⟩, .n, []⟩, ⟨⟨.op (.mv (.t 5)), (some 53), (some (52, false))⟩, .n, []⟩, ⟨⟨.op (.mv (.t 9)), (some 54), (some (52, false))⟩, .n, []⟩, ⟨⟨.op (.ia 14 none (.t 53) (.t 54)), (some 55), (some (52, false))⟩, .n, []⟩, ⟨⟨.op (.ldn 14 (.t 55)), (some 56), (some (52, false))⟩, .n, []⟩, ⟨⟨.op (.ldn 8 (.t 8)), (some 57), (some (52, false))⟩, .n, []⟩, ⟨⟨.op (.mv (.t 5)), (some 59), (some (52, false))⟩, .n, []⟩, ⟨⟨.op (.mv (.t 9)), (some 60), (some (52, false))⟩, .n, []⟩, ⟨⟨.op (.ia 14 none (.t 59) (.t 60)), (some 61), (some (52, false))⟩, .n, []⟩, ⟨⟨.op (.ldn 14 (.t 61)), (some 62), (some (52, false))⟩, .n, []⟩, ⟨⟨.op (.ldn 8 (.t 8)), (some 63), (some (52, false))⟩, .n, []⟩, ⟨⟨.call 17 [(.t 56), (.t 57)], (some 58), (some (52, false))⟩, .x, [(true, 23), (true, 22)]⟩, ⟨⟨.call 18 [(.t 62), (.t 63)], (some 64), (some (52, false))⟩, .x, []⟩, ⟨⟨.op (.bin .neq 5 (.t 58) (.t 64)), (some 65), (some (52, false))⟩, .n, []⟩, ⟨⟨.op (.pick (.t 52) (.c (.bool true)) (.t 65)), (some 66), none⟩, .n, []⟩])
 [5, 7, 8, 9, 66]
 (.cond (.t 66) (.seq (.reg [⟨.op (.mv (.c (.bool false))), (some 4), none⟩])
 [4]
 (.ret)) (.skip)))
 [5, 7, 8, 9]
 (.seq (.reg [⟨.op (.mv (.c (.int .i64 0))), (some 10), none⟩])
 [5, 7, 8, 9, 10]
 (.block 2 (.loop [5, 7, 8, 9, 10] (l4_0))))))
 [5, 7, 8, 9]
 (.reg [⟨.op (.mv (.t 9)), (some 37), none⟩, ⟨.op (.bin .add 0 (.t 37) (.c (.int .i64 1))), (some 38), none⟩, ⟨.op (.mv (.t 38)), (some 9), none⟩]))) T st := rfl
/-- cardamom/cardamomlaw7.NormMeet -/
noncomputable def c4 : DFn := ⟨106, .pure,
 .seq (.reg [⟨.op (.mv (.c (.bool false))), (some 4), none⟩])
 [0, 1]
 (.seq (.seq (.reg [⟨.call 9 [], (some 15), none⟩, ⟨.op (.not (.t 15)), (some 16), none⟩])
 [0, 1, 16]
 (.cond (.t 16) (.seq (.reg [⟨.op (.mv (.c (.bool false))), (some 4), none⟩])
 [4]
 (.ret)) (.skip)))
 [0, 1]
 (.seq (.seq (.reg [⟨.op (.mv (.t 0)), (some 17), none⟩, ⟨.op (.len (.t 17)), (some 18), none⟩, ⟨.op (.bin .gtr 0 (.t 18) (.c (.int .i64 60))), (some 19), none⟩, ⟨.op (.mv (.t 19)), (some 20), none⟩, ⟨.op (.mv (.t 1)), (some 21), (some (20, false))⟩, ⟨.op (.len (.t 21)), (some 22), (some (20, false))⟩, ⟨.op (.bin .gtr 0 (.t 22) (.c (.int .i64 40))), (some 23), (some (20, false))⟩, ⟨.op (.pick (.t 20) (.c (.bool true)) (.t 23)), (some 24), none⟩])
 [0, 1, 24]
 (.cond (.t 24) (.seq (.reg [⟨.op (.mv (.c (.bool true))), (some 4), none⟩])
 [4]
 (.ret)) (.skip)))
 [0, 1]
 (.seq (.reg [⟨.op (.mv (.t 0)), (some 25), none⟩, ⟨.call 15 [(.t 25)], (some 26), none⟩, ⟨.op (.mv (.t 26)), (some 5), none⟩])
 [1, 5]
 (.seq (.reg [⟨.op (.mv (.t 1)), (some 27), none⟩, ⟨.call 10 [(.t 27)], (some 28), none⟩, ⟨.op (.mv (.t 28)), (some 6), none⟩])
 [5, 6]
 (.seq (.reg [⟨.op (.mv (.t 6)), (some 29), none⟩, ⟨.call 16 [(.t 29)], (some 30), none⟩, ⟨.op (.mv (.t 6)), (some 31), none⟩, ⟨.call 16 [(.t 31)], (some 32), none⟩, ⟨.op (.new [(.int .i64 0), (.int .i64 0), (.int .i64 0), (.int .i64 0), (.bool false), (.sl none 0), (.str []), (.str [])]), (some 7), none⟩, ⟨.op (.new [(.int .i64 0), (.int .i64 0), (.int .i64 0), (.int .i64 0), (.bool false), (.sl none 0), (.str []), (.str [])]), (some 8), none⟩, ⟨.op (.st 8 (.t 7) (.t 30)), none, none⟩, ⟨.op (.st 8 (.t 8) (.t 32)), none, none⟩])
 [5, 7, 8]
 (.seq (.seq (.reg [⟨.op (.mv (.c (.int .i64 0))), (some 9), none⟩])
 [5, 7, 8, 9]
 (.block 0 (.loop [5, 7, 8, 9] (l4_1))))
 []
 (.seq (.reg [⟨.op (.mv (.c (.bool true))), (some 4), none⟩])
 [4]
 (.ret)))))))),
 [.tmp 4]⟩
theorem k4 : cFn Try.prog 4 = some c4.toE := by kernel_rfl
theorem w4 : c4.body.wf = true := by kernel_rfl
noncomputable def l6_0 : DC :=
 .seq (.seq (.reg [⟨.op (.mv (.t 10)), (some 40), none⟩, ⟨.op (.mv (.t 5)), (some 41), none⟩, ⟨.op (.len (.t 41)), (some 42), none⟩, ⟨.op (.bin .lss 0 (.t 40) (.t 42)), (some 43), none⟩])
 [5, 6, 7, 8, 9, 10, 43]
 (.cond (.t 43) (.skip) (.exit 4)))
 [5, 6, 7, 8, 9, 10]
 (.seq (.block 5 (.seq (.drw [⟨⟨.op (.mv (.t 5)), (some 47), none⟩, .n, []⟩, ⟨⟨.op (.mv (.t 9)), (some 48), none⟩, .n, []⟩, ⟨⟨.op (.ia 14 none (.t 47) (.t 48)), (some 49), none⟩, .n, []⟩, ⟨⟨.op (.ldn 14 (.t 49)), (some 50), none⟩, .n, []⟩, ⟨⟨.op (.mv (.t 5)), (some 51), none⟩, .n, []⟩, ⟨⟨.op (.mv (.t 10)), (some 52), none⟩, .n, []⟩, ⟨⟨.op (.ia 14 none (.t 51) (.t 52)), (some 53), none⟩, .n, []⟩, ⟨⟨.op (.ldn 14 (.t 53)), (some 54), none⟩, .n, []⟩, ⟨⟨.op (.new [(.int .i64 0), (.int .i64 0), (.int .i64 0), (.int .i64 0), (.int .i64 0), (.int .i64 0), (.int .i64 0), (.int .i64 0), (.int .i64 0), (.int .i64 0), (.int .i64 0), (.int .i64 0), (.str []), (.sl none 0)]), (some 11), none⟩, .a, [(true, 7), (true, 3)]⟩, ⟨⟨.call 19 [(.t 50), (.t 54)], (some 55), none⟩, .x, [(false, 8)]⟩, ⟨⟨.op (.mv (.t 55)), (some 46), none⟩, .n, []⟩, ⟨⟨.op (.ext (.t 46) 0), (some 56), none⟩, .n, []⟩, ⟨⟨.op (.ext (.t 46) 1), (some 57), none⟩, .n, []⟩, ⟨⟨.op (.st 14 (.t 11) (.t 56)), none, none⟩, .x, []⟩, ⟨⟨.op (.mv (.t 57)), (some 12), none⟩, .x, []⟩])
 [5, 6, 7, 8, 9, 10, 11, 12]
 (.seq (.drw [⟨⟨.op (.mv (.t 5)), (some 58), none⟩, .n, []⟩, ⟨⟨.op (.mv (.t 9)), (some 59), none⟩, .n, []⟩, ⟨⟨.op (.ia 14 none (.t 58) (.t 59)), (some 60), none⟩, .n, []⟩, ⟨⟨.op (.ldn 14 (.t 60)), (some 61), none⟩, .n, []⟩, ⟨⟨.op (.ldn 8 (.t 8)), (some 62), none⟩, .n, []⟩, ⟨⟨.call 17 [(.t 61), (.t 62)], (some 63), none⟩, .x, []⟩, ⟨⟨.op (.mv (.t 63)), (some 64), none⟩, .n, []⟩, ⟨⟨.op (.mv (.t 5)), (some 65), (some (64, true))⟩, .n, []⟩, ⟨⟨.op (.mv (.t 10)), (some 66), (some (64, true))⟩, .n, []⟩, ⟨⟨.op (.ia 14 none (.t 65) (.t 66)), (some 67), (some (64, true))⟩, .n, []⟩, ⟨⟨.op (.ldn 14 (.t 67)), (some 68), (some (64, true))⟩, .n, []⟩, ⟨⟨.op (.ldn 8 (.t 8)), (some 69), (some (64, true))⟩, .n, []⟩, ⟨⟨.call 17 [(.t 68), (.t 69)], (some 70), (some (64, true))⟩, .x, []⟩, ⟨⟨.op (.pick (.t 64) (.t 70) (.c (.bool false))), (some 71), none⟩, .n, []⟩, ⟨⟨.op (.mv (.t 71)), (some 13), none⟩, .x, []⟩])
 [5, 6, 7, 8, 9, 10, 11, 12, 13]
 (.seq (.reg [⟨.op (.mv (.t 12)), (some 72), none⟩, ⟨.op (.mv (.t 72)), (some 73), none⟩, ⟨.op (.ldn 14 (.t 11)), (some 74), (some (73, true))⟩, ⟨.op (.ldn 8 (.t 8)), (some 75), (some (73, true))⟩, ⟨.call 17 [(.t 74), (.t 75)], (some 76), (some (73, true))⟩, ⟨.op (.mv (.t 13)), (some 77), (some (73, true))⟩, ⟨.op (.bin .neq 5 (.t 76) (.t 77)), (some 78), (some (73, true))⟩, ⟨.op (.pick (.t 73) (.t 78) (.c (.bool false))), (some 79), none⟩, ⟨.op (.mv (.t 79)), (some 80), none⟩, ⟨.op (.mv (.t 12)), (some 81), (some (80, false))⟩, ⟨.op (.not (.t 81)), (some 82), (some (80, false))⟩, ⟨.op (.mv (.t 82)), (some 83), (some (80, false))⟩, ⟨.op (.mv (.t 13)), (some 84), (some (83, true))⟩, ⟨.op (.pick (.t 83) (.t 84) (.c (.bool false))), (some 85), (some (80, false))⟩, ⟨.op (.pick (.t 80) (.c (.bool true)) (.t 85)), (some 86), none⟩])
 [5, 6, 7, 8, 9, 10, 86]
 (.cond (.t 86) (.seq (.reg [⟨.op (.mv (.c (.bool false))), (some 4), none⟩])
 [4]
 (.ret)) (.skip))))))
 [5, 6, 7, 8, 9, 10]
 (.reg [⟨.op (.mv (.t 10)), (some 44), none⟩, ⟨.op (.bin .add 0 (.t 44) (.c (.int .i64 1))), (some 45), none⟩, ⟨.op (.mv (.t 45)), (some 10), none⟩]))
theorem u6_0 (call : DCall) (T : Tm) (st : Dv.St) : dCw Try.prog call l6_0 T st = dCw Try.prog call
 (.seq (.seq (.reg [⟨.op (.mv (.t 10)), (some 40), none⟩, ⟨.op (.mv (.t 5)), (some 41), none⟩, ⟨.op (.len (.t 41)), (some 42), none⟩, ⟨.op (.bin .lss 0 (.t 40) (.t 42)), (some 43), none⟩])
 [5, 6, 7, 8, 9, 10, 43]
 (.cond (.t 43) (.skip) (.exit 4)))
 [5, 6, 7, 8, 9, 10]
 (.seq (.block 5 (.seq (.drw [⟨⟨.op (.mv (.t 5)), (some 47), none⟩, .n, []⟩, ⟨⟨.op (.mv (.t 9)), (some 48), none⟩, .n, []⟩, ⟨⟨.op (.ia 14 none (.t 47) (.t 48)), (some 49), none⟩, .n, []⟩, ⟨⟨.op (.ldn 14 (.t 49)), (some 50), none⟩, .n, []⟩, ⟨⟨.op (.mv (.t 5)), (some 51), none⟩, .n, []⟩, ⟨⟨.op (.mv (.t 10)), (some 52), none⟩, .n, []⟩, ⟨⟨.op (.ia 14 none (.t 51) (.t 52)), (some 53), none⟩, .n, []⟩, ⟨⟨.op (.ldn 14 (.t 53)), (some 54), none⟩, .n, []⟩, ⟨⟨.op (.new [(.int .i64 0), (.int .i64 0), (.int .i64 0), (.int .i64 0), (.int .i64 0), (.int .i64 0), (.int .i64 0), (.int .i64 0), (.int .i64 0), (.int .i64 0), (.int .i64 0), (.int .i64 0), (.str []), (.sl none 0)]), (some 11), none⟩, .a, [(true, 7), (true, 3)]⟩, ⟨⟨.call 19 [(.t 50), (.t 54)], (some 55), none⟩, .x, [(false, 8)]⟩, ⟨⟨.op (.mv (.t 55)), (some 46), none⟩, .n, []⟩, ⟨⟨.op (.ext (.t 46) 0), (some 56), none⟩, .n, []⟩, ⟨⟨.op (.ext (.t 46) 1), (some 57), none⟩, .n, []⟩, ⟨⟨.op (.st 14 (.t 11) (.t 56)), none, none⟩, .x, []⟩, ⟨⟨.op (.mv (.t 57)), (some 12), none⟩, .x, []⟩])
 [5, 6, 7, 8, 9, 10, 11, 12]
 (.seq (.drw [⟨⟨.op (.mv (.t 5)), (some 58), none⟩, .n, []⟩, ⟨⟨.op (.mv (.t 9)), (some 59), none⟩, .n, []⟩, ⟨⟨.op (.ia 14 none (.t 58) (.t 59)), (some 60), none⟩, .n, []⟩, ⟨⟨.op (.ldn 14 (.t 60)), (some 61), none⟩, .n, []⟩, ⟨⟨.op (.ldn 8 (.t 8)), (some 62), none⟩, .n, []⟩, ⟨⟨.call 17 [(.t 61), (.t 62)], (some 63), none⟩, .x, []⟩, ⟨⟨.op (.mv (.t 63)), (some 64), none⟩, .n, []⟩, ⟨⟨.op (.mv (.t 5)), (some 65), (some (64, true))⟩, .n, []⟩, ⟨⟨.op (.mv (.t 10)), (some 66), (some (64, true))⟩, .n, []⟩, ⟨⟨.op (.ia 14 none (.t 65) (.t 66)), (some 67), (some (64, true))⟩, .n, []⟩, ⟨⟨.op (.ldn 14 (.t 67)), (some 68), (some (64, true))⟩, .n, []⟩, ⟨⟨.op (.ldn 8 (.t 8)), (some 69), (some (64, true))⟩, .n, []⟩, ⟨⟨.call 17 [(.t 68), (.t 69)], (some 70), (some (64, true))⟩, .x, []⟩, ⟨⟨.op (.pick (.t 64) (.t 70) (.c (.bool false))), (some 71), none⟩, .n, []⟩, ⟨⟨.op (.mv (.t 71)), (some 13), none⟩, .x, []⟩])
 [5, 6, 7, 8, 9, 10, 11, 12, 13]
 (.seq (.reg [⟨.op (.mv (.t 12)), (some 72), none⟩, ⟨.op (.mv (.t 72)), (some 73), none⟩, ⟨.op (.ldn 14 (.t 11)), (some 74), (some (73, true))⟩, ⟨.op (.ldn 8 (.t 8)), (some 75), (some (73, true))⟩, ⟨.call 17 [(.t 74), (.t 75)], (some 76), (some (73, true))⟩, ⟨.op (.mv (.t 13)), (some 77), (some (73, true))⟩, ⟨.op (.bin .neq 5 (.t 76) (.t 77)), (some 78), (some (73, true))⟩, ⟨.op (.pick (.t 73) (.t 78) (.c (.bool false))), (some 79), none⟩, ⟨.op (.mv (.t 79)), (some 80), none⟩, ⟨.op (.mv (.t 12)), (some 81), (some (80, false))⟩, ⟨.op (.not (.t 81)), (some 82), (some (80, false))⟩, ⟨.op (.mv (.t 82)), (some 83), (some (80, false))⟩, ⟨.op (.mv (.t 13)), (some 84), (some (83, true))⟩, ⟨.op (.pick (.t 83) (.t 84) (.c (.bool false))), (some 85), (some (80, false))⟩, ⟨.op (.pick (.t 80) (.c (.bool true)) (.t 85)), (some 86), none⟩])
 [5, 6, 7, 8, 9, 10, 86]
 (.cond (.t 86) (.seq (.reg [⟨.op (.mv (.c (.bool false))), (some 4), none⟩])
 [4]
 (.ret)) (.skip))))))
 [5, 6, 7, 8, 9, 10]
 (.reg [⟨.op (.mv (.t 10)), (some 44), none⟩, ⟨.op (.bin .add 0 (.t 44) (.c (.int .i64 1))), (some 45), none⟩, ⟨.op (.mv (.t 45)), (some 10), none⟩]))) T st := rfl
noncomputable def l6_1 : DC :=
 .seq (.seq (.reg [⟨.op (.mv (.t 9)), (some 34), none⟩, ⟨.op (.mv (.t 5)), (some 35), none⟩, ⟨.op (.len (.t 35)), (some 36), none⟩, ⟨.op (.bin .lss 0 (.t 34) (.t 36)), (some 37), none⟩])
 [5, 6, 7, 8, 9, 37]
 (.cond (.t 37) (.skip) (.exit 2)))
 [5, 6, 7, 8, 9]
 (.seq (.block 3 (.seq (.reg [⟨.op (.mv (.c (.int .i64 0))), (some 10), none⟩])
 [5, 6, 7, 8, 9, 10]
 (.block 4 (.loop [5, 6, 7, 8, 9, 10] (l6_0)))))
 [5, 6, 7, 8, 9]
 (.reg [⟨.op (.mv (.t 9)), (some 38), none⟩, ⟨.op (.bin .add 0 (.t 38) (.c (.int .i64 1))), (some 39), none⟩, ⟨.op (.mv (.t 39)), (some 9), none⟩]))
theorem u6_1 (call : DCall) (T : Tm) (st : Dv.St) : dCw Try.prog call l6_1 T st = dCw Try.prog call
 (.seq (.seq (.reg [⟨.op (.mv (.t 9)), (some 34), none⟩, ⟨.op (.mv (.t 5)), (some 35), none⟩, ⟨.op (.len (.t 35)), (some 36), none⟩, ⟨.op (.bin .lss 0 (.t 34) (.t 36)), (some 37), none⟩])
 [5, 6, 7, 8, 9, 37]
 (.cond (.t 37) (.skip) (.exit 2)))
 [5, 6, 7, 8, 9]
 (.seq (.block 3 (.seq (.reg [⟨.op (.mv (.c (.int .i64 0))), (some 10), none⟩])
 [5, 6, 7, 8, 9, 10]
 (.block 4 (.loop [5, 6, 7, 8, 9, 10] (l6_0)))))
 [5, 6, 7, 8, 9]
 (.reg [⟨.op (.mv (.t 9)), (some 38), none⟩, ⟨.op (.bin .add 0 (.t 38) (.c (.int .i64 1))), (some 39), none⟩, ⟨.op (.mv (.t 39)), (some 9), none⟩]))) T st := rfl
noncomputable def l6_2 : DC :=
 .seq (.seq (.reg [⟨.op (.mv (.t 7)), (some 28), none⟩, ⟨.op (.bin .lss 0 (.t 28) (.c (.int .i64 3))), (some 29), none⟩])
 [5, 6, 7, 29]
 (.cond (.t 29) (.skip) (.exit 0)))
 [5, 6, 7]
 (.seq (.block 1 (.seq (.reg [⟨.op (.mv (.t 6)), (some 32), none⟩, ⟨.call 16 [(.t 32)], (some 33), none⟩, ⟨.op (.new [(.int .i64 0), (.int .i64 0), (.int .i64 0), (.int .i64 0), (.bool false), (.sl none 0), (.str []), (.str [])]), (some 8), none⟩, ⟨.op (.st 8 (.t 8) (.t 33)), none, none⟩])
 [5, 6, 7, 8]
 (.seq (.reg [⟨.op (.mv (.c (.int .i64 0))), (some 9), none⟩])
 [5, 6, 7, 8, 9]
 (.block 2 (.loop [5, 6, 7, 8, 9] (l6_1))))))
 [5, 6, 7]
 (.reg [⟨.op (.mv (.t 7)), (some 30), none⟩, ⟨.op (.bin .add 0 (.t 30) (.c (.int .i64 1))), (some 31), none⟩, ⟨.op (.mv (.t 31)), (some 7), none⟩]))
theorem u6_2 (call : DCall) (T : Tm) (st : Dv.St) : dCw Try.prog call l6_2 T st = dCw Try.prog call
 (.seq (.seq (.reg [⟨.op (.mv (.t 7)), (some 28), none⟩, ⟨.op (.bin .lss 0 (.t 28) (.c (.int .i64 3))), (some 29), none⟩])
 [5, 6, 7, 29]
 (.cond (.t 29) (.skip) (.exit 0)))
 [5, 6, 7]
 (.seq (.block 1 (.seq (.reg [⟨.op (.mv (.t 6)), (some 32), none⟩, ⟨.call 16 [(.t 32)], (some 33), none⟩, ⟨.op (.new [(.int .i64 0), (.int .i64 0), (.int .i64 0), (.int .i64 0), (.bool false), (.sl none 0), (.str []), (.str [])]), (some 8), none⟩, ⟨.op (.st 8 (.t 8) (.t 33)), none, none⟩])
 [5, 6, 7, 8]
 (.seq (.reg [⟨.op (.mv (.c (.int .i64 0))), (some 9), none⟩])
 [5, 6, 7, 8, 9]
 (.block 2 (.loop [5, 6, 7, 8, 9] (l6_1))))))
 [5, 6, 7]
 (.reg [⟨.op (.mv (.t 7)), (some 30), none⟩, ⟨.op (.bin .add 0 (.t 30) (.c (.int .i64 1))), (some 31), none⟩, ⟨.op (.mv (.t 31)), (some 7), none⟩]))) T st := rfl
/-- cardamom/cardamomlaw7.NormBoth -/
noncomputable def c6 : DFn := ⟨87, .pure,
 .seq (.reg [⟨.op (.mv (.c (.bool false))), (some 4), none⟩])
 [0, 1]
 (.seq (.seq (.reg [⟨.call 9 [], (some 14), none⟩, ⟨.op (.not (.t 14)), (some 15), none⟩])
 [0, 1, 15]
 (.cond (.t 15) (.seq (.reg [⟨.op (.mv (.c (.bool false))), (some 4), none⟩])
 [4]
 (.ret)) (.skip)))
 [0, 1]
 (.seq (.seq (.reg [⟨.op (.mv (.t 0)), (some 16), none⟩, ⟨.op (.len (.t 16)), (some 17), none⟩, ⟨.op (.bin .gtr 0 (.t 17) (.c (.int .i64 60))), (some 18), none⟩, ⟨.op (.mv (.t 18)), (some 19), none⟩, ⟨.op (.mv (.t 1)), (some 20), (some (19, false))⟩, ⟨.op (.len (.t 20)), (some 21), (some (19, false))⟩, ⟨.op (.bin .gtr 0 (.t 21) (.c (.int .i64 60))), (some 22), (some (19, false))⟩, ⟨.op (.pick (.t 19) (.c (.bool true)) (.t 22)), (some 23), none⟩])
 [0, 1, 23]
 (.cond (.t 23) (.seq (.reg [⟨.op (.mv (.c (.bool true))), (some 4), none⟩])
 [4]
 (.ret)) (.skip)))
 [0, 1]
 (.seq (.reg [⟨.op (.mv (.t 0)), (some 24), none⟩, ⟨.call 15 [(.t 24)], (some 25), none⟩, ⟨.op (.mv (.t 25)), (some 5), none⟩])
 [1, 5]
 (.seq (.reg [⟨.op (.mv (.t 1)), (some 26), none⟩, ⟨.call 10 [(.t 26)], (some 27), none⟩, ⟨.op (.mv (.t 27)), (some 6), none⟩])
 [5, 6]
 (.seq (.seq (.reg [⟨.op (.mv (.c (.int .i64 0))), (some 7), none⟩])
 [5, 6, 7]
 (.block 0 (.loop [5, 6, 7] (l6_2))))
 []
 (.seq (.reg [⟨.op (.mv (.c (.bool true))), (some 4), none⟩])
 [4]
 (.ret))))))),
 [.tmp 4]⟩
theorem k6 : cFn Try.prog 6 = some c6.toE := by kernel_rfl
theorem w6 : c6.body.wf = true := by kernel_rfl
noncomputable def l15_0 : DC :=
 .seq (.seq (.reg [⟨.op (.mv (.t 5)), (some 10), none⟩, ⟨.op (.bin .lss 0 (.t 10) (.c (.int .i64 3))), (some 11), none⟩])
 [3, 4, 5, 11]
 (.cond (.t 11) (.skip) (.exit 0)))
 [3, 4, 5]
 (.seq (.block 1 (.seq (.reg [⟨.op (.mv (.t 3)), (some 15), none⟩, ⟨.call 11 [(.t 15), (.c (.int .i64 3))], (some 16), none⟩, ⟨.call 13 [(.t 16)], (some 17), none⟩, ⟨.op (.mv (.t 17)), (some 14), none⟩, ⟨.op (.ext (.t 14) 0), (some 18), none⟩, ⟨.op (.ext (.t 14) 1), (some 19), none⟩, ⟨.op (.mv (.t 18)), (some 6), none⟩, ⟨.op (.mv (.t 19)), (some 7), none⟩])
 [3, 4, 5, 6, 7]
 (.seq (.reg [⟨.op (.mv (.t 7)), (some 20), none⟩, ⟨.op (.mv (.t 20)), (some 21), none⟩, ⟨.op (.mv (.t 6)), (some 22), (some (21, true))⟩, ⟨.op (.len (.t 22)), (some 23), (some (21, true))⟩, ⟨.op (.bin .gtr 0 (.t 23) (.c (.int .i64 0))), (some 24), (some (21, true))⟩, ⟨.op (.pick (.t 21) (.t 24) (.c (.bool false))), (some 25), none⟩])
 [3, 4, 5, 6, 25]
 (.cond (.t 25) (.reg [⟨.op (.mv (.t 4)), (some 26), none⟩, ⟨.op (.mv (.t 6)), (some 27), none⟩, ⟨.op (.mv (.t 3)), (some 28), none⟩, ⟨.op (.mv (.t 6)), (some 29), none⟩, ⟨.op (.len (.t 29)), (some 30), none⟩, ⟨.call 24 [(.t 28), (.t 30)], (some 31), none⟩, ⟨.op (.ia 14 none (.t 27) (.t 31)), (some 32), none⟩, ⟨.op (.ldn 14 (.t 32)), (some 33), none⟩, ⟨.op (.bslice 14 1 [(.int .i64 0), (.int .i64 0), (.int .i64 0), (.int .i64 0), (.int .i64 0), (.int .i64 0), (.int .i64 0), (.int .i64 0), (.int .i64 0), (.int .i64 0), (.int .i64 0), (.int .i64 0), (.str []), (.sl none 0)] [(0, 14, (.t 33))]), (some 34), none⟩, ⟨.op (.app 14 136 false (.t 26) (.t 34)), (some 35), none⟩, ⟨.op (.mv (.t 35)), (some 4), none⟩]) (.skip)))))
 [3, 4, 5]
 (.reg [⟨.op (.mv (.t 5)), (some 12), none⟩, ⟨.op (.bin .add 0 (.t 12) (.c (.int .i64 1))), (some 13), none⟩, ⟨.op (.mv (.t 13)), (some 5), none⟩]))
theorem u15_0 (call : DCall) (T : Tm) (st : Dv.St) : dCw Try.prog call l15_0 T st = dCw Try.prog call
 (.seq (.seq (.reg [⟨.op (.mv (.t 5)), (some 10), none⟩, ⟨.op (.bin .lss 0 (.t 10) (.c (.int .i64 3))), (some 11), none⟩])
 [3, 4, 5, 11]
 (.cond (.t 11) (.skip) (.exit 0)))
 [3, 4, 5]
 (.seq (.block 1 (.seq (.reg [⟨.op (.mv (.t 3)), (some 15), none⟩, ⟨.call 11 [(.t 15), (.c (.int .i64 3))], (some 16), none⟩, ⟨.call 13 [(.t 16)], (some 17), none⟩, ⟨.op (.mv (.t 17)), (some 14), none⟩, ⟨.op (.ext (.t 14) 0), (some 18), none⟩, ⟨.op (.ext (.t 14) 1), (some 19), none⟩, ⟨.op (.mv (.t 18)), (some 6), none⟩, ⟨.op (.mv (.t 19)), (some 7), none⟩])
 [3, 4, 5, 6, 7]
 (.seq (.reg [⟨.op (.mv (.t 7)), (some 20), none⟩, ⟨.op (.mv (.t 20)), (some 21), none⟩, ⟨.op (.mv (.t 6)), (some 22), (some (21, true))⟩, ⟨.op (.len (.t 22)), (some 23), (some (21, true))⟩, ⟨.op (.bin .gtr 0 (.t 23) (.c (.int .i64 0))), (some 24), (some (21, true))⟩, ⟨.op (.pick (.t 21) (.t 24) (.c (.bool false))), (some 25), none⟩])
 [3, 4, 5, 6, 25]
 (.cond (.t 25) (.reg [⟨.op (.mv (.t 4)), (some 26), none⟩, ⟨.op (.mv (.t 6)), (some 27), none⟩, ⟨.op (.mv (.t 3)), (some 28), none⟩, ⟨.op (.mv (.t 6)), (some 29), none⟩, ⟨.op (.len (.t 29)), (some 30), none⟩, ⟨.call 24 [(.t 28), (.t 30)], (some 31), none⟩, ⟨.op (.ia 14 none (.t 27) (.t 31)), (some 32), none⟩, ⟨.op (.ldn 14 (.t 32)), (some 33), none⟩, ⟨.op (.bslice 14 1 [(.int .i64 0), (.int .i64 0), (.int .i64 0), (.int .i64 0), (.int .i64 0), (.int .i64 0), (.int .i64 0), (.int .i64 0), (.int .i64 0), (.int .i64 0), (.int .i64 0), (.int .i64 0), (.str []), (.sl none 0)] [(0, 14, (.t 33))]), (some 34), none⟩, ⟨.op (.app 14 136 false (.t 26) (.t 34)), (some 35), none⟩, ⟨.op (.mv (.t 35)), (some 4), none⟩]) (.skip)))))
 [3, 4, 5]
 (.reg [⟨.op (.mv (.t 5)), (some 12), none⟩, ⟨.op (.bin .add 0 (.t 12) (.c (.int .i64 1))), (some 13), none⟩, ⟨.op (.mv (.t 13)), (some 5), none⟩]))) T st := rfl
/-- cardamom/cardamomlaw7.Boxes -/
noncomputable def c15 : DFn := ⟨37, .pure,
 .seq (.reg [⟨.op (.mv (.c (.sl none 0))), (some 2), none⟩])
 [0]
 (.seq (.reg [⟨.op (.mv (.t 0)), (some 8), none⟩, ⟨.call 10 [(.t 8)], (some 9), none⟩, ⟨.op (.mv (.t 9)), (some 3), none⟩])
 [3]
 (.seq (.reg [⟨.op (.mv (.c (.sl none 0))), (some 4), none⟩])
 [3, 4]
 (.seq (.seq (.reg [⟨.op (.mv (.c (.int .i64 0))), (some 5), none⟩])
 [3, 4, 5]
 (.block 0 (.loop [3, 4, 5] (l15_0))))
 [4]
 (.seq (.reg [⟨.op (.mv (.t 4)), (some 36), none⟩, ⟨.op (.mv (.t 36)), (some 2), none⟩])
 [2]
 (.ret))))),
 [.tmp 2]⟩
theorem k15 : cFn Try.prog 15 = some c15.toE := by kernel_rfl
theorem w15 : c15.body.wf = true := by kernel_rfl
/-- cardamom/cardamomref4.Of -/
noncomputable def c13 : DFn := ⟨8, .pure,
 .seq (.reg [⟨.op (.box (.t 0)), (some 1), none⟩, ⟨.op (.mv (.c (.sl none 0))), (some 2), none⟩, ⟨.op (.mv (.c (.bool false))), (some 3), none⟩])
 [1]
 (.seq (.reg [⟨.op (.ldn 6 (.t 1)), (some 4), none⟩, ⟨.call 26 [(.t 4), (.c (.bool false))], (some 5), none⟩, ⟨.op (.ext (.t 5) 0), (some 6), none⟩, ⟨.op (.ext (.t 5) 1), (some 7), none⟩, ⟨.op (.mv (.t 6)), (some 2), none⟩, ⟨.op (.mv (.t 7)), (some 3), none⟩])
 [2, 3]
 (.ret)),
 [.tmp 2, .tmp 3]⟩
theorem k13 : cFn Try.prog 13 = some c13.toE := by kernel_rfl
theorem w13 : c13.body.wf = true := by kernel_rfl
noncomputable def l26_0 : DC :=
 .seq (.seq (.reg [⟨.op (.mv (.t 15)), (some 147), none⟩, ⟨.op (.mv (.t 10)), (some 148), none⟩, ⟨.op (.len (.t 148)), (some 149), none⟩, ⟨.op (.bin .lss 0 (.t 147) (.t 149)), (some 150), none⟩])
 [8, 10, 13, 14, 15, 150]
 (.cond (.t 150) (.skip) (.exit 3)))
 [8, 10, 13, 14, 15]
 (.seq (.block 4 (.seq (.drw [⟨⟨.op (.mv (.t 8)), (some 154), none⟩, .n, []⟩, ⟨⟨.op (.mv (.t 14)), (some 155), none⟩, .n, []⟩, ⟨⟨.op (.ia 14 none (.t 154) (.t 155)), (some 156), none⟩, .n, []⟩, ⟨⟨.op (.ldn 14 (.t 156)), (some 157), none⟩, .n, []⟩, ⟨⟨.op (.mv (.t 10)), (some 158), none⟩, .n, []⟩, ⟨⟨.op (.mv (.t 15)), (some 159), none⟩, .n, []⟩, ⟨⟨.op (.ia 14 none (.t 158) (.t 159)), (some 160), none⟩, .n, []⟩, ⟨⟨.op (.ldn 14 (.t 160)), (some 161), none⟩, .n, []⟩, ⟨⟨.op (.new [(.int .i64 0), (.int .i64 0), (.int .i64 0), (.int .i64 0), (.int .i64 0), (.int .i64 0), (.int .i64 0), (.int .i64 0), (.int .i64 0), (.int .i64 0), (.int .i64 0), (.int .i64 0), (.str []), (.sl none 0)]), (some 16), none⟩, .a, [(true, 7), (true, 3)]⟩, ⟨⟨.call 20 [(.t 157), (.t 161)], (some 162), none⟩, .x, [(false, 8)]⟩, ⟨⟨.op (.mv (.t 162)), (some 153), none⟩, .n, []⟩, ⟨⟨.op (.ext (.t 153) 0), (some 163), none⟩, .n, []⟩, ⟨⟨.op (.ext (.t 153) 1), (some 164), none⟩, .n, []⟩, ⟨⟨.op (.st 14 (.t 16) (.t 163)), none, none⟩, .x, []⟩, ⟨⟨.op (.mv (.t 164)), (some 17), none⟩, .x, []⟩])
 [8, 10, 13, 14, 15, 16, 17]
 (.seq (.reg [⟨.op (.mv (.t 17)), (some 165), none⟩])
 [8, 10, 13, 14, 15, 16, 165]
 (.cond (.t 165) (.reg [⟨.op (.mv (.t 13)), (some 166), none⟩, ⟨.op (.ldn 14 (.t 16)), (some 167), none⟩, ⟨.op (.bslice 14 1 [(.int .i64 0), (.int .i64 0), (.int .i64 0), (.int .i64 0), (.int .i64 0), (.int .i64 0), (.int .i64 0), (.int .i64 0), (.int .i64 0), (.int .i64 0), (.int .i64 0), (.int .i64 0), (.str []), (.sl none 0)] [(0, 14, (.t 167))]), (some 168), none⟩, ⟨.op (.app 14 136 false (.t 166) (.t 168)), (some 169), none⟩, ⟨.op (.mv (.t 169)), (some 13), none⟩]) (.skip)))))
 [8, 10, 13, 14, 15]
 (.reg [⟨.op (.mv (.t 15)), (some 151), none⟩, ⟨.op (.bin .add 0 (.t 151) (.c (.int .i64 1))), (some 152), none⟩, ⟨.op (.mv (.t 152)), (some 15), none⟩]))
theorem u26_0 (call : DCall) (T : Tm) (st : Dv.St) : dCw Try.prog call l26_0 T st = dCw Try.prog call
 (.seq (.seq (.reg [⟨.op (.mv (.t 15)), (some 147), none⟩, ⟨.op (.mv (.t 10)), (some 148), none⟩, ⟨.op (.len (.t 148)), (some 149), none⟩, ⟨.op (.bin .lss 0 (.t 147) (.t 149)), (some 150), none⟩])
 [8, 10, 13, 14, 15, 150]
 (.cond (.t 150) (.skip) (.exit 3)))
 [8, 10, 13, 14, 15]
 (.seq (.block 4 (.seq (.drw [⟨⟨.op (.mv (.t 8)), (some 154), none⟩, .n, []⟩, ⟨⟨.op (.mv (.t 14)), (some 155), none⟩, .n, []⟩, ⟨⟨.op (.ia 14 none (.t 154) (.t 155)), (some 156), none⟩, .n, []⟩, ⟨⟨.op (.ldn 14 (.t 156)), (some 157), none⟩, .n, []⟩, ⟨⟨.op (.mv (.t 10)), (some 158), none⟩, .n, []⟩, ⟨⟨.op (.mv (.t 15)), (some 159), none⟩, .n, []⟩, ⟨⟨.op (.ia 14 none (.t 158) (.t 159)), (some 160), none⟩, .n, []⟩, ⟨⟨.op (.ldn 14 (.t 160)), (some 161), none⟩, .n, []⟩, ⟨⟨.op (.new [(.int .i64 0), (.int .i64 0), (.int .i64 0), (.int .i64 0), (.int .i64 0), (.int .i64 0), (.int .i64 0), (.int .i64 0), (.int .i64 0), (.int .i64 0), (.int .i64 0), (.int .i64 0), (.str []), (.sl none 0)]), (some 16), none⟩, .a, [(true, 7), (true, 3)]⟩, ⟨⟨.call 20 [(.t 157), (.t 161)], (some 162), none⟩, .x, [(false, 8)]⟩, ⟨⟨.op (.mv (.t 162)), (some 153), none⟩, .n, []⟩, ⟨⟨.op (.ext (.t 153) 0), (some 163), none⟩, .n, []⟩, ⟨⟨.op (.ext (.t 153) 1), (some 164), none⟩, .n, []⟩, ⟨⟨.op (.st 14 (.t 16) (.t 163)), none, none⟩, .x, []⟩, ⟨⟨.op (.mv (.t 164)), (some 17), none⟩, .x, []⟩])
 [8, 10, 13, 14, 15, 16, 17]
 (.seq (.reg [⟨.op (.mv (.t 17)), (some 165), none⟩])
 [8, 10, 13, 14, 15, 16, 165]
 (.cond (.t 165) (.reg [⟨.op (.mv (.t 13)), (some 166), none⟩, ⟨.op (.ldn 14 (.t 16)), (some 167), none⟩, ⟨.op (.bslice 14 1 [(.int .i64 0), (.int .i64 0), (.int .i64 0), (.int .i64 0), (.int .i64 0), (.int .i64 0), (.int .i64 0), (.int .i64 0), (.int .i64 0), (.int .i64 0), (.int .i64 0), (.int .i64 0), (.str []), (.sl none 0)] [(0, 14, (.t 167))]), (some 168), none⟩, ⟨.op (.app 14 136 false (.t 166) (.t 168)), (some 169), none⟩, ⟨.op (.mv (.t 169)), (some 13), none⟩]) (.skip)))))
 [8, 10, 13, 14, 15]
 (.reg [⟨.op (.mv (.t 15)), (some 151), none⟩, ⟨.op (.bin .add 0 (.t 151) (.c (.int .i64 1))), (some 152), none⟩, ⟨.op (.mv (.t 152)), (some 15), none⟩]))) T st := rfl
noncomputable def l26_1 : DC :=
 .seq (.seq (.reg [⟨.op (.mv (.t 14)), (some 141), none⟩, ⟨.op (.mv (.t 8)), (some 142), none⟩, ⟨.op (.len (.t 142)), (some 143), none⟩, ⟨.op (.bin .lss 0 (.t 141) (.t 143)), (some 144), none⟩])
 [8, 10, 13, 14, 144]
 (.cond (.t 144) (.skip) (.exit 1)))
 [8, 10, 13, 14]
 (.seq (.block 2 (.seq (.reg [⟨.op (.mv (.c (.int .i64 0))), (some 15), none⟩])
 [8, 10, 13, 14, 15]
 (.block 3 (.loop [8, 10, 13, 14, 15] (l26_0)))))
 [8, 10, 13, 14]
 (.reg [⟨.op (.mv (.t 14)), (some 145), none⟩, ⟨.op (.bin .add 0 (.t 145) (.c (.int .i64 1))), (some 146), none⟩, ⟨.op (.mv (.t 146)), (some 14), none⟩]))
theorem u26_1 (call : DCall) (T : Tm) (st : Dv.St) : dCw Try.prog call l26_1 T st = dCw Try.prog call
 (.seq (.seq (.reg [⟨.op (.mv (.t 14)), (some 141), none⟩, ⟨.op (.mv (.t 8)), (some 142), none⟩, ⟨.op (.len (.t 142)), (some 143), none⟩, ⟨.op (.bin .lss 0 (.t 141) (.t 143)), (some 144), none⟩])
 [8, 10, 13, 14, 144]
 (.cond (.t 144) (.skip) (.exit 1)))
 [8, 10, 13, 14]
 (.seq (.block 2 (.seq (.reg [⟨.op (.mv (.c (.int .i64 0))), (some 15), none⟩])
 [8, 10, 13, 14, 15]
 (.block 3 (.loop [8, 10, 13, 14, 15] (l26_0)))))
 [8, 10, 13, 14]
 (.reg [⟨.op (.mv (.t 14)), (some 145), none⟩, ⟨.op (.bin .add 0 (.t 145) (.c (.int .i64 1))), (some 146), none⟩, ⟨.op (.mv (.t 146)), (some 14), none⟩]))) T st := rfl
/-- cardamom/cardamomref4.of -/
noncomputable def c26 : DFn := ⟨174, .pure,
 .seq (.reg [⟨.op (.box (.t 0)), (some 2), none⟩, ⟨.op (.mv (.c (.sl none 0))), (some 4), none⟩, ⟨.op (.mv (.c (.bool false))), (some 5), none⟩])
 [1, 2]
 (.seq (.reg [⟨.op (.build [(.int .i64 0), (.int .i64 0), (.int .i64 0), (.int .i64 0), (.int .i64 0), (.int .i64 0), (.int .i64 0), (.int .i64 0), (.int .i64 0), (.int .i64 0), (.int .i64 0), (.int .i64 0), (.str []), (.sl none 0)] []), (some 18), none⟩, ⟨.op (.new [(.int .i64 0), (.int .i64 0), (.int .i64 0), (.int .i64 0), (.int .i64 0), (.int .i64 0), (.int .i64 0), (.int .i64 0), (.int .i64 0), (.int .i64 0), (.int .i64 0), (.int .i64 0), (.str []), (.sl none 0)]), (some 6), none⟩, ⟨.op (.st 14 (.t 6) (.t 18)), none, none⟩])
 [1, 2, 6]
 (.seq (.seq (.reg [⟨.op (.fa 0 (.t 2)), (some 19), none⟩, ⟨.op (.ld1 (.t 19)), (some 20), none⟩])
 [1, 2, 6, 20]
 (.block 0 (.seq (.reg [⟨.op (.bin .eql 0 (.t 20) (.c (.int .i64 1))), (some 22), none⟩, ⟨.op (.mv (.t 22)), (some 21), none⟩])
 [1, 2, 6, 20, 21]
 (.cond (.t 21) (.seq (.seq (.reg [⟨.op (.mv (.t 1)), (some 23), none⟩])
 [6, 23]
 (.cond (.t 23) (.seq (.reg [⟨.op (.mv (.c (.sl none 0))), (some 4), none⟩, ⟨.op (.mv (.c (.bool true))), (some 5), none⟩])
 [4, 5]
 (.ret)) (.skip)))
 [6]
 (.seq (.reg [⟨.op (.ldn 14 (.t 6)), (some 24), none⟩, ⟨.op (.bslice 14 1 [(.int .i64 0), (.int .i64 0), (.int .i64 0), (.int .i64 0), (.int .i64 0), (.int .i64 0), (.int .i64 0), (.int .i64 0), (.int .i64 0), (.int .i64 0), (.int .i64 0), (.int .i64 0), (.str []), (.sl none 0)] [(0, 14, (.t 24))]), (some 25), none⟩, ⟨.op (.mv (.t 25)), (some 4), none⟩, ⟨.op (.mv (.c (.bool true))), (some 5), none⟩])
 [4, 5]
 (.ret))) (.seq (.seq (.reg [⟨.op (.bin .eql 0 (.t 20) (.c (.int .i64 2))), (some 27), none⟩, ⟨.op (.mv (.t 27)), (some 26), none⟩])
 [1, 2, 6, 20, 26]
 (.cond (.t 26) (.skip) (.reg [⟨.op (.bin .eql 0 (.t 20) (.c (.int .i64 3))), (some 28), none⟩, ⟨.op (.mv (.t 28)), (some 26), none⟩])))
 [1, 2, 6, 20, 26]
 (.cond (.t 26) (.seq (.seq (.reg [⟨.op (.mv (.t 1)), (some 29), none⟩, ⟨.op (.not (.t 29)), (some 30), none⟩])
 [2, 6, 30]
 (.cond (.t 30) (.seq (.reg [⟨.op (.fa 1 (.t 2)), (some 31), none⟩, ⟨.op (.ld1 (.t 31)), (some 32), none⟩, ⟨.op (.fa 2 (.t 2)), (some 33), none⟩, ⟨.op (.ld1 (.t 33)), (some 34), none⟩, ⟨.op (.fa 3 (.t 2)), (some 35), none⟩, ⟨.op (.ld1 (.t 35)), (some 36), none⟩, ⟨.op (.build [(.int .i64 0), (.int .i64 0), (.int .i64 0)] [(0, 1, (.c (.int .i64 1))), (1, 1, (.t 34)), (2, 1, (.t 36))]), (some 37), none⟩, ⟨.op (.fa 0 (.t 6)), (some 38), none⟩, ⟨.op (.ia 3 (some 4) (.t 38) (.t 32)), (some 39), none⟩, ⟨.op (.st 3 (.t 39) (.t 37)), none, none⟩])
 [6]
 (.seq (.reg [⟨.op (.ldn 14 (.t 6)), (some 40), none⟩, ⟨.op (.bslice 14 1 [(.int .i64 0), (.int .i64 0), (.int .i64 0), (.int .i64 0), (.int .i64 0), (.int .i64 0), (.int .i64 0), (.int .i64 0), (.int .i64 0), (.int .i64 0), (.int .i64 0), (.int .i64 0), (.str []), (.sl none 0)] [(0, 14, (.t 40))]), (some 41), none⟩, ⟨.op (.mv (.t 41)), (some 4), none⟩, ⟨.op (.mv (.c (.bool true))), (some 5), none⟩])
 [4, 5]
 (.ret))) (.skip)))
 [2, 6]
 (.seq (.reg [⟨.op (.fa 1 (.t 2)), (some 42), none⟩, ⟨.op (.ld1 (.t 42)), (some 43), none⟩, ⟨.op (.build [(.int .i64 0), (.int .i64 0), (.int .i64 0)] [(0, 1, (.c (.int .i64 2)))]), (some 44), none⟩, ⟨.op (.fa 0 (.t 6)), (some 45), none⟩, ⟨.op (.ia 3 (some 4) (.t 45) (.t 43)), (some 46), none⟩, ⟨.op (.st 3 (.t 46) (.t 44)), none, none⟩])
 [2, 6]
 (.seq (.reg [⟨.op (.ldn 14 (.t 6)), (some 47), none⟩, ⟨.op (.bslice 14 1 [(.int .i64 0), (.int .i64 0), (.int .i64 0), (.int .i64 0), (.int .i64 0), (.int .i64 0), (.int .i64 0), (.int .i64 0), (.int .i64 0), (.int .i64 0), (.int .i64 0), (.int .i64 0), (.str []), (.sl none 0)] [(0, 14, (.t 47))]), (some 48), none⟩, ⟨.op (.mv (.t 48)), (some 7), none⟩])
 [2, 6, 7]
 (.seq (.seq (.reg [⟨.op (.fa 2 (.t 2)), (some 49), none⟩, ⟨.op (.ld1 (.t 49)), (some 50), none⟩, ⟨.op (.bin .gtr 0 (.t 50) (.c (.int .i64 0))), (some 51), none⟩])
 [2, 6, 7, 51]
 (.cond (.t 51) (.seq (.reg [⟨.op (.fa 1 (.t 2)), (some 52), none⟩, ⟨.op (.ld1 (.t 52)), (some 53), none⟩, ⟨.op (.fa 2 (.t 2)), (some 54), none⟩, ⟨.op (.ld1 (.t 54)), (some 55), none⟩, ⟨.op (.bin .sub 0 (.t 55) (.c (.int .i64 1))), (some 56), none⟩, ⟨.op (.build [(.int .i64 0), (.int .i64 0), (.int .i64 0)] [(0, 1, (.c (.int .i64 1))), (2, 1, (.t 56))]), (some 57), none⟩, ⟨.op (.fa 0 (.t 6)), (some 58), none⟩, ⟨.op (.ia 3 (some 4) (.t 58) (.t 53)), (some 59), none⟩, ⟨.op (.st 3 (.t 59) (.t 57)), none, none⟩])
 [2, 6, 7]
 (.reg [⟨.op (.mv (.t 7)), (some 60), none⟩, ⟨.op (.ldn 14 (.t 6)), (some 61), none⟩, ⟨.op (.bslice 14 1 [(.int .i64 0), (.int .i64 0), (.int .i64 0), (.int .i64 0), (.int .i64 0), (.int .i64 0), (.int .i64 0), (.int .i64 0), (.int .i64 0), (.int .i64 0), (.int .i64 0), (.int .i64 0), (.str []), (.sl none 0)] [(0, 14, (.t 61))]), (some 62), none⟩, ⟨.op (.app 14 136 false (.t 60) (.t 62)), (some 63), none⟩, ⟨.op (.mv (.t 63)), (some 7), none⟩])) (.skip)))
 [2, 6, 7]
 (.seq (.seq (.reg [⟨.op (.fa 3 (.t 2)), (some 64), none⟩, ⟨.op (.ld1 (.t 64)), (some 65), none⟩, ⟨.op (.bin .lss 0 (.t 65) (.c (.int .i64 99))), (some 66), none⟩])
 [2, 6, 7, 66]
 (.cond (.t 66) (.seq (.reg [⟨.op (.fa 1 (.t 2)), (some 67), none⟩, ⟨.op (.ld1 (.t 67)), (some 68), none⟩, ⟨.op (.fa 3 (.t 2)), (some 69), none⟩, ⟨.op (.ld1 (.t 69)), (some 70), none⟩, ⟨.op (.bin .add 0 (.t 70) (.c (.int .i64 1))), (some 71), none⟩, ⟨.op (.build [(.int .i64 0), (.int .i64 0), (.int .i64 0)] [(0, 1, (.c (.int .i64 1))), (1, 1, (.t 71)), (2, 1, (.c (.int .i64 99)))]), (some 72), none⟩, ⟨.op (.fa 0 (.t 6)), (some 73), none⟩, ⟨.op (.ia 3 (some 4) (.t 73) (.t 68)), (some 74), none⟩, ⟨.op (.st 3 (.t 74) (.t 72)), none, none⟩])
 [6, 7]
 (.reg [⟨.op (.mv (.t 7)), (some 75), none⟩, ⟨.op (.ldn 14 (.t 6)), (some 76), none⟩, ⟨.op (.bslice 14 1 [(.int .i64 0), (.int .i64 0), (.int .i64 0), (.int .i64 0), (.int .i64 0), (.int .i64 0), (.int .i64 0), (.int .i64 0), (.int .i64 0), (.int .i64 0), (.int .i64 0), (.int .i64 0), (.str []), (.sl none 0)] [(0, 14, (.t 76))]), (some 77), none⟩, ⟨.op (.app 14 136 false (.t 75) (.t 77)), (some 78), none⟩, ⟨.op (.mv (.t 78)), (some 7), none⟩])) (.skip)))
 [7]
 (.seq (.reg [⟨.op (.mv (.t 7)), (some 79), none⟩, ⟨.op (.mv (.t 79)), (some 4), none⟩, ⟨.op (.mv (.c (.bool true))), (some 5), none⟩])
 [4, 5]
 (.ret))))))) (.seq (.reg [⟨.op (.bin .eql 0 (.t 20) (.c (.int .i64 4))), (some 81), none⟩, ⟨.op (.mv (.t 81)), (some 80), none⟩])
 [1, 2, 6, 20, 80]
 (.cond (.t 80) (.seq (.reg [⟨.op (.fa 4 (.t 2)), (some 82), none⟩, ⟨.op (.ld1 (.t 82)), (some 83), none⟩, ⟨.op (.fa 12 (.t 6)), (some 84), none⟩, ⟨.op (.st 1 (.t 84) (.t 83)), none, none⟩])
 [1, 2, 6]
 (.seq (.seq (.reg [⟨.op (.mv (.t 1)), (some 85), none⟩])
 [2, 6, 85]
 (.cond (.t 85) (.mid [⟨.op (.fa 4 (.t 2)), (some 86), none⟩, ⟨.op (.ld1 (.t 86)), (some 87), none⟩, ⟨.op (.bslice 1 1 [(.str [])] [(0, 1, (.t 87))]), (some 88), none⟩] 88 [⟨.op (.build [(.int .i64 0), (.int .i64 0), (.int .i64 0), (.int .i64 0), (.int .i64 0), (.int .i64 0), (.int .i64 0), (.int .i64 0), (.int .i64 0), (.int .i64 0), (.int .i64 0), (.int .i64 0), (.str []), (.sl none 0)] [(13, 1, (.t 88))]), (some 89), none⟩, ⟨.op (.st 14 (.t 6) (.t 89)), none, none⟩]) (.skip)))
 [6]
 (.seq (.reg [⟨.op (.ldn 14 (.t 6)), (some 90), none⟩, ⟨.op (.bslice 14 1 [(.int .i64 0), (.int .i64 0), (.int .i64 0), (.int .i64 0), (.int .i64 0), (.int .i64 0), (.int .i64 0), (.int .i64 0), (.int .i64 0), (.int .i64 0), (.int .i64 0), (.int .i64 0), (.str []), (.sl none 0)] [(0, 14, (.t 90))]), (some 91), none⟩, ⟨.op (.mv (.t 91)), (some 4), none⟩, ⟨.op (.mv (.c (.bool true))), (some 5), none⟩])
 [4, 5]
 (.ret)))) (.seq (.reg [⟨.op (.bin .eql 0 (.t 20) (.c (.int .i64 7))), (some 93), none⟩, ⟨.op (.mv (.t 93)), (some 92), none⟩])
 [1, 2, 92]
 (.cond (.t 92) (.seq (.reg [⟨.op (.fa 5 (.t 2)), (some 94), none⟩, ⟨.op (.ld1 (.t 94)), (some 95), none⟩, ⟨.op (.ia 6 none (.t 95) (.c (.int .i64 0))), (some 96), none⟩, ⟨.op (.ldn 6 (.t 96)), (some 97), none⟩, ⟨.op (.mv (.t 1)), (some 98), none⟩, ⟨.op (.not (.t 98)), (some 99), none⟩, ⟨.call 26 [(.t 97), (.t 99)], (some 100), none⟩, ⟨.op (.ext (.t 100) 0), (some 101), none⟩, ⟨.op (.ext (.t 100) 1), (some 102), none⟩, ⟨.op (.mv (.t 101)), (some 4), none⟩, ⟨.op (.mv (.t 102)), (some 5), none⟩])
 [4, 5]
 (.ret)) (.skip)))))))))))
 [1, 2]
 (.seq (.reg [⟨.op (.fa 5 (.t 2)), (some 104), none⟩, ⟨.op (.ld1 (.t 104)), (some 105), none⟩, ⟨.op (.ia 6 none (.t 105) (.c (.int .i64 0))), (some 106), none⟩, ⟨.op (.ldn 6 (.t 106)), (some 107), none⟩, ⟨.op (.mv (.t 1)), (some 108), none⟩, ⟨.call 26 [(.t 107), (.t 108)], (some 109), none⟩, ⟨.op (.mv (.t 109)), (some 103), none⟩, ⟨.op (.ext (.t 103) 0), (some 110), none⟩, ⟨.op (.ext (.t 103) 1), (some 111), none⟩, ⟨.op (.mv (.t 110)), (some 8), none⟩, ⟨.op (.mv (.t 111)), (some 9), none⟩])
 [1, 2, 8, 9]
 (.seq (.reg [⟨.op (.fa 5 (.t 2)), (some 113), none⟩, ⟨.op (.ld1 (.t 113)), (some 114), none⟩, ⟨.op (.ia 6 none (.t 114) (.c (.int .i64 1))), (some 115), none⟩, ⟨.op (.ldn 6 (.t 115)), (some 116), none⟩, ⟨.op (.mv (.t 1)), (some 117), none⟩, ⟨.call 26 [(.t 116), (.t 117)], (some 118), none⟩, ⟨.op (.mv (.t 118)), (some 112), none⟩, ⟨.op (.ext (.t 112) 0), (some 119), none⟩, ⟨.op (.ext (.t 112) 1), (some 120), none⟩, ⟨.op (.mv (.t 119)), (some 10), none⟩, ⟨.op (.mv (.t 120)), (some 11), none⟩])
 [1, 2, 8, 9, 10, 11]
 (.seq (.seq (.reg [⟨.op (.mv (.t 9)), (some 121), none⟩, ⟨.op (.not (.t 121)), (some 122), none⟩, ⟨.op (.mv (.t 122)), (some 123), none⟩, ⟨.op (.mv (.t 11)), (some 124), (some (123, false))⟩, ⟨.op (.not (.t 124)), (some 125), (some (123, false))⟩, ⟨.op (.pick (.t 123) (.c (.bool true)) (.t 125)), (some 126), none⟩])
 [1, 2, 8, 10, 126]
 (.cond (.t 126) (.seq (.reg [⟨.op (.mv (.c (.sl none 0))), (some 4), none⟩, ⟨.op (.mv (.c (.bool false))), (some 5), none⟩])
 [4, 5]
 (.ret)) (.skip)))
 [1, 2, 8, 10]
 (.seq (.seq (.reg [⟨.op (.fa 0 (.t 2)), (some 127), none⟩, ⟨.op (.ld1 (.t 127)), (some 128), none⟩, ⟨.op (.bin .eql 0 (.t 128) (.c (.int .i64 6))), (some 129), none⟩, ⟨.op (.mv (.t 1)), (some 130), none⟩, ⟨.op (.bin .neq 5 (.t 129) (.t 130)), (some 131), none⟩])
 [8, 10, 131]
 (.cond (.t 131) (.seq (.reg [⟨.op (.bslice 14 0 [] []), (some 132), none⟩, ⟨.op (.mv (.t 8)), (some 133), none⟩, ⟨.op (.app 14 136 false (.t 132) (.t 133)), (some 134), none⟩, ⟨.op (.mv (.t 10)), (some 135), none⟩, ⟨.op (.app 14 136 false (.t 134) (.t 135)), (some 136), none⟩, ⟨.op (.mv (.t 136)), (some 12), none⟩])
 [12]
 (.seq (.reg [⟨.op (.mv (.t 12)), (some 137), none⟩, ⟨.call 45 [(.t 137)], (some 138), none⟩, ⟨.op (.ext (.t 138) 0), (some 139), none⟩, ⟨.op (.ext (.t 138) 1), (some 140), none⟩, ⟨.op (.mv (.t 139)), (some 4), none⟩, ⟨.op (.mv (.t 140)), (some 5), none⟩])
 [4, 5]
 (.ret))) (.skip)))
 [8, 10]
 (.seq (.reg [⟨.op (.mv (.c (.sl none 0))), (some 13), none⟩])
 [8, 10, 13]
 (.seq (.seq (.reg [⟨.op (.mv (.c (.int .i64 0))), (some 14), none⟩])
 [8, 10, 13, 14]
 (.block 1 (.loop [8, 10, 13, 14] (l26_1))))
 [13]
 (.seq (.reg [⟨.op (.mv (.t 13)), (some 170), none⟩, ⟨.call 45 [(.t 170)], (some 171), none⟩, ⟨.op (.ext (.t 171) 0), (some 172), none⟩, ⟨.op (.ext (.t 171) 1), (some 173), none⟩, ⟨.op (.mv (.t 172)), (some 4), none⟩, ⟨.op (.mv (.t 173)), (some 5), none⟩])
 [4, 5]
 (.ret)))))))))),
 [.tmp 4, .tmp 5]⟩
theorem k26 : cFn Try.prog 26 = some c26.toE := by kernel_rfl
theorem w26 : c26.body.wf = true := by kernel_rfl
/-- cardamom/cardamomref4.few -/
noncomputable def c45 : DFn := ⟨8, .pure,
 .seq (.reg [⟨.op (.mv (.c (.sl none 0))), (some 2), none⟩, ⟨.op (.mv (.c (.bool false))), (some 3), none⟩])
 [0]
 (.seq (.seq (.reg [⟨.op (.mv (.t 0)), (some 4), none⟩, ⟨.op (.len (.t 4)), (some 5), none⟩, ⟨.op (.bin .gtr 0 (.t 5) (.c (.int .i64 16))), (some 6), none⟩])
 [0, 6]
 (.cond (.t 6) (.seq (.reg [⟨.op (.mv (.c (.sl none 0))), (some 2), none⟩, ⟨.op (.mv (.c (.bool false))), (some 3), none⟩])
 [2, 3]
 (.ret)) (.skip)))
 [0]
 (.seq (.reg [⟨.op (.mv (.t 0)), (some 7), none⟩, ⟨.op (.mv (.t 7)), (some 2), none⟩, ⟨.op (.mv (.c (.bool true))), (some 3), none⟩])
 [2, 3]
 (.ret))),
 [.tmp 2, .tmp 3]⟩
theorem k45 : cFn Try.prog 45 = some c45.toE := by kernel_rfl
theorem w45 : c45.body.wf = true := by kernel_rfl
noncomputable def l20_0 : DC :=
 .seq (.seq (.reg [⟨.op (.mv (.t 7)), (some 15), none⟩, ⟨.op (.bin .lss 0 (.t 15) (.c (.int .i64 4))), (some 16), none⟩])
 [2, 3, 4, 6, 7, 16]
 (.cond (.t 16) (.skip) (.exit 0)))
 [2, 3, 4, 6, 7]
 (.seq (.block 1 (.seq (.drw [⟨⟨.op (.mv (.t 7)), (some 19), none⟩, .n, []⟩, ⟨⟨.op (.fa 0 (.t 2)), (some 20), none⟩, .n, []⟩, ⟨⟨.op (.ia 3 (some 4) (.t 20) (.t 19)), (some 21), none⟩, .n, []⟩, ⟨⟨.op (.ldn 3 (.t 21)), (some 22), none⟩, .n, []⟩, ⟨⟨.op (.mv (.t 7)), (some 23), none⟩, .n, []⟩, ⟨⟨.op (.fa 0 (.t 3)), (some 24), none⟩, .n, []⟩, ⟨⟨.op (.ia 3 (some 4) (.t 24) (.t 23)), (some 25), none⟩, .n, []⟩, ⟨⟨.op (.ldn 3 (.t 25)), (some 26), none⟩, .n, []⟩, ⟨⟨.op (.new [(.int .i64 0), (.int .i64 0), (.int .i64 0)]), (some 8), none⟩, .a, [(true, 7), (true, 3)]⟩, ⟨⟨.op (.new [(.int .i64 0), (.int .i64 0), (.int .i64 0)]), (some 9), none⟩, .a, [(true, 7), (true, 3)]⟩, ⟨⟨.op (.st 3 (.t 8) (.t 22)), none, none⟩, .x, [(true, 7)]⟩, ⟨⟨.op (.st 3 (.t 9) (.t 26)), none, none⟩, .x, []⟩])
 [2, 3, 4, 6, 7, 8, 9]
 (.block 2 (.seq (.reg [⟨.op (.fa 0 (.t 8)), (some 49), none⟩, ⟨.op (.ld1 (.t 49)), (some 50), none⟩, ⟨.op (.bin .eql 0 (.t 50) (.c (.int .i64 0))), (some 51), none⟩, ⟨.op (.mv (.t 51)), (some 48), none⟩])
 [2, 3, 4, 6, 7, 8, 9, 48]
 (.cond (.t 48) (.reg [⟨.op (.mv (.t 7)), (some 52), none⟩, ⟨.op (.ldn 3 (.t 9)), (some 53), none⟩, ⟨.op (.fa 0 (.t 6)), (some 54), none⟩, ⟨.op (.ia 3 (some 4) (.t 54) (.t 52)), (some 55), none⟩, ⟨.op (.st 3 (.t 55) (.t 53)), none, none⟩]) (.seq (.reg [⟨.op (.fa 0 (.t 9)), (some 57), none⟩, ⟨.op (.ld1 (.t 57)), (some 58), none⟩, ⟨.op (.bin .eql 0 (.t 58) (.c (.int .i64 0))), (some 59), none⟩, ⟨.op (.mv (.t 59)), (some 56), none⟩])
 [2, 3, 4, 6, 7, 8, 9, 56]
 (.cond (.t 56) (.reg [⟨.op (.mv (.t 7)), (some 60), none⟩, ⟨.op (.ldn 3 (.t 8)), (some 61), none⟩, ⟨.op (.fa 0 (.t 6)), (some 62), none⟩, ⟨.op (.ia 3 (some 4) (.t 62) (.t 60)), (some 63), none⟩, ⟨.op (.st 3 (.t 63) (.t 61)), none, none⟩]) (.seq (.reg [⟨.op (.fa 0 (.t 8)), (some 65), none⟩, ⟨.op (.ld1 (.t 65)), (some 66), none⟩, ⟨.op (.fa 0 (.t 9)), (some 67), none⟩, ⟨.op (.ld1 (.t 67)), (some 68), none⟩, ⟨.op (.bin .neq 0 (.t 66) (.t 68)), (some 69), none⟩, ⟨.op (.mv (.t 69)), (some 64), none⟩])
 [2, 3, 4, 6, 7, 8, 9, 64]
 (.cond (.t 64) (.seq (.reg [⟨.op (.build [(.int .i64 0), (.int .i64 0), (.int .i64 0), (.int .i64 0), (.int .i64 0), (.int .i64 0), (.int .i64 0), (.int .i64 0), (.int .i64 0), (.int .i64 0), (.int .i64 0), (.int .i64 0), (.str []), (.sl none 0)] []), (some 70), none⟩, ⟨.op (.st 14 (.t 4) (.t 70)), none, none⟩, ⟨.op (.mv (.c (.bool false))), (some 5), none⟩])
 [4, 5]
 (.ret)) (.seq (.reg [⟨.op (.fa 0 (.t 8)), (some 72), none⟩, ⟨.op (.ld1 (.t 72)), (some 73), none⟩, ⟨.op (.bin .eql 0 (.t 73) (.c (.int .i64 2))), (some 74), none⟩, ⟨.op (.mv (.t 74)), (some 71), none⟩])
 [2, 3, 4, 6, 7, 8, 9, 71]
 (.cond (.t 71) (.reg [⟨.op (.mv (.t 7)), (some 75), none⟩, ⟨.op (.ldn 3 (.t 8)), (some 76), none⟩, ⟨.op (.fa 0 (.t 6)), (some 77), none⟩, ⟨.op (.ia 3 (some 4) (.t 77) (.t 75)), (some 78), none⟩, ⟨.op (.st 3 (.t 78) (.t 76)), none, none⟩]) (.seq (.reg [⟨.op (.fa 1 (.t 8)), (some 27), none⟩, ⟨.op (.ld1 (.t 27)), (some 28), none⟩, ⟨.op (.fa 1 (.t 9)), (some 29), none⟩, ⟨.op (.ld1 (.t 29)), (some 30), none⟩, ⟨.op (.slow (operAt Try.prog 20 64)), (some 31), none⟩, ⟨.op (.fa 2 (.t 8)), (some 32), none⟩, ⟨.op (.ld1 (.t 32)), (some 33), none⟩, ⟨.op (.fa 2 (.t 9)), (some 34), none⟩, ⟨.op (.ld1 (.t 34)), (some 35), none⟩, ⟨.op (.slow (operAt Try.prog 20 69)), (some 36), none⟩, ⟨.op (.build [(.int .i64 0), (.int .i64 0), (.int .i64 0)] [(0, 1, (.c (.int .i64 1))), (1, 1, (.t 31)), (2, 1, (.t 36))]), (some 37), none⟩, ⟨.op (.new [(.int .i64 0), (.int .i64 0), (.int .i64 0)]), (some 10), none⟩, ⟨.op (.st 3 (.t 10) (.t 37)), none, none⟩])
 [2, 3, 4, 6, 7, 10]
 (.seq (.seq (.reg [⟨.op (.fa 1 (.t 10)), (some 38), none⟩, ⟨.op (.ld1 (.t 38)), (some 39), none⟩, ⟨.op (.fa 2 (.t 10)), (some 40), none⟩, ⟨.op (.ld1 (.t 40)), (some 41), none⟩, ⟨.op (.bin .gtr 0 (.t 39) (.t 41)), (some 42), none⟩])
 [2, 3, 4, 6, 7, 10, 42]
 (.cond (.t 42) (.seq (.reg [⟨.op (.build [(.int .i64 0), (.int .i64 0), (.int .i64 0), (.int .i64 0), (.int .i64 0), (.int .i64 0), (.int .i64 0), (.int .i64 0), (.int .i64 0), (.int .i64 0), (.int .i64 0), (.int .i64 0), (.str []), (.sl none 0)] []), (some 43), none⟩, ⟨.op (.st 14 (.t 4) (.t 43)), none, none⟩, ⟨.op (.mv (.c (.bool false))), (some 5), none⟩])
 [4, 5]
 (.ret)) (.skip)))
 [2, 3, 4, 6, 7, 10]
 (.reg [⟨.op (.mv (.t 7)), (some 44), none⟩, ⟨.op (.ldn 3 (.t 10)), (some 45), none⟩, ⟨.op (.fa 0 (.t 6)), (some 46), none⟩, ⟨.op (.ia 3 (some 4) (.t 46) (.t 44)), (some 47), none⟩, ⟨.op (.st 3 (.t 47) (.t 45)), none, none⟩]))))))))))))))
 [2, 3, 4, 6, 7]
 (.reg [⟨.op (.mv (.t 7)), (some 17), none⟩, ⟨.op (.bin .add 0 (.t 17) (.c (.int .i64 1))), (some 18), none⟩, ⟨.op (.mv (.t 18)), (some 7), none⟩]))
theorem u20_0 (call : DCall) (T : Tm) (st : Dv.St) : dCw Try.prog call l20_0 T st = dCw Try.prog call
 (.seq (.seq (.reg [⟨.op (.mv (.t 7)), (some 15), none⟩, ⟨.op (.bin .lss 0 (.t 15) (.c (.int .i64 4))), (some 16), none⟩])
 [2, 3, 4, 6, 7, 16]
 (.cond (.t 16) (.skip) (.exit 0)))
 [2, 3, 4, 6, 7]
 (.seq (.block 1 (.seq (.drw [⟨⟨.op (.mv (.t 7)), (some 19), none⟩, .n, []⟩, ⟨⟨.op (.fa 0 (.t 2)), (some 20), none⟩, .n, []⟩, ⟨⟨.op (.ia 3 (some 4) (.t 20) (.t 19)), (some 21), none⟩, .n, []⟩, ⟨⟨.op (.ldn 3 (.t 21)), (some 22), none⟩, .n, []⟩, ⟨⟨.op (.mv (.t 7)), (some 23), none⟩, .n, []⟩, ⟨⟨.op (.fa 0 (.t 3)), (some 24), none⟩, .n, []⟩, ⟨⟨.op (.ia 3 (some 4) (.t 24) (.t 23)), (some 25), none⟩, .n, []⟩, ⟨⟨.op (.ldn 3 (.t 25)), (some 26), none⟩, .n, []⟩, ⟨⟨.op (.new [(.int .i64 0), (.int .i64 0), (.int .i64 0)]), (some 8), none⟩, .a, [(true, 7), (true, 3)]⟩, ⟨⟨.op (.new [(.int .i64 0), (.int .i64 0), (.int .i64 0)]), (some 9), none⟩, .a, [(true, 7), (true, 3)]⟩, ⟨⟨.op (.st 3 (.t 8) (.t 22)), none, none⟩, .x, [(true, 7)]⟩, ⟨⟨.op (.st 3 (.t 9) (.t 26)), none, none⟩, .x, []⟩])
 [2, 3, 4, 6, 7, 8, 9]
 (.block 2 (.seq (.reg [⟨.op (.fa 0 (.t 8)), (some 49), none⟩, ⟨.op (.ld1 (.t 49)), (some 50), none⟩, ⟨.op (.bin .eql 0 (.t 50) (.c (.int .i64 0))), (some 51), none⟩, ⟨.op (.mv (.t 51)), (some 48), none⟩])
 [2, 3, 4, 6, 7, 8, 9, 48]
 (.cond (.t 48) (.reg [⟨.op (.mv (.t 7)), (some 52), none⟩, ⟨.op (.ldn 3 (.t 9)), (some 53), none⟩, ⟨.op (.fa 0 (.t 6)), (some 54), none⟩, ⟨.op (.ia 3 (some 4) (.t 54) (.t 52)), (some 55), none⟩, ⟨.op (.st 3 (.t 55) (.t 53)), none, none⟩]) (.seq (.reg [⟨.op (.fa 0 (.t 9)), (some 57), none⟩, ⟨.op (.ld1 (.t 57)), (some 58), none⟩, ⟨.op (.bin .eql 0 (.t 58) (.c (.int .i64 0))), (some 59), none⟩, ⟨.op (.mv (.t 59)), (some 56), none⟩])
 [2, 3, 4, 6, 7, 8, 9, 56]
 (.cond (.t 56) (.reg [⟨.op (.mv (.t 7)), (some 60), none⟩, ⟨.op (.ldn 3 (.t 8)), (some 61), none⟩, ⟨.op (.fa 0 (.t 6)), (some 62), none⟩, ⟨.op (.ia 3 (some 4) (.t 62) (.t 60)), (some 63), none⟩, ⟨.op (.st 3 (.t 63) (.t 61)), none, none⟩]) (.seq (.reg [⟨.op (.fa 0 (.t 8)), (some 65), none⟩, ⟨.op (.ld1 (.t 65)), (some 66), none⟩, ⟨.op (.fa 0 (.t 9)), (some 67), none⟩, ⟨.op (.ld1 (.t 67)), (some 68), none⟩, ⟨.op (.bin .neq 0 (.t 66) (.t 68)), (some 69), none⟩, ⟨.op (.mv (.t 69)), (some 64), none⟩])
 [2, 3, 4, 6, 7, 8, 9, 64]
 (.cond (.t 64) (.seq (.reg [⟨.op (.build [(.int .i64 0), (.int .i64 0), (.int .i64 0), (.int .i64 0), (.int .i64 0), (.int .i64 0), (.int .i64 0), (.int .i64 0), (.int .i64 0), (.int .i64 0), (.int .i64 0), (.int .i64 0), (.str []), (.sl none 0)] []), (some 70), none⟩, ⟨.op (.st 14 (.t 4) (.t 70)), none, none⟩, ⟨.op (.mv (.c (.bool false))), (some 5), none⟩])
 [4, 5]
 (.ret)) (.seq (.reg [⟨.op (.fa 0 (.t 8)), (some 72), none⟩, ⟨.op (.ld1 (.t 72)), (some 73), none⟩, ⟨.op (.bin .eql 0 (.t 73) (.c (.int .i64 2))), (some 74), none⟩, ⟨.op (.mv (.t 74)), (some 71), none⟩])
 [2, 3, 4, 6, 7, 8, 9, 71]
 (.cond (.t 71) (.reg [⟨.op (.mv (.t 7)), (some 75), none⟩, ⟨.op (.ldn 3 (.t 8)), (some 76), none⟩, ⟨.op (.fa 0 (.t 6)), (some 77), none⟩, ⟨.op (.ia 3 (some 4) (.t 77) (.t 75)), (some 78), none⟩, ⟨.op (.st 3 (.t 78) (.t 76)), none, none⟩]) (.seq (.reg [⟨.op (.fa 1 (.t 8)), (some 27), none⟩, ⟨.op (.ld1 (.t 27)), (some 28), none⟩, ⟨.op (.fa 1 (.t 9)), (some 29), none⟩, ⟨.op (.ld1 (.t 29)), (some 30), none⟩, ⟨.op (.slow (operAt Try.prog 20 64)), (some 31), none⟩, ⟨.op (.fa 2 (.t 8)), (some 32), none⟩, ⟨.op (.ld1 (.t 32)), (some 33), none⟩, ⟨.op (.fa 2 (.t 9)), (some 34), none⟩, ⟨.op (.ld1 (.t 34)), (some 35), none⟩, ⟨.op (.slow (operAt Try.prog 20 69)), (some 36), none⟩, ⟨.op (.build [(.int .i64 0), (.int .i64 0), (.int .i64 0)] [(0, 1, (.c (.int .i64 1))), (1, 1, (.t 31)), (2, 1, (.t 36))]), (some 37), none⟩, ⟨.op (.new [(.int .i64 0), (.int .i64 0), (.int .i64 0)]), (some 10), none⟩, ⟨.op (.st 3 (.t 10) (.t 37)), none, none⟩])
 [2, 3, 4, 6, 7, 10]
 (.seq (.seq (.reg [⟨.op (.fa 1 (.t 10)), (some 38), none⟩, ⟨.op (.ld1 (.t 38)), (some 39), none⟩, ⟨.op (.fa 2 (.t 10)), (some 40), none⟩, ⟨.op (.ld1 (.t 40)), (some 41), none⟩, ⟨.op (.bin .gtr 0 (.t 39) (.t 41)), (some 42), none⟩])
 [2, 3, 4, 6, 7, 10, 42]
 (.cond (.t 42) (.seq (.reg [⟨.op (.build [(.int .i64 0), (.int .i64 0), (.int .i64 0), (.int .i64 0), (.int .i64 0), (.int .i64 0), (.int .i64 0), (.int .i64 0), (.int .i64 0), (.int .i64 0), (.int .i64 0), (.int .i64 0), (.str []), (.sl none 0)] []), (some 43), none⟩, ⟨.op (.st 14 (.t 4) (.t 43)), none, none⟩, ⟨.op (.mv (.c (.bool false))), (some 5), none⟩])
 [4, 5]
 (.ret)) (.skip)))
 [2, 3, 4, 6, 7, 10]
 (.reg [⟨.op (.mv (.t 7)), (some 44), none⟩, ⟨.op (.ldn 3 (.t 10)), (some 45), none⟩, ⟨.op (.fa 0 (.t 6)), (some 46), none⟩, ⟨.op (.ia 3 (some 4) (.t 46) (.t 44)), (some 47), none⟩, ⟨.op (.st 3 (.t 47) (.t 45)), none, none⟩]))))))))))))))
 [2, 3, 4, 6, 7]
 (.reg [⟨.op (.mv (.t 7)), (some 17), none⟩, ⟨.op (.bin .add 0 (.t 17) (.c (.int .i64 1))), (some 18), none⟩, ⟨.op (.mv (.t 18)), (some 7), none⟩]))) T st := rfl
noncomputable def l20_1 : DC :=
 .seq (.seq (.reg [⟨.op (.mv (.t 11)), (some 113), none⟩, ⟨.op (.fa 13 (.t 6)), (some 114), none⟩, ⟨.op (.ld1 (.t 114)), (some 115), none⟩, ⟨.op (.len (.t 115)), (some 116), none⟩, ⟨.op (.bin .lss 0 (.t 113) (.t 116)), (some 117), none⟩])
 [4, 6, 11, 117]
 (.cond (.t 117) (.skip) (.exit 3)))
 [4, 6, 11]
 (.seq (.block 4 (.seq (.drw [⟨⟨.op (.fa 12 (.t 6)), (some 120), none⟩, .n, []⟩, ⟨⟨.op (.ld1 (.t 120)), (some 121), none⟩, .n, []⟩, ⟨⟨.op (.fa 13 (.t 6)), (some 122), none⟩, .n, []⟩, ⟨⟨.op (.ld1 (.t 122)), (some 123), none⟩, .n, []⟩, ⟨⟨.op (.mv (.t 11)), (some 124), none⟩, .n, []⟩, ⟨⟨.op (.ia 1 none (.t 123) (.t 124)), (some 125), none⟩, .n, []⟩, ⟨⟨.op (.ld1 (.t 125)), (some 126), none⟩, .n, []⟩, ⟨⟨.call 34 [(.t 121), (.t 126)], (some 127), none⟩, .x, []⟩])
 [4, 6, 11, 127]
 (.cond (.t 127) (.seq (.reg [⟨.op (.build [(.int .i64 0), (.int .i64 0), (.int .i64 0), (.int .i64 0), (.int .i64 0), (.int .i64 0), (.int .i64 0), (.int .i64 0), (.int .i64 0), (.int .i64 0), (.int .i64 0), (.int .i64 0), (.str []), (.sl none 0)] []), (some 128), none⟩, ⟨.op (.st 14 (.t 4) (.t 128)), none, none⟩, ⟨.op (.mv (.c (.bool false))), (some 5), none⟩])
 [4, 5]
 (.ret)) (.skip))))
 [4, 6, 11]
 (.reg [⟨.op (.mv (.t 11)), (some 118), none⟩, ⟨.op (.bin .add 0 (.t 118) (.c (.int .i64 1))), (some 119), none⟩, ⟨.op (.mv (.t 119)), (some 11), none⟩]))
theorem u20_1 (call : DCall) (T : Tm) (st : Dv.St) : dCw Try.prog call l20_1 T st = dCw Try.prog call
 (.seq (.seq (.reg [⟨.op (.mv (.t 11)), (some 113), none⟩, ⟨.op (.fa 13 (.t 6)), (some 114), none⟩, ⟨.op (.ld1 (.t 114)), (some 115), none⟩, ⟨.op (.len (.t 115)), (some 116), none⟩, ⟨.op (.bin .lss 0 (.t 113) (.t 116)), (some 117), none⟩])
 [4, 6, 11, 117]
 (.cond (.t 117) (.skip) (.exit 3)))
 [4, 6, 11]
 (.seq (.block 4 (.seq (.drw [⟨⟨.op (.fa 12 (.t 6)), (some 120), none⟩, .n, []⟩, ⟨⟨.op (.ld1 (.t 120)), (some 121), none⟩, .n, []⟩, ⟨⟨.op (.fa 13 (.t 6)), (some 122), none⟩, .n, []⟩, ⟨⟨.op (.ld1 (.t 122)), (some 123), none⟩, .n, []⟩, ⟨⟨.op (.mv (.t 11)), (some 124), none⟩, .n, []⟩, ⟨⟨.op (.ia 1 none (.t 123) (.t 124)), (some 125), none⟩, .n, []⟩, ⟨⟨.op (.ld1 (.t 125)), (some 126), none⟩, .n, []⟩, ⟨⟨.call 34 [(.t 121), (.t 126)], (some 127), none⟩, .x, []⟩])
 [4, 6, 11, 127]
 (.cond (.t 127) (.seq (.reg [⟨.op (.build [(.int .i64 0), (.int .i64 0), (.int .i64 0), (.int .i64 0), (.int .i64 0), (.int .i64 0), (.int .i64 0), (.int .i64 0), (.int .i64 0), (.int .i64 0), (.int .i64 0), (.int .i64 0), (.str []), (.sl none 0)] []), (some 128), none⟩, ⟨.op (.st 14 (.t 4) (.t 128)), none, none⟩, ⟨.op (.mv (.c (.bool false))), (some 5), none⟩])
 [4, 5]
 (.ret)) (.skip))))
 [4, 6, 11]
 (.reg [⟨.op (.mv (.t 11)), (some 118), none⟩, ⟨.op (.bin .add 0 (.t 118) (.c (.int .i64 1))), (some 119), none⟩, ⟨.op (.mv (.t 119)), (some 11), none⟩]))) T st := rfl
/-- cardamom/cardamomref4.Meet -/
noncomputable def c20 : DFn := ⟨130, .pure,
 .seq (.reg [⟨.op (.box (.t 0)), (some 2), none⟩, ⟨.op (.box (.t 1)), (some 3), none⟩, ⟨.op (.new [(.int .i64 0), (.int .i64 0), (.int .i64 0), (.int .i64 0), (.int .i64 0), (.int .i64 0), (.int .i64 0), (.int .i64 0), (.int .i64 0), (.int .i64 0), (.int .i64 0), (.int .i64 0), (.str []), (.sl none 0)]), (some 4), none⟩, ⟨.op (.mv (.c (.bool false))), (some 5), none⟩])
 [2, 3, 4]
 (.seq (.reg [⟨.op (.fa 12 (.t 2)), (some 12), none⟩, ⟨.op (.ld1 (.t 12)), (some 13), none⟩, ⟨.op (.build [(.int .i64 0), (.int .i64 0), (.int .i64 0), (.int .i64 0), (.int .i64 0), (.int .i64 0), (.int .i64 0), (.int .i64 0), (.int .i64 0), (.int .i64 0), (.int .i64 0), (.int .i64 0), (.str []), (.sl none 0)] [(12, 1, (.t 13))]), (some 14), none⟩, ⟨.op (.new [(.int .i64 0), (.int .i64 0), (.int .i64 0), (.int .i64 0), (.int .i64 0), (.int .i64 0), (.int .i64 0), (.int .i64 0), (.int .i64 0), (.int .i64 0), (.int .i64 0), (.int .i64 0), (.str []), (.sl none 0)]), (some 6), none⟩, ⟨.op (.st 14 (.t 6) (.t 14)), none, none⟩])
 [2, 3, 4, 6]
 (.seq (.seq (.reg [⟨.op (.mv (.c (.int .i64 0))), (some 7), none⟩])
 [2, 3, 4, 6, 7]
 (.block 0 (.loop [2, 3, 4, 6, 7] (l20_0))))
 [2, 3, 4, 6]
 (.seq (.seq (.reg [⟨.op (.fa 12 (.t 3)), (some 79), none⟩, ⟨.op (.ld1 (.t 79)), (some 80), none⟩, ⟨.op (.lenstr (.t 80)), (some 81), none⟩, ⟨.op (.fa 12 (.t 2)), (some 82), none⟩, ⟨.op (.ld1 (.t 82)), (some 83), none⟩, ⟨.op (.lenstr (.t 83)), (some 84), none⟩, ⟨.op (.bin .gtr 0 (.t 81) (.t 84)), (some 85), none⟩])
 [2, 3, 4, 6, 85]
 (.cond (.t 85) (.reg [⟨.op (.fa 12 (.t 3)), (some 86), none⟩, ⟨.op (.ld1 (.t 86)), (some 87), none⟩, ⟨.op (.fa 12 (.t 6)), (some 88), none⟩, ⟨.op (.st 1 (.t 88) (.t 87)), none, none⟩]) (.skip)))
 [2, 3, 4, 6]
 (.seq (.seq (.reg [⟨.op (.fa 12 (.t 6)), (some 89), none⟩, ⟨.op (.ld1 (.t 89)), (some 90), none⟩, ⟨.op (.fa 12 (.t 2)), (some 91), none⟩, ⟨.op (.ld1 (.t 91)), (some 92), none⟩, ⟨.call 34 [(.t 90), (.t 92)], (some 93), none⟩, ⟨.op (.not (.t 93)), (some 94), none⟩, ⟨.op (.mv (.t 94)), (some 95), none⟩, ⟨.op (.fa 12 (.t 6)), (some 96), (some (95, false))⟩, ⟨.op (.ld1 (.t 96)), (some 97), (some (95, false))⟩, ⟨.op (.fa 12 (.t 3)), (some 98), (some (95, false))⟩, ⟨.op (.ld1 (.t 98)), (some 99), (some (95, false))⟩, ⟨.call 34 [(.t 97), (.t 99)], (some 100), (some (95, false))⟩, ⟨.op (.not (.t 100)), (some 101), (some (95, false))⟩, ⟨.op (.pick (.t 95) (.c (.bool true)) (.t 101)), (some 102), none⟩])
 [2, 3, 4, 6, 102]
 (.cond (.t 102) (.seq (.reg [⟨.op (.build [(.int .i64 0), (.int .i64 0), (.int .i64 0), (.int .i64 0), (.int .i64 0), (.int .i64 0), (.int .i64 0), (.int .i64 0), (.int .i64 0), (.int .i64 0), (.int .i64 0), (.int .i64 0), (.str []), (.sl none 0)] []), (some 103), none⟩, ⟨.op (.st 14 (.t 4) (.t 103)), none, none⟩, ⟨.op (.mv (.c (.bool false))), (some 5), none⟩])
 [4, 5]
 (.ret)) (.skip)))
 [2, 3, 4, 6]
 (.seq (.drw [⟨⟨.op (.bslice 1 0 [] []), (some 104), none⟩, .a, []⟩, ⟨⟨.op (.fa 13 (.t 2)), (some 105), none⟩, .n, []⟩, ⟨⟨.op (.ld1 (.t 105)), (some 106), none⟩, .n, []⟩, ⟨⟨.op (.fa 13 (.t 3)), (some 108), none⟩, .n, []⟩, ⟨⟨.op (.ld1 (.t 108)), (some 109), none⟩, .n, []⟩, ⟨⟨.op (.app 1 16 false (.t 104) (.t 106)), (some 107), none⟩, .x, [(true, 4)]⟩, ⟨⟨.op (.app 1 16 false (.t 107) (.t 109)), (some 110), none⟩, .x, []⟩, ⟨⟨.call 39 [(.t 110)], (some 111), none⟩, .x, []⟩, ⟨⟨.op (.fa 13 (.t 6)), (some 112), none⟩, .n, []⟩, ⟨⟨.op (.st 1 (.t 112) (.t 111)), none, none⟩, .x, []⟩])
 [4, 6]
 (.seq (.seq (.reg [⟨.op (.mv (.c (.int .i64 0))), (some 11), none⟩])
 [4, 6, 11]
 (.block 3 (.loop [4, 6, 11] (l20_1))))
 [4, 6]
 (.seq (.reg [⟨.op (.ldn 14 (.t 6)), (some 129), none⟩, ⟨.op (.st 14 (.t 4) (.t 129)), none, none⟩, ⟨.op (.mv (.c (.bool true))), (some 5), none⟩])
 [4, 5]
 (.ret)))))))),
 [.celln 14 4, .tmp 5]⟩
theorem k20 : cFn Try.prog 20 = some c20.toE := by kernel_rfl
theorem w20 : c20.body.wf = true := by kernel_rfl
noncomputable def l39_0 : DC :=
 .seq (.seq (.reg [⟨.op (.mv (.t 6)), (some 7), none⟩, ⟨.op (.mv (.t 0)), (some 8), none⟩, ⟨.op (.len (.t 8)), (some 9), none⟩, ⟨.op (.bin .lss 0 (.t 7) (.t 9)), (some 10), none⟩])
 [0, 3, 4, 5, 6, 10]
 (.cond (.t 10) (.skip) (.exit 2)))
 [0, 3, 4, 5, 6]
 (.seq (.block 3 (.seq (.drw [⟨⟨.op (.mv (.t 3)), (some 13), none⟩, .n, []⟩, ⟨⟨.op (.len (.t 13)), (some 14), none⟩, .n, []⟩, ⟨⟨.op (.bin .eql 0 (.t 14) (.c (.int .i64 0))), (some 15), none⟩, .n, []⟩, ⟨⟨.op (.mv (.t 15)), (some 16), none⟩, .n, []⟩, ⟨⟨.op (.mv (.t 0)), (some 17), (some (16, false))⟩, .n, []⟩, ⟨⟨.op (.mv (.t 6)), (some 18), (some (16, false))⟩, .n, []⟩, ⟨⟨.op (.ia 1 none (.t 17) (.t 18)), (some 19), (some (16, false))⟩, .n, []⟩, ⟨⟨.op (.ld1 (.t 19)), (some 20), (some (16, false))⟩, .n, []⟩, ⟨⟨.op (.mv (.t 3)), (some 21), (some (16, false))⟩, .n, []⟩, ⟨⟨.op (.mv (.t 3)), (some 22), (some (16, false))⟩, .n, []⟩, ⟨⟨.op (.len (.t 22)), (some 23), (some (16, false))⟩, .n, []⟩, ⟨⟨.op (.bin .sub 0 (.t 23) (.c (.int .i64 1))), (some 24), (some (16, false))⟩, .n, []⟩, ⟨⟨.op (.ia 1 none (.t 21) (.t 24)), (some 25), (some (16, false))⟩, .n, []⟩, ⟨⟨.op (.ld1 (.t 25)), (some 26), (some (16, false))⟩, .n, []⟩, ⟨⟨.op (.slow (operAt Try.prog 39 23)), (some 27), (some (16, false))⟩, .n, []⟩, ⟨⟨.op (.pick (.t 16) (.c (.bool true)) (.t 27)), (some 28), none⟩, .n, []⟩, ⟨⟨.op (.mv (.t 28)), (some 29), none⟩, .n, []⟩, ⟨⟨.op (.mv (.t 5)), (some 30), (some (29, true))⟩, .n, []⟩, ⟨⟨.op (.not (.t 30)), (some 31), (some (29, true))⟩, .n, []⟩, ⟨⟨.op (.mv (.t 31)), (some 32), (some (29, true))⟩, .n, []⟩, ⟨⟨.op (.mv (.t 0)), (some 33), (some (32, false))⟩, .n, []⟩, ⟨⟨.op (.mv (.t 6)), (some 34), (some (32, false))⟩, .n, []⟩, ⟨⟨.op (.ia 1 none (.t 33) (.t 34)), (some 35), (some (32, false))⟩, .n, []⟩, ⟨⟨.op (.ld1 (.t 35)), (some 36), (some (32, false))⟩, .n, []⟩, ⟨⟨.op (.mv (.t 4)), (some 37), (some (32, false))⟩, .n, []⟩, ⟨⟨.op (.bin .lss 0 (.t 36) (.t 37)), (some 38), (some (32, false))⟩, .n, []⟩, ⟨⟨.op (.pick (.t 32) (.c (.bool true)) (.t 38)), (some 39), (some (29, true))⟩, .n, []⟩, ⟨⟨.op (.pick (.t 29) (.t 39) (.c (.bool false))), (some 40), none⟩, .n, []⟩])
 [0, 3, 4, 5, 6, 40]
 (.cond (.t 40) (.reg [⟨.op (.mv (.t 0)), (some 41), none⟩, ⟨.op (.mv (.t 6)), (some 42), none⟩, ⟨.op (.ia 1 none (.t 41) (.t 42)), (some 43), none⟩, ⟨.op (.ld1 (.t 43)), (some 44), none⟩, ⟨.op (.mv (.t 44)), (some 4), none⟩, ⟨.op (.mv (.c (.bool true))), (some 5), none⟩]) (.skip))))
 [0, 3, 4, 5, 6]
 (.reg [⟨.op (.mv (.t 6)), (some 11), none⟩, ⟨.op (.bin .add 0 (.t 11) (.c (.int .i64 1))), (some 12), none⟩, ⟨.op (.mv (.t 12)), (some 6), none⟩]))
theorem u39_0 (call : DCall) (T : Tm) (st : Dv.St) : dCw Try.prog call l39_0 T st = dCw Try.prog call
 (.seq (.seq (.reg [⟨.op (.mv (.t 6)), (some 7), none⟩, ⟨.op (.mv (.t 0)), (some 8), none⟩, ⟨.op (.len (.t 8)), (some 9), none⟩, ⟨.op (.bin .lss 0 (.t 7) (.t 9)), (some 10), none⟩])
 [0, 3, 4, 5, 6, 10]
 (.cond (.t 10) (.skip) (.exit 2)))
 [0, 3, 4, 5, 6]
 (.seq (.block 3 (.seq (.drw [⟨⟨.op (.mv (.t 3)), (some 13), none⟩, .n, []⟩, ⟨⟨.op (.len (.t 13)), (some 14), none⟩, .n, []⟩, ⟨⟨.op (.bin .eql 0 (.t 14) (.c (.int .i64 0))), (some 15), none⟩, .n, []⟩, ⟨⟨.op (.mv (.t 15)), (some 16), none⟩, .n, []⟩, ⟨⟨.op (.mv (.t 0)), (some 17), (some (16, false))⟩, .n, []⟩, ⟨⟨.op (.mv (.t 6)), (some 18), (some (16, false))⟩, .n, []⟩, ⟨⟨.op (.ia 1 none (.t 17) (.t 18)), (some 19), (some (16, false))⟩, .n, []⟩, ⟨⟨.op (.ld1 (.t 19)), (some 20), (some (16, false))⟩, .n, []⟩, ⟨⟨.op (.mv (.t 3)), (some 21), (some (16, false))⟩, .n, []⟩, ⟨⟨.op (.mv (.t 3)), (some 22), (some (16, false))⟩, .n, []⟩, ⟨⟨.op (.len (.t 22)), (some 23), (some (16, false))⟩, .n, []⟩, ⟨⟨.op (.bin .sub 0 (.t 23) (.c (.int .i64 1))), (some 24), (some (16, false))⟩, .n, []⟩, ⟨⟨.op (.ia 1 none (.t 21) (.t 24)), (some 25), (some (16, false))⟩, .n, []⟩, ⟨⟨.op (.ld1 (.t 25)), (some 26), (some (16, false))⟩, .n, []⟩, ⟨⟨.op (.slow (operAt Try.prog 39 23)), (some 27), (some (16, false))⟩, .n, []⟩, ⟨⟨.op (.pick (.t 16) (.c (.bool true)) (.t 27)), (some 28), none⟩, .n, []⟩, ⟨⟨.op (.mv (.t 28)), (some 29), none⟩, .n, []⟩, ⟨⟨.op (.mv (.t 5)), (some 30), (some (29, true))⟩, .n, []⟩, ⟨⟨.op (.not (.t 30)), (some 31), (some (29, true))⟩, .n, []⟩, ⟨⟨.op (.mv (.t 31)), (some 32), (some (29, true))⟩, .n, []⟩, ⟨⟨.op (.mv (.t 0)), (some 33), (some (32, false))⟩, .n, []⟩, ⟨⟨.op (.mv (.t 6)), (some 34), (some (32, false))⟩, .n, []⟩, ⟨⟨.op (.ia 1 none (.t 33) (.t 34)), (some 35), (some (32, false))⟩, .n, []⟩, ⟨⟨.op (.ld1 (.t 35)), (some 36), (some (32, false))⟩, .n, []⟩, ⟨⟨.op (.mv (.t 4)), (some 37), (some (32, false))⟩, .n, []⟩, ⟨⟨.op (.bin .lss 0 (.t 36) (.t 37)), (some 38), (some (32, false))⟩, .n, []⟩, ⟨⟨.op (.pick (.t 32) (.c (.bool true)) (.t 38)), (some 39), (some (29, true))⟩, .n, []⟩, ⟨⟨.op (.pick (.t 29) (.t 39) (.c (.bool false))), (some 40), none⟩, .n, []⟩])
 [0, 3, 4, 5, 6, 40]
 (.cond (.t 40) (.reg [⟨.op (.mv (.t 0)), (some 41), none⟩, ⟨.op (.mv (.t 6)), (some 42), none⟩, ⟨.op (.ia 1 none (.t 41) (.t 42)), (some 43), none⟩, ⟨.op (.ld1 (.t 43)), (some 44), none⟩, ⟨.op (.mv (.t 44)), (some 4), none⟩, ⟨.op (.mv (.c (.bool true))), (some 5), none⟩]) (.skip))))
 [0, 3, 4, 5, 6]
 (.reg [⟨.op (.mv (.t 6)), (some 11), none⟩, ⟨.op (.bin .add 0 (.t 11) (.c (.int .i64 1))), (some 12), none⟩, ⟨.op (.mv (.t 12)), (some 6), none⟩]))) T st := rfl
noncomputable def l39_1 : DC :=
 .block 1 (.seq (.reg [⟨.op (.mv (.c (.str []))), (some 4), none⟩, ⟨.op (.mv (.c (.bool false))), (some 5), none⟩])
 [0, 3, 4, 5]
 (.seq (.seq (.reg [⟨.op (.mv (.c (.int .i64 0))), (some 6), none⟩])
 [0, 3, 4, 5, 6]
 (.block 2 (.loop [0, 3, 4, 5, 6] (l39_0))))
 [0, 3, 4, 5]
 (.seq (.seq (.reg [⟨.op (.mv (.t 5)), (some 45), none⟩, ⟨.op (.not (.t 45)), (some 46), none⟩])
 [0, 3, 4, 46]
 (.cond (.t 46) (.seq (.reg [⟨.op (.mv (.t 3)), (some 47), none⟩, ⟨.op (.mv (.t 47)), (some 2), none⟩])
 [2]
 (.ret)) (.skip)))
 [0, 3, 4]
 (.reg [⟨.op (.mv (.t 3)), (some 48), none⟩, ⟨.op (.mv (.t 4)), (some 49), none⟩, ⟨.op (.bslice 1 1 [(.str [])] [(0, 1, (.t 49))]), (some 50), none⟩, ⟨.op (.app 1 16 false (.t 48) (.t 50)), (some 51), none⟩, ⟨.op (.mv (.t 51)), (some 3), none⟩]))))
theorem u39_1 (call : DCall) (T : Tm) (st : Dv.St) : dCw Try.prog call l39_1 T st = dCw Try.prog call
 (.block 1 (.seq (.reg [⟨.op (.mv (.c (.str []))), (some 4), none⟩, ⟨.op (.mv (.c (.bool false))), (some 5), none⟩])
 [0, 3, 4, 5]
 (.seq (.seq (.reg [⟨.op (.mv (.c (.int .i64 0))), (some 6), none⟩])
 [0, 3, 4, 5, 6]
 (.block 2 (.loop [0, 3, 4, 5, 6] (l39_0))))
 [0, 3, 4, 5]
 (.seq (.seq (.reg [⟨.op (.mv (.t 5)), (some 45), none⟩, ⟨.op (.not (.t 45)), (some 46), none⟩])
 [0, 3, 4, 46]
 (.cond (.t 46) (.seq (.reg [⟨.op (.mv (.t 3)), (some 47), none⟩, ⟨.op (.mv (.t 47)), (some 2), none⟩])
 [2]
 (.ret)) (.skip)))
 [0, 3, 4]
 (.reg [⟨.op (.mv (.t 3)), (some 48), none⟩, ⟨.op (.mv (.t 4)), (some 49), none⟩, ⟨.op (.bslice 1 1 [(.str [])] [(0, 1, (.t 49))]), (some 50), none⟩, ⟨.op (.app 1 16 false (.t 48) (.t 50)), (some 51), none⟩, ⟨.op (.mv (.t 51)), (some 3), none⟩]))))) T st := rfl
/-- cardamom/cardamomref4.rising -/
noncomputable def c39 : DFn := ⟨52, .pure,
 .seq (.reg [⟨.op (.mv (.c (.sl none 0))), (some 2), none⟩])
 [0]
 (.seq (.reg [⟨.op (.mv (.c (.sl none 0))), (some 3), none⟩])
 [0, 3]
 (.block 0 (.loop [0, 3] (l39_1)))),
 [.tmp 2]⟩
theorem k39 : cFn Try.prog 39 = some c39.toE := by kernel_rfl
theorem w39 : c39.body.wf = true := by kernel_rfl
noncomputable def l18_0 : DC :=
 .seq (.seq (.reg [⟨.op (.mv (.t 5)), (some 10), none⟩, ⟨.op (.bin .lss 0 (.t 10) (.c (.int .i64 4))), (some 11), none⟩])
 [2, 3, 5, 11]
 (.cond (.t 11) (.skip) (.exit 0)))
 [2, 3, 5]
 (.seq (.block 1 (.seq (.reg [⟨.op (.ldn 8 (.t 3)), (some 15), none⟩, ⟨.op (.mv (.t 5)), (some 16), none⟩, ⟨.call 33 [(.t 15), (.t 16)], (some 17), none⟩, ⟨.op (.mv (.t 17)), (some 14), none⟩, ⟨.op (.ext (.t 14) 0), (some 18), none⟩, ⟨.op (.ext (.t 14) 1), (some 19), none⟩, ⟨.op (.mv (.t 18)), (some 6), none⟩, ⟨.op (.mv (.t 19)), (some 7), none⟩])
 [2, 3, 5, 6, 7]
 (.seq (.reg [⟨.op (.mv (.t 5)), (some 20), none⟩, ⟨.op (.fa 0 (.t 2)), (some 21), none⟩, ⟨.op (.ia 3 (some 4) (.t 21) (.t 20)), (some 22), none⟩, ⟨.op (.ldn 3 (.t 22)), (some 23), none⟩, ⟨.op (.new [(.int .i64 0), (.int .i64 0), (.int .i64 0)]), (some 8), none⟩, ⟨.op (.st 3 (.t 8) (.t 23)), none, none⟩])
 [2, 3, 5, 6, 7, 8]
 (.seq (.reg [⟨.op (.fa 0 (.t 8)), (some 24), none⟩, ⟨.op (.ld1 (.t 24)), (some 25), none⟩, ⟨.op (.bin .eql 0 (.t 25) (.c (.int .i64 1))), (some 26), none⟩, ⟨.op (.mv (.t 26)), (some 27), none⟩, ⟨.op (.mv (.t 7)), (some 28), (some (27, true))⟩, ⟨.op (.not (.t 28)), (some 29), (some (27, true))⟩, ⟨.op (.mv (.t 29)), (some 30), (some (27, true))⟩, ⟨.op (.mv (.t 6)), (some 31), (some (30, false))⟩, ⟨.op (.fa 1 (.t 8)), (some 32), (some (30, false))⟩, ⟨.op (.ld1 (.t 32)), (some 33), (some (30, false))⟩, ⟨.op (.bin .lss 0 (.t 31) (.t 33)), (some 34), (some (30, false))⟩, ⟨.op (.pick (.t 30) (.c (.bool true)) (.t 34)), (some 35), (some (27, true))⟩, ⟨.op (.mv (.t 35)), (some 36), (some (27, true))⟩, ⟨.op (.mv (.t 6)), (some 37), (some (36, false))⟩, ⟨.op (.fa 2 (.t 8)), (some 38), (some (36, false))⟩, ⟨.op (.ld1 (.t 38)), (some 39), (some (36, false))⟩, ⟨.op (.bin .gtr 0 (.t 37) (.t 39)), (some 40), (some (36, false))⟩, ⟨.op (.pick (.t 36) (.c (.bool true)) (.t 40)), (some 41), (some (27, true))⟩, ⟨.op (.pick (.t 27) (.t 41) (.c (.bool false))), (some 42), none⟩, ⟨.op (.mv (.t 42)), (some 43), none⟩, ⟨.op (.fa 0 (.t 8)), (some 44), (some (43, false))⟩, ⟨.op (.ld1 (.t 44)), (some 45), (some (43, false))⟩, ⟨.op (.bin .eql 0 (.t 45) (.c (.int .i64 2))), (some 46), (some (43, false))⟩, ⟨.op (.mv (.t 46)), (some 47), (some (43, false))⟩, ⟨.op (.mv (.t 7)), (some 48), (some (47, true))⟩, ⟨.op (.pick (.t 47) (.t 48) (.c (.bool false))), (some 49), (some (43, false))⟩, ⟨.op (.pick (.t 43) (.c (.bool true)) (.t 49)), (some 50), none⟩])
 [2, 3, 5, 50]
 (.cond (.t 50) (.seq (.reg [⟨.op (.mv (.c (.bool false))), (some 4), none⟩])
 [4]
 (.ret)) (.skip))))))
 [2, 3, 5]
 (.reg [⟨.op (.mv (.t 5)), (some 12), none⟩, ⟨.op (.bin .add 0 (.t 12) (.c (.int .i64 1))), (some 13), none⟩, ⟨.op (.mv (.t 13)), (some 5), none⟩]))
theorem u18_0 (call : DCall) (T : Tm) (st : Dv.St) : dCw Try.prog call l18_0 T st = dCw Try.prog call
 (.seq (.seq (.reg [⟨.op (.mv (.t 5)), (some 10), none⟩, ⟨.op (.bin .lss 0 (.t 10) (.c (.int .i64 4))), (some 11), none⟩])
 [2, 3, 5, 11]
 (.cond (.t 11) (.skip) (.exit 0)))
 [2, 3, 5]
 (.seq (.block 1 (.seq (.reg [⟨.op (.ldn 8 (.t 3)), (some 15), none⟩, ⟨.op (.mv (.t 5)), (some 16), none⟩, ⟨.call 33 [(.t 15), (.t 16)], (some 17), none⟩, ⟨.op (.mv (.t 17)), (some 14), none⟩, ⟨.op (.ext (.t 14) 0), (some 18), none⟩, ⟨.op (.ext (.t 14) 1), (some 19), none⟩, ⟨.op (.mv (.t 18)), (some 6), none⟩, ⟨.op (.mv (.t 19)), (some 7), none⟩])
 [2, 3, 5, 6, 7]
 (.seq (.reg [⟨.op (.mv (.t 5)), (some 20), none⟩, ⟨.op (.fa 0 (.t 2)), (some 21), none⟩, ⟨.op (.ia 3 (some 4) (.t 21) (.t 20)), (some 22), none⟩, ⟨.op (.ldn 3 (.t 22)), (some 23), none⟩, ⟨.op (.new [(.int .i64 0), (.int .i64 0), (.int .i64 0)]), (some 8), none⟩, ⟨.op (.st 3 (.t 8) (.t 23)), none, none⟩])
 [2, 3, 5, 6, 7, 8]
 (.seq (.reg [⟨.op (.fa 0 (.t 8)), (some 24), none⟩, ⟨.op (.ld1 (.t 24)), (some 25), none⟩, ⟨.op (.bin .eql 0 (.t 25) (.c (.int .i64 1))), (some 26), none⟩, ⟨.op (.mv (.t 26)), (some 27), none⟩, ⟨.op (.mv (.t 7)), (some 28), (some (27, true))⟩, ⟨.op (.not (.t 28)), (some 29), (some (27, true))⟩, ⟨.op (.mv (.t 29)), (some 30), (some (27, true))⟩, ⟨.op (.mv (.t 6)), (some 31), (some (30, false))⟩, ⟨.op (.fa 1 (.t 8)), (some 32), (some (30, false))⟩, ⟨.op (.ld1 (.t 32)), (some 33), (some (30, false))⟩, ⟨.op (.bin .lss 0 (.t 31) (.t 33)), (some 34), (some (30, false))⟩, ⟨.op (.pick (.t 30) (.c (.bool true)) (.t 34)), (some 35), (some (27, true))⟩, ⟨.op (.mv (.t 35)), (some 36), (some (27, true))⟩, ⟨.op (.mv (.t 6)), (some 37), (some (36, false))⟩, ⟨.op (.fa 2 (.t 8)), (some 38), (some (36, false))⟩, ⟨.op (.ld1 (.t 38)), (some 39), (some (36, false))⟩, ⟨.op (.bin .gtr 0 (.t 37) (.t 39)), (some 40), (some (36, false))⟩, ⟨.op (.pick (.t 36) (.c (.bool true)) (.t 40)), (some 41), (some (27, true))⟩, ⟨.op (.pick (.t 27) (.t 41) (.c (.bool false))), (some 42), none⟩, ⟨.op (.mv (.t 42)), (some 43), none⟩, ⟨.op (.fa 0 (.t 8)), (some 44), (some (43, false))⟩, ⟨.op (.ld1 (.t 44)), (some 45), (some (43, false))⟩, ⟨.op (.bin .eql 0 (.t 45) (.c (.int .i64 2))), (some 46), (some (43, false))⟩, ⟨.op (.mv (.t 46)), (some 47), (some (43, false))⟩, ⟨.op (.mv (.t 7)), (some 48), (some (47, true))⟩, ⟨.op (.pick (.t 47) (.t 48) (.c (.bool false))), (some 49), (some (43, false))⟩, ⟨.op (.pick (.t 43) (.c (.bool true)) (.t 49)), (some 50), none⟩])
 [2, 3, 5, 50]
 (.cond (.t 50) (.seq (.reg [⟨.op (.mv (.c (.bool false))), (some 4), none⟩])
 [4]
 (.ret)) (.skip))))))
 [2, 3, 5]
 (.reg [⟨.op (.mv (.t 5)), (some 12), none⟩, ⟨.op (.bin .add 0 (.t 12) (.c (.int .i64 1))), (some 13), none⟩, ⟨.op (.mv (.t 13)), (some 5), none⟩]))) T st := rfl
noncomputable def l18_1 : DC :=
 .seq (.seq (.reg [⟨.op (.mv (.t 9)), (some 51), none⟩, ⟨.op (.fa 13 (.t 2)), (some 52), none⟩, ⟨.op (.ld1 (.t 52)), (some 53), none⟩, ⟨.op (.len (.t 53)), (some 54), none⟩, ⟨.op (.bin .lss 0 (.t 51) (.t 54)), (some 55), none⟩])
 [2, 3, 9, 55]
 (.cond (.t 55) (.skip) (.exit 2)))
 [2, 3, 9]
 (.seq (.block 3 (.seq (.drw [⟨⟨.op (.fa 6 (.t 3)), (some 58), none⟩, .n, []⟩, ⟨⟨.op (.ld1 (.t 58)), (some 59), none⟩, .n, []⟩, ⟨⟨.op (.fa 13 (.t 2)), (some 60), none⟩, .n, []⟩, ⟨⟨.op (.ld1 (.t 60)), (some 61), none⟩, .n, []⟩, ⟨⟨.op (.mv (.t 9)), (some 62), none⟩, .n, []⟩, ⟨⟨.op (.ia 1 none (.t 61) (.t 62)), (some 63), none⟩, .n, []⟩, ⟨⟨.op (.ld1 (.t 63)), (some 64), none⟩, .n, []⟩, ⟨⟨.call 34 [(.t 59), (.t 64)], (some 65), none⟩, .x, []⟩])
 [2, 3, 9, 65]
 (.cond (.t 65) (.seq (.reg [⟨.op (.mv (.c (.bool false))), (some 4), none⟩])
 [4]
 (.ret)) (.skip))))
 [2, 3, 9]
 (.reg [⟨.op (.mv (.t 9)), (some 56), none⟩, ⟨.op (.bin .add 0 (.t 56) (.c (.int .i64 1))), (some 57), none⟩, ⟨.op (.mv (.t 57)), (some 9), none⟩]))
theorem u18_1 (call : DCall) (T : Tm) (st : Dv.St) : dCw Try.prog call l18_1 T st = dCw Try.prog call
 (.seq (.seq (.reg [⟨.op (.mv (.t 9)), (some 51), none⟩, ⟨.op (.fa 13 (.t 2)), (some 52), none⟩, ⟨.op (.ld1 (.t 52)), (some 53), none⟩, ⟨.op (.len (.t 53)), (some 54), none⟩, ⟨.op (.bin .lss 0 (.t 51) (.t 54)), (some 55), none⟩])
 [2, 3, 9, 55]
 (.cond (.t 55) (.skip) (.exit 2)))
 [2, 3, 9]
 (.seq (.block 3 (.seq (.drw [⟨⟨.op (.fa 6 (.t 3)), (some 58), none⟩, .n, []⟩, ⟨⟨.op (.ld1 (.t 58)), (some 59), none⟩, .n, []⟩, ⟨⟨.op (.fa 13 (.t 2)), (some 60), none⟩, .n, []⟩, ⟨⟨.op (.ld1 (.t 60)), (some 61), none⟩, .n, []⟩, ⟨⟨.op (.mv (.t 9)), (some 62), none⟩, .n, []⟩, ⟨⟨.op (.ia 1 none (.t 61) (.t 62)), (some 63), none⟩, .n, []⟩, ⟨⟨.op (.ld1 (.t 63)), (some 64), none⟩, .n, []⟩, ⟨⟨.call 34 [(.t 59), (.t 64)], (some 65), none⟩, .x, []⟩])
 [2, 3, 9, 65]
 (.cond (.t 65) (.seq (.reg [⟨.op (.mv (.c (.bool false))), (some 4), none⟩])
 [4]
 (.ret)) (.skip))))
 [2, 3, 9]
 (.reg [⟨.op (.mv (.t 9)), (some 56), none⟩, ⟨.op (.bin .add 0 (.t 56) (.c (.int .i64 1))), (some 57), none⟩, ⟨.op (.mv (.t 57)), (some 9), none⟩]))) T st := rfl
/-- cardamom/cardamomref4.LetsBox -/
noncomputable def c18 : DFn := ⟨71, .pure,
 .seq (.reg [⟨.op (.box (.t 0)), (some 2), none⟩, ⟨.op (.box (.t 1)), (some 3), none⟩, ⟨.op (.mv (.c (.bool false))), (some 4), none⟩])
 [2, 3]
 (.seq (.seq (.reg [⟨.op (.mv (.c (.int .i64 0))), (some 5), none⟩])
 [2, 3, 5]
 (.block 0 (.loop [2, 3, 5] (l18_0))))
 [2, 3]
 (.seq (.seq (.reg [⟨.op (.mv (.c (.int .i64 0))), (some 9), none⟩])
 [2, 3, 9]
 (.block 2 (.loop [2, 3, 9] (l18_1))))
 [2, 3]
 (.seq (.reg [⟨.op (.fa 6 (.t 3)), (some 66), none⟩, ⟨.op (.ld1 (.t 66)), (some 67), none⟩, ⟨.op (.fa 12 (.t 2)), (some 68), none⟩, ⟨.op (.ld1 (.t 68)), (some 69), none⟩, ⟨.call 34 [(.t 67), (.t 69)], (some 70), none⟩, ⟨.op (.mv (.t 70)), (some 4), none⟩])
 [4]
 (.ret)))),
 [.tmp 4]⟩
theorem k18 : cFn Try.prog 18 = some c18.toE := by kernel_rfl
theorem w18 : c18.body.wf = true := by kernel_rfl
noncomputable def l21_0 : DC :=
 .seq (.seq (.reg [⟨.op (.mv (.t 5)), (some 27), none⟩, ⟨.op (.fa 13 (.t 2)), (some 28), none⟩, ⟨.op (.ld1 (.t 28)), (some 29), none⟩, ⟨.op (.len (.t 29)), (some 30), none⟩, ⟨.op (.bin .lss 0 (.t 27) (.t 30)), (some 31), none⟩])
 [2, 3, 5, 31]
 (.cond (.t 31) (.skip) (.exit 0)))
 [2, 3, 5]
 (.seq (.block 1 (.seq (.drw [⟨⟨.op (.fa 13 (.t 2)), (some 34), none⟩, .n, []⟩, ⟨⟨.op (.ld1 (.t 34)), (some 35), none⟩, .n, []⟩, ⟨⟨.op (.mv (.t 5)), (some 36), none⟩, .n, []⟩, ⟨⟨.op (.ia 1 none (.t 35) (.t 36)), (some 37), none⟩, .n, []⟩, ⟨⟨.op (.ld1 (.t 37)), (some 38), none⟩, .n, []⟩, ⟨⟨.op (.fa 13 (.t 3)), (some 39), none⟩, .n, []⟩, ⟨⟨.op (.ld1 (.t 39)), (some 40), none⟩, .n, []⟩, ⟨⟨.op (.mv (.t 5)), (some 41), none⟩, .n, []⟩, ⟨⟨.op (.ia 1 none (.t 40) (.t 41)), (some 42), none⟩, .n, []⟩, ⟨⟨.op (.ld1 (.t 42)), (some 43), none⟩, .n, []⟩, ⟨⟨.op (.bin .neq 0 (.t 38) (.t 43)), (some 44), none⟩, .n, []⟩])
 [2, 3, 5, 44]
 (.cond (.t 44) (.seq (.reg [⟨.op (.mv (.c (.bool false))), (some 4), none⟩])
 [4]
 (.ret)) (.skip))))
 [2, 3, 5]
 (.reg [⟨.op (.mv (.t 5)), (some 32), none⟩, ⟨.op (.bin .add 0 (.t 32) (.c (.int .i64 1))), (some 33), none⟩, ⟨.op (.mv (.t 33)), (some 5), none⟩]))
theorem u21_0 (call : DCall) (T : Tm) (st : Dv.St) : dCw Try.prog call l21_0 T st = dCw Try.prog call
 (.seq (.seq (.reg [⟨.op (.mv (.t 5)), (some 27), none⟩, ⟨.op (.fa 13 (.t 2)), (some 28), none⟩, ⟨.op (.ld1 (.t 28)), (some 29), none⟩, ⟨.op (.len (.t 29)), (some 30), none⟩, ⟨.op (.bin .lss 0 (.t 27) (.t 30)), (some 31), none⟩])
 [2, 3, 5, 31]
 (.cond (.t 31) (.skip) (.exit 0)))
 [2, 3, 5]
 (.seq (.block 1 (.seq (.drw [⟨⟨.op (.fa 13 (.t 2)), (some 34), none⟩, .n, []⟩, ⟨⟨.op (.ld1 (.t 34)), (some 35), none⟩, .n, []⟩, ⟨⟨.op (.mv (.t 5)), (some 36), none⟩, .n, []⟩, ⟨⟨.op (.ia 1 none (.t 35) (.t 36)), (some 37), none⟩, .n, []⟩, ⟨⟨.op (.ld1 (.t 37)), (some 38), none⟩, .n, []⟩, ⟨⟨.op (.fa 13 (.t 3)), (some 39), none⟩, .n, []⟩, ⟨⟨.op (.ld1 (.t 39)), (some 40), none⟩, .n, []⟩, ⟨⟨.op (.mv (.t 5)), (some 41), none⟩, .n, []⟩, ⟨⟨.op (.ia 1 none (.t 40) (.t 41)), (some 42), none⟩, .n, []⟩, ⟨⟨.op (.ld1 (.t 42)), (some 43), none⟩, .n, []⟩, ⟨⟨.op (.bin .neq 0 (.t 38) (.t 43)), (some 44), none⟩, .n, []⟩])
 [2, 3, 5, 44]
 (.cond (.t 44) (.seq (.reg [⟨.op (.mv (.c (.bool false))), (some 4), none⟩])
 [4]
 (.ret)) (.skip))))
 [2, 3, 5]
 (.reg [⟨.op (.mv (.t 5)), (some 32), none⟩, ⟨.op (.bin .add 0 (.t 32) (.c (.int .i64 1))), (some 33), none⟩, ⟨.op (.mv (.t 33)), (some 5), none⟩]))) T st := rfl
/-- cardamom/cardamomref4.SameBox -/
noncomputable def c21 : DFn := ⟨45, .pure,
 .seq (.reg [⟨.op (.box (.t 0)), (some 2), none⟩, ⟨.op (.box (.t 1)), (some 3), none⟩, ⟨.op (.mv (.c (.bool false))), (some 4), none⟩])
 [2, 3]
 (.seq (.seq (.reg [⟨.op (.fa 0 (.t 2)), (some 6), none⟩, ⟨.op (.ldn 12 (.t 6)), (some 7), none⟩, ⟨.op (.fa 0 (.t 3)), (some 8), none⟩, ⟨.op (.ldn 12 (.t 8)), (some 9), none⟩, ⟨.op (.slow (operAt Try.prog 21 7)), (some 10), none⟩, ⟨.op (.mv (.t 10)), (some 11), none⟩, ⟨.op (.fa 12 (.t 2)), (some 12), (some (11, false))⟩, ⟨.op (.ld1 (.t 12)), (some 13), (some (11, false))⟩, ⟨.op (.fa 12 (.t 3)), (some 14), (some (11, false))⟩, ⟨.op (.ld1 (.t 14)), (some 15), (some (11, false))⟩, ⟨.op (.bin .neq 0 (.t 13) (.t 15)), (some 16), (some (11, false))⟩, ⟨.op (.pick (.t 11) (.c (.bool true)) (.t 16)), (some 17), none⟩, ⟨.op (.mv (.t 17)), (some 18), none⟩, ⟨.op (.fa 13 (.t 2)), (some 19), (some (18, false))⟩, ⟨.op (.ld1 (.t 19)), (some 20), (some (18, false))⟩, ⟨.op (.len (.t 20)), (some 21), (some (18, false))⟩, ⟨.op (.fa 13 (.t 3)), (some 22), (some (18, false))⟩, ⟨.op (.ld1 (.t 22)), (some 23), (some (18, false))⟩, ⟨.op (.len (.t 23)), (some 24), (some (18, false))⟩, ⟨.op (.bin .neq 0 (.t 21) (.t 24)), (some 25), (some (18, false))⟩, ⟨.op (.pick (.t 18) (.c (.bool true)) (.t 25)), (some 26), none⟩])
 [2, 3, 26]
 (.cond (.t 26) (.seq (.reg [⟨.op (.mv (.c (.bool false))), (some 4), none⟩])
 [4]
 (.ret)) (.skip)))
 [2, 3]
 (.seq (.seq (.reg [⟨.op (.mv (.c (.int .i64 0))), (some 5), none⟩])
 [2, 3, 5]
 (.block 0 (.loop [2, 3, 5] (l21_0))))
 []
 (.seq (.reg [⟨.op (.mv (.c (.bool true))), (some 4), none⟩])
 [4]
 (.ret)))),
 [.tmp 4]⟩
theorem k21 : cFn Try.prog 21 = some c21.toE := by kernel_rfl
theorem w21 : c21.body.wf = true := by kernel_rfl
noncomputable def l14_0 : DC :=
 .seq (.seq (.reg [⟨.op (.mv (.t 5)), (some 11), none⟩, ⟨.op (.mv (.t 0)), (some 12), none⟩, ⟨.op (.len (.t 12)), (some 13), none⟩, ⟨.op (.bin .lss 0 (.t 11) (.t 13)), (some 14), none⟩])
 [0, 1, 5, 14]
 (.cond (.t 14) (.skip) (.exit 0)))
 [0, 1, 5]
 (.seq (.block 1 (.seq (.drw [⟨⟨.op (.mv (.t 0)), (some 17), none⟩, .n, []⟩, ⟨⟨.op (.mv (.t 5)), (some 18), none⟩, .n, []⟩, ⟨⟨.op (.ia 14 none (.t 17) (.t 18)), (some 19), none⟩, .n, []⟩, ⟨⟨.op (.ldn 14 (.t 19)), (some 20), none⟩, .n, []⟩, ⟨⟨.op (.mv (.t 1)), (some 21), none⟩, .n, []⟩, ⟨⟨.op (.mv (.t 5)), (some 22), none⟩, .n, []⟩, ⟨⟨.op (.ia 14 none (.t 21) (.t 22)), (some 23), none⟩, .n, []⟩, ⟨⟨.op (.ldn 14 (.t 23)), (some 24), none⟩, .n, []⟩, ⟨⟨.call 21 [(.t 20), (.t 24)], (some 25), none⟩, .x, []⟩, ⟨⟨.op (.not (.t 25)), (some 26), none⟩, .n, []⟩])
 [0, 1, 5, 26]
 (.cond (.t 26) (.seq (.reg [⟨.op (.mv (.c (.bool false))), (some 4), none⟩])
 [4]
 (.ret)) (.skip))))
 [0, 1, 5]
 (.reg [⟨.op (.mv (.t 5)), (some 15), none⟩, ⟨.op (.bin .add 0 (.t 15) (.c (.int .i64 1))), (some 16), none⟩, ⟨.op (.mv (.t 16)), (some 5), none⟩]))
theorem u14_0 (call : DCall) (T : Tm) (st : Dv.St) : dCw Try.prog call l14_0 T st = dCw Try.prog call
 (.seq (.seq (.reg [⟨.op (.mv (.t 5)), (some 11), none⟩, ⟨.op (.mv (.t 0)), (some 12), none⟩, ⟨.op (.len (.t 12)), (some 13), none⟩, ⟨.op (.bin .lss 0 (.t 11) (.t 13)), (some 14), none⟩])
 [0, 1, 5, 14]
 (.cond (.t 14) (.skip) (.exit 0)))
 [0, 1, 5]
 (.seq (.block 1 (.seq (.drw [⟨⟨.op (.mv (.t 0)), (some 17), none⟩, .n, []⟩, ⟨⟨.op (.mv (.t 5)), (some 18), none⟩, .n, []⟩, ⟨⟨.op (.ia 14 none (.t 17) (.t 18)), (some 19), none⟩, .n, []⟩, ⟨⟨.op (.ldn 14 (.t 19)), (some 20), none⟩, .n, []⟩, ⟨⟨.op (.mv (.t 1)), (some 21), none⟩, .n, []⟩, ⟨⟨.op (.mv (.t 5)), (some 22), none⟩, .n, []⟩, ⟨⟨.op (.ia 14 none (.t 21) (.t 22)), (some 23), none⟩, .n, []⟩, ⟨⟨.op (.ldn 14 (.t 23)), (some 24), none⟩, .n, []⟩, ⟨⟨.call 21 [(.t 20), (.t 24)], (some 25), none⟩, .x, []⟩, ⟨⟨.op (.not (.t 25)), (some 26), none⟩, .n, []⟩])
 [0, 1, 5, 26]
 (.cond (.t 26) (.seq (.reg [⟨.op (.mv (.c (.bool false))), (some 4), none⟩])
 [4]
 (.ret)) (.skip))))
 [0, 1, 5]
 (.reg [⟨.op (.mv (.t 5)), (some 15), none⟩, ⟨.op (.bin .add 0 (.t 15) (.c (.int .i64 1))), (some 16), none⟩, ⟨.op (.mv (.t 16)), (some 5), none⟩]))) T st := rfl
/-- cardamom/cardamomref4.SameBoxes -/
noncomputable def c14 : DFn := ⟨27, .pure,
 .seq (.reg [⟨.op (.mv (.c (.bool false))), (some 4), none⟩])
 [0, 1]
 (.seq (.seq (.reg [⟨.op (.mv (.t 0)), (some 6), none⟩, ⟨.op (.len (.t 6)), (some 7), none⟩, ⟨.op (.mv (.t 1)), (some 8), none⟩, ⟨.op (.len (.t 8)), (some 9), none⟩, ⟨.op (.bin .neq 0 (.t 7) (.t 9)), (some 10), none⟩])
 [0, 1, 10]
 (.cond (.t 10) (.seq (.reg [⟨.op (.mv (.c (.bool false))), (some 4), none⟩])
 [4]
 (.ret)) (.skip)))
 [0, 1]
 (.seq (.seq (.reg [⟨.op (.mv (.c (.int .i64 0))), (some 5), none⟩])
 [0, 1, 5]
 (.block 0 (.loop [0, 1, 5] (l14_0))))
 []
 (.seq (.reg [⟨.op (.mv (.c (.bool true))), (some 4), none⟩])
 [4]
 (.ret)))),
 [.tmp 4]⟩
theorem k14 : cFn Try.prog 14 = some c14.toE := by kernel_rfl
theorem w14 : c14.body.wf = true := by kernel_rfl
/-- cardamom/cardamomplay.Made -/
noncomputable def c10 : DFn := ⟨6, .vars,
 .seq (.reg [⟨.op (.mv (.c (.ptr none))), (some 2), none⟩])
 [0]
 (.seq (.reg [⟨.op (.mv (.t 0)), (some 3), none⟩, ⟨.op (.build [(.sl none 0), (.int .i64 0)] [(0, 1, (.t 3))]), (some 4), none⟩, ⟨.op (.box (.t 4)), (some 5), none⟩, ⟨.op (.mv (.t 5)), (some 2), none⟩])
 [2]
 (.ret)),
 [.tmp 2]⟩
theorem k10 : cFn Try.prog 10 = some c10.toE := by kernel_rfl
theorem w10 : c10.body.wf = true := by kernel_rfl
/-- (*cardamom/cardamomplay.Picks).Version -/
noncomputable def c16 : DFn := ⟨28, .vars,
 .seq (.reg [⟨.op (.new [(.int .i64 0), (.int .i64 0), (.int .i64 0), (.int .i64 0), (.bool false), (.sl none 0), (.str []), (.str [])]), (some 2), none⟩])
 [0, 2]
 (.seq (.reg [⟨.op (.mv (.t 0)), (some 4), none⟩, ⟨.call 24 [(.t 4), (.c (.int .i64 6))], (some 5), none⟩, ⟨.op (.bin .add 0 (.c (.int .i64 1)) (.t 5)), (some 6), none⟩, ⟨.op (.mv (.t 0)), (some 7), none⟩, ⟨.call 27 [(.t 7)], (some 8), none⟩, ⟨.op (.mv (.t 0)), (some 9), none⟩, ⟨.call 28 [(.t 9)], (some 10), none⟩, ⟨.op (.mv (.t 0)), (some 11), none⟩, ⟨.call 29 [(.t 11)], (some 12), none⟩, ⟨.op (.build [(.int .i64 0), (.int .i64 0), (.int .i64 0), (.int .i64 0), (.bool false), (.sl none 0), (.str []), (.str [])] [(0, 1, (.t 6)), (1, 3, (.t 8)), (5, 1, (.t 10)), (6, 1, (.t 12))]), (some 13), none⟩, ⟨.op (.new [(.int .i64 0), (.int .i64 0), (.int .i64 0), (.int .i64 0), (.bool false), (.sl none 0), (.str []), (.str [])]), (some 3), none⟩, ⟨.op (.st 8 (.t 3) (.t 13)), none, none⟩])
 [0, 2, 3]
 (.seq (.reg [⟨.op (.mv (.t 0)), (some 14), none⟩, ⟨.call 24 [(.t 14), (.c (.int .i64 6))], (some 15), none⟩, ⟨.op (.bin .eql 0 (.t 15) (.c (.int .i64 1))), (some 16), none⟩, ⟨.op (.fa 4 (.t 3)), (some 17), none⟩, ⟨.op (.st 1 (.t 17) (.t 16)), none, none⟩])
 [0, 2, 3]
 (.seq (.seq (.reg [⟨.op (.fa 4 (.t 3)), (some 18), none⟩, ⟨.op (.ld1 (.t 18)), (some 19), none⟩, ⟨.op (.not (.t 19)), (some 20), none⟩])
 [0, 2, 3, 20]
 (.cond (.t 20) (.reg [⟨.op (.bslice 1 4 [(.str []), (.str []), (.str []), (.str [])] [(0, 1, (.c (.str []))), (1, 1, (.c (.str [120]))), (2, 1, (.c (.str [98, 111, 100, 121]))), (3, 1, (.c (.str [97, 32, 98, 111, 100, 121, 32, 111, 102, 32, 49, 50])))]), (some 21), none⟩, ⟨.op (.mv (.t 0)), (some 22), none⟩, ⟨.call 24 [(.t 22), (.c (.int .i64 4))], (some 23), none⟩, ⟨.op (.ia 1 none (.t 21) (.t 23)), (some 24), none⟩, ⟨.op (.ld1 (.t 24)), (some 25), none⟩, ⟨.op (.fa 7 (.t 3)), (some 26), none⟩, ⟨.op (.st 1 (.t 26) (.t 25)), none, none⟩]) (.skip)))
 [2, 3]
 (.seq (.reg [⟨.op (.ldn 8 (.t 3)), (some 27), none⟩, ⟨.op (.st 8 (.t 2) (.t 27)), none, none⟩])
 [2]
 (.ret))))),
 [.celln 8 2]⟩
theorem k16 : cFn Try.prog 16 = some c16.toE := by kernel_rfl
theorem w16 : c16.body.wf = true := by kernel_rfl
/-- (*cardamom/cardamomplay.Picks).Filter -/
noncomputable def c11 : DFn := ⟨75, .vars,
 .seq (.reg [⟨.op (.new [(.int .i64 0), (.int .i64 0), (.int .i64 0), (.int .i64 0), (.str []), (.sl none 0)]), (some 4), none⟩])
 [0, 1, 4]
 (.seq (.seq (.reg [⟨.op (.mv (.t 1)), (some 7), none⟩, ⟨.op (.bin .leq 0 (.t 7) (.c (.int .i64 1))), (some 8), none⟩, ⟨.op (.mv (.t 8)), (some 9), none⟩, ⟨.op (.mv (.t 0)), (some 10), (some (9, false))⟩, ⟨.call 24 [(.t 10), (.c (.int .i64 3))], (some 11), (some (9, false))⟩, ⟨.op (.bin .eql 0 (.t 11) (.c (.int .i64 0))), (some 12), (some (9, false))⟩, ⟨.op (.pick (.t 9) (.c (.bool true)) (.t 12)), (some 13), none⟩])
 [0, 1, 4, 13]
 (.cond (.t 13) (.seq (.seq (.reg [⟨.op (.mv (.t 0)), (some 14), none⟩, ⟨.call 24 [(.t 14), (.c (.int .i64 6))], (some 15), none⟩])
 [0, 4, 15]
 (.block 0 (.seq (.reg [⟨.op (.bin .eql 0 (.t 15) (.c (.int .i64 0))), (some 17), none⟩, ⟨.op (.mv (.t 17)), (some 16), none⟩])
 [0, 4, 15, 16]
 (.cond (.t 16) (.seq (.reg [⟨.op (.build [(.int .i64 0), (.int .i64 0), (.int .i64 0), (.int .i64 0), (.str []), (.sl none 0)] [(0, 1, (.c (.int .i64 1)))]), (some 18), none⟩, ⟨.op (.st 6 (.t 4) (.t 18)), none, none⟩])
 [4]
 (.ret)) (.seq (.seq (.reg [⟨.op (.bin .eql 0 (.t 15) (.c (.int .i64 1))), (some 20), none⟩, ⟨.op (.mv (.t 20)), (some 19), none⟩])
 [0, 4, 15, 19]
 (.cond (.t 19) (.skip) (.reg [⟨.op (.bin .eql 0 (.t 15) (.c (.int .i64 2))), (some 21), none⟩, ⟨.op (.mv (.t 21)), (some 19), none⟩])))
 [0, 4, 15, 19]
 (.cond (.t 19) (.seq (.reg [⟨.op (.bslice 1 4 [(.int .i64 0), (.int .i64 0), (.int .i64 0), (.int .i64 0)] [(0, 1, (.c (.int .i64 0))), (1, 1, (.c (.int .i64 1))), (2, 1, (.c (.int .i64 5))), (3, 1, (.c (.int .i64 99)))]), (some 22), none⟩, ⟨.op (.mv (.t 0)), (some 23), none⟩, ⟨.call 24 [(.t 23), (.c (.int .i64 4))], (some 24), none⟩, ⟨.op (.ia 1 none (.t 22) (.t 24)), (some 25), none⟩, ⟨.op (.ld1 (.t 25)), (some 26), none⟩, ⟨.op (.mv (.t 26)), (some 5), none⟩])
 [0, 4, 5]
 (.seq (.reg [⟨.op (.mv (.t 0)), (some 27), none⟩, ⟨.call 24 [(.t 27), (.c (.int .i64 4))], (some 28), none⟩, ⟨.op (.mv (.t 5)), (some 29), none⟩, ⟨.op (.mv (.t 5)), (some 30), none⟩, ⟨.op (.build [(.int .i64 0), (.int .i64 0), (.int .i64 0), (.int .i64 0), (.str []), (.sl none 0)] [(0, 1, (.c (.int .i64 2))), (1, 1, (.t 28)), (2, 1, (.t 29)), (3, 1, (.t 30))]), (some 31), none⟩, ⟨.op (.st 6 (.t 4) (.t 31)), none, none⟩])
 [4]
 (.ret))) (.seq (.seq (.reg [⟨.op (.bin .eql 0 (.t 15) (.c (.int .i64 3))), (some 33), none⟩, ⟨.op (.mv (.t 33)), (some 32), none⟩])
 [0, 4, 15, 32]
 (.cond (.t 32) (.skip) (.reg [⟨.op (.bin .eql 0 (.t 15) (.c (.int .i64 4))), (some 34), none⟩, ⟨.op (.mv (.t 34)), (some 32), none⟩])))
 [0, 4, 32]
 (.cond (.t 32) (.seq (.reg [⟨.op (.mv (.t 0)), (some 35), none⟩, ⟨.call 24 [(.t 35), (.c (.int .i64 4))], (some 36), none⟩, ⟨.op (.mv (.t 0)), (some 37), none⟩, ⟨.call 24 [(.t 37), (.c (.int .i64 60))], (some 38), none⟩, ⟨.op (.build [(.int .i64 0), (.int .i64 0), (.int .i64 0), (.int .i64 0), (.str []), (.sl none 0)] [(0, 1, (.c (.int .i64 3))), (1, 1, (.t 36)), (2, 1, (.t 38))]), (some 39), none⟩, ⟨.op (.new [(.int .i64 0), (.int .i64 0), (.int .i64 0), (.int .i64 0), (.str []), (.sl none 0)]), (some 6), none⟩, ⟨.op (.st 6 (.t 6) (.t 39)), none, none⟩])
 [0, 4, 6]
 (.seq (.drw [⟨⟨.op (.fa 2 (.t 6)), (some 40), none⟩, .n, []⟩, ⟨⟨.op (.ld1 (.t 40)), (some 41), none⟩, .n, []⟩, ⟨⟨.op (.mv (.t 0)), (some 42), none⟩, .n, []⟩, ⟨⟨.call 24 [(.t 42), (.c (.int .i64 40))], (some 43), none⟩, .x, [(true, 1)]⟩, ⟨⟨.op (.bin .add 0 (.t 41) (.t 43)), (some 44), none⟩, .n, []⟩, ⟨⟨.op (.fa 3 (.t 6)), (some 45), none⟩, .n, []⟩, ⟨⟨.op (.st 1 (.t 45) (.t 44)), none, none⟩, .x, []⟩])
 [4, 6]
 (.seq (.reg [⟨.op (.ldn 6 (.t 6)), (some 46), none⟩, ⟨.op (.st 6 (.t 4) (.t 46)), none, none⟩])
 [4]
 (.ret)))) (.skip)))))))))
 [0, 4]
 (.seq (.reg [⟨.op (.bslice 1 3 [(.str []), (.str []), (.str [])] [(0, 1, (.c (.str [97]))), (1, 1, (.c (.str [97, 98]))), (2, 1, (.c (.str [98])))]), (some 47), none⟩, ⟨.op (.mv (.t 0)), (some 48), none⟩, ⟨.call 24 [(.t 48), (.c (.int .i64 3))], (some 49), none⟩, ⟨.op (.ia 1 none (.t 47) (.t 49)), (some 50), none⟩, ⟨.op (.ld1 (.t 50)), (some 51), none⟩, ⟨.op (.build [(.int .i64 0), (.int .i64 0), (.int .i64 0), (.int .i64 0), (.str []), (.sl none 0)] [(0, 1, (.c (.int .i64 4))), (4, 1, (.t 51))]), (some 52), none⟩, ⟨.op (.st 6 (.t 4) (.t 52)), none, none⟩])
 [4]
 (.ret))) (.skip)))
 [0, 1, 4]
 (.seq (.seq (.reg [⟨.op (.mv (.t 0)), (some 53), none⟩, ⟨.call 24 [(.t 53), (.c (.int .i64 3))], (some 54), none⟩, ⟨.op (.bin .eql 0 (.t 54) (.c (.int .i64 0))), (some 55), none⟩])
 [0, 1, 4, 55]
 (.cond (.t 55) (.seq (.reg [⟨.op (.mv (.t 0)), (some 56), none⟩, ⟨.op (.mv (.t 1)), (some 57), none⟩, ⟨.op (.bin .sub 0 (.t 57) (.c (.int .i64 1))), (some 58), none⟩, ⟨.call 11 [(.t 56), (.t 58)], (some 59), none⟩, ⟨.op (.bslice 6 1 [(.int .i64 0), (.int .i64 0), (.int .i64 0), (.int .i64 0), (.str []), (.sl none 0)] [(0, 6, (.t 59))]), (some 60), none⟩, ⟨.op (.build [(.int .i64 0), (.int .i64 0), (.int .i64 0), (.int .i64 0), (.str []), (.sl none 0)] [(0, 1, (.c (.int .i64 7))), (5, 1, (.t 60))]), (some 61), none⟩, ⟨.op (.st 6 (.t 4) (.t 61)), none, none⟩])
 [4]
 (.ret)) (.skip)))
 [0, 1, 4]
 (.seq (.reg [⟨.op (.mv (.t 0)), (some 62), none⟩, ⟨.call 24 [(.t 62), (.c (.int .i64 2))], (some 63), none⟩, ⟨.op (.bin .add 0 (.c (.int .i64 5)) (.t 63)), (some 64), none⟩, ⟨.op (.mv (.t 0)), (some 65), none⟩, ⟨.op (.mv (.t 1)), (some 66), none⟩, ⟨.op (.bin .sub 0 (.t 66) (.c (.int .i64 1))), (some 67), none⟩, ⟨.call 11 [(.t 65), (.t 67)], (some 68), none⟩, ⟨.op (.mv (.t 0)), (some 69), none⟩, ⟨.op (.mv (.t 1)), (some 70), none⟩, ⟨.op (.bin .sub 0 (.t 70) (.c (.int .i64 1))), (some 71), none⟩, ⟨.call 11 [(.t 69), (.t 71)], (some 72), none⟩, ⟨.op (.bslice 6 2 [(.int .i64 0), (.int .i64 0), (.int .i64 0), (.int .i64 0), (.str []), (.sl none 0), (.int .i64 0), (.int .i64 0), (.int .i64 0), (.int .i64 0), (.str []), (.sl none 0)] [(0, 6, (.t 68)), (6, 6, (.t 72))]), (some 73), none⟩, ⟨.op (.build [(.int .i64 0), (.int .i64 0), (.int .i64 0), (.int .i64 0), (.str []), (.sl none 0)] [(0, 1, (.t 64)), (5, 1, (.t 73))]), (some 74), none⟩, ⟨.op (.st 6 (.t 4) (.t 74)), none, none⟩])
 [4]
 (.ret)))),
 [.celln 6 4]⟩
theorem k11 : cFn Try.prog 11 = some c11.toE := by kernel_rfl
theorem w11 : c11.body.wf = true := by kernel_rfl
/-- (*cardamom/cardamomplay.Picks).Num -/
noncomputable def c24 : DFn := ⟨40, .vars,
 .seq (.reg [⟨.op (.mv (.c (.int .i64 0))), (some 4), none⟩])
 [0, 1]
 (.seq (.seq (.drw [⟨⟨.op (.mv (.t 0)), (some 5), none⟩, .n, []⟩, ⟨⟨.op (.nilchk (.t 5)), (some 6), none⟩, .n, []⟩, ⟨⟨.op (.fa 1 (.t 6)), (some 7), none⟩, .n, []⟩, ⟨⟨.op (.ld1 (.t 7)), (some 8), none⟩, .n, []⟩, ⟨⟨.op (.mv (.t 0)), (some 9), none⟩, .n, []⟩, ⟨⟨.op (.nilchk (.t 9)), (some 10), none⟩, .n, []⟩, ⟨⟨.op (.fa 0 (.t 10)), (some 11), none⟩, .n, []⟩, ⟨⟨.op (.ld1 (.t 11)), (some 12), none⟩, .n, []⟩, ⟨⟨.op (.len (.t 12)), (some 13), none⟩, .n, []⟩, ⟨⟨.op (.bin .geq 0 (.t 8) (.t 13)), (some 14), none⟩, .n, []⟩, ⟨⟨.op (.mv (.t 14)), (some 15), none⟩, .n, []⟩, ⟨⟨.op (.mv (.t 1)), (some 16), (some (15, false))⟩, .n, []⟩, ⟨⟨.op (.bin .lss 0 (.t 16) (.c (.int .i64 1))), (some 17), (some (15, false))⟩, .n, []⟩, ⟨⟨.op (.pick (.t 15) (.c (.bool true)) (.t 17)), (some 18), none⟩, .n, []⟩])
 [0, 1, 18]
 (.cond (.t 18) (.seq (.reg [⟨.op (.mv (.c (.int .i64 0))), (some 4), none⟩])
 [4]
 (.ret)) (.skip)))
 [0, 1]
 (.seq (.reg [⟨.op (.mv (.t 0)), (some 19), none⟩, ⟨.op (.nilchk (.t 19)), (some 20), none⟩, ⟨.op (.fa 1 (.t 20)), (some 21), none⟩, ⟨.op (.ld1 (.t 21)), (some 22), none⟩, ⟨.op (.bin .add 0 (.t 22) (.c (.int .i64 1))), (some 23), none⟩, ⟨.op (.nilchk (.t 19)), (some 24), none⟩, ⟨.op (.fa 1 (.t 24)), (some 25), none⟩, ⟨.op (.st 1 (.t 25) (.t 23)), none, none⟩])
 [0, 1]
 (.seq (.drw [⟨⟨.op (.mv (.t 0)), (some 26), none⟩, .n, []⟩, ⟨⟨.op (.nilchk (.t 26)), (some 27), none⟩, .n, []⟩, ⟨⟨.op (.fa 0 (.t 27)), (some 28), none⟩, .n, []⟩, ⟨⟨.op (.ld1 (.t 28)), (some 29), none⟩, .n, []⟩, ⟨⟨.op (.mv (.t 0)), (some 30), none⟩, .n, []⟩, ⟨⟨.op (.nilchk (.t 30)), (some 31), none⟩, .n, []⟩, ⟨⟨.op (.fa 1 (.t 31)), (some 32), none⟩, .n, []⟩, ⟨⟨.op (.ld1 (.t 32)), (some 33), none⟩, .n, []⟩, ⟨⟨.op (.bin .sub 0 (.t 33) (.c (.int .i64 1))), (some 34), none⟩, .n, []⟩, ⟨⟨.op (.ia 1 none (.t 29) (.t 34)), (some 35), none⟩, .n, []⟩, ⟨⟨.op (.ld1 (.t 35)), (some 36), none⟩, .n, []⟩, ⟨⟨.op (.conv .i64 (.t 36)), (some 37), none⟩, .n, []⟩, ⟨⟨.op (.mv (.t 1)), (some 38), none⟩, .n, []⟩, ⟨⟨.op (.bin .rem 0 (.t 37) (.t 38)), (some 39), none⟩, .n, []⟩, ⟨⟨.op (.mv (.t 39)), (some 4), none⟩, .x, []⟩])
 [4]
 (.ret)))),
 [.tmp 4]⟩
theorem k24 : cFn Try.prog 24 = some c24.toE := by kernel_rfl
theorem w24 : c24.body.wf = true := by kernel_rfl
/-- (*cardamom/cardamomplay.Picks).Stamp -/
noncomputable def c27 : DFn := ⟨18, .vars,
 .seq (.reg [⟨.op (.new [(.int .i64 0), (.int .i64 0), (.int .i64 0)]), (some 2), none⟩])
 [0, 2]
 (.seq (.reg [⟨.op (.mv (.t 0)), (some 4), none⟩, ⟨.call 24 [(.t 4), (.c (.int .i64 9))], (some 5), none⟩, ⟨.op (.bin .add 0 (.c (.int .i64 1)) (.t 5)), (some 6), none⟩, ⟨.op (.mv (.t 0)), (some 7), none⟩, ⟨.call 24 [(.t 7), (.c (.int .i64 3))], (some 8), none⟩, ⟨.op (.bin .add 0 (.c (.int .i64 1)) (.t 8)), (some 9), none⟩, ⟨.op (.build [(.int .i64 0), (.int .i64 0), (.int .i64 0)] [(0, 1, (.t 6)), (1, 1, (.t 9))]), (some 10), none⟩, ⟨.op (.new [(.int .i64 0), (.int .i64 0), (.int .i64 0)]), (some 3), none⟩, ⟨.op (.st 3 (.t 3) (.t 10)), none, none⟩])
 [0, 2, 3]
 (.seq (.reg [⟨.op (.mv (.t 0)), (some 11), none⟩, ⟨.op (.fa 0 (.t 3)), (some 12), none⟩, ⟨.op (.ld1 (.t 12)), (some 13), none⟩, ⟨.call 24 [(.t 11), (.t 13)], (some 14), none⟩, ⟨.op (.bin .add 0 (.c (.int .i64 1)) (.t 14)), (some 15), none⟩, ⟨.op (.fa 2 (.t 3)), (some 16), none⟩, ⟨.op (.st 1 (.t 16) (.t 15)), none, none⟩])
 [2, 3]
 (.seq (.reg [⟨.op (.ldn 3 (.t 3)), (some 17), none⟩, ⟨.op (.st 3 (.t 2) (.t 17)), none, none⟩])
 [2]
 (.ret)))),
 [.celln 3 2]⟩
theorem k27 : cFn Try.prog 27 = some c27.toE := by kernel_rfl
theorem w27 : c27.body.wf = true := by kernel_rfl
noncomputable def l28_0 : DC :=
 .seq (.seq (.reg [⟨.op (.mv (.t 4)), (some 5), none⟩, ⟨.op (.bin .lss 0 (.t 5) (.c (.int .i64 4))), (some 6), none⟩, ⟨.op (.mv (.t 6)), (some 7), none⟩, ⟨.op (.mv (.t 3)), (some 8), (some (7, true))⟩, ⟨.op (.len (.t 8)), (some 9), (some (7, true))⟩, ⟨.op (.bin .lss 0 (.t 9) (.c (.int .i64 3))), (some 10), (some (7, true))⟩, ⟨.op (.pick (.t 7) (.t 10) (.c (.bool false))), (some 11), none⟩])
 [0, 3, 4, 11]
 (.cond (.t 11) (.skip) (.exit 0)))
 [0, 3, 4]
 (.seq (.block 1 (.seq (.reg [⟨.op (.mv (.t 0)), (some 14), none⟩, ⟨.call 24 [(.t 14), (.c (.int .i64 2))], (some 15), none⟩, ⟨.op (.bin .eql 0 (.t 15) (.c (.int .i64 0))), (some 16), none⟩])
 [0, 3, 4, 16]
 (.cond (.t 16) (.reg [⟨.op (.mv (.t 3)), (some 17), none⟩, ⟨.op (.mv (.t 4)), (some 18), none⟩, ⟨.op (.bslice 1 6 [(.int .i64 0), (.int .i64 0), (.int .i64 0), (.int .i64 0), (.int .i64 0), (.int .i64 0)] [(0, 1, (.c (.int .i64 0))), (1, 1, (.c (.int .i64 1))), (2, 1, (.c (.int .i64 5))), (3, 1, (.c (.int .i64 7))), (4, 1, (.c (.int .i64 50))), (5, 1, (.c (.int .i64 99)))]), (some 19), none⟩, ⟨.op (.mv (.t 0)), (some 20), none⟩, ⟨.call 24 [(.t 20), (.c (.int .i64 6))], (some 21), none⟩, ⟨.op (.ia 1 none (.t 19) (.t 21)), (some 22), none⟩, ⟨.op (.ld1 (.t 22)), (some 23), none⟩, ⟨.op (.build [(.int .i64 0), (.int .i64 0)] [(0, 1, (.t 18)), (1, 1, (.t 23))]), (some 24), none⟩, ⟨.op (.bslice 2 1 [(.int .i64 0), (.int .i64 0)] [(0, 2, (.t 24))]), (some 25), none⟩, ⟨.op (.app 2 16 false (.t 17) (.t 25)), (some 26), none⟩, ⟨.op (.mv (.t 26)), (some 3), none⟩]) (.skip))))
 [0, 3, 4]
 (.reg [⟨.op (.mv (.t 4)), (some 12), none⟩, ⟨.op (.bin .add 0 (.t 12) (.c (.int .i64 1))), (some 13), none⟩, ⟨.op (.mv (.t 13)), (some 4), none⟩]))
theorem u28_0 (call : DCall) (T : Tm) (st : Dv.St) : dCw Try.prog call l28_0 T st = dCw Try.prog call
 (.seq (.seq (.reg [⟨.op (.mv (.t 4)), (some 5), none⟩, ⟨.op (.bin .lss 0 (.t 5) (.c (.int .i64 4))), (some 6), none⟩, ⟨.op (.mv (.t 6)), (some 7), none⟩, ⟨.op (.mv (.t 3)), (some 8), (some (7, true))⟩, ⟨.op (.len (.t 8)), (some 9), (some (7, true))⟩, ⟨.op (.bin .lss 0 (.t 9) (.c (.int .i64 3))), (some 10), (some (7, true))⟩, ⟨.op (.pick (.t 7) (.t 10) (.c (.bool false))), (some 11), none⟩])
 [0, 3, 4, 11]
 (.cond (.t 11) (.skip) (.exit 0)))
 [0, 3, 4]
 (.seq (.block 1 (.seq (.reg [⟨.op (.mv (.t 0)), (some 14), none⟩, ⟨.call 24 [(.t 14), (.c (.int .i64 2))], (some 15), none⟩, ⟨.op (.bin .eql 0 (.t 15) (.c (.int .i64 0))), (some 16), none⟩])
 [0, 3, 4, 16]
 (.cond (.t 16) (.reg [⟨.op (.mv (.t 3)), (some 17), none⟩, ⟨.op (.mv (.t 4)), (some 18), none⟩, ⟨.op (.bslice 1 6 [(.int .i64 0), (.int .i64 0), (.int .i64 0), (.int .i64 0), (.int .i64 0), (.int .i64 0)] [(0, 1, (.c (.int .i64 0))), (1, 1, (.c (.int .i64 1))), (2, 1, (.c (.int .i64 5))), (3, 1, (.c (.int .i64 7))), (4, 1, (.c (.int .i64 50))), (5, 1, (.c (.int .i64 99)))]), (some 19), none⟩, ⟨.op (.mv (.t 0)), (some 20), none⟩, ⟨.call 24 [(.t 20), (.c (.int .i64 6))], (some 21), none⟩, ⟨.op (.ia 1 none (.t 19) (.t 21)), (some 22), none⟩, ⟨.op (.ld1 (.t 22)), (some 23), none⟩, ⟨.op (.build [(.int .i64 0), (.int .i64 0)] [(0, 1, (.t 18)), (1, 1, (.t 23))]), (some 24), none⟩, ⟨.op (.bslice 2 1 [(.int .i64 0), (.int .i64 0)] [(0, 2, (.t 24))]), (some 25), none⟩, ⟨.op (.app 2 16 false (.t 17) (.t 25)), (some 26), none⟩, ⟨.op (.mv (.t 26)), (some 3), none⟩]) (.skip))))
 [0, 3, 4]
 (.reg [⟨.op (.mv (.t 4)), (some 12), none⟩, ⟨.op (.bin .add 0 (.t 12) (.c (.int .i64 1))), (some 13), none⟩, ⟨.op (.mv (.t 13)), (some 4), none⟩]))) T st := rfl
/-- (*cardamom/cardamomplay.Picks).Attrs -/
noncomputable def c28 : DFn := ⟨28, .vars,
 .seq (.reg [⟨.op (.mv (.c (.sl none 0))), (some 2), none⟩])
 [0]
 (.seq (.reg [⟨.op (.mv (.c (.sl none 0))), (some 3), none⟩])
 [0, 3]
 (.seq (.seq (.reg [⟨.op (.mv (.c (.int .i64 0))), (some 4), none⟩])
 [0, 3, 4]
 (.block 0 (.loop [0, 3, 4] (l28_0))))
 [3]
 (.seq (.reg [⟨.op (.mv (.t 3)), (some 27), none⟩, ⟨.op (.mv (.t 27)), (some 2), none⟩])
 [2]
 (.ret)))),
 [.tmp 2]⟩
theorem k28 : cFn Try.prog 28 = some c28.toE := by kernel_rfl
theorem w28 : c28.body.wf = true := by kernel_rfl
/-- (*cardamom/cardamomplay.Picks).Tag -/
noncomputable def c29 : DFn := ⟨8, .vars,
 .seq (.reg [⟨.op (.mv (.c (.str []))), (some 2), none⟩])
 [0]
 (.seq (.reg [⟨.op (.bslice 1 6 [(.str []), (.str []), (.str []), (.str []), (.str []), (.str [])] [(0, 1, (.c (.str []))), (1, 1, (.c (.str [97]))), (2, 1, (.c (.str [97, 98]))), (3, 1, (.c (.str [97, 98, 99]))), (4, 1, (.c (.str [98]))), (5, 1, (.c (.str [98, 97])))]), (some 3), none⟩, ⟨.op (.mv (.t 0)), (some 4), none⟩, ⟨.call 24 [(.t 4), (.c (.int .i64 6))], (some 5), none⟩, ⟨.op (.ia 1 none (.t 3) (.t 5)), (some 6), none⟩, ⟨.op (.ld1 (.t 6)), (some 7), none⟩, ⟨.op (.mv (.t 7)), (some 2), none⟩])
 [2]
 (.ret)),
 [.tmp 2]⟩
theorem k29 : cFn Try.prog 29 = some c29.toE := by kernel_rfl
theorem w29 : c29.body.wf = true := by kernel_rfl
noncomputable def l33_0 : DC :=
 .seq (.seq (.reg [⟨.op (.mv (.t 6)), (some 7), none⟩, ⟨.op (.fa 5 (.t 2)), (some 8), none⟩, ⟨.op (.ld1 (.t 8)), (some 9), none⟩, ⟨.op (.len (.t 9)), (some 10), none⟩, ⟨.op (.bin .lss 0 (.t 7) (.t 10)), (some 11), none⟩])
 [1, 2, 6, 11]
 (.cond (.t 11) (.skip) (.exit 0)))
 [1, 2, 6]
 (.seq (.block 1 (.seq (.reg [⟨.op (.fa 5 (.t 2)), (some 14), none⟩, ⟨.op (.ld1 (.t 14)), (some 15), none⟩, ⟨.op (.mv (.t 6)), (some 16), none⟩, ⟨.op (.ia 2 none (.t 15) (.t 16)), (some 17), none⟩, ⟨.op (.fa 0 (.t 17)), (some 18), none⟩, ⟨.op (.ld1 (.t 18)), (some 19), none⟩, ⟨.op (.mv (.t 1)), (some 20), none⟩, ⟨.op (.bin .eql 0 (.t 19) (.t 20)), (some 21), none⟩])
 [1, 2, 6, 21]
 (.cond (.t 21) (.seq (.reg [⟨.op (.fa 5 (.t 2)), (some 22), none⟩, ⟨.op (.ld1 (.t 22)), (some 23), none⟩, ⟨.op (.mv (.t 6)), (some 24), none⟩, ⟨.op (.ia 2 none (.t 23) (.t 24)), (some 25), none⟩, ⟨.op (.fa 1 (.t 25)), (some 26), none⟩, ⟨.op (.ld1 (.t 26)), (some 27), none⟩, ⟨.op (.mv (.t 27)), (some 4), none⟩, ⟨.op (.mv (.c (.bool true))), (some 5), none⟩])
 [4, 5]
 (.ret)) (.skip))))
 [1, 2, 6]
 (.reg [⟨.op (.mv (.t 6)), (some 12), none⟩, ⟨.op (.bin .add 0 (.t 12) (.c (.int .i64 1))), (some 13), none⟩, ⟨.op (.mv (.t 13)), (some 6), none⟩]))
theorem u33_0 (call : DCall) (T : Tm) (st : Dv.St) : dCw Try.prog call l33_0 T st = dCw Try.prog call
 (.seq (.seq (.reg [⟨.op (.mv (.t 6)), (some 7), none⟩, ⟨.op (.fa 5 (.t 2)), (some 8), none⟩, ⟨.op (.ld1 (.t 8)), (some 9), none⟩, ⟨.op (.len (.t 9)), (some 10), none⟩, ⟨.op (.bin .lss 0 (.t 7) (.t 10)), (some 11), none⟩])
 [1, 2, 6, 11]
 (.cond (.t 11) (.skip) (.exit 0)))
 [1, 2, 6]
 (.seq (.block 1 (.seq (.reg [⟨.op (.fa 5 (.t 2)), (some 14), none⟩, ⟨.op (.ld1 (.t 14)), (some 15), none⟩, ⟨.op (.mv (.t 6)), (some 16), none⟩, ⟨.op (.ia 2 none (.t 15) (.t 16)), (some 17), none⟩, ⟨.op (.fa 0 (.t 17)), (some 18), none⟩, ⟨.op (.ld1 (.t 18)), (some 19), none⟩, ⟨.op (.mv (.t 1)), (some 20), none⟩, ⟨.op (.bin .eql 0 (.t 19) (.t 20)), (some 21), none⟩])
 [1, 2, 6, 21]
 (.cond (.t 21) (.seq (.reg [⟨.op (.fa 5 (.t 2)), (some 22), none⟩, ⟨.op (.ld1 (.t 22)), (some 23), none⟩, ⟨.op (.mv (.t 6)), (some 24), none⟩, ⟨.op (.ia 2 none (.t 23) (.t 24)), (some 25), none⟩, ⟨.op (.fa 1 (.t 25)), (some 26), none⟩, ⟨.op (.ld1 (.t 26)), (some 27), none⟩, ⟨.op (.mv (.t 27)), (some 4), none⟩, ⟨.op (.mv (.c (.bool true))), (some 5), none⟩])
 [4, 5]
 (.ret)) (.skip))))
 [1, 2, 6]
 (.reg [⟨.op (.mv (.t 6)), (some 12), none⟩, ⟨.op (.bin .add 0 (.t 12) (.c (.int .i64 1))), (some 13), none⟩, ⟨.op (.mv (.t 13)), (some 6), none⟩]))) T st := rfl
/-- cardamom/cardamomref1.Attr -/
noncomputable def c33 : DFn := ⟨28, .pure,
 .seq (.reg [⟨.op (.box (.t 0)), (some 2), none⟩, ⟨.op (.mv (.c (.int .i64 0))), (some 4), none⟩, ⟨.op (.mv (.c (.bool false))), (some 5), none⟩])
 [1, 2]
 (.seq (.seq (.reg [⟨.op (.mv (.c (.int .i64 0))), (some 6), none⟩])
 [1, 2, 6]
 (.block 0 (.loop [1, 2, 6] (l33_0))))
 []
 (.seq (.reg [⟨.op (.mv (.c (.int .i64 0))), (some 4), none⟩, ⟨.op (.mv (.c (.bool false))), (some 5), none⟩])
 [4, 5]
 (.ret))),
 [.tmp 4, .tmp 5]⟩
theorem k33 : cFn Try.prog 33 = some c33.toE := by kernel_rfl
theorem w33 : c33.body.wf = true := by kernel_rfl
/-- cardamom/cardamomref4.begins -/
noncomputable def c34 : DFn := ⟨18, .pure,
 .seq (.reg [⟨.op (.mv (.c (.bool false))), (some 4), none⟩])
 [0, 1]
 (.seq (.reg [⟨.op (.mv (.t 0)), (some 5), none⟩, ⟨.op (.lenstr (.t 5)), (some 6), none⟩, ⟨.op (.mv (.t 1)), (some 7), none⟩, ⟨.op (.lenstr (.t 7)), (some 8), none⟩, ⟨.op (.bin .geq 0 (.t 6) (.t 8)), (some 9), none⟩, ⟨.op (.mv (.t 9)), (some 10), none⟩, ⟨.op (.mv (.t 0)), (some 11), (some (10, true))⟩, ⟨.op (.mv (.t 1)), (some 12), (some (10, true))⟩, ⟨.op (.lenstr (.t 12)), (some 13), (some (10, true))⟩, ⟨.op (.cuts (.t 11) none (some (.t 13))), (some 14), (some (10, true))⟩, ⟨.op (.mv (.t 1)), (some 15), (some (10, true))⟩, ⟨.op (.bin .eql 0 (.t 14) (.t 15)), (some 16), (some (10, true))⟩, ⟨.op (.pick (.t 10) (.t 16) (.c (.bool false))), (some 17), none⟩, ⟨.op (.mv (.t 17)), (some 4), none⟩])
 [4]
 (.ret)),
 [.tmp 4]⟩
theorem k34 : cFn Try.prog 34 = some c34.toE := by kernel_rfl
theorem w34 : c34.body.wf = true := by kernel_rfl
/-- cardamom/vers.Attr -/
noncomputable def c46 : DFn := ⟨19, .pure,
 .seq (.reg [⟨.op (.box (.t 0)), (some 2), none⟩, ⟨.op (.box (.t 1)), (some 3), none⟩, ⟨.op (.mv (.c (.int .i64 0))), (some 4), none⟩, ⟨.op (.mv (.c (.bool false))), (some 5), none⟩])
 [2, 3]
 (.seq (.reg [⟨.op (.fa 5 (.t 2)), (some 7), none⟩, ⟨.op (.ld1 (.t 7)), (some 8), none⟩, ⟨.op (.fn 60 [(.t 3)]), (some 9), none⟩, ⟨.call 59 [(.t 8), (.t 9)], (some 10), none⟩, ⟨.op (.mv (.t 10)), (some 6), none⟩])
 [2, 6]
 (.seq (.seq (.reg [⟨.op (.mv (.t 6)), (some 11), none⟩, ⟨.op (.bin .lss 0 (.t 11) (.c (.int .i64 0))), (some 12), none⟩])
 [2, 6, 12]
 (.cond (.t 12) (.seq (.reg [⟨.op (.mv (.c (.int .i64 0))), (some 4), none⟩, ⟨.op (.mv (.c (.bool false))), (some 5), none⟩])
 [4, 5]
 (.ret)) (.skip)))
 [2, 6]
 (.seq (.reg [⟨.op (.fa 5 (.t 2)), (some 13), none⟩, ⟨.op (.ld1 (.t 13)), (some 14), none⟩, ⟨.op (.mv (.t 6)), (some 15), none⟩, ⟨.op (.ia 2 none (.t 14) (.t 15)), (some 16), none⟩, ⟨.op (.fa 1 (.t 16)), (some 17), none⟩, ⟨.op (.ld1 (.t 17)), (some 18), none⟩, ⟨.op (.mv (.t 18)), (some 4), none⟩, ⟨.op (.mv (.c (.bool true))), (some 5), none⟩])
 [4, 5]
 (.ret)))),
 [.tmp 4, .tmp 5]⟩
theorem k46 : cFn Try.prog 46 = some c46.toE := by kernel_rfl
theorem w46 : c46.body.wf = true := by kernel_rfl
/-- cardamom/vers.Attr$1 -/
noncomputable def c60 : DFn := ⟨8, .pure,
 .seq (.reg [⟨.op (.box (.t 0)), (some 2), none⟩, ⟨.op (.mv (.c (.bool false))), (some 3), none⟩])
 [1, 2]
 (.seq (.reg [⟨.op (.fa 0 (.t 2)), (some 4), none⟩, ⟨.op (.ld1 (.t 4)), (some 5), none⟩, ⟨.op (.ld1 (.t 1)), (some 6), none⟩, ⟨.op (.bin .eql 0 (.t 5) (.t 6)), (some 7), none⟩, ⟨.op (.mv (.t 7)), (some 3), none⟩])
 [3]
 (.ret)),
 [.tmp 3]⟩
theorem k60 : cFn Try.prog 60 = some c60.toE := by kernel_rfl
theorem w60 : c60.body.wf = true := by kernel_rfl
/-- strings.HasPrefix -/
noncomputable def c31 : DFn := ⟨8, .pure,
 .seq (.reg [⟨.op (.mv (.c (.bool false))), (some 4), none⟩])
 [0, 1]
 (.seq (.reg [⟨.op (.mv (.t 0)), (some 5), none⟩, ⟨.op (.mv (.t 1)), (some 6), none⟩, ⟨.call 47 [(.t 5), (.t 6)], (some 7), none⟩, ⟨.op (.mv (.t 7)), (some 4), none⟩])
 [4]
 (.ret)),
 [.tmp 4]⟩
theorem k31 : cFn Try.prog 31 = some c31.toE := by kernel_rfl
theorem w31 : c31.body.wf = true := by kernel_rfl
/-- internal/stringslite.HasPrefix -/
noncomputable def c47 : DFn := ⟨18, .pure,
 .seq (.reg [⟨.op (.mv (.c (.bool false))), (some 4), none⟩])
 [0, 1]
 (.seq (.reg [⟨.op (.mv (.t 0)), (some 5), none⟩, ⟨.op (.lenstr (.t 5)), (some 6), none⟩, ⟨.op (.mv (.t 1)), (some 7), none⟩, ⟨.op (.lenstr (.t 7)), (some 8), none⟩, ⟨.op (.bin .geq 0 (.t 6) (.t 8)), (some 9), none⟩, ⟨.op (.mv (.t 9)), (some 10), none⟩, ⟨.op (.mv (.t 0)), (some 11), (some (10, true))⟩, ⟨.op (.mv (.t 1)), (some 12), (some (10, true))⟩, ⟨.op (.lenstr (.t 12)), (some 13), (some (10, true))⟩, ⟨.op (.cuts (.t 11) none (some (.t 13))), (some 14), (some (10, true))⟩, ⟨.op (.mv (.t 1)), (some 15), (some (10, true))⟩, ⟨.op (.bin .eql 0 (.t 14) (.t 15)), (some 16), (some (10, true))⟩, ⟨.op (.pick (.t 10) (.t 16) (.c (.bool false))), (some 17), none⟩, ⟨.op (.mv (.t 17)), (some 4), none⟩])
 [4]
 (.ret)),
 [.tmp 4]⟩
theorem k47 : cFn Try.prog 47 = some c47.toE := by kernel_rfl
theorem w47 : c47.body.wf = true := by kernel_rfl
noncomputable def l59_0 : DC :=
 .seq (.reg [⟨.op (.bin .lss 0 (.t 8) (.t 7)), (some 9), none⟩])
 [0, 1, 7, 8, 9]
 (.seq (.cond (.t 9) (.skip) (.exit 0))
 [0, 1, 7, 8]
 (.seq (.block 1 (.seq (.reg [⟨.op (.mv (.t 8)), (some 10), none⟩, ⟨.op (.mv (.t 10)), (some 5), none⟩])
 [0, 1, 5, 7, 8]
 (.seq (.reg [⟨.op (.mv (.t 1)), (some 11), none⟩, ⟨.op (.mv (.t 0)), (some 12), none⟩, ⟨.op (.mv (.t 5)), (some 13), none⟩, ⟨.op (.ia 2 none (.t 12) (.t 13)), (some 14), none⟩, ⟨.op (.ldn 2 (.t 14)), (some 15), none⟩, ⟨.callv (.t 11) [(.t 15)], (some 16), none⟩])
 [0, 1, 5, 7, 8, 16]
 (.cond (.t 16) (.seq (.reg [⟨.op (.mv (.t 5)), (some 17), none⟩, ⟨.op (.mv (.t 17)), (some 4), none⟩])
 [4]
 (.ret)) (.skip)))))
 [0, 1, 7, 8]
 (.reg [⟨.op (.bin .add 0 (.t 8) (.c (.int .i64 1))), (some 18), none⟩, ⟨.op (.mv (.t 18)), (some 8), none⟩])))
theorem u59_0 (call : DCall) (T : Tm) (st : Dv.St) : dCw Try.prog call l59_0 T st = dCw Try.prog call
 (.seq (.reg [⟨.op (.bin .lss 0 (.t 8) (.t 7)), (some 9), none⟩])
 [0, 1, 7, 8, 9]
 (.seq (.cond (.t 9) (.skip) (.exit 0))
 [0, 1, 7, 8]
 (.seq (.block 1 (.seq (.reg [⟨.op (.mv (.t 8)), (some 10), none⟩, ⟨.op (.mv (.t 10)), (some 5), none⟩])
 [0, 1, 5, 7, 8]
 (.seq (.reg [⟨.op (.mv (.t 1)), (some 11), none⟩, ⟨.op (.mv (.t 0)), (some 12), none⟩, ⟨.op (.mv (.t 5)), (some 13), none⟩, ⟨.op (.ia 2 none (.t 12) (.t 13)), (some 14), none⟩, ⟨.op (.ldn 2 (.t 14)), (some 15), none⟩, ⟨.callv (.t 11) [(.t 15)], (some 16), none⟩])
 [0, 1, 5, 7, 8, 16]
 (.cond (.t 16) (.seq (.reg [⟨.op (.mv (.t 5)), (some 17), none⟩, ⟨.op (.mv (.t 17)), (some 4), none⟩])
 [4]
 (.ret)) (.skip)))))
 [0, 1, 7, 8]
 (.reg [⟨.op (.bin .add 0 (.t 8) (.c (.int .i64 1))), (some 18), none⟩, ⟨.op (.mv (.t 18)), (some 8), none⟩])))) T st := rfl
/-- slices.IndexFunc[[]cardamom/api.Attr,cardamom/api.Attr] -/
noncomputable def c59 : DFn := ⟨19, .pure,
 .seq (.reg [⟨.op (.mv (.c (.int .i64 0))), (some 4), none⟩])
 [0, 1]
 (.seq (.seq (.reg [⟨.op (.mv (.t 0)), (some 6), none⟩, ⟨.op (.len (.t 6)), (some 7), none⟩, ⟨.op (.mv (.c (.int .i64 0))), (some 8), none⟩])
 [0, 1, 7, 8]
 (.block 0 (.loop [0, 1, 7, 8] (l59_0))))
 []
 (.seq (.reg [⟨.op (.mv (.c (.int .i64 (-1)))), (some 4), none⟩])
 [4]
 (.ret))),
 [.tmp 4]⟩
theorem k59 : cFn Try.prog 59 = some c59.toE := by kernel_rfl
theorem w59 : c59.body.wf = true := by kernel_rfl
/-- cardamom/norm.Of -/
noncomputable def c12 : DFn := ⟨8, .pure,
 .seq (.reg [⟨.op (.box (.t 0)), (some 1), none⟩, ⟨.op (.mv (.c (.sl none 0))), (some 2), none⟩, ⟨.op (.mv (.c (.bool false))), (some 3), none⟩])
 [1]
 (.seq (.reg [⟨.op (.ldn 6 (.t 1)), (some 4), none⟩, ⟨.call 25 [(.t 4), (.c (.bool false))], (some 5), none⟩, ⟨.op (.ext (.t 5) 0), (some 6), none⟩, ⟨.op (.ext (.t 5) 1), (some 7), none⟩, ⟨.op (.mv (.t 6)), (some 2), none⟩, ⟨.op (.mv (.t 7)), (some 3), none⟩])
 [2, 3]
 (.ret)),
 [.tmp 2, .tmp 3]⟩
theorem k12 : cFn Try.prog 12 = some c12.toE := by kernel_rfl
theorem w12 : c12.body.wf = true := by kernel_rfl
/-- cardamom/norm.of -/
noncomputable def c25 : DFn := ⟨22, .pure,
 .seq (.reg [⟨.op (.box (.t 0)), (some 2), none⟩, ⟨.op (.mv (.c (.sl none 0))), (some 4), none⟩, ⟨.op (.mv (.c (.bool false))), (some 5), none⟩])
 [1, 2]
 (.seq (.reg [⟨.op (.ldn 6 (.t 2)), (some 9), none⟩, ⟨.op (.mv (.t 1)), (some 10), none⟩, ⟨.call 44 [(.t 9), (.t 10)], (some 11), none⟩, ⟨.op (.mv (.t 11)), (some 8), none⟩, ⟨.op (.ext (.t 8) 0), (some 12), none⟩, ⟨.op (.ext (.t 8) 1), (some 13), none⟩, ⟨.op (.mv (.t 12)), (some 6), none⟩, ⟨.op (.mv (.t 13)), (some 7), none⟩])
 [6, 7]
 (.seq (.seq (.reg [⟨.op (.mv (.t 7)), (some 14), none⟩, ⟨.op (.not (.t 14)), (some 15), none⟩, ⟨.op (.mv (.t 15)), (some 16), none⟩, ⟨.op (.mv (.t 6)), (some 17), (some (16, false))⟩, ⟨.op (.len (.t 17)), (some 18), (some (16, false))⟩, ⟨.op (.bin .gtr 0 (.t 18) (.c (.int .i64 16))), (some 19), (some (16, false))⟩, ⟨.op (.pick (.t 16) (.c (.bool true)) (.t 19)), (some 20), none⟩])
 [6, 20]
 (.cond (.t 20) (.seq (.reg [⟨.op (.mv (.c (.sl none 0))), (some 4), none⟩, ⟨.op (.mv (.c (.bool false))), (some 5), none⟩])
 [4, 5]
 (.ret)) (.skip)))
 [6]
 (.seq (.reg [⟨.op (.mv (.t 6)), (some 21), none⟩, ⟨.op (.mv (.t 21)), (some 4), none⟩, ⟨.op (.mv (.c (.bool true))), (some 5), none⟩])
 [4, 5]
 (.ret)))),
 [.tmp 4, .tmp 5]⟩
theorem k25 : cFn Try.prog 25 = some c25.toE := by kernel_rfl
theorem w25 : c25.body.wf = true := by kernel_rfl
/-- cardamom/norm.row -/
noncomputable def c44 : DFn := ⟨68, .pure,
 .seq (.reg [⟨.op (.box (.t 0)), (some 2), none⟩, ⟨.op (.mv (.c (.sl none 0))), (some 4), none⟩, ⟨.op (.mv (.c (.bool false))), (some 5), none⟩])
 [1, 2]
 (.seq (.seq (.reg [⟨.op (.fa 0 (.t 2)), (some 6), none⟩, ⟨.op (.ld1 (.t 6)), (some 7), none⟩])
 [1, 2, 7]
 (.block 0 (.seq (.block 6 (.seq (.block 5 (.seq (.block 4 (.seq (.block 3 (.block 2 (.seq (.block 1 (.seq (.seq (.seq (.reg [⟨.op (.bin .eql 0 (.t 7) (.c (.int .i64 1))), (some 9), none⟩, ⟨.op (.mv (.t 9)), (some 8), none⟩])
 [1, 2, 7, 8]
 (.cond (.t 8) (.exit 1) (.skip)))
 [1, 2, 7]
 (.seq (.seq (.reg [⟨.op (.bin .eql 0 (.t 7) (.c (.int .i64 2))), (some 11), none⟩, ⟨.op (.mv (.t 11)), (some 10), none⟩])
 [1, 2, 7, 10]
 (.cond (.t 10) (.exit 2) (.skip)))
 [1, 2, 7]
 (.seq (.seq (.reg [⟨.op (.bin .eql 0 (.t 7) (.c (.int .i64 3))), (some 13), none⟩, ⟨.op (.mv (.t 13)), (some 12), none⟩])
 [1, 2, 7, 12]
 (.cond (.t 12) (.exit 3) (.skip)))
 [1, 2, 7]
 (.seq (.seq (.reg [⟨.op (.bin .eql 0 (.t 7) (.c (.int .i64 4))), (some 15), none⟩, ⟨.op (.mv (.t 15)), (some 14), none⟩])
 [1, 2, 7, 14]
 (.cond (.t 14) (.exit 4) (.skip)))
 [1, 2, 7]
 (.seq (.seq (.seq (.reg [⟨.op (.bin .eql 0 (.t 7) (.c (.int .i64 5))), (some 17), none⟩, ⟨.op (.mv (.t 17)), (some 16), none⟩])
 [1, 2, 7, 16]
 (.cond (.t 16) (.skip) (.reg [⟨.op (.bin .eql 0 (.t 7) (.c (.int .i64 6))), (some 18), none⟩, ⟨.op (.mv (.t 18)), (some 16), none⟩])))
 [1, 2, 7, 16]
 (.cond (.t 16) (.exit 5) (.skip)))
 [1, 2, 7]
 (.seq (.reg [⟨.op (.bin .eql 0 (.t 7) (.c (.int .i64 7))), (some 20), none⟩, ⟨.op (.mv (.t 20)), (some 19), none⟩])
 [1, 2, 19]
 (.cond (.t 19) (.exit 6) (.skip))))))))
 []
 (.exit 0)))
 [1]
 (.seq (.seq (.seq (.reg [⟨.op (.mv (.t 1)), (some 21), none⟩])
 [21]
 (.cond (.t 21) (.seq (.reg [⟨.op (.mv (.c (.sl none 0))), (some 4), none⟩, ⟨.op (.mv (.c (.bool true))), (some 5), none⟩])
 [4, 5]
 (.ret)) (.skip)))
 []
 (.seq (.reg [⟨.op (.build [(.int .i64 0), (.int .i64 0), (.int .i64 0), (.int .i64 0), (.int .i64 0), (.int .i64 0), (.int .i64 0), (.int .i64 0), (.int .i64 0), (.int .i64 0), (.int .i64 0), (.int .i64 0), (.str []), (.sl none 0)] []), (some 22), none⟩, ⟨.op (.bslice 14 1 [(.int .i64 0), (.int .i64 0), (.int .i64 0), (.int .i64 0), (.int .i64 0), (.int .i64 0), (.int .i64 0), (.int .i64 0), (.int .i64 0), (.int .i64 0), (.int .i64 0), (.int .i64 0), (.str []), (.sl none 0)] [(0, 14, (.t 22))]), (some 23), none⟩, ⟨.op (.mv (.t 23)), (some 4), none⟩, ⟨.op (.mv (.c (.bool true))), (some 5), none⟩])
 [4, 5]
 (.ret)))
 []
 (.exit 0)))))
 [1, 2]
 (.seq (.seq (.seq (.reg [⟨.op (.mv (.t 1)), (some 24), none⟩])
 [2, 24]
 (.cond (.t 24) (.seq (.reg [⟨.op (.ldn 6 (.t 2)), (some 25), none⟩, ⟨.call 56 [(.t 25)], (some 26), none⟩, ⟨.op (.mv (.t 26)), (some 4), none⟩, ⟨.op (.mv (.c (.bool true))), (some 5), none⟩])
 [4, 5]
 (.ret)) (.skip)))
 [2]
 (.seq (.reg [⟨.op (.fa 1 (.t 2)), (some 27), none⟩, ⟨.op (.ld1 (.t 27)), (some 28), none⟩, ⟨.op (.fa 2 (.t 2)), (some 29), none⟩, ⟨.op (.ld1 (.t 29)), (some 30), none⟩, ⟨.op (.fa 3 (.t 2)), (some 31), none⟩, ⟨.op (.ld1 (.t 31)), (some 32), none⟩, ⟨.call 57 [(.t 28), (.c (.int .i64 1)), (.t 30), (.t 32)], (some 33), none⟩, ⟨.op (.bslice 14 1 [(.int .i64 0), (.int .i64 0), (.int .i64 0), (.int .i64 0), (.int .i64 0), (.int .i64 0), (.int .i64 0), (.int .i64 0), (.int .i64 0), (.int .i64 0), (.int .i64 0), (.int .i64 0), (.str []), (.sl none 0)] [(0, 14, (.t 33))]), (some 34), none⟩, ⟨.op (.mv (.t 34)), (some 4), none⟩, ⟨.op (.mv (.c (.bool true))), (some 5), none⟩])
 [4, 5]
 (.ret)))
 []
 (.exit 0))))
 [1, 2]
 (.seq (.seq (.seq (.reg [⟨.op (.mv (.t 1)), (some 35), none⟩])
 [2, 35]
 (.cond (.t 35) (.seq (.mid [⟨.op (.fa 4 (.t 2)), (some 36), none⟩, ⟨.op (.ld1 (.t 36)), (some 37), none⟩, ⟨.op (.bslice 1 1 [(.str [])] [(0, 1, (.t 37))]), (some 38), none⟩] 38 [⟨.op (.build [(.int .i64 0), (.int .i64 0), (.int .i64 0), (.int .i64 0), (.int .i64 0), (.int .i64 0), (.int .i64 0), (.int .i64 0), (.int .i64 0), (.int .i64 0), (.int .i64 0), (.int .i64 0), (.str []), (.sl none 0)] [(13, 1, (.t 38))]), (some 39), none⟩, ⟨.op (.bslice 14 1 [(.int .i64 0), (.int .i64 0), (.int .i64 0), (.int .i64 0), (.int .i64 0), (.int .i64 0), (.int .i64 0), (.int .i64 0), (.int .i64 0), (.int .i64 0), (.int .i64 0), (.int .i64 0), (.str []), (.sl none 0)] [(0, 14, (.t 39))]), (some 40), none⟩, ⟨.op (.mv (.t 40)), (some 4), none⟩, ⟨.op (.mv (.c (.bool true))), (some 5), none⟩])
 [4, 5]
 (.ret)) (.skip)))
 [2]
 (.seq (.reg [⟨.op (.fa 4 (.t 2)), (some 41), none⟩, ⟨.op (.ld1 (.t 41)), (some 42), none⟩, ⟨.op (.build [(.int .i64 0), (.int .i64 0), (.int .i64 0), (.int .i64 0), (.int .i64 0), (.int .i64 0), (.int .i64 0), (.int .i64 0), (.int .i64 0), (.int .i64 0), (.int .i64 0), (.int .i64 0), (.str []), (.sl none 0)] [(12, 1, (.t 42))]), (some 43), none⟩, ⟨.op (.bslice 14 1 [(.int .i64 0), (.int .i64 0), (.int .i64 0), (.int .i64 0), (.int .i64 0), (.int .i64 0), (.int .i64 0), (.int .i64 0), (.int .i64 0), (.int .i64 0), (.int .i64 0), (.int .i64 0), (.str []), (.sl none 0)] [(0, 14, (.t 43))]), (some 44), none⟩, ⟨.op (.mv (.t 44)), (some 4), none⟩, ⟨.op (.mv (.c (.bool true))), (some 5), none⟩])
 [4, 5]
 (.ret)))
 []
 (.exit 0))))
 [1, 2]
 (.seq (.seq (.reg [⟨.op (.ldn 6 (.t 2)), (some 45), none⟩, ⟨.op (.fa 0 (.t 2)), (some 46), none⟩, ⟨.op (.ld1 (.t 46)), (some 47), none⟩, ⟨.op (.bin .eql 0 (.t 47) (.c (.int .i64 6))), (some 48), none⟩, ⟨.op (.mv (.t 1)), (some 49), none⟩, ⟨.op (.bin .neq 5 (.t 48) (.t 49)), (some 50), none⟩, ⟨.op (.mv (.t 1)), (some 51), none⟩, ⟨.call 58 [(.t 45), (.t 50), (.t 51)], (some 52), none⟩, ⟨.op (.ext (.t 52) 0), (some 53), none⟩, ⟨.op (.ext (.t 52) 1), (some 54), none⟩, ⟨.op (.mv (.t 53)), (some 4), none⟩, ⟨.op (.mv (.t 54)), (some 5), none⟩])
 [4, 5]
 (.ret))
 []
 (.exit 0))))
 [1, 2]
 (.seq (.seq (.reg [⟨.op (.fa 5 (.t 2)), (some 55), none⟩, ⟨.op (.ld1 (.t 55)), (some 56), none⟩, ⟨.op (.len (.t 56)), (some 57), none⟩, ⟨.op (.bin .gtr 0 (.t 57) (.c (.int .i64 0))), (some 58), none⟩])
 [1, 2, 58]
 (.cond (.t 58) (.seq (.reg [⟨.op (.fa 5 (.t 2)), (some 59), none⟩, ⟨.op (.ld1 (.t 59)), (some 60), none⟩, ⟨.op (.ia 6 none (.t 60) (.c (.int .i64 0))), (some 61), none⟩, ⟨.op (.ldn 6 (.t 61)), (some 62), none⟩, ⟨.op (.mv (.t 1)), (some 63), none⟩, ⟨.op (.not (.t 63)), (some 64), none⟩, ⟨.call 25 [(.t 62), (.t 64)], (some 65), none⟩, ⟨.op (.ext (.t 65) 0), (some 66), none⟩, ⟨.op (.ext (.t 65) 1), (some 67), none⟩, ⟨.op (.mv (.t 66)), (some 4), none⟩, ⟨.op (.mv (.t 67)), (some 5), none⟩])
 [4, 5]
 (.ret)) (.skip)))
 []
 (.exit 0)))))
 []
 (.seq (.reg [⟨.op (.mv (.c (.sl none 0))), (some 4), none⟩, ⟨.op (.mv (.c (.bool false))), (some 5), none⟩])
 [4, 5]
 (.ret))),
 [.tmp 4, .tmp 5]⟩
theorem k44 : cFn Try.prog 44 = some c44.toE := by kernel_rfl
theorem w44 : c44.body.wf = true := by kernel_rfl
noncomputable def l58_0 : DC :=
 .seq (.reg [⟨.op (.bin .lss 0 (.t 12) (.c (.int .i64 2))), (some 13), none⟩])
 [1, 2, 3, 8, 12, 13]
 (.seq (.cond (.t 13) (.skip) (.exit 0))
 [1, 2, 3, 8, 12]
 (.seq (.block 1 (.seq (.reg [⟨.op (.mv (.t 12)), (some 14), none⟩, ⟨.op (.mv (.t 14)), (some 9), none⟩])
 [1, 2, 3, 8, 9, 12]
 (.seq (.seq (.reg [⟨.op (.mv (.t 9)), (some 15), none⟩, ⟨.op (.fa 5 (.t 3)), (some 16), none⟩, ⟨.op (.ld1 (.t 16)), (some 17), none⟩, ⟨.op (.len (.t 17)), (some 18), none⟩, ⟨.op (.bin .geq 0 (.t 15) (.t 18)), (some 19), none⟩])
 [1, 2, 3, 8, 9, 12, 19]
 (.cond (.t 19) (.seq (.reg [⟨.op (.mv (.c (.sl none 0))), (some 6), none⟩, ⟨.op (.mv (.c (.bool false))), (some 7), none⟩])
 [6, 7]
 (.ret)) (.skip)))
 [1, 2, 3, 8, 9, 12]
 (.seq (.reg [⟨.op (.fa 5 (.t 3)), (some 21), none⟩, ⟨.op (.ld1 (.t 21)), (some 22), none⟩, ⟨.op (.mv (.t 9)), (some 23), none⟩, ⟨.op (.ia 6 none (.t 22) (.t 23)), (some 24), none⟩, ⟨.op (.ldn 6 (.t 24)), (some 25), none⟩, ⟨.op (.mv (.t 2)), (some 26), none⟩, ⟨.call 25 [(.t 25), (.t 26)], (some 27), none⟩, ⟨.op (.mv (.t 27)), (some 20), none⟩, ⟨.op (.ext (.t 20) 0), (some 28), none⟩, ⟨.op (.ext (.t 20) 1), (some 29), none⟩, ⟨.op (.mv (.t 28)), (some 10), none⟩, ⟨.op (.mv (.t 29)), (some 11), none⟩])
 [1, 2, 3, 8, 9, 10, 11, 12]
 (.seq (.seq (.reg [⟨.op (.mv (.t 11)), (some 30), none⟩, ⟨.op (.not (.t 30)), (some 31), none⟩])
 [1, 2, 3, 8, 9, 10, 12, 31]
 (.cond (.t 31) (.seq (.reg [⟨.op (.mv (.c (.sl none 0))), (some 6), none⟩, ⟨.op (.mv (.c (.bool false))), (some 7), none⟩])
 [6, 7]
 (.ret)) (.skip)))
 [1, 2, 3, 8, 9, 10, 12]
 (.reg [⟨.op (.mv (.t 9)), (some 32), none⟩, ⟨.op (.mv (.t 10)), (some 33), none⟩, ⟨.op (.ia 1 (some 2) (.t 8) (.t 32)), (some 34), none⟩, ⟨.op (.st 1 (.t 34) (.t 33)), none, none⟩]))))))
 [1, 2, 3, 8, 12]
 (.reg [⟨.op (.bin .add 0 (.t 12) (.c (.int .i64 1))), (some 35), none⟩, ⟨.op (.mv (.t 35)), (some 12), none⟩])))
theorem u58_0 (call : DCall) (T : Tm) (st : Dv.St) : dCw Try.prog call l58_0 T st = dCw Try.prog call
 (.seq (.reg [⟨.op (.bin .lss 0 (.t 12) (.c (.int .i64 2))), (some 13), none⟩])
 [1, 2, 3, 8, 12, 13]
 (.seq (.cond (.t 13) (.skip) (.exit 0))
 [1, 2, 3, 8, 12]
 (.seq (.block 1 (.seq (.reg [⟨.op (.mv (.t 12)), (some 14), none⟩, ⟨.op (.mv (.t 14)), (some 9), none⟩])
 [1, 2, 3, 8, 9, 12]
 (.seq (.seq (.reg [⟨.op (.mv (.t 9)), (some 15), none⟩, ⟨.op (.fa 5 (.t 3)), (some 16), none⟩, ⟨.op (.ld1 (.t 16)), (some 17), none⟩, ⟨.op (.len (.t 17)), (some 18), none⟩, ⟨.op (.bin .geq 0 (.t 15) (.t 18)), (some 19), none⟩])
 [1, 2, 3, 8, 9, 12, 19]
 (.cond (.t 19) (.seq (.reg [⟨.op (.mv (.c (.sl none 0))), (some 6), none⟩, ⟨.op (.mv (.c (.bool false))), (some 7), none⟩])
 [6, 7]
 (.ret)) (.skip)))
 [1, 2, 3, 8, 9, 12]
 (.seq (.reg [⟨.op (.fa 5 (.t 3)), (some 21), none⟩, ⟨.op (.ld1 (.t 21)), (some 22), none⟩, ⟨.op (.mv (.t 9)), (some 23), none⟩, ⟨.op (.ia 6 none (.t 22) (.t 23)), (some 24), none⟩, ⟨.op (.ldn 6 (.t 24)), (some 25), none⟩, ⟨.op (.mv (.t 2)), (some 26), none⟩, ⟨.call 25 [(.t 25), (.t 26)], (some 27), none⟩, ⟨.op (.mv (.t 27)), (some 20), none⟩, ⟨.op (.ext (.t 20) 0), (some 28), none⟩, ⟨.op (.ext (.t 20) 1), (some 29), none⟩, ⟨.op (.mv (.t 28)), (some 10), none⟩, ⟨.op (.mv (.t 29)), (some 11), none⟩])
 [1, 2, 3, 8, 9, 10, 11, 12]
 (.seq (.seq (.reg [⟨.op (.mv (.t 11)), (some 30), none⟩, ⟨.op (.not (.t 30)), (some 31), none⟩])
 [1, 2, 3, 8, 9, 10, 12, 31]
 (.cond (.t 31) (.seq (.reg [⟨.op (.mv (.c (.sl none 0))), (some 6), none⟩, ⟨.op (.mv (.c (.bool false))), (some 7), none⟩])
 [6, 7]
 (.ret)) (.skip)))
 [1, 2, 3, 8, 9, 10, 12]
 (.reg [⟨.op (.mv (.t 9)), (some 32), none⟩, ⟨.op (.mv (.t 10)), (some 33), none⟩, ⟨.op (.ia 1 (some 2) (.t 8) (.t 32)), (some 34), none⟩, ⟨.op (.st 1 (.t 34) (.t 33)), none, none⟩]))))))
 [1, 2, 3, 8, 12]
 (.reg [⟨.op (.bin .add 0 (.t 12) (.c (.int .i64 1))), (some 35), none⟩, ⟨.op (.mv (.t 35)), (some 12), none⟩])))) T st := rfl
/-- cardamom/norm.two -/
noncomputable def c58 : DFn := ⟨48, .pure,
 .seq (.reg [⟨.op (.box (.t 0)), (some 3), none⟩, ⟨.op (.mv (.c (.sl none 0))), (some 6), none⟩, ⟨.op (.mv (.c (.bool false))), (some 7), none⟩])
 [1, 2, 3]
 (.seq (.reg [⟨.op (.new [(.sl none 0), (.sl none 0)]), (some 8), none⟩])
 [1, 2, 3, 8]
 (.seq (.seq (.reg [⟨.op (.mv (.c (.int .i64 0))), (some 12), none⟩])
 [1, 2, 3, 8, 12]
 (.block 0 (.loop [1, 2, 3, 8, 12] (l58_0))))
 [1, 8]
 (.seq (.seq (.reg [⟨.op (.mv (.t 1)), (some 36), none⟩])
 [8, 36]
 (.cond (.t 36) (.seq (.reg [⟨.op (.ia 1 (some 2) (.t 8) (.c (.int .i64 0))), (some 37), none⟩, ⟨.op (.ld1 (.t 37)), (some 38), none⟩, ⟨.op (.ia 1 (some 2) (.t 8) (.c (.int .i64 1))), (some 39), none⟩, ⟨.op (.ld1 (.t 39)), (some 40), none⟩, ⟨.op (.bslice 1 2 [(.sl none 0), (.sl none 0)] [(0, 1, (.t 38)), (1, 1, (.t 40))]), (some 41), none⟩, ⟨.call 76 [(.t 41)], (some 42), none⟩, ⟨.op (.mv (.t 42)), (some 6), none⟩, ⟨.op (.mv (.c (.bool true))), (some 7), none⟩])
 [6, 7]
 (.ret)) (.skip)))
 [8]
 (.seq (.reg [⟨.op (.ia 1 (some 2) (.t 8) (.c (.int .i64 0))), (some 43), none⟩, ⟨.op (.ld1 (.t 43)), (some 44), none⟩, ⟨.op (.ia 1 (some 2) (.t 8) (.c (.int .i64 1))), (some 45), none⟩, ⟨.op (.ld1 (.t 45)), (some 46), none⟩, ⟨.call 77 [(.t 44), (.t 46)], (some 47), none⟩, ⟨.op (.mv (.t 47)), (some 6), none⟩, ⟨.op (.mv (.c (.bool true))), (some 7), none⟩])
 [6, 7]
 (.ret))))),
 [.tmp 6, .tmp 7]⟩
theorem k58 : cFn Try.prog 58 = some c58.toE := by kernel_rfl
theorem w58 : c58.body.wf = true := by kernel_rfl
/-- cardamom/norm.apart -/
noncomputable def c56 : DFn := ⟨34, .pure,
 .seq (.reg [⟨.op (.box (.t 0)), (some 1), none⟩, ⟨.op (.mv (.c (.sl none 0))), (some 2), none⟩])
 [1, 2]
 (.seq (.reg [⟨.op (.mv (.t 2)), (some 3), none⟩, ⟨.op (.fa 1 (.t 1)), (some 4), none⟩, ⟨.op (.ld1 (.t 4)), (some 5), none⟩, ⟨.call 57 [(.t 5), (.c (.int .i64 2)), (.c (.int .i64 0)), (.c (.int .i64 0))], (some 6), none⟩, ⟨.op (.bslice 14 1 [(.int .i64 0), (.int .i64 0), (.int .i64 0), (.int .i64 0), (.int .i64 0), (.int .i64 0), (.int .i64 0), (.int .i64 0), (.int .i64 0), (.int .i64 0), (.int .i64 0), (.int .i64 0), (.str []), (.sl none 0)] [(0, 14, (.t 6))]), (some 7), none⟩, ⟨.op (.app 14 136 false (.t 3) (.t 7)), (some 8), none⟩, ⟨.op (.mv (.t 8)), (some 2), none⟩])
 [1, 2]
 (.seq (.seq (.reg [⟨.op (.fa 2 (.t 1)), (some 9), none⟩, ⟨.op (.ld1 (.t 9)), (some 10), none⟩, ⟨.op (.bin .gtr 0 (.t 10) (.c (.int .i64 0))), (some 11), none⟩])
 [1, 2, 11]
 (.cond (.t 11) (.reg [⟨.op (.mv (.t 2)), (some 12), none⟩, ⟨.op (.fa 1 (.t 1)), (some 13), none⟩, ⟨.op (.ld1 (.t 13)), (some 14), none⟩, ⟨.op (.fa 2 (.t 1)), (some 15), none⟩, ⟨.op (.ld1 (.t 15)), (some 16), none⟩, ⟨.op (.bin .sub 0 (.t 16) (.c (.int .i64 1))), (some 17), none⟩, ⟨.call 57 [(.t 14), (.c (.int .i64 1)), (.c (.int .i64 0)), (.t 17)], (some 18), none⟩, ⟨.op (.bslice 14 1 [(.int .i64 0), (.int .i64 0), (.int .i64 0), (.int .i64 0), (.int .i64 0), (.int .i64 0), (.int .i64 0), (.int .i64 0), (.int .i64 0), (.int .i64 0), (.int .i64 0), (.int .i64 0), (.str []), (.sl none 0)] [(0, 14, (.t 18))]), (some 19), none⟩, ⟨.op (.app 14 136 false (.t 12) (.t 19)), (some 20), none⟩, ⟨.op (.mv (.t 20)), (some 2), none⟩]) (.skip)))
 [1, 2]
 (.seq (.seq (.reg [⟨.op (.fa 3 (.t 1)), (some 21), none⟩, ⟨.op (.ld1 (.t 21)), (some 22), none⟩, ⟨.op (.bin .lss 0 (.t 22) (.c (.int .i64 99))), (some 23), none⟩])
 [1, 2, 23]
 (.cond (.t 23) (.reg [⟨.op (.mv (.t 2)), (some 24), none⟩, ⟨.op (.fa 1 (.t 1)), (some 25), none⟩, ⟨.op (.ld1 (.t 25)), (some 26), none⟩, ⟨.op (.fa 3 (.t 1)), (some 27), none⟩, ⟨.op (.ld1 (.t 27)), (some 28), none⟩, ⟨.op (.bin .add 0 (.t 28) (.c (.int .i64 1))), (some 29), none⟩, ⟨.call 57 [(.t 26), (.c (.int .i64 1)), (.t 29), (.c (.int .i64 99))], (some 30), none⟩, ⟨.op (.bslice 14 1 [(.int .i64 0), (.int .i64 0), (.int .i64 0), (.int .i64 0), (.int .i64 0), (.int .i64 0), (.int .i64 0), (.int .i64 0), (.int .i64 0), (.int .i64 0), (.int .i64 0), (.int .i64 0), (.str []), (.sl none 0)] [(0, 14, (.t 30))]), (some 31), none⟩, ⟨.op (.app 14 136 false (.t 24) (.t 31)), (some 32), none⟩, ⟨.op (.mv (.t 32)), (some 2), none⟩]) (.skip)))
 [2]
 (.seq (.reg [⟨.op (.mv (.t 2)), (some 33), none⟩, ⟨.op (.mv (.t 33)), (some 2), none⟩])
 [2]
 (.ret))))),
 [.tmp 2]⟩
theorem k56 : cFn Try.prog 56 = some c56.toE := by kernel_rfl
theorem w56 : c56.body.wf = true := by kernel_rfl
noncomputable def l77_0 : DC :=
 .seq (.reg [⟨.op (.bin .lss 0 (.t 19) (.t 18)), (some 20), none⟩])
 [1, 4, 6, 11, 12, 13, 17, 18, 19, 20]
 (.seq (.cond (.t 20) (.skip) (.exit 2))
 [1, 4, 6, 11, 12, 13, 17, 18, 19]
 (.seq (.block 3 (.seq (.reg [⟨.op (.ia 14 none (.t 17) (.t 19)), (some 21), none⟩, ⟨.op (.ldn 14 (.t 21)), (some 22), none⟩, ⟨.op (.new [(.int .i64 0), (.int .i64 0), (.int .i64 0), (.int .i64 0), (.int .i64 0), (.int .i64 0), (.int .i64 0), (.int .i64 0), (.int .i64 0), (.int .i64 0), (.int .i64 0), (.int .i64 0), (.str []), (.sl none 0)]), (some 8), none⟩, ⟨.op (.st 14 (.t 8) (.t 22)), none, none⟩])
 [1, 4, 6, 8, 11, 12, 13, 17, 18, 19]
 (.seq (.reg [⟨.op (.ldn 14 (.t 6)), (some 24), none⟩, ⟨.op (.ldn 14 (.t 8)), (some 25), none⟩, ⟨.call 19 [(.t 24), (.t 25)], (some 26), none⟩, ⟨.op (.mv (.t 26)), (some 23), none⟩, ⟨.op (.ext (.t 23) 0), (some 27), none⟩, ⟨.op (.ext (.t 23) 1), (some 28), none⟩, ⟨.op (.new [(.int .i64 0), (.int .i64 0), (.int .i64 0), (.int .i64 0), (.int .i64 0), (.int .i64 0), (.int .i64 0), (.int .i64 0), (.int .i64 0), (.int .i64 0), (.int .i64 0), (.int .i64 0), (.str []), (.sl none 0)]), (some 9), none⟩, ⟨.op (.st 14 (.t 9) (.t 27)), none, none⟩, ⟨.op (.mv (.t 28)), (some 10), none⟩])
 [1, 4, 6, 9, 10, 11, 12, 13, 17, 18, 19]
 (.seq (.reg [⟨.op (.mv (.t 10)), (some 29), none⟩])
 [1, 4, 6, 9, 11, 12, 13, 17, 18, 19, 29]
 (.cond (.t 29) (.reg [⟨.op (.mv (.t 4)), (some 30), none⟩, ⟨.op (.ldn 14 (.t 9)), (some 31), none⟩, ⟨.op (.bslice 14 1 [(.int .i64 0), (.int .i64 0), (.int .i64 0), (.int .i64 0), (.int .i64 0), (.int .i64 0), (.int .i64 0), (.int .i64 0), (.int .i64 0), (.int .i64 0), (.int .i64 0), (.int .i64 0), (.str []), (.sl none 0)] [(0, 14, (.t 31))]), (some 32), none⟩, ⟨.op (.app 14 136 false (.t 30) (.t 32)), (some 33), none⟩, ⟨.op (.mv (.t 33)), (some 4), none⟩]) (.skip))))))
 [1, 4, 6, 11, 12, 13, 17, 18, 19]
 (.reg [⟨.op (.bin .add 0 (.t 19) (.c (.int .i64 1))), (some 34), none⟩, ⟨.op (.mv (.t 34)), (some 19), none⟩])))
theorem u77_0 (call : DCall) (T : Tm) (st : Dv.St) : dCw Try.prog call l77_0 T st = dCw Try.prog call
 (.seq (.reg [⟨.op (.bin .lss 0 (.t 19) (.t 18)), (some 20), none⟩])
 [1, 4, 6, 11, 12, 13, 17, 18, 19, 20]
 (.seq (.cond (.t 20) (.skip) (.exit 2))
 [1, 4, 6, 11, 12, 13, 17, 18, 19]
 (.seq (.block 3 (.seq (.reg [⟨.op (.ia 14 none (.t 17) (.t 19)), (some 21), none⟩, ⟨.op (.ldn 14 (.t 21)), (some 22), none⟩, ⟨.op (.new [(.int .i64 0), (.int .i64 0), (.int .i64 0), (.int .i64 0), (.int .i64 0), (.int .i64 0), (.int .i64 0), (.int .i64 0), (.int .i64 0), (.int .i64 0), (.int .i64 0), (.int .i64 0), (.str []), (.sl none 0)]), (some 8), none⟩, ⟨.op (.st 14 (.t 8) (.t 22)), none, none⟩])
 [1, 4, 6, 8, 11, 12, 13, 17, 18, 19]
 (.seq (.reg [⟨.op (.ldn 14 (.t 6)), (some 24), none⟩, ⟨.op (.ldn 14 (.t 8)), (some 25), none⟩, ⟨.call 19 [(.t 24), (.t 25)], (some 26), none⟩, ⟨.op (.mv (.t 26)), (some 23), none⟩, ⟨.op (.ext (.t 23) 0), (some 27), none⟩, ⟨.op (.ext (.t 23) 1), (some 28), none⟩, ⟨.op (.new [(.int .i64 0), (.int .i64 0), (.int .i64 0), (.int .i64 0), (.int .i64 0), (.int .i64 0), (.int .i64 0), (.int .i64 0), (.int .i64 0), (.int .i64 0), (.int .i64 0), (.int .i64 0), (.str []), (.sl none 0)]), (some 9), none⟩, ⟨.op (.st 14 (.t 9) (.t 27)), none, none⟩, ⟨.op (.mv (.t 28)), (some 10), none⟩])
 [1, 4, 6, 9, 10, 11, 12, 13, 17, 18, 19]
 (.seq (.reg [⟨.op (.mv (.t 10)), (some 29), none⟩])
 [1, 4, 6, 9, 11, 12, 13, 17, 18, 19, 29]
 (.cond (.t 29) (.reg [⟨.op (.mv (.t 4)), (some 30), none⟩, ⟨.op (.ldn 14 (.t 9)), (some 31), none⟩, ⟨.op (.bslice 14 1 [(.int .i64 0), (.int .i64 0), (.int .i64 0), (.int .i64 0), (.int .i64 0), (.int .i64 0), (.int .i64 0), (.int .i64 0), (.int .i64 0), (.int .i64 0), (.int .i64 0), (.int .i64 0), (.str []), (.sl none 0)] [(0, 14, (.t 31))]), (some 32), none⟩, ⟨.op (.app 14 136 false (.t 30) (.t 32)), (some 33), none⟩, ⟨.op (.mv (.t 33)), (some 4), none⟩]) (.skip))))))
 [1, 4, 6, 11, 12, 13, 17, 18, 19]
 (.reg [⟨.op (.bin .add 0 (.t 19) (.c (.int .i64 1))), (some 34), none⟩, ⟨.op (.mv (.t 34)), (some 19), none⟩])))) T st := rfl
noncomputable def l77_1 : DC :=
 .seq (.reg [⟨.op (.bin .lss 0 (.t 13) (.t 12)), (some 14), none⟩])
 [1, 4, 11, 12, 13, 14]
 (.seq (.cond (.t 14) (.skip) (.exit 0))
 [1, 4, 11, 12, 13]
 (.seq (.block 1 (.seq (.reg [⟨.op (.ia 14 none (.t 11) (.t 13)), (some 15), none⟩, ⟨.op (.ldn 14 (.t 15)), (some 16), none⟩, ⟨.op (.new [(.int .i64 0), (.int .i64 0), (.int .i64 0), (.int .i64 0), (.int .i64 0), (.int .i64 0), (.int .i64 0), (.int .i64 0), (.int .i64 0), (.int .i64 0), (.int .i64 0), (.int .i64 0), (.str []), (.sl none 0)]), (some 6), none⟩, ⟨.op (.st 14 (.t 6) (.t 16)), none, none⟩])
 [1, 4, 6, 11, 12, 13]
 (.seq (.reg [⟨.op (.mv (.t 1)), (some 17), none⟩, ⟨.op (.len (.t 17)), (some 18), none⟩, ⟨.op (.mv (.c (.int .i64 0))), (some 19), none⟩])
 [1, 4, 6, 11, 12, 13, 17, 18, 19]
 (.block 2 (.loop [1, 4, 6, 11, 12, 13, 17, 18, 19] (l77_0))))))
 [1, 4, 11, 12, 13]
 (.reg [⟨.op (.bin .add 0 (.t 13) (.c (.int .i64 1))), (some 35), none⟩, ⟨.op (.mv (.t 35)), (some 13), none⟩])))
theorem u77_1 (call : DCall) (T : Tm) (st : Dv.St) : dCw Try.prog call l77_1 T st = dCw Try.prog call
 (.seq (.reg [⟨.op (.bin .lss 0 (.t 13) (.t 12)), (some 14), none⟩])
 [1, 4, 11, 12, 13, 14]
 (.seq (.cond (.t 14) (.skip) (.exit 0))
 [1, 4, 11, 12, 13]
 (.seq (.block 1 (.seq (.reg [⟨.op (.ia 14 none (.t 11) (.t 13)), (some 15), none⟩, ⟨.op (.ldn 14 (.t 15)), (some 16), none⟩, ⟨.op (.new [(.int .i64 0), (.int .i64 0), (.int .i64 0), (.int .i64 0), (.int .i64 0), (.int .i64 0), (.int .i64 0), (.int .i64 0), (.int .i64 0), (.int .i64 0), (.int .i64 0), (.int .i64 0), (.str []), (.sl none 0)]), (some 6), none⟩, ⟨.op (.st 14 (.t 6) (.t 16)), none, none⟩])
 [1, 4, 6, 11, 12, 13]
 (.seq (.reg [⟨.op (.mv (.t 1)), (some 17), none⟩, ⟨.op (.len (.t 17)), (some 18), none⟩, ⟨.op (.mv (.c (.int .i64 0))), (some 19), none⟩])
 [1, 4, 6, 11, 12, 13, 17, 18, 19]
 (.block 2 (.loop [1, 4, 6, 11, 12, 13, 17, 18, 19] (l77_0))))))
 [1, 4, 11, 12, 13]
 (.reg [⟨.op (.bin .add 0 (.t 13) (.c (.int .i64 1))), (some 35), none⟩, ⟨.op (.mv (.t 35)), (some 13), none⟩])))) T st := rfl
/-- cardamom/norm.meets -/
noncomputable def c77 : DFn := ⟨37, .pure,
 .seq (.reg [⟨.op (.mv (.c (.sl none 0))), (some 4), none⟩])
 [0, 1, 4]
 (.seq (.seq (.reg [⟨.op (.mv (.t 0)), (some 11), none⟩, ⟨.op (.len (.t 11)), (some 12), none⟩, ⟨.op (.mv (.c (.int .i64 0))), (some 13), none⟩])
 [1, 4, 11, 12, 13]
 (.block 0 (.loop [1, 4, 11, 12, 13] (l77_1))))
 [4]
 (.seq (.reg [⟨.op (.mv (.t 4)), (some 36), none⟩, ⟨.op (.mv (.t 36)), (some 4), none⟩])
 [4]
 (.ret))),
 [.tmp 4]⟩
theorem k77 : cFn Try.prog 77 = some c77.toE := by kernel_rfl
theorem w77 : c77.body.wf = true := by kernel_rfl
noncomputable def l19_0 : DC :=
 .seq (.reg [⟨.op (.bin .lss 0 (.t 8) (.c (.int .i64 4))), (some 9), none⟩])
 [2, 3, 4, 8, 9]
 (.seq (.cond (.t 9) (.skip) (.exit 0))
 [2, 3, 4, 8]
 (.seq (.block 1 (.seq (.reg [⟨.op (.mv (.t 8)), (some 10), none⟩, ⟨.op (.mv (.t 10)), (some 6), none⟩])
 [2, 3, 4, 6, 8]
 (.seq (.drw [⟨⟨.op (.mv (.t 6)), (some 12), none⟩, .n, []⟩, ⟨⟨.op (.mv (.t 6)), (some 13), none⟩, .n, []⟩, ⟨⟨.op (.fa 0 (.t 2)), (some 14), none⟩, .n, []⟩, ⟨⟨.op (.ia 3 (some 4) (.t 14) (.t 13)), (some 15), none⟩, .n, []⟩, ⟨⟨.op (.ldn 3 (.t 15)), (some 16), none⟩, .n, []⟩, ⟨⟨.op (.mv (.t 6)), (some 17), none⟩, .n, []⟩, ⟨⟨.op (.fa 0 (.t 3)), (some 18), none⟩, .n, []⟩, ⟨⟨.op (.ia 3 (some 4) (.t 18) (.t 17)), (some 19), none⟩, .n, []⟩, ⟨⟨.op (.ldn 3 (.t 19)), (some 20), none⟩, .n, []⟩, ⟨⟨.op (.fa 0 (.t 4)), (some 24), none⟩, .n, []⟩, ⟨⟨.call 35 [(.t 16), (.t 20)], (some 21), none⟩, .x, []⟩, ⟨⟨.op (.mv (.t 21)), (some 11), none⟩, .n, []⟩, ⟨⟨.op (.ext (.t 11) 0), (some 22), none⟩, .n, []⟩, ⟨⟨.op (.ext (.t 11) 1), (some 23), none⟩, .n, []⟩, ⟨⟨.op (.ia 3 (some 4) (.t 24) (.t 12)), (some 25), none⟩, .n, []⟩, ⟨⟨.op (.st 3 (.t 25) (.t 22)), none, none⟩, .x, []⟩, ⟨⟨.op (.mv (.t 23)), (some 5), none⟩, .x, []⟩])
 [2, 3, 4, 5, 8]
 (.seq (.reg [⟨.op (.mv (.t 5)), (some 26), none⟩, ⟨.op (.not (.t 26)), (some 27), none⟩])
 [2, 3, 4, 8, 27]
 (.cond (.t 27) (.seq (.reg [⟨.op (.build [(.int .i64 0), (.int .i64 0), (.int .i64 0), (.int .i64 0), (.int .i64 0), (.int .i64 0), (.int .i64 0), (.int .i64 0), (.int .i64 0), (.int .i64 0), (.int .i64 0), (.int .i64 0), (.str []), (.sl none 0)] []), (some 28), none⟩, ⟨.op (.st 14 (.t 4) (.t 28)), none, none⟩, ⟨.op (.mv (.c (.bool false))), (some 5), none⟩])
 [4, 5]
 (.ret)) (.skip))))))
 [2, 3, 4, 8]
 (.reg [⟨.op (.bin .add 0 (.t 8) (.c (.int .i64 1))), (some 29), none⟩, ⟨.op (.mv (.t 29)), (some 8), none⟩])))
theorem u19_0 (call : DCall) (T : Tm) (st : Dv.St) : dCw Try.prog call l19_0 T st = dCw Try.prog call
 (.seq (.reg [⟨.op (.bin .lss 0 (.t 8) (.c (.int .i64 4))), (some 9), none⟩])
 [2, 3, 4, 8, 9]
 (.seq (.cond (.t 9) (.skip) (.exit 0))
 [2, 3, 4, 8]
 (.seq (.block 1 (.seq (.reg [⟨.op (.mv (.t 8)), (some 10), none⟩, ⟨.op (.mv (.t 10)), (some 6), none⟩])
 [2, 3, 4, 6, 8]
 (.seq (.drw [⟨⟨.op (.mv (.t 6)), (some 12), none⟩, .n, []⟩, ⟨⟨.op (.mv (.t 6)), (some 13), none⟩, .n, []⟩, ⟨⟨.op (.fa 0 (.t 2)), (some 14), none⟩, .n, []⟩, ⟨⟨.op (.ia 3 (some 4) (.t 14) (.t 13)), (some 15), none⟩, .n, []⟩, ⟨⟨.op (.ldn 3 (.t 15)), (some 16), none⟩, .n, []⟩, ⟨⟨.op (.mv (.t 6)), (some 17), none⟩, .n, []⟩, ⟨⟨.op (.fa 0 (.t 3)), (some 18), none⟩, .n, []⟩, ⟨⟨.op (.ia 3 (some 4) (.t 18) (.t 17)), (some 19), none⟩, .n, []⟩, ⟨⟨.op (.ldn 3 (.t 19)), (some 20), none⟩, .n, []⟩, ⟨⟨.op (.fa 0 (.t 4)), (some 24), none⟩, .n, []⟩, ⟨⟨.call 35 [(.t 16), (.t 20)], (some 21), none⟩, .x, []⟩, ⟨⟨.op (.mv (.t 21)), (some 11), none⟩, .n, []⟩, ⟨⟨.op (.ext (.t 11) 0), (some 22), none⟩, .n, []⟩, ⟨⟨.op (.ext (.t 11) 1), (some 23), none⟩, .n, []⟩, ⟨⟨.op (.ia 3 (some 4) (.t 24) (.t 12)), (some 25), none⟩, .n, []⟩, ⟨⟨.op (.st 3 (.t 25) (.t 22)), none, none⟩, .x, []⟩, ⟨⟨.op (.mv (.t 23)), (some 5), none⟩, .x, []⟩])
 [2, 3, 4, 5, 8]
 (.seq (.reg [⟨.op (.mv (.t 5)), (some 26), none⟩, ⟨.op (.not (.t 26)), (some 27), none⟩])
 [2, 3, 4, 8, 27]
 (.cond (.t 27) (.seq (.reg [⟨.op (.build [(.int .i64 0), (.int .i64 0), (.int .i64 0), (.int .i64 0), (.int .i64 0), (.int .i64 0), (.int .i64 0), (.int .i64 0), (.int .i64 0), (.int .i64 0), (.int .i64 0), (.int .i64 0), (.str []), (.sl none 0)] []), (some 28), none⟩, ⟨.op (.st 14 (.t 4) (.t 28)), none, none⟩, ⟨.op (.mv (.c (.bool false))), (some 5), none⟩])
 [4, 5]
 (.ret)) (.skip))))))
 [2, 3, 4, 8]
 (.reg [⟨.op (.bin .add 0 (.t 8) (.c (.int .i64 1))), (some 29), none⟩, ⟨.op (.mv (.t 29)), (some 8), none⟩])))) T st := rfl
/-- cardamom/norm.Meet -/
noncomputable def c19 : DFn := ⟨68, .pure,
 .seq (.reg [⟨.op (.box (.t 0)), (some 2), none⟩, ⟨.op (.box (.t 1)), (some 3), none⟩, ⟨.op (.new [(.int .i64 0), (.int .i64 0), (.int .i64 0), (.int .i64 0), (.int .i64 0), (.int .i64 0), (.int .i64 0), (.int .i64 0), (.int .i64 0), (.int .i64 0), (.int .i64 0), (.int .i64 0), (.str []), (.sl none 0)]), (some 4), none⟩, ⟨.op (.mv (.c (.bool false))), (some 5), none⟩])
 [2, 3, 4]
 (.seq (.seq (.reg [⟨.op (.mv (.c (.int .i64 0))), (some 8), none⟩])
 [2, 3, 4, 8]
 (.block 0 (.loop [2, 3, 4, 8] (l19_0))))
 [2, 3, 4]
 (.seq (.seq (.reg [⟨.op (.fa 12 (.t 2)), (some 30), none⟩, ⟨.op (.ld1 (.t 30)), (some 31), none⟩, ⟨.op (.lenstr (.t 31)), (some 32), none⟩, ⟨.op (.fa 12 (.t 3)), (some 33), none⟩, ⟨.op (.ld1 (.t 33)), (some 34), none⟩, ⟨.op (.lenstr (.t 34)), (some 35), none⟩, ⟨.op (.bin .lss 0 (.t 32) (.t 35)), (some 36), none⟩])
 [2, 3, 4, 36]
 (.cond (.t 36) (.reg [⟨.op (.ldn 14 (.t 3)), (some 37), none⟩, ⟨.op (.ldn 14 (.t 2)), (some 38), none⟩, ⟨.op (.st 14 (.t 2) (.t 37)), none, none⟩, ⟨.op (.st 14 (.t 3) (.t 38)), none, none⟩]) (.skip)))
 [2, 3, 4]
 (.seq (.reg [⟨.op (.fa 13 (.t 2)), (some 39), none⟩, ⟨.op (.ld1 (.t 39)), (some 40), none⟩, ⟨.op (.fa 13 (.t 3)), (some 41), none⟩, ⟨.op (.ld1 (.t 41)), (some 42), none⟩, ⟨.op (.bslice 1 2 [(.sl none 0), (.sl none 0)] [(0, 1, (.t 40)), (1, 1, (.t 42))]), (some 43), none⟩, ⟨.call 36 [(.t 43)], (some 44), none⟩, ⟨.op (.mv (.t 44)), (some 7), none⟩])
 [2, 3, 4, 7]
 (.seq (.srt [⟨.op (.mv (.t 7)), (some 45), none⟩] 37 45 (some 46) [])
 [2, 3, 4, 7]
 (.seq (.drw [⟨⟨.op (.fa 12 (.t 2)), (some 47), none⟩, .n, []⟩, ⟨⟨.op (.ld1 (.t 47)), (some 48), none⟩, .n, []⟩, ⟨⟨.op (.mv (.t 7)), (some 49), none⟩, .n, []⟩, ⟨⟨.op (.fa 12 (.t 4)), (some 51), none⟩, .n, []⟩, ⟨⟨.call 38 [(.t 49)], (some 50), none⟩, .x, [(true, 1)]⟩, ⟨⟨.op (.st 1 (.t 51) (.t 48)), none, none⟩, .x, []⟩, ⟨⟨.op (.fa 13 (.t 4)), (some 52), none⟩, .n, []⟩, ⟨⟨.op (.st 1 (.t 52) (.t 50)), none, none⟩, .x, []⟩])
 [2, 3, 4]
 (.seq (.seq (.reg [⟨.op (.fa 12 (.t 2)), (some 53), none⟩, ⟨.op (.ld1 (.t 53)), (some 54), none⟩, ⟨.op (.fa 12 (.t 3)), (some 55), none⟩, ⟨.op (.ld1 (.t 55)), (some 56), none⟩, ⟨.call 31 [(.t 54), (.t 56)], (some 57), none⟩, ⟨.op (.not (.t 57)), (some 58), none⟩, ⟨.op (.mv (.t 58)), (some 59), none⟩, ⟨.op (.fa 12 (.t 4)), (some 60), (some (59, false))⟩, ⟨.op (.ld1 (.t 60)), (some 61), (some (59, false))⟩, ⟨.op (.fa 13 (.t 4)), (some 62), (some (59, false))⟩, ⟨.op (.ld1 (.t 62)), (some 63), (some (59, false))⟩, ⟨.call 32 [(.t 61), (.t 63)], (some 64), (some (59, false))⟩, ⟨.op (.pick (.t 59) (.c (.bool true)) (.t 64)), (some 65), none⟩])
 [4, 65]
 (.cond (.t 65) (.seq (.reg [⟨.op (.build [(.int .i64 0), (.int .i64 0), (.int .i64 0), (.int .i64 0), (.int .i64 0), (.int .i64 0), (.int .i64 0), (.int .i64 0), (.int .i64 0), (.int .i64 0), (.int .i64 0), (.int .i64 0), (.str []), (.sl none 0)] []), (some 66), none⟩, ⟨.op (.st 14 (.t 4) (.t 66)), none, none⟩, ⟨.op (.mv (.c (.bool false))), (some 5), none⟩])
 [4, 5]
 (.ret)) (.skip)))
 [4]
 (.seq (.reg [⟨.op (.ldn 14 (.t 4)), (some 67), none⟩, ⟨.op (.st 14 (.t 4) (.t 67)), none, none⟩, ⟨.op (.mv (.c (.bool true))), (some 5), none⟩])
 [4, 5]
 (.ret)))))))),
 [.celln 14 4, .tmp 5]⟩
theorem k19 : cFn Try.prog 19 = some c19.toE := by kernel_rfl
theorem w19 : c19.body.wf = true := by kernel_rfl
/-- cardamom/norm.key -/
noncomputable def c57 : DFn := ⟨23, .pure,
 .seq (.reg [⟨.op (.new [(.int .i64 0), (.int .i64 0), (.int .i64 0), (.int .i64 0), (.int .i64 0), (.int .i64 0), (.int .i64 0), (.int .i64 0), (.int .i64 0), (.int .i64 0), (.int .i64 0), (.int .i64 0), (.str []), (.sl none 0)]), (some 8), none⟩])
 [0, 1, 2, 3, 8]
 (.seq (.seq (.reg [⟨.op (.mv (.t 0)), (some 9), none⟩, ⟨.op (.bin .geq 0 (.t 9) (.c (.int .i64 0))), (some 10), none⟩, ⟨.op (.mv (.t 10)), (some 11), none⟩, ⟨.op (.mv (.t 0)), (some 12), (some (11, true))⟩, ⟨.op (.bin .lss 0 (.t 12) (.c (.int .i64 4))), (some 13), (some (11, true))⟩, ⟨.op (.pick (.t 11) (.t 13) (.c (.bool false))), (some 14), none⟩])
 [0, 1, 2, 3, 8, 14]
 (.cond (.t 14) (.reg [⟨.op (.mv (.t 0)), (some 15), none⟩, ⟨.op (.mv (.t 1)), (some 16), none⟩, ⟨.op (.mv (.t 2)), (some 17), none⟩, ⟨.op (.mv (.t 3)), (some 18), none⟩, ⟨.op (.build [(.int .i64 0), (.int .i64 0), (.int .i64 0)] [(0, 1, (.t 16)), (1, 1, (.t 17)), (2, 1, (.t 18))]), (some 19), none⟩, ⟨.op (.fa 0 (.t 8)), (some 20), none⟩, ⟨.op (.ia 3 (some 4) (.t 20) (.t 15)), (some 21), none⟩, ⟨.op (.st 3 (.t 21) (.t 19)), none, none⟩]) (.skip)))
 [8]
 (.seq (.reg [⟨.op (.ldn 14 (.t 8)), (some 22), none⟩, ⟨.op (.st 14 (.t 8) (.t 22)), none, none⟩])
 [8]
 (.ret))),
 [.celln 14 8]⟩
theorem k57 : cFn Try.prog 57 = some c57.toE := by kernel_rfl
theorem w57 : c57.body.wf = true := by kernel_rfl
/-- cardamom/norm.side -/
noncomputable def c35 : DFn := ⟨45, .pure,
 .seq (.reg [⟨.op (.box (.t 0)), (some 2), none⟩, ⟨.op (.box (.t 1)), (some 3), none⟩, ⟨.op (.new [(.int .i64 0), (.int .i64 0), (.int .i64 0)]), (some 4), none⟩, ⟨.op (.mv (.c (.bool false))), (some 5), none⟩])
 [2, 3, 4]
 (.seq (.block 0 (.seq (.reg [⟨.op (.fa 0 (.t 2)), (some 7), none⟩, ⟨.op (.ld1 (.t 7)), (some 8), none⟩, ⟨.op (.bin .eql 0 (.t 8) (.c (.int .i64 0))), (some 9), none⟩, ⟨.op (.mv (.t 9)), (some 6), none⟩])
 [2, 3, 4, 6]
 (.cond (.t 6) (.seq (.reg [⟨.op (.ldn 3 (.t 3)), (some 10), none⟩, ⟨.op (.st 3 (.t 4) (.t 10)), none, none⟩, ⟨.op (.mv (.c (.bool true))), (some 5), none⟩])
 [4, 5]
 (.ret)) (.seq (.reg [⟨.op (.fa 0 (.t 3)), (some 12), none⟩, ⟨.op (.ld1 (.t 12)), (some 13), none⟩, ⟨.op (.bin .eql 0 (.t 13) (.c (.int .i64 0))), (some 14), none⟩, ⟨.op (.mv (.t 14)), (some 11), none⟩])
 [2, 3, 4, 11]
 (.cond (.t 11) (.seq (.reg [⟨.op (.ldn 3 (.t 2)), (some 15), none⟩, ⟨.op (.st 3 (.t 4) (.t 15)), none, none⟩, ⟨.op (.mv (.c (.bool true))), (some 5), none⟩])
 [4, 5]
 (.ret)) (.seq (.reg [⟨.op (.fa 0 (.t 2)), (some 17), none⟩, ⟨.op (.ld1 (.t 17)), (some 18), none⟩, ⟨.op (.fa 0 (.t 3)), (some 19), none⟩, ⟨.op (.ld1 (.t 19)), (some 20), none⟩, ⟨.op (.bin .neq 0 (.t 18) (.t 20)), (some 21), none⟩, ⟨.op (.mv (.t 21)), (some 16), none⟩])
 [2, 3, 4, 16]
 (.cond (.t 16) (.seq (.reg [⟨.op (.build [(.int .i64 0), (.int .i64 0), (.int .i64 0)] []), (some 22), none⟩, ⟨.op (.st 3 (.t 4) (.t 22)), none, none⟩, ⟨.op (.mv (.c (.bool false))), (some 5), none⟩])
 [4, 5]
 (.ret)) (.seq (.reg [⟨.op (.fa 0 (.t 2)), (some 24), none⟩, ⟨.op (.ld1 (.t 24)), (some 25), none⟩, ⟨.op (.bin .eql 0 (.t 25) (.c (.int .i64 1))), (some 26), none⟩, ⟨.op (.mv (.t 26)), (some 23), none⟩])
 [2, 3, 4, 23]
 (.cond (.t 23) (.drw [⟨⟨.op (.fa 1 (.t 2)), (some 27), none⟩, .n, []⟩, ⟨⟨.op (.ld1 (.t 27)), (some 28), none⟩, .n, []⟩, ⟨⟨.op (.fa 1 (.t 3)), (some 29), none⟩, .n, []⟩, ⟨⟨.op (.ld1 (.t 29)), (some 30), none⟩, .n, []⟩, ⟨⟨.op (.slow (operAt Try.prog 35 35)), (some 31), none⟩, .n, []⟩, ⟨⟨.op (.fa 2 (.t 2)), (some 32), none⟩, .n, []⟩, ⟨⟨.op (.ld1 (.t 32)), (some 33), none⟩, .n, []⟩, ⟨⟨.op (.fa 2 (.t 3)), (some 34), none⟩, .n, []⟩, ⟨⟨.op (.ld1 (.t 34)), (some 35), none⟩, .n, []⟩, ⟨⟨.op (.slow (operAt Try.prog 35 40)), (some 36), none⟩, .n, []⟩, ⟨⟨.op (.fa 1 (.t 2)), (some 37), none⟩, .n, []⟩, ⟨⟨.op (.st 1 (.t 37) (.t 31)), none, none⟩, .x, [(true, 8)]⟩, ⟨⟨.op (.fa 2 (.t 2)), (some 38), none⟩, .n, []⟩, ⟨⟨.op (.st 1 (.t 38) (.t 36)), none, none⟩, .x, []⟩]) (.skip))))))))))
 [2, 4]
 (.seq (.drw [⟨⟨.op (.ldn 3 (.t 2)), (some 39), none⟩, .n, []⟩, ⟨⟨.op (.fa 1 (.t 2)), (some 40), none⟩, .n, []⟩, ⟨⟨.op (.ld1 (.t 40)), (some 41), none⟩, .n, []⟩, ⟨⟨.op (.fa 2 (.t 2)), (some 42), none⟩, .n, []⟩, ⟨⟨.op (.ld1 (.t 42)), (some 43), none⟩, .n, []⟩, ⟨⟨.op (.bin .leq 0 (.t 41) (.t 43)), (some 44), none⟩, .n, []⟩, ⟨⟨.op (.st 3 (.t 4) (.t 39)), none, none⟩, .x, [(true, 4), (true, 2)]⟩, ⟨⟨.op (.mv (.t 44)), (some 5), none⟩, .x, []⟩])
 [4, 5]
 (.ret))),
 [.celln 3 4, .tmp 5]⟩
theorem k35 : cFn Try.prog 35 = some c35.toE := by kernel_rfl
theorem w35 : c35.body.wf = true := by kernel_rfl
/-- cardamom/norm.lets -/
noncomputable def c30 : DFn := ⟨36, .pure,
 .seq (.reg [⟨.op (.box (.t 0)), (some 3), none⟩, ⟨.op (.box (.t 1)), (some 4), none⟩, ⟨.op (.mv (.c (.bool false))), (some 6), none⟩])
 [2, 3, 4]
 (.seq (.reg [⟨.op (.ldn 8 (.t 4)), (some 10), none⟩, ⟨.op (.mv (.t 2)), (some 11), none⟩, ⟨.call 46 [(.t 10), (.t 11)], (some 12), none⟩, ⟨.op (.mv (.t 12)), (some 9), none⟩, ⟨.op (.ext (.t 9) 0), (some 13), none⟩, ⟨.op (.ext (.t 9) 1), (some 14), none⟩, ⟨.op (.mv (.t 13)), (some 7), none⟩, ⟨.op (.mv (.t 14)), (some 8), none⟩])
 [3, 7, 8]
 (.seq (.seq (.reg [⟨.op (.fa 0 (.t 3)), (some 15), none⟩, ⟨.op (.ld1 (.t 15)), (some 16), none⟩])
 [3, 7, 8, 16]
 (.block 0 (.seq (.reg [⟨.op (.bin .eql 0 (.t 16) (.c (.int .i64 1))), (some 18), none⟩, ⟨.op (.mv (.t 18)), (some 17), none⟩])
 [3, 7, 8, 16, 17]
 (.cond (.t 17) (.seq (.reg [⟨.op (.mv (.t 8)), (some 19), none⟩, ⟨.op (.mv (.t 19)), (some 20), none⟩, ⟨.op (.mv (.t 7)), (some 21), (some (20, true))⟩, ⟨.op (.fa 1 (.t 3)), (some 22), (some (20, true))⟩, ⟨.op (.ld1 (.t 22)), (some 23), (some (20, true))⟩, ⟨.op (.bin .geq 0 (.t 21) (.t 23)), (some 24), (some (20, true))⟩, ⟨.op (.pick (.t 20) (.t 24) (.c (.bool false))), (some 25), none⟩, ⟨.op (.mv (.t 25)), (some 26), none⟩, ⟨.op (.mv (.t 7)), (some 27), (some (26, true))⟩, ⟨.op (.fa 2 (.t 3)), (some 28), (some (26, true))⟩, ⟨.op (.ld1 (.t 28)), (some 29), (some (26, true))⟩, ⟨.op (.bin .leq 0 (.t 27) (.t 29)), (some 30), (some (26, true))⟩, ⟨.op (.pick (.t 26) (.t 30) (.c (.bool false))), (some 31), none⟩, ⟨.op (.mv (.t 31)), (some 6), none⟩])
 [6]
 (.ret)) (.seq (.reg [⟨.op (.bin .eql 0 (.t 16) (.c (.int .i64 2))), (some 33), none⟩, ⟨.op (.mv (.t 33)), (some 32), none⟩])
 [8, 32]
 (.cond (.t 32) (.seq (.reg [⟨.op (.mv (.t 8)), (some 34), none⟩, ⟨.op (.not (.t 34)), (some 35), none⟩, ⟨.op (.mv (.t 35)), (some 6), none⟩])
 [6]
 (.ret)) (.skip)))))))
 []
 (.seq (.reg [⟨.op (.mv (.c (.bool true))), (some 6), none⟩])
 [6]
 (.ret)))),
 [.tmp 6]⟩
theorem k30 : cFn Try.prog 30 = some c30.toE := by kernel_rfl
theorem w30 : c30.body.wf = true := by kernel_rfl
noncomputable def l17_0 : DC :=
 .seq (.reg [⟨.op (.bin .lss 0 (.t 9) (.c (.int .i64 4))), (some 10), none⟩])
 [2, 3, 8, 9, 10]
 (.seq (.cond (.t 10) (.skip) (.exit 0))
 [2, 3, 8, 9]
 (.seq (.block 1 (.seq (.reg [⟨.op (.mv (.t 9)), (some 11), none⟩, ⟨.op (.idx 3 (some 3) 4 (.t 8) (.t 9)), (some 12), none⟩, ⟨.op (.new [(.int .i64 0), (.int .i64 0), (.int .i64 0)]), (some 6), none⟩, ⟨.op (.mv (.t 11)), (some 5), none⟩, ⟨.op (.st 3 (.t 6) (.t 12)), none, none⟩])
 [2, 3, 5, 6, 8, 9]
 (.seq (.reg [⟨.op (.ldn 3 (.t 6)), (some 13), none⟩, ⟨.op (.ldn 8 (.t 3)), (some 14), none⟩, ⟨.op (.mv (.t 5)), (some 15), none⟩, ⟨.call 30 [(.t 13), (.t 14), (.t 15)], (some 16), none⟩, ⟨.op (.not (.t 16)), (some 17), none⟩])
 [2, 3, 8, 9, 17]
 (.cond (.t 17) (.seq (.reg [⟨.op (.mv (.c (.bool false))), (some 4), none⟩])
 [4]
 (.ret)) (.skip)))))
 [2, 3, 8, 9]
 (.reg [⟨.op (.bin .add 0 (.t 9) (.c (.int .i64 1))), (some 18), none⟩, ⟨.op (.mv (.t 18)), (some 9), none⟩])))
theorem u17_0 (call : DCall) (T : Tm) (st : Dv.St) : dCw Try.prog call l17_0 T st = dCw Try.prog call
 (.seq (.reg [⟨.op (.bin .lss 0 (.t 9) (.c (.int .i64 4))), (some 10), none⟩])
 [2, 3, 8, 9, 10]
 (.seq (.cond (.t 10) (.skip) (.exit 0))
 [2, 3, 8, 9]
 (.seq (.block 1 (.seq (.reg [⟨.op (.mv (.t 9)), (some 11), none⟩, ⟨.op (.idx 3 (some 3) 4 (.t 8) (.t 9)), (some 12), none⟩, ⟨.op (.new [(.int .i64 0), (.int .i64 0), (.int .i64 0)]), (some 6), none⟩, ⟨.op (.mv (.t 11)), (some 5), none⟩, ⟨.op (.st 3 (.t 6) (.t 12)), none, none⟩])
 [2, 3, 5, 6, 8, 9]
 (.seq (.reg [⟨.op (.ldn 3 (.t 6)), (some 13), none⟩, ⟨.op (.ldn 8 (.t 3)), (some 14), none⟩, ⟨.op (.mv (.t 5)), (some 15), none⟩, ⟨.call 30 [(.t 13), (.t 14), (.t 15)], (some 16), none⟩, ⟨.op (.not (.t 16)), (some 17), none⟩])
 [2, 3, 8, 9, 17]
 (.cond (.t 17) (.seq (.reg [⟨.op (.mv (.c (.bool false))), (some 4), none⟩])
 [4]
 (.ret)) (.skip)))))
 [2, 3, 8, 9]
 (.reg [⟨.op (.bin .add 0 (.t 9) (.c (.int .i64 1))), (some 18), none⟩, ⟨.op (.mv (.t 18)), (some 9), none⟩])))) T st := rfl
/-- cardamom/norm.Lets -/
noncomputable def c17 : DFn := ⟨32, .pure,
 .seq (.reg [⟨.op (.box (.t 0)), (some 2), none⟩, ⟨.op (.box (.t 1)), (some 3), none⟩, ⟨.op (.mv (.c (.bool false))), (some 4), none⟩])
 [2, 3]
 (.seq (.seq (.reg [⟨.op (.fa 0 (.t 2)), (some 7), none⟩, ⟨.op (.ldn 12 (.t 7)), (some 8), none⟩, ⟨.op (.mv (.c (.int .i64 0))), (some 9), none⟩])
 [2, 3, 8, 9]
 (.block 0 (.loop [2, 3, 8, 9] (l17_0))))
 [2, 3]
 (.seq (.reg [⟨.op (.fa 6 (.t 3)), (some 19), none⟩, ⟨.op (.ld1 (.t 19)), (some 20), none⟩, ⟨.op (.fa 12 (.t 2)), (some 21), none⟩, ⟨.op (.ld1 (.t 21)), (some 22), none⟩, ⟨.call 31 [(.t 20), (.t 22)], (some 23), none⟩, ⟨.op (.mv (.t 23)), (some 24), none⟩, ⟨.op (.fa 6 (.t 3)), (some 25), (some (24, true))⟩, ⟨.op (.ld1 (.t 25)), (some 26), (some (24, true))⟩, ⟨.op (.fa 13 (.t 2)), (some 27), (some (24, true))⟩, ⟨.op (.ld1 (.t 27)), (some 28), (some (24, true))⟩, ⟨.call 32 [(.t 26), (.t 28)], (some 29), (some (24, true))⟩, ⟨.op (.not (.t 29)), (some 30), (some (24, true))⟩, ⟨.op (.pick (.t 24) (.t 30) (.c (.bool false))), (some 31), none⟩, ⟨.op (.mv (.t 31)), (some 4), none⟩])
 [4]
 (.ret))),
 [.tmp 4]⟩
theorem k17 : cFn Try.prog 17 = some c17.toE := by kernel_rfl
theorem w17 : c17.body.wf = true := by kernel_rfl
/-- cardamom/norm.begins -/
noncomputable def c32 : DFn := ⟨8, .pure,
 .seq (.reg [⟨.op (.box (.t 0)), (some 2), none⟩, ⟨.op (.mv (.c (.bool false))), (some 4), none⟩])
 [1, 2]
 (.seq (.reg [⟨.op (.mv (.t 1)), (some 5), none⟩, ⟨.op (.fn 49 [(.t 2)]), (some 6), none⟩, ⟨.call 48 [(.t 5), (.t 6)], (some 7), none⟩, ⟨.op (.mv (.t 7)), (some 4), none⟩])
 [4]
 (.ret)),
 [.tmp 4]⟩
theorem k32 : cFn Try.prog 32 = some c32.toE := by kernel_rfl
theorem w32 : c32.body.wf = true := by kernel_rfl
/-- cardamom/norm.begins$1 -/
noncomputable def c49 : DFn := ⟨7, .pure,
 .seq (.reg [⟨.op (.mv (.c (.bool false))), (some 3), none⟩])
 [0, 1]
 (.seq (.reg [⟨.op (.ld1 (.t 1)), (some 4), none⟩, ⟨.op (.mv (.t 0)), (some 5), none⟩, ⟨.call 31 [(.t 4), (.t 5)], (some 6), none⟩, ⟨.op (.mv (.t 6)), (some 3), none⟩])
 [3]
 (.ret)),
 [.tmp 3]⟩
theorem k49 : cFn Try.prog 49 = some c49.toE := by kernel_rfl
theorem w49 : c49.body.wf = true := by kernel_rfl
/-- slices.ContainsFunc[[]string,string] -/
noncomputable def c48 : DFn := ⟨9, .pure,
 .seq (.reg [⟨.op (.mv (.c (.bool false))), (some 4), none⟩])
 [0, 1]
 (.seq (.reg [⟨.op (.mv (.t 0)), (some 5), none⟩, ⟨.op (.mv (.t 1)), (some 6), none⟩, ⟨.call 61 [(.t 5), (.t 6)], (some 7), none⟩, ⟨.op (.bin .geq 0 (.t 7) (.c (.int .i64 0))), (some 8), none⟩, ⟨.op (.mv (.t 8)), (some 4), none⟩])
 [4]
 (.ret)),
 [.tmp 4]⟩
theorem k48 : cFn Try.prog 48 = some c48.toE := by kernel_rfl
theorem w48 : c48.body.wf = true := by kernel_rfl
noncomputable def l61_0 : DC :=
 .seq (.reg [⟨.op (.bin .lss 0 (.t 8) (.t 7)), (some 9), none⟩])
 [0, 1, 7, 8, 9]
 (.seq (.cond (.t 9) (.skip) (.exit 0))
 [0, 1, 7, 8]
 (.seq (.block 1 (.seq (.reg [⟨.op (.mv (.t 8)), (some 10), none⟩, ⟨.op (.mv (.t 10)), (some 5), none⟩])
 [0, 1, 5, 7, 8]
 (.seq (.reg [⟨.op (.mv (.t 1)), (some 11), none⟩, ⟨.op (.mv (.t 0)), (some 12), none⟩, ⟨.op (.mv (.t 5)), (some 13), none⟩, ⟨.op (.ia 1 none (.t 12) (.t 13)), (some 14), none⟩, ⟨.op (.ld1 (.t 14)), (some 15), none⟩, ⟨.callv (.t 11) [(.t 15)], (some 16), none⟩])
 [0, 1, 5, 7, 8, 16]
 (.cond (.t 16) (.seq (.reg [⟨.op (.mv (.t 5)), (some 17), none⟩, ⟨.op (.mv (.t 17)), (some 4), none⟩])
 [4]
 (.ret)) (.skip)))))
 [0, 1, 7, 8]
 (.reg [⟨.op (.bin .add 0 (.t 8) (.c (.int .i64 1))), (some 18), none⟩, ⟨.op (.mv (.t 18)), (some 8), none⟩])))
theorem u61_0 (call : DCall) (T : Tm) (st : Dv.St) : dCw Try.prog call l61_0 T st = dCw Try.prog call
 (.seq (.reg [⟨.op (.bin .lss 0 (.t 8) (.t 7)), (some 9), none⟩])
 [0, 1, 7, 8, 9]
 (.seq (.cond (.t 9) (.skip) (.exit 0))
 [0, 1, 7, 8]
 (.seq (.block 1 (.seq (.reg [⟨.op (.mv (.t 8)), (some 10), none⟩, ⟨.op (.mv (.t 10)), (some 5), none⟩])
 [0, 1, 5, 7, 8]
 (.seq (.reg [⟨.op (.mv (.t 1)), (some 11), none⟩, ⟨.op (.mv (.t 0)), (some 12), none⟩, ⟨.op (.mv (.t 5)), (some 13), none⟩, ⟨.op (.ia 1 none (.t 12) (.t 13)), (some 14), none⟩, ⟨.op (.ld1 (.t 14)), (some 15), none⟩, ⟨.callv (.t 11) [(.t 15)], (some 16), none⟩])
 [0, 1, 5, 7, 8, 16]
 (.cond (.t 16) (.seq (.reg [⟨.op (.mv (.t 5)), (some 17), none⟩, ⟨.op (.mv (.t 17)), (some 4), none⟩])
 [4]
 (.ret)) (.skip)))))
 [0, 1, 7, 8]
 (.reg [⟨.op (.bin .add 0 (.t 8) (.c (.int .i64 1))), (some 18), none⟩, ⟨.op (.mv (.t 18)), (some 8), none⟩])))) T st := rfl
/-- slices.IndexFunc[[]string,string] -/
noncomputable def c61 : DFn := ⟨19, .pure,
 .seq (.reg [⟨.op (.mv (.c (.int .i64 0))), (some 4), none⟩])
 [0, 1]
 (.seq (.seq (.reg [⟨.op (.mv (.t 0)), (some 6), none⟩, ⟨.op (.len (.t 6)), (some 7), none⟩, ⟨.op (.mv (.c (.int .i64 0))), (some 8), none⟩])
 [0, 1, 7, 8]
 (.block 0 (.loop [0, 1, 7, 8] (l61_0))))
 []
 (.seq (.reg [⟨.op (.mv (.c (.int .i64 (-1)))), (some 4), none⟩])
 [4]
 (.ret))),
 [.tmp 4]⟩
theorem k61 : cFn Try.prog 61 = some c61.toE := by kernel_rfl
theorem w61 : c61.body.wf = true := by kernel_rfl
noncomputable def l36_0 : DC :=
 .seq (.reg [⟨.op (.bin .lss 0 (.t 11) (.t 10)), (some 12), none⟩])
 [0, 3, 9, 10, 11, 12]
 (.seq (.cond (.t 12) (.skip) (.exit 0))
 [0, 3, 9, 10, 11]
 (.seq (.block 1 (.seq (.reg [⟨.op (.ia 1 none (.t 9) (.t 11)), (some 13), none⟩, ⟨.op (.ld1 (.t 13)), (some 14), none⟩, ⟨.op (.mv (.t 14)), (some 5), none⟩])
 [0, 3, 5, 9, 10, 11]
 (.seq (.reg [⟨.op (.mv (.t 3)), (some 15), none⟩, ⟨.op (.mv (.t 5)), (some 16), none⟩, ⟨.op (.len (.t 16)), (some 17), none⟩, ⟨.op (.bin .add 0 (.t 15) (.t 17)), (some 18), none⟩, ⟨.op (.mv (.t 18)), (some 3), none⟩])
 [0, 3, 9, 10, 11]
 (.seq (.reg [⟨.op (.mv (.t 3)), (some 19), none⟩, ⟨.op (.bin .lss 0 (.t 19) (.c (.int .i64 0))), (some 20), none⟩])
 [0, 3, 9, 10, 11, 20]
 (.cond (.t 20) (.reg [⟨.op (.ifc 9 (.c (.str [108, 101, 110, 32, 111, 117, 116, 32, 111, 102, 32, 114, 97, 110, 103, 101]))), (some 21), none⟩, ⟨.op (.slow (operAt Try.prog 36 17)), none, none⟩]) (.skip))))))
 [0, 3, 9, 10, 11]
 (.reg [⟨.op (.bin .add 0 (.t 11) (.c (.int .i64 1))), (some 22), none⟩, ⟨.op (.mv (.t 22)), (some 11), none⟩])))
theorem u36_0 (call : DCall) (T : Tm) (st : Dv.St) : dCw Try.prog call l36_0 T st = dCw Try.prog call
 (.seq (.reg [⟨.op (.bin .lss 0 (.t 11) (.t 10)), (some 12), none⟩])
 [0, 3, 9, 10, 11, 12]
 (.seq (.cond (.t 12) (.skip) (.exit 0))
 [0, 3, 9, 10, 11]
 (.seq (.block 1 (.seq (.reg [⟨.op (.ia 1 none (.t 9) (.t 11)), (some 13), none⟩, ⟨.op (.ld1 (.t 13)), (some 14), none⟩, ⟨.op (.mv (.t 14)), (some 5), none⟩])
 [0, 3, 5, 9, 10, 11]
 (.seq (.reg [⟨.op (.mv (.t 3)), (some 15), none⟩, ⟨.op (.mv (.t 5)), (some 16), none⟩, ⟨.op (.len (.t 16)), (some 17), none⟩, ⟨.op (.bin .add 0 (.t 15) (.t 17)), (some 18), none⟩, ⟨.op (.mv (.t 18)), (some 3), none⟩])
 [0, 3, 9, 10, 11]
 (.seq (.reg [⟨.op (.mv (.t 3)), (some 19), none⟩, ⟨.op (.bin .lss 0 (.t 19) (.c (.int .i64 0))), (some 20), none⟩])
 [0, 3, 9, 10, 11, 20]
 (.cond (.t 20) (.reg [⟨.op (.ifc 9 (.c (.str [108, 101, 110, 32, 111, 117, 116, 32, 111, 102, 32, 114, 97, 110, 103, 101]))), (some 21), none⟩, ⟨.op (.slow (operAt Try.prog 36 17)), none, none⟩]) (.skip))))))
 [0, 3, 9, 10, 11]
 (.reg [⟨.op (.bin .add 0 (.t 11) (.c (.int .i64 1))), (some 22), none⟩, ⟨.op (.mv (.t 22)), (some 11), none⟩])))) T st := rfl
noncomputable def l36_1 : DC :=
 .seq (.reg [⟨.op (.bin .lss 0 (.t 27) (.t 26)), (some 28), none⟩])
 [6, 25, 26, 27, 28]
 (.seq (.cond (.t 28) (.skip) (.exit 2))
 [6, 25, 26, 27]
 (.seq (.block 3 (.seq (.reg [⟨.op (.ia 1 none (.t 25) (.t 27)), (some 29), none⟩, ⟨.op (.ld1 (.t 29)), (some 30), none⟩, ⟨.op (.mv (.t 30)), (some 8), none⟩])
 [6, 8, 25, 26, 27]
 (.reg [⟨.op (.mv (.t 6)), (some 31), none⟩, ⟨.op (.mv (.t 8)), (some 32), none⟩, ⟨.op (.app 1 16 false (.t 31) (.t 32)), (some 33), none⟩, ⟨.op (.mv (.t 33)), (some 6), none⟩])))
 [6, 25, 26, 27]
 (.reg [⟨.op (.bin .add 0 (.t 27) (.c (.int .i64 1))), (some 34), none⟩, ⟨.op (.mv (.t 34)), (some 27), none⟩])))
theorem u36_1 (call : DCall) (T : Tm) (st : Dv.St) : dCw Try.prog call l36_1 T st = dCw Try.prog call
 (.seq (.reg [⟨.op (.bin .lss 0 (.t 27) (.t 26)), (some 28), none⟩])
 [6, 25, 26, 27, 28]
 (.seq (.cond (.t 28) (.skip) (.exit 2))
 [6, 25, 26, 27]
 (.seq (.block 3 (.seq (.reg [⟨.op (.ia 1 none (.t 25) (.t 27)), (some 29), none⟩, ⟨.op (.ld1 (.t 29)), (some 30), none⟩, ⟨.op (.mv (.t 30)), (some 8), none⟩])
 [6, 8, 25, 26, 27]
 (.reg [⟨.op (.mv (.t 6)), (some 31), none⟩, ⟨.op (.mv (.t 8)), (some 32), none⟩, ⟨.op (.app 1 16 false (.t 31) (.t 32)), (some 33), none⟩, ⟨.op (.mv (.t 33)), (some 6), none⟩])))
 [6, 25, 26, 27]
 (.reg [⟨.op (.bin .add 0 (.t 27) (.c (.int .i64 1))), (some 34), none⟩, ⟨.op (.mv (.t 34)), (some 27), none⟩])))) T st := rfl
/-- slices.Concat[[]string,string] -/
noncomputable def c36 : DFn := ⟨36, .own,
 .seq (.reg [⟨.op (.mv (.c (.sl none 0))), (some 2), none⟩])
 [0]
 (.seq (.reg [⟨.op (.mv (.c (.int .i64 0))), (some 3), none⟩])
 [0, 3]
 (.seq (.seq (.reg [⟨.op (.mv (.t 0)), (some 9), none⟩, ⟨.op (.len (.t 9)), (some 10), none⟩, ⟨.op (.mv (.c (.int .i64 0))), (some 11), none⟩])
 [0, 3, 9, 10, 11]
 (.block 0 (.loop [0, 3, 9, 10, 11] (l36_0))))
 [0, 3]
 (.seq (.reg [⟨.op (.mv (.t 3)), (some 23), none⟩, ⟨.call 50 [(.c (.sl none 0)), (.t 23)], (some 24), none⟩, ⟨.op (.mv (.t 24)), (some 6), none⟩])
 [0, 6]
 (.seq (.seq (.reg [⟨.op (.mv (.t 0)), (some 25), none⟩, ⟨.op (.len (.t 25)), (some 26), none⟩, ⟨.op (.mv (.c (.int .i64 0))), (some 27), none⟩])
 [6, 25, 26, 27]
 (.block 2 (.loop [6, 25, 26, 27] (l36_1))))
 [6]
 (.seq (.reg [⟨.op (.mv (.t 6)), (some 35), none⟩, ⟨.op (.mv (.t 35)), (some 2), none⟩])
 [2]
 (.ret)))))),
 [.tmp 2]⟩
theorem k36 : cFn Try.prog 36 = some c36.toE := by kernel_rfl
theorem w36 : c36.body.wf = true := by kernel_rfl
/-- slices.Grow[[]string,string] -/
noncomputable def c50 : DFn := ⟨27, .own,
 .seq (.reg [⟨.op (.mv (.c (.sl none 0))), (some 4), none⟩])
 [0, 1]
 (.seq (.seq (.reg [⟨.op (.mv (.t 1)), (some 5), none⟩, ⟨.op (.bin .lss 0 (.t 5) (.c (.int .i64 0))), (some 6), none⟩])
 [0, 1, 6]
 (.cond (.t 6) (.reg [⟨.op (.ifc 9 (.c (.str [99, 97, 110, 110, 111, 116, 32, 98, 101, 32, 110, 101, 103, 97, 116, 105, 118, 101]))), (some 7), none⟩, ⟨.op (.slow (operAt Try.prog 50 4)), none, none⟩]) (.skip)))
 [0, 1]
 (.seq (.seq (.reg [⟨.op (.mv (.t 1)), (some 8), none⟩, ⟨.op (.mv (.t 0)), (some 9), none⟩, ⟨.op (.slow (operAt Try.prog 50 7)), (some 10), none⟩, ⟨.op (.mv (.t 0)), (some 11), none⟩, ⟨.op (.len (.t 11)), (some 12), none⟩, ⟨.op (.bin .sub 0 (.t 10) (.t 12)), (some 13), none⟩, ⟨.op (.bin .sub 0 (.t 8) (.t 13)), (some 14), none⟩, ⟨.op (.mv (.t 14)), (some 1), none⟩])
 [0, 1]
 (.seq (.reg [⟨.op (.mv (.t 1)), (some 15), none⟩, ⟨.op (.bin .gtr 0 (.t 15) (.c (.int .i64 0))), (some 16), none⟩])
 [0, 1, 16]
 (.cond (.t 16) (.reg [⟨.op (.mv (.t 0)), (some 17), none⟩, ⟨.op (.mv (.t 0)), (some 18), none⟩, ⟨.op (.slow (operAt Try.prog 50 17)), (some 19), none⟩, ⟨.op (.cut 1 none (.t 17) none (some (.t 19))), (some 20), none⟩, ⟨.op (.mv (.t 1)), (some 21), none⟩, ⟨.op (.grow 1 16 [(.str [])] (.t 20) (.t 21)), (some 22), none⟩, ⟨.op (.mv (.t 0)), (some 23), none⟩, ⟨.op (.len (.t 23)), (some 24), none⟩, ⟨.op (.cut 1 none (.t 22) none (some (.t 24))), (some 25), none⟩, ⟨.op (.mv (.t 25)), (some 0), none⟩]) (.skip))))
 [0]
 (.seq (.reg [⟨.op (.mv (.t 0)), (some 26), none⟩, ⟨.op (.mv (.t 26)), (some 4), none⟩])
 [4]
 (.ret)))),
 [.tmp 4]⟩
theorem k50 : cFn Try.prog 50 = some c50.toE := by kernel_rfl
theorem w50 : c50.body.wf = true := by kernel_rfl
noncomputable def l38_0 : DC :=
 .seq (.seq (.reg [⟨.op (.mv (.t 5)), (some 29), none⟩, ⟨.op (.mv (.t 4)), (some 30), none⟩, ⟨.op (.len (.t 30)), (some 31), none⟩, ⟨.op (.bin .lss 0 (.t 29) (.t 31)), (some 32), none⟩])
 [0, 3, 4, 5, 32]
 (.cond (.t 32) (.skip) (.exit 2)))
 [0, 3, 4, 5]
 (.seq (.block 3 (.seq (.drw [⟨⟨.op (.mv (.t 4)), (some 35), none⟩, .n, []⟩, ⟨⟨.op (.mv (.t 5)), (some 36), none⟩, .n, []⟩, ⟨⟨.op (.ia 1 none (.t 35) (.t 36)), (some 37), none⟩, .n, []⟩, ⟨⟨.op (.ld1 (.t 37)), (some 38), none⟩, .n, []⟩, ⟨⟨.op (.mv (.t 4)), (some 39), none⟩, .n, []⟩, ⟨⟨.op (.mv (.t 5)), (some 40), none⟩, .n, []⟩, ⟨⟨.op (.bin .sub 0 (.t 40) (.c (.int .i64 1))), (some 41), none⟩, .n, []⟩, ⟨⟨.op (.ia 1 none (.t 39) (.t 41)), (some 42), none⟩, .n, []⟩, ⟨⟨.op (.ld1 (.t 42)), (some 43), none⟩, .n, []⟩, ⟨⟨.op (.bin .neq 0 (.t 38) (.t 43)), (some 44), none⟩, .n, []⟩])
 [0, 3, 4, 5, 44]
 (.cond (.t 44) (.seq (.reg [⟨.op (.mv (.t 0)), (some 45), none⟩, ⟨.op (.mv (.t 3)), (some 46), none⟩, ⟨.op (.mv (.t 4)), (some 47), none⟩, ⟨.op (.mv (.t 5)), (some 48), none⟩, ⟨.op (.ia 1 none (.t 47) (.t 48)), (some 49), none⟩, ⟨.op (.ld1 (.t 49)), (some 50), none⟩, ⟨.op (.ia 1 none (.t 45) (.t 46)), (some 51), none⟩, ⟨.op (.st 1 (.t 51) (.t 50)), none, none⟩])
 [0, 3, 4, 5]
 (.reg [⟨.op (.mv (.t 3)), (some 52), none⟩, ⟨.op (.bin .add 0 (.t 52) (.c (.int .i64 1))), (some 53), none⟩, ⟨.op (.mv (.t 53)), (some 3), none⟩])) (.skip))))
 [0, 3, 4, 5]
 (.reg [⟨.op (.mv (.t 5)), (some 33), none⟩, ⟨.op (.bin .add 0 (.t 33) (.c (.int .i64 1))), (some 34), none⟩, ⟨.op (.mv (.t 34)), (some 5), none⟩]))
theorem u38_0 (call : DCall) (T : Tm) (st : Dv.St) : dCw Try.prog call l38_0 T st = dCw Try.prog call
 (.seq (.seq (.reg [⟨.op (.mv (.t 5)), (some 29), none⟩, ⟨.op (.mv (.t 4)), (some 30), none⟩, ⟨.op (.len (.t 30)), (some 31), none⟩, ⟨.op (.bin .lss 0 (.t 29) (.t 31)), (some 32), none⟩])
 [0, 3, 4, 5, 32]
 (.cond (.t 32) (.skip) (.exit 2)))
 [0, 3, 4, 5]
 (.seq (.block 3 (.seq (.drw [⟨⟨.op (.mv (.t 4)), (some 35), none⟩, .n, []⟩, ⟨⟨.op (.mv (.t 5)), (some 36), none⟩, .n, []⟩, ⟨⟨.op (.ia 1 none (.t 35) (.t 36)), (some 37), none⟩, .n, []⟩, ⟨⟨.op (.ld1 (.t 37)), (some 38), none⟩, .n, []⟩, ⟨⟨.op (.mv (.t 4)), (some 39), none⟩, .n, []⟩, ⟨⟨.op (.mv (.t 5)), (some 40), none⟩, .n, []⟩, ⟨⟨.op (.bin .sub 0 (.t 40) (.c (.int .i64 1))), (some 41), none⟩, .n, []⟩, ⟨⟨.op (.ia 1 none (.t 39) (.t 41)), (some 42), none⟩, .n, []⟩, ⟨⟨.op (.ld1 (.t 42)), (some 43), none⟩, .n, []⟩, ⟨⟨.op (.bin .neq 0 (.t 38) (.t 43)), (some 44), none⟩, .n, []⟩])
 [0, 3, 4, 5, 44]
 (.cond (.t 44) (.seq (.reg [⟨.op (.mv (.t 0)), (some 45), none⟩, ⟨.op (.mv (.t 3)), (some 46), none⟩, ⟨.op (.mv (.t 4)), (some 47), none⟩, ⟨.op (.mv (.t 5)), (some 48), none⟩, ⟨.op (.ia 1 none (.t 47) (.t 48)), (some 49), none⟩, ⟨.op (.ld1 (.t 49)), (some 50), none⟩, ⟨.op (.ia 1 none (.t 45) (.t 46)), (some 51), none⟩, ⟨.op (.st 1 (.t 51) (.t 50)), none, none⟩])
 [0, 3, 4, 5]
 (.reg [⟨.op (.mv (.t 3)), (some 52), none⟩, ⟨.op (.bin .add 0 (.t 52) (.c (.int .i64 1))), (some 53), none⟩, ⟨.op (.mv (.t 53)), (some 3), none⟩])) (.skip))))
 [0, 3, 4, 5]
 (.reg [⟨.op (.mv (.t 5)), (some 33), none⟩, ⟨.op (.bin .add 0 (.t 33) (.c (.int .i64 1))), (some 34), none⟩, ⟨.op (.mv (.t 34)), (some 5), none⟩]))) T st := rfl
noncomputable def l38_1 : DC :=
 .seq (.seq (.reg [⟨.op (.mv (.t 3)), (some 10), none⟩, ⟨.op (.mv (.t 0)), (some 11), none⟩, ⟨.op (.len (.t 11)), (some 12), none⟩, ⟨.op (.bin .lss 0 (.t 10) (.t 12)), (some 13), none⟩])
 [0, 3, 13]
 (.cond (.t 13) (.skip) (.exit 0)))
 [0, 3]
 (.seq (.block 1 (.seq (.drw [⟨⟨.op (.mv (.t 0)), (some 16), none⟩, .n, []⟩, ⟨⟨.op (.mv (.t 3)), (some 17), none⟩, .n, []⟩, ⟨⟨.op (.ia 1 none (.t 16) (.t 17)), (some 18), none⟩, .n, []⟩, ⟨⟨.op (.ld1 (.t 18)), (some 19), none⟩, .n, []⟩, ⟨⟨.op (.mv (.t 0)), (some 20), none⟩, .n, []⟩, ⟨⟨.op (.mv (.t 3)), (some 21), none⟩, .n, []⟩, ⟨⟨.op (.bin .sub 0 (.t 21) (.c (.int .i64 1))), (some 22), none⟩, .n, []⟩, ⟨⟨.op (.ia 1 none (.t 20) (.t 22)), (some 23), none⟩, .n, []⟩, ⟨⟨.op (.ld1 (.t 23)), (some 24), none⟩, .n, []⟩, ⟨⟨.op (.bin .eql 0 (.t 19) (.t 24)), (some 25), none⟩, .n, []⟩])
 [0, 3, 25]
 (.cond (.t 25) (.seq (.reg [⟨.op (.mv (.t 0)), (some 26), none⟩, ⟨.op (.mv (.t 3)), (some 27), none⟩, ⟨.op (.cut 1 none (.t 26) (some (.t 27)) none), (some 28), none⟩, ⟨.op (.mv (.t 28)), (some 4), none⟩])
 [0, 3, 4]
 (.seq (.seq (.reg [⟨.op (.mv (.c (.int .i64 1))), (some 5), none⟩])
 [0, 3, 4, 5]
 (.block 2 (.loop [0, 3, 4, 5] (l38_0))))
 [0, 3]
 (.seq (.reg [⟨.op (.mv (.t 0)), (some 54), none⟩, ⟨.op (.mv (.t 3)), (some 55), none⟩, ⟨.op (.cut 1 none (.t 54) (some (.t 55)) none), (some 56), none⟩, ⟨.op (.clr 1 [(.str [])] (.t 56)), none, none⟩])
 [0, 3]
 (.seq (.reg [⟨.op (.mv (.t 0)), (some 57), none⟩, ⟨.op (.mv (.t 3)), (some 58), none⟩, ⟨.op (.cut 1 none (.t 57) none (some (.t 58))), (some 59), none⟩, ⟨.op (.mv (.t 59)), (some 2), none⟩])
 [2]
 (.ret))))) (.skip))))
 [0, 3]
 (.reg [⟨.op (.mv (.t 3)), (some 14), none⟩, ⟨.op (.bin .add 0 (.t 14) (.c (.int .i64 1))), (some 15), none⟩, ⟨.op (.mv (.t 15)), (some 3), none⟩]))
theorem u38_1 (call : DCall) (T : Tm) (st : Dv.St) : dCw Try.prog call l38_1 T st = dCw Try.prog call
 (.seq (.seq (.reg [⟨.op (.mv (.t 3)), (some 10), none⟩, ⟨.op (.mv (.t 0)), (some 11), none⟩, ⟨.op (.len (.t 11)), (some 12), none⟩, ⟨.op (.bin .lss 0 (.t 10) (.t 12)), (some 13), none⟩])
 [0, 3, 13]
 (.cond (.t 13) (.skip) (.exit 0)))
 [0, 3]
 (.seq (.block 1 (.seq (.drw [⟨⟨.op (.mv (.t 0)), (some 16), none⟩, .n, []⟩, ⟨⟨.op (.mv (.t 3)), (some 17), none⟩, .n, []⟩, ⟨⟨.op (.ia 1 none (.t 16) (.t 17)), (some 18), none⟩, .n, []⟩, ⟨⟨.op (.ld1 (.t 18)), (some 19), none⟩, .n, []⟩, ⟨⟨.op (.mv (.t 0)), (some 20), none⟩, .n, []⟩, ⟨⟨.op (.mv (.t 3)), (some 21), none⟩, .n, []⟩, ⟨⟨.op (.bin .sub 0 (.t 21) (.c (.int .i64 1))), (some 22), none⟩, .n, []⟩, ⟨⟨.op (.ia 1 none (.t 20) (.t 22)), (some 23), none⟩, .n, []⟩, ⟨⟨.op (.ld1 (.t 23)), (some 24), none⟩, .n, []⟩, ⟨⟨.op (.bin .eql 0 (.t 19) (.t 24)), (some 25), none⟩, .n, []⟩])
 [0, 3, 25]
 (.cond (.t 25) (.seq (.reg [⟨.op (.mv (.t 0)), (some 26), none⟩, ⟨.op (.mv (.t 3)), (some 27), none⟩, ⟨.op (.cut 1 none (.t 26) (some (.t 27)) none), (some 28), none⟩, ⟨.op (.mv (.t 28)), (some 4), none⟩])
 [0, 3, 4]
 (.seq (.seq (.reg [⟨.op (.mv (.c (.int .i64 1))), (some 5), none⟩])
 [0, 3, 4, 5]
 (.block 2 (.loop [0, 3, 4, 5] (l38_0))))
 [0, 3]
 (.seq (.reg [⟨.op (.mv (.t 0)), (some 54), none⟩, ⟨.op (.mv (.t 3)), (some 55), none⟩, ⟨.op (.cut 1 none (.t 54) (some (.t 55)) none), (some 56), none⟩, ⟨.op (.clr 1 [(.str [])] (.t 56)), none, none⟩])
 [0, 3]
 (.seq (.reg [⟨.op (.mv (.t 0)), (some 57), none⟩, ⟨.op (.mv (.t 3)), (some 58), none⟩, ⟨.op (.cut 1 none (.t 57) none (some (.t 58))), (some 59), none⟩, ⟨.op (.mv (.t 59)), (some 2), none⟩])
 [2]
 (.ret))))) (.skip))))
 [0, 3]
 (.reg [⟨.op (.mv (.t 3)), (some 14), none⟩, ⟨.op (.bin .add 0 (.t 14) (.c (.int .i64 1))), (some 15), none⟩, ⟨.op (.mv (.t 15)), (some 3), none⟩]))) T st := rfl
/-- slices.Compact[[]string,string] -/
noncomputable def c38 : DFn := ⟨61, .own,
 .seq (.reg [⟨.op (.mv (.c (.sl none 0))), (some 2), none⟩])
 [0]
 (.seq (.seq (.reg [⟨.op (.mv (.t 0)), (some 6), none⟩, ⟨.op (.len (.t 6)), (some 7), none⟩, ⟨.op (.bin .lss 0 (.t 7) (.c (.int .i64 2))), (some 8), none⟩])
 [0, 8]
 (.cond (.t 8) (.seq (.reg [⟨.op (.mv (.t 0)), (some 9), none⟩, ⟨.op (.mv (.t 9)), (some 2), none⟩])
 [2]
 (.ret)) (.skip)))
 [0]
 (.seq (.seq (.reg [⟨.op (.mv (.c (.int .i64 1))), (some 3), none⟩])
 [0, 3]
 (.block 0 (.loop [0, 3] (l38_1))))
 [0]
 (.seq (.reg [⟨.op (.mv (.t 0)), (some 60), none⟩, ⟨.op (.mv (.t 60)), (some 2), none⟩])
 [2]
 (.ret)))),
 [.tmp 2]⟩
theorem k38 : cFn Try.prog 38 = some c38.toE := by kernel_rfl
theorem w38 : c38.body.wf = true := by kernel_rfl
noncomputable def l76_0 : DC :=
 .seq (.reg [⟨.op (.bin .lss 0 (.t 11) (.t 10)), (some 12), none⟩])
 [0, 3, 9, 10, 11, 12]
 (.seq (.cond (.t 12) (.skip) (.exit 0))
 [0, 3, 9, 10, 11]
 (.seq (.block 1 (.seq (.reg [⟨.op (.ia 1 none (.t 9) (.t 11)), (some 13), none⟩, ⟨.op (.ld1 (.t 13)), (some 14), none⟩, ⟨.op (.mv (.t 14)), (some 5), none⟩])
 [0, 3, 5, 9, 10, 11]
 (.seq (.reg [⟨.op (.mv (.t 3)), (some 15), none⟩, ⟨.op (.mv (.t 5)), (some 16), none⟩, ⟨.op (.len (.t 16)), (some 17), none⟩, ⟨.op (.bin .add 0 (.t 15) (.t 17)), (some 18), none⟩, ⟨.op (.mv (.t 18)), (some 3), none⟩])
 [0, 3, 9, 10, 11]
 (.seq (.reg [⟨.op (.mv (.t 3)), (some 19), none⟩, ⟨.op (.bin .lss 0 (.t 19) (.c (.int .i64 0))), (some 20), none⟩])
 [0, 3, 9, 10, 11, 20]
 (.cond (.t 20) (.reg [⟨.op (.ifc 9 (.c (.str [108, 101, 110, 32, 111, 117, 116, 32, 111, 102, 32, 114, 97, 110, 103, 101]))), (some 21), none⟩, ⟨.op (.slow (operAt Try.prog 76 17)), none, none⟩]) (.skip))))))
 [0, 3, 9, 10, 11]
 (.reg [⟨.op (.bin .add 0 (.t 11) (.c (.int .i64 1))), (some 22), none⟩, ⟨.op (.mv (.t 22)), (some 11), none⟩])))
theorem u76_0 (call : DCall) (T : Tm) (st : Dv.St) : dCw Try.prog call l76_0 T st = dCw Try.prog call
 (.seq (.reg [⟨.op (.bin .lss 0 (.t 11) (.t 10)), (some 12), none⟩])
 [0, 3, 9, 10, 11, 12]
 (.seq (.cond (.t 12) (.skip) (.exit 0))
 [0, 3, 9, 10, 11]
 (.seq (.block 1 (.seq (.reg [⟨.op (.ia 1 none (.t 9) (.t 11)), (some 13), none⟩, ⟨.op (.ld1 (.t 13)), (some 14), none⟩, ⟨.op (.mv (.t 14)), (some 5), none⟩])
 [0, 3, 5, 9, 10, 11]
 (.seq (.reg [⟨.op (.mv (.t 3)), (some 15), none⟩, ⟨.op (.mv (.t 5)), (some 16), none⟩, ⟨.op (.len (.t 16)), (some 17), none⟩, ⟨.op (.bin .add 0 (.t 15) (.t 17)), (some 18), none⟩, ⟨.op (.mv (.t 18)), (some 3), none⟩])
 [0, 3, 9, 10, 11]
 (.seq (.reg [⟨.op (.mv (.t 3)), (some 19), none⟩, ⟨.op (.bin .lss 0 (.t 19) (.c (.int .i64 0))), (some 20), none⟩])
 [0, 3, 9, 10, 11, 20]
 (.cond (.t 20) (.reg [⟨.op (.ifc 9 (.c (.str [108, 101, 110, 32, 111, 117, 116, 32, 111, 102, 32, 114, 97, 110, 103, 101]))), (some 21), none⟩, ⟨.op (.slow (operAt Try.prog 76 17)), none, none⟩]) (.skip))))))
 [0, 3, 9, 10, 11]
 (.reg [⟨.op (.bin .add 0 (.t 11) (.c (.int .i64 1))), (some 22), none⟩, ⟨.op (.mv (.t 22)), (some 11), none⟩])))) T st := rfl
noncomputable def l76_1 : DC :=
 .seq (.reg [⟨.op (.bin .lss 0 (.t 27) (.t 26)), (some 28), none⟩])
 [6, 25, 26, 27, 28]
 (.seq (.cond (.t 28) (.skip) (.exit 2))
 [6, 25, 26, 27]
 (.seq (.block 3 (.seq (.reg [⟨.op (.ia 1 none (.t 25) (.t 27)), (some 29), none⟩, ⟨.op (.ld1 (.t 29)), (some 30), none⟩, ⟨.op (.mv (.t 30)), (some 8), none⟩])
 [6, 8, 25, 26, 27]
 (.reg [⟨.op (.mv (.t 6)), (some 31), none⟩, ⟨.op (.mv (.t 8)), (some 32), none⟩, ⟨.op (.app 14 136 false (.t 31) (.t 32)), (some 33), none⟩, ⟨.op (.mv (.t 33)), (some 6), none⟩])))
 [6, 25, 26, 27]
 (.reg [⟨.op (.bin .add 0 (.t 27) (.c (.int .i64 1))), (some 34), none⟩, ⟨.op (.mv (.t 34)), (some 27), none⟩])))
theorem u76_1 (call : DCall) (T : Tm) (st : Dv.St) : dCw Try.prog call l76_1 T st = dCw Try.prog call
 (.seq (.reg [⟨.op (.bin .lss 0 (.t 27) (.t 26)), (some 28), none⟩])
 [6, 25, 26, 27, 28]
 (.seq (.cond (.t 28) (.skip) (.exit 2))
 [6, 25, 26, 27]
 (.seq (.block 3 (.seq (.reg [⟨.op (.ia 1 none (.t 25) (.t 27)), (some 29), none⟩, ⟨.op (.ld1 (.t 29)), (some 30), none⟩, ⟨.op (.mv (.t 30)), (some 8), none⟩])
 [6, 8, 25, 26, 27]
 (.reg [⟨.op (.mv (.t 6)), (some 31), none⟩, ⟨.op (.mv (.t 8)), (some 32), none⟩, ⟨.op (.app 14 136 false (.t 31) (.t 32)), (some 33), none⟩, ⟨.op (.mv (.t 33)), (some 6), none⟩])))
 [6, 25, 26, 27]
 (.reg [⟨.op (.bin .add 0 (.t 27) (.c (.int .i64 1))), (some 34), none⟩, ⟨.op (.mv (.t 34)), (some 27), none⟩])))) T st := rfl
/-- slices.Concat[[]cardamom/api.Box,cardamom/api.Box] -/
noncomputable def c76 : DFn := ⟨36, .own,
 .seq (.reg [⟨.op (.mv (.c (.sl none 0))), (some 2), none⟩])
 [0]
 (.seq (.reg [⟨.op (.mv (.c (.int .i64 0))), (some 3), none⟩])
 [0, 3]
 (.seq (.seq (.reg [⟨.op (.mv (.t 0)), (some 9), none⟩, ⟨.op (.len (.t 9)), (some 10), none⟩, ⟨.op (.mv (.c (.int .i64 0))), (some 11), none⟩])
 [0, 3, 9, 10, 11]
 (.block 0 (.loop [0, 3, 9, 10, 11] (l76_0))))
 [0, 3]
 (.seq (.reg [⟨.op (.mv (.t 3)), (some 23), none⟩, ⟨.call 85 [(.c (.sl none 0)), (.t 23)], (some 24), none⟩, ⟨.op (.mv (.t 24)), (some 6), none⟩])
 [0, 6]
 (.seq (.seq (.reg [⟨.op (.mv (.t 0)), (some 25), none⟩, ⟨.op (.len (.t 25)), (some 26), none⟩, ⟨.op (.mv (.c (.int .i64 0))), (some 27), none⟩])
 [6, 25, 26, 27]
 (.block 2 (.loop [6, 25, 26, 27] (l76_1))))
 [6]
 (.seq (.reg [⟨.op (.mv (.t 6)), (some 35), none⟩, ⟨.op (.mv (.t 35)), (some 2), none⟩])
 [2]
 (.ret)))))),
 [.tmp 2]⟩
theorem k76 : cFn Try.prog 76 = some c76.toE := by kernel_rfl
theorem w76 : c76.body.wf = true := by kernel_rfl
/-- slices.Grow[[]cardamom/api.Box,cardamom/api.Box] -/
noncomputable def c85 : DFn := ⟨27, .own,
 .seq (.reg [⟨.op (.mv (.c (.sl none 0))), (some 4), none⟩])
 [0, 1]
 (.seq (.seq (.reg [⟨.op (.mv (.t 1)), (some 5), none⟩, ⟨.op (.bin .lss 0 (.t 5) (.c (.int .i64 0))), (some 6), none⟩])
 [0, 1, 6]
 (.cond (.t 6) (.reg [⟨.op (.ifc 9 (.c (.str [99, 97, 110, 110, 111, 116, 32, 98, 101, 32, 110, 101, 103, 97, 116, 105, 118, 101]))), (some 7), none⟩, ⟨.op (.slow (operAt Try.prog 85 4)), none, none⟩]) (.skip)))
 [0, 1]
 (.seq (.seq (.reg [⟨.op (.mv (.t 1)), (some 8), none⟩, ⟨.op (.mv (.t 0)), (some 9), none⟩, ⟨.op (.slow (operAt Try.prog 85 7)), (some 10), none⟩, ⟨.op (.mv (.t 0)), (some 11), none⟩, ⟨.op (.len (.t 11)), (some 12), none⟩, ⟨.op (.bin .sub 0 (.t 10) (.t 12)), (some 13), none⟩, ⟨.op (.bin .sub 0 (.t 8) (.t 13)), (some 14), none⟩, ⟨.op (.mv (.t 14)), (some 1), none⟩])
 [0, 1]
 (.seq (.reg [⟨.op (.mv (.t 1)), (some 15), none⟩, ⟨.op (.bin .gtr 0 (.t 15) (.c (.int .i64 0))), (some 16), none⟩])
 [0, 1, 16]
 (.cond (.t 16) (.reg [⟨.op (.mv (.t 0)), (some 17), none⟩, ⟨.op (.mv (.t 0)), (some 18), none⟩, ⟨.op (.slow (operAt Try.prog 85 17)), (some 19), none⟩, ⟨.op (.cut 14 none (.t 17) none (some (.t 19))), (some 20), none⟩, ⟨.op (.mv (.t 1)), (some 21), none⟩, ⟨.op (.grow 14 136 [(.int .i64 0), (.int .i64 0), (.int .i64 0), (.int .i64 0), (.int .i64 0), (.int .i64 0), (.int .i64 0), (.int .i64 0), (.int .i64 0), (.int .i64 0), (.int .i64 0), (.int .i64 0), (.str []), (.sl none 0)] (.t 20) (.t 21)), (some 22), none⟩, ⟨.op (.mv (.t 0)), (some 23), none⟩, ⟨.op (.len (.t 23)), (some 24), none⟩, ⟨.op (.cut 14 none (.t 22) none (some (.t 24))), (some 25), none⟩, ⟨.op (.mv (.t 25)), (some 0), none⟩]) (.skip))))
 [0]
 (.seq (.reg [⟨.op (.mv (.t 0)), (some 26), none⟩, ⟨.op (.mv (.t 26)), (some 4), none⟩])
 [4]
 (.ret)))),
 [.tmp 4]⟩
theorem k85 : cFn Try.prog 85 = some c85.toE := by kernel_rfl
theorem w85 : c85.body.wf = true := by kernel_rfl
/-- cardamom/cardamomref4.Lets -/
noncomputable def c22 : DFn := ⟨82, .pure,
 .seq (.reg [⟨.op (.box (.t 0)), (some 2), none⟩, ⟨.op (.box (.t 1)), (some 3), none⟩, ⟨.op (.mv (.c (.bool false))), (some 4), none⟩])
 [2, 3]
 (.seq (.seq (.reg [⟨.op (.fa 0 (.t 2)), (some 7), none⟩, ⟨.op (.ld1 (.t 7)), (some 8), none⟩])
 [2, 3, 8]
 (.block 0 (.seq (.reg [⟨.op (.bin .eql 0 (.t 8) (.c (.int .i64 1))), (some 10), none⟩, ⟨.op (.mv (.t 10)), (some 9), none⟩])
 [2, 3, 8, 9]
 (.cond (.t 9) (.seq (.reg [⟨.op (.mv (.c (.bool true))), (some 4), none⟩])
 [4]
 (.ret)) (.seq (.seq (.reg [⟨.op (.bin .eql 0 (.t 8) (.c (.int .i64 2))), (some 12), none⟩, ⟨.op (.mv (.t 12)), (some 11), none⟩])
 [2, 3, 8, 11]
 (.cond (.t 11) (.skip) (.reg [⟨.op (.bin .eql 0 (.t 8) (.c (.int .i64 3))), (some 13), none⟩, ⟨.op (.mv (.t 13)), (some 11), none⟩])))
 [2, 3, 8, 11]
 (.cond (.t 11) (.seq (.reg [⟨.op (.ldn 8 (.t 3)), (some 15), none⟩, ⟨.op (.fa 1 (.t 2)), (some 16), none⟩, ⟨.op (.ld1 (.t 16)), (some 17), none⟩, ⟨.call 33 [(.t 15), (.t 17)], (some 18), none⟩, ⟨.op (.mv (.t 18)), (some 14), none⟩, ⟨.op (.ext (.t 14) 0), (some 19), none⟩, ⟨.op (.ext (.t 14) 1), (some 20), none⟩, ⟨.op (.mv (.t 19)), (some 5), none⟩, ⟨.op (.mv (.t 20)), (some 6), none⟩])
 [2, 5, 6]
 (.seq (.reg [⟨.op (.mv (.t 6)), (some 21), none⟩, ⟨.op (.mv (.t 21)), (some 22), none⟩, ⟨.op (.mv (.t 5)), (some 23), (some (22, true))⟩, ⟨.op (.fa 2 (.t 2)), (some 24), (some (22, true))⟩, ⟨.op (.ld1 (.t 24)), (some 25), (some (22, true))⟩, ⟨.op (.bin .geq 0 (.t 23) (.t 25)), (some 26), (some (22, true))⟩, ⟨.op (.pick (.t 22) (.t 26) (.c (.bool false))), (some 27), none⟩, ⟨.op (.mv (.t 27)), (some 28), none⟩, ⟨.op (.mv (.t 5)), (some 29), (some (28, true))⟩, ⟨.op (.fa 3 (.t 2)), (some 30), (some (28, true))⟩, ⟨.op (.ld1 (.t 30)), (some 31), (some (28, true))⟩, ⟨.op (.bin .leq 0 (.t 29) (.t 31)), (some 32), (some (28, true))⟩, ⟨.op (.pick (.t 28) (.t 32) (.c (.bool false))), (some 33), none⟩, ⟨.op (.mv (.t 33)), (some 4), none⟩])
 [4]
 (.ret))) (.seq (.reg [⟨.op (.bin .eql 0 (.t 8) (.c (.int .i64 4))), (some 35), none⟩, ⟨.op (.mv (.t 35)), (some 34), none⟩])
 [2, 3, 8, 34]
 (.cond (.t 34) (.seq (.reg [⟨.op (.fa 6 (.t 3)), (some 36), none⟩, ⟨.op (.ld1 (.t 36)), (some 37), none⟩, ⟨.op (.fa 4 (.t 2)), (some 38), none⟩, ⟨.op (.ld1 (.t 38)), (some 39), none⟩, ⟨.call 34 [(.t 37), (.t 39)], (some 40), none⟩, ⟨.op (.mv (.t 40)), (some 4), none⟩])
 [4]
 (.ret)) (.seq (.reg [⟨.op (.bin .eql 0 (.t 8) (.c (.int .i64 5))), (some 42), none⟩, ⟨.op (.mv (.t 42)), (some 41), none⟩])
 [2, 3, 8, 41]
 (.cond (.t 41) (.seq (.drw [⟨⟨.op (.fa 5 (.t 2)), (some 43), none⟩, .n, []⟩, ⟨⟨.op (.ld1 (.t 43)), (some 44), none⟩, .n, []⟩, ⟨⟨.op (.ia 6 none (.t 44) (.c (.int .i64 0))), (some 45), none⟩, .n, []⟩, ⟨⟨.op (.ldn 6 (.t 45)), (some 46), none⟩, .n, []⟩, ⟨⟨.op (.ldn 8 (.t 3)), (some 47), none⟩, .n, []⟩, ⟨⟨.call 22 [(.t 46), (.t 47)], (some 48), none⟩, .x, []⟩, ⟨⟨.op (.mv (.t 48)), (some 49), none⟩, .n, []⟩, ⟨⟨.op (.fa 5 (.t 2)), (some 50), (some (49, true))⟩, .n, []⟩, ⟨⟨.op (.ld1 (.t 50)), (some 51), (some (49, true))⟩, .n, []⟩, ⟨⟨.op (.ia 6 none (.t 51) (.c (.int .i64 1))), (some 52), (some (49, true))⟩, .n, []⟩, ⟨⟨.op (.ldn 6 (.t 52)), (some 53), (some (49, true))⟩, .n, []⟩, ⟨⟨.op (.ldn 8 (.t 3)), (some 54), (some (49, true))⟩, .n, []⟩, ⟨⟨.call 22 [(.t 53), (.t 54)], (some 55), (some (49, true))⟩, .x, []⟩, ⟨⟨.op (.pick (.t 49) (.t 55) (.c (.bool false))), (some 56), none⟩, .n, []⟩, ⟨⟨.op (.mv (.t 56)), (some 4), none⟩, .x, []⟩])
 [4]
 (.ret)) (.seq (.reg [⟨.op (.bin .eql 0 (.t 8) (.c (.int .i64 6))), (some 58), none⟩, ⟨.op (.mv (.t 58)), (some 57), none⟩])
 [2, 3, 8, 57]
 (.cond (.t 57) (.seq (.drw [⟨⟨.op (.fa 5 (.t 2)), (some 59), none⟩, .n, []⟩, ⟨⟨.op (.ld1 (.t 59)), (some 60), none⟩, .n, []⟩, ⟨⟨.op (.ia 6 none (.t 60) (.c (.int .i64 0))), (some 61), none⟩, .n, []⟩, ⟨⟨.op (.ldn 6 (.t 61)), (some 62), none⟩, .n, []⟩, ⟨⟨.op (.ldn 8 (.t 3)), (some 63), none⟩, .n, []⟩, ⟨⟨.call 22 [(.t 62), (.t 63)], (some 64), none⟩, .x, []⟩, ⟨⟨.op (.mv (.t 64)), (some 65), none⟩, .n, []⟩, ⟨⟨.op (.fa 5 (.t 2)), (some 66), (some (65, false))⟩, .n, []⟩, ⟨⟨.op (.ld1 (.t 66)), (some 67), (some (65, false))⟩, .n, []⟩, ⟨⟨.op (.ia 6 none (.t 67) (.c (.int .i64 1))), (some 68), (some (65, false))⟩, .n, []⟩, ⟨⟨.op (.ldn 6 (.t 68)), (some 69), (some (65, false))⟩, .n, []⟩, ⟨⟨.op (.ldn 8 (.t 3)), (some 70), (some (65, false))⟩, .n, []⟩, ⟨⟨.call 22 [(.t 69), (.t 70)], (some 71), (some (65, false))⟩, .x, []⟩, ⟨⟨.op (.pick (.t 65) (.c (.bool true)) (.t 71)), (some 72), none⟩, .n, []⟩, ⟨⟨.op (.mv (.t 72)), (some 4), none⟩, .x, []⟩])
 [4]
 (.ret)) (.seq (.reg [⟨.op (.bin .eql 0 (.t 8) (.c (.int .i64 7))), (some 74), none⟩, ⟨.op (.mv (.t 74)), (some 73), none⟩])
 [2, 3, 73]
 (.cond (.t 73) (.seq (.drw [⟨⟨.op (.fa 5 (.t 2)), (some 75), none⟩, .n, []⟩, ⟨⟨.op (.ld1 (.t 75)), (some 76), none⟩, .n, []⟩, ⟨⟨.op (.ia 6 none (.t 76) (.c (.int .i64 0))), (some 77), none⟩, .n, []⟩, ⟨⟨.op (.ldn 6 (.t 77)), (some 78), none⟩, .n, []⟩, ⟨⟨.op (.ldn 8 (.t 3)), (some 79), none⟩, .n, []⟩, ⟨⟨.call 22 [(.t 78), (.t 79)], (some 80), none⟩, .x, []⟩, ⟨⟨.op (.not (.t 80)), (some 81), none⟩, .n, []⟩, ⟨⟨.op (.mv (.t 81)), (some 4), none⟩, .x, []⟩])
 [4]
 (.ret)) (.skip)))))))))))))))
 []
 (.seq (.reg [⟨.op (.mv (.c (.bool false))), (some 4), none⟩])
 [4]
 (.ret))),
 [.tmp 4]⟩
theorem k22 : cFn Try.prog 22 = some c22.toE := by kernel_rfl
theorem w22 : c22.body.wf = true := by kernel_rfl
def tbl : Nat → Option DFn := fun f => bif Nat.beq f 3 then some c3 else bif Nat.beq f 4 then some c4 else bif Nat.beq f 6 then some c6 else bif Nat.beq f 15 then some c15 else bif Nat.beq f 13 then some c13 else bif Nat.beq f 26 then some c26 else bif Nat.beq f 45 then some c45 else bif Nat.beq f 20 then some c20 else bif Nat.beq f 39 then some c39 else bif Nat.beq f 18 then some c18 else bif Nat.beq f 21 then some c21 else bif Nat.beq f 14 then some c14 else bif Nat.beq f 10 then some c10 else bif Nat.beq f 16 then some c16 else bif Nat.beq f 11 then some c11 else bif Nat.beq f 24 then some c24 else bif Nat.beq f 27 then some c27 else bif Nat.beq f 28 then some c28 else bif Nat.beq f 29 then some c29 else bif Nat.beq f 33 then some c33 else bif Nat.beq f 34 then some c34 else bif Nat.beq f 46 then some c46 else bif Nat.beq f 60 then some c60 else bif Nat.beq f 31 then some c31 else bif Nat.beq f 47 then some c47 else bif Nat.beq f 59 then some c59 else bif Nat.beq f 12 then some c12 else bif Nat.beq f 25 then some c25 else bif Nat.beq f 44 then some c44 else bif Nat.beq f 58 then some c58 else bif Nat.beq f 56 then some c56 else bif Nat.beq f 77 then some c77 else bif Nat.beq f 19 then some c19 else bif Nat.beq f 57 then some c57 else bif Nat.beq f 35 then some c35 else bif Nat.beq f 30 then some c30 else bif Nat.beq f 17 then some c17 else bif Nat.beq f 32 then some c32 else bif Nat.beq f 49 then some c49 else bif Nat.beq f 48 then some c48 else bif Nat.beq f 61 then some c61 else bif Nat.beq f 36 then some c36 else bif Nat.beq f 50 then some c50 else bif Nat.beq f 38 then some c38 else bif Nat.beq f 76 then some c76 else bif Nat.beq f 85 then some c85 else bif Nat.beq f 22 then some c22 else none
def dx : DX := fun f => none
def ren37 : Go.Shelf.Ren := ⟨fun n => if n = 190 then 37 else if n = 125 then 52 else if n = 258 then 51 else if n = 128 then 71 else if n = 129 then 72 else if n = 302 then 62 else if n = 303 then 63 else if n = 304 then 64 else if n = 305 then 65 else if n = 306 then 66 else if n = 307 then 67 else if n = 308 then 68 else if n = 309 then 69 else if n = 310 then 70 else if n = 333 then 78 else if n = 329 then 79 else if n = 330 then 80 else if n = 334 then 81 else if n = 335 then 82 else if n = 336 then 83 else if n = 344 then 86 else n, fun n => if n = 31 then 46 else if n = 9 then 9 else if n = 3 then 3 else if n = 46 then 92 else if n = 0 then 0 else if n = 51 then 111 else if n = 53 then 113 else if n = 4 then 4 else if n = 183 then 105 else if n = 182 then 104 else if n = 131 then 67 else if n = 5 then 5 else if n = 218 then 118 else if n = 222 then 122 else if n = 228 then 126 else if n = 229 then 127 else n, fun n => n⟩
theorem lay37 : Go.Proofs.Lays.n190 Try.prog ren37 where
  mixed := Try.checked.mixed
  f125 := Try.func52.trans (congrArg some (by kernel_rfl))
  f128 := Try.func71.trans (congrArg some (by kernel_rfl))
  f129 := Try.func72.trans (congrArg some (by kernel_rfl))
  f190 := Try.func37.trans (congrArg some (by kernel_rfl))
  f258 := Try.func51.trans (congrArg some (by kernel_rfl))
  f302 := Try.func62.trans (congrArg some (by kernel_rfl))
  f303 := Try.func63.trans (congrArg some (by kernel_rfl))
  f304 := Try.func64.trans (congrArg some (by kernel_rfl))
  f305 := Try.func65.trans (congrArg some (by kernel_rfl))
  f306 := Try.func66.trans (congrArg some (by kernel_rfl))
  f307 := Try.func67.trans (congrArg some (by kernel_rfl))
  f308 := Try.func68.trans (congrArg some (by kernel_rfl))
  f309 := Try.func69.trans (congrArg some (by kernel_rfl))
  f310 := Try.func70.trans (congrArg some (by kernel_rfl))
  f329 := Try.func79.trans (congrArg some (by kernel_rfl))
  f330 := Try.func80.trans (congrArg some (by kernel_rfl))
  f333 := Try.func78.trans (congrArg some (by kernel_rfl))
  f334 := Try.func81.trans (congrArg some (by kernel_rfl))
  f335 := Try.func82.trans (congrArg some (by kernel_rfl))
  f336 := Try.func83.trans (congrArg some (by kernel_rfl))
  f344 := Try.func86.trans (congrArg some (by kernel_rfl))
  t0 := by kernel_rfl
  a0 := fun w => Go.Proofs.Ev.tagg_run (by kernel_rfl) w
  z0 := fun w => Go.Proofs.Ev.tsize_run (by kernel_rfl) w
  v0 := fun w => Go.Proofs.Ev.zero_run (by kernel_rfl) w
  t3 := by kernel_rfl
  a3 := fun w => Go.Proofs.Ev.tagg_run (by kernel_rfl) w
  z3 := fun w => Go.Proofs.Ev.tsize_run (by kernel_rfl) w
  v3 := fun w => Go.Proofs.Ev.zero_run (by kernel_rfl) w
  t4 := by kernel_rfl
  a4 := fun w => Go.Proofs.Ev.tagg_run (by kernel_rfl) w
  z4 := fun w => Go.Proofs.Ev.tsize_run (by kernel_rfl) w
  v4 := fun w => Go.Proofs.Ev.zero_run (by kernel_rfl) w
  t5 := by kernel_rfl
  a5 := fun w => Go.Proofs.Ev.tagg_run (by kernel_rfl) w
  z5 := fun w => Go.Proofs.Ev.tsize_run (by kernel_rfl) w
  v5 := fun w => Go.Proofs.Ev.zero_run (by kernel_rfl) w
  t9 := by kernel_rfl
  a9 := fun w => Go.Proofs.Ev.tagg_run (by kernel_rfl) w
  z9 := fun w => Go.Proofs.Ev.tsize_run (by kernel_rfl) w
  v9 := fun w => Go.Proofs.Ev.zero_run (by kernel_rfl) w
  t31 := by kernel_rfl
  a31 := fun w => Go.Proofs.Ev.tagg_run (by kernel_rfl) w
  z31 := fun w => Go.Proofs.Ev.tsize_run (by kernel_rfl) w
  v31 := fun w => Go.Proofs.Ev.zero_run (by kernel_rfl) w
  t46 := by kernel_rfl
  a46 := fun w => Go.Proofs.Ev.tagg_run (by kernel_rfl) w
  z46 := fun w => Go.Proofs.Ev.tsize_run (by kernel_rfl) w
  v46 := fun w => Go.Proofs.Ev.zero_run (by kernel_rfl) w
  t51 := by kernel_rfl
  a51 := fun w => Go.Proofs.Ev.tagg_run (by kernel_rfl) w
  z51 := fun w => Go.Proofs.Ev.tsize_run (by kernel_rfl) w
  v51 := fun w => Go.Proofs.Ev.zero_run (by kernel_rfl) w
  t53 := by kernel_rfl
  a53 := fun w => Go.Proofs.Ev.tagg_run (by kernel_rfl) w
  z53 := fun w => Go.Proofs.Ev.tsize_run (by kernel_rfl) w
  v53 := fun w => Go.Proofs.Ev.zero_run (by kernel_rfl) w
  t131 := by kernel_rfl
  a131 := fun w => Go.Proofs.Ev.tagg_run (by kernel_rfl) w
  z131 := fun w => Go.Proofs.Ev.tsize_run (by kernel_rfl) w
  v131 := fun w => Go.Proofs.Ev.zero_run (by kernel_rfl) w
  t182 := by kernel_rfl
  a182 := fun w => Go.Proofs.Ev.tagg_run (by kernel_rfl) w
  z182 := fun w => Go.Proofs.Ev.tsize_run (by kernel_rfl) w
  v182 := fun w => Go.Proofs.Ev.zero_run (by kernel_rfl) w
  t183 := by kernel_rfl
  a183 := fun w => Go.Proofs.Ev.tagg_run (by kernel_rfl) w
  z183 := fun w => Go.Proofs.Ev.tsize_run (by kernel_rfl) w
  v183 := fun w => Go.Proofs.Ev.zero_run (by kernel_rfl) w
  t218 := by kernel_rfl
  a218 := fun w => Go.Proofs.Ev.tagg_run (by kernel_rfl) w
  z218 := fun w => Go.Proofs.Ev.tsize_run (by kernel_rfl) w
  v218 := fun w => Go.Proofs.Ev.zero_run (by kernel_rfl) w
  t222 := by kernel_rfl
  a222 := fun w => Go.Proofs.Ev.tagg_run (by kernel_rfl) w
  z222 := fun w => Go.Proofs.Ev.tsize_run (by kernel_rfl) w
  v222 := fun w => Go.Proofs.Ev.zero_run (by kernel_rfl) w
  t228 := by kernel_rfl
  a228 := fun w => Go.Proofs.Ev.tagg_run (by kernel_rfl) w
  z228 := fun w => Go.Proofs.Ev.tsize_run (by kernel_rfl) w
  v228 := fun w => Go.Proofs.Ev.zero_run (by kernel_rfl) w
  t229 := by kernel_rfl
  a229 := fun w => Go.Proofs.Ev.tagg_run (by kernel_rfl) w
  z229 := fun w => Go.Proofs.Ev.tsize_run (by kernel_rfl) w
  v229 := fun w => Go.Proofs.Ev.zero_run (by kernel_rfl) w
theorem snil37 : Go.Proofs.Ev.SortNil Try.prog 37 := Go.Proofs.Ev.srtNil_ok Try.checked.mixed (k := 60) (by kernel_rfl)
theorem srun37 : Go.Proofs.Ev.SrtSpec Try.prog 37 true := by
  intro blk off cap zs w h1 h2 h3
  have e := Go.Proofs.Ev.sortS_eq zs
  rw [e]
  exact Go.Proofs.Ev.calls_of fun D => Go.Proofs.AnyS.slices_Sort_string_alone lay37 D blk off cap zs w h1 h2 h3
def prims : Prims := fun f => bif Nat.beq f 9 then some .yes else bif Nat.beq f 37 then some (.srt true) else none
theorem code_ok : ∀ f df, tbl f = some df → cFn Try.prog f = some df.toE ∧ df.body.wf = true := by
  intro f df h
  unfold tbl at h
  by_cases h3 : f = 3
  · subst h3; rw [Nat.beq_refl, cond_true] at h; rw [← Option.some.inj h]; exact ⟨k3, w3⟩
  rw [Ev.beq_false _ _ h3, cond_false] at h
  by_cases h4 : f = 4
  · subst h4; rw [Nat.beq_refl, cond_true] at h; rw [← Option.some.inj h]; exact ⟨k4, w4⟩
  rw [Ev.beq_false _ _ h4, cond_false] at h
  by_cases h6 : f = 6
  · subst h6; rw [Nat.beq_refl, cond_true] at h; rw [← Option.some.inj h]; exact ⟨k6, w6⟩
  rw [Ev.beq_false _ _ h6, cond_false] at h
  by_cases h15 : f = 15
  · subst h15; rw [Nat.beq_refl, cond_true] at h; rw [← Option.some.inj h]; exact ⟨k15, w15⟩
  rw [Ev.beq_false _ _ h15, cond_false] at h
  by_cases h13 : f = 13
  · subst h13; rw [Nat.beq_refl, cond_true] at h; rw [← Option.some.inj h]; exact ⟨k13, w13⟩
  rw [Ev.beq_false _ _ h13, cond_false] at h
  by_cases h26 : f = 26
  · subst h26; rw [Nat.beq_refl, cond_true] at h; rw [← Option.some.inj h]; exact ⟨k26, w26⟩
  rw [Ev.beq_false _ _ h26, cond_false] at h
  by_cases h45 : f = 45
  · subst h45; rw [Nat.beq_refl, cond_true] at h; rw [← Option.some.inj h]; exact ⟨k45, w45⟩
  rw [Ev.beq_false _ _ h45, cond_false] at h
  by_cases h20 : f = 20
  · subst h20; rw [Nat.beq_refl, cond_true] at h; rw [← Option.some.inj h]; exact ⟨k20, w20⟩
  rw [Ev.beq_false _ _ h20, cond_false] at h
  by_cases h39 : f = 39
  · subst h39; rw [Nat.beq_refl, cond_true] at h; rw [← Option.some.inj h]; exact ⟨k39, w39⟩
  rw [Ev.beq_false _ _ h39, cond_false] at h
  by_cases h18 : f = 18
  · subst h18; rw [Nat.beq_refl, cond_true] at h; rw [← Option.some.inj h]; exact ⟨k18, w18⟩
  rw [Ev.beq_false _ _ h18, cond_false] at h
  by_cases h21 : f = 21
  · subst h21; rw [Nat.beq_refl, cond_true] at h; rw [← Option.some.inj h]; exact ⟨k21, w21⟩
  rw [Ev.beq_false _ _ h21, cond_false] at h
  by_cases h14 : f = 14
  · subst h14; rw [Nat.beq_refl, cond_true] at h; rw [← Option.some.inj h]; exact ⟨k14, w14⟩
  rw [Ev.beq_false _ _ h14, cond_false] at h
  by_cases h10 : f = 10
  · subst h10; rw [Nat.beq_refl, cond_true] at h; rw [← Option.some.inj h]; exact ⟨k10, w10⟩
  rw [Ev.beq_false _ _ h10, cond_false] at h
  by_cases h16 : f = 16
  · subst h16; rw [Nat.beq_refl, cond_true] at h; rw [← Option.some.inj h]; exact ⟨k16, w16⟩
  rw [Ev.beq_false _ _ h16, cond_false] at h
  by_cases h11 : f = 11
  · subst h11; rw [Nat.beq_refl, cond_true] at h; rw [← Option.some.inj h]; exact ⟨k11, w11⟩
  rw [Ev.beq_false _ _ h11, cond_false] at h
  by_cases h24 : f = 24
  · subst h24; rw [Nat.beq_refl, cond_true] at h; rw [← Option.some.inj h]; exact ⟨k24, w24⟩
  rw [Ev.beq_false _ _ h24, cond_false] at h
  by_cases h27 : f = 27
  · subst h27; rw [Nat.beq_refl, cond_true] at h; rw [← Option.some.inj h]; exact ⟨k27, w27⟩
  rw [Ev.beq_false _ _ h27, cond_false] at h
  by_cases h28 : f = 28
  · subst h28; rw [Nat.beq_refl, cond_true] at h; rw [← Option.some.inj h]; exact ⟨k28, w28⟩
  rw [Ev.beq_false _ _ h28, cond_false] at h
  by_cases h29 : f = 29
  · subst h29; rw [Nat.beq_refl, cond_true] at h; rw [← Option.some.inj h]; exact ⟨k29, w29⟩
  rw [Ev.beq_false _ _ h29, cond_false] at h
  by_cases h33 : f = 33
  · subst h33; rw [Nat.beq_refl, cond_true] at h; rw [← Option.some.inj h]; exact ⟨k33, w33⟩
  rw [Ev.beq_false _ _ h33, cond_false] at h
  by_cases h34 : f = 34
  · subst h34; rw [Nat.beq_refl, cond_true] at h; rw [← Option.some.inj h]; exact ⟨k34, w34⟩
  rw [Ev.beq_false _ _ h34, cond_false] at h
  by_cases h46 : f = 46
  · subst h46; rw [Nat.beq_refl, cond_true] at h; rw [← Option.some.inj h]; exact ⟨k46, w46⟩
  rw [Ev.beq_false _ _ h46, cond_false] at h
  by_cases h60 : f = 60
  · subst h60; rw [Nat.beq_refl, cond_true] at h; rw [← Option.some.inj h]; exact ⟨k60, w60⟩
  rw [Ev.beq_false _ _ h60, cond_false] at h
  by_cases h31 : f = 31
  · subst h31; rw [Nat.beq_refl, cond_true] at h; rw [← Option.some.inj h]; exact ⟨k31, w31⟩
  rw [Ev.beq_false _ _ h31, cond_false] at h
  by_cases h47 : f = 47
  · subst h47; rw [Nat.beq_refl, cond_true] at h; rw [← Option.some.inj h]; exact ⟨k47, w47⟩
  rw [Ev.beq_false _ _ h47, cond_false] at h
  by_cases h59 : f = 59
  · subst h59; rw [Nat.beq_refl, cond_true] at h; rw [← Option.some.inj h]; exact ⟨k59, w59⟩
  rw [Ev.beq_false _ _ h59, cond_false] at h
  by_cases h12 : f = 12
  · subst h12; rw [Nat.beq_refl, cond_true] at h; rw [← Option.some.inj h]; exact ⟨k12, w12⟩
  rw [Ev.beq_false _ _ h12, cond_false] at h
  by_cases h25 : f = 25
  · subst h25; rw [Nat.beq_refl, cond_true] at h; rw [← Option.some.inj h]; exact ⟨k25, w25⟩
  rw [Ev.beq_false _ _ h25, cond_false] at h
  by_cases h44 : f = 44
  · subst h44; rw [Nat.beq_refl, cond_true] at h; rw [← Option.some.inj h]; exact ⟨k44, w44⟩
  rw [Ev.beq_false _ _ h44, cond_false] at h
  by_cases h58 : f = 58
  · subst h58; rw [Nat.beq_refl, cond_true] at h; rw [← Option.some.inj h]; exact ⟨k58, w58⟩
  rw [Ev.beq_false _ _ h58, cond_false] at h
  by_cases h56 : f = 56
  · subst h56; rw [Nat.beq_refl, cond_true] at h; rw [← Option.some.inj h]; exact ⟨k56, w56⟩
  rw [Ev.beq_false _ _ h56, cond_false] at h
  by_cases h77 : f = 77
  · subst h77; rw [Nat.beq_refl, cond_true] at h; rw [← Option.some.inj h]; exact ⟨k77, w77⟩
  rw [Ev.beq_false _ _ h77, cond_false] at h
  by_cases h19 : f = 19
  · subst h19; rw [Nat.beq_refl, cond_true] at h; rw [← Option.some.inj h]; exact ⟨k19, w19⟩
  rw [Ev.beq_false _ _ h19, cond_false] at h
  by_cases h57 : f = 57
  · subst h57; rw [Nat.beq_refl, cond_true] at h; rw [← Option.some.inj h]; exact ⟨k57, w57⟩
  rw [Ev.beq_false _ _ h57, cond_false] at h
  by_cases h35 : f = 35
  · subst h35; rw [Nat.beq_refl, cond_true] at h; rw [← Option.some.inj h]; exact ⟨k35, w35⟩
  rw [Ev.beq_false _ _ h35, cond_false] at h
  by_cases h30 : f = 30
  · subst h30; rw [Nat.beq_refl, cond_true] at h; rw [← Option.some.inj h]; exact ⟨k30, w30⟩
  rw [Ev.beq_false _ _ h30, cond_false] at h
  by_cases h17 : f = 17
  · subst h17; rw [Nat.beq_refl, cond_true] at h; rw [← Option.some.inj h]; exact ⟨k17, w17⟩
  rw [Ev.beq_false _ _ h17, cond_false] at h
  by_cases h32 : f = 32
  · subst h32; rw [Nat.beq_refl, cond_true] at h; rw [← Option.some.inj h]; exact ⟨k32, w32⟩
  rw [Ev.beq_false _ _ h32, cond_false] at h
  by_cases h49 : f = 49
  · subst h49; rw [Nat.beq_refl, cond_true] at h; rw [← Option.some.inj h]; exact ⟨k49, w49⟩
  rw [Ev.beq_false _ _ h49, cond_false] at h
  by_cases h48 : f = 48
  · subst h48; rw [Nat.beq_refl, cond_true] at h; rw [← Option.some.inj h]; exact ⟨k48, w48⟩
  rw [Ev.beq_false _ _ h48, cond_false] at h
  by_cases h61 : f = 61
  · subst h61; rw [Nat.beq_refl, cond_true] at h; rw [← Option.some.inj h]; exact ⟨k61, w61⟩
  rw [Ev.beq_false _ _ h61, cond_false] at h
  by_cases h36 : f = 36
  · subst h36; rw [Nat.beq_refl, cond_true] at h; rw [← Option.some.inj h]; exact ⟨k36, w36⟩
  rw [Ev.beq_false _ _ h36, cond_false] at h
  by_cases h50 : f = 50
  · subst h50; rw [Nat.beq_refl, cond_true] at h; rw [← Option.some.inj h]; exact ⟨k50, w50⟩
  rw [Ev.beq_false _ _ h50, cond_false] at h
  by_cases h38 : f = 38
  · subst h38; rw [Nat.beq_refl, cond_true] at h; rw [← Option.some.inj h]; exact ⟨k38, w38⟩
  rw [Ev.beq_false _ _ h38, cond_false] at h
  by_cases h76 : f = 76
  · subst h76; rw [Nat.beq_refl, cond_true] at h; rw [← Option.some.inj h]; exact ⟨k76, w76⟩
  rw [Ev.beq_false _ _ h76, cond_false] at h
  by_cases h85 : f = 85
  · subst h85; rw [Nat.beq_refl, cond_true] at h; rw [← Option.some.inj h]; exact ⟨k85, w85⟩
  rw [Ev.beq_false _ _ h85, cond_false] at h
  by_cases h22 : f = 22
  · subst h22; rw [Nat.beq_refl, cond_true] at h; rw [← Option.some.inj h]; exact ⟨k22, w22⟩
  rw [Ev.beq_false _ _ h22, cond_false] at h
  cases h
theorem ext_ok : ∀ f g, prims f = none → dx f = some g → ∀ (k : Nat) (ds : List D) (st : Dv.St) (r : D × Dv.St × List Nat) (c : Ct) (H : Heap) (vs : List V), g ds st = some r → SR c st H → Row (DR c H) ds vs → Fol c st H r (eFn Try.prog prims (cFn Try.prog) listHP (k + 1) f vs H) := by
  intro f g _ h
  unfold dx at h
  cases h
theorem extq_ok : ∀ f g, dx f = some g → kSrt (g [.ptr 0 0] ⟨[], [], 0⟩) = none := by
  intro f g h
  unfold dx at h
  cases h
theorem tbl_ok : TblOK Try.prog prims (cFn Try.prog) dx tbl := ⟨fun f df _ _ h => code_ok f df h, extq_ok, ext_ok⟩
theorem yes_okP {P : Program} (hm : P.follows .mixedOrders = true) {pr : Prims} (hpr : PrimsOK P pr) {k f : Nat} (h : saysTrue (evFn P pr k f [] []) = true) (vs : List V) (H : Heap) (v : V) (H' : Heap) (he : evPrim .yes vs H = some (v, H'))
    (β : Inj) (cs : Array Value) (w : World) (hL : LRel β vs cs) (s : Sim β H w) : Calls P f cs w fun e w' => ∃ β' c, e = .returned c ∧ Ext β H w β' H' w' ∧ VRel β' v c := by
  cases vs with
  | cons a l => cases he
  | nil =>
    cases he
    have hc : cs = #[] := by
      obtain ⟨h1, _⟩ := hL
      exact Array.eq_empty_of_size_eq_zero (by simpa using h1.symm)
    subst hc
    refine (closed_true hm hpr h w).mono ?_
    rintro e w' ⟨rfl, hb⟩
    exact ⟨β, .bool true, rfl, ⟨s.as hb, fun _ _ => rfl, Nat.le_refl _, hb.os, hb.tape, hb.output, hb.size, fun B hB _ => hb.block B hB, fun _ h => .inl h⟩, .bool true⟩
theorem prims_ok : PrimsOK Try.prog prims := by
  intro f p h
  unfold prims at h
  by_cases h9 : f = 9
  · subst h9
    rw [Nat.beq_refl, cond_true] at h
    rw [← Option.some.inj h]
    exact ⟨by kernel_rfl, fun vs H v H' he β cs w hr s => yes_okP Try.checked.mixed (noPrims_ok _) (k := 200) (by kernel_rfl) vs H v H' he β cs w hr s⟩
  rw [Go.Proofs.Ev.beq_false _ _ h9, cond_false] at h
  by_cases h37 : f = 37
  · subst h37
    rw [Nat.beq_refl, cond_true] at h
    rw [← Option.some.inj h]
    exact ⟨by kernel_rfl, fun vs H v H' he β cs w hr s => Go.Proofs.Ev.srt_ok snil37 srun37 vs H v H' he β cs w hr s⟩
  rw [Go.Proofs.Ev.beq_false _ _ h37, cond_false] at h
  cases h
end
end Go.Proofs.Ytiloimenibbeoaa.Cd
