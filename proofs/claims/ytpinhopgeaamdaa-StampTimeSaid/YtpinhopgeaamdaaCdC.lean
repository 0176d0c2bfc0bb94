/-
  What is proved here: the texts of the functions, looked up.
  Conditions: none.
-/
import Derived.Test.YtpinhopgeaamdaaRows
import Derived.Test.YtpinhopgeaamdaaDv3
import Derived.KernelRfl
set_option linter.unusedVariables false
set_option linter.unusedSimpArgs false
set_option maxRecDepth 100000
namespace Go.Proofs.Ytpinhopgeaamdaa.Cd
open Go Go.Proofs Go.Proofs.Ev Go.Proofs.Dv
noncomputable section
noncomputable def l7_0 : DC :=
 .seq (.seq (.reg [⟨.op (.mv (.t 6)), (some 16), none⟩, ⟨.op (.mv (.t 0)), (some 17), none⟩, ⟨.op (.len (.t 17)), (some 18), none⟩, ⟨.op (.bin .lss 0 (.t 16) (.t 18)), (some 19), none⟩])
 [0, 3, 4, 5, 6, 19]
 (.cond (.t 19) (.skip) (.exit 0)))
 [0, 3, 4, 5, 6]
 (.seq (.block 1 (.seq (.reg [⟨.op (.mv (.t 0)), (some 22), none⟩, ⟨.op (.mv (.t 6)), (some 23), none⟩, ⟨.op (.ia 2 none (.t 22) (.t 23)), (some 24), none⟩, ⟨.op (.ia 1 (some 2) (.t 24) (.c (.int .i64 0))), (some 25), none⟩, ⟨.op (.ld1 (.t 25)), (some 26), none⟩, ⟨.op (.bin .rem 0 (.t 26) (.c (.int .u8 3))), (some 27), none⟩, ⟨.op (.conv .i64 (.t 27)), (some 28), none⟩, ⟨.op (.mv (.t 28)), (some 7), none⟩])
 [0, 3, 4, 5, 6, 7]
 (.seq (.seq (.reg [⟨.op (.mv (.t 0)), (some 29), none⟩, ⟨.op (.mv (.t 6)), (some 30), none⟩, ⟨.op (.ia 2 none (.t 29) (.t 30)), (some 31), none⟩, ⟨.op (.ia 1 (some 2) (.t 31) (.c (.int .i64 1))), (some 32), none⟩, ⟨.op (.ld1 (.t 32)), (some 33), none⟩, ⟨.op (.bin .rem 0 (.t 33) (.c (.int .u8 2))), (some 34), none⟩, ⟨.op (.bin .eql 0 (.t 34) (.c (.int .u8 0))), (some 35), none⟩])
 [0, 3, 4, 5, 6, 7, 35]
 (.cond (.t 35) (.reg [⟨.op (.mv (.t 7)), (some 36), none⟩, ⟨.op (.ia 1 (some 3) (.t 3) (.c (.int .i64 0))), (some 37), none⟩, ⟨.op (.ld1 (.t 37)), (some 38), none⟩, ⟨.op (.ia 1 (some 3) (.t 3) (.c (.int .i64 1))), (some 39), none⟩, ⟨.op (.ld1 (.t 39)), (some 40), none⟩, ⟨.op (.slow (operAt Try.prog 7 38)), (some 41), none⟩, ⟨.op (.ia 1 (some 3) (.t 3) (.c (.int .i64 2))), (some 42), none⟩, ⟨.op (.ld1 (.t 42)), (some 43), none⟩, ⟨.op (.slow (operAt Try.prog 7 41)), (some 44), none⟩, ⟨.op (.ia 1 (some 3) (.t 3) (.t 36)), (some 45), none⟩, ⟨.op (.st 1 (.t 45) (.t 44)), none, none⟩]) (.skip)))
 [0, 3, 4, 5, 6, 7]
 (.seq (.drw [⟨⟨.op (.mv (.t 7)), (some 47), none⟩, .n, []⟩, ⟨⟨.op (.ia 1 (some 3) (.t 3) (.t 47)), (some 48), none⟩, .n, []⟩, ⟨⟨.op (.ld1 (.t 48)), (some 49), none⟩, .n, []⟩, ⟨⟨.op (.mv (.t 7)), (some 50), none⟩, .n, []⟩, ⟨⟨.op (.bin .add 0 (.t 50) (.c (.int .i64 1))), (some 51), none⟩, .n, []⟩, ⟨⟨.op (.mv (.t 7)), (some 52), none⟩, .n, []⟩, ⟨⟨.op (.ia 1 (some 3) (.t 4) (.t 52)), (some 53), none⟩, .n, []⟩, ⟨⟨.op (.ld1 (.t 53)), (some 54), none⟩, .n, []⟩, ⟨⟨.op (.new [(.int .i64 0), (.int .i64 0), (.int .i64 0)]), (some 8), none⟩, .a, [(true, 7), (true, 2)]⟩, ⟨⟨.call 17 [(.t 49), (.t 51), (.t 54)], (some 55), none⟩, .x, [(false, 8)]⟩, ⟨⟨.op (.mv (.t 55)), (some 46), none⟩, .n, []⟩, ⟨⟨.op (.ext (.t 46) 0), (some 56), none⟩, .n, []⟩, ⟨⟨.op (.ext (.t 46) 1), (some 57), none⟩, .n, []⟩, ⟨⟨.op (.st 3 (.t 8) (.t 56)), none, none⟩, .x, []⟩, ⟨⟨.op (.mv (.t 57)), (some 9), none⟩, .x, []⟩])
 [0, 3, 4, 5, 6, 7, 8, 9]
 (.seq (.seq (.reg [⟨.op (.mv (.t 9)), (some 58), none⟩, ⟨.op (.not (.t 58)), (some 59), none⟩, ⟨.op (.mv (.t 59)), (some 60), none⟩, ⟨.op (.ldn 3 (.t 8)), (some 61), (some (60, false))⟩, ⟨.call 19 [(.t 61)], (some 62), (some (60, false))⟩, ⟨.op (.not (.t 62)), (some 63), (some (60, false))⟩, ⟨.op (.pick (.t 60) (.c (.bool true)) (.t 63)), (some 64), none⟩, ⟨.op (.mv (.t 64)), (some 65), none⟩, ⟨.op (.mv (.t 0)), (some 66), (some (65, false))⟩, ⟨.op (.mv (.t 6)), (some 67), (some (65, false))⟩, ⟨.op (.ia 2 none (.t 66) (.t 67)), (some 68), (some (65, false))⟩, ⟨.op (.ia 1 (some 2) (.t 68) (.c (.int .i64 1))), (some 69), (some (65, false))⟩, ⟨.op (.ld1 (.t 69)), (some 70), (some (65, false))⟩, ⟨.op (.bin .rem 0 (.t 70) (.c (.int .u8 2))), (some 71), (some (65, false))⟩, ⟨.op (.bin .eql 0 (.t 71) (.c (.int .u8 0))), (some 72), (some (65, false))⟩, ⟨.op (.mv (.t 72)), (some 73), (some (65, false))⟩, ⟨.op (.mv (.t 6)), (some 74), (some (73, true))⟩, ⟨.op (.bin .gtr 0 (.t 74) (.c (.int .i64 0))), (some 75), (some (73, true))⟩, ⟨.op (.pick (.t 73) (.t 75) (.c (.bool false))), (some 76), (some (65, false))⟩, ⟨.op (.mv (.t 76)), (some 77), (some (65, false))⟩, ⟨.op (.ldn 3 (.t 5)), (some 78), (some (77, true))⟩, ⟨.op (.ldn 3 (.t 8)), (some 79), (some (77, true))⟩, ⟨.call 21 [(.t 78), (.t 79)], (some 80), (some (77, true))⟩, ⟨.op (.bin .neq 0 (.t 80) (.c (.int .i64 (-1)))), (some 81), (some (77, true))⟩, ⟨.op (.pick (.t 77) (.t 81) (.c (.bool false))), (some 82), (some (65, false))⟩, ⟨.op (.mv (.t 82)), (some 83), (some (65, false))⟩, ⟨.op (.fa 0 (.t 8)), (some 84), (some (83, true))⟩, ⟨.op (.ld1 (.t 84)), (some 85), (some (83, true))⟩, ⟨.op (.fa 0 (.t 5)), (some 86), (some (83, true))⟩, ⟨.op (.ld1 (.t 86)), (some 87), (some (83, true))⟩, ⟨.op (.bin .leq 0 (.t 85) (.t 87)), (some 88), (some (83, true))⟩, ⟨.op (.pick (.t 83) (.t 88) (.c (.bool false))), (some 89), (some (65, false))⟩, ⟨.op (.pick (.t 65) (.c (.bool true)) (.t 89)), (some 90), none⟩])
 [0, 3, 4, 5, 6, 7, 8, 90]
 (.cond (.t 90) (.seq (.reg [⟨.op (.mv (.c (.bool false))), (some 2), none⟩])
 [2]
 (.ret)) (.skip)))
 [0, 3, 4, 5, 6, 7, 8]
 (.seq (.drw [⟨⟨.op (.mv (.t 7)), (some 91), none⟩, .n, []⟩, ⟨⟨.op (.mv (.t 7)), (some 92), none⟩, .n, []⟩, ⟨⟨.op (.fa 0 (.t 8)), (some 93), none⟩, .n, []⟩, ⟨⟨.op (.ld1 (.t 93)), (some 94), none⟩, .n, []⟩, ⟨⟨.op (.fa 2 (.t 8)), (some 95), none⟩, .n, []⟩, ⟨⟨.op (.ld1 (.t 95)), (some 96), none⟩, .n, []⟩, ⟨⟨.op (.ia 1 (some 3) (.t 3) (.t 91)), (some 97), none⟩, .n, []⟩, ⟨⟨.op (.st 1 (.t 97) (.t 94)), none, none⟩, .x, [(true, 5)]⟩, ⟨⟨.op (.ia 1 (some 3) (.t 4) (.t 92)), (some 98), none⟩, .n, []⟩, ⟨⟨.op (.st 1 (.t 98) (.t 96)), none, none⟩, .x, []⟩])
 [0, 3, 4, 5, 6, 8]
 (.seq (.reg [⟨.op (.ldn 3 (.t 5)), (some 99), none⟩, ⟨.op (.ldn 3 (.t 8)), (some 100), none⟩, ⟨.call 21 [(.t 99), (.t 100)], (some 101), none⟩, ⟨.op (.bin .lss 0 (.t 101) (.c (.int .i64 0))), (some 102), none⟩])
 [0, 3, 4, 5, 6, 8, 102]
 (.cond (.t 102) (.reg [⟨.op (.ldn 3 (.t 8)), (some 103), none⟩, ⟨.op (.st 3 (.t 5) (.t 103)), none, none⟩]) (.skip)))))))))
 [0, 3, 4, 5, 6]
 (.reg [⟨.op (.mv (.t 6)), (some 20), none⟩, ⟨.op (.bin .add 0 (.t 20) (.c (.int .i64 1))), (some 21), none⟩, ⟨.op (.mv (.t 21)), (some 6), none⟩]))
theorem u7_0 (call : DCall) (T : Tm) (st : Dv.St) : dCw Try.prog call l7_0 T st = dCw Try.prog call
 (.seq (.seq (.reg [⟨.op (.mv (.t 6)), (some 16), none⟩, ⟨.op (.mv (.t 0)), (some 17), none⟩, ⟨.op (.len (.t 17)), (some 18), none⟩, ⟨.op (.bin .lss 0 (.t 16) (.t 18)), (some 19), none⟩])
 [0, 3, 4, 5, 6, 19]
 (.cond (.t 19) (.skip) (.exit 0)))
 [0, 3, 4, 5, 6]
 (.seq (.block 1 (.seq (.reg [⟨.op (.mv (.t 0)), (some 22), none⟩, ⟨.op (.mv (.t 6)), (some 23), none⟩, ⟨.op (.ia 2 none (.t 22) (.t 23)), (some 24), none⟩, ⟨.op (.ia 1 (some 2) (.t 24) (.c (.int .i64 0))), (some 25), none⟩, ⟨.op (.ld1 (.t 25)), (some 26), none⟩, ⟨.op (.bin .rem 0 (.t 26) (.c (.int .u8 3))), (some 27), none⟩, ⟨.op (.conv .i64 (.t 27)), (some 28), none⟩, ⟨.op (.mv (.t 28)), (some 7), none⟩])
 [0, 3, 4, 5, 6, 7]
 (.seq (.seq (.reg [⟨.op (.mv (.t 0)), (some 29), none⟩, ⟨.op (.mv (.t 6)), (some 30), none⟩, ⟨.op (.ia 2 none (.t 29) (.t 30)), (some 31), none⟩, ⟨.op (.ia 1 (some 2) (.t 31) (.c (.int .i64 1))), (some 32), none⟩, ⟨.op (.ld1 (.t 32)), (some 33), none⟩, ⟨.op (.bin .rem 0 (.t 33) (.c (.int .u8 2))), (some 34), none⟩, ⟨.op (.bin .eql 0 (.t 34) (.c (.int .u8 0))), (some 35), none⟩])
 [0, 3, 4, 5, 6, 7, 35]
 (.cond (.t 35) (.reg [⟨.op (.mv (.t 7)), (some 36), none⟩, ⟨.op (.ia 1 (some 3) (.t 3) (.c (.int .i64 0))), (some 37), none⟩, ⟨.op (.ld1 (.t 37)), (some 38), none⟩, ⟨.op (.ia 1 (some 3) (.t 3) (.c (.int .i64 1))), (some 39), none⟩, ⟨.op (.ld1 (.t 39)), (some 40), none⟩, ⟨.op (.slow (operAt Try.prog 7 38)), (some 41), none⟩, ⟨.op (.ia 1 (some 3) (.t 3) (.c (.int .i64 2))), (some 42), none⟩, ⟨.op (.ld1 (.t 42)), (some 43), none⟩, ⟨.op (.slow (operAt Try.prog 7 41)), (some 44), none⟩, ⟨.op (.ia 1 (some 3) (.t 3) (.t 36)), (some 45), none⟩, ⟨.op (.st 1 (.t 45) (.t 44)), none, none⟩]) (.skip)))
 [0, 3, 4, 5, 6, 7]
 (.seq (.drw [⟨⟨.op (.mv (.t 7)), (some 47), none⟩, .n, []⟩, ⟨⟨.op (.ia 1 (some 3) (.t 3) (.t 47)), (some 48), none⟩, .n, []⟩, ⟨⟨.op (.ld1 (.t 48)), (some 49), none⟩, .n, []⟩, ⟨⟨.op (.mv (.t 7)), (some 50), none⟩, .n, []⟩, ⟨⟨.op (.bin .add 0 (.t 50) (.c (.int .i64 1))), (some 51), none⟩, .n, []⟩, ⟨⟨.op (.mv (.t 7)), (some 52), none⟩, .n, []⟩, ⟨⟨.op (.ia 1 (some 3) (.t 4) (.t 52)), (some 53), none⟩, .n, []⟩, ⟨⟨.op (.ld1 (.t 53)), (some 54), none⟩, .n, []⟩, ⟨⟨.op (.new [(.int .i64 0), (.int .i64 0), (.int .i64 0)]), (some 8), none⟩, .a, [(true, 7), (true, 2)]⟩, ⟨⟨.call 17 [(.t 49), (.t 51), (.t 54)], (some 55), none⟩, .x, [(false, 8)]⟩, ⟨⟨.op (.mv (.t 55)), (some 46), none⟩, .n, []⟩, ⟨⟨.op (.ext (.t 46) 0), (some 56), none⟩, .n, []⟩, ⟨⟨.op (.ext (.t 46) 1), (some 57), none⟩, .n, []⟩, ⟨⟨.op (.st 3 (.t 8) (.t 56)), none, none⟩, .x, []⟩, ⟨⟨.op (.mv (.t 57)), (some 9), none⟩, .x, []⟩])
 [0, 3, 4, 5, 6, 7, 8, 9]
 (.seq (.seq (.reg [⟨.op (.mv (.t 9)), (some 58), none⟩, ⟨.op (.not (.t 58)), (some 59), none⟩, ⟨.op (.mv (.t 59)), (some 60), none⟩, ⟨.op (.ldn 3 (.t 8)), (some 61), (some (60, false))⟩, ⟨.call 19 [(.t 61)], (some 62), (some (60, false))⟩, ⟨.op (.not (.t 62)), (some 63), (some (60, false))⟩, ⟨.op (.pick (.t 60) (.c (.bool true)) (.t 63)), (some 64), none⟩, ⟨.op (.mv (.t 64)), (some 65), none⟩, ⟨.op (.mv (.t 0)), (some 66), (some (65, false))⟩, ⟨.op (.mv (.t 6)), (some 67), (some (65, false))⟩, ⟨.op (.ia 2 none (.t 66) (.t 67)), (some 68), (some (65, false))⟩, ⟨.op (.ia 1 (some 2) (.t 68) (.c (.int .i64 1))), (some 69), (some (65, false))⟩, ⟨.op (.ld1 (.t 69)), (some 70), (some (65, false))⟩, ⟨.op (.bin .rem 0 (.t 70) (.c (.int .u8 2))), (some 71), (some (65, false))⟩, ⟨.op (.bin .eql 0 (.t 71) (.c (.int .u8 0))), (some 72), (some (65, false))⟩, ⟨.op (.mv (.t 72)), (some 73), (some (65, false))⟩, ⟨.op (.mv (.t 6)), (some 74), (some (73, true))⟩, ⟨.op (.bin .gtr 0 (.t 74) (.c (.int .i64 0))), (some 75), (some (73, true))⟩, ⟨.op (.pick (.t 73) (.t 75) (.c (.bool false))), (some 76), (some (65, false))⟩, ⟨.op (.mv (.t 76)), (some 77), (some (65, false))⟩, ⟨.op (.ldn 3 (.t 5)), (some 78), (some (77, true))⟩, ⟨.op (.ldn 3 (.t 8)), (some 79), (some (77, true))⟩, ⟨.call 21 [(.t 78), (.t 79)], (some 80), (some (77, true))⟩, ⟨.op (.bin .neq 0 (.t 80) (.c (.int .i64 (-1)))), (some 81), (some (77, true))⟩, ⟨.op (.pick (.t 77) (.t 81) (.c (.bool false))), (some 82), (some (65, false))⟩, ⟨.op (.mv (.t 82)), (some 83), (some (65, false))⟩, ⟨.op (.fa 0 (.t 8)), (some 84), (some (83, true))⟩, ⟨.op (.ld1 (.t 84)), (some 85), (some (83, true))⟩, ⟨.op (.fa 0 (.t 5)), (some 86), (some (83, true))⟩, ⟨.op (.ld1 (.t 86)), (some 87), (some (83, true))⟩, ⟨.op (.bin .leq 0 (.t 85) (.t 87)), (some 88), (some (83, true))⟩, ⟨.op (.pick (.t 83) (.t 88) (.c (.bool false))), (some 89), (some (65, false))⟩, ⟨.op (.pick (.t 65) (.c (.bool true)) (.t 89)), (some 90), none⟩])
 [0, 3, 4, 5, 6, 7, 8, 90]
 (.cond (.t 90) (.seq (.reg [⟨.op (.mv (.c (.bool false))), (some 2), none⟩])
 [2]
 (.ret)) (.skip)))
 [0, 3, 4, 5, 6, 7, 8]
 (.seq (.drw [⟨⟨.op (.mv (.t 7)), (some 91), none⟩, .n, []⟩, ⟨⟨.op (.mv (.t 7)), (some 92), none⟩, .n, []⟩, ⟨⟨.op (.fa 0 (.t 8)), (some 93), none⟩, .n, []⟩, ⟨⟨.op (.ld1 (.t 93)), (some 94), none⟩, .n, []⟩, ⟨⟨.op (.fa 2 (.t 8)), (some 95), none⟩, .n, []⟩, ⟨⟨.op (.ld1 (.t 95)), (some 96), none⟩, .n, []⟩, ⟨⟨.op (.ia 1 (some 3) (.t 3) (.t 91)), (some 97), none⟩, .n, []⟩, ⟨⟨.op (.st 1 (.t 97) (.t 94)), none, none⟩, .x, [(true, 5)]⟩, ⟨⟨.op (.ia 1 (some 3) (.t 4) (.t 92)), (some 98), none⟩, .n, []⟩, ⟨⟨.op (.st 1 (.t 98) (.t 96)), none, none⟩, .x, []⟩])
 [0, 3, 4, 5, 6, 8]
 (.seq (.reg [⟨.op (.ldn 3 (.t 5)), (some 99), none⟩, ⟨.op (.ldn 3 (.t 8)), (some 100), none⟩, ⟨.call 21 [(.t 99), (.t 100)], (some 101), none⟩, ⟨.op (.bin .lss 0 (.t 101) (.c (.int .i64 0))), (some 102), none⟩])
 [0, 3, 4, 5, 6, 8, 102]
 (.cond (.t 102) (.reg [⟨.op (.ldn 3 (.t 8)), (some 103), none⟩, ⟨.op (.st 3 (.t 5) (.t 103)), none, none⟩]) (.skip)))))))))
 [0, 3, 4, 5, 6]
 (.reg [⟨.op (.mv (.t 6)), (some 20), none⟩, ⟨.op (.bin .add 0 (.t 20) (.c (.int .i64 1))), (some 21), none⟩, ⟨.op (.mv (.t 21)), (some 6), none⟩]))) T st := rfl
/-- cardamom/cardamomlaw1.StampTime -/
noncomputable def c7 : DFn := ⟨104, .pure,
 .seq (.reg [⟨.op (.mv (.c (.bool false))), (some 2), none⟩])
 [0]
 (.seq (.seq (.reg [⟨.call 14 [], (some 10), none⟩, ⟨.op (.not (.t 10)), (some 11), none⟩])
 [0, 11]
 (.cond (.t 11) (.seq (.reg [⟨.op (.mv (.c (.bool false))), (some 2), none⟩])
 [2]
 (.ret)) (.skip)))
 [0]
 (.seq (.seq (.reg [⟨.op (.mv (.t 0)), (some 12), none⟩, ⟨.op (.len (.t 12)), (some 13), none⟩, ⟨.op (.bin .gtr 0 (.t 13) (.c (.int .i64 20))), (some 14), none⟩])
 [0, 14]
 (.cond (.t 14) (.seq (.reg [⟨.op (.mv (.c (.bool true))), (some 2), none⟩])
 [2]
 (.ret)) (.skip)))
 [0]
 (.seq (.reg [⟨.op (.new [(.int .i64 0), (.int .i64 0), (.int .i64 0)]), (some 3), none⟩, ⟨.op (.new [(.int .i64 0), (.int .i64 0), (.int .i64 0)]), (some 4), none⟩])
 [0, 3, 4]
 (.seq (.reg [⟨.op (.build [(.int .i64 0), (.int .i64 0), (.int .i64 0)] []), (some 15), none⟩, ⟨.op (.new [(.int .i64 0), (.int .i64 0), (.int .i64 0)]), (some 5), none⟩, ⟨.op (.st 3 (.t 5) (.t 15)), none, none⟩])
 [0, 3, 4, 5]
 (.seq (.seq (.reg [⟨.op (.mv (.c (.int .i64 0))), (some 6), none⟩])
 [0, 3, 4, 5, 6]
 (.block 0 (.loop [0, 3, 4, 5, 6] (l7_0))))
 []
 (.seq (.reg [⟨.op (.mv (.c (.bool true))), (some 2), none⟩])
 [2]
 (.ret))))))),
 [.tmp 2]⟩
theorem k7 : cFn Try.prog 7 = some c7.toE := by kernel_rfl
theorem w7 : c7.body.wf = true := by kernel_rfl
/-- cardamom/cardamomlaw1.begun -/
noncomputable def c14 : DFn := ⟨28, .pure,
 .seq (.reg [⟨.op (.mv (.c (.bool false))), (some 0), none⟩])
 []
 (.seq (.reg [⟨.call 17 [(.c (.int .i64 4)), (.c (.int .i64 2)), (.c (.int .i64 1))], (some 4), none⟩, ⟨.op (.mv (.t 4)), (some 3), none⟩, ⟨.op (.ext (.t 3) 0), (some 5), none⟩, ⟨.op (.ext (.t 3) 1), (some 6), none⟩, ⟨.op (.new [(.int .i64 0), (.int .i64 0), (.int .i64 0)]), (some 1), none⟩, ⟨.op (.st 3 (.t 1) (.t 5)), none, none⟩, ⟨.op (.mv (.t 6)), (some 2), none⟩])
 [1, 2]
 (.seq (.reg [⟨.op (.mv (.t 2)), (some 7), none⟩, ⟨.op (.mv (.t 7)), (some 8), none⟩, ⟨.op (.ldn 3 (.t 1)), (some 9), (some (8, true))⟩, ⟨.op (.build [(.int .i64 0), (.int .i64 0), (.int .i64 0)] [(0, 1, (.c (.int .i64 5))), (1, 1, (.c (.int .i64 2))), (2, 1, (.c (.int .i64 2)))]), (some 10), (some (8, true))⟩, ⟨.op (.slow (operAt Try.prog 14 12)), (some 11), (some (8, true))⟩, ⟨.op (.pick (.t 8) (.t 11) (.c (.bool false))), (some 12), none⟩, ⟨.op (.mv (.t 12)), (some 13), none⟩, ⟨.op (.ldn 3 (.t 1)), (some 14), (some (13, true))⟩, ⟨.call 19 [(.t 14)], (some 15), (some (13, true))⟩, ⟨.op (.pick (.t 13) (.t 15) (.c (.bool false))), (some 16), none⟩, ⟨.op (.mv (.t 16)), (some 17), none⟩, ⟨.op (.build [(.int .i64 0), (.int .i64 0), (.int .i64 0)] []), (some 18), (some (17, true))⟩, ⟨.call 19 [(.t 18)], (some 19), (some (17, true))⟩, ⟨.op (.not (.t 19)), (some 20), (some (17, true))⟩, ⟨.op (.pick (.t 17) (.t 20) (.c (.bool false))), (some 21), none⟩, ⟨.op (.mv (.t 21)), (some 22), none⟩, ⟨.op (.ldn 3 (.t 1)), (some 23), (some (22, true))⟩, ⟨.op (.build [(.int .i64 0), (.int .i64 0), (.int .i64 0)] [(0, 1, (.c (.int .i64 6))), (1, 1, (.c (.int .i64 1))), (2, 1, (.c (.int .i64 1)))]), (some 24), (some (22, true))⟩, ⟨.call 21 [(.t 23), (.t 24)], (some 25), (some (22, true))⟩, ⟨.op (.bin .eql 0 (.t 25) (.c (.int .i64 (-1)))), (some 26), (some (22, true))⟩, ⟨.op (.pick (.t 22) (.t 26) (.c (.bool false))), (some 27), none⟩, ⟨.op (.mv (.t 27)), (some 0), none⟩])
 [0]
 (.ret))),
 [.tmp 0]⟩
theorem k14 : cFn Try.prog 14 = some c14.toE := by kernel_rfl
theorem w14 : c14.body.wf = true := by kernel_rfl
/-- cardamom/stamp.Next -/
noncomputable def c17 : DFn := ⟨27, .pure,
 .seq (.reg [⟨.op (.new [(.int .i64 0), (.int .i64 0), (.int .i64 0)]), (some 6), none⟩, ⟨.op (.mv (.c (.bool false))), (some 7), none⟩])
 [0, 1, 2, 6]
 (.seq (.seq (.reg [⟨.op (.mv (.t 0)), (some 9), none⟩, ⟨.op (.bin .geq 0 (.t 9) (.c (.int .i64 5000))), (some 10), none⟩, ⟨.op (.mv (.t 10)), (some 11), none⟩, ⟨.op (.mv (.t 2)), (some 12), (some (11, false))⟩, ⟨.op (.bin .geq 0 (.t 12) (.c (.int .i64 1000))), (some 13), (some (11, false))⟩, ⟨.op (.pick (.t 11) (.c (.bool true)) (.t 13)), (some 14), none⟩])
 [0, 1, 2, 6, 14]
 (.cond (.t 14) (.seq (.reg [⟨.op (.build [(.int .i64 0), (.int .i64 0), (.int .i64 0)] []), (some 15), none⟩, ⟨.op (.st 3 (.t 6) (.t 15)), none, none⟩, ⟨.op (.mv (.c (.bool false))), (some 7), none⟩])
 [6, 7]
 (.ret)) (.skip)))
 [0, 1, 2, 6]
 (.seq (.reg [⟨.op (.mv (.t 0)), (some 16), none⟩, ⟨.op (.bin .add 0 (.t 16) (.c (.int .i64 1))), (some 17), none⟩, ⟨.op (.mv (.t 1)), (some 18), none⟩, ⟨.op (.mv (.t 2)), (some 19), none⟩, ⟨.op (.bin .add 0 (.t 19) (.c (.int .i64 1))), (some 20), none⟩, ⟨.op (.build [(.int .i64 0), (.int .i64 0), (.int .i64 0)] [(0, 1, (.t 17)), (1, 1, (.t 18)), (2, 1, (.t 20))]), (some 21), none⟩, ⟨.op (.new [(.int .i64 0), (.int .i64 0), (.int .i64 0)]), (some 8), none⟩, ⟨.op (.st 3 (.t 8) (.t 21)), none, none⟩])
 [6, 8]
 (.seq (.seq (.reg [⟨.op (.ldn 3 (.t 8)), (some 22), none⟩, ⟨.call 19 [(.t 22)], (some 23), none⟩, ⟨.op (.not (.t 23)), (some 24), none⟩])
 [6, 8, 24]
 (.cond (.t 24) (.seq (.reg [⟨.op (.build [(.int .i64 0), (.int .i64 0), (.int .i64 0)] []), (some 25), none⟩, ⟨.op (.st 3 (.t 6) (.t 25)), none, none⟩, ⟨.op (.mv (.c (.bool false))), (some 7), none⟩])
 [6, 7]
 (.ret)) (.skip)))
 [6, 8]
 (.seq (.reg [⟨.op (.ldn 3 (.t 8)), (some 26), none⟩, ⟨.op (.st 3 (.t 6) (.t 26)), none, none⟩, ⟨.op (.mv (.c (.bool true))), (some 7), none⟩])
 [6, 7]
 (.ret))))),
 [.celln 3 6, .tmp 7]⟩
theorem k17 : cFn Try.prog 17 = some c17.toE := by kernel_rfl
theorem w17 : c17.body.wf = true := by kernel_rfl
/-- cardamom/stamp.May -/
noncomputable def c19 : DFn := ⟨9, .pure,
 .seq (.reg [⟨.op (.box (.t 0)), (some 1), none⟩, ⟨.op (.mv (.c (.bool false))), (some 2), none⟩])
 [1]
 (.seq (.reg [⟨.op (.ldn 3 (.t 1)), (some 3), none⟩, ⟨.call 41 [(.t 3)], (some 4), none⟩, ⟨.op (.build [] []), (some 5), none⟩, ⟨.op (.ifc 79 (.t 5)), (some 6), none⟩, ⟨.call 40 [(.t 4), (.t 6)], (some 7), none⟩, ⟨.op (.not (.t 7)), (some 8), none⟩, ⟨.op (.mv (.t 8)), (some 2), none⟩])
 [2]
 (.ret)),
 [.tmp 2]⟩
theorem k19 : cFn Try.prog 19 = some c19.toE := by kernel_rfl
theorem w19 : c19.body.wf = true := by kernel_rfl
/-- cardamom/stamp.check -/
noncomputable def c41 : DFn := ⟨17, .pure,
 .seq (.reg [⟨.op (.box (.t 0)), (some 1), none⟩, ⟨.op (.mv (.c .nilifc)), (some 2), none⟩])
 [1]
 (.seq (.drw [⟨⟨.op (.fa 0 (.t 1)), (some 3), none⟩, .n, []⟩, ⟨⟨.op (.ld1 (.t 3)), (some 4), none⟩, .n, []⟩, ⟨⟨.op (.fa 1 (.t 1)), (some 6), none⟩, .n, []⟩, ⟨⟨.op (.ld1 (.t 6)), (some 7), none⟩, .n, []⟩, ⟨⟨.op (.fa 2 (.t 1)), (some 9), none⟩, .n, []⟩, ⟨⟨.op (.ld1 (.t 9)), (some 10), none⟩, .n, []⟩, ⟨⟨.op (.fa 0 (.t 1)), (some 11), none⟩, .n, []⟩, ⟨⟨.op (.ld1 (.t 11)), (some 12), none⟩, .n, []⟩, ⟨⟨.op (.slow (operAt Try.prog 41 12)), (some 13), none⟩, .n, []⟩, ⟨⟨.call 70 [(.c (.str [116, 105, 109, 101])), (.t 4), (.c (.int .i64 5000))], (some 5), none⟩, .x, [(true, 7), (true, 5), (true, 3)]⟩, ⟨⟨.call 70 [(.c (.str [114, 101, 112, 108, 105, 99, 97])), (.t 7), (.c (.int .i64 5))], (some 8), none⟩, .x, [(true, 7), (true, 5)]⟩, ⟨⟨.call 70 [(.c (.str [110, 117, 109, 98, 101, 114])), (.t 10), (.t 13)], (some 14), none⟩, .x, []⟩, ⟨⟨.op (.bslice 1 3 [.nilifc, .nilifc, .nilifc] [(0, 1, (.t 5)), (1, 1, (.t 8)), (2, 1, (.t 14))]), (some 15), none⟩, .a, [(true, 7), (true, 5), (true, 3), (true, 1)]⟩, ⟨⟨.call 69 [(.t 15)], (some 16), none⟩, .x, []⟩, ⟨⟨.op (.mv (.t 16)), (some 2), none⟩, .x, []⟩])
 [2]
 (.ret)),
 [.tmp 2]⟩
theorem k41 : cFn Try.prog 41 = some c41.toE := by kernel_rfl
theorem w41 : c41.body.wf = true := by kernel_rfl
/-- cardamom/stamp.within -/
noncomputable def c70 : DFn := ⟨19, .pure,
 .seq (.reg [⟨.op (.mv (.c .nilifc)), (some 6), none⟩])
 [0, 1, 2]
 (.seq (.seq (.reg [⟨.op (.mv (.t 1)), (some 7), none⟩, ⟨.op (.bin .lss 0 (.t 7) (.c (.int .i64 1))), (some 8), none⟩, ⟨.op (.mv (.t 8)), (some 9), none⟩, ⟨.op (.mv (.t 1)), (some 10), (some (9, false))⟩, ⟨.op (.mv (.t 2)), (some 11), (some (9, false))⟩, ⟨.op (.bin .gtr 0 (.t 10) (.t 11)), (some 12), (some (9, false))⟩, ⟨.op (.pick (.t 9) (.c (.bool true)) (.t 12)), (some 13), none⟩])
 [0, 13]
 (.cond (.t 13) (.seq (.reg [⟨.op (.mv (.t 0)), (some 14), none⟩, ⟨.op (.build [] []), (some 15), none⟩, ⟨.op (.ifc 79 (.t 15)), (some 16), none⟩, ⟨.op (.build [(.str []), .nilifc] [(0, 1, (.t 14)), (1, 1, (.t 16))]), (some 17), none⟩, ⟨.op (.ifc 139 (.t 17)), (some 18), none⟩, ⟨.op (.mv (.t 18)), (some 6), none⟩])
 [6]
 (.ret)) (.skip)))
 []
 (.seq (.reg [⟨.op (.mv (.c .nilifc)), (some 6), none⟩])
 [6]
 (.ret))),
 [.tmp 6]⟩
theorem k70 : cFn Try.prog 70 = some c70.toE := by kernel_rfl
theorem w70 : c70.body.wf = true := by kernel_rfl
/-- cardamom/stamp.Compare -/
noncomputable def c21 : DFn := ⟨22, .pure,
 .seq (.reg [⟨.op (.box (.t 0)), (some 2), none⟩, ⟨.op (.box (.t 1)), (some 3), none⟩, ⟨.op (.mv (.c (.int .i64 0))), (some 4), none⟩])
 [2, 3]
 (.seq (.drw [⟨⟨.op (.fa 0 (.t 2)), (some 5), none⟩, .n, []⟩, ⟨⟨.op (.ld1 (.t 5)), (some 6), none⟩, .n, []⟩, ⟨⟨.op (.fa 0 (.t 3)), (some 7), none⟩, .n, []⟩, ⟨⟨.op (.ld1 (.t 7)), (some 8), none⟩, .n, []⟩, ⟨⟨.op (.fa 1 (.t 2)), (some 10), none⟩, .n, []⟩, ⟨⟨.op (.ld1 (.t 10)), (some 11), none⟩, .n, []⟩, ⟨⟨.op (.fa 1 (.t 3)), (some 12), none⟩, .n, []⟩, ⟨⟨.op (.ld1 (.t 12)), (some 13), none⟩, .n, []⟩, ⟨⟨.op (.fa 2 (.t 2)), (some 15), none⟩, .n, []⟩, ⟨⟨.op (.ld1 (.t 15)), (some 16), none⟩, .n, []⟩, ⟨⟨.op (.fa 2 (.t 3)), (some 17), none⟩, .n, []⟩, ⟨⟨.op (.ld1 (.t 17)), (some 18), none⟩, .n, []⟩, ⟨⟨.call 43 [(.t 6), (.t 8)], (some 9), none⟩, .x, [(true, 11), (true, 9), (true, 7), (true, 5)]⟩, ⟨⟨.call 43 [(.t 11), (.t 13)], (some 14), none⟩, .x, [(true, 11), (true, 9)]⟩, ⟨⟨.call 43 [(.t 16), (.t 18)], (some 19), none⟩, .x, []⟩, ⟨⟨.op (.bslice 1 3 [(.int .i64 0), (.int .i64 0), (.int .i64 0)] [(0, 1, (.t 9)), (1, 1, (.t 14)), (2, 1, (.t 19))]), (some 20), none⟩, .a, [(true, 11), (true, 9), (true, 7), (true, 5), (true, 3), (true, 1)]⟩, ⟨⟨.call 42 [(.t 20)], (some 21), none⟩, .x, []⟩, ⟨⟨.op (.mv (.t 21)), (some 4), none⟩, .x, []⟩])
 [4]
 (.ret)),
 [.tmp 4]⟩
theorem k21 : cFn Try.prog 21 = some c21.toE := by kernel_rfl
theorem w21 : c21.body.wf = true := by kernel_rfl
/-- cmp.Compare[int] -/
noncomputable def c43 : DFn := ⟨20, .pure,
 .seq (.reg [⟨.op (.mv (.c (.int .i64 0))), (some 4), none⟩])
 [0, 1]
 (.seq (.reg [⟨.op (.mv (.t 0)), (some 7), none⟩, ⟨.call 71 [(.t 7)], (some 8), none⟩, ⟨.op (.mv (.t 8)), (some 5), none⟩])
 [0, 1, 5]
 (.seq (.reg [⟨.op (.mv (.t 1)), (some 9), none⟩, ⟨.call 71 [(.t 9)], (some 10), none⟩, ⟨.op (.mv (.t 10)), (some 6), none⟩])
 [0, 1, 5, 6]
 (.seq (.seq (.reg [⟨.op (.mv (.t 5)), (some 11), none⟩])
 [0, 1, 6, 11]
 (.cond (.t 11) (.seq (.seq (.reg [⟨.op (.mv (.t 6)), (some 12), none⟩])
 [12]
 (.cond (.t 12) (.seq (.reg [⟨.op (.mv (.c (.int .i64 0))), (some 4), none⟩])
 [4]
 (.ret)) (.skip)))
 []
 (.seq (.reg [⟨.op (.mv (.c (.int .i64 (-1)))), (some 4), none⟩])
 [4]
 (.ret))) (.skip)))
 [0, 1, 6]
 (.seq (.seq (.reg [⟨.op (.mv (.t 6)), (some 13), none⟩])
 [0, 1, 13]
 (.cond (.t 13) (.seq (.reg [⟨.op (.mv (.c (.int .i64 1))), (some 4), none⟩])
 [4]
 (.ret)) (.skip)))
 [0, 1]
 (.seq (.seq (.reg [⟨.op (.mv (.t 0)), (some 14), none⟩, ⟨.op (.mv (.t 1)), (some 15), none⟩, ⟨.op (.bin .lss 0 (.t 14) (.t 15)), (some 16), none⟩])
 [0, 1, 16]
 (.cond (.t 16) (.seq (.reg [⟨.op (.mv (.c (.int .i64 (-1)))), (some 4), none⟩])
 [4]
 (.ret)) (.skip)))
 [0, 1]
 (.seq (.seq (.reg [⟨.op (.mv (.t 0)), (some 17), none⟩, ⟨.op (.mv (.t 1)), (some 18), none⟩, ⟨.op (.bin .gtr 0 (.t 17) (.t 18)), (some 19), none⟩])
 [19]
 (.cond (.t 19) (.seq (.reg [⟨.op (.mv (.c (.int .i64 1))), (some 4), none⟩])
 [4]
 (.ret)) (.skip)))
 []
 (.seq (.reg [⟨.op (.mv (.c (.int .i64 0))), (some 4), none⟩])
 [4]
 (.ret)))))))),
 [.tmp 4]⟩
theorem k43 : cFn Try.prog 43 = some c43.toE := by kernel_rfl
theorem w43 : c43.body.wf = true := by kernel_rfl
noncomputable def l42_0 : DC :=
 .seq (.reg [⟨.op (.bin .lss 0 (.t 8) (.t 7)), (some 9), none⟩])
 [3, 6, 7, 8, 9]
 (.seq (.cond (.t 9) (.skip) (.exit 0))
 [3, 6, 7, 8]
 (.seq (.block 1 (.seq (.reg [⟨.op (.ia 1 none (.t 6) (.t 8)), (some 10), none⟩, ⟨.op (.ld1 (.t 10)), (some 11), none⟩, ⟨.op (.mv (.t 11)), (some 5), none⟩])
 [3, 5, 6, 7, 8]
 (.seq (.reg [⟨.op (.mv (.t 5)), (some 12), none⟩, ⟨.op (.mv (.t 3)), (some 13), none⟩, ⟨.op (.bin .neq 0 (.t 12) (.t 13)), (some 14), none⟩])
 [3, 5, 6, 7, 8, 14]
 (.cond (.t 14) (.seq (.reg [⟨.op (.mv (.t 5)), (some 15), none⟩, ⟨.op (.mv (.t 15)), (some 2), none⟩])
 [2]
 (.ret)) (.skip)))))
 [3, 6, 7, 8]
 (.reg [⟨.op (.bin .add 0 (.t 8) (.c (.int .i64 1))), (some 16), none⟩, ⟨.op (.mv (.t 16)), (some 8), none⟩])))
theorem u42_0 (call : DCall) (T : Tm) (st : Dv.St) : dCw Try.prog call l42_0 T st = dCw Try.prog call
 (.seq (.reg [⟨.op (.bin .lss 0 (.t 8) (.t 7)), (some 9), none⟩])
 [3, 6, 7, 8, 9]
 (.seq (.cond (.t 9) (.skip) (.exit 0))
 [3, 6, 7, 8]
 (.seq (.block 1 (.seq (.reg [⟨.op (.ia 1 none (.t 6) (.t 8)), (some 10), none⟩, ⟨.op (.ld1 (.t 10)), (some 11), none⟩, ⟨.op (.mv (.t 11)), (some 5), none⟩])
 [3, 5, 6, 7, 8]
 (.seq (.reg [⟨.op (.mv (.t 5)), (some 12), none⟩, ⟨.op (.mv (.t 3)), (some 13), none⟩, ⟨.op (.bin .neq 0 (.t 12) (.t 13)), (some 14), none⟩])
 [3, 5, 6, 7, 8, 14]
 (.cond (.t 14) (.seq (.reg [⟨.op (.mv (.t 5)), (some 15), none⟩, ⟨.op (.mv (.t 15)), (some 2), none⟩])
 [2]
 (.ret)) (.skip)))))
 [3, 6, 7, 8]
 (.reg [⟨.op (.bin .add 0 (.t 8) (.c (.int .i64 1))), (some 16), none⟩, ⟨.op (.mv (.t 16)), (some 8), none⟩])))) T st := rfl
/-- cmp.Or[int] -/
noncomputable def c42 : DFn := ⟨18, .pure,
 .seq (.reg [⟨.op (.mv (.c (.int .i64 0))), (some 2), none⟩])
 [0]
 (.seq (.reg [⟨.op (.mv (.c (.int .i64 0))), (some 3), none⟩])
 [0, 3]
 (.seq (.seq (.reg [⟨.op (.mv (.t 0)), (some 6), none⟩, ⟨.op (.len (.t 6)), (some 7), none⟩, ⟨.op (.mv (.c (.int .i64 0))), (some 8), none⟩])
 [3, 6, 7, 8]
 (.block 0 (.loop [3, 6, 7, 8] (l42_0))))
 [3]
 (.seq (.reg [⟨.op (.mv (.t 3)), (some 17), none⟩, ⟨.op (.mv (.t 17)), (some 2), none⟩])
 [2]
 (.ret)))),
 [.tmp 2]⟩
theorem k42 : cFn Try.prog 42 = some c42.toE := by kernel_rfl
theorem w42 : c42.body.wf = true := by kernel_rfl
/-- cmp.isNaN[int] -/
noncomputable def c71 : DFn := ⟨6, .pure,
 .seq (.reg [⟨.op (.mv (.c (.bool false))), (some 2), none⟩])
 [0]
 (.seq (.reg [⟨.op (.mv (.t 0)), (some 3), none⟩, ⟨.op (.mv (.t 0)), (some 4), none⟩, ⟨.op (.bin .neq 0 (.t 3) (.t 4)), (some 5), none⟩, ⟨.op (.mv (.t 5)), (some 2), none⟩])
 [2]
 (.ret)),
 [.tmp 2]⟩
theorem k71 : cFn Try.prog 71 = some c71.toE := by kernel_rfl
theorem w71 : c71.body.wf = true := by kernel_rfl
/-- errors.Is -/
noncomputable def c40 : DFn := ⟨22, .pure,
 .seq (.reg [⟨.op (.mv (.c (.bool false))), (some 4), none⟩])
 [0, 1]
 (.seq (.seq (.reg [⟨.op (.mv (.t 0)), (some 6), none⟩, ⟨.op (.bin .eql 4 (.t 6) (.c .nilifc)), (some 7), none⟩, ⟨.op (.mv (.t 7)), (some 8), none⟩, ⟨.op (.mv (.t 1)), (some 9), (some (8, false))⟩, ⟨.op (.bin .eql 4 (.t 9) (.c .nilifc)), (some 10), (some (8, false))⟩, ⟨.op (.pick (.t 8) (.c (.bool true)) (.t 10)), (some 11), none⟩])
 [0, 1, 11]
 (.cond (.t 11) (.seq (.reg [⟨.op (.mv (.t 0)), (some 12), none⟩, ⟨.op (.mv (.t 1)), (some 13), none⟩, ⟨.op (.slow (operAt Try.prog 40 9)), (some 14), none⟩, ⟨.op (.mv (.t 14)), (some 4), none⟩])
 [4]
 (.ret)) (.skip)))
 [0, 1]
 (.seq (.reg [⟨.op (.mv (.t 1)), (some 15), none⟩, ⟨.ext (operAt Try.prog 40 12), (some 16), none⟩, ⟨.inv (.t 16) "Comparable" [] (operAt Try.prog 40 13), (some 17), none⟩, ⟨.op (.mv (.t 17)), (some 5), none⟩])
 [0, 1, 5]
 (.seq (.reg [⟨.op (.mv (.t 0)), (some 18), none⟩, ⟨.op (.mv (.t 1)), (some 19), none⟩, ⟨.op (.mv (.t 5)), (some 20), none⟩, ⟨.call 68 [(.t 18), (.t 19), (.t 20)], (some 21), none⟩, ⟨.op (.mv (.t 21)), (some 4), none⟩])
 [4]
 (.ret)))),
 [.tmp 4]⟩
theorem k40 : cFn Try.prog 40 = some c40.toE := by kernel_rfl
theorem w40 : c40.body.wf = true := by kernel_rfl
noncomputable def l68_0 : DC :=
 .seq (.reg [⟨.op (.bin .lss 0 (.t 45) (.t 44)), (some 46), none⟩])
 [1, 2, 43, 44, 45, 46]
 (.seq (.cond (.t 46) (.skip) (.exit 3))
 [1, 2, 43, 44, 45]
 (.seq (.block 4 (.seq (.reg [⟨.op (.ia 1 none (.t 43) (.t 45)), (some 47), none⟩, ⟨.op (.ld1 (.t 47)), (some 48), none⟩, ⟨.op (.mv (.t 48)), (some 12), none⟩])
 [1, 2, 12, 43, 44, 45]
 (.seq (.reg [⟨.op (.mv (.t 12)), (some 49), none⟩, ⟨.op (.mv (.t 1)), (some 50), none⟩, ⟨.op (.mv (.t 2)), (some 51), none⟩, ⟨.call 68 [(.t 49), (.t 50), (.t 51)], (some 52), none⟩])
 [1, 2, 43, 44, 45, 52]
 (.cond (.t 52) (.seq (.reg [⟨.op (.mv (.c (.bool true))), (some 6), none⟩])
 [6]
 (.ret)) (.skip)))))
 [1, 2, 43, 44, 45]
 (.reg [⟨.op (.bin .add 0 (.t 45) (.c (.int .i64 1))), (some 53), none⟩, ⟨.op (.mv (.t 53)), (some 45), none⟩])))
theorem u68_0 (call : DCall) (T : Tm) (st : Dv.St) : dCw Try.prog call l68_0 T st = dCw Try.prog call
 (.seq (.reg [⟨.op (.bin .lss 0 (.t 45) (.t 44)), (some 46), none⟩])
 [1, 2, 43, 44, 45, 46]
 (.seq (.cond (.t 46) (.skip) (.exit 3))
 [1, 2, 43, 44, 45]
 (.seq (.block 4 (.seq (.reg [⟨.op (.ia 1 none (.t 43) (.t 45)), (some 47), none⟩, ⟨.op (.ld1 (.t 47)), (some 48), none⟩, ⟨.op (.mv (.t 48)), (some 12), none⟩])
 [1, 2, 12, 43, 44, 45]
 (.seq (.reg [⟨.op (.mv (.t 12)), (some 49), none⟩, ⟨.op (.mv (.t 1)), (some 50), none⟩, ⟨.op (.mv (.t 2)), (some 51), none⟩, ⟨.call 68 [(.t 49), (.t 50), (.t 51)], (some 52), none⟩])
 [1, 2, 43, 44, 45, 52]
 (.cond (.t 52) (.seq (.reg [⟨.op (.mv (.c (.bool true))), (some 6), none⟩])
 [6]
 (.ret)) (.skip)))))
 [1, 2, 43, 44, 45]
 (.reg [⟨.op (.bin .add 0 (.t 45) (.c (.int .i64 1))), (some 53), none⟩, ⟨.op (.mv (.t 53)), (some 45), none⟩])))) T st := rfl
noncomputable def l68_1 : DC :=
 .block 1 (.seq (.seq (.reg [⟨.op (.mv (.t 2)), (some 14), none⟩, ⟨.op (.mv (.t 14)), (some 15), none⟩, ⟨.op (.mv (.t 0)), (some 16), (some (15, true))⟩, ⟨.op (.mv (.t 1)), (some 17), (some (15, true))⟩, ⟨.op (.slow (operAt Try.prog 68 5)), (some 18), (some (15, true))⟩, ⟨.op (.pick (.t 15) (.t 18) (.c (.bool false))), (some 19), none⟩])
 [0, 1, 2, 19]
 (.cond (.t 19) (.seq (.reg [⟨.op (.mv (.c (.bool true))), (some 6), none⟩])
 [6]
 (.ret)) (.skip)))
 [0, 1, 2]
 (.seq (.seq (.reg [⟨.op (.mv (.t 0)), (some 21), none⟩, ⟨.op (.slow (operAt Try.prog 68 9)), (some 22), none⟩, ⟨.op (.mv (.t 22)), (some 20), none⟩, ⟨.op (.ext (.t 20) 0), (some 23), none⟩, ⟨.op (.ext (.t 20) 1), (some 24), none⟩, ⟨.op (.mv (.t 23)), (some 7), none⟩, ⟨.op (.mv (.t 24)), (some 8), none⟩])
 [0, 1, 2, 7, 8]
 (.seq (.reg [⟨.op (.mv (.t 8)), (some 25), none⟩, ⟨.op (.mv (.t 25)), (some 26), none⟩, ⟨.op (.mv (.t 7)), (some 27), (some (26, true))⟩, ⟨.op (.mv (.t 1)), (some 28), (some (26, true))⟩, ⟨.inv (.t 27) "Is" [(.t 28)] (operAt Try.prog 68 19), (some 29), (some (26, true))⟩, ⟨.op (.pick (.t 26) (.t 29) (.c (.bool false))), (some 30), none⟩])
 [0, 1, 2, 30]
 (.cond (.t 30) (.seq (.reg [⟨.op (.mv (.c (.bool true))), (some 6), none⟩])
 [6]
 (.ret)) (.skip))))
 [0, 1, 2]
 (.seq (.reg [⟨.op (.mv (.t 0)), (some 31), none⟩])
 [1, 2, 31]
 (.block 2 (.seq (.reg [⟨.op (.slow (operAt Try.prog 68 23)), (some 32), none⟩, ⟨.op (.ext (.t 32) 1), (some 33), none⟩, ⟨.op (.ext (.t 32) 0), (some 34), none⟩])
 [1, 2, 31, 33, 34]
 (.cond (.t 33) (.seq (.reg [⟨.op (.mv (.t 34)), (some 9), none⟩])
 [1, 2, 9]
 (.seq (.reg [⟨.op (.mv (.t 9)), (some 35), none⟩, ⟨.inv (.t 35) "Unwrap" [] (operAt Try.prog 68 28), (some 36), none⟩, ⟨.op (.mv (.t 36)), (some 0), none⟩])
 [0, 1, 2]
 (.seq (.reg [⟨.op (.mv (.t 0)), (some 37), none⟩, ⟨.op (.bin .eql 4 (.t 37) (.c .nilifc)), (some 38), none⟩])
 [0, 1, 2, 38]
 (.cond (.t 38) (.seq (.reg [⟨.op (.mv (.c (.bool false))), (some 6), none⟩])
 [6]
 (.ret)) (.skip))))) (.seq (.reg [⟨.op (.slow (operAt Try.prog 68 33)), (some 39), none⟩, ⟨.op (.ext (.t 39) 1), (some 40), none⟩, ⟨.op (.ext (.t 39) 0), (some 41), none⟩])
 [1, 2, 31, 40, 41]
 (.cond (.t 40) (.seq (.reg [⟨.op (.mv (.t 41)), (some 10), none⟩])
 [1, 2, 10]
 (.seq (.seq (.reg [⟨.op (.mv (.t 10)), (some 42), none⟩, ⟨.inv (.t 42) "Unwrap" [] (operAt Try.prog 68 38), (some 43), none⟩, ⟨.op (.len (.t 43)), (some 44), none⟩, ⟨.op (.mv (.c (.int .i64 0))), (some 45), none⟩])
 [1, 2, 43, 44, 45]
 (.block 3 (.loop [1, 2, 43, 44, 45] (l68_0))))
 []
 (.seq (.reg [⟨.op (.mv (.c (.bool false))), (some 6), none⟩])
 [6]
 (.ret)))) (.seq (.reg [⟨.op (.mv (.t 31)), (some 13), none⟩])
 []
 (.seq (.reg [⟨.op (.mv (.c (.bool false))), (some 6), none⟩])
 [6]
 (.ret)))))))))))
theorem u68_1 (call : DCall) (T : Tm) (st : Dv.St) : dCw Try.prog call l68_1 T st = dCw Try.prog call
 (.block 1 (.seq (.seq (.reg [⟨.op (.mv (.t 2)), (some 14), none⟩, ⟨.op (.mv (.t 14)), (some 15), none⟩, ⟨.op (.mv (.t 0)), (some 16), (some (15, true))⟩, ⟨.op (.mv (.t 1)), (some 17), (some (15, true))⟩, ⟨.op (.slow (operAt Try.prog 68 5)), (some 18), (some (15, true))⟩, ⟨.op (.pick (.t 15) (.t 18) (.c (.bool false))), (some 19), none⟩])
 [0, 1, 2, 19]
 (.cond (.t 19) (.seq (.reg [⟨.op (.mv (.c (.bool true))), (some 6), none⟩])
 [6]
 (.ret)) (.skip)))
 [0, 1, 2]
 (.seq (.seq (.reg [⟨.op (.mv (.t 0)), (some 21), none⟩, ⟨.op (.slow (operAt Try.prog 68 9)), (some 22), none⟩, ⟨.op (.mv (.t 22)), (some 20), none⟩, ⟨.op (.ext (.t 20) 0), (some 23), none⟩, ⟨.op (.ext (.t 20) 1), (some 24), none⟩, ⟨.op (.mv (.t 23)), (some 7), none⟩, ⟨.op (.mv (.t 24)), (some 8), none⟩])
 [0, 1, 2, 7, 8]
 (.seq (.reg [⟨.op (.mv (.t 8)), (some 25), none⟩, ⟨.op (.mv (.t 25)), (some 26), none⟩, ⟨.op (.mv (.t 7)), (some 27), (some (26, true))⟩, ⟨.op (.mv (.t 1)), (some 28), (some (26, true))⟩, ⟨.inv (.t 27) "Is" [(.t 28)] (operAt Try.prog 68 19), (some 29), (some (26, true))⟩, ⟨.op (.pick (.t 26) (.t 29) (.c (.bool false))), (some 30), none⟩])
 [0, 1, 2, 30]
 (.cond (.t 30) (.seq (.reg [⟨.op (.mv (.c (.bool true))), (some 6), none⟩])
 [6]
 (.ret)) (.skip))))
 [0, 1, 2]
 (.seq (.reg [⟨.op (.mv (.t 0)), (some 31), none⟩])
 [1, 2, 31]
 (.block 2 (.seq (.reg [⟨.op (.slow (operAt Try.prog 68 23)), (some 32), none⟩, ⟨.op (.ext (.t 32) 1), (some 33), none⟩, ⟨.op (.ext (.t 32) 0), (some 34), none⟩])
 [1, 2, 31, 33, 34]
 (.cond (.t 33) (.seq (.reg [⟨.op (.mv (.t 34)), (some 9), none⟩])
 [1, 2, 9]
 (.seq (.reg [⟨.op (.mv (.t 9)), (some 35), none⟩, ⟨.inv (.t 35) "Unwrap" [] (operAt Try.prog 68 28), (some 36), none⟩, ⟨.op (.mv (.t 36)), (some 0), none⟩])
 [0, 1, 2]
 (.seq (.reg [⟨.op (.mv (.t 0)), (some 37), none⟩, ⟨.op (.bin .eql 4 (.t 37) (.c .nilifc)), (some 38), none⟩])
 [0, 1, 2, 38]
 (.cond (.t 38) (.seq (.reg [⟨.op (.mv (.c (.bool false))), (some 6), none⟩])
 [6]
 (.ret)) (.skip))))) (.seq (.reg [⟨.op (.slow (operAt Try.prog 68 33)), (some 39), none⟩, ⟨.op (.ext (.t 39) 1), (some 40), none⟩, ⟨.op (.ext (.t 39) 0), (some 41), none⟩])
 [1, 2, 31, 40, 41]
 (.cond (.t 40) (.seq (.reg [⟨.op (.mv (.t 41)), (some 10), none⟩])
 [1, 2, 10]
 (.seq (.seq (.reg [⟨.op (.mv (.t 10)), (some 42), none⟩, ⟨.inv (.t 42) "Unwrap" [] (operAt Try.prog 68 38), (some 43), none⟩, ⟨.op (.len (.t 43)), (some 44), none⟩, ⟨.op (.mv (.c (.int .i64 0))), (some 45), none⟩])
 [1, 2, 43, 44, 45]
 (.block 3 (.loop [1, 2, 43, 44, 45] (l68_0))))
 []
 (.seq (.reg [⟨.op (.mv (.c (.bool false))), (some 6), none⟩])
 [6]
 (.ret)))) (.seq (.reg [⟨.op (.mv (.t 31)), (some 13), none⟩])
 []
 (.seq (.reg [⟨.op (.mv (.c (.bool false))), (some 6), none⟩])
 [6]
 (.ret)))))))))))) T st := rfl
/-- errors.is -/
noncomputable def c68 : DFn := ⟨54, .pure,
 .seq (.reg [⟨.op (.mv (.c (.bool false))), (some 6), none⟩])
 [0, 1, 2]
 (.block 0 (.loop [0, 1, 2] (l68_1))),
 [.tmp 6]⟩
theorem k68 : cFn Try.prog 68 = some c68.toE := by kernel_rfl
theorem w68 : c68.body.wf = true := by kernel_rfl
noncomputable def l69_0 : DC :=
 .seq (.reg [⟨.op (.bin .lss 0 (.t 11) (.t 10)), (some 12), none⟩])
 [0, 3, 9, 10, 11, 12]
 (.seq (.cond (.t 12) (.skip) (.exit 0))
 [0, 3, 9, 10, 11]
 (.seq (.block 1 (.seq (.reg [⟨.op (.ia 1 none (.t 9) (.t 11)), (some 13), none⟩, ⟨.op (.ld1 (.t 13)), (some 14), none⟩, ⟨.op (.mv (.t 14)), (some 5), none⟩])
 [0, 3, 5, 9, 10, 11]
 (.seq (.reg [⟨.op (.mv (.t 5)), (some 15), none⟩, ⟨.op (.bin .neq 4 (.t 15) (.c .nilifc)), (some 16), none⟩])
 [0, 3, 9, 10, 11, 16]
 (.cond (.t 16) (.reg [⟨.op (.mv (.t 3)), (some 17), none⟩, ⟨.op (.bin .add 0 (.t 17) (.c (.int .i64 1))), (some 18), none⟩, ⟨.op (.mv (.t 18)), (some 3), none⟩]) (.skip)))))
 [0, 3, 9, 10, 11]
 (.reg [⟨.op (.bin .add 0 (.t 11) (.c (.int .i64 1))), (some 19), none⟩, ⟨.op (.mv (.t 19)), (some 11), none⟩])))
theorem u69_0 (call : DCall) (T : Tm) (st : Dv.St) : dCw Try.prog call l69_0 T st = dCw Try.prog call
 (.seq (.reg [⟨.op (.bin .lss 0 (.t 11) (.t 10)), (some 12), none⟩])
 [0, 3, 9, 10, 11, 12]
 (.seq (.cond (.t 12) (.skip) (.exit 0))
 [0, 3, 9, 10, 11]
 (.seq (.block 1 (.seq (.reg [⟨.op (.ia 1 none (.t 9) (.t 11)), (some 13), none⟩, ⟨.op (.ld1 (.t 13)), (some 14), none⟩, ⟨.op (.mv (.t 14)), (some 5), none⟩])
 [0, 3, 5, 9, 10, 11]
 (.seq (.reg [⟨.op (.mv (.t 5)), (some 15), none⟩, ⟨.op (.bin .neq 4 (.t 15) (.c .nilifc)), (some 16), none⟩])
 [0, 3, 9, 10, 11, 16]
 (.cond (.t 16) (.reg [⟨.op (.mv (.t 3)), (some 17), none⟩, ⟨.op (.bin .add 0 (.t 17) (.c (.int .i64 1))), (some 18), none⟩, ⟨.op (.mv (.t 18)), (some 3), none⟩]) (.skip)))))
 [0, 3, 9, 10, 11]
 (.reg [⟨.op (.bin .add 0 (.t 11) (.c (.int .i64 1))), (some 19), none⟩, ⟨.op (.mv (.t 19)), (some 11), none⟩])))) T st := rfl
noncomputable def l69_1 : DC :=
 .seq (.reg [⟨.op (.bin .lss 0 (.t 28) (.t 27)), (some 29), none⟩])
 [6, 26, 27, 28, 29]
 (.seq (.cond (.t 29) (.skip) (.exit 2))
 [6, 26, 27, 28]
 (.seq (.block 3 (.seq (.reg [⟨.op (.ia 1 none (.t 26) (.t 28)), (some 30), none⟩, ⟨.op (.ld1 (.t 30)), (some 31), none⟩, ⟨.op (.mv (.t 31)), (some 8), none⟩])
 [6, 8, 26, 27, 28]
 (.seq (.reg [⟨.op (.mv (.t 8)), (some 32), none⟩, ⟨.op (.bin .neq 4 (.t 32) (.c .nilifc)), (some 33), none⟩])
 [6, 8, 26, 27, 28, 33]
 (.cond (.t 33) (.reg [⟨.op (.mv (.t 6)), (some 34), none⟩, ⟨.op (.mv (.t 6)), (some 35), none⟩, ⟨.op (.nilchk (.t 35)), (some 36), none⟩, ⟨.op (.fa 0 (.t 36)), (some 37), none⟩, ⟨.op (.ld1 (.t 37)), (some 38), none⟩, ⟨.op (.mv (.t 8)), (some 39), none⟩, ⟨.op (.bslice 1 1 [.nilifc] [(0, 1, (.t 39))]), (some 40), none⟩, ⟨.op (.app 1 16 false (.t 38) (.t 40)), (some 41), none⟩, ⟨.op (.nilchk (.t 34)), (some 42), none⟩, ⟨.op (.fa 0 (.t 42)), (some 43), none⟩, ⟨.op (.st 1 (.t 43) (.t 41)), none, none⟩]) (.skip)))))
 [6, 26, 27, 28]
 (.reg [⟨.op (.bin .add 0 (.t 28) (.c (.int .i64 1))), (some 44), none⟩, ⟨.op (.mv (.t 44)), (some 28), none⟩])))
theorem u69_1 (call : DCall) (T : Tm) (st : Dv.St) : dCw Try.prog call l69_1 T st = dCw Try.prog call
 (.seq (.reg [⟨.op (.bin .lss 0 (.t 28) (.t 27)), (some 29), none⟩])
 [6, 26, 27, 28, 29]
 (.seq (.cond (.t 29) (.skip) (.exit 2))
 [6, 26, 27, 28]
 (.seq (.block 3 (.seq (.reg [⟨.op (.ia 1 none (.t 26) (.t 28)), (some 30), none⟩, ⟨.op (.ld1 (.t 30)), (some 31), none⟩, ⟨.op (.mv (.t 31)), (some 8), none⟩])
 [6, 8, 26, 27, 28]
 (.seq (.reg [⟨.op (.mv (.t 8)), (some 32), none⟩, ⟨.op (.bin .neq 4 (.t 32) (.c .nilifc)), (some 33), none⟩])
 [6, 8, 26, 27, 28, 33]
 (.cond (.t 33) (.reg [⟨.op (.mv (.t 6)), (some 34), none⟩, ⟨.op (.mv (.t 6)), (some 35), none⟩, ⟨.op (.nilchk (.t 35)), (some 36), none⟩, ⟨.op (.fa 0 (.t 36)), (some 37), none⟩, ⟨.op (.ld1 (.t 37)), (some 38), none⟩, ⟨.op (.mv (.t 8)), (some 39), none⟩, ⟨.op (.bslice 1 1 [.nilifc] [(0, 1, (.t 39))]), (some 40), none⟩, ⟨.op (.app 1 16 false (.t 38) (.t 40)), (some 41), none⟩, ⟨.op (.nilchk (.t 34)), (some 42), none⟩, ⟨.op (.fa 0 (.t 42)), (some 43), none⟩, ⟨.op (.st 1 (.t 43) (.t 41)), none, none⟩]) (.skip)))))
 [6, 26, 27, 28]
 (.reg [⟨.op (.bin .add 0 (.t 28) (.c (.int .i64 1))), (some 44), none⟩, ⟨.op (.mv (.t 44)), (some 28), none⟩])))) T st := rfl
/-- errors.Join -/
noncomputable def c69 : DFn := ⟨47, .pure,
 .seq (.reg [⟨.op (.mv (.c .nilifc)), (some 2), none⟩])
 [0]
 (.seq (.reg [⟨.op (.mv (.c (.int .i64 0))), (some 3), none⟩])
 [0, 3]
 (.seq (.seq (.reg [⟨.op (.mv (.t 0)), (some 9), none⟩, ⟨.op (.len (.t 9)), (some 10), none⟩, ⟨.op (.mv (.c (.int .i64 0))), (some 11), none⟩])
 [0, 3, 9, 10, 11]
 (.block 0 (.loop [0, 3, 9, 10, 11] (l69_0))))
 [0, 3]
 (.seq (.seq (.reg [⟨.op (.mv (.t 3)), (some 20), none⟩, ⟨.op (.bin .eql 0 (.t 20) (.c (.int .i64 0))), (some 21), none⟩])
 [0, 3, 21]
 (.cond (.t 21) (.seq (.reg [⟨.op (.mv (.c .nilifc)), (some 2), none⟩])
 [2]
 (.ret)) (.skip)))
 [0, 3]
 (.seq (.reg [⟨.op (.mv (.t 3)), (some 22), none⟩, ⟨.op (.mks 1 16 [.nilifc] (.c (.int .i64 0)) (.t 22)), (some 23), none⟩, ⟨.op (.build [(.sl none 0)] [(0, 1, (.t 23))]), (some 24), none⟩, ⟨.op (.box (.t 24)), (some 25), none⟩, ⟨.op (.mv (.t 25)), (some 6), none⟩])
 [0, 6]
 (.seq (.seq (.reg [⟨.op (.mv (.t 0)), (some 26), none⟩, ⟨.op (.len (.t 26)), (some 27), none⟩, ⟨.op (.mv (.c (.int .i64 0))), (some 28), none⟩])
 [6, 26, 27, 28]
 (.block 2 (.loop [6, 26, 27, 28] (l69_1))))
 [6]
 (.seq (.reg [⟨.op (.mv (.t 6)), (some 45), none⟩, ⟨.op (.ifc 135 (.t 45)), (some 46), none⟩, ⟨.op (.mv (.t 46)), (some 2), none⟩])
 [2]
 (.ret))))))),
 [.tmp 2]⟩
theorem k69 : cFn Try.prog 69 = some c69.toE := by kernel_rfl
theorem w69 : c69.body.wf = true := by kernel_rfl
/-- (cardamom/stamp.part).Unwrap -/
noncomputable def c141 : DFn := ⟨5, .pure,
 .seq (.reg [⟨.op (.box (.t 0)), (some 1), none⟩, ⟨.op (.mv (.c .nilifc)), (some 2), none⟩])
 [1]
 (.seq (.reg [⟨.op (.fa 1 (.t 1)), (some 3), none⟩, ⟨.op (.ld1 (.t 3)), (some 4), none⟩, ⟨.op (.mv (.t 4)), (some 2), none⟩])
 [2]
 (.ret)),
 [.tmp 2]⟩
theorem k141 : cFn Try.prog 141 = some c141.toE := by kernel_rfl
theorem w141 : c141.body.wf = true := by kernel_rfl
/-- (*errors.joinError).Unwrap -/
noncomputable def c139 : DFn := ⟨7, .pure,
 .seq (.reg [⟨.op (.mv (.c (.sl none 0))), (some 2), none⟩])
 [0]
 (.seq (.reg [⟨.op (.mv (.t 0)), (some 3), none⟩, ⟨.op (.nilchk (.t 3)), (some 4), none⟩, ⟨.op (.fa 0 (.t 4)), (some 5), none⟩, ⟨.op (.ld1 (.t 5)), (some 6), none⟩, ⟨.op (.mv (.t 6)), (some 2), none⟩])
 [2]
 (.ret)),
 [.tmp 2]⟩
theorem k139 : cFn Try.prog 139 = some c139.toE := by kernel_rfl
theorem w139 : c139.body.wf = true := by kernel_rfl
/-- cardamom/cardamomref1.Next -/
noncomputable def c18 : DFn := ⟨35, .pure,
 .seq (.reg [⟨.op (.new [(.int .i64 0), (.int .i64 0), (.int .i64 0)]), (some 6), none⟩, ⟨.op (.mv (.c (.bool false))), (some 7), none⟩])
 [0, 1, 2, 6]
 (.seq (.seq (.reg [⟨.op (.mv (.t 0)), (some 9), none⟩, ⟨.op (.bin .lss 0 (.t 9) (.c (.int .i64 0))), (some 10), none⟩, ⟨.op (.mv (.t 10)), (some 11), none⟩, ⟨.op (.mv (.t 0)), (some 12), (some (11, false))⟩, ⟨.op (.bin .geq 0 (.t 12) (.c (.int .i64 5000))), (some 13), (some (11, false))⟩, ⟨.op (.pick (.t 11) (.c (.bool true)) (.t 13)), (some 14), none⟩, ⟨.op (.mv (.t 14)), (some 15), none⟩, ⟨.op (.mv (.t 2)), (some 16), (some (15, false))⟩, ⟨.op (.bin .lss 0 (.t 16) (.c (.int .i64 0))), (some 17), (some (15, false))⟩, ⟨.op (.pick (.t 15) (.c (.bool true)) (.t 17)), (some 18), none⟩, ⟨.op (.mv (.t 18)), (some 19), none⟩, ⟨.op (.mv (.t 2)), (some 20), (some (19, false))⟩, ⟨.op (.bin .geq 0 (.t 20) (.c (.int .i64 1000))), (some 21), (some (19, false))⟩, ⟨.op (.pick (.t 19) (.c (.bool true)) (.t 21)), (some 22), none⟩])
 [0, 1, 2, 6, 22]
 (.cond (.t 22) (.seq (.reg [⟨.op (.build [(.int .i64 0), (.int .i64 0), (.int .i64 0)] []), (some 23), none⟩, ⟨.op (.st 3 (.t 6) (.t 23)), none, none⟩, ⟨.op (.mv (.c (.bool false))), (some 7), none⟩])
 [6, 7]
 (.ret)) (.skip)))
 [0, 1, 2, 6]
 (.seq (.reg [⟨.op (.mv (.t 0)), (some 24), none⟩, ⟨.op (.bin .add 0 (.t 24) (.c (.int .i64 1))), (some 25), none⟩, ⟨.op (.mv (.t 1)), (some 26), none⟩, ⟨.op (.mv (.t 2)), (some 27), none⟩, ⟨.op (.bin .add 0 (.t 27) (.c (.int .i64 1))), (some 28), none⟩, ⟨.op (.build [(.int .i64 0), (.int .i64 0), (.int .i64 0)] [(0, 1, (.t 25)), (1, 1, (.t 26)), (2, 1, (.t 28))]), (some 29), none⟩, ⟨.op (.new [(.int .i64 0), (.int .i64 0), (.int .i64 0)]), (some 8), none⟩, ⟨.op (.st 3 (.t 8) (.t 29)), none, none⟩])
 [6, 8]
 (.seq (.seq (.reg [⟨.op (.ldn 3 (.t 8)), (some 30), none⟩, ⟨.call 20 [(.t 30)], (some 31), none⟩, ⟨.op (.not (.t 31)), (some 32), none⟩])
 [6, 8, 32]
 (.cond (.t 32) (.seq (.reg [⟨.op (.build [(.int .i64 0), (.int .i64 0), (.int .i64 0)] []), (some 33), none⟩, ⟨.op (.st 3 (.t 6) (.t 33)), none, none⟩, ⟨.op (.mv (.c (.bool false))), (some 7), none⟩])
 [6, 7]
 (.ret)) (.skip)))
 [6, 8]
 (.seq (.reg [⟨.op (.ldn 3 (.t 8)), (some 34), none⟩, ⟨.op (.st 3 (.t 6) (.t 34)), none, none⟩, ⟨.op (.mv (.c (.bool true))), (some 7), none⟩])
 [6, 7]
 (.ret))))),
 [.celln 3 6, .tmp 7]⟩
theorem k18 : cFn Try.prog 18 = some c18.toE := by kernel_rfl
theorem w18 : c18.body.wf = true := by kernel_rfl
/-- cardamom/cardamomref1.MayStamp -/
noncomputable def c20 : DFn := ⟨38, .pure,
 .seq (.reg [⟨.op (.box (.t 0)), (some 1), none⟩, ⟨.op (.mv (.c (.bool false))), (some 2), none⟩])
 [1]
 (.seq (.reg [⟨.op (.fa 0 (.t 1)), (some 3), none⟩, ⟨.op (.ld1 (.t 3)), (some 4), none⟩, ⟨.op (.bin .geq 0 (.t 4) (.c (.int .i64 1))), (some 5), none⟩, ⟨.op (.mv (.t 5)), (some 6), none⟩, ⟨.op (.fa 0 (.t 1)), (some 7), (some (6, true))⟩, ⟨.op (.ld1 (.t 7)), (some 8), (some (6, true))⟩, ⟨.op (.bin .leq 0 (.t 8) (.c (.int .i64 5000))), (some 9), (some (6, true))⟩, ⟨.op (.pick (.t 6) (.t 9) (.c (.bool false))), (some 10), none⟩, ⟨.op (.mv (.t 10)), (some 11), none⟩, ⟨.op (.fa 1 (.t 1)), (some 12), (some (11, true))⟩, ⟨.op (.ld1 (.t 12)), (some 13), (some (11, true))⟩, ⟨.op (.bin .geq 0 (.t 13) (.c (.int .i64 1))), (some 14), (some (11, true))⟩, ⟨.op (.pick (.t 11) (.t 14) (.c (.bool false))), (some 15), none⟩, ⟨.op (.mv (.t 15)), (some 16), none⟩, ⟨.op (.fa 1 (.t 1)), (some 17), (some (16, true))⟩, ⟨.op (.ld1 (.t 17)), (some 18), (some (16, true))⟩, ⟨.op (.bin .leq 0 (.t 18) (.c (.int .i64 5))), (some 19), (some (16, true))⟩, ⟨.op (.pick (.t 16) (.t 19) (.c (.bool false))), (some 20), none⟩, ⟨.op (.mv (.t 20)), (some 21), none⟩, ⟨.op (.fa 2 (.t 1)), (some 22), (some (21, true))⟩, ⟨.op (.ld1 (.t 22)), (some 23), (some (21, true))⟩, ⟨.op (.bin .geq 0 (.t 23) (.c (.int .i64 1))), (some 24), (some (21, true))⟩, ⟨.op (.pick (.t 21) (.t 24) (.c (.bool false))), (some 25), none⟩, ⟨.op (.mv (.t 25)), (some 26), none⟩, ⟨.op (.fa 2 (.t 1)), (some 27), (some (26, true))⟩, ⟨.op (.ld1 (.t 27)), (some 28), (some (26, true))⟩, ⟨.op (.bin .leq 0 (.t 28) (.c (.int .i64 1000))), (some 29), (some (26, true))⟩, ⟨.op (.pick (.t 26) (.t 29) (.c (.bool false))), (some 30), none⟩, ⟨.op (.mv (.t 30)), (some 31), none⟩, ⟨.op (.fa 2 (.t 1)), (some 32), (some (31, true))⟩, ⟨.op (.ld1 (.t 32)), (some 33), (some (31, true))⟩, ⟨.op (.fa 0 (.t 1)), (some 34), (some (31, true))⟩, ⟨.op (.ld1 (.t 34)), (some 35), (some (31, true))⟩, ⟨.op (.bin .leq 0 (.t 33) (.t 35)), (some 36), (some (31, true))⟩, ⟨.op (.pick (.t 31) (.t 36) (.c (.bool false))), (some 37), none⟩, ⟨.op (.mv (.t 37)), (some 2), none⟩])
 [2]
 (.ret)),
 [.tmp 2]⟩
theorem k20 : cFn Try.prog 20 = some c20.toE := by kernel_rfl
theorem w20 : c20.body.wf = true := by kernel_rfl
noncomputable def l22_0 : DC :=
 .seq (.seq (.reg [⟨.op (.mv (.t 7)), (some 22), none⟩, ⟨.op (.bin .lss 0 (.t 22) (.c (.int .i64 3))), (some 23), none⟩])
 [5, 6, 7, 23]
 (.cond (.t 23) (.skip) (.exit 0)))
 [5, 6, 7]
 (.seq (.block 1 (.seq (.seq (.drw [⟨⟨.op (.mv (.t 7)), (some 26), none⟩, .n, []⟩, ⟨⟨.op (.ia 1 (some 3) (.t 5) (.t 26)), (some 27), none⟩, .n, []⟩, ⟨⟨.op (.ld1 (.t 27)), (some 28), none⟩, .n, []⟩, ⟨⟨.op (.mv (.t 7)), (some 29), none⟩, .n, []⟩, ⟨⟨.op (.ia 1 (some 3) (.t 6) (.t 29)), (some 30), none⟩, .n, []⟩, ⟨⟨.op (.ld1 (.t 30)), (some 31), none⟩, .n, []⟩, ⟨⟨.op (.bin .lss 0 (.t 28) (.t 31)), (some 32), none⟩, .n, []⟩])
 [5, 6, 7, 32]
 (.cond (.t 32) (.seq (.reg [⟨.op (.mv (.c (.int .i64 (-1)))), (some 4), none⟩])
 [4]
 (.ret)) (.skip)))
 [5, 6, 7]
 (.seq (.drw [⟨⟨.op (.mv (.t 7)), (some 33), none⟩, .n, []⟩, ⟨⟨.op (.ia 1 (some 3) (.t 5) (.t 33)), (some 34), none⟩, .n, []⟩, ⟨⟨.op (.ld1 (.t 34)), (some 35), none⟩, .n, []⟩, ⟨⟨.op (.mv (.t 7)), (some 36), none⟩, .n, []⟩, ⟨⟨.op (.ia 1 (some 3) (.t 6) (.t 36)), (some 37), none⟩, .n, []⟩, ⟨⟨.op (.ld1 (.t 37)), (some 38), none⟩, .n, []⟩, ⟨⟨.op (.bin .gtr 0 (.t 35) (.t 38)), (some 39), none⟩, .n, []⟩])
 [5, 6, 7, 39]
 (.cond (.t 39) (.seq (.reg [⟨.op (.mv (.c (.int .i64 1))), (some 4), none⟩])
 [4]
 (.ret)) (.skip)))))
 [5, 6, 7]
 (.reg [⟨.op (.mv (.t 7)), (some 24), none⟩, ⟨.op (.bin .add 0 (.t 24) (.c (.int .i64 1))), (some 25), none⟩, ⟨.op (.mv (.t 25)), (some 7), none⟩]))
theorem u22_0 (call : DCall) (T : Tm) (st : Dv.St) : dCw Try.prog call l22_0 T st = dCw Try.prog call
 (.seq (.seq (.reg [⟨.op (.mv (.t 7)), (some 22), none⟩, ⟨.op (.bin .lss 0 (.t 22) (.c (.int .i64 3))), (some 23), none⟩])
 [5, 6, 7, 23]
 (.cond (.t 23) (.skip) (.exit 0)))
 [5, 6, 7]
 (.seq (.block 1 (.seq (.seq (.drw [⟨⟨.op (.mv (.t 7)), (some 26), none⟩, .n, []⟩, ⟨⟨.op (.ia 1 (some 3) (.t 5) (.t 26)), (some 27), none⟩, .n, []⟩, ⟨⟨.op (.ld1 (.t 27)), (some 28), none⟩, .n, []⟩, ⟨⟨.op (.mv (.t 7)), (some 29), none⟩, .n, []⟩, ⟨⟨.op (.ia 1 (some 3) (.t 6) (.t 29)), (some 30), none⟩, .n, []⟩, ⟨⟨.op (.ld1 (.t 30)), (some 31), none⟩, .n, []⟩, ⟨⟨.op (.bin .lss 0 (.t 28) (.t 31)), (some 32), none⟩, .n, []⟩])
 [5, 6, 7, 32]
 (.cond (.t 32) (.seq (.reg [⟨.op (.mv (.c (.int .i64 (-1)))), (some 4), none⟩])
 [4]
 (.ret)) (.skip)))
 [5, 6, 7]
 (.seq (.drw [⟨⟨.op (.mv (.t 7)), (some 33), none⟩, .n, []⟩, ⟨⟨.op (.ia 1 (some 3) (.t 5) (.t 33)), (some 34), none⟩, .n, []⟩, ⟨⟨.op (.ld1 (.t 34)), (some 35), none⟩, .n, []⟩, ⟨⟨.op (.mv (.t 7)), (some 36), none⟩, .n, []⟩, ⟨⟨.op (.ia 1 (some 3) (.t 6) (.t 36)), (some 37), none⟩, .n, []⟩, ⟨⟨.op (.ld1 (.t 37)), (some 38), none⟩, .n, []⟩, ⟨⟨.op (.bin .gtr 0 (.t 35) (.t 38)), (some 39), none⟩, .n, []⟩])
 [5, 6, 7, 39]
 (.cond (.t 39) (.seq (.reg [⟨.op (.mv (.c (.int .i64 1))), (some 4), none⟩])
 [4]
 (.ret)) (.skip)))))
 [5, 6, 7]
 (.reg [⟨.op (.mv (.t 7)), (some 24), none⟩, ⟨.op (.bin .add 0 (.t 24) (.c (.int .i64 1))), (some 25), none⟩, ⟨.op (.mv (.t 25)), (some 7), none⟩]))) T st := rfl
/-- cardamom/cardamomref1.Compare -/
noncomputable def c22 : DFn := ⟨40, .pure,
 .seq (.reg [⟨.op (.box (.t 0)), (some 2), none⟩, ⟨.op (.box (.t 1)), (some 3), none⟩, ⟨.op (.mv (.c (.int .i64 0))), (some 4), none⟩])
 [2, 3]
 (.seq (.drw [⟨⟨.op (.fa 0 (.t 2)), (some 8), none⟩, .n, []⟩, ⟨⟨.op (.ld1 (.t 8)), (some 9), none⟩, .n, []⟩, ⟨⟨.op (.fa 1 (.t 2)), (some 10), none⟩, .n, []⟩, ⟨⟨.op (.ld1 (.t 10)), (some 11), none⟩, .n, []⟩, ⟨⟨.op (.fa 2 (.t 2)), (some 12), none⟩, .n, []⟩, ⟨⟨.op (.ld1 (.t 12)), (some 13), none⟩, .n, []⟩, ⟨⟨.op (.build [(.int .i64 0), (.int .i64 0), (.int .i64 0)] [(0, 1, (.t 9)), (1, 1, (.t 11)), (2, 1, (.t 13))]), (some 14), none⟩, .n, []⟩, ⟨⟨.op (.fa 0 (.t 3)), (some 15), none⟩, .n, []⟩, ⟨⟨.op (.ld1 (.t 15)), (some 16), none⟩, .n, []⟩, ⟨⟨.op (.fa 1 (.t 3)), (some 17), none⟩, .n, []⟩, ⟨⟨.op (.ld1 (.t 17)), (some 18), none⟩, .n, []⟩, ⟨⟨.op (.fa 2 (.t 3)), (some 19), none⟩, .n, []⟩, ⟨⟨.op (.ld1 (.t 19)), (some 20), none⟩, .n, []⟩, ⟨⟨.op (.build [(.int .i64 0), (.int .i64 0), (.int .i64 0)] [(0, 1, (.t 16)), (1, 1, (.t 18)), (2, 1, (.t 20))]), (some 21), none⟩, .n, []⟩, ⟨⟨.op (.new [(.int .i64 0), (.int .i64 0), (.int .i64 0)]), (some 5), none⟩, .a, [(true, 12), (true, 10), (true, 8), (true, 5), (true, 3), (true, 1)]⟩, ⟨⟨.op (.new [(.int .i64 0), (.int .i64 0), (.int .i64 0)]), (some 6), none⟩, .a, [(true, 12), (true, 10), (true, 8), (true, 5), (true, 3), (true, 1)]⟩, ⟨⟨.op (.st 3 (.t 5) (.t 14)), none, none⟩, .x, [(true, 12), (true, 10), (true, 8)]⟩, ⟨⟨.op (.st 3 (.t 6) (.t 21)), none, none⟩, .x, []⟩])
 [5, 6]
 (.seq (.seq (.reg [⟨.op (.mv (.c (.int .i64 0))), (some 7), none⟩])
 [5, 6, 7]
 (.block 0 (.loop [5, 6, 7] (l22_0))))
 []
 (.seq (.reg [⟨.op (.mv (.c (.int .i64 0))), (some 4), none⟩])
 [4]
 (.ret)))),
 [.tmp 4]⟩
theorem k22 : cFn Try.prog 22 = some c22.toE := by kernel_rfl
theorem w22 : c22.body.wf = true := by kernel_rfl
def tbl : Nat → Option DFn := fun f => bif Nat.beq f 7 then some c7 else bif Nat.beq f 14 then some c14 else bif Nat.beq f 17 then some c17 else bif Nat.beq f 19 then some c19 else bif Nat.beq f 41 then some c41 else bif Nat.beq f 70 then some c70 else bif Nat.beq f 21 then some c21 else bif Nat.beq f 43 then some c43 else bif Nat.beq f 42 then some c42 else bif Nat.beq f 71 then some c71 else bif Nat.beq f 40 then some c40 else bif Nat.beq f 68 then some c68 else bif Nat.beq f 69 then some c69 else bif Nat.beq f 141 then some c141 else bif Nat.beq f 139 then some c139 else bif Nat.beq f 18 then some c18 else bif Nat.beq f 20 then some c20 else bif Nat.beq f 22 then some c22 else none
def dx : DX := fun f => none
def prims : Prims := fun f => none
theorem code_ok : ∀ f df, tbl f = some df → cFn Try.prog f = some df.toE ∧ df.body.wf = true := by
  intro f df h
  unfold tbl at h
  by_cases h7 : f = 7
  · subst h7; rw [Nat.beq_refl, cond_true] at h; rw [← Option.some.inj h]; exact ⟨k7, w7⟩
  rw [Ev.beq_false _ _ h7, cond_false] at h
  by_cases h14 : f = 14
  · subst h14; rw [Nat.beq_refl, cond_true] at h; rw [← Option.some.inj h]; exact ⟨k14, w14⟩
  rw [Ev.beq_false _ _ h14, cond_false] at h
  by_cases h17 : f = 17
  · subst h17; rw [Nat.beq_refl, cond_true] at h; rw [← Option.some.inj h]; exact ⟨k17, w17⟩
  rw [Ev.beq_false _ _ h17, cond_false] at h
  by_cases h19 : f = 19
  · subst h19; rw [Nat.beq_refl, cond_true] at h; rw [← Option.some.inj h]; exact ⟨k19, w19⟩
  rw [Ev.beq_false _ _ h19, cond_false] at h
  by_cases h41 : f = 41
  · subst h41; rw [Nat.beq_refl, cond_true] at h; rw [← Option.some.inj h]; exact ⟨k41, w41⟩
  rw [Ev.beq_false _ _ h41, cond_false] at h
  by_cases h70 : f = 70
  · subst h70; rw [Nat.beq_refl, cond_true] at h; rw [← Option.some.inj h]; exact ⟨k70, w70⟩
  rw [Ev.beq_false _ _ h70, cond_false] at h
  by_cases h21 : f = 21
  · subst h21; rw [Nat.beq_refl, cond_true] at h; rw [← Option.some.inj h]; exact ⟨k21, w21⟩
  rw [Ev.beq_false _ _ h21, cond_false] at h
  by_cases h43 : f = 43
  · subst h43; rw [Nat.beq_refl, cond_true] at h; rw [← Option.some.inj h]; exact ⟨k43, w43⟩
  rw [Ev.beq_false _ _ h43, cond_false] at h
  by_cases h42 : f = 42
  · subst h42; rw [Nat.beq_refl, cond_true] at h; rw [← Option.some.inj h]; exact ⟨k42, w42⟩
  rw [Ev.beq_false _ _ h42, cond_false] at h
  by_cases h71 : f = 71
  · subst h71; rw [Nat.beq_refl, cond_true] at h; rw [← Option.some.inj h]; exact ⟨k71, w71⟩
  rw [Ev.beq_false _ _ h71, cond_false] at h
  by_cases h40 : f = 40
  · subst h40; rw [Nat.beq_refl, cond_true] at h; rw [← Option.some.inj h]; exact ⟨k40, w40⟩
  rw [Ev.beq_false _ _ h40, cond_false] at h
  by_cases h68 : f = 68
  · subst h68; rw [Nat.beq_refl, cond_true] at h; rw [← Option.some.inj h]; exact ⟨k68, w68⟩
  rw [Ev.beq_false _ _ h68, cond_false] at h
  by_cases h69 : f = 69
  · subst h69; rw [Nat.beq_refl, cond_true] at h; rw [← Option.some.inj h]; exact ⟨k69, w69⟩
  rw [Ev.beq_false _ _ h69, cond_false] at h
  by_cases h141 : f = 141
  · subst h141; rw [Nat.beq_refl, cond_true] at h; rw [← Option.some.inj h]; exact ⟨k141, w141⟩
  rw [Ev.beq_false _ _ h141, cond_false] at h
  by_cases h139 : f = 139
  · subst h139; rw [Nat.beq_refl, cond_true] at h; rw [← Option.some.inj h]; exact ⟨k139, w139⟩
  rw [Ev.beq_false _ _ h139, cond_false] at h
  by_cases h18 : f = 18
  · subst h18; rw [Nat.beq_refl, cond_true] at h; rw [← Option.some.inj h]; exact ⟨k18, w18⟩
  rw [Ev.beq_false _ _ h18, cond_false] at h
  by_cases h20 : f = 20
  · subst h20; rw [Nat.beq_refl, cond_true] at h; rw [← Option.some.inj h]; exact ⟨k20, w20⟩
  rw [Ev.beq_false _ _ h20, cond_false] at h
  by_cases h22 : f = 22
  · subst h22; rw [Nat.beq_refl, cond_true] at h; rw [← Option.some.inj h]; exact ⟨k22, w22⟩
  rw [Ev.beq_false _ _ h22, cond_false] at h
  cases h
theorem ext_ok : ∀ f g, prims f = none → dx f = some g → ∀ (k : Nat) (ds : List D) (st : Dv.St) (r : D × Dv.St × List Nat) (c : Ct) (H : Heap) (vs : List V), g ds st = some r → SR c st H → Row (DR c H) ds vs → Fol c st H r (eFn Try.prog prims (cFn Try.prog) listHP (k + 1) f vs H) := by
  intro f g _ h
  unfold dx at h
  cases h
theorem tbl_ok : TblOK Try.prog prims (cFn Try.prog) dx tbl := ⟨fun f df _ _ h => code_ok f df h, ext_ok⟩
theorem prims_ok : PrimsOK Try.prog prims := noPrims_ok _
end
end Go.Proofs.Ytpinhopgeaamdaa.Cd
