/-
  What is proved here: the texts of the functions, looked up.
  Conditions: none.
-/
import Derived.Test.YtmomaojkmidgmaaRows
import Derived.Test.YtmomaojkmidgmaaDv3
import Derived.KernelRfl
set_option linter.unusedVariables false
set_option linter.unusedSimpArgs false
set_option maxRecDepth 100000
namespace Go.Proofs.Ytmomaojkmidgmaa.Cd
open Go Go.Proofs Go.Proofs.Ev Go.Proofs.Dv
noncomputable section
noncomputable def l11_0 : DC :=
 .seq (.seq (.reg [⟨.op (.mv (.t 7)), (some 24), none⟩, ⟨.op (.bin .lss 0 (.t 24) (.c (.int .i64 3))), (some 25), none⟩])
 [5, 6, 7, 25]
 (.cond (.t 25) (.skip) (.exit 0)))
 [5, 6, 7]
 (.seq (.block 1 (.seq (.reg [⟨.op (.mv (.t 6)), (some 28), none⟩, ⟨.call 29 [(.t 28)], (some 29), none⟩, ⟨.op (.new [(.int .i64 0), (.int .i64 0), (.int .i64 0), (.int .i64 0), (.bool false), (.sl none 0), (.str []), (.str [])]), (some 8), none⟩, ⟨.op (.st 8 (.t 8) (.t 29)), none, none⟩])
 [5, 6, 7, 8]
 (.seq (.drw [⟨⟨.op (.ldn 6 (.t 5)), (some 30), none⟩, .n, []⟩, ⟨⟨.op (.ldn 8 (.t 8)), (some 31), none⟩, .n, []⟩, ⟨⟨.op (.ldn 6 (.t 5)), (some 33), none⟩, .n, []⟩, ⟨⟨.op (.ldn 8 (.t 8)), (some 34), none⟩, .n, []⟩, ⟨⟨.call 30 [(.t 30), (.t 31)], (some 32), none⟩, .x, [(true, 3), (true, 2)]⟩, ⟨⟨.call 31 [(.t 33), (.t 34)], (some 35), none⟩, .x, []⟩, ⟨⟨.op (.bin .neq 5 (.t 32) (.t 35)), (some 36), none⟩, .n, []⟩])
 [5, 6, 7, 36]
 (.cond (.t 36) (.seq (.reg [⟨.op (.mv (.c (.bool false))), (some 4), none⟩])
 [4]
 (.ret)) (.skip)))))
 [5, 6, 7]
 (.reg [⟨.op (.mv (.t 7)), (some 26), none⟩, ⟨.op (.bin .add 0 (.t 26) (.c (.int .i64 1))), (some 27), none⟩, ⟨.op (.mv (.t 27)), (some 7), none⟩]))
theorem u11_0 (call : DCall) (T : Tm) (st : Dv.St) : dCw Try.prog call l11_0 T st = dCw Try.prog call
 (.seq (.seq (.reg [⟨.op (.mv (.t 7)), (some 24), none⟩, ⟨.op (.bin .lss 0 (.t 24) (.c (.int .i64 3))), (some 25), none⟩])
 [5, 6, 7, 25]
 (.cond (.t 25) (.skip) (.exit 0)))
 [5, 6, 7]
 (.seq (.block 1 (.seq (.reg [⟨.op (.mv (.t 6)), (some 28), none⟩, ⟨.call 29 [(.t 28)], (some 29), none⟩, ⟨.op (.new [(.int .i64 0), (.int .i64 0), (.int .i64 0), (.int .i64 0), (.bool false), (.sl none 0), (.str []), (.str [])]), (some 8), none⟩, ⟨.op (.st 8 (.t 8) (.t 29)), none, none⟩])
 [5, 6, 7, 8]
 (.seq (.drw [⟨⟨.op (.ldn 6 (.t 5)), (some 30), none⟩, .n, []⟩, ⟨⟨.op (.ldn 8 (.t 8)), (some 31), none⟩, .n, []⟩, ⟨⟨.op (.ldn 6 (.t 5)), (some 33), none⟩, .n, []⟩, ⟨⟨.op (.ldn 8 (.t 8)), (some 34), none⟩, .n, []⟩, ⟨⟨.call 30 [(.t 30), (.t 31)], (some 32), none⟩, .x, [(true, 3), (true, 2)]⟩, ⟨⟨.call 31 [(.t 33), (.t 34)], (some 35), none⟩, .x, []⟩, ⟨⟨.op (.bin .neq 5 (.t 32) (.t 35)), (some 36), none⟩, .n, []⟩])
 [5, 6, 7, 36]
 (.cond (.t 36) (.seq (.reg [⟨.op (.mv (.c (.bool false))), (some 4), none⟩])
 [4]
 (.ret)) (.skip)))))
 [5, 6, 7]
 (.reg [⟨.op (.mv (.t 7)), (some 26), none⟩, ⟨.op (.bin .add 0 (.t 26) (.c (.int .i64 1))), (some 27), none⟩, ⟨.op (.mv (.t 27)), (some 7), none⟩]))) T st := rfl
/-- cardamom/cardamomlaw6.EvalAll -/
noncomputable def c11 : DFn := ⟨37, .pure,
 .seq (.reg [⟨.op (.mv (.c (.bool false))), (some 4), none⟩])
 [0, 1]
 (.seq (.seq (.reg [⟨.call 26 [], (some 9), none⟩, ⟨.op (.not (.t 9)), (some 10), none⟩])
 [0, 1, 10]
 (.cond (.t 10) (.seq (.reg [⟨.op (.mv (.c (.bool false))), (some 4), none⟩])
 [4]
 (.ret)) (.skip)))
 [0, 1]
 (.seq (.seq (.reg [⟨.op (.mv (.t 0)), (some 11), none⟩, ⟨.op (.len (.t 11)), (some 12), none⟩, ⟨.op (.bin .gtr 0 (.t 12) (.c (.int .i64 40))), (some 13), none⟩, ⟨.op (.mv (.t 13)), (some 14), none⟩, ⟨.op (.mv (.t 1)), (some 15), (some (14, false))⟩, ⟨.op (.len (.t 15)), (some 16), (some (14, false))⟩, ⟨.op (.bin .gtr 0 (.t 16) (.c (.int .i64 60))), (some 17), (some (14, false))⟩, ⟨.op (.pick (.t 14) (.c (.bool true)) (.t 17)), (some 18), none⟩])
 [0, 1, 18]
 (.cond (.t 18) (.seq (.reg [⟨.op (.mv (.c (.bool true))), (some 4), none⟩])
 [4]
 (.ret)) (.skip)))
 [0, 1]
 (.seq (.reg [⟨.op (.mv (.t 0)), (some 19), none⟩, ⟨.call 27 [(.t 19)], (some 20), none⟩, ⟨.call 28 [(.t 20), (.c (.int .i64 4))], (some 21), none⟩, ⟨.op (.new [(.int .i64 0), (.int .i64 0), (.int .i64 0), (.int .i64 0), (.str []), (.sl none 0)]), (some 5), none⟩, ⟨.op (.st 6 (.t 5) (.t 21)), none, none⟩])
 [1, 5]
 (.seq (.reg [⟨.op (.mv (.t 1)), (some 22), none⟩, ⟨.call 27 [(.t 22)], (some 23), none⟩, ⟨.op (.mv (.t 23)), (some 6), none⟩])
 [5, 6]
 (.seq (.seq (.reg [⟨.op (.mv (.c (.int .i64 0))), (some 7), none⟩])
 [5, 6, 7]
 (.block 0 (.loop [5, 6, 7] (l11_0))))
 []
 (.seq (.reg [⟨.op (.mv (.c (.bool true))), (some 4), none⟩])
 [4]
 (.ret))))))),
 [.tmp 4]⟩
theorem k11 : cFn Try.prog 11 = some c11.toE := by kernel_rfl
theorem w11 : c11.body.wf = true := by kernel_rfl
/-- cardamom/cardamomlaw6.EvalLogic -/
noncomputable def c12 : DFn := ⟨87, .pure,
 .seq (.reg [⟨.op (.mv (.c (.bool false))), (some 6), none⟩])
 [0, 1, 2]
 (.seq (.seq (.reg [⟨.call 26 [], (some 15), none⟩, ⟨.op (.not (.t 15)), (some 16), none⟩])
 [0, 1, 2, 16]
 (.cond (.t 16) (.seq (.reg [⟨.op (.mv (.c (.bool false))), (some 6), none⟩])
 [6]
 (.ret)) (.skip)))
 [0, 1, 2]
 (.seq (.seq (.reg [⟨.op (.mv (.t 0)), (some 17), none⟩, ⟨.op (.len (.t 17)), (some 18), none⟩, ⟨.op (.bin .gtr 0 (.t 18) (.c (.int .i64 30))), (some 19), none⟩, ⟨.op (.mv (.t 19)), (some 20), none⟩, ⟨.op (.mv (.t 1)), (some 21), (some (20, false))⟩, ⟨.op (.len (.t 21)), (some 22), (some (20, false))⟩, ⟨.op (.bin .gtr 0 (.t 22) (.c (.int .i64 30))), (some 23), (some (20, false))⟩, ⟨.op (.pick (.t 20) (.c (.bool true)) (.t 23)), (some 24), none⟩, ⟨.op (.mv (.t 24)), (some 25), none⟩, ⟨.op (.mv (.t 2)), (some 26), (some (25, false))⟩, ⟨.op (.len (.t 26)), (some 27), (some (25, false))⟩, ⟨.op (.bin .gtr 0 (.t 27) (.c (.int .i64 20))), (some 28), (some (25, false))⟩, ⟨.op (.pick (.t 25) (.c (.bool true)) (.t 28)), (some 29), none⟩])
 [0, 1, 2, 29]
 (.cond (.t 29) (.seq (.reg [⟨.op (.mv (.c (.bool true))), (some 6), none⟩])
 [6]
 (.ret)) (.skip)))
 [0, 1, 2]
 (.seq (.reg [⟨.op (.mv (.t 0)), (some 30), none⟩, ⟨.call 27 [(.t 30)], (some 31), none⟩, ⟨.call 28 [(.t 31), (.c (.int .i64 3))], (some 32), none⟩, ⟨.op (.mv (.t 1)), (some 33), none⟩, ⟨.call 27 [(.t 33)], (some 34), none⟩, ⟨.call 28 [(.t 34), (.c (.int .i64 3))], (some 35), none⟩, ⟨.op (.mv (.t 2)), (some 36), none⟩, ⟨.call 27 [(.t 36)], (some 37), none⟩, ⟨.call 29 [(.t 37)], (some 38), none⟩, ⟨.op (.new [(.int .i64 0), (.int .i64 0), (.int .i64 0), (.int .i64 0), (.str []), (.sl none 0)]), (some 7), none⟩, ⟨.op (.new [(.int .i64 0), (.int .i64 0), (.int .i64 0), (.int .i64 0), (.str []), (.sl none 0)]), (some 8), none⟩, ⟨.op (.new [(.int .i64 0), (.int .i64 0), (.int .i64 0), (.int .i64 0), (.bool false), (.sl none 0), (.str []), (.str [])]), (some 9), none⟩, ⟨.op (.st 6 (.t 7) (.t 32)), none, none⟩, ⟨.op (.st 6 (.t 8) (.t 35)), none, none⟩, ⟨.op (.st 8 (.t 9) (.t 38)), none, none⟩])
 [7, 8, 9]
 (.seq (.drw [⟨⟨.op (.ldn 6 (.t 7)), (some 39), none⟩, .n, []⟩, ⟨⟨.op (.ldn 8 (.t 9)), (some 40), none⟩, .n, []⟩, ⟨⟨.op (.ldn 6 (.t 8)), (some 42), none⟩, .n, []⟩, ⟨⟨.op (.ldn 8 (.t 9)), (some 43), none⟩, .n, []⟩, ⟨⟨.call 30 [(.t 39), (.t 40)], (some 41), none⟩, .x, [(true, 3), (true, 2)]⟩, ⟨⟨.call 30 [(.t 42), (.t 43)], (some 44), none⟩, .x, []⟩, ⟨⟨.op (.mv (.t 41)), (some 10), none⟩, .x, []⟩, ⟨⟨.op (.mv (.t 44)), (some 11), none⟩, .x, []⟩])
 [7, 8, 9, 10, 11]
 (.seq (.drw [⟨⟨.op (.ldn 6 (.t 7)), (some 45), none⟩, .n, []⟩, ⟨⟨.op (.ldn 6 (.t 8)), (some 46), none⟩, .n, []⟩, ⟨⟨.op (.bslice 6 2 [(.int .i64 0), (.int .i64 0), (.int .i64 0), (.int .i64 0), (.str []), (.sl none 0), (.int .i64 0), (.int .i64 0), (.int .i64 0), (.int .i64 0), (.str []), (.sl none 0)] [(0, 6, (.t 45)), (6, 6, (.t 46))]), (some 47), none⟩, .a, [(true, 1), (true, 0)]⟩, ⟨⟨.op (.build [(.int .i64 0), (.int .i64 0), (.int .i64 0), (.int .i64 0), (.str []), (.sl none 0)] [(0, 1, (.c (.int .i64 5))), (5, 1, (.t 47))]), (some 48), none⟩, .n, []⟩, ⟨⟨.op (.ldn 6 (.t 7)), (some 49), none⟩, .n, []⟩, ⟨⟨.op (.ldn 6 (.t 8)), (some 50), none⟩, .n, []⟩, ⟨⟨.op (.bslice 6 2 [(.int .i64 0), (.int .i64 0), (.int .i64 0), (.int .i64 0), (.str []), (.sl none 0), (.int .i64 0), (.int .i64 0), (.int .i64 0), (.int .i64 0), (.str []), (.sl none 0)] [(0, 6, (.t 49)), (6, 6, (.t 50))]), (some 51), none⟩, .a, [(true, 5), (true, 4), (true, 1), (true, 0)]⟩, ⟨⟨.op (.build [(.int .i64 0), (.int .i64 0), (.int .i64 0), (.int .i64 0), (.str []), (.sl none 0)] [(0, 1, (.c (.int .i64 6))), (5, 1, (.t 51))]), (some 52), none⟩, .n, []⟩, ⟨⟨.op (.ldn 6 (.t 7)), (some 53), none⟩, .n, []⟩, ⟨⟨.op (.bslice 6 1 [(.int .i64 0), (.int .i64 0), (.int .i64 0), (.int .i64 0), (.str []), (.sl none 0)] [(0, 6, (.t 53))]), (some 54), none⟩, .a, [(true, 8), (true, 5), (true, 4), (true, 1), (true, 0)]⟩, ⟨⟨.op (.build [(.int .i64 0), (.int .i64 0), (.int .i64 0), (.int .i64 0), (.str []), (.sl none 0)] [(0, 1, (.c (.int .i64 7))), (5, 1, (.t 54))]), (some 55), none⟩, .n, []⟩, ⟨⟨.op (.new [(.int .i64 0), (.int .i64 0), (.int .i64 0), (.int .i64 0), (.str []), (.sl none 0)]), (some 12), none⟩, .a, [(true, 8), (true, 5), (true, 4), (true, 1), (true, 0)]⟩, ⟨⟨.op (.new [(.int .i64 0), (.int .i64 0), (.int .i64 0), (.int .i64 0), (.str []), (.sl none 0)]), (some 13), none⟩, .a, [(true, 8), (true, 5), (true, 4), (true, 1), (true, 0)]⟩, ⟨⟨.op (.new [(.int .i64 0), (.int .i64 0), (.int .i64 0), (.int .i64 0), (.str []), (.sl none 0)]), (some 14), none⟩, .a, [(true, 8), (true, 5), (true, 4), (true, 1), (true, 0)]⟩, ⟨⟨.op (.st 6 (.t 12) (.t 48)), none, none⟩, .x, [(false, 9), (true, 8), (false, 6), (true, 5), (true, 4)]⟩, ⟨⟨.op (.st 6 (.t 13) (.t 52)), none, none⟩, .x, [(false, 9), (true, 8)]⟩, ⟨⟨.op (.st 6 (.t 14) (.t 55)), none, none⟩, .x, []⟩])
 [9, 10, 11, 12, 13, 14]
 (.seq (.reg [⟨.op (.ldn 6 (.t 12)), (some 56), none⟩, ⟨.op (.ldn 8 (.t 9)), (some 57), none⟩, ⟨.call 30 [(.t 56), (.t 57)], (some 58), none⟩, ⟨.op (.mv (.t 10)), (some 59), none⟩, ⟨.op (.mv (.t 59)), (some 60), none⟩, ⟨.op (.mv (.t 11)), (some 61), (some (60, true))⟩, ⟨.op (.pick (.t 60) (.t 61) (.c (.bool false))), (some 62), none⟩, ⟨.op (.bin .eql 5 (.t 58) (.t 62)), (some 63), none⟩, ⟨.op (.mv (.t 63)), (some 64), none⟩, ⟨.op (.ldn 6 (.t 13)), (some 65), (some (64, true))⟩, ⟨.op (.ldn 8 (.t 9)), (some 66), (some (64, true))⟩, ⟨.call 30 [(.t 65), (.t 66)], (some 67), (some (64, true))⟩, ⟨.op (.mv (.t 10)), (some 68), (some (64, true))⟩, ⟨.op (.mv (.t 68)), (some 69), (some (64, true))⟩, ⟨.op (.mv (.t 11)), (some 70), (some (69, false))⟩, ⟨.op (.pick (.t 69) (.c (.bool true)) (.t 70)), (some 71), (some (64, true))⟩, ⟨.op (.bin .eql 5 (.t 67) (.t 71)), (some 72), (some (64, true))⟩, ⟨.op (.pick (.t 64) (.t 72) (.c (.bool false))), (some 73), none⟩, ⟨.op (.mv (.t 73)), (some 74), none⟩, ⟨.op (.ldn 6 (.t 14)), (some 75), (some (74, true))⟩, ⟨.op (.ldn 8 (.t 9)), (some 76), (some (74, true))⟩, ⟨.call 30 [(.t 75), (.t 76)], (some 77), (some (74, true))⟩, ⟨.op (.mv (.t 10)), (some 78), (some (74, true))⟩, ⟨.op (.not (.t 78)), (some 79), (some (74, true))⟩, ⟨.op (.bin .eql 5 (.t 77) (.t 79)), (some 80), (some (74, true))⟩, ⟨.op (.pick (.t 74) (.t 80) (.c (.bool false))), (some 81), none⟩, ⟨.op (.mv (.t 81)), (some 82), none⟩, ⟨.op (.build [(.int .i64 0), (.int .i64 0), (.int .i64 0), (.int .i64 0), (.str []), (.sl none 0)] [(0, 1, (.c (.int .i64 1)))]), (some 83), (some (82, true))⟩, ⟨.op (.ldn 8 (.t 9)), (some 84), (some (82, true))⟩, ⟨.call 30 [(.t 83), (.t 84)], (some 85), (some (82, true))⟩, ⟨.op (.pick (.t 82) (.t 85) (.c (.bool false))), (some 86), none⟩, ⟨.op (.mv (.t 86)), (some 6), none⟩])
 [6]
 (.ret))))))),
 [.tmp 6]⟩
theorem k12 : cFn Try.prog 12 = some c12.toE := by kernel_rfl
theorem w12 : c12.body.wf = true := by kernel_rfl
/-- cardamom/cardamomlaw6.EvalBare -/
noncomputable def c13 : DFn := ⟨41, .pure,
 .seq (.reg [⟨.op (.mv (.c (.bool false))), (some 4), none⟩])
 [0, 1]
 (.seq (.seq (.reg [⟨.call 26 [], (some 9), none⟩, ⟨.op (.not (.t 9)), (some 10), none⟩])
 [0, 1, 10]
 (.cond (.t 10) (.seq (.reg [⟨.op (.mv (.c (.bool false))), (some 4), none⟩])
 [4]
 (.ret)) (.skip)))
 [0, 1]
 (.seq (.seq (.reg [⟨.op (.mv (.t 0)), (some 11), none⟩, ⟨.op (.len (.t 11)), (some 12), none⟩, ⟨.op (.bin .gtr 0 (.t 12) (.c (.int .i64 30))), (some 13), none⟩, ⟨.op (.mv (.t 13)), (some 14), none⟩, ⟨.op (.mv (.t 1)), (some 15), (some (14, false))⟩, ⟨.op (.len (.t 15)), (some 16), (some (14, false))⟩, ⟨.op (.bin .gtr 0 (.t 16) (.c (.int .i64 40))), (some 17), (some (14, false))⟩, ⟨.op (.pick (.t 14) (.c (.bool true)) (.t 17)), (some 18), none⟩])
 [0, 1, 18]
 (.cond (.t 18) (.seq (.reg [⟨.op (.mv (.c (.bool true))), (some 4), none⟩])
 [4]
 (.ret)) (.skip)))
 [0, 1]
 (.seq (.reg [⟨.op (.mv (.t 0)), (some 19), none⟩, ⟨.call 27 [(.t 19)], (some 20), none⟩, ⟨.call 28 [(.t 20), (.c (.int .i64 4))], (some 21), none⟩, ⟨.op (.new [(.int .i64 0), (.int .i64 0), (.int .i64 0), (.int .i64 0), (.str []), (.sl none 0)]), (some 5), none⟩, ⟨.op (.st 6 (.t 5) (.t 21)), none, none⟩])
 [1, 5]
 (.seq (.reg [⟨.op (.mv (.t 1)), (some 22), none⟩, ⟨.call 27 [(.t 22)], (some 23), none⟩, ⟨.op (.mv (.t 23)), (some 6), none⟩])
 [5, 6]
 (.seq (.reg [⟨.op (.mv (.t 6)), (some 24), none⟩, ⟨.call 29 [(.t 24)], (some 25), none⟩, ⟨.op (.mv (.t 6)), (some 26), none⟩, ⟨.call 29 [(.t 26)], (some 27), none⟩, ⟨.op (.new [(.int .i64 0), (.int .i64 0), (.int .i64 0), (.int .i64 0), (.bool false), (.sl none 0), (.str []), (.str [])]), (some 7), none⟩, ⟨.op (.new [(.int .i64 0), (.int .i64 0), (.int .i64 0), (.int .i64 0), (.bool false), (.sl none 0), (.str []), (.str [])]), (some 8), none⟩, ⟨.op (.st 8 (.t 7) (.t 25)), none, none⟩, ⟨.op (.st 8 (.t 8) (.t 27)), none, none⟩])
 [5, 7, 8]
 (.seq (.drw [⟨⟨.op (.fa 5 (.t 7)), (some 28), none⟩, .n, []⟩, ⟨⟨.op (.ld1 (.t 28)), (some 29), none⟩, .n, []⟩, ⟨⟨.op (.fa 6 (.t 7)), (some 30), none⟩, .n, []⟩, ⟨⟨.op (.ld1 (.t 30)), (some 31), none⟩, .n, []⟩, ⟨⟨.op (.fa 5 (.t 8)), (some 32), none⟩, .n, []⟩, ⟨⟨.op (.st 1 (.t 32) (.t 29)), none, none⟩, .x, [(true, 3)]⟩, ⟨⟨.op (.fa 6 (.t 8)), (some 33), none⟩, .n, []⟩, ⟨⟨.op (.st 1 (.t 33) (.t 31)), none, none⟩, .x, []⟩])
 [5, 7, 8]
 (.seq (.drw [⟨⟨.op (.ldn 6 (.t 5)), (some 34), none⟩, .n, []⟩, ⟨⟨.op (.ldn 8 (.t 7)), (some 35), none⟩, .n, []⟩, ⟨⟨.op (.ldn 6 (.t 5)), (some 37), none⟩, .n, []⟩, ⟨⟨.op (.ldn 8 (.t 8)), (some 38), none⟩, .n, []⟩, ⟨⟨.call 30 [(.t 34), (.t 35)], (some 36), none⟩, .x, [(true, 3), (true, 2)]⟩, ⟨⟨.call 30 [(.t 37), (.t 38)], (some 39), none⟩, .x, []⟩, ⟨⟨.op (.bin .eql 5 (.t 36) (.t 39)), (some 40), none⟩, .n, []⟩, ⟨⟨.op (.mv (.t 40)), (some 4), none⟩, .x, []⟩])
 [4]
 (.ret)))))))),
 [.tmp 4]⟩
theorem k13 : cFn Try.prog 13 = some c13.toE := by kernel_rfl
theorem w13 : c13.body.wf = true := by kernel_rfl
/-- cardamom/cardamomlaw6.begun -/
noncomputable def c26 : DFn := ⟨20, .pure,
 .seq (.reg [⟨.op (.mv (.c (.bool false))), (some 0), none⟩])
 []
 (.seq (.reg [⟨.op (.build [(.int .i64 0), (.int .i64 0), (.int .i64 0)] [(0, 1, (.c (.int .i64 1))), (1, 1, (.c (.int .i64 1))), (2, 1, (.c (.int .i64 1)))]), (some 2), none⟩, ⟨.op (.build [(.int .i64 0), (.int .i64 0)] [(0, 1, (.c (.int .i64 1))), (1, 1, (.c (.int .i64 5)))]), (some 3), none⟩, ⟨.op (.bslice 2 1 [(.int .i64 0), (.int .i64 0)] [(0, 2, (.t 3))]), (some 4), none⟩, ⟨.op (.build [(.int .i64 0), (.int .i64 0), (.int .i64 0), (.int .i64 0), (.bool false), (.sl none 0), (.str []), (.str [])] [(0, 1, (.c (.int .i64 1))), (1, 3, (.t 2)), (5, 1, (.t 4)), (6, 1, (.c (.str [97, 98])))]), (some 5), none⟩, ⟨.op (.new [(.int .i64 0), (.int .i64 0), (.int .i64 0), (.int .i64 0), (.bool false), (.sl none 0), (.str []), (.str [])]), (some 1), none⟩, ⟨.op (.st 8 (.t 1) (.t 5)), none, none⟩])
 [1]
 (.seq (.reg [⟨.op (.build [(.int .i64 0), (.int .i64 0), (.int .i64 0), (.int .i64 0), (.str []), (.sl none 0)] [(0, 1, (.c (.int .i64 2))), (1, 1, (.c (.int .i64 1))), (2, 1, (.c (.int .i64 5))), (3, 1, (.c (.int .i64 5)))]), (some 6), none⟩, ⟨.op (.ldn 8 (.t 1)), (some 7), none⟩, ⟨.call 30 [(.t 6), (.t 7)], (some 8), none⟩, ⟨.op (.mv (.t 8)), (some 9), none⟩, ⟨.op (.build [(.int .i64 0), (.int .i64 0), (.int .i64 0), (.int .i64 0), (.str []), (.sl none 0)] [(0, 1, (.c (.int .i64 2))), (1, 1, (.c (.int .i64 2)))]), (some 10), (some (9, true))⟩, ⟨.op (.ldn 8 (.t 1)), (some 11), (some (9, true))⟩, ⟨.call 30 [(.t 10), (.t 11)], (some 12), (some (9, true))⟩, ⟨.op (.not (.t 12)), (some 13), (some (9, true))⟩, ⟨.op (.pick (.t 9) (.t 13) (.c (.bool false))), (some 14), none⟩, ⟨.op (.mv (.t 14)), (some 15), none⟩, ⟨.op (.build [(.int .i64 0), (.int .i64 0), (.int .i64 0), (.int .i64 0), (.str []), (.sl none 0)] [(0, 1, (.c (.int .i64 4))), (4, 1, (.c (.str [97])))]), (some 16), (some (15, true))⟩, ⟨.op (.ldn 8 (.t 1)), (some 17), (some (15, true))⟩, ⟨.call 30 [(.t 16), (.t 17)], (some 18), (some (15, true))⟩, ⟨.op (.pick (.t 15) (.t 18) (.c (.bool false))), (some 19), none⟩, ⟨.op (.mv (.t 19)), (some 0), none⟩])
 [0]
 (.ret))),
 [.tmp 0]⟩
theorem k26 : cFn Try.prog 26 = some c26.toE := by kernel_rfl
theorem w26 : c26.body.wf = true := by kernel_rfl
/-- cardamom/cardamomplay.Made -/
noncomputable def c27 : DFn := ⟨6, .vars,
 .seq (.reg [⟨.op (.mv (.c (.ptr none))), (some 2), none⟩])
 [0]
 (.seq (.reg [⟨.op (.mv (.t 0)), (some 3), none⟩, ⟨.op (.build [(.sl none 0), (.int .i64 0)] [(0, 1, (.t 3))]), (some 4), none⟩, ⟨.op (.box (.t 4)), (some 5), none⟩, ⟨.op (.mv (.t 5)), (some 2), none⟩])
 [2]
 (.ret)),
 [.tmp 2]⟩
theorem k27 : cFn Try.prog 27 = some c27.toE := by kernel_rfl
theorem w27 : c27.body.wf = true := by kernel_rfl
/-- (*cardamom/cardamomplay.Picks).Filter -/
noncomputable def c28 : DFn := ⟨75, .vars,
 .seq (.reg [⟨.op (.new [(.int .i64 0), (.int .i64 0), (.int .i64 0), (.int .i64 0), (.str []), (.sl none 0)]), (some 4), none⟩])
 [0, 1, 4]
 (.seq (.seq (.reg [⟨.op (.mv (.t 1)), (some 7), none⟩, ⟨.op (.bin .leq 0 (.t 7) (.c (.int .i64 1))), (some 8), none⟩, ⟨.op (.mv (.t 8)), (some 9), none⟩, ⟨.op (.mv (.t 0)), (some 10), (some (9, false))⟩, ⟨.call 33 [(.t 10), (.c (.int .i64 3))], (some 11), (some (9, false))⟩, ⟨.op (.bin .eql 0 (.t 11) (.c (.int .i64 0))), (some 12), (some (9, false))⟩, ⟨.op (.pick (.t 9) (.c (.bool true)) (.t 12)), (some 13), none⟩])
 [0, 1, 4, 13]
 (.cond (.t 13) (.seq (.seq (.reg [⟨.op (.mv (.t 0)), (some 14), none⟩, ⟨.call 33 [(.t 14), (.c (.int .i64 6))], (some 15), none⟩])
 [0, 4, 15]
 (.block 0 (.seq (.reg [⟨.op (.bin .eql 0 (.t 15) (.c (.int .i64 0))), (some 17), none⟩, ⟨.op (.mv (.t 17)), (some 16), none⟩])
 [0, 4, 15, 16]
 (.cond (.t 16) (.seq (.reg [⟨.op (.build [(.int .i64 0), (.int .i64 0), (.int .i64 0), (.int .i64 0), (.str []), (.sl none 0)] [(0, 1, (.c (.int .i64 1)))]), (some 18), none⟩, ⟨.op (.st 6 (.t 4) (.t 18)), none, none⟩])
 [4]
 (.ret)) (.seq (.seq (.reg [⟨.op (.bin .eql 0 (.t 15) (.c (.int .i64 1))), (some 20), none⟩, ⟨.op (.mv (.t 20)), (some 19), none⟩])
 [0, 4, 15, 19]
 (.cond (.t 19) (.skip) (.reg [⟨.op (.bin .eql 0 (.t 15) (.c (.int .i64 2))), (some 21), none⟩, ⟨.op (.mv (.t 21)), (some 19), none⟩])))
 [0, 4, 15, 19]
 (.cond (.t 19) (.seq (.reg [⟨.op (.bslice 1 4 [(.int .i64 0), (.int .i64 0), (.int .i64 0), (.int .i64 0)] [(0, 1, (.c (.int .i64 0))), (1, 1, (.c (.int .i64 1))), (2, 1, (.c (.int .i64 5))), (3, 1, (.c (.int .i64 99)))]), (some 22), none⟩, ⟨.op (.mv (.t 0)), (some 23), none⟩, ⟨.call 33 [(.t 23), (.c (.int .i64 4))], (some 24), none⟩, ⟨.op (.ia 1 none (.t 22) (.t 24)), (some 25), none⟩, ⟨.op (.ld1 (.t 25)), (some 26), none⟩, ⟨.op (.mv (.t 26)), (some 5), none⟩])
 [0, 4, 5]
 (.seq (.reg [⟨.op (.mv (.t 0)), (some 27), none⟩, ⟨.call 33 [(.t 27), (.c (.int .i64 4))], (some 28), none⟩, ⟨.op (.mv (.t 5)), (some 29), none⟩, ⟨.op (.mv (.t 5)), (some 30), none⟩, ⟨.op (.build [(.int .i64 0), (.int .i64 0), (.int .i64 0), (.int .i64 0), (.str []), (.sl none 0)] [(0, 1, (.c (.int .i64 2))), (1, 1, (.t 28)), (2, 1, (.t 29)), (3, 1, (.t 30))]), (some 31), none⟩, ⟨.op (.st 6 (.t 4) (.t 31)), none, none⟩])
 [4]
 (.ret))) (.seq (.seq (.reg [⟨.op (.bin .eql 0 (.t 15) (.c (.int .i64 3))), (some 33), none⟩, ⟨.op (.mv (.t 33)), (some 32), none⟩])
 [0, 4, 15, 32]
 (.cond (.t 32) (.skip) (.reg [⟨.op (.bin .eql 0 (.t 15) (.c (.int .i64 4))), (some 34), none⟩, ⟨.op (.mv (.t 34)), (some 32), none⟩])))
 [0, 4, 32]
 (.cond (.t 32) (.seq (.reg [⟨.op (.mv (.t 0)), (some 35), none⟩, ⟨.call 33 [(.t 35), (.c (.int .i64 4))], (some 36), none⟩, ⟨.op (.mv (.t 0)), (some 37), none⟩, ⟨.call 33 [(.t 37), (.c (.int .i64 60))], (some 38), none⟩, ⟨.op (.build [(.int .i64 0), (.int .i64 0), (.int .i64 0), (.int .i64 0), (.str []), (.sl none 0)] [(0, 1, (.c (.int .i64 3))), (1, 1, (.t 36)), (2, 1, (.t 38))]), (some 39), none⟩, ⟨.op (.new [(.int .i64 0), (.int .i64 0), (.int .i64 0), (.int .i64 0), (.str []), (.sl none 0)]), (some 6), none⟩, ⟨.op (.st 6 (.t 6) (.t 39)), none, none⟩])
 [0, 4, 6]
 (.seq (.drw [⟨⟨.op (.fa 2 (.t 6)), (some 40), none⟩, .n, []⟩, ⟨⟨.op (.ld1 (.t 40)), (some 41), none⟩, .n, []⟩, ⟨⟨.op (.mv (.t 0)), (some 42), none⟩, .n, []⟩, ⟨⟨.call 33 [(.t 42), (.c (.int .i64 40))], (some 43), none⟩, .x, [(true, 1)]⟩, ⟨⟨.op (.bin .add 0 (.t 41) (.t 43)), (some 44), none⟩, .n, []⟩, ⟨⟨.op (.fa 3 (.t 6)), (some 45), none⟩, .n, []⟩, ⟨⟨.op (.st 1 (.t 45) (.t 44)), none, none⟩, .x, []⟩])
 [4, 6]
 (.seq (.reg [⟨.op (.ldn 6 (.t 6)), (some 46), none⟩, ⟨.op (.st 6 (.t 4) (.t 46)), none, none⟩])
 [4]
 (.ret)))) (.skip)))))))))
 [0, 4]
 (.seq (.reg [⟨.op (.bslice 1 3 [(.str []), (.str []), (.str [])] [(0, 1, (.c (.str [97]))), (1, 1, (.c (.str [97, 98]))), (2, 1, (.c (.str [98])))]), (some 47), none⟩, ⟨.op (.mv (.t 0)), (some 48), none⟩, ⟨.call 33 [(.t 48), (.c (.int .i64 3))], (some 49), none⟩, ⟨.op (.ia 1 none (.t 47) (.t 49)), (some 50), none⟩, ⟨.op (.ld1 (.t 50)), (some 51), none⟩, ⟨.op (.build [(.int .i64 0), (.int .i64 0), (.int .i64 0), (.int .i64 0), (.str []), (.sl none 0)] [(0, 1, (.c (.int .i64 4))), (4, 1, (.t 51))]), (some 52), none⟩, ⟨.op (.st 6 (.t 4) (.t 52)), none, none⟩])
 [4]
 (.ret))) (.skip)))
 [0, 1, 4]
 (.seq (.seq (.reg [⟨.op (.mv (.t 0)), (some 53), none⟩, ⟨.call 33 [(.t 53), (.c (.int .i64 3))], (some 54), none⟩, ⟨.op (.bin .eql 0 (.t 54) (.c (.int .i64 0))), (some 55), none⟩])
 [0, 1, 4, 55]
 (.cond (.t 55) (.seq (.reg [⟨.op (.mv (.t 0)), (some 56), none⟩, ⟨.op (.mv (.t 1)), (some 57), none⟩, ⟨.op (.bin .sub 0 (.t 57) (.c (.int .i64 1))), (some 58), none⟩, ⟨.call 28 [(.t 56), (.t 58)], (some 59), none⟩, ⟨.op (.bslice 6 1 [(.int .i64 0), (.int .i64 0), (.int .i64 0), (.int .i64 0), (.str []), (.sl none 0)] [(0, 6, (.t 59))]), (some 60), none⟩, ⟨.op (.build [(.int .i64 0), (.int .i64 0), (.int .i64 0), (.int .i64 0), (.str []), (.sl none 0)] [(0, 1, (.c (.int .i64 7))), (5, 1, (.t 60))]), (some 61), none⟩, ⟨.op (.st 6 (.t 4) (.t 61)), none, none⟩])
 [4]
 (.ret)) (.skip)))
 [0, 1, 4]
 (.seq (.reg [⟨.op (.mv (.t 0)), (some 62), none⟩, ⟨.call 33 [(.t 62), (.c (.int .i64 2))], (some 63), none⟩, ⟨.op (.bin .add 0 (.c (.int .i64 5)) (.t 63)), (some 64), none⟩, ⟨.op (.mv (.t 0)), (some 65), none⟩, ⟨.op (.mv (.t 1)), (some 66), none⟩, ⟨.op (.bin .sub 0 (.t 66) (.c (.int .i64 1))), (some 67), none⟩, ⟨.call 28 [(.t 65), (.t 67)], (some 68), none⟩, ⟨.op (.mv (.t 0)), (some 69), none⟩, ⟨.op (.mv (.t 1)), (some 70), none⟩, ⟨.op (.bin .sub 0 (.t 70) (.c (.int .i64 1))), (some 71), none⟩, ⟨.call 28 [(.t 69), (.t 71)], (some 72), none⟩, ⟨.op (.bslice 6 2 [(.int .i64 0), (.int .i64 0), (.int .i64 0), (.int .i64 0), (.str []), (.sl none 0), (.int .i64 0), (.int .i64 0), (.int .i64 0), (.int .i64 0), (.str []), (.sl none 0)] [(0, 6, (.t 68)), (6, 6, (.t 72))]), (some 73), none⟩, ⟨.op (.build [(.int .i64 0), (.int .i64 0), (.int .i64 0), (.int .i64 0), (.str []), (.sl none 0)] [(0, 1, (.t 64)), (5, 1, (.t 73))]), (some 74), none⟩, ⟨.op (.st 6 (.t 4) (.t 74)), none, none⟩])
 [4]
 (.ret)))),
 [.celln 6 4]⟩
theorem k28 : cFn Try.prog 28 = some c28.toE := by kernel_rfl
theorem w28 : c28.body.wf = true := by kernel_rfl
/-- (*cardamom/cardamomplay.Picks).Version -/
noncomputable def c29 : DFn := ⟨28, .vars,
 .seq (.reg [⟨.op (.new [(.int .i64 0), (.int .i64 0), (.int .i64 0), (.int .i64 0), (.bool false), (.sl none 0), (.str []), (.str [])]), (some 2), none⟩])
 [0, 2]
 (.seq (.reg [⟨.op (.mv (.t 0)), (some 4), none⟩, ⟨.call 33 [(.t 4), (.c (.int .i64 6))], (some 5), none⟩, ⟨.op (.bin .add 0 (.c (.int .i64 1)) (.t 5)), (some 6), none⟩, ⟨.op (.mv (.t 0)), (some 7), none⟩, ⟨.call 34 [(.t 7)], (some 8), none⟩, ⟨.op (.mv (.t 0)), (some 9), none⟩, ⟨.call 35 [(.t 9)], (some 10), none⟩, ⟨.op (.mv (.t 0)), (some 11), none⟩, ⟨.call 36 [(.t 11)], (some 12), none⟩, ⟨.op (.build [(.int .i64 0), (.int .i64 0), (.int .i64 0), (.int .i64 0), (.bool false), (.sl none 0), (.str []), (.str [])] [(0, 1, (.t 6)), (1, 3, (.t 8)), (5, 1, (.t 10)), (6, 1, (.t 12))]), (some 13), none⟩, ⟨.op (.new [(.int .i64 0), (.int .i64 0), (.int .i64 0), (.int .i64 0), (.bool false), (.sl none 0), (.str []), (.str [])]), (some 3), none⟩, ⟨.op (.st 8 (.t 3) (.t 13)), none, none⟩])
 [0, 2, 3]
 (.seq (.reg [⟨.op (.mv (.t 0)), (some 14), none⟩, ⟨.call 33 [(.t 14), (.c (.int .i64 6))], (some 15), none⟩, ⟨.op (.bin .eql 0 (.t 15) (.c (.int .i64 1))), (some 16), none⟩, ⟨.op (.fa 4 (.t 3)), (some 17), none⟩, ⟨.op (.st 1 (.t 17) (.t 16)), none, none⟩])
 [0, 2, 3]
 (.seq (.seq (.reg [⟨.op (.fa 4 (.t 3)), (some 18), none⟩, ⟨.op (.ld1 (.t 18)), (some 19), none⟩, ⟨.op (.not (.t 19)), (some 20), none⟩])
 [0, 2, 3, 20]
 (.cond (.t 20) (.reg [⟨.op (.bslice 1 4 [(.str []), (.str []), (.str []), (.str [])] [(0, 1, (.c (.str []))), (1, 1, (.c (.str [120]))), (2, 1, (.c (.str [98, 111, 100, 121]))), (3, 1, (.c (.str [97, 32, 98, 111, 100, 121, 32, 111, 102, 32, 49, 50])))]), (some 21), none⟩, ⟨.op (.mv (.t 0)), (some 22), none⟩, ⟨.call 33 [(.t 22), (.c (.int .i64 4))], (some 23), none⟩, ⟨.op (.ia 1 none (.t 21) (.t 23)), (some 24), none⟩, ⟨.op (.ld1 (.t 24)), (some 25), none⟩, ⟨.op (.fa 7 (.t 3)), (some 26), none⟩, ⟨.op (.st 1 (.t 26) (.t 25)), none, none⟩]) (.skip)))
 [2, 3]
 (.seq (.reg [⟨.op (.ldn 8 (.t 3)), (some 27), none⟩, ⟨.op (.st 8 (.t 2) (.t 27)), none, none⟩])
 [2]
 (.ret))))),
 [.celln 8 2]⟩
theorem k29 : cFn Try.prog 29 = some c29.toE := by kernel_rfl
theorem w29 : c29.body.wf = true := by kernel_rfl
/-- (*cardamom/cardamomplay.Picks).Num -/
noncomputable def c33 : DFn := ⟨40, .vars,
 .seq (.reg [⟨.op (.mv (.c (.int .i64 0))), (some 4), none⟩])
 [0, 1]
 (.seq (.seq (.drw [⟨⟨.op (.mv (.t 0)), (some 5), none⟩, .n, []⟩, ⟨⟨.op (.nilchk (.t 5)), (some 6), none⟩, .n, []⟩, ⟨⟨.op (.fa 1 (.t 6)), (some 7), none⟩, .n, []⟩, ⟨⟨.op (.ld1 (.t 7)), (some 8), none⟩, .n, []⟩, ⟨⟨.op (.mv (.t 0)), (some 9), none⟩, .n, []⟩, ⟨⟨.op (.nilchk (.t 9)), (some 10), none⟩, .n, []⟩, ⟨⟨.op (.fa 0 (.t 10)), (some 11), none⟩, .n, []⟩, ⟨⟨.op (.ld1 (.t 11)), (some 12), none⟩, .n, []⟩, ⟨⟨.op (.len (.t 12)), (some 13), none⟩, .n, []⟩, ⟨⟨.op (.bin .geq 0 (.t 8) (.t 13)), (some 14), none⟩, .n, []⟩, ⟨⟨.op (.mv (.t 14)), (some 15), none⟩, .n, []⟩, ⟨⟨.op (.mv (.t 1)), (some 16), (some (15, false))⟩, .n, []⟩, ⟨⟨.op (.bin .lss 0 (.t 16) (.c (.int .i64 1))), (some 17), (some (15, false))⟩, .n, []⟩, ⟨⟨.op (.pick (.t 15) (.c (.bool true)) (.t 17)), (some 18), none⟩, .n, []⟩])
 [0, 1, 18]
 (.cond (.t 18) (.seq (.reg [⟨.op (.mv (.c (.int .i64 0))), (some 4), none⟩])
 [4]
 (.ret)) (.skip)))
 [0, 1]
 (.seq (.reg [⟨.op (.mv (.t 0)), (some 19), none⟩, ⟨.op (.nilchk (.t 19)), (some 20), none⟩, ⟨.op (.fa 1 (.t 20)), (some 21), none⟩, ⟨.op (.ld1 (.t 21)), (some 22), none⟩, ⟨.op (.bin .add 0 (.t 22) (.c (.int .i64 1))), (some 23), none⟩, ⟨.op (.nilchk (.t 19)), (some 24), none⟩, ⟨.op (.fa 1 (.t 24)), (some 25), none⟩, ⟨.op (.st 1 (.t 25) (.t 23)), none, none⟩])
 [0, 1]
 (.seq (.drw [⟨⟨.op (.mv (.t 0)), (some 26), none⟩, .n, []⟩, ⟨⟨.op (.nilchk (.t 26)), (some 27), none⟩, .n, []⟩, ⟨⟨.op (.fa 0 (.t 27)), (some 28), none⟩, .n, []⟩, ⟨⟨.op (.ld1 (.t 28)), (some 29), none⟩, .n, []⟩, ⟨⟨.op (.mv (.t 0)), (some 30), none⟩, .n, []⟩, ⟨⟨.op (.nilchk (.t 30)), (some 31), none⟩, .n, []⟩, ⟨⟨.op (.fa 1 (.t 31)), (some 32), none⟩, .n, []⟩, ⟨⟨.op (.ld1 (.t 32)), (some 33), none⟩, .n, []⟩, ⟨⟨.op (.bin .sub 0 (.t 33) (.c (.int .i64 1))), (some 34), none⟩, .n, []⟩, ⟨⟨.op (.ia 1 none (.t 29) (.t 34)), (some 35), none⟩, .n, []⟩, ⟨⟨.op (.ld1 (.t 35)), (some 36), none⟩, .n, []⟩, ⟨⟨.op (.conv .i64 (.t 36)), (some 37), none⟩, .n, []⟩, ⟨⟨.op (.mv (.t 1)), (some 38), none⟩, .n, []⟩, ⟨⟨.op (.bin .rem 0 (.t 37) (.t 38)), (some 39), none⟩, .n, []⟩, ⟨⟨.op (.mv (.t 39)), (some 4), none⟩, .x, []⟩])
 [4]
 (.ret)))),
 [.tmp 4]⟩
theorem k33 : cFn Try.prog 33 = some c33.toE := by kernel_rfl
theorem w33 : c33.body.wf = true := by kernel_rfl
/-- (*cardamom/cardamomplay.Picks).Stamp -/
noncomputable def c34 : DFn := ⟨18, .vars,
 .seq (.reg [⟨.op (.new [(.int .i64 0), (.int .i64 0), (.int .i64 0)]), (some 2), none⟩])
 [0, 2]
 (.seq (.reg [⟨.op (.mv (.t 0)), (some 4), none⟩, ⟨.call 33 [(.t 4), (.c (.int .i64 9))], (some 5), none⟩, ⟨.op (.bin .add 0 (.c (.int .i64 1)) (.t 5)), (some 6), none⟩, ⟨.op (.mv (.t 0)), (some 7), none⟩, ⟨.call 33 [(.t 7), (.c (.int .i64 3))], (some 8), none⟩, ⟨.op (.bin .add 0 (.c (.int .i64 1)) (.t 8)), (some 9), none⟩, ⟨.op (.build [(.int .i64 0), (.int .i64 0), (.int .i64 0)] [(0, 1, (.t 6)), (1, 1, (.t 9))]), (some 10), none⟩, ⟨.op (.new [(.int .i64 0), (.int .i64 0), (.int .i64 0)]), (some 3), none⟩, ⟨.op (.st 3 (.t 3) (.t 10)), none, none⟩])
 [0, 2, 3]
 (.seq (.reg [⟨.op (.mv (.t 0)), (some 11), none⟩, ⟨.op (.fa 0 (.t 3)), (some 12), none⟩, ⟨.op (.ld1 (.t 12)), (some 13), none⟩, ⟨.call 33 [(.t 11), (.t 13)], (some 14), none⟩, ⟨.op (.bin .add 0 (.c (.int .i64 1)) (.t 14)), (some 15), none⟩, ⟨.op (.fa 2 (.t 3)), (some 16), none⟩, ⟨.op (.st 1 (.t 16) (.t 15)), none, none⟩])
 [2, 3]
 (.seq (.reg [⟨.op (.ldn 3 (.t 3)), (some 17), none⟩, ⟨.op (.st 3 (.t 2) (.t 17)), none, none⟩])
 [2]
 (.ret)))),
 [.celln 3 2]⟩
theorem k34 : cFn Try.prog 34 = some c34.toE := by kernel_rfl
theorem w34 : c34.body.wf = true := by kernel_rfl
noncomputable def l35_0 : DC :=
 .seq (.seq (.reg [⟨.op (.mv (.t 4)), (some 5), none⟩, ⟨.op (.bin .lss 0 (.t 5) (.c (.int .i64 4))), (some 6), none⟩, ⟨.op (.mv (.t 6)), (some 7), none⟩, ⟨.op (.mv (.t 3)), (some 8), (some (7, true))⟩, ⟨.op (.len (.t 8)), (some 9), (some (7, true))⟩, ⟨.op (.bin .lss 0 (.t 9) (.c (.int .i64 3))), (some 10), (some (7, true))⟩, ⟨.op (.pick (.t 7) (.t 10) (.c (.bool false))), (some 11), none⟩])
 [0, 3, 4, 11]
 (.cond (.t 11) (.skip) (.exit 0)))
 [0, 3, 4]
 (.seq (.block 1 (.seq (.reg [⟨.op (.mv (.t 0)), (some 14), none⟩, ⟨.call 33 [(.t 14), (.c (.int .i64 2))], (some 15), none⟩, ⟨.op (.bin .eql 0 (.t 15) (.c (.int .i64 0))), (some 16), none⟩])
 [0, 3, 4, 16]
 (.cond (.t 16) (.reg [⟨.op (.mv (.t 3)), (some 17), none⟩, ⟨.op (.mv (.t 4)), (some 18), none⟩, ⟨.op (.bslice 1 6 [(.int .i64 0), (.int .i64 0), (.int .i64 0), (.int .i64 0), (.int .i64 0), (.int .i64 0)] [(0, 1, (.c (.int .i64 0))), (1, 1, (.c (.int .i64 1))), (2, 1, (.c (.int .i64 5))), (3, 1, (.c (.int .i64 7))), (4, 1, (.c (.int .i64 50))), (5, 1, (.c (.int .i64 99)))]), (some 19), none⟩, ⟨.op (.mv (.t 0)), (some 20), none⟩, ⟨.call 33 [(.t 20), (.c (.int .i64 6))], (some 21), none⟩, ⟨.op (.ia 1 none (.t 19) (.t 21)), (some 22), none⟩, ⟨.op (.ld1 (.t 22)), (some 23), none⟩, ⟨.op (.build [(.int .i64 0), (.int .i64 0)] [(0, 1, (.t 18)), (1, 1, (.t 23))]), (some 24), none⟩, ⟨.op (.bslice 2 1 [(.int .i64 0), (.int .i64 0)] [(0, 2, (.t 24))]), (some 25), none⟩, ⟨.op (.app 2 16 false (.t 17) (.t 25)), (some 26), none⟩, ⟨.op (.mv (.t 26)), (some 3), none⟩]) (.skip))))
 [0, 3, 4]
 (.reg [⟨.op (.mv (.t 4)), (some 12), none⟩, ⟨.op (.bin .add 0 (.t 12) (.c (.int .i64 1))), (some 13), none⟩, ⟨.op (.mv (.t 13)), (some 4), none⟩]))
theorem u35_0 (call : DCall) (T : Tm) (st : Dv.St) : dCw Try.prog call l35_0 T st = dCw Try.prog call
 (.seq (.seq (.reg [⟨.op (.mv (.t 4)), (some 5), none⟩, ⟨.op (.bin .lss 0 (.t 5) (.c (.int .i64 4))), (some 6), none⟩, ⟨.op (.mv (.t 6)), (some 7), none⟩, ⟨.op (.mv (.t 3)), (some 8), (some (7, true))⟩, ⟨.op (.len (.t 8)), (some 9), (some (7, true))⟩, ⟨.op (.bin .lss 0 (.t 9) (.c (.int .i64 3))), (some 10), (some (7, true))⟩, ⟨.op (.pick (.t 7) (.t 10) (.c (.bool false))), (some 11), none⟩])
 [0, 3, 4, 11]
 (.cond (.t 11) (.skip) (.exit 0)))
 [0, 3, 4]
 (.seq (.block 1 (.seq (.reg [⟨.op (.mv (.t 0)), (some 14), none⟩, ⟨.call 33 [(.t 14), (.c (.int .i64 2))], (some 15), none⟩, ⟨.op (.bin .eql 0 (.t 15) (.c (.int .i64 0))), (some 16), none⟩])
 [0, 3, 4, 16]
 (.cond (.t 16) (.reg [⟨.op (.mv (.t 3)), (some 17), none⟩, ⟨.op (.mv (.t 4)), (some 18), none⟩, ⟨.op (.bslice 1 6 [(.int .i64 0), (.int .i64 0), (.int .i64 0), (.int .i64 0), (.int .i64 0), (.int .i64 0)] [(0, 1, (.c (.int .i64 0))), (1, 1, (.c (.int .i64 1))), (2, 1, (.c (.int .i64 5))), (3, 1, (.c (.int .i64 7))), (4, 1, (.c (.int .i64 50))), (5, 1, (.c (.int .i64 99)))]), (some 19), none⟩, ⟨.op (.mv (.t 0)), (some 20), none⟩, ⟨.call 33 [(.t 20), (.c (.int .i64 6))], (some 21), none⟩, ⟨.op (.ia 1 none (.t 19) (.t 21)), (some 22), none⟩, ⟨.op (.ld1 (.t 22)), (some 23), none⟩, ⟨.op (.build [(.int .i64 0), (.int .i64 0)] [(0, 1, (.t 18)), (1, 1, (.t 23))]), (some 24), none⟩, ⟨.op (.bslice 2 1 [(.int .i64 0), (.int .i64 0)] [(0, 2, (.t 24))]), (some 25), none⟩, ⟨.op (.app 2 16 false (.t 17) (.t 25)), (some 26), none⟩, ⟨.op (.mv (.t 26)), (some 3), none⟩]) (.skip))))
 [0, 3, 4]
 (.reg [⟨.op (.mv (.t 4)), (some 12), none⟩, ⟨.op (.bin .add 0 (.t 12) (.c (.int .i64 1))), (some 13), none⟩, ⟨.op (.mv (.t 13)), (some 4), none⟩]))) T st := rfl
/-- (*cardamom/cardamomplay.Picks).Attrs -/
noncomputable def c35 : DFn := ⟨28, .vars,
 .seq (.reg [⟨.op (.mv (.c (.sl none 0))), (some 2), none⟩])
 [0]
 (.seq (.reg [⟨.op (.mv (.c (.sl none 0))), (some 3), none⟩])
 [0, 3]
 (.seq (.seq (.reg [⟨.op (.mv (.c (.int .i64 0))), (some 4), none⟩])
 [0, 3, 4]
 (.block 0 (.loop [0, 3, 4] (l35_0))))
 [3]
 (.seq (.reg [⟨.op (.mv (.t 3)), (some 27), none⟩, ⟨.op (.mv (.t 27)), (some 2), none⟩])
 [2]
 (.ret)))),
 [.tmp 2]⟩
theorem k35 : cFn Try.prog 35 = some c35.toE := by kernel_rfl
theorem w35 : c35.body.wf = true := by kernel_rfl
/-- (*cardamom/cardamomplay.Picks).Tag -/
noncomputable def c36 : DFn := ⟨8, .vars,
 .seq (.reg [⟨.op (.mv (.c (.str []))), (some 2), none⟩])
 [0]
 (.seq (.reg [⟨.op (.bslice 1 6 [(.str []), (.str []), (.str []), (.str []), (.str []), (.str [])] [(0, 1, (.c (.str []))), (1, 1, (.c (.str [97]))), (2, 1, (.c (.str [97, 98]))), (3, 1, (.c (.str [97, 98, 99]))), (4, 1, (.c (.str [98]))), (5, 1, (.c (.str [98, 97])))]), (some 3), none⟩, ⟨.op (.mv (.t 0)), (some 4), none⟩, ⟨.call 33 [(.t 4), (.c (.int .i64 6))], (some 5), none⟩, ⟨.op (.ia 1 none (.t 3) (.t 5)), (some 6), none⟩, ⟨.op (.ld1 (.t 6)), (some 7), none⟩, ⟨.op (.mv (.t 7)), (some 2), none⟩])
 [2]
 (.ret)),
 [.tmp 2]⟩
theorem k36 : cFn Try.prog 36 = some c36.toE := by kernel_rfl
theorem w36 : c36.body.wf = true := by kernel_rfl
/-- cardamom/eval.Lets -/
noncomputable def c30 : DFn := ⟨64, .pure,
 .seq (.reg [⟨.op (.box (.t 0)), (some 2), none⟩, ⟨.op (.box (.t 1)), (some 3), none⟩, ⟨.op (.mv (.c (.bool false))), (some 4), none⟩])
 [2, 3]
 (.seq (.reg [⟨.op (.fn 37 [(.t 3)]), (some 8), none⟩, ⟨.op (.new [.nilfn]), (some 5), none⟩, ⟨.op (.st 1 (.t 5) (.t 8)), none, none⟩])
 [2, 3, 5]
 (.seq (.seq (.reg [⟨.op (.fa 0 (.t 2)), (some 9), none⟩, ⟨.op (.ld1 (.t 9)), (some 10), none⟩])
 [2, 3, 5, 10]
 (.block 0 (.seq (.block 7 (.seq (.block 6 (.seq (.block 5 (.seq (.block 4 (.seq (.block 3 (.block 2 (.seq (.block 1 (.seq (.seq (.seq (.reg [⟨.op (.bin .eql 0 (.t 10) (.c (.int .i64 1))), (some 12), none⟩, ⟨.op (.mv (.t 12)), (some 11), none⟩])
 [2, 3, 5, 10, 11]
 (.cond (.t 11) (.exit 1) (.skip)))
 [2, 3, 5, 10]
 (.seq (.seq (.reg [⟨.op (.bin .eql 0 (.t 10) (.c (.int .i64 2))), (some 14), none⟩, ⟨.op (.mv (.t 14)), (some 13), none⟩])
 [2, 3, 5, 10, 13]
 (.cond (.t 13) (.exit 2) (.skip)))
 [2, 3, 5, 10]
 (.seq (.seq (.reg [⟨.op (.bin .eql 0 (.t 10) (.c (.int .i64 3))), (some 16), none⟩, ⟨.op (.mv (.t 16)), (some 15), none⟩])
 [2, 3, 5, 10, 15]
 (.cond (.t 15) (.exit 3) (.skip)))
 [2, 3, 5, 10]
 (.seq (.seq (.reg [⟨.op (.bin .eql 0 (.t 10) (.c (.int .i64 4))), (some 18), none⟩, ⟨.op (.mv (.t 18)), (some 17), none⟩])
 [2, 3, 5, 10, 17]
 (.cond (.t 17) (.exit 4) (.skip)))
 [2, 5, 10]
 (.seq (.seq (.reg [⟨.op (.bin .eql 0 (.t 10) (.c (.int .i64 5))), (some 20), none⟩, ⟨.op (.mv (.t 20)), (some 19), none⟩])
 [2, 5, 10, 19]
 (.cond (.t 19) (.exit 5) (.skip)))
 [2, 5, 10]
 (.seq (.seq (.reg [⟨.op (.bin .eql 0 (.t 10) (.c (.int .i64 6))), (some 22), none⟩, ⟨.op (.mv (.t 22)), (some 21), none⟩])
 [2, 5, 10, 21]
 (.cond (.t 21) (.exit 6) (.skip)))
 [2, 5, 10]
 (.seq (.reg [⟨.op (.bin .eql 0 (.t 10) (.c (.int .i64 7))), (some 24), none⟩, ⟨.op (.mv (.t 24)), (some 23), none⟩])
 [2, 5, 23]
 (.cond (.t 23) (.exit 7) (.skip)))))))))
 []
 (.exit 0)))
 []
 (.seq (.seq (.reg [⟨.op (.mv (.c (.bool true))), (some 4), none⟩])
 [4]
 (.ret))
 []
 (.exit 0)))))
 [2, 3]
 (.seq (.seq (.reg [⟨.op (.ldn 8 (.t 3)), (some 26), none⟩, ⟨.op (.fa 1 (.t 2)), (some 27), none⟩, ⟨.op (.ld1 (.t 27)), (some 28), none⟩, ⟨.call 38 [(.t 26), (.t 28)], (some 29), none⟩, ⟨.op (.mv (.t 29)), (some 25), none⟩, ⟨.op (.ext (.t 25) 0), (some 30), none⟩, ⟨.op (.ext (.t 25) 1), (some 31), none⟩, ⟨.op (.mv (.t 30)), (some 6), none⟩, ⟨.op (.mv (.t 31)), (some 7), none⟩])
 [2, 6, 7]
 (.seq (.reg [⟨.op (.mv (.t 7)), (some 32), none⟩, ⟨.op (.mv (.t 32)), (some 33), none⟩, ⟨.op (.mv (.t 6)), (some 34), (some (33, true))⟩, ⟨.op (.fa 2 (.t 2)), (some 35), (some (33, true))⟩, ⟨.op (.ld1 (.t 35)), (some 36), (some (33, true))⟩, ⟨.op (.bin .geq 0 (.t 34) (.t 36)), (some 37), (some (33, true))⟩, ⟨.op (.pick (.t 33) (.t 37) (.c (.bool false))), (some 38), none⟩, ⟨.op (.mv (.t 38)), (some 39), none⟩, ⟨.op (.mv (.t 6)), (some 40), (some (39, true))⟩, ⟨.op (.fa 3 (.t 2)), (some 41), (some (39, true))⟩, ⟨.op (.ld1 (.t 41)), (some 42), (some (39, true))⟩, ⟨.op (.bin .leq 0 (.t 40) (.t 42)), (some 43), (some (39, true))⟩, ⟨.op (.pick (.t 39) (.t 43) (.c (.bool false))), (some 44), none⟩, ⟨.op (.mv (.t 44)), (some 4), none⟩])
 [4]
 (.ret)))
 []
 (.exit 0))))
 [2, 3]
 (.seq (.seq (.reg [⟨.op (.fa 6 (.t 3)), (some 45), none⟩, ⟨.op (.ld1 (.t 45)), (some 46), none⟩, ⟨.op (.fa 4 (.t 2)), (some 47), none⟩, ⟨.op (.ld1 (.t 47)), (some 48), none⟩, ⟨.call 39 [(.t 46), (.t 48)], (some 49), none⟩, ⟨.op (.mv (.t 49)), (some 4), none⟩])
 [4]
 (.ret))
 []
 (.exit 0))))
 [2, 5]
 (.seq (.seq (.reg [⟨.op (.fa 5 (.t 2)), (some 50), none⟩, ⟨.op (.ld1 (.t 50)), (some 51), none⟩, ⟨.op (.fn 41 [(.t 5)]), (some 52), none⟩, ⟨.call 40 [(.t 51), (.t 52)], (some 53), none⟩, ⟨.op (.not (.t 53)), (some 54), none⟩, ⟨.op (.mv (.t 54)), (some 4), none⟩])
 [4]
 (.ret))
 []
 (.exit 0))))
 [2, 5]
 (.seq (.seq (.reg [⟨.op (.fa 5 (.t 2)), (some 55), none⟩, ⟨.op (.ld1 (.t 55)), (some 56), none⟩, ⟨.op (.ld1 (.t 5)), (some 57), none⟩, ⟨.call 40 [(.t 56), (.t 57)], (some 58), none⟩, ⟨.op (.mv (.t 58)), (some 4), none⟩])
 [4]
 (.ret))
 []
 (.exit 0))))
 [2, 5]
 (.seq (.seq (.reg [⟨.op (.fa 5 (.t 2)), (some 59), none⟩, ⟨.op (.ld1 (.t 59)), (some 60), none⟩, ⟨.op (.ld1 (.t 5)), (some 61), none⟩, ⟨.call 40 [(.t 60), (.t 61)], (some 62), none⟩, ⟨.op (.not (.t 62)), (some 63), none⟩, ⟨.op (.mv (.t 63)), (some 4), none⟩])
 [4]
 (.ret))
 []
 (.exit 0)))))
 []
 (.seq (.reg [⟨.op (.mv (.c (.bool false))), (some 4), none⟩])
 [4]
 (.ret)))),
 [.tmp 4]⟩
theorem k30 : cFn Try.prog 30 = some c30.toE := by kernel_rfl
theorem w30 : c30.body.wf = true := by kernel_rfl
/-- cardamom/eval.Lets$1 -/
noncomputable def c37 : DFn := ⟨7, .pure,
 .seq (.reg [⟨.op (.box (.t 0)), (some 2), none⟩, ⟨.op (.mv (.c (.bool false))), (some 3), none⟩])
 [1, 2]
 (.seq (.reg [⟨.op (.ldn 6 (.t 2)), (some 4), none⟩, ⟨.op (.ldn 8 (.t 1)), (some 5), none⟩, ⟨.call 30 [(.t 4), (.t 5)], (some 6), none⟩, ⟨.op (.mv (.t 6)), (some 3), none⟩])
 [3]
 (.ret)),
 [.tmp 3]⟩
theorem k37 : cFn Try.prog 37 = some c37.toE := by kernel_rfl
theorem w37 : c37.body.wf = true := by kernel_rfl
/-- cardamom/eval.Lets$2 -/
noncomputable def c41 : DFn := ⟨8, .pure,
 .seq (.reg [⟨.op (.box (.t 0)), (some 2), none⟩, ⟨.op (.mv (.c (.bool false))), (some 3), none⟩])
 [1, 2]
 (.seq (.reg [⟨.op (.ld1 (.t 1)), (some 4), none⟩, ⟨.op (.ldn 6 (.t 2)), (some 5), none⟩, ⟨.callv (.t 4) [(.t 5)], (some 6), none⟩, ⟨.op (.not (.t 6)), (some 7), none⟩, ⟨.op (.mv (.t 7)), (some 3), none⟩])
 [3]
 (.ret)),
 [.tmp 3]⟩
theorem k41 : cFn Try.prog 41 = some c41.toE := by kernel_rfl
theorem w41 : c41.body.wf = true := by kernel_rfl
/-- cardamom/cardamomref4.Lets -/
noncomputable def c31 : DFn := ⟨82, .pure,
 .seq (.reg [⟨.op (.box (.t 0)), (some 2), none⟩, ⟨.op (.box (.t 1)), (some 3), none⟩, ⟨.op (.mv (.c (.bool false))), (some 4), none⟩])
 [2, 3]
 (.seq (.seq (.reg [⟨.op (.fa 0 (.t 2)), (some 7), none⟩, ⟨.op (.ld1 (.t 7)), (some 8), none⟩])
 [2, 3, 8]
 (.block 0 (.seq (.reg [⟨.op (.bin .eql 0 (.t 8) (.c (.int .i64 1))), (some 10), none⟩, ⟨.op (.mv (.t 10)), (some 9), none⟩])
 [2, 3, 8, 9]
 (.cond (.t 9) (.seq (.reg [⟨.op (.mv (.c (.bool true))), (some 4), none⟩])
 [4]
 (.ret)) (.seq (.seq (.reg [⟨.op (.bin .eql 0 (.t 8) (.c (.int .i64 2))), (some 12), none⟩, ⟨.op (.mv (.t 12)), (some 11), none⟩])
 [2, 3, 8, 11]
 (.cond (.t 11) (.skip) (.reg [⟨.op (.bin .eql 0 (.t 8) (.c (.int .i64 3))), (some 13), none⟩, ⟨.op (.mv (.t 13)), (some 11), none⟩])))
 [2, 3, 8, 11]
 (.cond (.t 11) (.seq (.reg [⟨.op (.ldn 8 (.t 3)), (some 15), none⟩, ⟨.op (.fa 1 (.t 2)), (some 16), none⟩, ⟨.op (.ld1 (.t 16)), (some 17), none⟩, ⟨.call 42 [(.t 15), (.t 17)], (some 18), none⟩, ⟨.op (.mv (.t 18)), (some 14), none⟩, ⟨.op (.ext (.t 14) 0), (some 19), none⟩, ⟨.op (.ext (.t 14) 1), (some 20), none⟩, ⟨.op (.mv (.t 19)), (some 5), none⟩, ⟨.op (.mv (.t 20)), (some 6), none⟩])
 [2, 5, 6]
 (.seq (.reg [⟨.op (.mv (.t 6)), (some 21), none⟩, ⟨.op (.mv (.t 21)), (some 22), none⟩, ⟨.op (.mv (.t 5)), (some 23), (some (22, true))⟩, ⟨.op (.fa 2 (.t 2)), (some 24), (some (22, true))⟩, ⟨.op (.ld1 (.t 24)), (some 25), (some (22, true))⟩, ⟨.op (.bin .geq 0 (.t 23) (.t 25)), (some 26), (some (22, true))⟩, ⟨.op (.pick (.t 22) (.t 26) (.c (.bool false))), (some 27), none⟩, ⟨.op (.mv (.t 27)), (some 28), none⟩, ⟨.op (.mv (.t 5)), (some 29), (some (28, true))⟩, ⟨.op (.fa 3 (.t 2)), (some 30), (some (28, true))⟩, ⟨.op (.ld1 (.t 30)), (some 31), (some (28, true))⟩, ⟨.op (.bin .leq 0 (.t 29) (.t 31)), (some 32), (some (28, true))⟩, ⟨.op (.pick (.t 28) (.t 32) (.c (.bool false))), (some 33), none⟩, ⟨.op (.mv (.t 33)), (some 4), none⟩])
 [4]
 (.ret))) (.seq (.reg [⟨.op (.bin .eql 0 (.t 8) (.c (.int .i64 4))), (some 35), none⟩, ⟨.op (.mv (.t 35)), (some 34), none⟩])
 [2, 3, 8, 34]
 (.cond (.t 34) (.seq (.reg [⟨.op (.fa 6 (.t 3)), (some 36), none⟩, ⟨.op (.ld1 (.t 36)), (some 37), none⟩, ⟨.op (.fa 4 (.t 2)), (some 38), none⟩, ⟨.op (.ld1 (.t 38)), (some 39), none⟩, ⟨.call 43 [(.t 37), (.t 39)], (some 40), none⟩, ⟨.op (.mv (.t 40)), (some 4), none⟩])
 [4]
 (.ret)) (.seq (.reg [⟨.op (.bin .eql 0 (.t 8) (.c (.int .i64 5))), (some 42), none⟩, ⟨.op (.mv (.t 42)), (some 41), none⟩])
 [2, 3, 8, 41]
 (.cond (.t 41) (.seq (.drw [⟨⟨.op (.fa 5 (.t 2)), (some 43), none⟩, .n, []⟩, ⟨⟨.op (.ld1 (.t 43)), (some 44), none⟩, .n, []⟩, ⟨⟨.op (.ia 6 none (.t 44) (.c (.int .i64 0))), (some 45), none⟩, .n, []⟩, ⟨⟨.op (.ldn 6 (.t 45)), (some 46), none⟩, .n, []⟩, ⟨⟨.op (.ldn 8 (.t 3)), (some 47), none⟩, .n, []⟩, ⟨⟨.call 31 [(.t 46), (.t 47)], (some 48), none⟩, .x, []⟩, ⟨⟨.op (.mv (.t 48)), (some 49), none⟩, .n, []⟩, ⟨⟨.op (.fa 5 (.t 2)), (some 50), (some (49, true))⟩, .n, []⟩, ⟨⟨.op (.ld1 (.t 50)), (some 51), (some (49, true))⟩, .n, []⟩, ⟨⟨.op (.ia 6 none (.t 51) (.c (.int .i64 1))), (some 52), (some (49, true))⟩, .n, []⟩, ⟨⟨.op (.ldn 6 (.t 52)), (some 53), (some (49, true))⟩, .n, []⟩, ⟨⟨.op (.ldn 8 (.t 3)), (some 54), (some (49, true))⟩, .n, []⟩, ⟨⟨.call 31 [(.t 53), (.t 54)], (some 55), (some (49, true))⟩, .x, []⟩, ⟨⟨.op (.pick (.t 49) (.t 55) (.c (.bool false))), (some 56), none⟩, .n, []⟩, ⟨⟨.op (.mv (.t 56)), (some 4), none⟩, .x, []⟩])
 [4]
 (.ret)) (.seq (.reg [⟨.op (.bin .eql 0 (.t 8) (.c (.int .i64 6))), (some 58), none⟩, ⟨.op (.mv (.t 58)), (some 57), none⟩])
 [2, 3, 8, 57]
 (.cond (.t 57) (.seq (.drw [⟨⟨.op (.fa 5 (.t 2)), (some 59), none⟩, .n, []⟩, ⟨⟨.op (.ld1 (.t 59)), (some 60), none⟩, .n, []⟩, ⟨⟨.op (.ia 6 none (.t 60) (.c (.int .i64 0))), (some 61), none⟩, .n, []⟩, ⟨⟨.op (.ldn 6 (.t 61)), (some 62), none⟩, .n, []⟩, ⟨⟨.op (.ldn 8 (.t 3)), (some 63), none⟩, .n, []⟩, ⟨⟨.call 31 [(.t 62), (.t 63)], (some 64), none⟩, .x, []⟩, ⟨⟨.op (.mv (.t 64)), (some 65), none⟩, .n, []⟩, ⟨⟨.op (.fa 5 (.t 2)), (some 66), (some (65, false))⟩, .n, []⟩, ⟨⟨.op (.ld1 (.t 66)), (some 67), (some (65, false))⟩, .n, []⟩, ⟨⟨.op (.ia 6 none (.t 67) (.c (.int .i64 1))), (some 68), (some (65, false))⟩, .n, []⟩, ⟨⟨.op (.ldn 6 (.t 68)), (some 69), (some (65, false))⟩, .n, []⟩, ⟨⟨.op (.ldn 8 (.t 3)), (some 70), (some (65, false))⟩, .n, []⟩, ⟨⟨.call 31 [(.t 69), (.t 70)], (some 71), (some (65, false))⟩, .x, []⟩, ⟨⟨.op (.pick (.t 65) (.c (.bool true)) (.t 71)), (some 72), none⟩, .n, []⟩, ⟨⟨.op (.mv (.t 72)), (some 4), none⟩, .x, []⟩])
 [4]
 (.ret)) (.seq (.reg [⟨.op (.bin .eql 0 (.t 8) (.c (.int .i64 7))), (some 74), none⟩, ⟨.op (.mv (.t 74)), (some 73), none⟩])
 [2, 3, 73]
 (.cond (.t 73) (.seq (.drw [⟨⟨.op (.fa 5 (.t 2)), (some 75), none⟩, .n, []⟩, ⟨⟨.op (.ld1 (.t 75)), (some 76), none⟩, .n, []⟩, ⟨⟨.op (.ia 6 none (.t 76) (.c (.int .i64 0))), (some 77), none⟩, .n, []⟩, ⟨⟨.op (.ldn 6 (.t 77)), (some 78), none⟩, .n, []⟩, ⟨⟨.op (.ldn 8 (.t 3)), (some 79), none⟩, .n, []⟩, ⟨⟨.call 31 [(.t 78), (.t 79)], (some 80), none⟩, .x, []⟩, ⟨⟨.op (.not (.t 80)), (some 81), none⟩, .n, []⟩, ⟨⟨.op (.mv (.t 81)), (some 4), none⟩, .x, []⟩])
 [4]
 (.ret)) (.skip)))))))))))))))
 []
 (.seq (.reg [⟨.op (.mv (.c (.bool false))), (some 4), none⟩])
 [4]
 (.ret))),
 [.tmp 4]⟩
theorem k31 : cFn Try.prog 31 = some c31.toE := by kernel_rfl
theorem w31 : c31.body.wf = true := by kernel_rfl
/-- cardamom/cardamomref4.begins -/
noncomputable def c43 : DFn := ⟨18, .pure,
 .seq (.reg [⟨.op (.mv (.c (.bool false))), (some 4), none⟩])
 [0, 1]
 (.seq (.reg [⟨.op (.mv (.t 0)), (some 5), none⟩, ⟨.op (.lenstr (.t 5)), (some 6), none⟩, ⟨.op (.mv (.t 1)), (some 7), none⟩, ⟨.op (.lenstr (.t 7)), (some 8), none⟩, ⟨.op (.bin .geq 0 (.t 6) (.t 8)), (some 9), none⟩, ⟨.op (.mv (.t 9)), (some 10), none⟩, ⟨.op (.mv (.t 0)), (some 11), (some (10, true))⟩, ⟨.op (.mv (.t 1)), (some 12), (some (10, true))⟩, ⟨.op (.lenstr (.t 12)), (some 13), (some (10, true))⟩, ⟨.op (.cuts (.t 11) none (some (.t 13))), (some 14), (some (10, true))⟩, ⟨.op (.mv (.t 1)), (some 15), (some (10, true))⟩, ⟨.op (.bin .eql 0 (.t 14) (.t 15)), (some 16), (some (10, true))⟩, ⟨.op (.pick (.t 10) (.t 16) (.c (.bool false))), (some 17), none⟩, ⟨.op (.mv (.t 17)), (some 4), none⟩])
 [4]
 (.ret)),
 [.tmp 4]⟩
theorem k43 : cFn Try.prog 43 = some c43.toE := by kernel_rfl
theorem w43 : c43.body.wf = true := by kernel_rfl
noncomputable def l42_0 : DC :=
 .seq (.seq (.reg [⟨.op (.mv (.t 6)), (some 7), none⟩, ⟨.op (.fa 5 (.t 2)), (some 8), none⟩, ⟨.op (.ld1 (.t 8)), (some 9), none⟩, ⟨.op (.len (.t 9)), (some 10), none⟩, ⟨.op (.bin .lss 0 (.t 7) (.t 10)), (some 11), none⟩])
 [1, 2, 6, 11]
 (.cond (.t 11) (.skip) (.exit 0)))
 [1, 2, 6]
 (.seq (.block 1 (.seq (.reg [⟨.op (.fa 5 (.t 2)), (some 14), none⟩, ⟨.op (.ld1 (.t 14)), (some 15), none⟩, ⟨.op (.mv (.t 6)), (some 16), none⟩, ⟨.op (.ia 2 none (.t 15) (.t 16)), (some 17), none⟩, ⟨.op (.fa 0 (.t 17)), (some 18), none⟩, ⟨.op (.ld1 (.t 18)), (some 19), none⟩, ⟨.op (.mv (.t 1)), (some 20), none⟩, ⟨.op (.bin .eql 0 (.t 19) (.t 20)), (some 21), none⟩])
 [1, 2, 6, 21]
 (.cond (.t 21) (.seq (.reg [⟨.op (.fa 5 (.t 2)), (some 22), none⟩, ⟨.op (.ld1 (.t 22)), (some 23), none⟩, ⟨.op (.mv (.t 6)), (some 24), none⟩, ⟨.op (.ia 2 none (.t 23) (.t 24)), (some 25), none⟩, ⟨.op (.fa 1 (.t 25)), (some 26), none⟩, ⟨.op (.ld1 (.t 26)), (some 27), none⟩, ⟨.op (.mv (.t 27)), (some 4), none⟩, ⟨.op (.mv (.c (.bool true))), (some 5), none⟩])
 [4, 5]
 (.ret)) (.skip))))
 [1, 2, 6]
 (.reg [⟨.op (.mv (.t 6)), (some 12), none⟩, ⟨.op (.bin .add 0 (.t 12) (.c (.int .i64 1))), (some 13), none⟩, ⟨.op (.mv (.t 13)), (some 6), none⟩]))
theorem u42_0 (call : DCall) (T : Tm) (st : Dv.St) : dCw Try.prog call l42_0 T st = dCw Try.prog call
 (.seq (.seq (.reg [⟨.op (.mv (.t 6)), (some 7), none⟩, ⟨.op (.fa 5 (.t 2)), (some 8), none⟩, ⟨.op (.ld1 (.t 8)), (some 9), none⟩, ⟨.op (.len (.t 9)), (some 10), none⟩, ⟨.op (.bin .lss 0 (.t 7) (.t 10)), (some 11), none⟩])
 [1, 2, 6, 11]
 (.cond (.t 11) (.skip) (.exit 0)))
 [1, 2, 6]
 (.seq (.block 1 (.seq (.reg [⟨.op (.fa 5 (.t 2)), (some 14), none⟩, ⟨.op (.ld1 (.t 14)), (some 15), none⟩, ⟨.op (.mv (.t 6)), (some 16), none⟩, ⟨.op (.ia 2 none (.t 15) (.t 16)), (some 17), none⟩, ⟨.op (.fa 0 (.t 17)), (some 18), none⟩, ⟨.op (.ld1 (.t 18)), (some 19), none⟩, ⟨.op (.mv (.t 1)), (some 20), none⟩, ⟨.op (.bin .eql 0 (.t 19) (.t 20)), (some 21), none⟩])
 [1, 2, 6, 21]
 (.cond (.t 21) (.seq (.reg [⟨.op (.fa 5 (.t 2)), (some 22), none⟩, ⟨.op (.ld1 (.t 22)), (some 23), none⟩, ⟨.op (.mv (.t 6)), (some 24), none⟩, ⟨.op (.ia 2 none (.t 23) (.t 24)), (some 25), none⟩, ⟨.op (.fa 1 (.t 25)), (some 26), none⟩, ⟨.op (.ld1 (.t 26)), (some 27), none⟩, ⟨.op (.mv (.t 27)), (some 4), none⟩, ⟨.op (.mv (.c (.bool true))), (some 5), none⟩])
 [4, 5]
 (.ret)) (.skip))))
 [1, 2, 6]
 (.reg [⟨.op (.mv (.t 6)), (some 12), none⟩, ⟨.op (.bin .add 0 (.t 12) (.c (.int .i64 1))), (some 13), none⟩, ⟨.op (.mv (.t 13)), (some 6), none⟩]))) T st := rfl
/-- cardamom/cardamomref1.Attr -/
noncomputable def c42 : DFn := ⟨28, .pure,
 .seq (.reg [⟨.op (.box (.t 0)), (some 2), none⟩, ⟨.op (.mv (.c (.int .i64 0))), (some 4), none⟩, ⟨.op (.mv (.c (.bool false))), (some 5), none⟩])
 [1, 2]
 (.seq (.seq (.reg [⟨.op (.mv (.c (.int .i64 0))), (some 6), none⟩])
 [1, 2, 6]
 (.block 0 (.loop [1, 2, 6] (l42_0))))
 []
 (.seq (.reg [⟨.op (.mv (.c (.int .i64 0))), (some 4), none⟩, ⟨.op (.mv (.c (.bool false))), (some 5), none⟩])
 [4, 5]
 (.ret))),
 [.tmp 4, .tmp 5]⟩
theorem k42 : cFn Try.prog 42 = some c42.toE := by kernel_rfl
theorem w42 : c42.body.wf = true := by kernel_rfl
/-- cardamom/vers.Attr -/
noncomputable def c38 : DFn := ⟨19, .pure,
 .seq (.reg [⟨.op (.box (.t 0)), (some 2), none⟩, ⟨.op (.box (.t 1)), (some 3), none⟩, ⟨.op (.mv (.c (.int .i64 0))), (some 4), none⟩, ⟨.op (.mv (.c (.bool false))), (some 5), none⟩])
 [2, 3]
 (.seq (.reg [⟨.op (.fa 5 (.t 2)), (some 7), none⟩, ⟨.op (.ld1 (.t 7)), (some 8), none⟩, ⟨.op (.fn 49 [(.t 3)]), (some 9), none⟩, ⟨.call 48 [(.t 8), (.t 9)], (some 10), none⟩, ⟨.op (.mv (.t 10)), (some 6), none⟩])
 [2, 6]
 (.seq (.seq (.reg [⟨.op (.mv (.t 6)), (some 11), none⟩, ⟨.op (.bin .lss 0 (.t 11) (.c (.int .i64 0))), (some 12), none⟩])
 [2, 6, 12]
 (.cond (.t 12) (.seq (.reg [⟨.op (.mv (.c (.int .i64 0))), (some 4), none⟩, ⟨.op (.mv (.c (.bool false))), (some 5), none⟩])
 [4, 5]
 (.ret)) (.skip)))
 [2, 6]
 (.seq (.reg [⟨.op (.fa 5 (.t 2)), (some 13), none⟩, ⟨.op (.ld1 (.t 13)), (some 14), none⟩, ⟨.op (.mv (.t 6)), (some 15), none⟩, ⟨.op (.ia 2 none (.t 14) (.t 15)), (some 16), none⟩, ⟨.op (.fa 1 (.t 16)), (some 17), none⟩, ⟨.op (.ld1 (.t 17)), (some 18), none⟩, ⟨.op (.mv (.t 18)), (some 4), none⟩, ⟨.op (.mv (.c (.bool true))), (some 5), none⟩])
 [4, 5]
 (.ret)))),
 [.tmp 4, .tmp 5]⟩
theorem k38 : cFn Try.prog 38 = some c38.toE := by kernel_rfl
theorem w38 : c38.body.wf = true := by kernel_rfl
/-- cardamom/vers.Attr$1 -/
noncomputable def c49 : DFn := ⟨8, .pure,
 .seq (.reg [⟨.op (.box (.t 0)), (some 2), none⟩, ⟨.op (.mv (.c (.bool false))), (some 3), none⟩])
 [1, 2]
 (.seq (.reg [⟨.op (.fa 0 (.t 2)), (some 4), none⟩, ⟨.op (.ld1 (.t 4)), (some 5), none⟩, ⟨.op (.ld1 (.t 1)), (some 6), none⟩, ⟨.op (.bin .eql 0 (.t 5) (.t 6)), (some 7), none⟩, ⟨.op (.mv (.t 7)), (some 3), none⟩])
 [3]
 (.ret)),
 [.tmp 3]⟩
theorem k49 : cFn Try.prog 49 = some c49.toE := by kernel_rfl
theorem w49 : c49.body.wf = true := by kernel_rfl
/-- strings.HasPrefix -/
noncomputable def c39 : DFn := ⟨8, .pure,
 .seq (.reg [⟨.op (.mv (.c (.bool false))), (some 4), none⟩])
 [0, 1]
 (.seq (.reg [⟨.op (.mv (.t 0)), (some 5), none⟩, ⟨.op (.mv (.t 1)), (some 6), none⟩, ⟨.call 50 [(.t 5), (.t 6)], (some 7), none⟩, ⟨.op (.mv (.t 7)), (some 4), none⟩])
 [4]
 (.ret)),
 [.tmp 4]⟩
theorem k39 : cFn Try.prog 39 = some c39.toE := by kernel_rfl
theorem w39 : c39.body.wf = true := by kernel_rfl
/-- internal/stringslite.HasPrefix -/
noncomputable def c50 : DFn := ⟨18, .pure,
 .seq (.reg [⟨.op (.mv (.c (.bool false))), (some 4), none⟩])
 [0, 1]
 (.seq (.reg [⟨.op (.mv (.t 0)), (some 5), none⟩, ⟨.op (.lenstr (.t 5)), (some 6), none⟩, ⟨.op (.mv (.t 1)), (some 7), none⟩, ⟨.op (.lenstr (.t 7)), (some 8), none⟩, ⟨.op (.bin .geq 0 (.t 6) (.t 8)), (some 9), none⟩, ⟨.op (.mv (.t 9)), (some 10), none⟩, ⟨.op (.mv (.t 0)), (some 11), (some (10, true))⟩, ⟨.op (.mv (.t 1)), (some 12), (some (10, true))⟩, ⟨.op (.lenstr (.t 12)), (some 13), (some (10, true))⟩, ⟨.op (.cuts (.t 11) none (some (.t 13))), (some 14), (some (10, true))⟩, ⟨.op (.mv (.t 1)), (some 15), (some (10, true))⟩, ⟨.op (.bin .eql 0 (.t 14) (.t 15)), (some 16), (some (10, true))⟩, ⟨.op (.pick (.t 10) (.t 16) (.c (.bool false))), (some 17), none⟩, ⟨.op (.mv (.t 17)), (some 4), none⟩])
 [4]
 (.ret)),
 [.tmp 4]⟩
theorem k50 : cFn Try.prog 50 = some c50.toE := by kernel_rfl
theorem w50 : c50.body.wf = true := by kernel_rfl
/-- slices.ContainsFunc[[]cardamom/api.Filter,cardamom/api.Filter] -/
noncomputable def c40 : DFn := ⟨9, .pure,
 .seq (.reg [⟨.op (.mv (.c (.bool false))), (some 4), none⟩])
 [0, 1]
 (.seq (.reg [⟨.op (.mv (.t 0)), (some 5), none⟩, ⟨.op (.mv (.t 1)), (some 6), none⟩, ⟨.call 51 [(.t 5), (.t 6)], (some 7), none⟩, ⟨.op (.bin .geq 0 (.t 7) (.c (.int .i64 0))), (some 8), none⟩, ⟨.op (.mv (.t 8)), (some 4), none⟩])
 [4]
 (.ret)),
 [.tmp 4]⟩
theorem k40 : cFn Try.prog 40 = some c40.toE := by kernel_rfl
theorem w40 : c40.body.wf = true := by kernel_rfl
noncomputable def l51_0 : DC :=
 .seq (.reg [⟨.op (.bin .lss 0 (.t 8) (.t 7)), (some 9), none⟩])
 [0, 1, 7, 8, 9]
 (.seq (.cond (.t 9) (.skip) (.exit 0))
 [0, 1, 7, 8]
 (.seq (.block 1 (.seq (.reg [⟨.op (.mv (.t 8)), (some 10), none⟩, ⟨.op (.mv (.t 10)), (some 5), none⟩])
 [0, 1, 5, 7, 8]
 (.seq (.reg [⟨.op (.mv (.t 1)), (some 11), none⟩, ⟨.op (.mv (.t 0)), (some 12), none⟩, ⟨.op (.mv (.t 5)), (some 13), none⟩, ⟨.op (.ia 6 none (.t 12) (.t 13)), (some 14), none⟩, ⟨.op (.ldn 6 (.t 14)), (some 15), none⟩, ⟨.callv (.t 11) [(.t 15)], (some 16), none⟩])
 [0, 1, 5, 7, 8, 16]
 (.cond (.t 16) (.seq (.reg [⟨.op (.mv (.t 5)), (some 17), none⟩, ⟨.op (.mv (.t 17)), (some 4), none⟩])
 [4]
 (.ret)) (.skip)))))
 [0, 1, 7, 8]
 (.reg [⟨.op (.bin .add 0 (.t 8) (.c (.int .i64 1))), (some 18), none⟩, ⟨.op (.mv (.t 18)), (some 8), none⟩])))
theorem u51_0 (call : DCall) (T : Tm) (st : Dv.St) : dCw Try.prog call l51_0 T st = dCw Try.prog call
 (.seq (.reg [⟨.op (.bin .lss 0 (.t 8) (.t 7)), (some 9), none⟩])
 [0, 1, 7, 8, 9]
 (.seq (.cond (.t 9) (.skip) (.exit 0))
 [0, 1, 7, 8]
 (.seq (.block 1 (.seq (.reg [⟨.op (.mv (.t 8)), (some 10), none⟩, ⟨.op (.mv (.t 10)), (some 5), none⟩])
 [0, 1, 5, 7, 8]
 (.seq (.reg [⟨.op (.mv (.t 1)), (some 11), none⟩, ⟨.op (.mv (.t 0)), (some 12), none⟩, ⟨.op (.mv (.t 5)), (some 13), none⟩, ⟨.op (.ia 6 none (.t 12) (.t 13)), (some 14), none⟩, ⟨.op (.ldn 6 (.t 14)), (some 15), none⟩, ⟨.callv (.t 11) [(.t 15)], (some 16), none⟩])
 [0, 1, 5, 7, 8, 16]
 (.cond (.t 16) (.seq (.reg [⟨.op (.mv (.t 5)), (some 17), none⟩, ⟨.op (.mv (.t 17)), (some 4), none⟩])
 [4]
 (.ret)) (.skip)))))
 [0, 1, 7, 8]
 (.reg [⟨.op (.bin .add 0 (.t 8) (.c (.int .i64 1))), (some 18), none⟩, ⟨.op (.mv (.t 18)), (some 8), none⟩])))) T st := rfl
/-- slices.IndexFunc[[]cardamom/api.Filter,cardamom/api.Filter] -/
noncomputable def c51 : DFn := ⟨19, .pure,
 .seq (.reg [⟨.op (.mv (.c (.int .i64 0))), (some 4), none⟩])
 [0, 1]
 (.seq (.seq (.reg [⟨.op (.mv (.t 0)), (some 6), none⟩, ⟨.op (.len (.t 6)), (some 7), none⟩, ⟨.op (.mv (.c (.int .i64 0))), (some 8), none⟩])
 [0, 1, 7, 8]
 (.block 0 (.loop [0, 1, 7, 8] (l51_0))))
 []
 (.seq (.reg [⟨.op (.mv (.c (.int .i64 (-1)))), (some 4), none⟩])
 [4]
 (.ret))),
 [.tmp 4]⟩
theorem k51 : cFn Try.prog 51 = some c51.toE := by kernel_rfl
theorem w51 : c51.body.wf = true := by kernel_rfl
noncomputable def l48_0 : DC :=
 .seq (.reg [⟨.op (.bin .lss 0 (.t 8) (.t 7)), (some 9), none⟩])
 [0, 1, 7, 8, 9]
 (.seq (.cond (.t 9) (.skip) (.exit 0))
 [0, 1, 7, 8]
 (.seq (.block 1 (.seq (.reg [⟨.op (.mv (.t 8)), (some 10), none⟩, ⟨.op (.mv (.t 10)), (some 5), none⟩])
 [0, 1, 5, 7, 8]
 (.seq (.reg [⟨.op (.mv (.t 1)), (some 11), none⟩, ⟨.op (.mv (.t 0)), (some 12), none⟩, ⟨.op (.mv (.t 5)), (some 13), none⟩, ⟨.op (.ia 2 none (.t 12) (.t 13)), (some 14), none⟩, ⟨.op (.ldn 2 (.t 14)), (some 15), none⟩, ⟨.callv (.t 11) [(.t 15)], (some 16), none⟩])
 [0, 1, 5, 7, 8, 16]
 (.cond (.t 16) (.seq (.reg [⟨.op (.mv (.t 5)), (some 17), none⟩, ⟨.op (.mv (.t 17)), (some 4), none⟩])
 [4]
 (.ret)) (.skip)))))
 [0, 1, 7, 8]
 (.reg [⟨.op (.bin .add 0 (.t 8) (.c (.int .i64 1))), (some 18), none⟩, ⟨.op (.mv (.t 18)), (some 8), none⟩])))
theorem u48_0 (call : DCall) (T : Tm) (st : Dv.St) : dCw Try.prog call l48_0 T st = dCw Try.prog call
 (.seq (.reg [⟨.op (.bin .lss 0 (.t 8) (.t 7)), (some 9), none⟩])
 [0, 1, 7, 8, 9]
 (.seq (.cond (.t 9) (.skip) (.exit 0))
 [0, 1, 7, 8]
 (.seq (.block 1 (.seq (.reg [⟨.op (.mv (.t 8)), (some 10), none⟩, ⟨.op (.mv (.t 10)), (some 5), none⟩])
 [0, 1, 5, 7, 8]
 (.seq (.reg [⟨.op (.mv (.t 1)), (some 11), none⟩, ⟨.op (.mv (.t 0)), (some 12), none⟩, ⟨.op (.mv (.t 5)), (some 13), none⟩, ⟨.op (.ia 2 none (.t 12) (.t 13)), (some 14), none⟩, ⟨.op (.ldn 2 (.t 14)), (some 15), none⟩, ⟨.callv (.t 11) [(.t 15)], (some 16), none⟩])
 [0, 1, 5, 7, 8, 16]
 (.cond (.t 16) (.seq (.reg [⟨.op (.mv (.t 5)), (some 17), none⟩, ⟨.op (.mv (.t 17)), (some 4), none⟩])
 [4]
 (.ret)) (.skip)))))
 [0, 1, 7, 8]
 (.reg [⟨.op (.bin .add 0 (.t 8) (.c (.int .i64 1))), (some 18), none⟩, ⟨.op (.mv (.t 18)), (some 8), none⟩])))) T st := rfl
/-- slices.IndexFunc[[]cardamom/api.Attr,cardamom/api.Attr] -/
noncomputable def c48 : DFn := ⟨19, .pure,
 .seq (.reg [⟨.op (.mv (.c (.int .i64 0))), (some 4), none⟩])
 [0, 1]
 (.seq (.seq (.reg [⟨.op (.mv (.t 0)), (some 6), none⟩, ⟨.op (.len (.t 6)), (some 7), none⟩, ⟨.op (.mv (.c (.int .i64 0))), (some 8), none⟩])
 [0, 1, 7, 8]
 (.block 0 (.loop [0, 1, 7, 8] (l48_0))))
 []
 (.seq (.reg [⟨.op (.mv (.c (.int .i64 (-1)))), (some 4), none⟩])
 [4]
 (.ret))),
 [.tmp 4]⟩
theorem k48 : cFn Try.prog 48 = some c48.toE := by kernel_rfl
theorem w48 : c48.body.wf = true := by kernel_rfl
def tbl : Nat → Option DFn := fun f => bif Nat.beq f 11 then some c11 else bif Nat.beq f 12 then some c12 else bif Nat.beq f 13 then some c13 else bif Nat.beq f 26 then some c26 else bif Nat.beq f 27 then some c27 else bif Nat.beq f 28 then some c28 else bif Nat.beq f 29 then some c29 else bif Nat.beq f 33 then some c33 else bif Nat.beq f 34 then some c34 else bif Nat.beq f 35 then some c35 else bif Nat.beq f 36 then some c36 else bif Nat.beq f 30 then some c30 else bif Nat.beq f 37 then some c37 else bif Nat.beq f 41 then some c41 else bif Nat.beq f 31 then some c31 else bif Nat.beq f 43 then some c43 else bif Nat.beq f 42 then some c42 else bif Nat.beq f 38 then some c38 else bif Nat.beq f 49 then some c49 else bif Nat.beq f 39 then some c39 else bif Nat.beq f 50 then some c50 else bif Nat.beq f 40 then some c40 else bif Nat.beq f 51 then some c51 else bif Nat.beq f 48 then some c48 else none
def dx : DX := fun f => none
def prims : Prims := fun f => none
theorem code_ok : ∀ f df, tbl f = some df → cFn Try.prog f = some df.toE ∧ df.body.wf = true := by
  intro f df h
  unfold tbl at h
  by_cases h11 : f = 11
  · subst h11; rw [Nat.beq_refl, cond_true] at h; rw [← Option.some.inj h]; exact ⟨k11, w11⟩
  rw [Ev.beq_false _ _ h11, cond_false] at h
  by_cases h12 : f = 12
  · subst h12; rw [Nat.beq_refl, cond_true] at h; rw [← Option.some.inj h]; exact ⟨k12, w12⟩
  rw [Ev.beq_false _ _ h12, cond_false] at h
  by_cases h13 : f = 13
  · subst h13; rw [Nat.beq_refl, cond_true] at h; rw [← Option.some.inj h]; exact ⟨k13, w13⟩
  rw [Ev.beq_false _ _ h13, cond_false] at h
  by_cases h26 : f = 26
  · subst h26; rw [Nat.beq_refl, cond_true] at h; rw [← Option.some.inj h]; exact ⟨k26, w26⟩
  rw [Ev.beq_false _ _ h26, cond_false] at h
  by_cases h27 : f = 27
  · subst h27; rw [Nat.beq_refl, cond_true] at h; rw [← Option.some.inj h]; exact ⟨k27, w27⟩
  rw [Ev.beq_false _ _ h27, cond_false] at h
  by_cases h28 : f = 28
  · subst h28; rw [Nat.beq_refl, cond_true] at h; rw [← Option.some.inj h]; exact ⟨k28, w28⟩
  rw [Ev.beq_false _ _ h28, cond_false] at h
  by_cases h29 : f = 29
  · subst h29; rw [Nat.beq_refl, cond_true] at h; rw [← Option.some.inj h]; exact ⟨k29, w29⟩
  rw [Ev.beq_false _ _ h29, cond_false] at h
  by_cases h33 : f = 33
  · subst h33; rw [Nat.beq_refl, cond_true] at h; rw [← Option.some.inj h]; exact ⟨k33, w33⟩
  rw [Ev.beq_false _ _ h33, cond_false] at h
  by_cases h34 : f = 34
  · subst h34; rw [Nat.beq_refl, cond_true] at h; rw [← Option.some.inj h]; exact ⟨k34, w34⟩
  rw [Ev.beq_false _ _ h34, cond_false] at h
  by_cases h35 : f = 35
  · subst h35; rw [Nat.beq_refl, cond_true] at h; rw [← Option.some.inj h]; exact ⟨k35, w35⟩
  rw [Ev.beq_false _ _ h35, cond_false] at h
  by_cases h36 : f = 36
  · subst h36; rw [Nat.beq_refl, cond_true] at h; rw [← Option.some.inj h]; exact ⟨k36, w36⟩
  rw [Ev.beq_false _ _ h36, cond_false] at h
  by_cases h30 : f = 30
  · subst h30; rw [Nat.beq_refl, cond_true] at h; rw [← Option.some.inj h]; exact ⟨k30, w30⟩
  rw [Ev.beq_false _ _ h30, cond_false] at h
  by_cases h37 : f = 37
  · subst h37; rw [Nat.beq_refl, cond_true] at h; rw [← Option.some.inj h]; exact ⟨k37, w37⟩
  rw [Ev.beq_false _ _ h37, cond_false] at h
  by_cases h41 : f = 41
  · subst h41; rw [Nat.beq_refl, cond_true] at h; rw [← Option.some.inj h]; exact ⟨k41, w41⟩
  rw [Ev.beq_false _ _ h41, cond_false] at h
  by_cases h31 : f = 31
  · subst h31; rw [Nat.beq_refl, cond_true] at h; rw [← Option.some.inj h]; exact ⟨k31, w31⟩
  rw [Ev.beq_false _ _ h31, cond_false] at h
  by_cases h43 : f = 43
  · subst h43; rw [Nat.beq_refl, cond_true] at h; rw [← Option.some.inj h]; exact ⟨k43, w43⟩
  rw [Ev.beq_false _ _ h43, cond_false] at h
  by_cases h42 : f = 42
  · subst h42; rw [Nat.beq_refl, cond_true] at h; rw [← Option.some.inj h]; exact ⟨k42, w42⟩
  rw [Ev.beq_false _ _ h42, cond_false] at h
  by_cases h38 : f = 38
  · subst h38; rw [Nat.beq_refl, cond_true] at h; rw [← Option.some.inj h]; exact ⟨k38, w38⟩
  rw [Ev.beq_false _ _ h38, cond_false] at h
  by_cases h49 : f = 49
  · subst h49; rw [Nat.beq_refl, cond_true] at h; rw [← Option.some.inj h]; exact ⟨k49, w49⟩
  rw [Ev.beq_false _ _ h49, cond_false] at h
  by_cases h39 : f = 39
  · subst h39; rw [Nat.beq_refl, cond_true] at h; rw [← Option.some.inj h]; exact ⟨k39, w39⟩
  rw [Ev.beq_false _ _ h39, cond_false] at h
  by_cases h50 : f = 50
  · subst h50; rw [Nat.beq_refl, cond_true] at h; rw [← Option.some.inj h]; exact ⟨k50, w50⟩
  rw [Ev.beq_false _ _ h50, cond_false] at h
  by_cases h40 : f = 40
  · subst h40; rw [Nat.beq_refl, cond_true] at h; rw [← Option.some.inj h]; exact ⟨k40, w40⟩
  rw [Ev.beq_false _ _ h40, cond_false] at h
  by_cases h51 : f = 51
  · subst h51; rw [Nat.beq_refl, cond_true] at h; rw [← Option.some.inj h]; exact ⟨k51, w51⟩
  rw [Ev.beq_false _ _ h51, cond_false] at h
  by_cases h48 : f = 48
  · subst h48; rw [Nat.beq_refl, cond_true] at h; rw [← Option.some.inj h]; exact ⟨k48, w48⟩
  rw [Ev.beq_false _ _ h48, cond_false] at h
  cases h
theorem ext_ok : ∀ f g, prims f = none → dx f = some g → ∀ (k : Nat) (ds : List D) (st : Dv.St) (r : D × Dv.St × List Nat) (c : Ct) (H : Heap) (vs : List V), g ds st = some r → SR c st H → Row (DR c H) ds vs → Fol c st H r (eFn Try.prog prims (cFn Try.prog) listHP (k + 1) f vs H) := by
  intro f g _ h
  unfold dx at h
  cases h
theorem tbl_ok : TblOK Try.prog prims (cFn Try.prog) dx tbl := ⟨fun f df _ _ h => code_ok f df h, ext_ok⟩
theorem prims_ok : PrimsOK Try.prog prims := noPrims_ok _
end
end Go.Proofs.Ytmomaojkmidgmaa.Cd
