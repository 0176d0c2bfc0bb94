/-
  What is proved here: the texts of the functions, looked up.
  Conditions: none.
-/
import Derived.Test.YtmbboljcgpccfaaRows
import Derived.Test.YtmbboljcgpccfaaDv3
import Derived.KernelRfl
set_option linter.unusedVariables false
set_option linter.unusedSimpArgs false
set_option maxRecDepth 100000
namespace Go.Proofs.Ytmbboljcgpccfaa.Cd
open Go Go.Proofs Go.Proofs.Ev Go.Proofs.Dv
noncomputable section
noncomputable def l7_0 : DC :=
 .seq (.seq (.reg [⟨.op (.mv (.t 16)), (some 68), none⟩, ⟨.op (.mv (.t 11)), (some 69), none⟩, ⟨.op (.len (.t 69)), (some 70), none⟩, ⟨.op (.bin .lss 0 (.t 68) (.t 70)), (some 71), none⟩])
 [11, 12, 14, 15, 16, 71]
 (.cond (.t 71) (.skip) (.exit 0)))
 [11, 12, 14, 15, 16]
 (.seq (.block 1 (.drw [⟨⟨.op (.mv (.t 15)), (some 74), none⟩, .n, []⟩, ⟨⟨.op (.mv (.t 74)), (some 75), none⟩, .n, []⟩, ⟨⟨.op (.mv (.t 12)), (some 76), (some (75, true))⟩, .n, []⟩, ⟨⟨.op (.mv (.t 11)), (some 77), (some (75, true))⟩, .n, []⟩, ⟨⟨.op (.mv (.t 16)), (some 78), (some (75, true))⟩, .n, []⟩, ⟨⟨.op (.ia 4 none (.t 77) (.t 78)), (some 79), (some (75, true))⟩, .n, []⟩, ⟨⟨.op (.fa 0 (.t 79)), (some 80), (some (75, true))⟩, .n, []⟩, ⟨⟨.op (.ld1 (.t 80)), (some 81), (some (75, true))⟩, .n, []⟩, ⟨⟨.op (.mv (.t 11)), (some 83), (some (75, true))⟩, .n, []⟩, ⟨⟨.op (.mv (.t 16)), (some 84), (some (75, true))⟩, .n, []⟩, ⟨⟨.op (.ia 4 none (.t 83) (.t 84)), (some 85), (some (75, true))⟩, .n, []⟩, ⟨⟨.op (.fa 1 (.t 85)), (some 86), (some (75, true))⟩, .n, []⟩, ⟨⟨.op (.ldn 3 (.t 86)), (some 87), (some (75, true))⟩, .n, []⟩, ⟨⟨.call 43 [(.t 76), (.t 81)], (some 82), (some (75, true))⟩, .x, [(true, 12)]⟩, ⟨⟨.call 35 [(.t 82), (.t 87)], (some 88), (some (75, true))⟩, .x, []⟩, ⟨⟨.op (.bin .geq 0 (.t 88) (.c (.int .i64 0))), (some 89), (some (75, true))⟩, .n, []⟩, ⟨⟨.op (.pick (.t 75) (.t 89) (.c (.bool false))), (some 90), none⟩, .n, []⟩, ⟨⟨.op (.mv (.t 90)), (some 15), none⟩, .x, []⟩]))
 [11, 12, 14, 15, 16]
 (.reg [⟨.op (.mv (.t 16)), (some 72), none⟩, ⟨.op (.bin .add 0 (.t 72) (.c (.int .i64 1))), (some 73), none⟩, ⟨.op (.mv (.t 73)), (some 16), none⟩]))
theorem u7_0 (call : DCall) (T : Tm) (st : Dv.St) : dCw Try.prog call l7_0 T st = dCw Try.prog call
 (.seq (.seq (.reg [⟨.op (.mv (.t 16)), (some 68), none⟩, ⟨.op (.mv (.t 11)), (some 69), none⟩, ⟨.op (.len (.t 69)), (some 70), none⟩, ⟨.op (.bin .lss 0 (.t 68) (.t 70)), (some 71), none⟩])
 [11, 12, 14, 15, 16, 71]
 (.cond (.t 71) (.skip) (.exit 0)))
 [11, 12, 14, 15, 16]
 (.seq (.block 1 (.drw [⟨⟨.op (.mv (.t 15)), (some 74), none⟩, .n, []⟩, ⟨⟨.op (.mv (.t 74)), (some 75), none⟩, .n, []⟩, ⟨⟨.op (.mv (.t 12)), (some 76), (some (75, true))⟩, .n, []⟩, ⟨⟨.op (.mv (.t 11)), (some 77), (some (75, true))⟩, .n, []⟩, ⟨⟨.op (.mv (.t 16)), (some 78), (some (75, true))⟩, .n, []⟩, ⟨⟨.op (.ia 4 none (.t 77) (.t 78)), (some 79), (some (75, true))⟩, .n, []⟩, ⟨⟨.op (.fa 0 (.t 79)), (some 80), (some (75, true))⟩, .n, []⟩, ⟨⟨.op (.ld1 (.t 80)), (some 81), (some (75, true))⟩, .n, []⟩, ⟨⟨.op (.mv (.t 11)), (some 83), (some (75, true))⟩, .n, []⟩, ⟨⟨.op (.mv (.t 16)), (some 84), (some (75, true))⟩, .n, []⟩, ⟨⟨.op (.ia 4 none (.t 83) (.t 84)), (some 85), (some (75, true))⟩, .n, []⟩, ⟨⟨.op (.fa 1 (.t 85)), (some 86), (some (75, true))⟩, .n, []⟩, ⟨⟨.op (.ldn 3 (.t 86)), (some 87), (some (75, true))⟩, .n, []⟩, ⟨⟨.call 43 [(.t 76), (.t 81)], (some 82), (some (75, true))⟩, .x, [(true, 12)]⟩, ⟨⟨.call 35 [(.t 82), (.t 87)], (some 88), (some (75, true))⟩, .x, []⟩, ⟨⟨.op (.bin .geq 0 (.t 88) (.c (.int .i64 0))), (some 89), (some (75, true))⟩, .n, []⟩, ⟨⟨.op (.pick (.t 75) (.t 89) (.c (.bool false))), (some 90), none⟩, .n, []⟩, ⟨⟨.op (.mv (.t 90)), (some 15), none⟩, .x, []⟩]))
 [11, 12, 14, 15, 16]
 (.reg [⟨.op (.mv (.t 16)), (some 72), none⟩, ⟨.op (.bin .add 0 (.t 72) (.c (.int .i64 1))), (some 73), none⟩, ⟨.op (.mv (.t 73)), (some 16), none⟩]))) T st := rfl
/-- cardamom/cardamomlaw9.SeenAll -/
noncomputable def c7 : DFn := ⟨114, .pure,
 .seq (.reg [⟨.op (.mv (.c (.bool false))), (some 10), none⟩])
 [0, 1, 2, 3, 4]
 (.seq (.seq (.reg [⟨.call 37 [], (some 17), none⟩, ⟨.op (.not (.t 17)), (some 18), none⟩])
 [0, 1, 2, 3, 4, 18]
 (.cond (.t 18) (.seq (.reg [⟨.op (.mv (.c (.bool false))), (some 10), none⟩])
 [10]
 (.ret)) (.skip)))
 [0, 1, 2, 3, 4]
 (.seq (.seq (.reg [⟨.op (.mv (.t 0)), (some 19), none⟩, ⟨.op (.len (.t 19)), (some 20), none⟩, ⟨.op (.bin .gtr 0 (.t 20) (.c (.int .i64 10))), (some 21), none⟩, ⟨.op (.mv (.t 21)), (some 22), none⟩, ⟨.op (.mv (.t 1)), (some 23), (some (22, false))⟩, ⟨.op (.len (.t 23)), (some 24), (some (22, false))⟩, ⟨.op (.bin .gtr 0 (.t 24) (.c (.int .i64 30))), (some 25), (some (22, false))⟩, ⟨.op (.pick (.t 22) (.c (.bool true)) (.t 25)), (some 26), none⟩, ⟨.op (.mv (.t 26)), (some 27), none⟩, ⟨.op (.mv (.t 2)), (some 28), (some (27, false))⟩, ⟨.op (.len (.t 28)), (some 29), (some (27, false))⟩, ⟨.op (.bin .gtr 0 (.t 29) (.c (.int .i64 30))), (some 30), (some (27, false))⟩, ⟨.op (.pick (.t 27) (.c (.bool true)) (.t 30)), (some 31), none⟩, ⟨.op (.mv (.t 31)), (some 32), none⟩, ⟨.op (.mv (.t 3)), (some 33), (some (32, false))⟩, ⟨.op (.len (.t 33)), (some 34), (some (32, false))⟩, ⟨.op (.bin .gtr 0 (.t 34) (.c (.int .i64 5))), (some 35), (some (32, false))⟩, ⟨.op (.pick (.t 32) (.c (.bool true)) (.t 35)), (some 36), none⟩])
 [0, 1, 2, 3, 4, 36]
 (.cond (.t 36) (.seq (.reg [⟨.op (.mv (.c (.bool true))), (some 10), none⟩])
 [10]
 (.ret)) (.skip)))
 [0, 1, 2, 3, 4]
 (.seq (.reg [⟨.op (.mv (.t 1)), (some 37), none⟩, ⟨.call 38 [(.t 37)], (some 38), none⟩, ⟨.op (.mv (.t 2)), (some 39), none⟩, ⟨.call 38 [(.t 39)], (some 40), none⟩, ⟨.op (.mv (.t 38)), (some 11), none⟩, ⟨.op (.mv (.t 40)), (some 12), none⟩])
 [0, 3, 4, 11, 12]
 (.seq (.reg [⟨.op (.mv (.t 3)), (some 41), none⟩, ⟨.call 16 [(.t 41)], (some 42), none⟩, ⟨.op (.mv (.t 42)), (some 13), none⟩])
 [0, 4, 11, 12, 13]
 (.seq (.reg [⟨.op (.mv (.t 13)), (some 43), none⟩, ⟨.call 39 [(.t 43), (.c (.int .i64 6))], (some 44), none⟩, ⟨.op (.bin .add 0 (.c (.int .i64 1)) (.t 44)), (some 45), none⟩, ⟨.op (.mv (.t 13)), (some 46), none⟩, ⟨.call 40 [(.t 46)], (some 47), none⟩, ⟨.op (.build [(.int .i64 0), (.int .i64 0), (.int .i64 0), (.int .i64 0)] [(0, 1, (.t 45)), (1, 3, (.t 47))]), (some 48), none⟩, ⟨.op (.new [(.int .i64 0), (.int .i64 0), (.int .i64 0), (.int .i64 0)]), (some 14), none⟩, ⟨.op (.st 4 (.t 14) (.t 48)), none, none⟩])
 [0, 4, 11, 12, 14]
 (.seq (.seq (.reg [⟨.op (.mv (.t 0)), (some 49), none⟩, ⟨.call 41 [(.t 49)], (some 50), none⟩, ⟨.op (.mv (.t 0)), (some 51), none⟩, ⟨.call 34 [(.t 51)], (some 52), none⟩, ⟨.op (.bin .neq 5 (.t 50) (.t 52)), (some 53), none⟩, ⟨.op (.mv (.t 53)), (some 54), none⟩, ⟨.op (.mv (.t 11)), (some 55), (some (54, false))⟩, ⟨.call 41 [(.t 55)], (some 56), (some (54, false))⟩, ⟨.op (.not (.t 56)), (some 57), (some (54, false))⟩, ⟨.op (.pick (.t 54) (.c (.bool true)) (.t 57)), (some 58), none⟩, ⟨.op (.mv (.t 58)), (some 59), none⟩, ⟨.op (.mv (.t 11)), (some 60), (some (59, false))⟩, ⟨.op (.mv (.t 4)), (some 61), (some (59, false))⟩, ⟨.call 42 [(.t 60), (.t 61)], (some 62), (some (59, false))⟩, ⟨.op (.mv (.t 11)), (some 63), (some (59, false))⟩, ⟨.op (.mv (.t 4)), (some 64), (some (59, false))⟩, ⟨.call 43 [(.t 63), (.t 64)], (some 65), (some (59, false))⟩, ⟨.op (.slow (operAt Try.prog 7 57)), (some 66), (some (59, false))⟩, ⟨.op (.pick (.t 59) (.c (.bool true)) (.t 66)), (some 67), none⟩])
 [11, 12, 14, 67]
 (.cond (.t 67) (.seq (.reg [⟨.op (.mv (.c (.bool false))), (some 10), none⟩])
 [10]
 (.ret)) (.skip)))
 [11, 12, 14]
 (.seq (.reg [⟨.op (.mv (.c (.bool true))), (some 15), none⟩])
 [11, 12, 14, 15]
 (.seq (.seq (.reg [⟨.op (.mv (.c (.int .i64 0))), (some 16), none⟩])
 [11, 12, 14, 15, 16]
 (.block 0 (.loop [11, 12, 14, 15, 16] (l7_0))))
 [11, 12, 14, 15]
 (.seq (.drw [⟨⟨.op (.mv (.t 11)), (some 91), none⟩, .n, []⟩, ⟨⟨.op (.mv (.t 12)), (some 92), none⟩, .n, []⟩, ⟨⟨.op (.mv (.t 15)), (some 94), none⟩, .n, []⟩, ⟨⟨.call 44 [(.t 91), (.t 92)], (some 93), none⟩, .x, []⟩, ⟨⟨.op (.bin .eql 5 (.t 93) (.t 94)), (some 95), none⟩, .n, []⟩, ⟨⟨.op (.mv (.t 95)), (some 96), none⟩, .n, []⟩, ⟨⟨.op (.mv (.t 11)), (some 97), (some (96, true))⟩, .n, []⟩, ⟨⟨.op (.ldn 4 (.t 14)), (some 98), (some (96, true))⟩, .n, []⟩, ⟨⟨.op (.mv (.t 11)), (some 100), (some (96, true))⟩, .n, []⟩, ⟨⟨.op (.ldn 4 (.t 14)), (some 101), (some (96, true))⟩, .n, []⟩, ⟨⟨.call 45 [(.t 97), (.t 98)], (some 99), (some (96, true))⟩, .x, [(true, 9)]⟩, ⟨⟨.call 46 [(.t 100), (.t 101)], (some 102), (some (96, true))⟩, .x, []⟩, ⟨⟨.call 27 [(.t 99), (.t 102)], (some 103), (some (96, true))⟩, .x, []⟩, ⟨⟨.op (.pick (.t 96) (.t 103) (.c (.bool false))), (some 104), none⟩, .n, []⟩, ⟨⟨.op (.mv (.t 104)), (some 105), none⟩, .n, []⟩, ⟨⟨.op (.mv (.t 11)), (some 106), (some (105, true))⟩, .n, []⟩, ⟨⟨.op (.mv (.t 12)), (some 107), (some (105, true))⟩, .n, []⟩, ⟨⟨.op (.mv (.t 11)), (some 109), (some (105, true))⟩, .n, []⟩, ⟨⟨.op (.mv (.t 12)), (some 110), (some (105, true))⟩, .n, []⟩, ⟨⟨.call 47 [(.t 106), (.t 107)], (some 108), (some (105, true))⟩, .x, []⟩, ⟨⟨.call 36 [(.t 109), (.t 110)], (some 111), (some (105, true))⟩, .x, []⟩, ⟨⟨.call 27 [(.t 108), (.t 111)], (some 112), (some (105, true))⟩, .x, []⟩, ⟨⟨.op (.pick (.t 105) (.t 112) (.c (.bool false))), (some 113), none⟩, .n, []⟩, ⟨⟨.op (.mv (.t 113)), (some 10), none⟩, .x, []⟩])
 [10]
 (.ret)))))))))),
 [.tmp 10]⟩
theorem k7 : cFn Try.prog 7 = some c7.toE := by kernel_rfl
theorem w7 : c7.body.wf = true := by kernel_rfl
noncomputable def l8_0 : DC :=
 .seq (.seq (.reg [⟨.op (.mv (.t 11)), (some 38), none⟩, ⟨.op (.bin .leq 0 (.t 38) (.c (.int .i64 6))), (some 39), none⟩])
 [7, 8, 9, 10, 11, 39]
 (.cond (.t 39) (.skip) (.exit 0)))
 [7, 8, 9, 10, 11]
 (.seq (.block 1 (.seq (.reg [⟨.op (.mv (.t 7)), (some 42), none⟩, ⟨.op (.mv (.t 11)), (some 43), none⟩, ⟨.call 42 [(.t 42), (.t 43)], (some 44), none⟩, ⟨.op (.mv (.t 8)), (some 45), none⟩, ⟨.op (.mv (.t 11)), (some 46), none⟩, ⟨.call 42 [(.t 45), (.t 46)], (some 47), none⟩, ⟨.op (.new [(.int .i64 0), (.int .i64 0), (.int .i64 0)]), (some 12), none⟩, ⟨.op (.new [(.int .i64 0), (.int .i64 0), (.int .i64 0)]), (some 13), none⟩, ⟨.op (.st 3 (.t 12) (.t 44)), none, none⟩, ⟨.op (.st 3 (.t 13) (.t 47)), none, none⟩])
 [7, 8, 9, 10, 11, 12, 13]
 (.seq (.seq (.reg [⟨.op (.ldn 3 (.t 12)), (some 48), none⟩, ⟨.op (.ldn 3 (.t 13)), (some 49), none⟩, ⟨.call 35 [(.t 48), (.t 49)], (some 50), none⟩, ⟨.op (.bin .lss 0 (.t 50) (.c (.int .i64 0))), (some 51), none⟩])
 [7, 8, 9, 10, 11, 12, 13, 51]
 (.cond (.t 51) (.reg [⟨.op (.ldn 3 (.t 13)), (some 52), none⟩, ⟨.op (.st 3 (.t 12) (.t 52)), none, none⟩]) (.skip)))
 [7, 8, 9, 10, 11, 12]
 (.seq (.drw [⟨⟨.op (.mv (.t 10)), (some 53), none⟩, .n, []⟩, ⟨⟨.op (.mv (.t 11)), (some 54), none⟩, .n, []⟩, ⟨⟨.op (.ldn 3 (.t 12)), (some 56), none⟩, .n, []⟩, ⟨⟨.call 42 [(.t 53), (.t 54)], (some 55), none⟩, .x, [(true, 2)]⟩, ⟨⟨.op (.slow (operAt Try.prog 8 54)), (some 57), none⟩, .n, []⟩])
 [7, 8, 9, 10, 11, 57]
 (.cond (.t 57) (.seq (.reg [⟨.op (.mv (.c (.bool false))), (some 6), none⟩])
 [6]
 (.ret)) (.skip))))))
 [7, 8, 9, 10, 11]
 (.reg [⟨.op (.mv (.t 11)), (some 40), none⟩, ⟨.op (.bin .add 0 (.t 40) (.c (.int .i64 1))), (some 41), none⟩, ⟨.op (.mv (.t 41)), (some 11), none⟩]))
theorem u8_0 (call : DCall) (T : Tm) (st : Dv.St) : dCw Try.prog call l8_0 T st = dCw Try.prog call
 (.seq (.seq (.reg [⟨.op (.mv (.t 11)), (some 38), none⟩, ⟨.op (.bin .leq 0 (.t 38) (.c (.int .i64 6))), (some 39), none⟩])
 [7, 8, 9, 10, 11, 39]
 (.cond (.t 39) (.skip) (.exit 0)))
 [7, 8, 9, 10, 11]
 (.seq (.block 1 (.seq (.reg [⟨.op (.mv (.t 7)), (some 42), none⟩, ⟨.op (.mv (.t 11)), (some 43), none⟩, ⟨.call 42 [(.t 42), (.t 43)], (some 44), none⟩, ⟨.op (.mv (.t 8)), (some 45), none⟩, ⟨.op (.mv (.t 11)), (some 46), none⟩, ⟨.call 42 [(.t 45), (.t 46)], (some 47), none⟩, ⟨.op (.new [(.int .i64 0), (.int .i64 0), (.int .i64 0)]), (some 12), none⟩, ⟨.op (.new [(.int .i64 0), (.int .i64 0), (.int .i64 0)]), (some 13), none⟩, ⟨.op (.st 3 (.t 12) (.t 44)), none, none⟩, ⟨.op (.st 3 (.t 13) (.t 47)), none, none⟩])
 [7, 8, 9, 10, 11, 12, 13]
 (.seq (.seq (.reg [⟨.op (.ldn 3 (.t 12)), (some 48), none⟩, ⟨.op (.ldn 3 (.t 13)), (some 49), none⟩, ⟨.call 35 [(.t 48), (.t 49)], (some 50), none⟩, ⟨.op (.bin .lss 0 (.t 50) (.c (.int .i64 0))), (some 51), none⟩])
 [7, 8, 9, 10, 11, 12, 13, 51]
 (.cond (.t 51) (.reg [⟨.op (.ldn 3 (.t 13)), (some 52), none⟩, ⟨.op (.st 3 (.t 12) (.t 52)), none, none⟩]) (.skip)))
 [7, 8, 9, 10, 11, 12]
 (.seq (.drw [⟨⟨.op (.mv (.t 10)), (some 53), none⟩, .n, []⟩, ⟨⟨.op (.mv (.t 11)), (some 54), none⟩, .n, []⟩, ⟨⟨.op (.ldn 3 (.t 12)), (some 56), none⟩, .n, []⟩, ⟨⟨.call 42 [(.t 53), (.t 54)], (some 55), none⟩, .x, [(true, 2)]⟩, ⟨⟨.op (.slow (operAt Try.prog 8 54)), (some 57), none⟩, .n, []⟩])
 [7, 8, 9, 10, 11, 57]
 (.cond (.t 57) (.seq (.reg [⟨.op (.mv (.c (.bool false))), (some 6), none⟩])
 [6]
 (.ret)) (.skip))))))
 [7, 8, 9, 10, 11]
 (.reg [⟨.op (.mv (.t 11)), (some 40), none⟩, ⟨.op (.bin .add 0 (.t 40) (.c (.int .i64 1))), (some 41), none⟩, ⟨.op (.mv (.t 41)), (some 11), none⟩]))) T st := rfl
/-- cardamom/cardamomlaw9.SeenMost -/
noncomputable def c8 : DFn := ⟨104, .pure,
 .seq (.reg [⟨.op (.mv (.c (.bool false))), (some 6), none⟩])
 [0, 1, 2]
 (.seq (.seq (.reg [⟨.call 37 [], (some 14), none⟩, ⟨.op (.not (.t 14)), (some 15), none⟩])
 [0, 1, 2, 15]
 (.cond (.t 15) (.seq (.reg [⟨.op (.mv (.c (.bool false))), (some 6), none⟩])
 [6]
 (.ret)) (.skip)))
 [0, 1, 2]
 (.seq (.seq (.reg [⟨.op (.mv (.t 0)), (some 16), none⟩, ⟨.op (.len (.t 16)), (some 17), none⟩, ⟨.op (.bin .gtr 0 (.t 17) (.c (.int .i64 30))), (some 18), none⟩, ⟨.op (.mv (.t 18)), (some 19), none⟩, ⟨.op (.mv (.t 1)), (some 20), (some (19, false))⟩, ⟨.op (.len (.t 20)), (some 21), (some (19, false))⟩, ⟨.op (.bin .gtr 0 (.t 21) (.c (.int .i64 30))), (some 22), (some (19, false))⟩, ⟨.op (.pick (.t 19) (.c (.bool true)) (.t 22)), (some 23), none⟩, ⟨.op (.mv (.t 23)), (some 24), none⟩, ⟨.op (.mv (.t 2)), (some 25), (some (24, false))⟩, ⟨.op (.len (.t 25)), (some 26), (some (24, false))⟩, ⟨.op (.bin .gtr 0 (.t 26) (.c (.int .i64 30))), (some 27), (some (24, false))⟩, ⟨.op (.pick (.t 24) (.c (.bool true)) (.t 27)), (some 28), none⟩])
 [0, 1, 2, 28]
 (.cond (.t 28) (.seq (.reg [⟨.op (.mv (.c (.bool true))), (some 6), none⟩])
 [6]
 (.ret)) (.skip)))
 [0, 1, 2]
 (.seq (.reg [⟨.op (.mv (.t 0)), (some 29), none⟩, ⟨.call 38 [(.t 29)], (some 30), none⟩, ⟨.op (.mv (.t 1)), (some 31), none⟩, ⟨.call 38 [(.t 31)], (some 32), none⟩, ⟨.op (.mv (.t 2)), (some 33), none⟩, ⟨.call 38 [(.t 33)], (some 34), none⟩, ⟨.op (.mv (.t 30)), (some 7), none⟩, ⟨.op (.mv (.t 32)), (some 8), none⟩, ⟨.op (.mv (.t 34)), (some 9), none⟩])
 [7, 8, 9]
 (.seq (.reg [⟨.op (.mv (.t 7)), (some 35), none⟩, ⟨.op (.mv (.t 8)), (some 36), none⟩, ⟨.call 47 [(.t 35), (.t 36)], (some 37), none⟩, ⟨.op (.mv (.t 37)), (some 10), none⟩])
 [7, 8, 9, 10]
 (.seq (.seq (.reg [⟨.op (.mv (.c (.int .i64 1))), (some 11), none⟩])
 [7, 8, 9, 10, 11]
 (.block 0 (.loop [7, 8, 9, 10, 11] (l8_0))))
 [7, 8, 9, 10]
 (.seq (.reg [⟨.op (.mv (.t 10)), (some 58), none⟩, ⟨.call 41 [(.t 58)], (some 59), none⟩, ⟨.op (.mv (.t 59)), (some 60), none⟩, ⟨.op (.mv (.t 7)), (some 61), (some (60, true))⟩, ⟨.op (.mv (.t 10)), (some 62), (some (60, true))⟩, ⟨.call 44 [(.t 61), (.t 62)], (some 63), (some (60, true))⟩, ⟨.op (.pick (.t 60) (.t 63) (.c (.bool false))), (some 64), none⟩, ⟨.op (.mv (.t 64)), (some 65), none⟩, ⟨.op (.mv (.t 8)), (some 66), (some (65, true))⟩, ⟨.op (.mv (.t 10)), (some 67), (some (65, true))⟩, ⟨.call 44 [(.t 66), (.t 67)], (some 68), (some (65, true))⟩, ⟨.op (.pick (.t 65) (.t 68) (.c (.bool false))), (some 69), none⟩, ⟨.op (.mv (.t 69)), (some 70), none⟩, ⟨.op (.mv (.t 10)), (some 71), (some (70, true))⟩, ⟨.op (.mv (.t 8)), (some 72), (some (70, true))⟩, ⟨.op (.mv (.t 7)), (some 73), (some (70, true))⟩, ⟨.call 47 [(.t 72), (.t 73)], (some 74), (some (70, true))⟩, ⟨.call 27 [(.t 71), (.t 74)], (some 75), (some (70, true))⟩, ⟨.op (.pick (.t 70) (.t 75) (.c (.bool false))), (some 76), none⟩, ⟨.op (.mv (.t 76)), (some 77), none⟩, ⟨.op (.mv (.t 10)), (some 78), (some (77, true))⟩, ⟨.op (.mv (.t 9)), (some 79), (some (77, true))⟩, ⟨.call 47 [(.t 78), (.t 79)], (some 80), (some (77, true))⟩, ⟨.op (.mv (.t 7)), (some 81), (some (77, true))⟩, ⟨.op (.mv (.t 8)), (some 82), (some (77, true))⟩, ⟨.op (.mv (.t 9)), (some 83), (some (77, true))⟩, ⟨.call 47 [(.t 82), (.t 83)], (some 84), (some (77, true))⟩, ⟨.call 47 [(.t 81), (.t 84)], (some 85), (some (77, true))⟩, ⟨.call 27 [(.t 80), (.t 85)], (some 86), (some (77, true))⟩, ⟨.op (.pick (.t 77) (.t 86) (.c (.bool false))), (some 87), none⟩, ⟨.op (.mv (.t 87)), (some 88), none⟩, ⟨.op (.mv (.t 7)), (some 89), (some (88, true))⟩, ⟨.op (.mv (.t 7)), (some 90), (some (88, true))⟩, ⟨.call 47 [(.t 89), (.t 90)], (some 91), (some (88, true))⟩, ⟨.op (.mv (.t 7)), (some 92), (some (88, true))⟩, ⟨.call 27 [(.t 91), (.t 92)], (some 93), (some (88, true))⟩, ⟨.op (.pick (.t 88) (.t 93) (.c (.bool false))), (some 94), none⟩, ⟨.op (.mv (.t 94)), (some 95), none⟩, ⟨.op (.mv (.t 10)), (some 96), (some (95, true))⟩, ⟨.op (.mv (.t 7)), (some 97), (some (95, true))⟩, ⟨.call 44 [(.t 96), (.t 97)], (some 98), (some (95, true))⟩, ⟨.op (.mv (.t 8)), (some 99), (some (95, true))⟩, ⟨.op (.mv (.t 7)), (some 100), (some (95, true))⟩, ⟨.call 44 [(.t 99), (.t 100)], (some 101), (some (95, true))⟩, ⟨.op (.bin .eql 5 (.t 98) (.t 101)), (some 102), (some (95, true))⟩, ⟨.op (.pick (.t 95) (.t 102) (.c (.bool false))), (some 103), none⟩, ⟨.op (.mv (.t 103)), (some 6), none⟩])
 [6]
 (.ret))))))),
 [.tmp 6]⟩
theorem k8 : cFn Try.prog 8 = some c8.toE := by kernel_rfl
theorem w8 : c8.body.wf = true := by kernel_rfl
noncomputable def l9_0 : DC :=
 .seq (.seq (.reg [⟨.op (.mv (.t 7)), (some 19), none⟩, ⟨.op (.bin .lss 0 (.t 19) (.c (.int .i64 10))), (some 20), none⟩])
 [1, 5, 6, 7, 20]
 (.cond (.t 20) (.skip) (.exit 0)))
 [1, 5, 6, 7]
 (.seq (.block 1 (.reg [⟨.op (.mv (.t 6)), (some 23), none⟩, ⟨.op (.mv (.t 5)), (some 24), none⟩, ⟨.call 39 [(.t 24), (.c (.int .i64 6))], (some 25), none⟩, ⟨.op (.bin .add 0 (.c (.int .i64 1)) (.t 25)), (some 26), none⟩, ⟨.op (.mv (.t 5)), (some 27), none⟩, ⟨.call 40 [(.t 27)], (some 28), none⟩, ⟨.op (.build [(.int .i64 0), (.int .i64 0), (.int .i64 0), (.int .i64 0)] [(0, 1, (.t 26)), (1, 3, (.t 28))]), (some 29), none⟩, ⟨.op (.bslice 4 1 [(.int .i64 0), (.int .i64 0), (.int .i64 0), (.int .i64 0)] [(0, 4, (.t 29))]), (some 30), none⟩, ⟨.op (.app 4 32 false (.t 23) (.t 30)), (some 31), none⟩, ⟨.op (.mv (.t 31)), (some 6), none⟩]))
 [1, 5, 6, 7]
 (.reg [⟨.op (.mv (.t 7)), (some 21), none⟩, ⟨.op (.bin .add 0 (.t 21) (.c (.int .i64 1))), (some 22), none⟩, ⟨.op (.mv (.t 22)), (some 7), none⟩]))
theorem u9_0 (call : DCall) (T : Tm) (st : Dv.St) : dCw Try.prog call l9_0 T st = dCw Try.prog call
 (.seq (.seq (.reg [⟨.op (.mv (.t 7)), (some 19), none⟩, ⟨.op (.bin .lss 0 (.t 19) (.c (.int .i64 10))), (some 20), none⟩])
 [1, 5, 6, 7, 20]
 (.cond (.t 20) (.skip) (.exit 0)))
 [1, 5, 6, 7]
 (.seq (.block 1 (.reg [⟨.op (.mv (.t 6)), (some 23), none⟩, ⟨.op (.mv (.t 5)), (some 24), none⟩, ⟨.call 39 [(.t 24), (.c (.int .i64 6))], (some 25), none⟩, ⟨.op (.bin .add 0 (.c (.int .i64 1)) (.t 25)), (some 26), none⟩, ⟨.op (.mv (.t 5)), (some 27), none⟩, ⟨.call 40 [(.t 27)], (some 28), none⟩, ⟨.op (.build [(.int .i64 0), (.int .i64 0), (.int .i64 0), (.int .i64 0)] [(0, 1, (.t 26)), (1, 3, (.t 28))]), (some 29), none⟩, ⟨.op (.bslice 4 1 [(.int .i64 0), (.int .i64 0), (.int .i64 0), (.int .i64 0)] [(0, 4, (.t 29))]), (some 30), none⟩, ⟨.op (.app 4 32 false (.t 23) (.t 30)), (some 31), none⟩, ⟨.op (.mv (.t 31)), (some 6), none⟩]))
 [1, 5, 6, 7]
 (.reg [⟨.op (.mv (.t 7)), (some 21), none⟩, ⟨.op (.bin .add 0 (.t 21) (.c (.int .i64 1))), (some 22), none⟩, ⟨.op (.mv (.t 22)), (some 7), none⟩]))) T st := rfl
noncomputable def l9_1 : DC :=
 .seq (.seq (.reg [⟨.op (.mv (.t 10)), (some 32), none⟩, ⟨.op (.bin .lss 0 (.t 32) (.c (.int .i64 10))), (some 33), none⟩])
 [1, 6, 8, 9, 10, 33]
 (.cond (.t 33) (.skip) (.exit 2)))
 [1, 6, 8, 9, 10]
 (.seq (.block 3 (.seq (.reg [⟨.op (.mv (.t 8)), (some 36), none⟩, ⟨.op (.mv (.t 36)), (some 11), none⟩])
 [1, 6, 8, 9, 10, 11]
 (.seq (.reg [⟨.op (.mv (.t 8)), (some 37), none⟩, ⟨.op (.mv (.t 6)), (some 38), none⟩, ⟨.op (.mv (.t 10)), (some 39), none⟩, ⟨.op (.ia 4 none (.t 38) (.t 39)), (some 40), none⟩, ⟨.op (.ldn 4 (.t 40)), (some 41), none⟩, ⟨.call 45 [(.t 37), (.t 41)], (some 42), none⟩, ⟨.op (.mv (.t 42)), (some 8), none⟩])
 [1, 6, 8, 9, 10, 11]
 (.seq (.reg [⟨.op (.mv (.t 9)), (some 43), none⟩, ⟨.op (.mv (.t 6)), (some 44), none⟩, ⟨.op (.mv (.t 10)), (some 45), none⟩, ⟨.op (.mv (.t 1)), (some 46), none⟩, ⟨.op (.conv .i64 (.t 46)), (some 47), none⟩, ⟨.op (.bin .add 0 (.t 45) (.t 47)), (some 48), none⟩, ⟨.op (.bin .rem 0 (.t 48) (.c (.int .i64 10))), (some 49), none⟩, ⟨.op (.ia 4 none (.t 44) (.t 49)), (some 50), none⟩, ⟨.op (.ldn 4 (.t 50)), (some 51), none⟩, ⟨.call 45 [(.t 43), (.t 51)], (some 52), none⟩, ⟨.op (.mv (.t 52)), (some 9), none⟩])
 [1, 6, 8, 9, 10, 11]
 (.seq (.drw [⟨⟨.op (.mv (.t 11)), (some 53), none⟩, .n, []⟩, ⟨⟨.op (.mv (.t 8)), (some 54), none⟩, .n, []⟩, ⟨⟨.call 44 [(.t 53), (.t 54)], (some 55), none⟩, .x, []⟩, ⟨⟨.op (.not (.t 55)), (some 56), none⟩, .n, []⟩, ⟨⟨.op (.mv (.t 56)), (some 57), none⟩, .n, []⟩, ⟨⟨.op (.mv (.t 8)), (some 58), (some (57, false))⟩, .n, []⟩, ⟨⟨.op (.mv (.t 6)), (some 59), (some (57, false))⟩, .n, []⟩, ⟨⟨.op (.mv (.t 10)), (some 60), (some (57, false))⟩, .n, []⟩, ⟨⟨.op (.ia 4 none (.t 59) (.t 60)), (some 61), (some (57, false))⟩, .n, []⟩, ⟨⟨.op (.fa 0 (.t 61)), (some 62), (some (57, false))⟩, .n, []⟩, ⟨⟨.op (.ld1 (.t 62)), (some 63), (some (57, false))⟩, .n, []⟩, ⟨⟨.op (.mv (.t 6)), (some 65), (some (57, false))⟩, .n, []⟩, ⟨⟨.op (.mv (.t 10)), (some 66), (some (57, false))⟩, .n, []⟩, ⟨⟨.op (.ia 4 none (.t 65) (.t 66)), (some 67), (some (57, false))⟩, .n, []⟩, ⟨⟨.op (.fa 1 (.t 67)), (some 68), (some (57, false))⟩, .n, []⟩, ⟨⟨.op (.ldn 3 (.t 68)), (some 69), (some (57, false))⟩, .n, []⟩, ⟨⟨.call 42 [(.t 58), (.t 63)], (some 64), (some (57, false))⟩, .x, [(true, 15)]⟩, ⟨⟨.call 35 [(.t 64), (.t 69)], (some 70), (some (57, false))⟩, .x, []⟩, ⟨⟨.op (.bin .lss 0 (.t 70) (.c (.int .i64 0))), (some 71), (some (57, false))⟩, .n, []⟩, ⟨⟨.op (.pick (.t 57) (.c (.bool true)) (.t 71)), (some 72), none⟩, .n, []⟩])
 [1, 6, 8, 9, 10, 72]
 (.cond (.t 72) (.seq (.reg [⟨.op (.mv (.c (.bool false))), (some 4), none⟩])
 [4]
 (.ret)) (.skip)))))))
 [1, 6, 8, 9, 10]
 (.reg [⟨.op (.mv (.t 10)), (some 34), none⟩, ⟨.op (.bin .add 0 (.t 34) (.c (.int .i64 1))), (some 35), none⟩, ⟨.op (.mv (.t 35)), (some 10), none⟩]))
theorem u9_1 (call : DCall) (T : Tm) (st : Dv.St) : dCw Try.prog call l9_1 T st = dCw Try.prog call
 (.seq (.seq (.reg [⟨.op (.mv (.t 10)), (some 32), none⟩, ⟨.op (.bin .lss 0 (.t 32) (.c (.int .i64 10))), (some 33), none⟩])
 [1, 6, 8, 9, 10, 33]
 (.cond (.t 33) (.skip) (.exit 2)))
 [1, 6, 8, 9, 10]
 (.seq (.block 3 (.seq (.reg [⟨.op (.mv (.t 8)), (some 36), none⟩, ⟨.op (.mv (.t 36)), (some 11), none⟩])
 [1, 6, 8, 9, 10, 11]
 (.seq (.reg [⟨.op (.mv (.t 8)), (some 37), none⟩, ⟨.op (.mv (.t 6)), (some 38), none⟩, ⟨.op (.mv (.t 10)), (some 39), none⟩, ⟨.op (.ia 4 none (.t 38) (.t 39)), (some 40), none⟩, ⟨.op (.ldn 4 (.t 40)), (some 41), none⟩, ⟨.call 45 [(.t 37), (.t 41)], (some 42), none⟩, ⟨.op (.mv (.t 42)), (some 8), none⟩])
 [1, 6, 8, 9, 10, 11]
 (.seq (.reg [⟨.op (.mv (.t 9)), (some 43), none⟩, ⟨.op (.mv (.t 6)), (some 44), none⟩, ⟨.op (.mv (.t 10)), (some 45), none⟩, ⟨.op (.mv (.t 1)), (some 46), none⟩, ⟨.op (.conv .i64 (.t 46)), (some 47), none⟩, ⟨.op (.bin .add 0 (.t 45) (.t 47)), (some 48), none⟩, ⟨.op (.bin .rem 0 (.t 48) (.c (.int .i64 10))), (some 49), none⟩, ⟨.op (.ia 4 none (.t 44) (.t 49)), (some 50), none⟩, ⟨.op (.ldn 4 (.t 50)), (some 51), none⟩, ⟨.call 45 [(.t 43), (.t 51)], (some 52), none⟩, ⟨.op (.mv (.t 52)), (some 9), none⟩])
 [1, 6, 8, 9, 10, 11]
 (.seq (.drw [⟨⟨.op (.mv (.t 11)), (some 53), none⟩, .n, []⟩, ⟨⟨.op (.mv (.t 8)), (some 54), none⟩, .n, []⟩, ⟨⟨.call 44 [(.t 53), (.t 54)], (some 55), none⟩, .x, []⟩, ⟨⟨.op (.not (.t 55)), (some 56), none⟩, .n, []⟩, ⟨⟨.op (.mv (.t 56)), (some 57), none⟩, .n, []⟩, ⟨⟨.op (.mv (.t 8)), (some 58), (some (57, false))⟩, .n, []⟩, ⟨⟨.op (.mv (.t 6)), (some 59), (some (57, false))⟩, .n, []⟩, ⟨⟨.op (.mv (.t 10)), (some 60), (some (57, false))⟩, .n, []⟩, ⟨⟨.op (.ia 4 none (.t 59) (.t 60)), (some 61), (some (57, false))⟩, .n, []⟩, ⟨⟨.op (.fa 0 (.t 61)), (some 62), (some (57, false))⟩, .n, []⟩, ⟨⟨.op (.ld1 (.t 62)), (some 63), (some (57, false))⟩, .n, []⟩, ⟨⟨.op (.mv (.t 6)), (some 65), (some (57, false))⟩, .n, []⟩, ⟨⟨.op (.mv (.t 10)), (some 66), (some (57, false))⟩, .n, []⟩, ⟨⟨.op (.ia 4 none (.t 65) (.t 66)), (some 67), (some (57, false))⟩, .n, []⟩, ⟨⟨.op (.fa 1 (.t 67)), (some 68), (some (57, false))⟩, .n, []⟩, ⟨⟨.op (.ldn 3 (.t 68)), (some 69), (some (57, false))⟩, .n, []⟩, ⟨⟨.call 42 [(.t 58), (.t 63)], (some 64), (some (57, false))⟩, .x, [(true, 15)]⟩, ⟨⟨.call 35 [(.t 64), (.t 69)], (some 70), (some (57, false))⟩, .x, []⟩, ⟨⟨.op (.bin .lss 0 (.t 70) (.c (.int .i64 0))), (some 71), (some (57, false))⟩, .n, []⟩, ⟨⟨.op (.pick (.t 57) (.c (.bool true)) (.t 71)), (some 72), none⟩, .n, []⟩])
 [1, 6, 8, 9, 10, 72]
 (.cond (.t 72) (.seq (.reg [⟨.op (.mv (.c (.bool false))), (some 4), none⟩])
 [4]
 (.ret)) (.skip)))))))
 [1, 6, 8, 9, 10]
 (.reg [⟨.op (.mv (.t 10)), (some 34), none⟩, ⟨.op (.bin .add 0 (.t 34) (.c (.int .i64 1))), (some 35), none⟩, ⟨.op (.mv (.t 35)), (some 10), none⟩]))) T st := rfl
/-- cardamom/cardamomlaw9.SeenGrows -/
noncomputable def c9 : DFn := ⟨76, .pure,
 .seq (.reg [⟨.op (.mv (.c (.bool false))), (some 4), none⟩])
 [0, 1]
 (.seq (.seq (.reg [⟨.call 37 [], (some 12), none⟩, ⟨.op (.not (.t 12)), (some 13), none⟩])
 [0, 1, 13]
 (.cond (.t 13) (.seq (.reg [⟨.op (.mv (.c (.bool false))), (some 4), none⟩])
 [4]
 (.ret)) (.skip)))
 [0, 1]
 (.seq (.seq (.reg [⟨.op (.mv (.t 0)), (some 14), none⟩, ⟨.op (.len (.t 14)), (some 15), none⟩, ⟨.op (.bin .gtr 0 (.t 15) (.c (.int .i64 40))), (some 16), none⟩])
 [0, 1, 16]
 (.cond (.t 16) (.seq (.reg [⟨.op (.mv (.c (.bool true))), (some 4), none⟩])
 [4]
 (.ret)) (.skip)))
 [0, 1]
 (.seq (.reg [⟨.op (.mv (.t 0)), (some 17), none⟩, ⟨.call 16 [(.t 17)], (some 18), none⟩, ⟨.op (.mv (.t 18)), (some 5), none⟩])
 [1, 5]
 (.seq (.reg [⟨.op (.mv (.c (.sl none 0))), (some 6), none⟩])
 [1, 5, 6]
 (.seq (.seq (.reg [⟨.op (.mv (.c (.int .i64 0))), (some 7), none⟩])
 [1, 5, 6, 7]
 (.block 0 (.loop [1, 5, 6, 7] (l9_0))))
 [1, 6]
 (.seq (.reg [⟨.op (.mv (.c (.sl none 0))), (some 8), none⟩, ⟨.op (.mv (.c (.sl none 0))), (some 9), none⟩])
 [1, 6, 8, 9]
 (.seq (.seq (.reg [⟨.op (.mv (.c (.int .i64 0))), (some 10), none⟩])
 [1, 6, 8, 9, 10]
 (.block 2 (.loop [1, 6, 8, 9, 10] (l9_1))))
 [8, 9]
 (.seq (.reg [⟨.op (.mv (.t 8)), (some 73), none⟩, ⟨.op (.mv (.t 9)), (some 74), none⟩, ⟨.call 27 [(.t 73), (.t 74)], (some 75), none⟩, ⟨.op (.mv (.t 75)), (some 4), none⟩])
 [4]
 (.ret))))))))),
 [.tmp 4]⟩
theorem k9 : cFn Try.prog 9 = some c9.toE := by kernel_rfl
theorem w9 : c9.body.wf = true := by kernel_rfl
/-- cardamom/cardamomlaw9.SeenBoth -/
noncomputable def c11 : DFn := ⟨74, .pure,
 .seq (.reg [⟨.op (.mv (.c (.bool false))), (some 6), none⟩])
 [0, 1, 2]
 (.seq (.seq (.reg [⟨.call 37 [], (some 12), none⟩, ⟨.op (.not (.t 12)), (some 13), none⟩])
 [0, 1, 2, 13]
 (.cond (.t 13) (.seq (.reg [⟨.op (.mv (.c (.bool false))), (some 6), none⟩])
 [6]
 (.ret)) (.skip)))
 [0, 1, 2]
 (.seq (.seq (.reg [⟨.op (.mv (.t 0)), (some 14), none⟩, ⟨.op (.len (.t 14)), (some 15), none⟩, ⟨.op (.bin .gtr 0 (.t 15) (.c (.int .i64 30))), (some 16), none⟩, ⟨.op (.mv (.t 16)), (some 17), none⟩, ⟨.op (.mv (.t 1)), (some 18), (some (17, false))⟩, ⟨.op (.len (.t 18)), (some 19), (some (17, false))⟩, ⟨.op (.bin .gtr 0 (.t 19) (.c (.int .i64 30))), (some 20), (some (17, false))⟩, ⟨.op (.pick (.t 17) (.c (.bool true)) (.t 20)), (some 21), none⟩, ⟨.op (.mv (.t 21)), (some 22), none⟩, ⟨.op (.mv (.t 2)), (some 23), (some (22, false))⟩, ⟨.op (.len (.t 23)), (some 24), (some (22, false))⟩, ⟨.op (.bin .gtr 0 (.t 24) (.c (.int .i64 30))), (some 25), (some (22, false))⟩, ⟨.op (.pick (.t 22) (.c (.bool true)) (.t 25)), (some 26), none⟩])
 [0, 1, 2, 26]
 (.cond (.t 26) (.seq (.reg [⟨.op (.mv (.c (.bool true))), (some 6), none⟩])
 [6]
 (.ret)) (.skip)))
 [0, 1, 2]
 (.seq (.reg [⟨.op (.mv (.t 0)), (some 27), none⟩, ⟨.call 38 [(.t 27)], (some 28), none⟩, ⟨.op (.mv (.t 1)), (some 29), none⟩, ⟨.call 38 [(.t 29)], (some 30), none⟩, ⟨.op (.mv (.t 2)), (some 31), none⟩, ⟨.call 38 [(.t 31)], (some 32), none⟩, ⟨.op (.mv (.t 28)), (some 7), none⟩, ⟨.op (.mv (.t 30)), (some 8), none⟩, ⟨.op (.mv (.t 32)), (some 9), none⟩])
 [7, 8, 9]
 (.seq (.reg [⟨.op (.mv (.t 7)), (some 33), none⟩, ⟨.op (.mv (.t 8)), (some 34), none⟩, ⟨.call 44 [(.t 33), (.t 34)], (some 35), none⟩, ⟨.op (.mv (.t 8)), (some 36), none⟩, ⟨.op (.mv (.t 7)), (some 37), none⟩, ⟨.call 44 [(.t 36), (.t 37)], (some 38), none⟩, ⟨.op (.mv (.t 35)), (some 10), none⟩, ⟨.op (.mv (.t 38)), (some 11), none⟩])
 [7, 8, 9, 10, 11]
 (.seq (.reg [⟨.op (.mv (.t 10)), (some 39), none⟩, ⟨.op (.mv (.t 39)), (some 40), none⟩, ⟨.op (.mv (.t 11)), (some 41), (some (40, true))⟩, ⟨.op (.pick (.t 40) (.t 41) (.c (.bool false))), (some 42), none⟩, ⟨.op (.mv (.t 7)), (some 43), none⟩, ⟨.op (.mv (.t 8)), (some 44), none⟩, ⟨.call 27 [(.t 43), (.t 44)], (some 45), none⟩, ⟨.op (.bin .eql 5 (.t 42) (.t 45)), (some 46), none⟩, ⟨.op (.mv (.t 46)), (some 47), none⟩, ⟨.op (.mv (.t 10)), (some 48), (some (47, true))⟩, ⟨.op (.not (.t 48)), (some 49), (some (47, true))⟩, ⟨.op (.mv (.t 49)), (some 50), (some (47, true))⟩, ⟨.op (.mv (.t 8)), (some 51), (some (50, false))⟩, ⟨.op (.mv (.t 9)), (some 52), (some (50, false))⟩, ⟨.call 44 [(.t 51), (.t 52)], (some 53), (some (50, false))⟩, ⟨.op (.not (.t 53)), (some 54), (some (50, false))⟩, ⟨.op (.pick (.t 50) (.c (.bool true)) (.t 54)), (some 55), (some (47, true))⟩, ⟨.op (.mv (.t 55)), (some 56), (some (47, true))⟩, ⟨.op (.mv (.t 7)), (some 57), (some (56, false))⟩, ⟨.op (.mv (.t 9)), (some 58), (some (56, false))⟩, ⟨.call 44 [(.t 57), (.t 58)], (some 59), (some (56, false))⟩, ⟨.op (.pick (.t 56) (.c (.bool true)) (.t 59)), (some 60), (some (47, true))⟩, ⟨.op (.pick (.t 47) (.t 60) (.c (.bool false))), (some 61), none⟩, ⟨.op (.mv (.t 61)), (some 62), none⟩, ⟨.op (.mv (.t 7)), (some 63), (some (62, true))⟩, ⟨.op (.mv (.t 7)), (some 64), (some (62, true))⟩, ⟨.call 44 [(.t 63), (.t 64)], (some 65), (some (62, true))⟩, ⟨.op (.pick (.t 62) (.t 65) (.c (.bool false))), (some 66), none⟩, ⟨.op (.mv (.t 66)), (some 67), none⟩, ⟨.op (.mv (.t 7)), (some 68), (some (67, true))⟩, ⟨.op (.mv (.t 7)), (some 69), (some (67, true))⟩, ⟨.op (.mv (.t 9)), (some 70), (some (67, true))⟩, ⟨.call 47 [(.t 69), (.t 70)], (some 71), (some (67, true))⟩, ⟨.call 44 [(.t 68), (.t 71)], (some 72), (some (67, true))⟩, ⟨.op (.pick (.t 67) (.t 72) (.c (.bool false))), (some 73), none⟩, ⟨.op (.mv (.t 73)), (some 6), none⟩])
 [6]
 (.ret)))))),
 [.tmp 6]⟩
theorem k11 : cFn Try.prog 11 = some c11.toE := by kernel_rfl
theorem w11 : c11.body.wf = true := by kernel_rfl
/-- cardamom/cardamomlaw9.begun -/
noncomputable def c37 : DFn := ⟨62, .pure,
 .seq (.reg [⟨.op (.mv (.c (.bool false))), (some 0), none⟩])
 []
 (.seq (.reg [⟨.op (.build [(.int .i64 0), (.int .i64 0), (.int .i64 0)] [(0, 1, (.c (.int .i64 2))), (1, 1, (.c (.int .i64 1))), (2, 1, (.c (.int .i64 1)))]), (some 5), none⟩, ⟨.op (.build [(.int .i64 0), (.int .i64 0), (.int .i64 0)] [(0, 1, (.c (.int .i64 3))), (1, 1, (.c (.int .i64 1))), (2, 1, (.c (.int .i64 2)))]), (some 6), none⟩, ⟨.op (.new [(.int .i64 0), (.int .i64 0), (.int .i64 0)]), (some 1), none⟩, ⟨.op (.new [(.int .i64 0), (.int .i64 0), (.int .i64 0)]), (some 2), none⟩, ⟨.op (.st 3 (.t 1) (.t 5)), none, none⟩, ⟨.op (.st 3 (.t 2) (.t 6)), none, none⟩])
 [1, 2]
 (.seq (.reg [⟨.op (.ldn 3 (.t 1)), (some 7), none⟩, ⟨.op (.build [(.int .i64 0), (.int .i64 0), (.int .i64 0), (.int .i64 0)] [(0, 1, (.c (.int .i64 2))), (1, 3, (.t 7))]), (some 8), none⟩, ⟨.op (.bslice 4 1 [(.int .i64 0), (.int .i64 0), (.int .i64 0), (.int .i64 0)] [(0, 4, (.t 8))]), (some 9), none⟩, ⟨.op (.ldn 3 (.t 2)), (some 10), none⟩, ⟨.op (.build [(.int .i64 0), (.int .i64 0), (.int .i64 0), (.int .i64 0)] [(0, 1, (.c (.int .i64 1))), (1, 3, (.t 10))]), (some 11), none⟩, ⟨.call 45 [(.t 9), (.t 11)], (some 12), none⟩, ⟨.op (.mv (.t 12)), (some 3), none⟩])
 [1, 2, 3]
 (.seq (.reg [⟨.op (.mv (.t 3)), (some 13), none⟩, ⟨.op (.ldn 3 (.t 1)), (some 14), none⟩, ⟨.op (.build [(.int .i64 0), (.int .i64 0), (.int .i64 0), (.int .i64 0)] [(0, 1, (.c (.int .i64 1))), (1, 3, (.t 14))]), (some 15), none⟩, ⟨.call 45 [(.t 13), (.t 15)], (some 16), none⟩, ⟨.op (.mv (.t 16)), (some 4), none⟩])
 [1, 2, 3, 4]
 (.seq (.drw [⟨⟨.op (.mv (.t 3)), (some 17), none⟩, .n, []⟩, ⟨⟨.call 41 [(.t 17)], (some 18), none⟩, .x, []⟩, ⟨⟨.op (.mv (.t 18)), (some 19), none⟩, .n, []⟩, ⟨⟨.op (.mv (.t 3)), (some 20), (some (19, true))⟩, .n, []⟩, ⟨⟨.op (.len (.t 20)), (some 21), (some (19, true))⟩, .n, []⟩, ⟨⟨.op (.bin .eql 0 (.t 21) (.c (.int .i64 2))), (some 22), (some (19, true))⟩, .n, []⟩, ⟨⟨.op (.pick (.t 19) (.t 22) (.c (.bool false))), (some 23), none⟩, .n, []⟩, ⟨⟨.op (.mv (.t 23)), (some 24), none⟩, .n, []⟩, ⟨⟨.op (.mv (.t 3)), (some 25), (some (24, true))⟩, .n, []⟩, ⟨⟨.op (.ia 4 none (.t 25) (.c (.int .i64 0))), (some 26), (some (24, true))⟩, .n, []⟩, ⟨⟨.op (.fa 1 (.t 26)), (some 27), (some (24, true))⟩, .n, []⟩, ⟨⟨.op (.ldn 3 (.t 27)), (some 28), (some (24, true))⟩, .n, []⟩, ⟨⟨.op (.ldn 3 (.t 2)), (some 29), (some (24, true))⟩, .n, []⟩, ⟨⟨.op (.slow (operAt Try.prog 37 32)), (some 30), (some (24, true))⟩, .n, []⟩, ⟨⟨.op (.pick (.t 24) (.t 30) (.c (.bool false))), (some 31), none⟩, .n, []⟩, ⟨⟨.op (.mv (.t 31)), (some 32), none⟩, .n, []⟩, ⟨⟨.op (.mv (.t 4)), (some 33), (some (32, true))⟩, .n, []⟩, ⟨⟨.op (.len (.t 33)), (some 34), (some (32, true))⟩, .n, []⟩, ⟨⟨.op (.bin .eql 0 (.t 34) (.c (.int .i64 2))), (some 35), (some (32, true))⟩, .n, []⟩, ⟨⟨.op (.pick (.t 32) (.t 35) (.c (.bool false))), (some 36), none⟩, .n, []⟩, ⟨⟨.op (.mv (.t 36)), (some 37), none⟩, .n, []⟩, ⟨⟨.op (.mv (.t 4)), (some 38), (some (37, true))⟩, .n, []⟩, ⟨⟨.op (.ia 4 none (.t 38) (.c (.int .i64 0))), (some 39), (some (37, true))⟩, .n, []⟩, ⟨⟨.op (.fa 1 (.t 39)), (some 40), (some (37, true))⟩, .n, []⟩, ⟨⟨.op (.ldn 3 (.t 40)), (some 41), (some (37, true))⟩, .n, []⟩, ⟨⟨.op (.ldn 3 (.t 2)), (some 42), (some (37, true))⟩, .n, []⟩, ⟨⟨.op (.slow (operAt Try.prog 37 45)), (some 43), (some (37, true))⟩, .n, []⟩, ⟨⟨.op (.pick (.t 37) (.t 43) (.c (.bool false))), (some 44), none⟩, .n, []⟩, ⟨⟨.op (.mv (.t 44)), (some 45), none⟩, .n, []⟩, ⟨⟨.op (.mv (.t 3)), (some 46), (some (45, true))⟩, .n, []⟩, ⟨⟨.op (.ldn 3 (.t 1)), (some 48), (some (45, true))⟩, .n, []⟩, ⟨⟨.call 42 [(.t 46), (.c (.int .i64 2))], (some 47), (some (45, true))⟩, .x, [(true, 30)]⟩, ⟨⟨.op (.slow (operAt Try.prog 37 51)), (some 49), (some (45, true))⟩, .n, []⟩, ⟨⟨.op (.pick (.t 45) (.t 49) (.c (.bool false))), (some 50), none⟩, .n, []⟩, ⟨⟨.op (.mv (.t 50)), (some 51), none⟩, .n, []⟩, ⟨⟨.op (.mv (.t 3)), (some 52), (some (51, true))⟩, .n, []⟩, ⟨⟨.op (.mv (.t 4)), (some 53), (some (51, true))⟩, .n, []⟩, ⟨⟨.call 44 [(.t 52), (.t 53)], (some 54), (some (51, true))⟩, .x, []⟩, ⟨⟨.op (.pick (.t 51) (.t 54) (.c (.bool false))), (some 55), none⟩, .n, []⟩, ⟨⟨.op (.mv (.t 55)), (some 56), none⟩, .n, []⟩, ⟨⟨.op (.mv (.t 3)), (some 57), (some (56, true))⟩, .n, []⟩, ⟨⟨.call 47 [(.t 57), (.c (.sl none 0))], (some 58), (some (56, true))⟩, .x, []⟩, ⟨⟨.op (.len (.t 58)), (some 59), (some (56, true))⟩, .n, []⟩, ⟨⟨.op (.bin .eql 0 (.t 59) (.c (.int .i64 2))), (some 60), (some (56, true))⟩, .n, []⟩, ⟨⟨.op (.pick (.t 56) (.t 60) (.c (.bool false))), (some 61), none⟩, .n, []⟩, ⟨⟨.op (.mv (.t 61)), (some 0), none⟩, .x, []⟩])
 [0]
 (.ret))))),
 [.tmp 0]⟩
theorem k37 : cFn Try.prog 37 = some c37.toE := by kernel_rfl
theorem w37 : c37.body.wf = true := by kernel_rfl
noncomputable def l38_0 : DC :=
 .seq (.seq (.reg [⟨.op (.mv (.t 5)), (some 8), none⟩, ⟨.op (.bin .lss 0 (.t 8) (.c (.int .i64 6))), (some 9), none⟩, ⟨.op (.mv (.t 9)), (some 10), none⟩, ⟨.op (.mv (.t 3)), (some 11), (some (10, true))⟩, ⟨.call 68 [(.t 11)], (some 12), (some (10, true))⟩, ⟨.op (.not (.t 12)), (some 13), (some (10, true))⟩, ⟨.op (.pick (.t 10) (.t 13) (.c (.bool false))), (some 14), none⟩])
 [3, 4, 5, 14]
 (.cond (.t 14) (.skip) (.exit 0)))
 [3, 4, 5]
 (.seq (.block 1 (.reg [⟨.op (.mv (.t 4)), (some 17), none⟩, ⟨.op (.mv (.t 3)), (some 18), none⟩, ⟨.call 39 [(.t 18), (.c (.int .i64 6))], (some 19), none⟩, ⟨.op (.bin .add 0 (.c (.int .i64 1)) (.t 19)), (some 20), none⟩, ⟨.op (.mv (.t 3)), (some 21), none⟩, ⟨.call 40 [(.t 21)], (some 22), none⟩, ⟨.op (.build [(.int .i64 0), (.int .i64 0), (.int .i64 0), (.int .i64 0)] [(0, 1, (.t 20)), (1, 3, (.t 22))]), (some 23), none⟩, ⟨.call 46 [(.t 17), (.t 23)], (some 24), none⟩, ⟨.op (.mv (.t 24)), (some 4), none⟩]))
 [3, 4, 5]
 (.reg [⟨.op (.mv (.t 5)), (some 15), none⟩, ⟨.op (.bin .add 0 (.t 15) (.c (.int .i64 1))), (some 16), none⟩, ⟨.op (.mv (.t 16)), (some 5), none⟩]))
theorem u38_0 (call : DCall) (T : Tm) (st : Dv.St) : dCw Try.prog call l38_0 T st = dCw Try.prog call
 (.seq (.seq (.reg [⟨.op (.mv (.t 5)), (some 8), none⟩, ⟨.op (.bin .lss 0 (.t 8) (.c (.int .i64 6))), (some 9), none⟩, ⟨.op (.mv (.t 9)), (some 10), none⟩, ⟨.op (.mv (.t 3)), (some 11), (some (10, true))⟩, ⟨.call 68 [(.t 11)], (some 12), (some (10, true))⟩, ⟨.op (.not (.t 12)), (some 13), (some (10, true))⟩, ⟨.op (.pick (.t 10) (.t 13) (.c (.bool false))), (some 14), none⟩])
 [3, 4, 5, 14]
 (.cond (.t 14) (.skip) (.exit 0)))
 [3, 4, 5]
 (.seq (.block 1 (.reg [⟨.op (.mv (.t 4)), (some 17), none⟩, ⟨.op (.mv (.t 3)), (some 18), none⟩, ⟨.call 39 [(.t 18), (.c (.int .i64 6))], (some 19), none⟩, ⟨.op (.bin .add 0 (.c (.int .i64 1)) (.t 19)), (some 20), none⟩, ⟨.op (.mv (.t 3)), (some 21), none⟩, ⟨.call 40 [(.t 21)], (some 22), none⟩, ⟨.op (.build [(.int .i64 0), (.int .i64 0), (.int .i64 0), (.int .i64 0)] [(0, 1, (.t 20)), (1, 3, (.t 22))]), (some 23), none⟩, ⟨.call 46 [(.t 17), (.t 23)], (some 24), none⟩, ⟨.op (.mv (.t 24)), (some 4), none⟩]))
 [3, 4, 5]
 (.reg [⟨.op (.mv (.t 5)), (some 15), none⟩, ⟨.op (.bin .add 0 (.t 15) (.c (.int .i64 1))), (some 16), none⟩, ⟨.op (.mv (.t 16)), (some 5), none⟩]))) T st := rfl
/-- cardamom/cardamomlaw9.Heads -/
noncomputable def c38 : DFn := ⟨26, .pure,
 .seq (.reg [⟨.op (.mv (.c (.sl none 0))), (some 2), none⟩])
 [0]
 (.seq (.reg [⟨.op (.mv (.t 0)), (some 6), none⟩, ⟨.call 16 [(.t 6)], (some 7), none⟩, ⟨.op (.mv (.t 7)), (some 3), none⟩])
 [3]
 (.seq (.reg [⟨.op (.mv (.c (.sl none 0))), (some 4), none⟩])
 [3, 4]
 (.seq (.seq (.reg [⟨.op (.mv (.c (.int .i64 0))), (some 5), none⟩])
 [3, 4, 5]
 (.block 0 (.loop [3, 4, 5] (l38_0))))
 [4]
 (.seq (.reg [⟨.op (.mv (.t 4)), (some 25), none⟩, ⟨.op (.mv (.t 25)), (some 2), none⟩])
 [2]
 (.ret))))),
 [.tmp 2]⟩
theorem k38 : cFn Try.prog 38 = some c38.toE := by kernel_rfl
theorem w38 : c38.body.wf = true := by kernel_rfl
/-- cardamom/cardamomplay.Made -/
noncomputable def c16 : DFn := ⟨6, .vars,
 .seq (.reg [⟨.op (.mv (.c (.ptr none))), (some 2), none⟩])
 [0]
 (.seq (.reg [⟨.op (.mv (.t 0)), (some 3), none⟩, ⟨.op (.build [(.sl none 0), (.int .i64 0)] [(0, 1, (.t 3))]), (some 4), none⟩, ⟨.op (.box (.t 4)), (some 5), none⟩, ⟨.op (.mv (.t 5)), (some 2), none⟩])
 [2]
 (.ret)),
 [.tmp 2]⟩
theorem k16 : cFn Try.prog 16 = some c16.toE := by kernel_rfl
theorem w16 : c16.body.wf = true := by kernel_rfl
/-- (*cardamom/cardamomplay.Picks).Num -/
noncomputable def c39 : DFn := ⟨40, .vars,
 .seq (.reg [⟨.op (.mv (.c (.int .i64 0))), (some 4), none⟩])
 [0, 1]
 (.seq (.seq (.drw [⟨⟨.op (.mv (.t 0)), (some 5), none⟩, .n, []⟩, ⟨⟨.op (.nilchk (.t 5)), (some 6), none⟩, .n, []⟩, ⟨⟨.op (.fa 1 (.t 6)), (some 7), none⟩, .n, []⟩, ⟨⟨.op (.ld1 (.t 7)), (some 8), none⟩, .n, []⟩, ⟨⟨.op (.mv (.t 0)), (some 9), none⟩, .n, []⟩, ⟨⟨.op (.nilchk (.t 9)), (some 10), none⟩, .n, []⟩, ⟨⟨.op (.fa 0 (.t 10)), (some 11), none⟩, .n, []⟩, ⟨⟨.op (.ld1 (.t 11)), (some 12), none⟩, .n, []⟩, ⟨⟨.op (.len (.t 12)), (some 13), none⟩, .n, []⟩, ⟨⟨.op (.bin .geq 0 (.t 8) (.t 13)), (some 14), none⟩, .n, []⟩, ⟨⟨.op (.mv (.t 14)), (some 15), none⟩, .n, []⟩, ⟨⟨.op (.mv (.t 1)), (some 16), (some (15, false))⟩, .n, []⟩, ⟨⟨.op (.bin .lss 0 (.t 16) (.c (.int .i64 1))), (some 17), (some (15, false))⟩, .n, []⟩, ⟨⟨.op (.pick (.t 15) (.c (.bool true)) (.t 17)), (some 18), none⟩, .n, []⟩])
 [0, 1, 18]
 (.cond (.t 18) (.seq (.reg [⟨.op (.mv (.c (.int .i64 0))), (some 4), none⟩])
 [4]
 (.ret)) (.skip)))
 [0, 1]
 (.seq (.reg [⟨.op (.mv (.t 0)), (some 19), none⟩, ⟨.op (.nilchk (.t 19)), (some 20), none⟩, ⟨.op (.fa 1 (.t 20)), (some 21), none⟩, ⟨.op (.ld1 (.t 21)), (some 22), none⟩, ⟨.op (.bin .add 0 (.t 22) (.c (.int .i64 1))), (some 23), none⟩, ⟨.op (.nilchk (.t 19)), (some 24), none⟩, ⟨.op (.fa 1 (.t 24)), (some 25), none⟩, ⟨.op (.st 1 (.t 25) (.t 23)), none, none⟩])
 [0, 1]
 (.seq (.drw [⟨⟨.op (.mv (.t 0)), (some 26), none⟩, .n, []⟩, ⟨⟨.op (.nilchk (.t 26)), (some 27), none⟩, .n, []⟩, ⟨⟨.op (.fa 0 (.t 27)), (some 28), none⟩, .n, []⟩, ⟨⟨.op (.ld1 (.t 28)), (some 29), none⟩, .n, []⟩, ⟨⟨.op (.mv (.t 0)), (some 30), none⟩, .n, []⟩, ⟨⟨.op (.nilchk (.t 30)), (some 31), none⟩, .n, []⟩, ⟨⟨.op (.fa 1 (.t 31)), (some 32), none⟩, .n, []⟩, ⟨⟨.op (.ld1 (.t 32)), (some 33), none⟩, .n, []⟩, ⟨⟨.op (.bin .sub 0 (.t 33) (.c (.int .i64 1))), (some 34), none⟩, .n, []⟩, ⟨⟨.op (.ia 1 none (.t 29) (.t 34)), (some 35), none⟩, .n, []⟩, ⟨⟨.op (.ld1 (.t 35)), (some 36), none⟩, .n, []⟩, ⟨⟨.op (.conv .i64 (.t 36)), (some 37), none⟩, .n, []⟩, ⟨⟨.op (.mv (.t 1)), (some 38), none⟩, .n, []⟩, ⟨⟨.op (.bin .rem 0 (.t 37) (.t 38)), (some 39), none⟩, .n, []⟩, ⟨⟨.op (.mv (.t 39)), (some 4), none⟩, .x, []⟩])
 [4]
 (.ret)))),
 [.tmp 4]⟩
theorem k39 : cFn Try.prog 39 = some c39.toE := by kernel_rfl
theorem w39 : c39.body.wf = true := by kernel_rfl
/-- (*cardamom/cardamomplay.Picks).Stamp -/
noncomputable def c40 : DFn := ⟨18, .vars,
 .seq (.reg [⟨.op (.new [(.int .i64 0), (.int .i64 0), (.int .i64 0)]), (some 2), none⟩])
 [0, 2]
 (.seq (.reg [⟨.op (.mv (.t 0)), (some 4), none⟩, ⟨.call 39 [(.t 4), (.c (.int .i64 9))], (some 5), none⟩, ⟨.op (.bin .add 0 (.c (.int .i64 1)) (.t 5)), (some 6), none⟩, ⟨.op (.mv (.t 0)), (some 7), none⟩, ⟨.call 39 [(.t 7), (.c (.int .i64 3))], (some 8), none⟩, ⟨.op (.bin .add 0 (.c (.int .i64 1)) (.t 8)), (some 9), none⟩, ⟨.op (.build [(.int .i64 0), (.int .i64 0), (.int .i64 0)] [(0, 1, (.t 6)), (1, 1, (.t 9))]), (some 10), none⟩, ⟨.op (.new [(.int .i64 0), (.int .i64 0), (.int .i64 0)]), (some 3), none⟩, ⟨.op (.st 3 (.t 3) (.t 10)), none, none⟩])
 [0, 2, 3]
 (.seq (.reg [⟨.op (.mv (.t 0)), (some 11), none⟩, ⟨.op (.fa 0 (.t 3)), (some 12), none⟩, ⟨.op (.ld1 (.t 12)), (some 13), none⟩, ⟨.call 39 [(.t 11), (.t 13)], (some 14), none⟩, ⟨.op (.bin .add 0 (.c (.int .i64 1)) (.t 14)), (some 15), none⟩, ⟨.op (.fa 2 (.t 3)), (some 16), none⟩, ⟨.op (.st 1 (.t 16) (.t 15)), none, none⟩])
 [2, 3]
 (.seq (.reg [⟨.op (.ldn 3 (.t 3)), (some 17), none⟩, ⟨.op (.st 3 (.t 2) (.t 17)), none, none⟩])
 [2]
 (.ret)))),
 [.celln 3 2]⟩
theorem k40 : cFn Try.prog 40 = some c40.toE := by kernel_rfl
theorem w40 : c40.body.wf = true := by kernel_rfl
/-- (*cardamom/cardamomplay.Picks).Over -/
noncomputable def c68 : DFn := ⟨13, .vars,
 .seq (.reg [⟨.op (.mv (.c (.bool false))), (some 2), none⟩])
 [0]
 (.seq (.drw [⟨⟨.op (.mv (.t 0)), (some 3), none⟩, .n, []⟩, ⟨⟨.op (.nilchk (.t 3)), (some 4), none⟩, .n, []⟩, ⟨⟨.op (.fa 1 (.t 4)), (some 5), none⟩, .n, []⟩, ⟨⟨.op (.ld1 (.t 5)), (some 6), none⟩, .n, []⟩, ⟨⟨.op (.mv (.t 0)), (some 7), none⟩, .n, []⟩, ⟨⟨.op (.nilchk (.t 7)), (some 8), none⟩, .n, []⟩, ⟨⟨.op (.fa 0 (.t 8)), (some 9), none⟩, .n, []⟩, ⟨⟨.op (.ld1 (.t 9)), (some 10), none⟩, .n, []⟩, ⟨⟨.op (.len (.t 10)), (some 11), none⟩, .n, []⟩, ⟨⟨.op (.bin .geq 0 (.t 6) (.t 11)), (some 12), none⟩, .n, []⟩, ⟨⟨.op (.mv (.t 12)), (some 2), none⟩, .x, []⟩])
 [2]
 (.ret)),
 [.tmp 2]⟩
theorem k68 : cFn Try.prog 68 = some c68.toE := by kernel_rfl
theorem w68 : c68.body.wf = true := by kernel_rfl
noncomputable def l27_0 : DC :=
 .seq (.seq (.reg [⟨.op (.mv (.t 5)), (some 11), none⟩, ⟨.op (.mv (.t 0)), (some 12), none⟩, ⟨.op (.len (.t 12)), (some 13), none⟩, ⟨.op (.bin .lss 0 (.t 11) (.t 13)), (some 14), none⟩])
 [0, 1, 5, 14]
 (.cond (.t 14) (.skip) (.exit 0)))
 [0, 1, 5]
 (.seq (.block 1 (.seq (.drw [⟨⟨.op (.mv (.t 0)), (some 17), none⟩, .n, []⟩, ⟨⟨.op (.mv (.t 5)), (some 18), none⟩, .n, []⟩, ⟨⟨.op (.ia 4 none (.t 17) (.t 18)), (some 19), none⟩, .n, []⟩, ⟨⟨.op (.ldn 4 (.t 19)), (some 20), none⟩, .n, []⟩, ⟨⟨.op (.mv (.t 1)), (some 21), none⟩, .n, []⟩, ⟨⟨.op (.mv (.t 5)), (some 22), none⟩, .n, []⟩, ⟨⟨.op (.ia 4 none (.t 21) (.t 22)), (some 23), none⟩, .n, []⟩, ⟨⟨.op (.ldn 4 (.t 23)), (some 24), none⟩, .n, []⟩, ⟨⟨.op (.slow (operAt Try.prog 27 20)), (some 25), none⟩, .n, []⟩])
 [0, 1, 5, 25]
 (.cond (.t 25) (.seq (.reg [⟨.op (.mv (.c (.bool false))), (some 4), none⟩])
 [4]
 (.ret)) (.skip))))
 [0, 1, 5]
 (.reg [⟨.op (.mv (.t 5)), (some 15), none⟩, ⟨.op (.bin .add 0 (.t 15) (.c (.int .i64 1))), (some 16), none⟩, ⟨.op (.mv (.t 16)), (some 5), none⟩]))
theorem u27_0 (call : DCall) (T : Tm) (st : Dv.St) : dCw Try.prog call l27_0 T st = dCw Try.prog call
 (.seq (.seq (.reg [⟨.op (.mv (.t 5)), (some 11), none⟩, ⟨.op (.mv (.t 0)), (some 12), none⟩, ⟨.op (.len (.t 12)), (some 13), none⟩, ⟨.op (.bin .lss 0 (.t 11) (.t 13)), (some 14), none⟩])
 [0, 1, 5, 14]
 (.cond (.t 14) (.skip) (.exit 0)))
 [0, 1, 5]
 (.seq (.block 1 (.seq (.drw [⟨⟨.op (.mv (.t 0)), (some 17), none⟩, .n, []⟩, ⟨⟨.op (.mv (.t 5)), (some 18), none⟩, .n, []⟩, ⟨⟨.op (.ia 4 none (.t 17) (.t 18)), (some 19), none⟩, .n, []⟩, ⟨⟨.op (.ldn 4 (.t 19)), (some 20), none⟩, .n, []⟩, ⟨⟨.op (.mv (.t 1)), (some 21), none⟩, .n, []⟩, ⟨⟨.op (.mv (.t 5)), (some 22), none⟩, .n, []⟩, ⟨⟨.op (.ia 4 none (.t 21) (.t 22)), (some 23), none⟩, .n, []⟩, ⟨⟨.op (.ldn 4 (.t 23)), (some 24), none⟩, .n, []⟩, ⟨⟨.op (.slow (operAt Try.prog 27 20)), (some 25), none⟩, .n, []⟩])
 [0, 1, 5, 25]
 (.cond (.t 25) (.seq (.reg [⟨.op (.mv (.c (.bool false))), (some 4), none⟩])
 [4]
 (.ret)) (.skip))))
 [0, 1, 5]
 (.reg [⟨.op (.mv (.t 5)), (some 15), none⟩, ⟨.op (.bin .add 0 (.t 15) (.c (.int .i64 1))), (some 16), none⟩, ⟨.op (.mv (.t 16)), (some 5), none⟩]))) T st := rfl
/-- cardamom/cardamomref1.SameHeads -/
noncomputable def c27 : DFn := ⟨26, .pure,
 .seq (.reg [⟨.op (.mv (.c (.bool false))), (some 4), none⟩])
 [0, 1]
 (.seq (.seq (.reg [⟨.op (.mv (.t 0)), (some 6), none⟩, ⟨.op (.len (.t 6)), (some 7), none⟩, ⟨.op (.mv (.t 1)), (some 8), none⟩, ⟨.op (.len (.t 8)), (some 9), none⟩, ⟨.op (.bin .neq 0 (.t 7) (.t 9)), (some 10), none⟩])
 [0, 1, 10]
 (.cond (.t 10) (.seq (.reg [⟨.op (.mv (.c (.bool false))), (some 4), none⟩])
 [4]
 (.ret)) (.skip)))
 [0, 1]
 (.seq (.seq (.reg [⟨.op (.mv (.c (.int .i64 0))), (some 5), none⟩])
 [0, 1, 5]
 (.block 0 (.loop [0, 1, 5] (l27_0))))
 []
 (.seq (.reg [⟨.op (.mv (.c (.bool true))), (some 4), none⟩])
 [4]
 (.ret)))),
 [.tmp 4]⟩
theorem k27 : cFn Try.prog 27 = some c27.toE := by kernel_rfl
theorem w27 : c27.body.wf = true := by kernel_rfl
noncomputable def l34_0 : DC :=
 .seq (.seq (.reg [⟨.op (.mv (.t 3)), (some 4), none⟩, ⟨.op (.mv (.t 0)), (some 5), none⟩, ⟨.op (.len (.t 5)), (some 6), none⟩, ⟨.op (.bin .lss 0 (.t 4) (.t 6)), (some 7), none⟩])
 [0, 3, 7]
 (.cond (.t 7) (.skip) (.exit 0)))
 [0, 3]
 (.seq (.block 1 (.seq (.drw [⟨⟨.op (.mv (.t 0)), (some 10), none⟩, .n, []⟩, ⟨⟨.op (.mv (.t 3)), (some 11), none⟩, .n, []⟩, ⟨⟨.op (.ia 4 none (.t 10) (.t 11)), (some 12), none⟩, .n, []⟩, ⟨⟨.op (.fa 0 (.t 12)), (some 13), none⟩, .n, []⟩, ⟨⟨.op (.ld1 (.t 13)), (some 14), none⟩, .n, []⟩, ⟨⟨.op (.bin .lss 0 (.t 14) (.c (.int .i64 1))), (some 15), none⟩, .n, []⟩, ⟨⟨.op (.mv (.t 15)), (some 16), none⟩, .n, []⟩, ⟨⟨.op (.mv (.t 0)), (some 17), (some (16, false))⟩, .n, []⟩, ⟨⟨.op (.mv (.t 3)), (some 18), (some (16, false))⟩, .n, []⟩, ⟨⟨.op (.ia 4 none (.t 17) (.t 18)), (some 19), (some (16, false))⟩, .n, []⟩, ⟨⟨.op (.fa 0 (.t 19)), (some 20), (some (16, false))⟩, .n, []⟩, ⟨⟨.op (.ld1 (.t 20)), (some 21), (some (16, false))⟩, .n, []⟩, ⟨⟨.op (.bin .gtr 0 (.t 21) (.c (.int .i64 6))), (some 22), (some (16, false))⟩, .n, []⟩, ⟨⟨.op (.pick (.t 16) (.c (.bool true)) (.t 22)), (some 23), none⟩, .n, []⟩, ⟨⟨.op (.mv (.t 23)), (some 24), none⟩, .n, []⟩, ⟨⟨.op (.mv (.t 0)), (some 25), (some (24, false))⟩, .n, []⟩, ⟨⟨.op (.mv (.t 3)), (some 26), (some (24, false))⟩, .n, []⟩, ⟨⟨.op (.ia 4 none (.t 25) (.t 26)), (some 27), (some (24, false))⟩, .n, []⟩, ⟨⟨.op (.fa 1 (.t 27)), (some 28), (some (24, false))⟩, .n, []⟩, ⟨⟨.op (.ldn 3 (.t 28)), (some 29), (some (24, false))⟩, .n, []⟩, ⟨⟨.call 69 [(.t 29)], (some 30), (some (24, false))⟩, .x, []⟩, ⟨⟨.op (.not (.t 30)), (some 31), (some (24, false))⟩, .n, []⟩, ⟨⟨.op (.pick (.t 24) (.c (.bool true)) (.t 31)), (some 32), none⟩, .n, []⟩, ⟨⟨.op (.mv (.t 32)), (some 33), none⟩, .n, []⟩, ⟨⟨.op (.mv (.t 3)), (some 34), (some (33, false))⟩, .n, []⟩, ⟨⟨.op (.bin .gtr 0 (.t 34) (.c (.int .i64 0))), (some 35), (some (33, false))⟩, .n, []⟩, ⟨⟨.op (.mv (.t 35)), (some 36), (some (33, false))⟩, .n, []⟩, ⟨⟨.op (.mv (.t 0)), (some 37), (some (36, true))⟩, .n, []⟩, ⟨⟨.op (.mv (.t 3)), (some 38), (some (36, true))⟩, .n, []⟩, ⟨⟨.op (.ia 4 none (.t 37) (.t 38)), (some 39), (some (36, true))⟩, .n, []⟩, ⟨⟨.op (.fa 0 (.t 39)), (some 40), (some (36, true))⟩, .n, []⟩, ⟨⟨.op (.ld1 (.t 40)), (some 41), (some (36, true))⟩, .n, []⟩, ⟨⟨.op (.mv (.t 0)), (some 42), (some (36, true))⟩, .n, []⟩, ⟨⟨.op (.mv (.t 3)), (some 43), (some (36, true))⟩, .n, []⟩, ⟨⟨.op (.bin .sub 0 (.t 43) (.c (.int .i64 1))), (some 44), (some (36, true))⟩, .n, []⟩, ⟨⟨.op (.ia 4 none (.t 42) (.t 44)), (some 45), (some (36, true))⟩, .n, []⟩, ⟨⟨.op (.fa 0 (.t 45)), (some 46), (some (36, true))⟩, .n, []⟩, ⟨⟨.op (.ld1 (.t 46)), (some 47), (some (36, true))⟩, .n, []⟩, ⟨⟨.op (.bin .leq 0 (.t 41) (.t 47)), (some 48), (some (36, true))⟩, .n, []⟩, ⟨⟨.op (.pick (.t 36) (.t 48) (.c (.bool false))), (some 49), (some (33, false))⟩, .n, []⟩, ⟨⟨.op (.pick (.t 33) (.c (.bool true)) (.t 49)), (some 50), none⟩, .n, []⟩])
 [0, 3, 50]
 (.cond (.t 50) (.seq (.reg [⟨.op (.mv (.c (.bool false))), (some 2), none⟩])
 [2]
 (.ret)) (.skip))))
 [0, 3]
 (.reg [⟨.op (.mv (.t 3)), (some 8), none⟩, ⟨.op (.bin .add 0 (.t 8) (.c (.int .i64 1))), (some 9), none⟩, ⟨.op (.mv (.t 9)), (some 3), none⟩]))
theorem u34_0 (call : DCall) (T : Tm) (st : Dv.St) : dCw Try.prog call l34_0 T st = dCw Try.prog call
 (.seq (.seq (.reg [⟨.op (.mv (.t 3)), (some 4), none⟩, ⟨.op (.mv (.t 0)), (some 5), none⟩, ⟨.op (.len (.t 5)), (some 6), none⟩, ⟨.op (.bin .lss 0 (.t 4) (.t 6)), (some 7), none⟩])
 [0, 3, 7]
 (.cond (.t 7) (.skip) (.exit 0)))
 [0, 3]
 (.seq (.block 1 (.seq (.drw [⟨⟨.op (.mv (.t 0)), (some 10), none⟩, .n, []⟩, ⟨⟨.op (.mv (.t 3)), (some 11), none⟩, .n, []⟩, ⟨⟨.op (.ia 4 none (.t 10) (.t 11)), (some 12), none⟩, .n, []⟩, ⟨⟨.op (.fa 0 (.t 12)), (some 13), none⟩, .n, []⟩, ⟨⟨.op (.ld1 (.t 13)), (some 14), none⟩, .n, []⟩, ⟨⟨.op (.bin .lss 0 (.t 14) (.c (.int .i64 1))), (some 15), none⟩, .n, []⟩, ⟨⟨.op (.mv (.t 15)), (some 16), none⟩, .n, []⟩, ⟨⟨.op (.mv (.t 0)), (some 17), (some (16, false))⟩, .n, []⟩, ⟨⟨.op (.mv (.t 3)), (some 18), (some (16, false))⟩, .n, []⟩, ⟨⟨.op (.ia 4 none (.t 17) (.t 18)), (some 19), (some (16, false))⟩, .n, []⟩, ⟨⟨.op (.fa 0 (.t 19)), (some 20), (some (16, false))⟩, .n, []⟩, ⟨⟨.op (.ld1 (.t 20)), (some 21), (some (16, false))⟩, .n, []⟩, ⟨⟨.op (.bin .gtr 0 (.t 21) (.c (.int .i64 6))), (some 22), (some (16, false))⟩, .n, []⟩, ⟨⟨.op (.pick (.t 16) (.c (.bool true)) (.t 22)), (some 23), none⟩, .n, []⟩, ⟨⟨.op (.mv (.t 23)), (some 24), none⟩, .n, []⟩, ⟨⟨.op (.mv (.t 0)), (some 25), (some (24, false))⟩, .n, []⟩, ⟨⟨.op (.mv (.t 3)), (some 26), (some (24, false))⟩, .n, []⟩, ⟨⟨.op (.ia 4 none (.t 25) (.t 26)), (some 27), (some (24, false))⟩, .n, []⟩, ⟨⟨.op (.fa 1 (.t 27)), (some 28), (some (24, false))⟩, .n, []⟩, ⟨⟨.op (.ldn 3 (.t 28)), (some 29), (some (24, false))⟩, .n, []⟩, ⟨⟨.call 69 [(.t 29)], (some 30), (some (24, false))⟩, .x, []⟩, ⟨⟨.op (.not (.t 30)), (some 31), (some (24, false))⟩, .n, []⟩, ⟨⟨.op (.pick (.t 24) (.c (.bool true)) (.t 31)), (some 32), none⟩, .n, []⟩, ⟨⟨.op (.mv (.t 32)), (some 33), none⟩, .n, []⟩, ⟨⟨.op (.mv (.t 3)), (some 34), (some (33, false))⟩, .n, []⟩, ⟨⟨.op (.bin .gtr 0 (.t 34) (.c (.int .i64 0))), (some 35), (some (33, false))⟩, .n, []⟩, ⟨⟨.op (.mv (.t 35)), (some 36), (some (33, false))⟩, .n, []⟩, ⟨⟨.op (.mv (.t 0)), (some 37), (some (36, true))⟩, .n, []⟩, ⟨⟨.op (.mv (.t 3)), (some 38), (some (36, true))⟩, .n, []⟩, ⟨⟨.op (.ia 4 none (.t 37) (.t 38)), (some 39), (some (36, true))⟩, .n, []⟩, ⟨⟨.op (.fa 0 (.t 39)), (some 40), (some (36, true))⟩, .n, []⟩, ⟨⟨.op (.ld1 (.t 40)), (some 41), (some (36, true))⟩, .n, []⟩, ⟨⟨.op (.mv (.t 0)), (some 42), (some (36, true))⟩, .n, []⟩, ⟨⟨.op (.mv (.t 3)), (some 43), (some (36, true))⟩, .n, []⟩, ⟨⟨.op (.bin .sub 0 (.t 43) (.c (.int .i64 1))), (some 44), (some (36, true))⟩, .n, []⟩, ⟨⟨.op (.ia 4 none (.t 42) (.t 44)), (some 45), (some (36, true))⟩, .n, []⟩, ⟨⟨.op (.fa 0 (.t 45)), (some 46), (some (36, true))⟩, .n, []⟩, ⟨⟨.op (.ld1 (.t 46)), (some 47), (some (36, true))⟩, .n, []⟩, ⟨⟨.op (.bin .leq 0 (.t 41) (.t 47)), (some 48), (some (36, true))⟩, .n, []⟩, ⟨⟨.op (.pick (.t 36) (.t 48) (.c (.bool false))), (some 49), (some (33, false))⟩, .n, []⟩, ⟨⟨.op (.pick (.t 33) (.c (.bool true)) (.t 49)), (some 50), none⟩, .n, []⟩])
 [0, 3, 50]
 (.cond (.t 50) (.seq (.reg [⟨.op (.mv (.c (.bool false))), (some 2), none⟩])
 [2]
 (.ret)) (.skip))))
 [0, 3]
 (.reg [⟨.op (.mv (.t 3)), (some 8), none⟩, ⟨.op (.bin .add 0 (.t 8) (.c (.int .i64 1))), (some 9), none⟩, ⟨.op (.mv (.t 9)), (some 3), none⟩]))) T st := rfl
/-- cardamom/cardamomref1.MayHeads -/
noncomputable def c34 : DFn := ⟨51, .pure,
 .seq (.reg [⟨.op (.mv (.c (.bool false))), (some 2), none⟩])
 [0]
 (.seq (.seq (.reg [⟨.op (.mv (.c (.int .i64 0))), (some 3), none⟩])
 [0, 3]
 (.block 0 (.loop [0, 3] (l34_0))))
 []
 (.seq (.reg [⟨.op (.mv (.c (.bool true))), (some 2), none⟩])
 [2]
 (.ret))),
 [.tmp 2]⟩
theorem k34 : cFn Try.prog 34 = some c34.toE := by kernel_rfl
theorem w34 : c34.body.wf = true := by kernel_rfl
/-- cardamom/cardamomref1.MayStamp -/
noncomputable def c69 : DFn := ⟨38, .pure,
 .seq (.reg [⟨.op (.box (.t 0)), (some 1), none⟩, ⟨.op (.mv (.c (.bool false))), (some 2), none⟩])
 [1]
 (.seq (.reg [⟨.op (.fa 0 (.t 1)), (some 3), none⟩, ⟨.op (.ld1 (.t 3)), (some 4), none⟩, ⟨.op (.bin .geq 0 (.t 4) (.c (.int .i64 1))), (some 5), none⟩, ⟨.op (.mv (.t 5)), (some 6), none⟩, ⟨.op (.fa 0 (.t 1)), (some 7), (some (6, true))⟩, ⟨.op (.ld1 (.t 7)), (some 8), (some (6, true))⟩, ⟨.op (.bin .leq 0 (.t 8) (.c (.int .i64 5000))), (some 9), (some (6, true))⟩, ⟨.op (.pick (.t 6) (.t 9) (.c (.bool false))), (some 10), none⟩, ⟨.op (.mv (.t 10)), (some 11), none⟩, ⟨.op (.fa 1 (.t 1)), (some 12), (some (11, true))⟩, ⟨.op (.ld1 (.t 12)), (some 13), (some (11, true))⟩, ⟨.op (.bin .geq 0 (.t 13) (.c (.int .i64 1))), (some 14), (some (11, true))⟩, ⟨.op (.pick (.t 11) (.t 14) (.c (.bool false))), (some 15), none⟩, ⟨.op (.mv (.t 15)), (some 16), none⟩, ⟨.op (.fa 1 (.t 1)), (some 17), (some (16, true))⟩, ⟨.op (.ld1 (.t 17)), (some 18), (some (16, true))⟩, ⟨.op (.bin .leq 0 (.t 18) (.c (.int .i64 5))), (some 19), (some (16, true))⟩, ⟨.op (.pick (.t 16) (.t 19) (.c (.bool false))), (some 20), none⟩, ⟨.op (.mv (.t 20)), (some 21), none⟩, ⟨.op (.fa 2 (.t 1)), (some 22), (some (21, true))⟩, ⟨.op (.ld1 (.t 22)), (some 23), (some (21, true))⟩, ⟨.op (.bin .geq 0 (.t 23) (.c (.int .i64 1))), (some 24), (some (21, true))⟩, ⟨.op (.pick (.t 21) (.t 24) (.c (.bool false))), (some 25), none⟩, ⟨.op (.mv (.t 25)), (some 26), none⟩, ⟨.op (.fa 2 (.t 1)), (some 27), (some (26, true))⟩, ⟨.op (.ld1 (.t 27)), (some 28), (some (26, true))⟩, ⟨.op (.bin .leq 0 (.t 28) (.c (.int .i64 1000))), (some 29), (some (26, true))⟩, ⟨.op (.pick (.t 26) (.t 29) (.c (.bool false))), (some 30), none⟩, ⟨.op (.mv (.t 30)), (some 31), none⟩, ⟨.op (.fa 2 (.t 1)), (some 32), (some (31, true))⟩, ⟨.op (.ld1 (.t 32)), (some 33), (some (31, true))⟩, ⟨.op (.fa 0 (.t 1)), (some 34), (some (31, true))⟩, ⟨.op (.ld1 (.t 34)), (some 35), (some (31, true))⟩, ⟨.op (.bin .leq 0 (.t 33) (.t 35)), (some 36), (some (31, true))⟩, ⟨.op (.pick (.t 31) (.t 36) (.c (.bool false))), (some 37), none⟩, ⟨.op (.mv (.t 37)), (some 2), none⟩])
 [2]
 (.ret)),
 [.tmp 2]⟩
theorem k69 : cFn Try.prog 69 = some c69.toE := by kernel_rfl
theorem w69 : c69.body.wf = true := by kernel_rfl
noncomputable def l35_0 : DC :=
 .seq (.seq (.reg [⟨.op (.mv (.t 7)), (some 22), none⟩, ⟨.op (.bin .lss 0 (.t 22) (.c (.int .i64 3))), (some 23), none⟩])
 [5, 6, 7, 23]
 (.cond (.t 23) (.skip) (.exit 0)))
 [5, 6, 7]
 (.seq (.block 1 (.seq (.seq (.drw [⟨⟨.op (.mv (.t 7)), (some 26), none⟩, .n, []⟩, ⟨⟨.op (.ia 1 (some 3) (.t 5) (.t 26)), (some 27), none⟩, .n, []⟩, ⟨⟨.op (.ld1 (.t 27)), (some 28), none⟩, .n, []⟩, ⟨⟨.op (.mv (.t 7)), (some 29), none⟩, .n, []⟩, ⟨⟨.op (.ia 1 (some 3) (.t 6) (.t 29)), (some 30), none⟩, .n, []⟩, ⟨⟨.op (.ld1 (.t 30)), (some 31), none⟩, .n, []⟩, ⟨⟨.op (.bin .lss 0 (.t 28) (.t 31)), (some 32), none⟩, .n, []⟩])
 [5, 6, 7, 32]
 (.cond (.t 32) (.seq (.reg [⟨.op (.mv (.c (.int .i64 (-1)))), (some 4), none⟩])
 [4]
 (.ret)) (.skip)))
 [5, 6, 7]
 (.seq (.drw [⟨⟨.op (.mv (.t 7)), (some 33), none⟩, .n, []⟩, ⟨⟨.op (.ia 1 (some 3) (.t 5) (.t 33)), (some 34), none⟩, .n, []⟩, ⟨⟨.op (.ld1 (.t 34)), (some 35), none⟩, .n, []⟩, ⟨⟨.op (.mv (.t 7)), (some 36), none⟩, .n, []⟩, ⟨⟨.op (.ia 1 (some 3) (.t 6) (.t 36)), (some 37), none⟩, .n, []⟩, ⟨⟨.op (.ld1 (.t 37)), (some 38), none⟩, .n, []⟩, ⟨⟨.op (.bin .gtr 0 (.t 35) (.t 38)), (some 39), none⟩, .n, []⟩])
 [5, 6, 7, 39]
 (.cond (.t 39) (.seq (.reg [⟨.op (.mv (.c (.int .i64 1))), (some 4), none⟩])
 [4]
 (.ret)) (.skip)))))
 [5, 6, 7]
 (.reg [⟨.op (.mv (.t 7)), (some 24), none⟩, ⟨.op (.bin .add 0 (.t 24) (.c (.int .i64 1))), (some 25), none⟩, ⟨.op (.mv (.t 25)), (some 7), none⟩]))
theorem u35_0 (call : DCall) (T : Tm) (st : Dv.St) : dCw Try.prog call l35_0 T st = dCw Try.prog call
 (.seq (.seq (.reg [⟨.op (.mv (.t 7)), (some 22), none⟩, ⟨.op (.bin .lss 0 (.t 22) (.c (.int .i64 3))), (some 23), none⟩])
 [5, 6, 7, 23]
 (.cond (.t 23) (.skip) (.exit 0)))
 [5, 6, 7]
 (.seq (.block 1 (.seq (.seq (.drw [⟨⟨.op (.mv (.t 7)), (some 26), none⟩, .n, []⟩, ⟨⟨.op (.ia 1 (some 3) (.t 5) (.t 26)), (some 27), none⟩, .n, []⟩, ⟨⟨.op (.ld1 (.t 27)), (some 28), none⟩, .n, []⟩, ⟨⟨.op (.mv (.t 7)), (some 29), none⟩, .n, []⟩, ⟨⟨.op (.ia 1 (some 3) (.t 6) (.t 29)), (some 30), none⟩, .n, []⟩, ⟨⟨.op (.ld1 (.t 30)), (some 31), none⟩, .n, []⟩, ⟨⟨.op (.bin .lss 0 (.t 28) (.t 31)), (some 32), none⟩, .n, []⟩])
 [5, 6, 7, 32]
 (.cond (.t 32) (.seq (.reg [⟨.op (.mv (.c (.int .i64 (-1)))), (some 4), none⟩])
 [4]
 (.ret)) (.skip)))
 [5, 6, 7]
 (.seq (.drw [⟨⟨.op (.mv (.t 7)), (some 33), none⟩, .n, []⟩, ⟨⟨.op (.ia 1 (some 3) (.t 5) (.t 33)), (some 34), none⟩, .n, []⟩, ⟨⟨.op (.ld1 (.t 34)), (some 35), none⟩, .n, []⟩, ⟨⟨.op (.mv (.t 7)), (some 36), none⟩, .n, []⟩, ⟨⟨.op (.ia 1 (some 3) (.t 6) (.t 36)), (some 37), none⟩, .n, []⟩, ⟨⟨.op (.ld1 (.t 37)), (some 38), none⟩, .n, []⟩, ⟨⟨.op (.bin .gtr 0 (.t 35) (.t 38)), (some 39), none⟩, .n, []⟩])
 [5, 6, 7, 39]
 (.cond (.t 39) (.seq (.reg [⟨.op (.mv (.c (.int .i64 1))), (some 4), none⟩])
 [4]
 (.ret)) (.skip)))))
 [5, 6, 7]
 (.reg [⟨.op (.mv (.t 7)), (some 24), none⟩, ⟨.op (.bin .add 0 (.t 24) (.c (.int .i64 1))), (some 25), none⟩, ⟨.op (.mv (.t 25)), (some 7), none⟩]))) T st := rfl
/-- cardamom/cardamomref1.Compare -/
noncomputable def c35 : DFn := ⟨40, .pure,
 .seq (.reg [⟨.op (.box (.t 0)), (some 2), none⟩, ⟨.op (.box (.t 1)), (some 3), none⟩, ⟨.op (.mv (.c (.int .i64 0))), (some 4), none⟩])
 [2, 3]
 (.seq (.drw [⟨⟨.op (.fa 0 (.t 2)), (some 8), none⟩, .n, []⟩, ⟨⟨.op (.ld1 (.t 8)), (some 9), none⟩, .n, []⟩, ⟨⟨.op (.fa 1 (.t 2)), (some 10), none⟩, .n, []⟩, ⟨⟨.op (.ld1 (.t 10)), (some 11), none⟩, .n, []⟩, ⟨⟨.op (.fa 2 (.t 2)), (some 12), none⟩, .n, []⟩, ⟨⟨.op (.ld1 (.t 12)), (some 13), none⟩, .n, []⟩, ⟨⟨.op (.build [(.int .i64 0), (.int .i64 0), (.int .i64 0)] [(0, 1, (.t 9)), (1, 1, (.t 11)), (2, 1, (.t 13))]), (some 14), none⟩, .n, []⟩, ⟨⟨.op (.fa 0 (.t 3)), (some 15), none⟩, .n, []⟩, ⟨⟨.op (.ld1 (.t 15)), (some 16), none⟩, .n, []⟩, ⟨⟨.op (.fa 1 (.t 3)), (some 17), none⟩, .n, []⟩, ⟨⟨.op (.ld1 (.t 17)), (some 18), none⟩, .n, []⟩, ⟨⟨.op (.fa 2 (.t 3)), (some 19), none⟩, .n, []⟩, ⟨⟨.op (.ld1 (.t 19)), (some 20), none⟩, .n, []⟩, ⟨⟨.op (.build [(.int .i64 0), (.int .i64 0), (.int .i64 0)] [(0, 1, (.t 16)), (1, 1, (.t 18)), (2, 1, (.t 20))]), (some 21), none⟩, .n, []⟩, ⟨⟨.op (.new [(.int .i64 0), (.int .i64 0), (.int .i64 0)]), (some 5), none⟩, .a, [(true, 12), (true, 10), (true, 8), (true, 5), (true, 3), (true, 1)]⟩, ⟨⟨.op (.new [(.int .i64 0), (.int .i64 0), (.int .i64 0)]), (some 6), none⟩, .a, [(true, 12), (true, 10), (true, 8), (true, 5), (true, 3), (true, 1)]⟩, ⟨⟨.op (.st 3 (.t 5) (.t 14)), none, none⟩, .x, [(true, 12), (true, 10), (true, 8)]⟩, ⟨⟨.op (.st 3 (.t 6) (.t 21)), none, none⟩, .x, []⟩])
 [5, 6]
 (.seq (.seq (.reg [⟨.op (.mv (.c (.int .i64 0))), (some 7), none⟩])
 [5, 6, 7]
 (.block 0 (.loop [5, 6, 7] (l35_0))))
 []
 (.seq (.reg [⟨.op (.mv (.c (.int .i64 0))), (some 4), none⟩])
 [4]
 (.ret)))),
 [.tmp 4]⟩
theorem k35 : cFn Try.prog 35 = some c35.toE := by kernel_rfl
theorem w35 : c35.body.wf = true := by kernel_rfl
noncomputable def l36_0 : DC :=
 .seq (.seq (.reg [⟨.op (.mv (.t 6)), (some 10), none⟩, ⟨.op (.mv (.t 1)), (some 11), none⟩, ⟨.op (.len (.t 11)), (some 12), none⟩, ⟨.op (.bin .lss 0 (.t 10) (.t 12)), (some 13), none⟩])
 [1, 5, 6, 13]
 (.cond (.t 13) (.skip) (.exit 0)))
 [1, 5, 6]
 (.seq (.block 1 (.reg [⟨.op (.mv (.t 5)), (some 16), none⟩, ⟨.op (.mv (.t 1)), (some 17), none⟩, ⟨.op (.mv (.t 6)), (some 18), none⟩, ⟨.op (.ia 4 none (.t 17) (.t 18)), (some 19), none⟩, ⟨.op (.ldn 4 (.t 19)), (some 20), none⟩, ⟨.call 46 [(.t 16), (.t 20)], (some 21), none⟩, ⟨.op (.mv (.t 21)), (some 5), none⟩]))
 [1, 5, 6]
 (.reg [⟨.op (.mv (.t 6)), (some 14), none⟩, ⟨.op (.bin .add 0 (.t 14) (.c (.int .i64 1))), (some 15), none⟩, ⟨.op (.mv (.t 15)), (some 6), none⟩]))
theorem u36_0 (call : DCall) (T : Tm) (st : Dv.St) : dCw Try.prog call l36_0 T st = dCw Try.prog call
 (.seq (.seq (.reg [⟨.op (.mv (.t 6)), (some 10), none⟩, ⟨.op (.mv (.t 1)), (some 11), none⟩, ⟨.op (.len (.t 11)), (some 12), none⟩, ⟨.op (.bin .lss 0 (.t 10) (.t 12)), (some 13), none⟩])
 [1, 5, 6, 13]
 (.cond (.t 13) (.skip) (.exit 0)))
 [1, 5, 6]
 (.seq (.block 1 (.reg [⟨.op (.mv (.t 5)), (some 16), none⟩, ⟨.op (.mv (.t 1)), (some 17), none⟩, ⟨.op (.mv (.t 6)), (some 18), none⟩, ⟨.op (.ia 4 none (.t 17) (.t 18)), (some 19), none⟩, ⟨.op (.ldn 4 (.t 19)), (some 20), none⟩, ⟨.call 46 [(.t 16), (.t 20)], (some 21), none⟩, ⟨.op (.mv (.t 21)), (some 5), none⟩]))
 [1, 5, 6]
 (.reg [⟨.op (.mv (.t 6)), (some 14), none⟩, ⟨.op (.bin .add 0 (.t 14) (.c (.int .i64 1))), (some 15), none⟩, ⟨.op (.mv (.t 15)), (some 6), none⟩]))) T st := rfl
/-- cardamom/cardamomref1.Most -/
noncomputable def c36 : DFn := ⟨23, .pure,
 .seq (.reg [⟨.op (.mv (.c (.sl none 0))), (some 4), none⟩])
 [0, 1]
 (.seq (.reg [⟨.op (.bslice 4 0 [] []), (some 7), none⟩, ⟨.op (.mv (.t 0)), (some 8), none⟩, ⟨.op (.app 4 32 false (.t 7) (.t 8)), (some 9), none⟩, ⟨.op (.mv (.t 9)), (some 5), none⟩])
 [1, 5]
 (.seq (.seq (.reg [⟨.op (.mv (.c (.int .i64 0))), (some 6), none⟩])
 [1, 5, 6]
 (.block 0 (.loop [1, 5, 6] (l36_0))))
 [5]
 (.seq (.reg [⟨.op (.mv (.t 5)), (some 22), none⟩, ⟨.op (.mv (.t 22)), (some 4), none⟩])
 [4]
 (.ret)))),
 [.tmp 4]⟩
theorem k36 : cFn Try.prog 36 = some c36.toE := by kernel_rfl
theorem w36 : c36.body.wf = true := by kernel_rfl
noncomputable def l43_0 : DC :=
 .seq (.seq (.reg [⟨.op (.mv (.t 5)), (some 6), none⟩, ⟨.op (.mv (.t 0)), (some 7), none⟩, ⟨.op (.len (.t 7)), (some 8), none⟩, ⟨.op (.bin .lss 0 (.t 6) (.t 8)), (some 9), none⟩])
 [0, 1, 4, 5, 9]
 (.cond (.t 9) (.skip) (.exit 0)))
 [0, 1, 4, 5]
 (.seq (.block 1 (.seq (.reg [⟨.op (.mv (.t 0)), (some 12), none⟩, ⟨.op (.mv (.t 5)), (some 13), none⟩, ⟨.op (.ia 4 none (.t 12) (.t 13)), (some 14), none⟩, ⟨.op (.fa 0 (.t 14)), (some 15), none⟩, ⟨.op (.ld1 (.t 15)), (some 16), none⟩, ⟨.op (.mv (.t 1)), (some 17), none⟩, ⟨.op (.bin .eql 0 (.t 16) (.t 17)), (some 18), none⟩])
 [0, 1, 4, 5, 18]
 (.cond (.t 18) (.seq (.reg [⟨.op (.mv (.t 0)), (some 19), none⟩, ⟨.op (.mv (.t 5)), (some 20), none⟩, ⟨.op (.ia 4 none (.t 19) (.t 20)), (some 21), none⟩, ⟨.op (.fa 1 (.t 21)), (some 22), none⟩, ⟨.op (.ldn 3 (.t 22)), (some 23), none⟩, ⟨.op (.st 3 (.t 4) (.t 23)), none, none⟩])
 [4]
 (.ret)) (.skip))))
 [0, 1, 4, 5]
 (.reg [⟨.op (.mv (.t 5)), (some 10), none⟩, ⟨.op (.bin .add 0 (.t 10) (.c (.int .i64 1))), (some 11), none⟩, ⟨.op (.mv (.t 11)), (some 5), none⟩]))
theorem u43_0 (call : DCall) (T : Tm) (st : Dv.St) : dCw Try.prog call l43_0 T st = dCw Try.prog call
 (.seq (.seq (.reg [⟨.op (.mv (.t 5)), (some 6), none⟩, ⟨.op (.mv (.t 0)), (some 7), none⟩, ⟨.op (.len (.t 7)), (some 8), none⟩, ⟨.op (.bin .lss 0 (.t 6) (.t 8)), (some 9), none⟩])
 [0, 1, 4, 5, 9]
 (.cond (.t 9) (.skip) (.exit 0)))
 [0, 1, 4, 5]
 (.seq (.block 1 (.seq (.reg [⟨.op (.mv (.t 0)), (some 12), none⟩, ⟨.op (.mv (.t 5)), (some 13), none⟩, ⟨.op (.ia 4 none (.t 12) (.t 13)), (some 14), none⟩, ⟨.op (.fa 0 (.t 14)), (some 15), none⟩, ⟨.op (.ld1 (.t 15)), (some 16), none⟩, ⟨.op (.mv (.t 1)), (some 17), none⟩, ⟨.op (.bin .eql 0 (.t 16) (.t 17)), (some 18), none⟩])
 [0, 1, 4, 5, 18]
 (.cond (.t 18) (.seq (.reg [⟨.op (.mv (.t 0)), (some 19), none⟩, ⟨.op (.mv (.t 5)), (some 20), none⟩, ⟨.op (.ia 4 none (.t 19) (.t 20)), (some 21), none⟩, ⟨.op (.fa 1 (.t 21)), (some 22), none⟩, ⟨.op (.ldn 3 (.t 22)), (some 23), none⟩, ⟨.op (.st 3 (.t 4) (.t 23)), none, none⟩])
 [4]
 (.ret)) (.skip))))
 [0, 1, 4, 5]
 (.reg [⟨.op (.mv (.t 5)), (some 10), none⟩, ⟨.op (.bin .add 0 (.t 10) (.c (.int .i64 1))), (some 11), none⟩, ⟨.op (.mv (.t 11)), (some 5), none⟩]))) T st := rfl
/-- cardamom/cardamomref1.At -/
noncomputable def c43 : DFn := ⟨25, .pure,
 .seq (.reg [⟨.op (.new [(.int .i64 0), (.int .i64 0), (.int .i64 0)]), (some 4), none⟩])
 [0, 1, 4]
 (.seq (.seq (.reg [⟨.op (.mv (.c (.int .i64 0))), (some 5), none⟩])
 [0, 1, 4, 5]
 (.block 0 (.loop [0, 1, 4, 5] (l43_0))))
 [4]
 (.seq (.reg [⟨.op (.build [(.int .i64 0), (.int .i64 0), (.int .i64 0)] []), (some 24), none⟩, ⟨.op (.st 3 (.t 4) (.t 24)), none, none⟩])
 [4]
 (.ret))),
 [.celln 3 4]⟩
theorem k43 : cFn Try.prog 43 = some c43.toE := by kernel_rfl
theorem w43 : c43.body.wf = true := by kernel_rfl
noncomputable def l46_0 : DC :=
 .seq (.seq (.reg [⟨.op (.mv (.t 7)), (some 19), none⟩, ⟨.op (.mv (.t 0)), (some 20), none⟩, ⟨.op (.len (.t 20)), (some 21), none⟩, ⟨.op (.bin .lss 0 (.t 19) (.t 21)), (some 22), none⟩])
 [0, 3, 5, 6, 7, 22]
 (.cond (.t 22) (.skip) (.exit 0)))
 [0, 3, 5, 6, 7]
 (.seq (.block 1 (.seq (.seq (.drw [⟨⟨.op (.mv (.t 6)), (some 25), none⟩, .n, []⟩, ⟨⟨.op (.not (.t 25)), (some 26), none⟩, .n, []⟩, ⟨⟨.op (.mv (.t 26)), (some 27), none⟩, .n, []⟩, ⟨⟨.op (.mv (.t 0)), (some 28), (some (27, true))⟩, .n, []⟩, ⟨⟨.op (.mv (.t 7)), (some 29), (some (27, true))⟩, .n, []⟩, ⟨⟨.op (.ia 4 none (.t 28) (.t 29)), (some 30), (some (27, true))⟩, .n, []⟩, ⟨⟨.op (.fa 0 (.t 30)), (some 31), (some (27, true))⟩, .n, []⟩, ⟨⟨.op (.ld1 (.t 31)), (some 32), (some (27, true))⟩, .n, []⟩, ⟨⟨.op (.fa 0 (.t 3)), (some 33), (some (27, true))⟩, .n, []⟩, ⟨⟨.op (.ld1 (.t 33)), (some 34), (some (27, true))⟩, .n, []⟩, ⟨⟨.op (.bin .geq 0 (.t 32) (.t 34)), (some 35), (some (27, true))⟩, .n, []⟩, ⟨⟨.op (.pick (.t 27) (.t 35) (.c (.bool false))), (some 36), none⟩, .n, []⟩])
 [0, 3, 5, 6, 7, 36]
 (.cond (.t 36) (.reg [⟨.op (.mv (.t 5)), (some 37), none⟩, ⟨.op (.ldn 4 (.t 3)), (some 38), none⟩, ⟨.op (.bslice 4 1 [(.int .i64 0), (.int .i64 0), (.int .i64 0), (.int .i64 0)] [(0, 4, (.t 38))]), (some 39), none⟩, ⟨.op (.app 4 32 false (.t 37) (.t 39)), (some 40), none⟩, ⟨.op (.mv (.t 40)), (some 5), none⟩, ⟨.op (.mv (.c (.bool true))), (some 6), none⟩]) (.skip)))
 [0, 3, 5, 6, 7]
 (.seq (.drw [⟨⟨.op (.mv (.t 0)), (some 41), none⟩, .n, []⟩, ⟨⟨.op (.mv (.t 7)), (some 42), none⟩, .n, []⟩, ⟨⟨.op (.ia 4 none (.t 41) (.t 42)), (some 43), none⟩, .n, []⟩, ⟨⟨.op (.fa 0 (.t 43)), (some 44), none⟩, .n, []⟩, ⟨⟨.op (.ld1 (.t 44)), (some 45), none⟩, .n, []⟩, ⟨⟨.op (.fa 0 (.t 3)), (some 46), none⟩, .n, []⟩, ⟨⟨.op (.ld1 (.t 46)), (some 47), none⟩, .n, []⟩, ⟨⟨.op (.bin .neq 0 (.t 45) (.t 47)), (some 48), none⟩, .n, []⟩])
 [0, 3, 5, 6, 7, 48]
 (.cond (.t 48) (.reg [⟨.op (.mv (.t 5)), (some 49), none⟩, ⟨.op (.mv (.t 0)), (some 50), none⟩, ⟨.op (.mv (.t 7)), (some 51), none⟩, ⟨.op (.ia 4 none (.t 50) (.t 51)), (some 52), none⟩, ⟨.op (.ldn 4 (.t 52)), (some 53), none⟩, ⟨.op (.bslice 4 1 [(.int .i64 0), (.int .i64 0), (.int .i64 0), (.int .i64 0)] [(0, 4, (.t 53))]), (some 54), none⟩, ⟨.op (.app 4 32 false (.t 49) (.t 54)), (some 55), none⟩, ⟨.op (.mv (.t 55)), (some 5), none⟩]) (.skip)))))
 [0, 3, 5, 6, 7]
 (.reg [⟨.op (.mv (.t 7)), (some 23), none⟩, ⟨.op (.bin .add 0 (.t 23) (.c (.int .i64 1))), (some 24), none⟩, ⟨.op (.mv (.t 24)), (some 7), none⟩]))
theorem u46_0 (call : DCall) (T : Tm) (st : Dv.St) : dCw Try.prog call l46_0 T st = dCw Try.prog call
 (.seq (.seq (.reg [⟨.op (.mv (.t 7)), (some 19), none⟩, ⟨.op (.mv (.t 0)), (some 20), none⟩, ⟨.op (.len (.t 20)), (some 21), none⟩, ⟨.op (.bin .lss 0 (.t 19) (.t 21)), (some 22), none⟩])
 [0, 3, 5, 6, 7, 22]
 (.cond (.t 22) (.skip) (.exit 0)))
 [0, 3, 5, 6, 7]
 (.seq (.block 1 (.seq (.seq (.drw [⟨⟨.op (.mv (.t 6)), (some 25), none⟩, .n, []⟩, ⟨⟨.op (.not (.t 25)), (some 26), none⟩, .n, []⟩, ⟨⟨.op (.mv (.t 26)), (some 27), none⟩, .n, []⟩, ⟨⟨.op (.mv (.t 0)), (some 28), (some (27, true))⟩, .n, []⟩, ⟨⟨.op (.mv (.t 7)), (some 29), (some (27, true))⟩, .n, []⟩, ⟨⟨.op (.ia 4 none (.t 28) (.t 29)), (some 30), (some (27, true))⟩, .n, []⟩, ⟨⟨.op (.fa 0 (.t 30)), (some 31), (some (27, true))⟩, .n, []⟩, ⟨⟨.op (.ld1 (.t 31)), (some 32), (some (27, true))⟩, .n, []⟩, ⟨⟨.op (.fa 0 (.t 3)), (some 33), (some (27, true))⟩, .n, []⟩, ⟨⟨.op (.ld1 (.t 33)), (some 34), (some (27, true))⟩, .n, []⟩, ⟨⟨.op (.bin .geq 0 (.t 32) (.t 34)), (some 35), (some (27, true))⟩, .n, []⟩, ⟨⟨.op (.pick (.t 27) (.t 35) (.c (.bool false))), (some 36), none⟩, .n, []⟩])
 [0, 3, 5, 6, 7, 36]
 (.cond (.t 36) (.reg [⟨.op (.mv (.t 5)), (some 37), none⟩, ⟨.op (.ldn 4 (.t 3)), (some 38), none⟩, ⟨.op (.bslice 4 1 [(.int .i64 0), (.int .i64 0), (.int .i64 0), (.int .i64 0)] [(0, 4, (.t 38))]), (some 39), none⟩, ⟨.op (.app 4 32 false (.t 37) (.t 39)), (some 40), none⟩, ⟨.op (.mv (.t 40)), (some 5), none⟩, ⟨.op (.mv (.c (.bool true))), (some 6), none⟩]) (.skip)))
 [0, 3, 5, 6, 7]
 (.seq (.drw [⟨⟨.op (.mv (.t 0)), (some 41), none⟩, .n, []⟩, ⟨⟨.op (.mv (.t 7)), (some 42), none⟩, .n, []⟩, ⟨⟨.op (.ia 4 none (.t 41) (.t 42)), (some 43), none⟩, .n, []⟩, ⟨⟨.op (.fa 0 (.t 43)), (some 44), none⟩, .n, []⟩, ⟨⟨.op (.ld1 (.t 44)), (some 45), none⟩, .n, []⟩, ⟨⟨.op (.fa 0 (.t 3)), (some 46), none⟩, .n, []⟩, ⟨⟨.op (.ld1 (.t 46)), (some 47), none⟩, .n, []⟩, ⟨⟨.op (.bin .neq 0 (.t 45) (.t 47)), (some 48), none⟩, .n, []⟩])
 [0, 3, 5, 6, 7, 48]
 (.cond (.t 48) (.reg [⟨.op (.mv (.t 5)), (some 49), none⟩, ⟨.op (.mv (.t 0)), (some 50), none⟩, ⟨.op (.mv (.t 7)), (some 51), none⟩, ⟨.op (.ia 4 none (.t 50) (.t 51)), (some 52), none⟩, ⟨.op (.ldn 4 (.t 52)), (some 53), none⟩, ⟨.op (.bslice 4 1 [(.int .i64 0), (.int .i64 0), (.int .i64 0), (.int .i64 0)] [(0, 4, (.t 53))]), (some 54), none⟩, ⟨.op (.app 4 32 false (.t 49) (.t 54)), (some 55), none⟩, ⟨.op (.mv (.t 55)), (some 5), none⟩]) (.skip)))))
 [0, 3, 5, 6, 7]
 (.reg [⟨.op (.mv (.t 7)), (some 23), none⟩, ⟨.op (.bin .add 0 (.t 23) (.c (.int .i64 1))), (some 24), none⟩, ⟨.op (.mv (.t 24)), (some 7), none⟩]))) T st := rfl
/-- cardamom/cardamomref1.PutHead -/
noncomputable def c46 : DFn := ⟨63, .pure,
 .seq (.reg [⟨.op (.box (.t 1)), (some 3), none⟩, ⟨.op (.mv (.c (.sl none 0))), (some 4), none⟩])
 [0, 3]
 (.seq (.seq (.drw [⟨⟨.op (.fa 1 (.t 3)), (some 8), none⟩, .n, []⟩, ⟨⟨.op (.ldn 3 (.t 8)), (some 9), none⟩, .n, []⟩, ⟨⟨.op (.mv (.t 0)), (some 10), none⟩, .n, []⟩, ⟨⟨.op (.fa 0 (.t 3)), (some 11), none⟩, .n, []⟩, ⟨⟨.op (.ld1 (.t 11)), (some 12), none⟩, .n, []⟩, ⟨⟨.call 43 [(.t 10), (.t 12)], (some 13), none⟩, .x, [(true, 1)]⟩, ⟨⟨.call 35 [(.t 9), (.t 13)], (some 14), none⟩, .x, []⟩, ⟨⟨.op (.bin .leq 0 (.t 14) (.c (.int .i64 0))), (some 15), none⟩, .n, []⟩])
 [0, 3, 15]
 (.cond (.t 15) (.seq (.reg [⟨.op (.bslice 4 0 [] []), (some 16), none⟩, ⟨.op (.mv (.t 0)), (some 17), none⟩, ⟨.op (.app 4 32 false (.t 16) (.t 17)), (some 18), none⟩, ⟨.op (.mv (.t 18)), (some 4), none⟩])
 [4]
 (.ret)) (.skip)))
 [0, 3]
 (.seq (.reg [⟨.op (.mv (.c (.sl none 0))), (some 5), none⟩])
 [0, 3, 5]
 (.seq (.reg [⟨.op (.mv (.c (.bool false))), (some 6), none⟩])
 [0, 3, 5, 6]
 (.seq (.seq (.reg [⟨.op (.mv (.c (.int .i64 0))), (some 7), none⟩])
 [0, 3, 5, 6, 7]
 (.block 0 (.loop [0, 3, 5, 6, 7] (l46_0))))
 [3, 5, 6]
 (.seq (.seq (.reg [⟨.op (.mv (.t 6)), (some 56), none⟩, ⟨.op (.not (.t 56)), (some 57), none⟩])
 [3, 5, 57]
 (.cond (.t 57) (.reg [⟨.op (.mv (.t 5)), (some 58), none⟩, ⟨.op (.ldn 4 (.t 3)), (some 59), none⟩, ⟨.op (.bslice 4 1 [(.int .i64 0), (.int .i64 0), (.int .i64 0), (.int .i64 0)] [(0, 4, (.t 59))]), (some 60), none⟩, ⟨.op (.app 4 32 false (.t 58) (.t 60)), (some 61), none⟩, ⟨.op (.mv (.t 61)), (some 5), none⟩]) (.skip)))
 [5]
 (.seq (.reg [⟨.op (.mv (.t 5)), (some 62), none⟩, ⟨.op (.mv (.t 62)), (some 4), none⟩])
 [4]
 (.ret))))))),
 [.tmp 4]⟩
theorem k46 : cFn Try.prog 46 = some c46.toE := by kernel_rfl
theorem w46 : c46.body.wf = true := by kernel_rfl
noncomputable def l99_0 : DC :=
 .seq (.seq (.reg [⟨.op (.mv (.t 9)), (some 15), none⟩, ⟨.op (.mv (.t 10)), (some 16), none⟩, ⟨.op (.bin .lss 0 (.t 15) (.t 16)), (some 17), none⟩])
 [0, 1, 2, 8, 9, 10, 17]
 (.cond (.t 17) (.skip) (.exit 0)))
 [0, 1, 2, 8, 9, 10]
 (.block 1 (.seq (.reg [⟨.op (.mv (.t 9)), (some 18), none⟩, ⟨.op (.mv (.t 10)), (some 19), none⟩, ⟨.op (.bin .add 0 (.t 18) (.t 19)), (some 20), none⟩, ⟨.op (.conv .u64 (.t 20)), (some 21), none⟩, ⟨.op (.slow (operAt Try.prog 99 15)), (some 22), none⟩, ⟨.op (.conv .i64 (.t 22)), (some 23), none⟩, ⟨.op (.mv (.t 23)), (some 11), none⟩])
 [0, 1, 2, 8, 9, 10, 11]
 (.seq (.reg [⟨.op (.mv (.t 2)), (some 24), none⟩, ⟨.op (.mv (.t 0)), (some 25), none⟩, ⟨.op (.mv (.t 11)), (some 26), none⟩, ⟨.op (.ia 4 none (.t 25) (.t 26)), (some 27), none⟩, ⟨.op (.ldn 4 (.t 27)), (some 28), none⟩, ⟨.op (.mv (.t 1)), (some 29), none⟩, ⟨.callv (.t 24) [(.t 28), (.t 29)], (some 30), none⟩, ⟨.op (.bin .lss 0 (.t 30) (.c (.int .i64 0))), (some 31), none⟩])
 [0, 1, 2, 8, 9, 10, 11, 31]
 (.cond (.t 31) (.reg [⟨.op (.mv (.t 11)), (some 32), none⟩, ⟨.op (.bin .add 0 (.t 32) (.c (.int .i64 1))), (some 33), none⟩, ⟨.op (.mv (.t 33)), (some 9), none⟩]) (.reg [⟨.op (.mv (.t 11)), (some 34), none⟩, ⟨.op (.mv (.t 34)), (some 10), none⟩])))))
theorem u99_0 (call : DCall) (T : Tm) (st : Dv.St) : dCw Try.prog call l99_0 T st = dCw Try.prog call
 (.seq (.seq (.reg [⟨.op (.mv (.t 9)), (some 15), none⟩, ⟨.op (.mv (.t 10)), (some 16), none⟩, ⟨.op (.bin .lss 0 (.t 15) (.t 16)), (some 17), none⟩])
 [0, 1, 2, 8, 9, 10, 17]
 (.cond (.t 17) (.skip) (.exit 0)))
 [0, 1, 2, 8, 9, 10]
 (.block 1 (.seq (.reg [⟨.op (.mv (.t 9)), (some 18), none⟩, ⟨.op (.mv (.t 10)), (some 19), none⟩, ⟨.op (.bin .add 0 (.t 18) (.t 19)), (some 20), none⟩, ⟨.op (.conv .u64 (.t 20)), (some 21), none⟩, ⟨.op (.slow (operAt Try.prog 99 15)), (some 22), none⟩, ⟨.op (.conv .i64 (.t 22)), (some 23), none⟩, ⟨.op (.mv (.t 23)), (some 11), none⟩])
 [0, 1, 2, 8, 9, 10, 11]
 (.seq (.reg [⟨.op (.mv (.t 2)), (some 24), none⟩, ⟨.op (.mv (.t 0)), (some 25), none⟩, ⟨.op (.mv (.t 11)), (some 26), none⟩, ⟨.op (.ia 4 none (.t 25) (.t 26)), (some 27), none⟩, ⟨.op (.ldn 4 (.t 27)), (some 28), none⟩, ⟨.op (.mv (.t 1)), (some 29), none⟩, ⟨.callv (.t 24) [(.t 28), (.t 29)], (some 30), none⟩, ⟨.op (.bin .lss 0 (.t 30) (.c (.int .i64 0))), (some 31), none⟩])
 [0, 1, 2, 8, 9, 10, 11, 31]
 (.cond (.t 31) (.reg [⟨.op (.mv (.t 11)), (some 32), none⟩, ⟨.op (.bin .add 0 (.t 32) (.c (.int .i64 1))), (some 33), none⟩, ⟨.op (.mv (.t 33)), (some 9), none⟩]) (.reg [⟨.op (.mv (.t 11)), (some 34), none⟩, ⟨.op (.mv (.t 34)), (some 10), none⟩])))))) T st := rfl
/-- slices.BinarySearchFunc[[]cardamom/api.Head,cardamom/api.Head,int] -/
noncomputable def c99 : DFn := ⟨49, .pure,
 .seq (.reg [⟨.op (.mv (.c (.int .i64 0))), (some 6), none⟩, ⟨.op (.mv (.c (.bool false))), (some 7), none⟩])
 [0, 1, 2]
 (.seq (.reg [⟨.op (.mv (.t 0)), (some 12), none⟩, ⟨.op (.len (.t 12)), (some 13), none⟩, ⟨.op (.mv (.t 13)), (some 8), none⟩])
 [0, 1, 2, 8]
 (.seq (.reg [⟨.op (.mv (.t 8)), (some 14), none⟩, ⟨.op (.mv (.c (.int .i64 0))), (some 9), none⟩, ⟨.op (.mv (.t 14)), (some 10), none⟩])
 [0, 1, 2, 8, 9, 10]
 (.seq (.block 0 (.loop [0, 1, 2, 8, 9, 10] (l99_0)))
 [0, 1, 2, 8, 9]
 (.seq (.reg [⟨.op (.mv (.t 9)), (some 35), none⟩, ⟨.op (.mv (.t 9)), (some 36), none⟩, ⟨.op (.mv (.t 8)), (some 37), none⟩, ⟨.op (.bin .lss 0 (.t 36) (.t 37)), (some 38), none⟩, ⟨.op (.mv (.t 38)), (some 39), none⟩, ⟨.op (.mv (.t 2)), (some 40), (some (39, true))⟩, ⟨.op (.mv (.t 0)), (some 41), (some (39, true))⟩, ⟨.op (.mv (.t 9)), (some 42), (some (39, true))⟩, ⟨.op (.ia 4 none (.t 41) (.t 42)), (some 43), (some (39, true))⟩, ⟨.op (.ldn 4 (.t 43)), (some 44), (some (39, true))⟩, ⟨.op (.mv (.t 1)), (some 45), (some (39, true))⟩, ⟨.callv (.t 40) [(.t 44), (.t 45)], (some 46), (some (39, true))⟩, ⟨.op (.bin .eql 0 (.t 46) (.c (.int .i64 0))), (some 47), (some (39, true))⟩, ⟨.op (.pick (.t 39) (.t 47) (.c (.bool false))), (some 48), none⟩, ⟨.op (.mv (.t 35)), (some 6), none⟩, ⟨.op (.mv (.t 48)), (some 7), none⟩])
 [6, 7]
 (.ret))))),
 [.tmp 6, .tmp 7]⟩
theorem k99 : cFn Try.prog 99 = some c99.toE := by kernel_rfl
theorem w99 : c99.body.wf = true := by kernel_rfl
/-- slices.Clone[[]cardamom/api.Head,cardamom/api.Head] -/
noncomputable def c76 : DFn := ⟨8, .pure,
 .seq (.reg [⟨.op (.mv (.c (.sl none 0))), (some 2), none⟩])
 [0]
 (.seq (.seq (.reg [⟨.op (.mv (.t 0)), (some 3), none⟩, ⟨.op (.bin .eql 1 (.t 3) (.c (.sl none 0))), (some 4), none⟩])
 [0, 4]
 (.cond (.t 4) (.seq (.reg [⟨.op (.mv (.c (.sl none 0))), (some 2), none⟩])
 [2]
 (.ret)) (.skip)))
 [0]
 (.seq (.reg [⟨.op (.bslice 4 0 [] []), (some 5), none⟩, ⟨.op (.mv (.t 0)), (some 6), none⟩, ⟨.op (.app 4 32 false (.t 5) (.t 6)), (some 7), none⟩, ⟨.op (.mv (.t 7)), (some 2), none⟩])
 [2]
 (.ret))),
 [.tmp 2]⟩
theorem k76 : cFn Try.prog 76 = some c76.toE := by kernel_rfl
theorem w76 : c76.body.wf = true := by kernel_rfl
/-- slices.ContainsFunc[[]cardamom/api.Head,cardamom/api.Head] -/
noncomputable def c73 : DFn := ⟨9, .pure,
 .seq (.reg [⟨.op (.mv (.c (.bool false))), (some 4), none⟩])
 [0, 1]
 (.seq (.reg [⟨.op (.mv (.t 0)), (some 5), none⟩, ⟨.op (.mv (.t 1)), (some 6), none⟩, ⟨.call 101 [(.t 5), (.t 6)], (some 7), none⟩, ⟨.op (.bin .geq 0 (.t 7) (.c (.int .i64 0))), (some 8), none⟩, ⟨.op (.mv (.t 8)), (some 4), none⟩])
 [4]
 (.ret)),
 [.tmp 4]⟩
theorem k73 : cFn Try.prog 73 = some c73.toE := by kernel_rfl
theorem w73 : c73.body.wf = true := by kernel_rfl
noncomputable def l101_0 : DC :=
 .seq (.reg [⟨.op (.bin .lss 0 (.t 8) (.t 7)), (some 9), none⟩])
 [0, 1, 7, 8, 9]
 (.seq (.cond (.t 9) (.skip) (.exit 0))
 [0, 1, 7, 8]
 (.seq (.block 1 (.seq (.reg [⟨.op (.mv (.t 8)), (some 10), none⟩, ⟨.op (.mv (.t 10)), (some 5), none⟩])
 [0, 1, 5, 7, 8]
 (.seq (.reg [⟨.op (.mv (.t 1)), (some 11), none⟩, ⟨.op (.mv (.t 0)), (some 12), none⟩, ⟨.op (.mv (.t 5)), (some 13), none⟩, ⟨.op (.ia 4 none (.t 12) (.t 13)), (some 14), none⟩, ⟨.op (.ldn 4 (.t 14)), (some 15), none⟩, ⟨.callv (.t 11) [(.t 15)], (some 16), none⟩])
 [0, 1, 5, 7, 8, 16]
 (.cond (.t 16) (.seq (.reg [⟨.op (.mv (.t 5)), (some 17), none⟩, ⟨.op (.mv (.t 17)), (some 4), none⟩])
 [4]
 (.ret)) (.skip)))))
 [0, 1, 7, 8]
 (.reg [⟨.op (.bin .add 0 (.t 8) (.c (.int .i64 1))), (some 18), none⟩, ⟨.op (.mv (.t 18)), (some 8), none⟩])))
theorem u101_0 (call : DCall) (T : Tm) (st : Dv.St) : dCw Try.prog call l101_0 T st = dCw Try.prog call
 (.seq (.reg [⟨.op (.bin .lss 0 (.t 8) (.t 7)), (some 9), none⟩])
 [0, 1, 7, 8, 9]
 (.seq (.cond (.t 9) (.skip) (.exit 0))
 [0, 1, 7, 8]
 (.seq (.block 1 (.seq (.reg [⟨.op (.mv (.t 8)), (some 10), none⟩, ⟨.op (.mv (.t 10)), (some 5), none⟩])
 [0, 1, 5, 7, 8]
 (.seq (.reg [⟨.op (.mv (.t 1)), (some 11), none⟩, ⟨.op (.mv (.t 0)), (some 12), none⟩, ⟨.op (.mv (.t 5)), (some 13), none⟩, ⟨.op (.ia 4 none (.t 12) (.t 13)), (some 14), none⟩, ⟨.op (.ldn 4 (.t 14)), (some 15), none⟩, ⟨.callv (.t 11) [(.t 15)], (some 16), none⟩])
 [0, 1, 5, 7, 8, 16]
 (.cond (.t 16) (.seq (.reg [⟨.op (.mv (.t 5)), (some 17), none⟩, ⟨.op (.mv (.t 17)), (some 4), none⟩])
 [4]
 (.ret)) (.skip)))))
 [0, 1, 7, 8]
 (.reg [⟨.op (.bin .add 0 (.t 8) (.c (.int .i64 1))), (some 18), none⟩, ⟨.op (.mv (.t 18)), (some 8), none⟩])))) T st := rfl
/-- slices.IndexFunc[[]cardamom/api.Head,cardamom/api.Head] -/
noncomputable def c101 : DFn := ⟨19, .pure,
 .seq (.reg [⟨.op (.mv (.c (.int .i64 0))), (some 4), none⟩])
 [0, 1]
 (.seq (.seq (.reg [⟨.op (.mv (.t 0)), (some 6), none⟩, ⟨.op (.len (.t 6)), (some 7), none⟩, ⟨.op (.mv (.c (.int .i64 0))), (some 8), none⟩])
 [0, 1, 7, 8]
 (.block 0 (.loop [0, 1, 7, 8] (l101_0))))
 []
 (.seq (.reg [⟨.op (.mv (.c (.int .i64 (-1)))), (some 4), none⟩])
 [4]
 (.ret))),
 [.tmp 4]⟩
theorem k101 : cFn Try.prog 101 = some c101.toE := by kernel_rfl
theorem w101 : c101.body.wf = true := by kernel_rfl
/-- cardamom/seen.May -/
noncomputable def c41 : DFn := ⟨9, .pure,
 .seq (.reg [⟨.op (.mv (.c (.bool false))), (some 2), none⟩])
 [0]
 (.seq (.reg [⟨.op (.mv (.t 0)), (some 3), none⟩, ⟨.call 71 [(.t 3)], (some 4), none⟩, ⟨.op (.build [] []), (some 5), none⟩, ⟨.op (.ifc 99 (.t 5)), (some 6), none⟩, ⟨.call 70 [(.t 4), (.t 6)], (some 7), none⟩, ⟨.op (.not (.t 7)), (some 8), none⟩, ⟨.op (.mv (.t 8)), (some 2), none⟩])
 [2]
 (.ret)),
 [.tmp 2]⟩
theorem k41 : cFn Try.prog 41 = some c41.toE := by kernel_rfl
theorem w41 : c41.body.wf = true := by kernel_rfl
/-- cardamom/seen.At -/
noncomputable def c42 : DFn := ⟨21, .pure,
 .seq (.reg [⟨.op (.new [(.int .i64 0), (.int .i64 0), (.int .i64 0)]), (some 4), none⟩])
 [0, 1, 4]
 (.seq (.reg [⟨.op (.mv (.t 0)), (some 8), none⟩, ⟨.op (.mv (.t 1)), (some 9), none⟩, ⟨.call 72 [(.t 8), (.t 9)], (some 10), none⟩, ⟨.op (.mv (.t 10)), (some 7), none⟩, ⟨.op (.ext (.t 7) 0), (some 11), none⟩, ⟨.op (.ext (.t 7) 1), (some 12), none⟩, ⟨.op (.mv (.t 11)), (some 5), none⟩, ⟨.op (.mv (.t 12)), (some 6), none⟩])
 [0, 4, 5, 6]
 (.seq (.seq (.reg [⟨.op (.mv (.t 6)), (some 13), none⟩, ⟨.op (.not (.t 13)), (some 14), none⟩])
 [0, 4, 5, 14]
 (.cond (.t 14) (.seq (.reg [⟨.op (.build [(.int .i64 0), (.int .i64 0), (.int .i64 0)] []), (some 15), none⟩, ⟨.op (.st 3 (.t 4) (.t 15)), none, none⟩])
 [4]
 (.ret)) (.skip)))
 [0, 4, 5]
 (.seq (.reg [⟨.op (.mv (.t 0)), (some 16), none⟩, ⟨.op (.mv (.t 5)), (some 17), none⟩, ⟨.op (.ia 4 none (.t 16) (.t 17)), (some 18), none⟩, ⟨.op (.fa 1 (.t 18)), (some 19), none⟩, ⟨.op (.ldn 3 (.t 19)), (some 20), none⟩, ⟨.op (.st 3 (.t 4) (.t 20)), none, none⟩])
 [4]
 (.ret)))),
 [.celln 3 4]⟩
theorem k42 : cFn Try.prog 42 = some c42.toE := by kernel_rfl
theorem w42 : c42.body.wf = true := by kernel_rfl
/-- cardamom/seen.Within -/
noncomputable def c44 : DFn := ⟨9, .pure,
 .seq (.reg [⟨.op (.box (.t 1)), (some 3), none⟩, ⟨.op (.mv (.c (.bool false))), (some 4), none⟩])
 [0, 3]
 (.seq (.reg [⟨.op (.mv (.t 0)), (some 5), none⟩, ⟨.op (.fn 74 [(.t 3)]), (some 6), none⟩, ⟨.call 73 [(.t 5), (.t 6)], (some 7), none⟩, ⟨.op (.not (.t 7)), (some 8), none⟩, ⟨.op (.mv (.t 8)), (some 4), none⟩])
 [4]
 (.ret)),
 [.tmp 4]⟩
theorem k44 : cFn Try.prog 44 = some c44.toE := by kernel_rfl
theorem w44 : c44.body.wf = true := by kernel_rfl
/-- cardamom/seen.Within$1 -/
noncomputable def c74 : DFn := ⟨12, .pure,
 .seq (.reg [⟨.op (.box (.t 0)), (some 2), none⟩, ⟨.op (.mv (.c (.bool false))), (some 3), none⟩])
 [1, 2]
 (.seq (.drw [⟨⟨.op (.ld1 (.t 1)), (some 4), none⟩, .n, []⟩, ⟨⟨.op (.fa 0 (.t 2)), (some 5), none⟩, .n, []⟩, ⟨⟨.op (.ld1 (.t 5)), (some 6), none⟩, .n, []⟩, ⟨⟨.op (.fa 1 (.t 2)), (some 8), none⟩, .n, []⟩, ⟨⟨.op (.ldn 3 (.t 8)), (some 9), none⟩, .n, []⟩, ⟨⟨.call 42 [(.t 4), (.t 6)], (some 7), none⟩, .x, [(true, 4)]⟩, ⟨⟨.call 75 [(.t 7), (.t 9)], (some 10), none⟩, .x, []⟩, ⟨⟨.op (.bin .lss 0 (.t 10) (.c (.int .i64 0))), (some 11), none⟩, .n, []⟩, ⟨⟨.op (.mv (.t 11)), (some 3), none⟩, .x, []⟩])
 [3]
 (.ret)),
 [.tmp 3]⟩
theorem k74 : cFn Try.prog 74 = some c74.toE := by kernel_rfl
theorem w74 : c74.body.wf = true := by kernel_rfl
/-- cardamom/seen.Put -/
noncomputable def c45 : DFn := ⟨36, .pure,
 .seq (.reg [⟨.op (.box (.t 1)), (some 3), none⟩, ⟨.op (.mv (.c (.sl none 0))), (some 4), none⟩])
 [0, 3]
 (.seq (.reg [⟨.op (.mv (.t 0)), (some 7), none⟩, ⟨.call 76 [(.t 7)], (some 8), none⟩, ⟨.op (.mv (.t 8)), (some 0), none⟩])
 [0, 3]
 (.seq (.seq (.drw [⟨⟨.op (.fa 1 (.t 3)), (some 9), none⟩, .n, []⟩, ⟨⟨.op (.ldn 3 (.t 9)), (some 10), none⟩, .n, []⟩, ⟨⟨.op (.mv (.t 0)), (some 11), none⟩, .n, []⟩, ⟨⟨.op (.fa 0 (.t 3)), (some 12), none⟩, .n, []⟩, ⟨⟨.op (.ld1 (.t 12)), (some 13), none⟩, .n, []⟩, ⟨⟨.call 42 [(.t 11), (.t 13)], (some 14), none⟩, .x, [(true, 1)]⟩, ⟨⟨.call 75 [(.t 10), (.t 14)], (some 15), none⟩, .x, []⟩, ⟨⟨.op (.bin .leq 0 (.t 15) (.c (.int .i64 0))), (some 16), none⟩, .n, []⟩])
 [0, 3, 16]
 (.cond (.t 16) (.seq (.reg [⟨.op (.mv (.t 0)), (some 17), none⟩, ⟨.op (.mv (.t 17)), (some 4), none⟩])
 [4]
 (.ret)) (.skip)))
 [0, 3]
 (.seq (.reg [⟨.op (.mv (.t 0)), (some 19), none⟩, ⟨.op (.fa 0 (.t 3)), (some 20), none⟩, ⟨.op (.ld1 (.t 20)), (some 21), none⟩, ⟨.call 72 [(.t 19), (.t 21)], (some 22), none⟩, ⟨.op (.mv (.t 22)), (some 18), none⟩, ⟨.op (.ext (.t 18) 0), (some 23), none⟩, ⟨.op (.ext (.t 18) 1), (some 24), none⟩, ⟨.op (.mv (.t 23)), (some 5), none⟩, ⟨.op (.mv (.t 24)), (some 6), none⟩])
 [0, 3, 5, 6]
 (.seq (.seq (.reg [⟨.op (.mv (.t 6)), (some 25), none⟩])
 [0, 3, 5, 25]
 (.cond (.t 25) (.seq (.reg [⟨.op (.mv (.t 0)), (some 26), none⟩, ⟨.op (.mv (.t 5)), (some 27), none⟩, ⟨.op (.ldn 4 (.t 3)), (some 28), none⟩, ⟨.op (.ia 4 none (.t 26) (.t 27)), (some 29), none⟩, ⟨.op (.st 4 (.t 29) (.t 28)), none, none⟩])
 [0]
 (.seq (.reg [⟨.op (.mv (.t 0)), (some 30), none⟩, ⟨.op (.mv (.t 30)), (some 4), none⟩])
 [4]
 (.ret))) (.skip)))
 [0, 3, 5]
 (.seq (.reg [⟨.op (.mv (.t 0)), (some 31), none⟩, ⟨.op (.mv (.t 5)), (some 32), none⟩, ⟨.op (.ldn 4 (.t 3)), (some 33), none⟩, ⟨.op (.bslice 4 1 [(.int .i64 0), (.int .i64 0), (.int .i64 0), (.int .i64 0)] [(0, 4, (.t 33))]), (some 34), none⟩, ⟨.call 77 [(.t 31), (.t 32), (.t 34)], (some 35), none⟩, ⟨.op (.mv (.t 35)), (some 4), none⟩])
 [4]
 (.ret)))))),
 [.tmp 4]⟩
theorem k45 : cFn Try.prog 45 = some c45.toE := by kernel_rfl
theorem w45 : c45.body.wf = true := by kernel_rfl
noncomputable def l47_0 : DC :=
 .seq (.reg [⟨.op (.bin .lss 0 (.t 11) (.t 10)), (some 12), none⟩])
 [0, 9, 10, 11, 12]
 (.seq (.cond (.t 12) (.skip) (.exit 0))
 [0, 9, 10, 11]
 (.seq (.block 1 (.seq (.reg [⟨.op (.ia 4 none (.t 9) (.t 11)), (some 13), none⟩, ⟨.op (.ldn 4 (.t 13)), (some 14), none⟩, ⟨.op (.new [(.int .i64 0), (.int .i64 0), (.int .i64 0), (.int .i64 0)]), (some 6), none⟩, ⟨.op (.st 4 (.t 6) (.t 14)), none, none⟩])
 [0, 6, 9, 10, 11]
 (.reg [⟨.op (.mv (.t 0)), (some 15), none⟩, ⟨.op (.ldn 4 (.t 6)), (some 16), none⟩, ⟨.call 45 [(.t 15), (.t 16)], (some 17), none⟩, ⟨.op (.mv (.t 17)), (some 0), none⟩])))
 [0, 9, 10, 11]
 (.reg [⟨.op (.bin .add 0 (.t 11) (.c (.int .i64 1))), (some 18), none⟩, ⟨.op (.mv (.t 18)), (some 11), none⟩])))
theorem u47_0 (call : DCall) (T : Tm) (st : Dv.St) : dCw Try.prog call l47_0 T st = dCw Try.prog call
 (.seq (.reg [⟨.op (.bin .lss 0 (.t 11) (.t 10)), (some 12), none⟩])
 [0, 9, 10, 11, 12]
 (.seq (.cond (.t 12) (.skip) (.exit 0))
 [0, 9, 10, 11]
 (.seq (.block 1 (.seq (.reg [⟨.op (.ia 4 none (.t 9) (.t 11)), (some 13), none⟩, ⟨.op (.ldn 4 (.t 13)), (some 14), none⟩, ⟨.op (.new [(.int .i64 0), (.int .i64 0), (.int .i64 0), (.int .i64 0)]), (some 6), none⟩, ⟨.op (.st 4 (.t 6) (.t 14)), none, none⟩])
 [0, 6, 9, 10, 11]
 (.reg [⟨.op (.mv (.t 0)), (some 15), none⟩, ⟨.op (.ldn 4 (.t 6)), (some 16), none⟩, ⟨.call 45 [(.t 15), (.t 16)], (some 17), none⟩, ⟨.op (.mv (.t 17)), (some 0), none⟩])))
 [0, 9, 10, 11]
 (.reg [⟨.op (.bin .add 0 (.t 11) (.c (.int .i64 1))), (some 18), none⟩, ⟨.op (.mv (.t 18)), (some 11), none⟩])))) T st := rfl
/-- cardamom/seen.Most -/
noncomputable def c47 : DFn := ⟨20, .pure,
 .seq (.reg [⟨.op (.mv (.c (.sl none 0))), (some 4), none⟩])
 [0, 1]
 (.seq (.reg [⟨.op (.mv (.t 0)), (some 7), none⟩, ⟨.call 76 [(.t 7)], (some 8), none⟩, ⟨.op (.mv (.t 8)), (some 0), none⟩])
 [0, 1]
 (.seq (.seq (.reg [⟨.op (.mv (.t 1)), (some 9), none⟩, ⟨.op (.len (.t 9)), (some 10), none⟩, ⟨.op (.mv (.c (.int .i64 0))), (some 11), none⟩])
 [0, 9, 10, 11]
 (.block 0 (.loop [0, 9, 10, 11] (l47_0))))
 [0]
 (.seq (.reg [⟨.op (.mv (.t 0)), (some 19), none⟩, ⟨.op (.mv (.t 19)), (some 4), none⟩])
 [4]
 (.ret)))),
 [.tmp 4]⟩
theorem k47 : cFn Try.prog 47 = some c47.toE := by kernel_rfl
theorem w47 : c47.body.wf = true := by kernel_rfl
noncomputable def l71_0 : DC :=
 .seq (.reg [⟨.op (.bin .lss 0 (.t 8) (.t 7)), (some 9), none⟩])
 [3, 6, 7, 8, 9]
 (.seq (.cond (.t 9) (.skip) (.exit 0))
 [3, 6, 7, 8]
 (.seq (.block 1 (.seq (.reg [⟨.op (.ia 4 none (.t 6) (.t 8)), (some 10), none⟩, ⟨.op (.ldn 4 (.t 10)), (some 11), none⟩, ⟨.op (.new [(.int .i64 0), (.int .i64 0), (.int .i64 0), (.int .i64 0)]), (some 5), none⟩, ⟨.op (.st 4 (.t 5) (.t 11)), none, none⟩])
 [3, 5, 6, 7, 8]
 (.seq (.seq (.reg [⟨.op (.fa 0 (.t 5)), (some 12), none⟩, ⟨.op (.ld1 (.t 12)), (some 13), none⟩, ⟨.op (.mv (.t 3)), (some 14), none⟩, ⟨.op (.bin .leq 0 (.t 13) (.t 14)), (some 15), none⟩, ⟨.op (.mv (.t 15)), (some 16), none⟩, ⟨.op (.fa 0 (.t 5)), (some 17), (some (16, false))⟩, ⟨.op (.ld1 (.t 17)), (some 18), (some (16, false))⟩, ⟨.op (.bin .gtr 0 (.t 18) (.c (.int .i64 6))), (some 19), (some (16, false))⟩, ⟨.op (.pick (.t 16) (.c (.bool true)) (.t 19)), (some 20), none⟩, ⟨.op (.mv (.t 20)), (some 21), none⟩, ⟨.op (.fa 1 (.t 5)), (some 22), (some (21, false))⟩, ⟨.op (.ldn 3 (.t 22)), (some 23), (some (21, false))⟩, ⟨.call 98 [(.t 23)], (some 24), (some (21, false))⟩, ⟨.op (.not (.t 24)), (some 25), (some (21, false))⟩, ⟨.op (.pick (.t 21) (.c (.bool true)) (.t 25)), (some 26), none⟩])
 [5, 6, 7, 8, 26]
 (.cond (.t 26) (.seq (.reg [⟨.op (.build [] []), (some 27), none⟩, ⟨.op (.ifc 99 (.t 27)), (some 28), none⟩, ⟨.op (.build [.nilifc] [(0, 1, (.t 28))]), (some 29), none⟩, ⟨.op (.ifc 121 (.t 29)), (some 30), none⟩, ⟨.op (.mv (.t 30)), (some 2), none⟩])
 [2]
 (.ret)) (.skip)))
 [5, 6, 7, 8]
 (.reg [⟨.op (.fa 0 (.t 5)), (some 31), none⟩, ⟨.op (.ld1 (.t 31)), (some 32), none⟩, ⟨.op (.mv (.t 32)), (some 3), none⟩]))))
 [3, 6, 7, 8]
 (.reg [⟨.op (.bin .add 0 (.t 8) (.c (.int .i64 1))), (some 33), none⟩, ⟨.op (.mv (.t 33)), (some 8), none⟩])))
theorem u71_0 (call : DCall) (T : Tm) (st : Dv.St) : dCw Try.prog call l71_0 T st = dCw Try.prog call
 (.seq (.reg [⟨.op (.bin .lss 0 (.t 8) (.t 7)), (some 9), none⟩])
 [3, 6, 7, 8, 9]
 (.seq (.cond (.t 9) (.skip) (.exit 0))
 [3, 6, 7, 8]
 (.seq (.block 1 (.seq (.reg [⟨.op (.ia 4 none (.t 6) (.t 8)), (some 10), none⟩, ⟨.op (.ldn 4 (.t 10)), (some 11), none⟩, ⟨.op (.new [(.int .i64 0), (.int .i64 0), (.int .i64 0), (.int .i64 0)]), (some 5), none⟩, ⟨.op (.st 4 (.t 5) (.t 11)), none, none⟩])
 [3, 5, 6, 7, 8]
 (.seq (.seq (.reg [⟨.op (.fa 0 (.t 5)), (some 12), none⟩, ⟨.op (.ld1 (.t 12)), (some 13), none⟩, ⟨.op (.mv (.t 3)), (some 14), none⟩, ⟨.op (.bin .leq 0 (.t 13) (.t 14)), (some 15), none⟩, ⟨.op (.mv (.t 15)), (some 16), none⟩, ⟨.op (.fa 0 (.t 5)), (some 17), (some (16, false))⟩, ⟨.op (.ld1 (.t 17)), (some 18), (some (16, false))⟩, ⟨.op (.bin .gtr 0 (.t 18) (.c (.int .i64 6))), (some 19), (some (16, false))⟩, ⟨.op (.pick (.t 16) (.c (.bool true)) (.t 19)), (some 20), none⟩, ⟨.op (.mv (.t 20)), (some 21), none⟩, ⟨.op (.fa 1 (.t 5)), (some 22), (some (21, false))⟩, ⟨.op (.ldn 3 (.t 22)), (some 23), (some (21, false))⟩, ⟨.call 98 [(.t 23)], (some 24), (some (21, false))⟩, ⟨.op (.not (.t 24)), (some 25), (some (21, false))⟩, ⟨.op (.pick (.t 21) (.c (.bool true)) (.t 25)), (some 26), none⟩])
 [5, 6, 7, 8, 26]
 (.cond (.t 26) (.seq (.reg [⟨.op (.build [] []), (some 27), none⟩, ⟨.op (.ifc 99 (.t 27)), (some 28), none⟩, ⟨.op (.build [.nilifc] [(0, 1, (.t 28))]), (some 29), none⟩, ⟨.op (.ifc 121 (.t 29)), (some 30), none⟩, ⟨.op (.mv (.t 30)), (some 2), none⟩])
 [2]
 (.ret)) (.skip)))
 [5, 6, 7, 8]
 (.reg [⟨.op (.fa 0 (.t 5)), (some 31), none⟩, ⟨.op (.ld1 (.t 31)), (some 32), none⟩, ⟨.op (.mv (.t 32)), (some 3), none⟩]))))
 [3, 6, 7, 8]
 (.reg [⟨.op (.bin .add 0 (.t 8) (.c (.int .i64 1))), (some 33), none⟩, ⟨.op (.mv (.t 33)), (some 8), none⟩])))) T st := rfl
/-- cardamom/seen.check -/
noncomputable def c71 : DFn := ⟨34, .pure,
 .seq (.reg [⟨.op (.mv (.c .nilifc)), (some 2), none⟩])
 [0]
 (.seq (.reg [⟨.op (.mv (.c (.int .i64 0))), (some 3), none⟩])
 [0, 3]
 (.seq (.seq (.reg [⟨.op (.mv (.t 0)), (some 6), none⟩, ⟨.op (.len (.t 6)), (some 7), none⟩, ⟨.op (.mv (.c (.int .i64 0))), (some 8), none⟩])
 [3, 6, 7, 8]
 (.block 0 (.loop [3, 6, 7, 8] (l71_0))))
 []
 (.seq (.reg [⟨.op (.mv (.c .nilifc)), (some 2), none⟩])
 [2]
 (.ret)))),
 [.tmp 2]⟩
theorem k71 : cFn Try.prog 71 = some c71.toE := by kernel_rfl
theorem w71 : c71.body.wf = true := by kernel_rfl
/-- cardamom/seen.place -/
noncomputable def c72 : DFn := ⟨11, .pure,
 .seq (.reg [⟨.op (.mv (.c (.int .i64 0))), (some 4), none⟩, ⟨.op (.mv (.c (.bool false))), (some 5), none⟩])
 [0, 1]
 (.seq (.reg [⟨.op (.mv (.t 0)), (some 6), none⟩, ⟨.op (.mv (.t 1)), (some 7), none⟩, ⟨.call 99 [(.t 6), (.t 7), (.c (.fn 100 []))], (some 8), none⟩, ⟨.op (.ext (.t 8) 0), (some 9), none⟩, ⟨.op (.ext (.t 8) 1), (some 10), none⟩, ⟨.op (.mv (.t 9)), (some 4), none⟩, ⟨.op (.mv (.t 10)), (some 5), none⟩])
 [4, 5]
 (.ret)),
 [.tmp 4, .tmp 5]⟩
theorem k72 : cFn Try.prog 72 = some c72.toE := by kernel_rfl
theorem w72 : c72.body.wf = true := by kernel_rfl
/-- cardamom/seen.place$1 -/
noncomputable def c100 : DFn := ⟨9, .pure,
 .seq (.reg [⟨.op (.box (.t 0)), (some 2), none⟩, ⟨.op (.mv (.c (.int .i64 0))), (some 4), none⟩])
 [1, 2]
 (.seq (.reg [⟨.op (.fa 0 (.t 2)), (some 5), none⟩, ⟨.op (.ld1 (.t 5)), (some 6), none⟩, ⟨.op (.mv (.t 1)), (some 7), none⟩, ⟨.call 86 [(.t 6), (.t 7)], (some 8), none⟩, ⟨.op (.mv (.t 8)), (some 4), none⟩])
 [4]
 (.ret)),
 [.tmp 4]⟩
theorem k100 : cFn Try.prog 100 = some c100.toE := by kernel_rfl
theorem w100 : c100.body.wf = true := by kernel_rfl
/-- cardamom/stamp.Compare -/
noncomputable def c75 : DFn := ⟨22, .pure,
 .seq (.reg [⟨.op (.box (.t 0)), (some 2), none⟩, ⟨.op (.box (.t 1)), (some 3), none⟩, ⟨.op (.mv (.c (.int .i64 0))), (some 4), none⟩])
 [2, 3]
 (.seq (.drw [⟨⟨.op (.fa 0 (.t 2)), (some 5), none⟩, .n, []⟩, ⟨⟨.op (.ld1 (.t 5)), (some 6), none⟩, .n, []⟩, ⟨⟨.op (.fa 0 (.t 3)), (some 7), none⟩, .n, []⟩, ⟨⟨.op (.ld1 (.t 7)), (some 8), none⟩, .n, []⟩, ⟨⟨.op (.fa 1 (.t 2)), (some 10), none⟩, .n, []⟩, ⟨⟨.op (.ld1 (.t 10)), (some 11), none⟩, .n, []⟩, ⟨⟨.op (.fa 1 (.t 3)), (some 12), none⟩, .n, []⟩, ⟨⟨.op (.ld1 (.t 12)), (some 13), none⟩, .n, []⟩, ⟨⟨.op (.fa 2 (.t 2)), (some 15), none⟩, .n, []⟩, ⟨⟨.op (.ld1 (.t 15)), (some 16), none⟩, .n, []⟩, ⟨⟨.op (.fa 2 (.t 3)), (some 17), none⟩, .n, []⟩, ⟨⟨.op (.ld1 (.t 17)), (some 18), none⟩, .n, []⟩, ⟨⟨.call 86 [(.t 6), (.t 8)], (some 9), none⟩, .x, [(true, 11), (true, 9), (true, 7), (true, 5)]⟩, ⟨⟨.call 86 [(.t 11), (.t 13)], (some 14), none⟩, .x, [(true, 11), (true, 9)]⟩, ⟨⟨.call 86 [(.t 16), (.t 18)], (some 19), none⟩, .x, []⟩, ⟨⟨.op (.bslice 1 3 [(.int .i64 0), (.int .i64 0), (.int .i64 0)] [(0, 1, (.t 9)), (1, 1, (.t 14)), (2, 1, (.t 19))]), (some 20), none⟩, .a, [(true, 11), (true, 9), (true, 7), (true, 5), (true, 3), (true, 1)]⟩, ⟨⟨.call 102 [(.t 20)], (some 21), none⟩, .x, []⟩, ⟨⟨.op (.mv (.t 21)), (some 4), none⟩, .x, []⟩])
 [4]
 (.ret)),
 [.tmp 4]⟩
theorem k75 : cFn Try.prog 75 = some c75.toE := by kernel_rfl
theorem w75 : c75.body.wf = true := by kernel_rfl
/-- cardamom/stamp.May -/
noncomputable def c98 : DFn := ⟨9, .pure,
 .seq (.reg [⟨.op (.box (.t 0)), (some 1), none⟩, ⟨.op (.mv (.c (.bool false))), (some 2), none⟩])
 [1]
 (.seq (.reg [⟨.op (.ldn 3 (.t 1)), (some 3), none⟩, ⟨.call 114 [(.t 3)], (some 4), none⟩, ⟨.op (.build [] []), (some 5), none⟩, ⟨.op (.ifc 147 (.t 5)), (some 6), none⟩, ⟨.call 70 [(.t 4), (.t 6)], (some 7), none⟩, ⟨.op (.not (.t 7)), (some 8), none⟩, ⟨.op (.mv (.t 8)), (some 2), none⟩])
 [2]
 (.ret)),
 [.tmp 2]⟩
theorem k98 : cFn Try.prog 98 = some c98.toE := by kernel_rfl
theorem w98 : c98.body.wf = true := by kernel_rfl
/-- cardamom/stamp.check -/
noncomputable def c114 : DFn := ⟨17, .pure,
 .seq (.reg [⟨.op (.box (.t 0)), (some 1), none⟩, ⟨.op (.mv (.c .nilifc)), (some 2), none⟩])
 [1]
 (.seq (.drw [⟨⟨.op (.fa 0 (.t 1)), (some 3), none⟩, .n, []⟩, ⟨⟨.op (.ld1 (.t 3)), (some 4), none⟩, .n, []⟩, ⟨⟨.op (.fa 1 (.t 1)), (some 6), none⟩, .n, []⟩, ⟨⟨.op (.ld1 (.t 6)), (some 7), none⟩, .n, []⟩, ⟨⟨.op (.fa 2 (.t 1)), (some 9), none⟩, .n, []⟩, ⟨⟨.op (.ld1 (.t 9)), (some 10), none⟩, .n, []⟩, ⟨⟨.op (.fa 0 (.t 1)), (some 11), none⟩, .n, []⟩, ⟨⟨.op (.ld1 (.t 11)), (some 12), none⟩, .n, []⟩, ⟨⟨.op (.slow (operAt Try.prog 114 12)), (some 13), none⟩, .n, []⟩, ⟨⟨.call 119 [(.c (.str [116, 105, 109, 101])), (.t 4), (.c (.int .i64 5000))], (some 5), none⟩, .x, [(true, 7), (true, 5), (true, 3)]⟩, ⟨⟨.call 119 [(.c (.str [114, 101, 112, 108, 105, 99, 97])), (.t 7), (.c (.int .i64 5))], (some 8), none⟩, .x, [(true, 7), (true, 5)]⟩, ⟨⟨.call 119 [(.c (.str [110, 117, 109, 98, 101, 114])), (.t 10), (.t 13)], (some 14), none⟩, .x, []⟩, ⟨⟨.op (.bslice 1 3 [.nilifc, .nilifc, .nilifc] [(0, 1, (.t 5)), (1, 1, (.t 8)), (2, 1, (.t 14))]), (some 15), none⟩, .a, [(true, 7), (true, 5), (true, 3), (true, 1)]⟩, ⟨⟨.call 118 [(.t 15)], (some 16), none⟩, .x, []⟩, ⟨⟨.op (.mv (.t 16)), (some 2), none⟩, .x, []⟩])
 [2]
 (.ret)),
 [.tmp 2]⟩
theorem k114 : cFn Try.prog 114 = some c114.toE := by kernel_rfl
theorem w114 : c114.body.wf = true := by kernel_rfl
/-- cardamom/stamp.within -/
noncomputable def c119 : DFn := ⟨19, .pure,
 .seq (.reg [⟨.op (.mv (.c .nilifc)), (some 6), none⟩])
 [0, 1, 2]
 (.seq (.seq (.reg [⟨.op (.mv (.t 1)), (some 7), none⟩, ⟨.op (.bin .lss 0 (.t 7) (.c (.int .i64 1))), (some 8), none⟩, ⟨.op (.mv (.t 8)), (some 9), none⟩, ⟨.op (.mv (.t 1)), (some 10), (some (9, false))⟩, ⟨.op (.mv (.t 2)), (some 11), (some (9, false))⟩, ⟨.op (.bin .gtr 0 (.t 10) (.t 11)), (some 12), (some (9, false))⟩, ⟨.op (.pick (.t 9) (.c (.bool true)) (.t 12)), (some 13), none⟩])
 [0, 13]
 (.cond (.t 13) (.seq (.reg [⟨.op (.mv (.t 0)), (some 14), none⟩, ⟨.op (.build [] []), (some 15), none⟩, ⟨.op (.ifc 147 (.t 15)), (some 16), none⟩, ⟨.op (.build [(.str []), .nilifc] [(0, 1, (.t 14)), (1, 1, (.t 16))]), (some 17), none⟩, ⟨.op (.ifc 164 (.t 17)), (some 18), none⟩, ⟨.op (.mv (.t 18)), (some 6), none⟩])
 [6]
 (.ret)) (.skip)))
 []
 (.seq (.reg [⟨.op (.mv (.c .nilifc)), (some 6), none⟩])
 [6]
 (.ret))),
 [.tmp 6]⟩
theorem k119 : cFn Try.prog 119 = some c119.toE := by kernel_rfl
theorem w119 : c119.body.wf = true := by kernel_rfl
/-- cmp.Compare[int] -/
noncomputable def c86 : DFn := ⟨20, .pure,
 .seq (.reg [⟨.op (.mv (.c (.int .i64 0))), (some 4), none⟩])
 [0, 1]
 (.seq (.reg [⟨.op (.mv (.t 0)), (some 7), none⟩, ⟨.call 108 [(.t 7)], (some 8), none⟩, ⟨.op (.mv (.t 8)), (some 5), none⟩])
 [0, 1, 5]
 (.seq (.reg [⟨.op (.mv (.t 1)), (some 9), none⟩, ⟨.call 108 [(.t 9)], (some 10), none⟩, ⟨.op (.mv (.t 10)), (some 6), none⟩])
 [0, 1, 5, 6]
 (.seq (.seq (.reg [⟨.op (.mv (.t 5)), (some 11), none⟩])
 [0, 1, 6, 11]
 (.cond (.t 11) (.seq (.seq (.reg [⟨.op (.mv (.t 6)), (some 12), none⟩])
 [12]
 (.cond (.t 12) (.seq (.reg [⟨.op (.mv (.c (.int .i64 0))), (some 4), none⟩])
 [4]
 (.ret)) (.skip)))
 []
 (.seq (.reg [⟨.op (.mv (.c (.int .i64 (-1)))), (some 4), none⟩])
 [4]
 (.ret))) (.skip)))
 [0, 1, 6]
 (.seq (.seq (.reg [⟨.op (.mv (.t 6)), (some 13), none⟩])
 [0, 1, 13]
 (.cond (.t 13) (.seq (.reg [⟨.op (.mv (.c (.int .i64 1))), (some 4), none⟩])
 [4]
 (.ret)) (.skip)))
 [0, 1]
 (.seq (.seq (.reg [⟨.op (.mv (.t 0)), (some 14), none⟩, ⟨.op (.mv (.t 1)), (some 15), none⟩, ⟨.op (.bin .lss 0 (.t 14) (.t 15)), (some 16), none⟩])
 [0, 1, 16]
 (.cond (.t 16) (.seq (.reg [⟨.op (.mv (.c (.int .i64 (-1)))), (some 4), none⟩])
 [4]
 (.ret)) (.skip)))
 [0, 1]
 (.seq (.seq (.reg [⟨.op (.mv (.t 0)), (some 17), none⟩, ⟨.op (.mv (.t 1)), (some 18), none⟩, ⟨.op (.bin .gtr 0 (.t 17) (.t 18)), (some 19), none⟩])
 [19]
 (.cond (.t 19) (.seq (.reg [⟨.op (.mv (.c (.int .i64 1))), (some 4), none⟩])
 [4]
 (.ret)) (.skip)))
 []
 (.seq (.reg [⟨.op (.mv (.c (.int .i64 0))), (some 4), none⟩])
 [4]
 (.ret)))))))),
 [.tmp 4]⟩
theorem k86 : cFn Try.prog 86 = some c86.toE := by kernel_rfl
theorem w86 : c86.body.wf = true := by kernel_rfl
noncomputable def l102_0 : DC :=
 .seq (.reg [⟨.op (.bin .lss 0 (.t 8) (.t 7)), (some 9), none⟩])
 [3, 6, 7, 8, 9]
 (.seq (.cond (.t 9) (.skip) (.exit 0))
 [3, 6, 7, 8]
 (.seq (.block 1 (.seq (.reg [⟨.op (.ia 1 none (.t 6) (.t 8)), (some 10), none⟩, ⟨.op (.ld1 (.t 10)), (some 11), none⟩, ⟨.op (.mv (.t 11)), (some 5), none⟩])
 [3, 5, 6, 7, 8]
 (.seq (.reg [⟨.op (.mv (.t 5)), (some 12), none⟩, ⟨.op (.mv (.t 3)), (some 13), none⟩, ⟨.op (.bin .neq 0 (.t 12) (.t 13)), (some 14), none⟩])
 [3, 5, 6, 7, 8, 14]
 (.cond (.t 14) (.seq (.reg [⟨.op (.mv (.t 5)), (some 15), none⟩, ⟨.op (.mv (.t 15)), (some 2), none⟩])
 [2]
 (.ret)) (.skip)))))
 [3, 6, 7, 8]
 (.reg [⟨.op (.bin .add 0 (.t 8) (.c (.int .i64 1))), (some 16), none⟩, ⟨.op (.mv (.t 16)), (some 8), none⟩])))
theorem u102_0 (call : DCall) (T : Tm) (st : Dv.St) : dCw Try.prog call l102_0 T st = dCw Try.prog call
 (.seq (.reg [⟨.op (.bin .lss 0 (.t 8) (.t 7)), (some 9), none⟩])
 [3, 6, 7, 8, 9]
 (.seq (.cond (.t 9) (.skip) (.exit 0))
 [3, 6, 7, 8]
 (.seq (.block 1 (.seq (.reg [⟨.op (.ia 1 none (.t 6) (.t 8)), (some 10), none⟩, ⟨.op (.ld1 (.t 10)), (some 11), none⟩, ⟨.op (.mv (.t 11)), (some 5), none⟩])
 [3, 5, 6, 7, 8]
 (.seq (.reg [⟨.op (.mv (.t 5)), (some 12), none⟩, ⟨.op (.mv (.t 3)), (some 13), none⟩, ⟨.op (.bin .neq 0 (.t 12) (.t 13)), (some 14), none⟩])
 [3, 5, 6, 7, 8, 14]
 (.cond (.t 14) (.seq (.reg [⟨.op (.mv (.t 5)), (some 15), none⟩, ⟨.op (.mv (.t 15)), (some 2), none⟩])
 [2]
 (.ret)) (.skip)))))
 [3, 6, 7, 8]
 (.reg [⟨.op (.bin .add 0 (.t 8) (.c (.int .i64 1))), (some 16), none⟩, ⟨.op (.mv (.t 16)), (some 8), none⟩])))) T st := rfl
/-- cmp.Or[int] -/
noncomputable def c102 : DFn := ⟨18, .pure,
 .seq (.reg [⟨.op (.mv (.c (.int .i64 0))), (some 2), none⟩])
 [0]
 (.seq (.reg [⟨.op (.mv (.c (.int .i64 0))), (some 3), none⟩])
 [0, 3]
 (.seq (.seq (.reg [⟨.op (.mv (.t 0)), (some 6), none⟩, ⟨.op (.len (.t 6)), (some 7), none⟩, ⟨.op (.mv (.c (.int .i64 0))), (some 8), none⟩])
 [3, 6, 7, 8]
 (.block 0 (.loop [3, 6, 7, 8] (l102_0))))
 [3]
 (.seq (.reg [⟨.op (.mv (.t 3)), (some 17), none⟩, ⟨.op (.mv (.t 17)), (some 2), none⟩])
 [2]
 (.ret)))),
 [.tmp 2]⟩
theorem k102 : cFn Try.prog 102 = some c102.toE := by kernel_rfl
theorem w102 : c102.body.wf = true := by kernel_rfl
/-- cmp.isNaN[int] -/
noncomputable def c108 : DFn := ⟨6, .pure,
 .seq (.reg [⟨.op (.mv (.c (.bool false))), (some 2), none⟩])
 [0]
 (.seq (.reg [⟨.op (.mv (.t 0)), (some 3), none⟩, ⟨.op (.mv (.t 0)), (some 4), none⟩, ⟨.op (.bin .neq 0 (.t 3) (.t 4)), (some 5), none⟩, ⟨.op (.mv (.t 5)), (some 2), none⟩])
 [2]
 (.ret)),
 [.tmp 2]⟩
theorem k108 : cFn Try.prog 108 = some c108.toE := by kernel_rfl
theorem w108 : c108.body.wf = true := by kernel_rfl
/-- errors.Is -/
noncomputable def c70 : DFn := ⟨22, .pure,
 .seq (.reg [⟨.op (.mv (.c (.bool false))), (some 4), none⟩])
 [0, 1]
 (.seq (.seq (.reg [⟨.op (.mv (.t 0)), (some 6), none⟩, ⟨.op (.bin .eql 4 (.t 6) (.c .nilifc)), (some 7), none⟩, ⟨.op (.mv (.t 7)), (some 8), none⟩, ⟨.op (.mv (.t 1)), (some 9), (some (8, false))⟩, ⟨.op (.bin .eql 4 (.t 9) (.c .nilifc)), (some 10), (some (8, false))⟩, ⟨.op (.pick (.t 8) (.c (.bool true)) (.t 10)), (some 11), none⟩])
 [0, 1, 11]
 (.cond (.t 11) (.seq (.reg [⟨.op (.mv (.t 0)), (some 12), none⟩, ⟨.op (.mv (.t 1)), (some 13), none⟩, ⟨.op (.slow (operAt Try.prog 70 9)), (some 14), none⟩, ⟨.op (.mv (.t 14)), (some 4), none⟩])
 [4]
 (.ret)) (.skip)))
 [0, 1]
 (.seq (.reg [⟨.op (.mv (.t 1)), (some 15), none⟩, ⟨.ext (operAt Try.prog 70 12), (some 16), none⟩, ⟨.inv (.t 16) "Comparable" [] (operAt Try.prog 70 13), (some 17), none⟩, ⟨.op (.mv (.t 17)), (some 5), none⟩])
 [0, 1, 5]
 (.seq (.reg [⟨.op (.mv (.t 0)), (some 18), none⟩, ⟨.op (.mv (.t 1)), (some 19), none⟩, ⟨.op (.mv (.t 5)), (some 20), none⟩, ⟨.call 97 [(.t 18), (.t 19), (.t 20)], (some 21), none⟩, ⟨.op (.mv (.t 21)), (some 4), none⟩])
 [4]
 (.ret)))),
 [.tmp 4]⟩
theorem k70 : cFn Try.prog 70 = some c70.toE := by kernel_rfl
theorem w70 : c70.body.wf = true := by kernel_rfl
noncomputable def l97_0 : DC :=
 .seq (.reg [⟨.op (.bin .lss 0 (.t 45) (.t 44)), (some 46), none⟩])
 [1, 2, 43, 44, 45, 46]
 (.seq (.cond (.t 46) (.skip) (.exit 3))
 [1, 2, 43, 44, 45]
 (.seq (.block 4 (.seq (.reg [⟨.op (.ia 1 none (.t 43) (.t 45)), (some 47), none⟩, ⟨.op (.ld1 (.t 47)), (some 48), none⟩, ⟨.op (.mv (.t 48)), (some 12), none⟩])
 [1, 2, 12, 43, 44, 45]
 (.seq (.reg [⟨.op (.mv (.t 12)), (some 49), none⟩, ⟨.op (.mv (.t 1)), (some 50), none⟩, ⟨.op (.mv (.t 2)), (some 51), none⟩, ⟨.call 97 [(.t 49), (.t 50), (.t 51)], (some 52), none⟩])
 [1, 2, 43, 44, 45, 52]
 (.cond (.t 52) (.seq (.reg [⟨.op (.mv (.c (.bool true))), (some 6), none⟩])
 [6]
 (.ret)) (.skip)))))
 [1, 2, 43, 44, 45]
 (.reg [⟨.op (.bin .add 0 (.t 45) (.c (.int .i64 1))), (some 53), none⟩, ⟨.op (.mv (.t 53)), (some 45), none⟩])))
theorem u97_0 (call : DCall) (T : Tm) (st : Dv.St) : dCw Try.prog call l97_0 T st = dCw Try.prog call
 (.seq (.reg [⟨.op (.bin .lss 0 (.t 45) (.t 44)), (some 46), none⟩])
 [1, 2, 43, 44, 45, 46]
 (.seq (.cond (.t 46) (.skip) (.exit 3))
 [1, 2, 43, 44, 45]
 (.seq (.block 4 (.seq (.reg [⟨.op (.ia 1 none (.t 43) (.t 45)), (some 47), none⟩, ⟨.op (.ld1 (.t 47)), (some 48), none⟩, ⟨.op (.mv (.t 48)), (some 12), none⟩])
 [1, 2, 12, 43, 44, 45]
 (.seq (.reg [⟨.op (.mv (.t 12)), (some 49), none⟩, ⟨.op (.mv (.t 1)), (some 50), none⟩, ⟨.op (.mv (.t 2)), (some 51), none⟩, ⟨.call 97 [(.t 49), (.t 50), (.t 51)], (some 52), none⟩])
 [1, 2, 43, 44, 45, 52]
 (.cond (.t 52) (.seq (.reg [⟨.op (.mv (.c (.bool true))), (some 6), none⟩])
 [6]
 (.ret)) (.skip)))))
 [1, 2, 43, 44, 45]
 (.reg [⟨.op (.bin .add 0 (.t 45) (.c (.int .i64 1))), (some 53), none⟩, ⟨.op (.mv (.t 53)), (some 45), none⟩])))) T st := rfl
noncomputable def l97_1 : DC :=
 .block 1 (.seq (.seq (.reg [⟨.op (.mv (.t 2)), (some 14), none⟩, ⟨.op (.mv (.t 14)), (some 15), none⟩, ⟨.op (.mv (.t 0)), (some 16), (some (15, true))⟩, ⟨.op (.mv (.t 1)), (some 17), (some (15, true))⟩, ⟨.op (.slow (operAt Try.prog 97 5)), (some 18), (some (15, true))⟩, ⟨.op (.pick (.t 15) (.t 18) (.c (.bool false))), (some 19), none⟩])
 [0, 1, 2, 19]
 (.cond (.t 19) (.seq (.reg [⟨.op (.mv (.c (.bool true))), (some 6), none⟩])
 [6]
 (.ret)) (.skip)))
 [0, 1, 2]
 (.seq (.seq (.reg [⟨.op (.mv (.t 0)), (some 21), none⟩, ⟨.op (.slow (operAt Try.prog 97 9)), (some 22), none⟩, ⟨.op (.mv (.t 22)), (some 20), none⟩, ⟨.op (.ext (.t 20) 0), (some 23), none⟩, ⟨.op (.ext (.t 20) 1), (some 24), none⟩, ⟨.op (.mv (.t 23)), (some 7), none⟩, ⟨.op (.mv (.t 24)), (some 8), none⟩])
 [0, 1, 2, 7, 8]
 (.seq (.reg [⟨.op (.mv (.t 8)), (some 25), none⟩, ⟨.op (.mv (.t 25)), (some 26), none⟩, ⟨.op (.mv (.t 7)), (some 27), (some (26, true))⟩, ⟨.op (.mv (.t 1)), (some 28), (some (26, true))⟩, ⟨.inv (.t 27) "Is" [(.t 28)] (operAt Try.prog 97 19), (some 29), (some (26, true))⟩, ⟨.op (.pick (.t 26) (.t 29) (.c (.bool false))), (some 30), none⟩])
 [0, 1, 2, 30]
 (.cond (.t 30) (.seq (.reg [⟨.op (.mv (.c (.bool true))), (some 6), none⟩])
 [6]
 (.ret)) (.skip))))
 [0, 1, 2]
 (.seq (.reg [⟨.op (.mv (.t 0)), (some 31), none⟩])
 [1, 2, 31]
 (.block 2 (.seq (.reg [⟨.op (.slow (operAt Try.prog 97 23)), (some 32), none⟩, ⟨.op (.ext (.t 32) 1), (some 33), none⟩, ⟨.op (.ext (.t 32) 0), (some 34), none⟩])
 [1, 2, 31, 33, 34]
 (.cond (.t 33) (.seq (.reg [⟨.op (.mv (.t 34)), (some 9), none⟩])
 [1, 2, 9]
 (.seq (.reg [⟨.op (.mv (.t 9)), (some 35), none⟩, ⟨.inv (.t 35) "Unwrap" [] (operAt Try.prog 97 28), (some 36), none⟩, ⟨.op (.mv (.t 36)), (some 0), none⟩])
 [0, 1, 2]
 (.seq (.reg [⟨.op (.mv (.t 0)), (some 37), none⟩, ⟨.op (.bin .eql 4 (.t 37) (.c .nilifc)), (some 38), none⟩])
 [0, 1, 2, 38]
 (.cond (.t 38) (.seq (.reg [⟨.op (.mv (.c (.bool false))), (some 6), none⟩])
 [6]
 (.ret)) (.skip))))) (.seq (.reg [⟨.op (.slow (operAt Try.prog 97 33)), (some 39), none⟩, ⟨.op (.ext (.t 39) 1), (some 40), none⟩, ⟨.op (.ext (.t 39) 0), (some 41), none⟩])
 [1, 2, 31, 40, 41]
 (.cond (.t 40) (.seq (.reg [⟨.op (.mv (.t 41)), (some 10), none⟩])
 [1, 2, 10]
 (.seq (.seq (.reg [⟨.op (.mv (.t 10)), (some 42), none⟩, ⟨.inv (.t 42) "Unwrap" [] (operAt Try.prog 97 38), (some 43), none⟩, ⟨.op (.len (.t 43)), (some 44), none⟩, ⟨.op (.mv (.c (.int .i64 0))), (some 45), none⟩])
 [1, 2, 43, 44, 45]
 (.block 3 (.loop [1, 2, 43, 44, 45] (l97_0))))
 []
 (.seq (.reg [⟨.op (.mv (.c (.bool false))), (some 6), none⟩])
 [6]
 (.ret)))) (.seq (.reg [⟨.op (.mv (.t 31)), (some 13), none⟩])
 []
 (.seq (.reg [⟨.op (.mv (.c (.bool false))), (some 6), none⟩])
 [6]
 (.ret)))))))))))
theorem u97_1 (call : DCall) (T : Tm) (st : Dv.St) : dCw Try.prog call l97_1 T st = dCw Try.prog call
 (.block 1 (.seq (.seq (.reg [⟨.op (.mv (.t 2)), (some 14), none⟩, ⟨.op (.mv (.t 14)), (some 15), none⟩, ⟨.op (.mv (.t 0)), (some 16), (some (15, true))⟩, ⟨.op (.mv (.t 1)), (some 17), (some (15, true))⟩, ⟨.op (.slow (operAt Try.prog 97 5)), (some 18), (some (15, true))⟩, ⟨.op (.pick (.t 15) (.t 18) (.c (.bool false))), (some 19), none⟩])
 [0, 1, 2, 19]
 (.cond (.t 19) (.seq (.reg [⟨.op (.mv (.c (.bool true))), (some 6), none⟩])
 [6]
 (.ret)) (.skip)))
 [0, 1, 2]
 (.seq (.seq (.reg [⟨.op (.mv (.t 0)), (some 21), none⟩, ⟨.op (.slow (operAt Try.prog 97 9)), (some 22), none⟩, ⟨.op (.mv (.t 22)), (some 20), none⟩, ⟨.op (.ext (.t 20) 0), (some 23), none⟩, ⟨.op (.ext (.t 20) 1), (some 24), none⟩, ⟨.op (.mv (.t 23)), (some 7), none⟩, ⟨.op (.mv (.t 24)), (some 8), none⟩])
 [0, 1, 2, 7, 8]
 (.seq (.reg [⟨.op (.mv (.t 8)), (some 25), none⟩, ⟨.op (.mv (.t 25)), (some 26), none⟩, ⟨.op (.mv (.t 7)), (some 27), (some (26, true))⟩, ⟨.op (.mv (.t 1)), (some 28), (some (26, true))⟩, ⟨.inv (.t 27) "Is" [(.t 28)] (operAt Try.prog 97 19), (some 29), (some (26, true))⟩, ⟨.op (.pick (.t 26) (.t 29) (.c (.bool false))), (some 30), none⟩])
 [0, 1, 2, 30]
 (.cond (.t 30) (.seq (.reg [⟨.op (.mv (.c (.bool true))), (some 6), none⟩])
 [6]
 (.ret)) (.skip))))
 [0, 1, 2]
 (.seq (.reg [⟨.op (.mv (.t 0)), (some 31), none⟩])
 [1, 2, 31]
 (.block 2 (.seq (.reg [⟨.op (.slow (operAt Try.prog 97 23)), (some 32), none⟩, ⟨.op (.ext (.t 32) 1), (some 33), none⟩, ⟨.op (.ext (.t 32) 0), (some 34), none⟩])
 [1, 2, 31, 33, 34]
 (.cond (.t 33) (.seq (.reg [⟨.op (.mv (.t 34)), (some 9), none⟩])
 [1, 2, 9]
 (.seq (.reg [⟨.op (.mv (.t 9)), (some 35), none⟩, ⟨.inv (.t 35) "Unwrap" [] (operAt Try.prog 97 28), (some 36), none⟩, ⟨.op (.mv (.t 36)), (some 0), none⟩])
 [0, 1, 2]
 (.seq (.reg [⟨.op (.mv (.t 0)), (some 37), none⟩, ⟨.op (.bin .eql 4 (.t 37) (.c .nilifc)), (some 38), none⟩])
 [0, 1, 2, 38]
 (.cond (.t 38) (.seq (.reg [⟨.op (.mv (.c (.bool false))), (some 6), none⟩])
 [6]
 (.ret)) (.skip))))) (.seq (.reg [⟨.op (.slow (operAt Try.prog 97 33)), (some 39), none⟩, ⟨.op (.ext (.t 39) 1), (some 40), none⟩, ⟨.op (.ext (.t 39) 0), (some 41), none⟩])
 [1, 2, 31, 40, 41]
 (.cond (.t 40) (.seq (.reg [⟨.op (.mv (.t 41)), (some 10), none⟩])
 [1, 2, 10]
 (.seq (.seq (.reg [⟨.op (.mv (.t 10)), (some 42), none⟩, ⟨.inv (.t 42) "Unwrap" [] (operAt Try.prog 97 38), (some 43), none⟩, ⟨.op (.len (.t 43)), (some 44), none⟩, ⟨.op (.mv (.c (.int .i64 0))), (some 45), none⟩])
 [1, 2, 43, 44, 45]
 (.block 3 (.loop [1, 2, 43, 44, 45] (l97_0))))
 []
 (.seq (.reg [⟨.op (.mv (.c (.bool false))), (some 6), none⟩])
 [6]
 (.ret)))) (.seq (.reg [⟨.op (.mv (.t 31)), (some 13), none⟩])
 []
 (.seq (.reg [⟨.op (.mv (.c (.bool false))), (some 6), none⟩])
 [6]
 (.ret)))))))))))) T st := rfl
/-- errors.is -/
noncomputable def c97 : DFn := ⟨54, .pure,
 .seq (.reg [⟨.op (.mv (.c (.bool false))), (some 6), none⟩])
 [0, 1, 2]
 (.block 0 (.loop [0, 1, 2] (l97_1))),
 [.tmp 6]⟩
theorem k97 : cFn Try.prog 97 = some c97.toE := by kernel_rfl
theorem w97 : c97.body.wf = true := by kernel_rfl
noncomputable def l118_0 : DC :=
 .seq (.reg [⟨.op (.bin .lss 0 (.t 11) (.t 10)), (some 12), none⟩])
 [0, 3, 9, 10, 11, 12]
 (.seq (.cond (.t 12) (.skip) (.exit 0))
 [0, 3, 9, 10, 11]
 (.seq (.block 1 (.seq (.reg [⟨.op (.ia 1 none (.t 9) (.t 11)), (some 13), none⟩, ⟨.op (.ld1 (.t 13)), (some 14), none⟩, ⟨.op (.mv (.t 14)), (some 5), none⟩])
 [0, 3, 5, 9, 10, 11]
 (.seq (.reg [⟨.op (.mv (.t 5)), (some 15), none⟩, ⟨.op (.bin .neq 4 (.t 15) (.c .nilifc)), (some 16), none⟩])
 [0, 3, 9, 10, 11, 16]
 (.cond (.t 16) (.reg [⟨.op (.mv (.t 3)), (some 17), none⟩, ⟨.op (.bin .add 0 (.t 17) (.c (.int .i64 1))), (some 18), none⟩, ⟨.op (.mv (.t 18)), (some 3), none⟩]) (.skip)))))
 [0, 3, 9, 10, 11]
 (.reg [⟨.op (.bin .add 0 (.t 11) (.c (.int .i64 1))), (some 19), none⟩, ⟨.op (.mv (.t 19)), (some 11), none⟩])))
theorem u118_0 (call : DCall) (T : Tm) (st : Dv.St) : dCw Try.prog call l118_0 T st = dCw Try.prog call
 (.seq (.reg [⟨.op (.bin .lss 0 (.t 11) (.t 10)), (some 12), none⟩])
 [0, 3, 9, 10, 11, 12]
 (.seq (.cond (.t 12) (.skip) (.exit 0))
 [0, 3, 9, 10, 11]
 (.seq (.block 1 (.seq (.reg [⟨.op (.ia 1 none (.t 9) (.t 11)), (some 13), none⟩, ⟨.op (.ld1 (.t 13)), (some 14), none⟩, ⟨.op (.mv (.t 14)), (some 5), none⟩])
 [0, 3, 5, 9, 10, 11]
 (.seq (.reg [⟨.op (.mv (.t 5)), (some 15), none⟩, ⟨.op (.bin .neq 4 (.t 15) (.c .nilifc)), (some 16), none⟩])
 [0, 3, 9, 10, 11, 16]
 (.cond (.t 16) (.reg [⟨.op (.mv (.t 3)), (some 17), none⟩, ⟨.op (.bin .add 0 (.t 17) (.c (.int .i64 1))), (some 18), none⟩, ⟨.op (.mv (.t 18)), (some 3), none⟩]) (.skip)))))
 [0, 3, 9, 10, 11]
 (.reg [⟨.op (.bin .add 0 (.t 11) (.c (.int .i64 1))), (some 19), none⟩, ⟨.op (.mv (.t 19)), (some 11), none⟩])))) T st := rfl
noncomputable def l118_1 : DC :=
 .seq (.reg [⟨.op (.bin .lss 0 (.t 28) (.t 27)), (some 29), none⟩])
 [6, 26, 27, 28, 29]
 (.seq (.cond (.t 29) (.skip) (.exit 2))
 [6, 26, 27, 28]
 (.seq (.block 3 (.seq (.reg [⟨.op (.ia 1 none (.t 26) (.t 28)), (some 30), none⟩, ⟨.op (.ld1 (.t 30)), (some 31), none⟩, ⟨.op (.mv (.t 31)), (some 8), none⟩])
 [6, 8, 26, 27, 28]
 (.seq (.reg [⟨.op (.mv (.t 8)), (some 32), none⟩, ⟨.op (.bin .neq 4 (.t 32) (.c .nilifc)), (some 33), none⟩])
 [6, 8, 26, 27, 28, 33]
 (.cond (.t 33) (.reg [⟨.op (.mv (.t 6)), (some 34), none⟩, ⟨.op (.mv (.t 6)), (some 35), none⟩, ⟨.op (.nilchk (.t 35)), (some 36), none⟩, ⟨.op (.fa 0 (.t 36)), (some 37), none⟩, ⟨.op (.ld1 (.t 37)), (some 38), none⟩, ⟨.op (.mv (.t 8)), (some 39), none⟩, ⟨.op (.bslice 1 1 [.nilifc] [(0, 1, (.t 39))]), (some 40), none⟩, ⟨.op (.app 1 16 false (.t 38) (.t 40)), (some 41), none⟩, ⟨.op (.nilchk (.t 34)), (some 42), none⟩, ⟨.op (.fa 0 (.t 42)), (some 43), none⟩, ⟨.op (.st 1 (.t 43) (.t 41)), none, none⟩]) (.skip)))))
 [6, 26, 27, 28]
 (.reg [⟨.op (.bin .add 0 (.t 28) (.c (.int .i64 1))), (some 44), none⟩, ⟨.op (.mv (.t 44)), (some 28), none⟩])))
theorem u118_1 (call : DCall) (T : Tm) (st : Dv.St) : dCw Try.prog call l118_1 T st = dCw Try.prog call
 (.seq (.reg [⟨.op (.bin .lss 0 (.t 28) (.t 27)), (some 29), none⟩])
 [6, 26, 27, 28, 29]
 (.seq (.cond (.t 29) (.skip) (.exit 2))
 [6, 26, 27, 28]
 (.seq (.block 3 (.seq (.reg [⟨.op (.ia 1 none (.t 26) (.t 28)), (some 30), none⟩, ⟨.op (.ld1 (.t 30)), (some 31), none⟩, ⟨.op (.mv (.t 31)), (some 8), none⟩])
 [6, 8, 26, 27, 28]
 (.seq (.reg [⟨.op (.mv (.t 8)), (some 32), none⟩, ⟨.op (.bin .neq 4 (.t 32) (.c .nilifc)), (some 33), none⟩])
 [6, 8, 26, 27, 28, 33]
 (.cond (.t 33) (.reg [⟨.op (.mv (.t 6)), (some 34), none⟩, ⟨.op (.mv (.t 6)), (some 35), none⟩, ⟨.op (.nilchk (.t 35)), (some 36), none⟩, ⟨.op (.fa 0 (.t 36)), (some 37), none⟩, ⟨.op (.ld1 (.t 37)), (some 38), none⟩, ⟨.op (.mv (.t 8)), (some 39), none⟩, ⟨.op (.bslice 1 1 [.nilifc] [(0, 1, (.t 39))]), (some 40), none⟩, ⟨.op (.app 1 16 false (.t 38) (.t 40)), (some 41), none⟩, ⟨.op (.nilchk (.t 34)), (some 42), none⟩, ⟨.op (.fa 0 (.t 42)), (some 43), none⟩, ⟨.op (.st 1 (.t 43) (.t 41)), none, none⟩]) (.skip)))))
 [6, 26, 27, 28]
 (.reg [⟨.op (.bin .add 0 (.t 28) (.c (.int .i64 1))), (some 44), none⟩, ⟨.op (.mv (.t 44)), (some 28), none⟩])))) T st := rfl
/-- errors.Join -/
noncomputable def c118 : DFn := ⟨47, .pure,
 .seq (.reg [⟨.op (.mv (.c .nilifc)), (some 2), none⟩])
 [0]
 (.seq (.reg [⟨.op (.mv (.c (.int .i64 0))), (some 3), none⟩])
 [0, 3]
 (.seq (.seq (.reg [⟨.op (.mv (.t 0)), (some 9), none⟩, ⟨.op (.len (.t 9)), (some 10), none⟩, ⟨.op (.mv (.c (.int .i64 0))), (some 11), none⟩])
 [0, 3, 9, 10, 11]
 (.block 0 (.loop [0, 3, 9, 10, 11] (l118_0))))
 [0, 3]
 (.seq (.seq (.reg [⟨.op (.mv (.t 3)), (some 20), none⟩, ⟨.op (.bin .eql 0 (.t 20) (.c (.int .i64 0))), (some 21), none⟩])
 [0, 3, 21]
 (.cond (.t 21) (.seq (.reg [⟨.op (.mv (.c .nilifc)), (some 2), none⟩])
 [2]
 (.ret)) (.skip)))
 [0, 3]
 (.seq (.reg [⟨.op (.mv (.t 3)), (some 22), none⟩, ⟨.op (.mks 1 16 [.nilifc] (.c (.int .i64 0)) (.t 22)), (some 23), none⟩, ⟨.op (.build [(.sl none 0)] [(0, 1, (.t 23))]), (some 24), none⟩, ⟨.op (.box (.t 24)), (some 25), none⟩, ⟨.op (.mv (.t 25)), (some 6), none⟩])
 [0, 6]
 (.seq (.seq (.reg [⟨.op (.mv (.t 0)), (some 26), none⟩, ⟨.op (.len (.t 26)), (some 27), none⟩, ⟨.op (.mv (.c (.int .i64 0))), (some 28), none⟩])
 [6, 26, 27, 28]
 (.block 2 (.loop [6, 26, 27, 28] (l118_1))))
 [6]
 (.seq (.reg [⟨.op (.mv (.t 6)), (some 45), none⟩, ⟨.op (.ifc 160 (.t 45)), (some 46), none⟩, ⟨.op (.mv (.t 46)), (some 2), none⟩])
 [2]
 (.ret))))))),
 [.tmp 2]⟩
theorem k118 : cFn Try.prog 118 = some c118.toE := by kernel_rfl
theorem w118 : c118.body.wf = true := by kernel_rfl
/-- (cardamom/seen.head).Unwrap -/
noncomputable def c140 : DFn := ⟨5, .pure,
 .seq (.reg [⟨.op (.box (.t 0)), (some 1), none⟩, ⟨.op (.mv (.c .nilifc)), (some 2), none⟩])
 [1]
 (.seq (.reg [⟨.op (.fa 0 (.t 1)), (some 3), none⟩, ⟨.op (.ld1 (.t 3)), (some 4), none⟩, ⟨.op (.mv (.t 4)), (some 2), none⟩])
 [2]
 (.ret)),
 [.tmp 2]⟩
theorem k140 : cFn Try.prog 140 = some c140.toE := by kernel_rfl
theorem w140 : c140.body.wf = true := by kernel_rfl
/-- (cardamom/stamp.part).Unwrap -/
noncomputable def c157 : DFn := ⟨5, .pure,
 .seq (.reg [⟨.op (.box (.t 0)), (some 1), none⟩, ⟨.op (.mv (.c .nilifc)), (some 2), none⟩])
 [1]
 (.seq (.reg [⟨.op (.fa 1 (.t 1)), (some 3), none⟩, ⟨.op (.ld1 (.t 3)), (some 4), none⟩, ⟨.op (.mv (.t 4)), (some 2), none⟩])
 [2]
 (.ret)),
 [.tmp 2]⟩
theorem k157 : cFn Try.prog 157 = some c157.toE := by kernel_rfl
theorem w157 : c157.body.wf = true := by kernel_rfl
/-- (*errors.joinError).Unwrap -/
noncomputable def c155 : DFn := ⟨7, .pure,
 .seq (.reg [⟨.op (.mv (.c (.sl none 0))), (some 2), none⟩])
 [0]
 (.seq (.reg [⟨.op (.mv (.t 0)), (some 3), none⟩, ⟨.op (.nilchk (.t 3)), (some 4), none⟩, ⟨.op (.fa 0 (.t 4)), (some 5), none⟩, ⟨.op (.ld1 (.t 5)), (some 6), none⟩, ⟨.op (.mv (.t 6)), (some 2), none⟩])
 [2]
 (.ret)),
 [.tmp 2]⟩
theorem k155 : cFn Try.prog 155 = some c155.toE := by kernel_rfl
theorem w155 : c155.body.wf = true := by kernel_rfl
def tbl : Nat → Option DFn := fun f => bif Nat.beq f 7 then some c7 else bif Nat.beq f 8 then some c8 else bif Nat.beq f 9 then some c9 else bif Nat.beq f 11 then some c11 else bif Nat.beq f 37 then some c37 else bif Nat.beq f 38 then some c38 else bif Nat.beq f 16 then some c16 else bif Nat.beq f 39 then some c39 else bif Nat.beq f 40 then some c40 else bif Nat.beq f 68 then some c68 else bif Nat.beq f 27 then some c27 else bif Nat.beq f 34 then some c34 else bif Nat.beq f 69 then some c69 else bif Nat.beq f 35 then some c35 else bif Nat.beq f 36 then some c36 else bif Nat.beq f 43 then some c43 else bif Nat.beq f 46 then some c46 else bif Nat.beq f 99 then some c99 else bif Nat.beq f 73 then some c73 else bif Nat.beq f 101 then some c101 else bif Nat.beq f 41 then some c41 else bif Nat.beq f 42 then some c42 else bif Nat.beq f 44 then some c44 else bif Nat.beq f 74 then some c74 else bif Nat.beq f 45 then some c45 else bif Nat.beq f 47 then some c47 else bif Nat.beq f 71 then some c71 else bif Nat.beq f 72 then some c72 else bif Nat.beq f 100 then some c100 else bif Nat.beq f 75 then some c75 else bif Nat.beq f 98 then some c98 else bif Nat.beq f 114 then some c114 else bif Nat.beq f 119 then some c119 else bif Nat.beq f 86 then some c86 else bif Nat.beq f 102 then some c102 else bif Nat.beq f 108 then some c108 else bif Nat.beq f 70 then some c70 else bif Nat.beq f 97 then some c97 else bif Nat.beq f 118 then some c118 else bif Nat.beq f 140 then some c140 else bif Nat.beq f 157 then some c157 else bif Nat.beq f 155 then some c155 else none
def dx : DX := fun f => bif Nat.beq f 76 then some (dClone 4 32) else none
def ren77 : Go.Shelf.Ren := ⟨fun n => if n = 29 then 103 else if n = 30 then 104 else n, fun n => if n = 24 then 45 else if n = 9 then 59 else if n = 3 then 3 else if n = 4 then 4 else 0, fun n => n⟩
theorem lay77 : Go.Proofs.Ev.InsLay Try.prog ren77 77 ((Try.prog.info? 59).getD default).size ((Try.prog.info? 59).getD default) (((Try.prog.info? 59).getD default).zero.getD .nilFunc) where
  mixed := Try.checked.mixed
  hf := ⟨Try.f77.name, by rw [Try.func77]; exact congrArg some (show Try.f77 = { Go.Proofs.Body2.n22 ren77 with name := Try.f77.name } from by kernel_rfl)⟩
  hov := fun args w => run_callFunc_extern (fn := Try.f103) Try.func103 (by kernel_rfl) (by kernel_rfl) (by kernel_rfl) (e := Extern.SlicesOverlaps.overlaps #[45, 45] #[4]) (by kernel_rfl) args w
  t3 := by kernel_rfl
  a3 := fun w => Go.Proofs.Ev.tagg_run (by kernel_rfl) w
  z3 := fun w => Go.Proofs.Ev.tsize_run (by kernel_rfl) w
  v3 := fun w => Go.Proofs.Ev.zero_run (by kernel_rfl) w
  t4 := by kernel_rfl
  a4 := fun w => Go.Proofs.Ev.tagg_run (by kernel_rfl) w
  z4 := fun w => Go.Proofs.Ev.tsize_run (by kernel_rfl) w
  v4 := fun w => Go.Proofs.Ev.zero_run (by kernel_rfl) w
  t24 := by kernel_rfl
  a24 := fun w => Go.Proofs.Ev.tagg_run (by kernel_rfl) w
  z24 := fun w => Go.Proofs.Ev.tsize_run (by kernel_rfl) w
  v24 := fun w => Go.Proofs.Ev.zero_run (by kernel_rfl) w
  i9 := by kernel_rfl
  iz := rfl
  ib := Nat.le_of_ble_eq_true (by kernel_rfl)
  izv := by kernel_rfl
  hzv := by kernel_rfl
  hz0 := Nat.le_of_ble_eq_true (by kernel_rfl)
theorem siz77 : Prim.ins 4 32 = .ins ((Try.prog.info? 59).getD default).size ((Try.prog.info? 59).getD default).bytes := by kernel_rfl
def prims : Prims := fun f => bif Nat.beq f 77 then some (.ins 4 32) else none
theorem code_ok : ∀ f df, tbl f = some df → cFn Try.prog f = some df.toE ∧ df.body.wf = true := by
  intro f df h
  unfold tbl at h
  by_cases h7 : f = 7
  · subst h7; rw [Nat.beq_refl, cond_true] at h; rw [← Option.some.inj h]; exact ⟨k7, w7⟩
  rw [Ev.beq_false _ _ h7, cond_false] at h
  by_cases h8 : f = 8
  · subst h8; rw [Nat.beq_refl, cond_true] at h; rw [← Option.some.inj h]; exact ⟨k8, w8⟩
  rw [Ev.beq_false _ _ h8, cond_false] at h
  by_cases h9 : f = 9
  · subst h9; rw [Nat.beq_refl, cond_true] at h; rw [← Option.some.inj h]; exact ⟨k9, w9⟩
  rw [Ev.beq_false _ _ h9, cond_false] at h
  by_cases h11 : f = 11
  · subst h11; rw [Nat.beq_refl, cond_true] at h; rw [← Option.some.inj h]; exact ⟨k11, w11⟩
  rw [Ev.beq_false _ _ h11, cond_false] at h
  by_cases h37 : f = 37
  · subst h37; rw [Nat.beq_refl, cond_true] at h; rw [← Option.some.inj h]; exact ⟨k37, w37⟩
  rw [Ev.beq_false _ _ h37, cond_false] at h
  by_cases h38 : f = 38
  · subst h38; rw [Nat.beq_refl, cond_true] at h; rw [← Option.some.inj h]; exact ⟨k38, w38⟩
  rw [Ev.beq_false _ _ h38, cond_false] at h
  by_cases h16 : f = 16
  · subst h16; rw [Nat.beq_refl, cond_true] at h; rw [← Option.some.inj h]; exact ⟨k16, w16⟩
  rw [Ev.beq_false _ _ h16, cond_false] at h
  by_cases h39 : f = 39
  · subst h39; rw [Nat.beq_refl, cond_true] at h; rw [← Option.some.inj h]; exact ⟨k39, w39⟩
  rw [Ev.beq_false _ _ h39, cond_false] at h
  by_cases h40 : f = 40
  · subst h40; rw [Nat.beq_refl, cond_true] at h; rw [← Option.some.inj h]; exact ⟨k40, w40⟩
  rw [Ev.beq_false _ _ h40, cond_false] at h
  by_cases h68 : f = 68
  · subst h68; rw [Nat.beq_refl, cond_true] at h; rw [← Option.some.inj h]; exact ⟨k68, w68⟩
  rw [Ev.beq_false _ _ h68, cond_false] at h
  by_cases h27 : f = 27
  · subst h27; rw [Nat.beq_refl, cond_true] at h; rw [← Option.some.inj h]; exact ⟨k27, w27⟩
  rw [Ev.beq_false _ _ h27, cond_false] at h
  by_cases h34 : f = 34
  · subst h34; rw [Nat.beq_refl, cond_true] at h; rw [← Option.some.inj h]; exact ⟨k34, w34⟩
  rw [Ev.beq_false _ _ h34, cond_false] at h
  by_cases h69 : f = 69
  · subst h69; rw [Nat.beq_refl, cond_true] at h; rw [← Option.some.inj h]; exact ⟨k69, w69⟩
  rw [Ev.beq_false _ _ h69, cond_false] at h
  by_cases h35 : f = 35
  · subst h35; rw [Nat.beq_refl, cond_true] at h; rw [← Option.some.inj h]; exact ⟨k35, w35⟩
  rw [Ev.beq_false _ _ h35, cond_false] at h
  by_cases h36 : f = 36
  · subst h36; rw [Nat.beq_refl, cond_true] at h; rw [← Option.some.inj h]; exact ⟨k36, w36⟩
  rw [Ev.beq_false _ _ h36, cond_false] at h
  by_cases h43 : f = 43
  · subst h43; rw [Nat.beq_refl, cond_true] at h; rw [← Option.some.inj h]; exact ⟨k43, w43⟩
  rw [Ev.beq_false _ _ h43, cond_false] at h
  by_cases h46 : f = 46
  · subst h46; rw [Nat.beq_refl, cond_true] at h; rw [← Option.some.inj h]; exact ⟨k46, w46⟩
  rw [Ev.beq_false _ _ h46, cond_false] at h
  by_cases h99 : f = 99
  · subst h99; rw [Nat.beq_refl, cond_true] at h; rw [← Option.some.inj h]; exact ⟨k99, w99⟩
  rw [Ev.beq_false _ _ h99, cond_false] at h
  by_cases h73 : f = 73
  · subst h73; rw [Nat.beq_refl, cond_true] at h; rw [← Option.some.inj h]; exact ⟨k73, w73⟩
  rw [Ev.beq_false _ _ h73, cond_false] at h
  by_cases h101 : f = 101
  · subst h101; rw [Nat.beq_refl, cond_true] at h; rw [← Option.some.inj h]; exact ⟨k101, w101⟩
  rw [Ev.beq_false _ _ h101, cond_false] at h
  by_cases h41 : f = 41
  · subst h41; rw [Nat.beq_refl, cond_true] at h; rw [← Option.some.inj h]; exact ⟨k41, w41⟩
  rw [Ev.beq_false _ _ h41, cond_false] at h
  by_cases h42 : f = 42
  · subst h42; rw [Nat.beq_refl, cond_true] at h; rw [← Option.some.inj h]; exact ⟨k42, w42⟩
  rw [Ev.beq_false _ _ h42, cond_false] at h
  by_cases h44 : f = 44
  · subst h44; rw [Nat.beq_refl, cond_true] at h; rw [← Option.some.inj h]; exact ⟨k44, w44⟩
  rw [Ev.beq_false _ _ h44, cond_false] at h
  by_cases h74 : f = 74
  · subst h74; rw [Nat.beq_refl, cond_true] at h; rw [← Option.some.inj h]; exact ⟨k74, w74⟩
  rw [Ev.beq_false _ _ h74, cond_false] at h
  by_cases h45 : f = 45
  · subst h45; rw [Nat.beq_refl, cond_true] at h; rw [← Option.some.inj h]; exact ⟨k45, w45⟩
  rw [Ev.beq_false _ _ h45, cond_false] at h
  by_cases h47 : f = 47
  · subst h47; rw [Nat.beq_refl, cond_true] at h; rw [← Option.some.inj h]; exact ⟨k47, w47⟩
  rw [Ev.beq_false _ _ h47, cond_false] at h
  by_cases h71 : f = 71
  · subst h71; rw [Nat.beq_refl, cond_true] at h; rw [← Option.some.inj h]; exact ⟨k71, w71⟩
  rw [Ev.beq_false _ _ h71, cond_false] at h
  by_cases h72 : f = 72
  · subst h72; rw [Nat.beq_refl, cond_true] at h; rw [← Option.some.inj h]; exact ⟨k72, w72⟩
  rw [Ev.beq_false _ _ h72, cond_false] at h
  by_cases h100 : f = 100
  · subst h100; rw [Nat.beq_refl, cond_true] at h; rw [← Option.some.inj h]; exact ⟨k100, w100⟩
  rw [Ev.beq_false _ _ h100, cond_false] at h
  by_cases h75 : f = 75
  · subst h75; rw [Nat.beq_refl, cond_true] at h; rw [← Option.some.inj h]; exact ⟨k75, w75⟩
  rw [Ev.beq_false _ _ h75, cond_false] at h
  by_cases h98 : f = 98
  · subst h98; rw [Nat.beq_refl, cond_true] at h; rw [← Option.some.inj h]; exact ⟨k98, w98⟩
  rw [Ev.beq_false _ _ h98, cond_false] at h
  by_cases h114 : f = 114
  · subst h114; rw [Nat.beq_refl, cond_true] at h; rw [← Option.some.inj h]; exact ⟨k114, w114⟩
  rw [Ev.beq_false _ _ h114, cond_false] at h
  by_cases h119 : f = 119
  · subst h119; rw [Nat.beq_refl, cond_true] at h; rw [← Option.some.inj h]; exact ⟨k119, w119⟩
  rw [Ev.beq_false _ _ h119, cond_false] at h
  by_cases h86 : f = 86
  · subst h86; rw [Nat.beq_refl, cond_true] at h; rw [← Option.some.inj h]; exact ⟨k86, w86⟩
  rw [Ev.beq_false _ _ h86, cond_false] at h
  by_cases h102 : f = 102
  · subst h102; rw [Nat.beq_refl, cond_true] at h; rw [← Option.some.inj h]; exact ⟨k102, w102⟩
  rw [Ev.beq_false _ _ h102, cond_false] at h
  by_cases h108 : f = 108
  · subst h108; rw [Nat.beq_refl, cond_true] at h; rw [← Option.some.inj h]; exact ⟨k108, w108⟩
  rw [Ev.beq_false _ _ h108, cond_false] at h
  by_cases h70 : f = 70
  · subst h70; rw [Nat.beq_refl, cond_true] at h; rw [← Option.some.inj h]; exact ⟨k70, w70⟩
  rw [Ev.beq_false _ _ h70, cond_false] at h
  by_cases h97 : f = 97
  · subst h97; rw [Nat.beq_refl, cond_true] at h; rw [← Option.some.inj h]; exact ⟨k97, w97⟩
  rw [Ev.beq_false _ _ h97, cond_false] at h
  by_cases h118 : f = 118
  · subst h118; rw [Nat.beq_refl, cond_true] at h; rw [← Option.some.inj h]; exact ⟨k118, w118⟩
  rw [Ev.beq_false _ _ h118, cond_false] at h
  by_cases h140 : f = 140
  · subst h140; rw [Nat.beq_refl, cond_true] at h; rw [← Option.some.inj h]; exact ⟨k140, w140⟩
  rw [Ev.beq_false _ _ h140, cond_false] at h
  by_cases h157 : f = 157
  · subst h157; rw [Nat.beq_refl, cond_true] at h; rw [← Option.some.inj h]; exact ⟨k157, w157⟩
  rw [Ev.beq_false _ _ h157, cond_false] at h
  by_cases h155 : f = 155
  · subst h155; rw [Nat.beq_refl, cond_true] at h; rw [← Option.some.inj h]; exact ⟨k155, w155⟩
  rw [Ev.beq_false _ _ h155, cond_false] at h
  cases h
theorem ext_ok : ∀ f g, prims f = none → dx f = some g → ∀ (k : Nat) (ds : List D) (st : Dv.St) (r : D × Dv.St × List Nat) (c : Ct) (H : Heap) (vs : List V), g ds st = some r → SR c st H → Row (DR c H) ds vs → Fol c st H r (eFn Try.prog prims (cFn Try.prog) listHP (k + 1) f vs H) := by
  intro f g _ h
  unfold dx at h
  by_cases h76 : f = 76
  · subst h76; rw [Nat.beq_refl, cond_true] at h; rw [← Option.some.inj h]; exact clone_ok (z := 4) (bytes := 32) (by kernel_rfl) k76
  rw [Ev.beq_false _ _ h76, cond_false] at h
  cases h
theorem tbl_ok : TblOK Try.prog prims (cFn Try.prog) dx tbl := ⟨fun f df _ _ h => code_ok f df h, ext_ok⟩
theorem prims_ok : PrimsOK Try.prog prims := by
  intro f p h
  unfold prims at h
  by_cases h77 : f = 77
  · subst h77
    rw [Nat.beq_refl, cond_true] at h
    rw [← Option.some.inj h, siz77]
    exact ⟨by kernel_rfl, fun vs H v H' he β cs w hr s => Go.Proofs.Ev.evIns_ok lay77 (by intro hz; have : (Go.Proofs.Ev.zeroV Try.prog 59).isSome = true := by kernel_rfl
                                                                                          rw [show ren77.t 9 = 59 from rfl] at hz; rw [hz] at this; cases this) vs H v H' he β cs w hr s⟩
  rw [Go.Proofs.Ev.beq_false _ _ h77, cond_false] at h
  cases h
end
end Go.Proofs.Ytmbboljcgpccfaa.Cd
