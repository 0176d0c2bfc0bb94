/-
  What is proved here: the texts of the functions, looked up.
  Conditions: none.
-/
import Derived.Test.YtpinhopgeaamdaaRows
import Derived.Test.YtpinhopgeaamdaaDv2
import Derived.KernelRfl
set_option linter.unusedVariables false
set_option linter.unusedSimpArgs false
set_option maxRecDepth 100000
namespace Go.Proofs.Ytpinhopgeaamdaa.Cd
open Go Go.Proofs Go.Proofs.Ev Go.Proofs.Dv
noncomputable section
/-- cardamom/cardamomlaw1.StampAll -/
noncomputable def c3 : DFn := ⟨82, .pure,
 .seq (.reg [⟨.op (.box (.t 0)), (some 6), none⟩, ⟨.op (.box (.t 1)), (some 7), none⟩, ⟨.op (.mv (.c (.bool false))), (some 12), none⟩])
 [2, 3, 4, 5, 6, 7, 51, 52, 55, 56, 57, 58, 59, 60, 61, 64, 65, 66, 67, 68, 69, 70, 73, 74, 75, 78, 79, 80]
 (.seq (.seq (.reg [⟨.call 14 [], (some 20), none⟩, ⟨.op (.not (.t 20)), (some 21), none⟩])
 [2, 3, 4, 5, 6, 7, 21, 51, 52, 55, 56, 57, 58, 59, 60, 61, 64, 65, 66, 67, 68, 69, 70, 73, 74, 75, 78, 79, 80]
 (.cond (.t 21) (.seq (.reg [⟨.op (.mv (.c (.bool false))), (some 12), none⟩])
 [12]
 (.ret)) (.skip)))
 [2, 3, 4, 5, 6, 7, 51, 52, 55, 56, 57, 58, 59, 60, 61, 64, 65, 66, 67, 68, 69, 70, 73, 74, 75, 78, 79, 80]
 (.seq (.seq (.reg [⟨.op (.mv (.t 5)), (some 22), none⟩, ⟨.op (.len (.t 22)), (some 23), none⟩, ⟨.op (.bin .gtr 0 (.t 23) (.c (.int .i64 10))), (some 24), none⟩])
 [2, 3, 4, 5, 6, 7, 24, 51, 52, 55, 56, 57, 58, 59, 60, 61, 64, 65, 66, 67, 68, 69, 70, 73, 74, 75, 78, 79, 80]
 (.cond (.t 24) (.seq (.reg [⟨.op (.mv (.c (.bool true))), (some 12), none⟩])
 [12]
 (.ret)) (.skip)))
 [2, 3, 4, 5, 6, 7, 51, 52, 55, 56, 57, 58, 59, 60, 61, 64, 65, 66, 67, 68, 69, 70, 73, 74, 75, 78, 79, 80]
 (.seq (.reg [⟨.op (.mv (.t 5)), (some 25), none⟩, ⟨.call 15 [(.t 25)], (some 26), none⟩, ⟨.op (.mv (.t 26)), (some 13), none⟩])
 [2, 3, 4, 6, 7, 13, 51, 52, 55, 56, 57, 58, 59, 60, 61, 64, 65, 66, 67, 68, 69, 70, 73, 74, 75, 78, 79, 80]
 (.seq (.reg [⟨.op (.mv (.t 13)), (some 27), none⟩, ⟨.call 16 [(.t 27)], (some 28), none⟩, ⟨.op (.mv (.t 13)), (some 29), none⟩, ⟨.call 16 [(.t 29)], (some 30), none⟩, ⟨.op (.new [(.int .i64 0), (.int .i64 0), (.int .i64 0)]), (some 14), none⟩, ⟨.op (.new [(.int .i64 0), (.int .i64 0), (.int .i64 0)]), (some 15), none⟩, ⟨.op (.st 3 (.t 14) (.t 28)), none, none⟩, ⟨.op (.st 3 (.t 15) (.t 30)), none, none⟩])
 [2, 3, 4, 6, 7, 14, 15, 51, 52, 55, 56, 57, 58, 59, 60, 61, 64, 65, 66, 67, 68, 69, 70, 73, 74, 75, 78, 79, 80]
 (.seq (.reg [⟨.op (.mv (.t 2)), (some 32), none⟩, ⟨.op (.mv (.t 3)), (some 33), none⟩, ⟨.op (.mv (.t 4)), (some 34), none⟩, ⟨.call 17 [(.t 32), (.t 33), (.t 34)], (some 35), none⟩, ⟨.op (.mv (.t 35)), (some 31), none⟩, ⟨.op (.ext (.t 31) 0), (some 36), none⟩, ⟨.op (.ext (.t 31) 1), (some 37), none⟩, ⟨.op (.new [(.int .i64 0), (.int .i64 0), (.int .i64 0)]), (some 16), none⟩, ⟨.op (.st 3 (.t 16) (.t 36)), none, none⟩, ⟨.op (.mv (.t 37)), (some 17), none⟩])
 [2, 3, 4, 6, 7, 14, 15, 16, 17, 51, 52, 55, 56, 57, 58, 59, 60, 61, 64, 65, 66, 67, 68, 69, 70, 73, 74, 75, 78, 79, 80]
 (.seq (.reg [⟨.op (.mv (.t 2)), (some 39), none⟩, ⟨.op (.mv (.t 3)), (some 40), none⟩, ⟨.op (.mv (.t 4)), (some 41), none⟩, ⟨.call 18 [(.t 39), (.t 40), (.t 41)], (some 42), none⟩, ⟨.op (.mv (.t 42)), (some 38), none⟩, ⟨.op (.ext (.t 38) 0), (some 43), none⟩, ⟨.op (.ext (.t 38) 1), (some 44), none⟩, ⟨.op (.new [(.int .i64 0), (.int .i64 0), (.int .i64 0)]), (some 18), none⟩, ⟨.op (.st 3 (.t 18) (.t 43)), none, none⟩, ⟨.op (.mv (.t 44)), (some 19), none⟩])
 [6, 7, 14, 15, 16, 17, 18, 19, 51, 52, 55, 56, 57, 58, 59, 60, 61, 64, 65, 66, 67, 68, 69, 70, 73, 74, 75, 78, 79, 80]
 (.seq (.drw [⟨⟨.op (.ldn 3 (.t 6)), (some 45), none⟩, .n, []⟩, ⟨⟨.op (.ldn 3 (.t 6)), (some 47), none⟩, .n, []⟩, ⟨⟨.call 19 [(.t 45)], (some 46), none⟩, .x, [(true, 1)]⟩, ⟨⟨.call 20 [(.t 47)], (some 48), none⟩, .x, []⟩, ⟨⟨.op (.bin .eql 5 (.t 46) (.t 48)), (some 49), none⟩, .n, []⟩, ⟨⟨.op (.mv (.t 49)), (some 50), none⟩, .n, []⟩, ⟨⟨.op (.ldn 3 (.t 14)), (some 51), (some (50, true))⟩, .n, []⟩, ⟨⟨.call 19 [(.t 51)], (some 52), (some (50, true))⟩, .x, []⟩, ⟨⟨.op (.pick (.t 50) (.t 52) (.c (.bool false))), (some 53), none⟩, .n, []⟩, ⟨⟨.op (.mv (.t 53)), (some 54), none⟩, .n, []⟩, ⟨⟨.op (.ldn 3 (.t 6)), (some 55), (some (54, true))⟩, .n, []⟩, ⟨⟨.op (.ldn 3 (.t 7)), (some 56), (some (54, true))⟩, .n, []⟩, ⟨⟨.op (.ldn 3 (.t 6)), (some 58), (some (54, true))⟩, .n, []⟩, ⟨⟨.op (.ldn 3 (.t 7)), (some 59), (some (54, true))⟩, .n, []⟩, ⟨⟨.call 21 [(.t 55), (.t 56)], (some 57), (some (54, true))⟩, .x, [(true, 13), (true, 12)]⟩, ⟨⟨.call 22 [(.t 58), (.t 59)], (some 60), (some (54, true))⟩, .x, []⟩, ⟨⟨.op (.bin .eql 0 (.t 57) (.t 60)), (some 61), (some (54, true))⟩, .n, []⟩, ⟨⟨.op (.pick (.t 54) (.t 61) (.c (.bool false))), (some 62), none⟩, .n, []⟩, ⟨⟨.op (.mv (.t 62)), (some 63), none⟩, .n, []⟩, ⟨⟨.op (.ldn 3 (.t 14)), (some 64), (some (63, true))⟩, .n, []⟩, ⟨⟨.op (.ldn 3 (.t 15)), (some 65), (some (63, true))⟩, .n, []⟩, ⟨⟨.op (.ldn 3 (.t 14)), (some 67), (some (63, true))⟩, .n, []⟩, ⟨⟨.op (.ldn 3 (.t 15)), (some 68), (some (63, true))⟩, .n, []⟩, ⟨⟨.call 21 [(.t 64), (.t 65)], (some 66), (some (63, true))⟩, .x, [(true, 22), (true, 21)]⟩, ⟨⟨.call 22 [(.t 67), (.t 68)], (some 69), (some (63, true))⟩, .x, []⟩, ⟨⟨.op (.bin .eql 0 (.t 66) (.t 69)), (some 70), (some (63, true))⟩, .n, []⟩, ⟨⟨.op (.pick (.t 63) (.t 70) (.c (.bool false))), (some 71), none⟩, .n, []⟩, ⟨⟨.op (.mv (.t 71)), (some 72), none⟩, .n, []⟩, ⟨⟨.op (.mv (.t 17)), (some 73), (some (72, true))⟩, .n, []⟩, ⟨⟨.op (.mv (.t 19)), (some 74), (some (72, true))⟩, .n, []⟩, ⟨⟨.op (.bin .eql 5 (.t 73) (.t 74)), (some 75), (some (72, true))⟩, .n, []⟩, ⟨⟨.op (.pick (.t 72) (.t 75) (.c (.bool false))), (some 76), none⟩, .n, []⟩, ⟨⟨.op (.mv (.t 76)), (some 77), none⟩, .n, []⟩, ⟨⟨.op (.ldn 3 (.t 16)), (some 78), (some (77, true))⟩, .n, []⟩, ⟨⟨.op (.ldn 3 (.t 18)), (some 79), (some (77, true))⟩, .n, []⟩, ⟨⟨.op (.slow (operAt Try.prog 3 76)), (some 80), (some (77, true))⟩, .n, []⟩, ⟨⟨.op (.pick (.t 77) (.t 80) (.c (.bool false))), (some 81), none⟩, .n, []⟩, ⟨⟨.op (.mv (.t 81)), (some 12), none⟩, .x, []⟩])
 [12]
 (.ret)))))))),
 [.tmp 12]⟩
theorem k3 : cFn Try.prog 3 = some c3.toE := by kernel_rfl
theorem w3 : c3.body.wf = true := by kernel_rfl
/-- cardamom/cardamomlaw1.StampOrder -/
noncomputable def c4 : DFn := ⟨66, .pure,
 .seq (.reg [⟨.op (.box (.t 0)), (some 3), none⟩, ⟨.op (.box (.t 1)), (some 4), none⟩, ⟨.op (.box (.t 2)), (some 5), none⟩, ⟨.op (.mv (.c (.bool false))), (some 6), none⟩])
 [3, 4, 5, 28, 29, 32, 33, 36, 37, 38, 39, 40, 41, 46, 47, 50, 51, 54, 55, 56, 57, 58, 59, 60, 61, 62, 63]
 (.seq (.seq (.reg [⟨.call 14 [], (some 10), none⟩, ⟨.op (.not (.t 10)), (some 11), none⟩])
 [3, 4, 5, 11, 28, 29, 32, 33, 36, 37, 38, 39, 40, 41, 46, 47, 50, 51, 54, 55, 56, 57, 58, 59, 60, 61, 62, 63]
 (.cond (.t 11) (.seq (.reg [⟨.op (.mv (.c (.bool false))), (some 6), none⟩])
 [6]
 (.ret)) (.skip)))
 [3, 4, 5, 28, 29, 32, 33, 36, 37, 38, 39, 40, 41, 46, 47, 50, 51, 54, 55, 56, 57, 58, 59, 60, 61, 62, 63]
 (.seq (.drw [⟨⟨.op (.ldn 3 (.t 3)), (some 12), none⟩, .n, []⟩, ⟨⟨.op (.ldn 3 (.t 4)), (some 13), none⟩, .n, []⟩, ⟨⟨.op (.ldn 3 (.t 4)), (some 15), none⟩, .n, []⟩, ⟨⟨.op (.ldn 3 (.t 5)), (some 16), none⟩, .n, []⟩, ⟨⟨.op (.ldn 3 (.t 3)), (some 18), none⟩, .n, []⟩, ⟨⟨.op (.ldn 3 (.t 5)), (some 19), none⟩, .n, []⟩, ⟨⟨.call 21 [(.t 12), (.t 13)], (some 14), none⟩, .x, [(true, 5), (true, 4), (true, 3), (true, 2)]⟩, ⟨⟨.call 21 [(.t 15), (.t 16)], (some 17), none⟩, .x, [(true, 5), (true, 4)]⟩, ⟨⟨.call 21 [(.t 18), (.t 19)], (some 20), none⟩, .x, []⟩, ⟨⟨.op (.mv (.t 14)), (some 7), none⟩, .x, []⟩, ⟨⟨.op (.mv (.t 17)), (some 8), none⟩, .x, []⟩, ⟨⟨.op (.mv (.t 20)), (some 9), none⟩, .x, []⟩])
 [3, 4, 7, 8, 9, 28, 29, 32, 33, 36, 37, 38, 39, 40, 41, 46, 47, 50, 51, 54, 55, 56, 57, 58, 59, 60, 61, 62, 63]
 (.seq (.seq (.reg [⟨.op (.mv (.t 7)), (some 21), none⟩, ⟨.op (.ldn 3 (.t 4)), (some 22), none⟩, ⟨.op (.ldn 3 (.t 3)), (some 23), none⟩, ⟨.call 21 [(.t 22), (.t 23)], (some 24), none⟩, ⟨.op (.slow (operAt Try.prog 4 23)), (some 25), none⟩, ⟨.op (.bin .neq 0 (.t 21) (.t 25)), (some 26), none⟩, ⟨.op (.mv (.t 26)), (some 27), none⟩, ⟨.op (.mv (.t 7)), (some 28), (some (27, false))⟩, ⟨.op (.bin .lss 0 (.t 28) (.c (.int .i64 (-1)))), (some 29), (some (27, false))⟩, ⟨.op (.pick (.t 27) (.c (.bool true)) (.t 29)), (some 30), none⟩, ⟨.op (.mv (.t 30)), (some 31), none⟩, ⟨.op (.mv (.t 7)), (some 32), (some (31, false))⟩, ⟨.op (.bin .gtr 0 (.t 32) (.c (.int .i64 1))), (some 33), (some (31, false))⟩, ⟨.op (.pick (.t 31) (.c (.bool true)) (.t 33)), (some 34), none⟩, ⟨.op (.mv (.t 34)), (some 35), none⟩, ⟨.op (.mv (.t 7)), (some 36), (some (35, false))⟩, ⟨.op (.bin .eql 0 (.t 36) (.c (.int .i64 0))), (some 37), (some (35, false))⟩, ⟨.op (.ldn 3 (.t 3)), (some 38), (some (35, false))⟩, ⟨.op (.ldn 3 (.t 4)), (some 39), (some (35, false))⟩, ⟨.op (.slow (operAt Try.prog 4 38)), (some 40), (some (35, false))⟩, ⟨.op (.bin .neq 5 (.t 37) (.t 40)), (some 41), (some (35, false))⟩, ⟨.op (.pick (.t 35) (.c (.bool true)) (.t 41)), (some 42), none⟩])
 [7, 8, 9, 42, 46, 47, 50, 51, 54, 55, 56, 57, 58, 59, 60, 61, 62, 63]
 (.cond (.t 42) (.seq (.reg [⟨.op (.mv (.c (.bool false))), (some 6), none⟩])
 [6]
 (.ret)) (.skip)))
 [7, 8, 9, 46, 47, 50, 51, 54, 55, 56, 57, 58, 59, 60, 61, 62, 63]
 (.seq (.reg [⟨.op (.mv (.t 7)), (some 43), none⟩, ⟨.op (.bin .leq 0 (.t 43) (.c (.int .i64 0))), (some 44), none⟩, ⟨.op (.mv (.t 44)), (some 45), none⟩, ⟨.op (.mv (.t 8)), (some 46), (some (45, true))⟩, ⟨.op (.bin .leq 0 (.t 46) (.c (.int .i64 0))), (some 47), (some (45, true))⟩, ⟨.op (.pick (.t 45) (.t 47) (.c (.bool false))), (some 48), none⟩, ⟨.op (.mv (.t 48)), (some 49), none⟩, ⟨.op (.mv (.t 9)), (some 50), (some (49, true))⟩, ⟨.op (.bin .gtr 0 (.t 50) (.c (.int .i64 0))), (some 51), (some (49, true))⟩, ⟨.op (.pick (.t 49) (.t 51) (.c (.bool false))), (some 52), none⟩, ⟨.op (.mv (.t 52)), (some 53), none⟩, ⟨.op (.mv (.t 7)), (some 54), (some (53, false))⟩, ⟨.op (.bin .lss 0 (.t 54) (.c (.int .i64 0))), (some 55), (some (53, false))⟩, ⟨.op (.mv (.t 55)), (some 56), (some (53, false))⟩, ⟨.op (.mv (.t 8)), (some 57), (some (56, true))⟩, ⟨.op (.bin .leq 0 (.t 57) (.c (.int .i64 0))), (some 58), (some (56, true))⟩, ⟨.op (.pick (.t 56) (.t 58) (.c (.bool false))), (some 59), (some (53, false))⟩, ⟨.op (.mv (.t 59)), (some 60), (some (53, false))⟩, ⟨.op (.mv (.t 9)), (some 61), (some (60, true))⟩, ⟨.op (.bin .geq 0 (.t 61) (.c (.int .i64 0))), (some 62), (some (60, true))⟩, ⟨.op (.pick (.t 60) (.t 62) (.c (.bool false))), (some 63), (some (53, false))⟩, ⟨.op (.pick (.t 53) (.c (.bool true)) (.t 63)), (some 64), none⟩, ⟨.op (.not (.t 64)), (some 65), none⟩, ⟨.op (.mv (.t 65)), (some 6), none⟩])
 [6]
 (.ret))))),
 [.tmp 6]⟩
theorem k4 : cFn Try.prog 4 = some c4.toE := by kernel_rfl
theorem w4 : c4.body.wf = true := by kernel_rfl
/-- cardamom/cardamomlaw1.StampNext -/
noncomputable def c5 : DFn := ⟨57, .pure,
 .seq (.reg [⟨.op (.box (.t 3)), (some 7), none⟩, ⟨.op (.mv (.c (.bool false))), (some 8), none⟩])
 [0, 1, 2, 7, 32, 33, 34, 35, 38, 39, 40, 41, 42, 45, 46, 47, 48, 51, 52, 53, 54, 55]
 (.seq (.seq (.reg [⟨.call 14 [], (some 11), none⟩, ⟨.op (.not (.t 11)), (some 12), none⟩])
 [0, 1, 2, 7, 12, 32, 33, 34, 35, 38, 39, 40, 41, 42, 45, 46, 47, 48, 51, 52, 53, 54, 55]
 (.cond (.t 12) (.seq (.reg [⟨.op (.mv (.c (.bool false))), (some 8), none⟩])
 [8]
 (.ret)) (.skip)))
 [0, 1, 2, 7, 32, 33, 34, 35, 38, 39, 40, 41, 42, 45, 46, 47, 48, 51, 52, 53, 54, 55]
 (.seq (.reg [⟨.op (.mv (.t 0)), (some 14), none⟩, ⟨.op (.mv (.t 1)), (some 15), none⟩, ⟨.op (.mv (.t 2)), (some 16), none⟩, ⟨.call 17 [(.t 14), (.t 15), (.t 16)], (some 17), none⟩, ⟨.op (.mv (.t 17)), (some 13), none⟩, ⟨.op (.ext (.t 13) 0), (some 18), none⟩, ⟨.op (.ext (.t 13) 1), (some 19), none⟩, ⟨.op (.new [(.int .i64 0), (.int .i64 0), (.int .i64 0)]), (some 9), none⟩, ⟨.op (.st 3 (.t 9) (.t 18)), none, none⟩, ⟨.op (.mv (.t 19)), (some 10), none⟩])
 [0, 1, 2, 7, 9, 10, 32, 33, 34, 35, 38, 39, 40, 41, 42, 45, 46, 47, 48, 51, 52, 53, 54, 55]
 (.seq (.seq (.reg [⟨.op (.mv (.t 10)), (some 20), none⟩, ⟨.op (.not (.t 20)), (some 21), none⟩])
 [0, 1, 2, 7, 9, 21, 32, 33, 34, 35, 38, 39, 40, 41, 42, 45, 46, 47, 48, 51, 52, 53, 54, 55]
 (.cond (.t 21) (.seq (.reg [⟨.op (.ldn 3 (.t 9)), (some 22), none⟩, ⟨.op (.build [(.int .i64 0), (.int .i64 0), (.int .i64 0)] []), (some 23), none⟩, ⟨.op (.slow (operAt Try.prog 5 19)), (some 24), none⟩, ⟨.op (.mv (.t 24)), (some 8), none⟩])
 [8]
 (.ret)) (.skip)))
 [0, 1, 2, 7, 9, 32, 33, 34, 35, 38, 39, 40, 41, 42, 45, 46, 47, 48, 51, 52, 53, 54, 55]
 (.seq (.seq (.reg [⟨.op (.fa 0 (.t 7)), (some 25), none⟩, ⟨.op (.ld1 (.t 25)), (some 26), none⟩, ⟨.op (.mv (.t 0)), (some 27), none⟩, ⟨.op (.bin .gtr 0 (.t 26) (.t 27)), (some 28), none⟩])
 [0, 1, 2, 7, 9, 28, 32, 33, 34, 35, 38, 39, 40, 41, 42, 45, 46, 47, 48, 51, 52, 53, 54, 55]
 (.cond (.t 28) (.seq (.reg [⟨.op (.mv (.c (.bool true))), (some 8), none⟩])
 [8]
 (.ret)) (.skip)))
 [0, 1, 2, 7, 9, 32, 33, 34, 35, 38, 39, 40, 41, 42, 45, 46, 47, 48, 51, 52, 53, 54, 55]
 (.seq (.reg [⟨.op (.ldn 3 (.t 9)), (some 29), none⟩, ⟨.call 19 [(.t 29)], (some 30), none⟩, ⟨.op (.mv (.t 30)), (some 31), none⟩, ⟨.op (.ldn 3 (.t 7)), (some 32), (some (31, true))⟩, ⟨.op (.ldn 3 (.t 9)), (some 33), (some (31, true))⟩, ⟨.call 21 [(.t 32), (.t 33)], (some 34), (some (31, true))⟩, ⟨.op (.bin .eql 0 (.t 34) (.c (.int .i64 (-1)))), (some 35), (some (31, true))⟩, ⟨.op (.pick (.t 31) (.t 35) (.c (.bool false))), (some 36), none⟩, ⟨.op (.mv (.t 36)), (some 37), none⟩, ⟨.op (.fa 0 (.t 9)), (some 38), (some (37, true))⟩, ⟨.op (.ld1 (.t 38)), (some 39), (some (37, true))⟩, ⟨.op (.mv (.t 0)), (some 40), (some (37, true))⟩, ⟨.op (.bin .add 0 (.t 40) (.c (.int .i64 1))), (some 41), (some (37, true))⟩, ⟨.op (.bin .eql 0 (.t 39) (.t 41)), (some 42), (some (37, true))⟩, ⟨.op (.pick (.t 37) (.t 42) (.c (.bool false))), (some 43), none⟩, ⟨.op (.mv (.t 43)), (some 44), none⟩, ⟨.op (.fa 1 (.t 9)), (some 45), (some (44, true))⟩, ⟨.op (.ld1 (.t 45)), (some 46), (some (44, true))⟩, ⟨.op (.mv (.t 1)), (some 47), (some (44, true))⟩, ⟨.op (.bin .eql 0 (.t 46) (.t 47)), (some 48), (some (44, true))⟩, ⟨.op (.pick (.t 44) (.t 48) (.c (.bool false))), (some 49), none⟩, ⟨.op (.mv (.t 49)), (some 50), none⟩, ⟨.op (.fa 2 (.t 9)), (some 51), (some (50, true))⟩, ⟨.op (.ld1 (.t 51)), (some 52), (some (50, true))⟩, ⟨.op (.mv (.t 2)), (some 53), (some (50, true))⟩, ⟨.op (.bin .add 0 (.t 53) (.c (.int .i64 1))), (some 54), (some (50, true))⟩, ⟨.op (.bin .eql 0 (.t 52) (.t 54)), (some 55), (some (50, true))⟩, ⟨.op (.pick (.t 50) (.t 55) (.c (.bool false))), (some 56), none⟩, ⟨.op (.mv (.t 56)), (some 8), none⟩])
 [8]
 (.ret)))))),
 [.tmp 8]⟩
theorem k5 : cFn Try.prog 5 = some c5.toE := by kernel_rfl
theorem w5 : c5.body.wf = true := by kernel_rfl
/-- cardamom/cardamomlaw1.begun -/
noncomputable def c14 : DFn := ⟨28, .pure,
 .seq (.reg [⟨.op (.mv (.c (.bool false))), (some 0), none⟩])
 [9, 10, 11, 14, 15, 18, 19, 20, 23, 24, 25, 26]
 (.seq (.reg [⟨.call 17 [(.c (.int .i64 4)), (.c (.int .i64 2)), (.c (.int .i64 1))], (some 4), none⟩, ⟨.op (.mv (.t 4)), (some 3), none⟩, ⟨.op (.ext (.t 3) 0), (some 5), none⟩, ⟨.op (.ext (.t 3) 1), (some 6), none⟩, ⟨.op (.new [(.int .i64 0), (.int .i64 0), (.int .i64 0)]), (some 1), none⟩, ⟨.op (.st 3 (.t 1) (.t 5)), none, none⟩, ⟨.op (.mv (.t 6)), (some 2), none⟩])
 [1, 2, 9, 10, 11, 14, 15, 18, 19, 20, 23, 24, 25, 26]
 (.seq (.reg [⟨.op (.mv (.t 2)), (some 7), none⟩, ⟨.op (.mv (.t 7)), (some 8), none⟩, ⟨.op (.ldn 3 (.t 1)), (some 9), (some (8, true))⟩, ⟨.op (.build [(.int .i64 0), (.int .i64 0), (.int .i64 0)] [(0, 1, (.c (.int .i64 5))), (1, 1, (.c (.int .i64 2))), (2, 1, (.c (.int .i64 2)))]), (some 10), (some (8, true))⟩, ⟨.op (.slow (operAt Try.prog 14 12)), (some 11), (some (8, true))⟩, ⟨.op (.pick (.t 8) (.t 11) (.c (.bool false))), (some 12), none⟩, ⟨.op (.mv (.t 12)), (some 13), none⟩, ⟨.op (.ldn 3 (.t 1)), (some 14), (some (13, true))⟩, ⟨.call 19 [(.t 14)], (some 15), (some (13, true))⟩, ⟨.op (.pick (.t 13) (.t 15) (.c (.bool false))), (some 16), none⟩, ⟨.op (.mv (.t 16)), (some 17), none⟩, ⟨.op (.build [(.int .i64 0), (.int .i64 0), (.int .i64 0)] []), (some 18), (some (17, true))⟩, ⟨.call 19 [(.t 18)], (some 19), (some (17, true))⟩, ⟨.op (.not (.t 19)), (some 20), (some (17, true))⟩, ⟨.op (.pick (.t 17) (.t 20) (.c (.bool false))), (some 21), none⟩, ⟨.op (.mv (.t 21)), (some 22), none⟩, ⟨.op (.ldn 3 (.t 1)), (some 23), (some (22, true))⟩, ⟨.op (.build [(.int .i64 0), (.int .i64 0), (.int .i64 0)] [(0, 1, (.c (.int .i64 6))), (1, 1, (.c (.int .i64 1))), (2, 1, (.c (.int .i64 1)))]), (some 24), (some (22, true))⟩, ⟨.call 21 [(.t 23), (.t 24)], (some 25), (some (22, true))⟩, ⟨.op (.bin .eql 0 (.t 25) (.c (.int .i64 (-1)))), (some 26), (some (22, true))⟩, ⟨.op (.pick (.t 22) (.t 26) (.c (.bool false))), (some 27), none⟩, ⟨.op (.mv (.t 27)), (some 0), none⟩])
 [0]
 (.ret))),
 [.tmp 0]⟩
theorem k14 : cFn Try.prog 14 = some c14.toE := by kernel_rfl
theorem w14 : c14.body.wf = true := by kernel_rfl
/-- cardamom/cardamomplay.Made -/
noncomputable def c15 : DFn := ⟨6, .vars,
 .seq (.reg [⟨.op (.mv (.c (.ptr none))), (some 2), none⟩])
 [0]
 (.seq (.reg [⟨.op (.mv (.t 0)), (some 3), none⟩, ⟨.op (.build [(.sl none 0), (.int .i64 0)] [(0, 1, (.t 3))]), (some 4), none⟩, ⟨.op (.box (.t 4)), (some 5), none⟩, ⟨.op (.mv (.t 5)), (some 2), none⟩])
 [2]
 (.ret)),
 [.tmp 2]⟩
theorem k15 : cFn Try.prog 15 = some c15.toE := by kernel_rfl
theorem w15 : c15.body.wf = true := by kernel_rfl
/-- cardamom/stamp.Next -/
noncomputable def c17 : DFn := ⟨27, .pure,
 .seq (.reg [⟨.op (.new [(.int .i64 0), (.int .i64 0), (.int .i64 0)]), (some 6), none⟩, ⟨.op (.mv (.c (.bool false))), (some 7), none⟩])
 [0, 1, 2, 6, 12, 13]
 (.seq (.seq (.reg [⟨.op (.mv (.t 0)), (some 9), none⟩, ⟨.op (.bin .geq 0 (.t 9) (.c (.int .i64 5000))), (some 10), none⟩, ⟨.op (.mv (.t 10)), (some 11), none⟩, ⟨.op (.mv (.t 2)), (some 12), (some (11, false))⟩, ⟨.op (.bin .geq 0 (.t 12) (.c (.int .i64 1000))), (some 13), (some (11, false))⟩, ⟨.op (.pick (.t 11) (.c (.bool true)) (.t 13)), (some 14), none⟩])
 [0, 1, 2, 6, 14]
 (.cond (.t 14) (.seq (.reg [⟨.op (.build [(.int .i64 0), (.int .i64 0), (.int .i64 0)] []), (some 15), none⟩, ⟨.op (.st 3 (.t 6) (.t 15)), none, none⟩, ⟨.op (.mv (.c (.bool false))), (some 7), none⟩])
 [6, 7]
 (.ret)) (.skip)))
 [0, 1, 2, 6]
 (.seq (.reg [⟨.op (.mv (.t 0)), (some 16), none⟩, ⟨.op (.bin .add 0 (.t 16) (.c (.int .i64 1))), (some 17), none⟩, ⟨.op (.mv (.t 1)), (some 18), none⟩, ⟨.op (.mv (.t 2)), (some 19), none⟩, ⟨.op (.bin .add 0 (.t 19) (.c (.int .i64 1))), (some 20), none⟩, ⟨.op (.build [(.int .i64 0), (.int .i64 0), (.int .i64 0)] [(0, 1, (.t 17)), (1, 1, (.t 18)), (2, 1, (.t 20))]), (some 21), none⟩, ⟨.op (.new [(.int .i64 0), (.int .i64 0), (.int .i64 0)]), (some 8), none⟩, ⟨.op (.st 3 (.t 8) (.t 21)), none, none⟩])
 [6, 8]
 (.seq (.seq (.reg [⟨.op (.ldn 3 (.t 8)), (some 22), none⟩, ⟨.call 19 [(.t 22)], (some 23), none⟩, ⟨.op (.not (.t 23)), (some 24), none⟩])
 [6, 8, 24]
 (.cond (.t 24) (.seq (.reg [⟨.op (.build [(.int .i64 0), (.int .i64 0), (.int .i64 0)] []), (some 25), none⟩, ⟨.op (.st 3 (.t 6) (.t 25)), none, none⟩, ⟨.op (.mv (.c (.bool false))), (some 7), none⟩])
 [6, 7]
 (.ret)) (.skip)))
 [6, 8]
 (.seq (.reg [⟨.op (.ldn 3 (.t 8)), (some 26), none⟩, ⟨.op (.st 3 (.t 6) (.t 26)), none, none⟩, ⟨.op (.mv (.c (.bool true))), (some 7), none⟩])
 [6, 7]
 (.ret))))),
 [.celln 3 6, .tmp 7]⟩
theorem k17 : cFn Try.prog 17 = some c17.toE := by kernel_rfl
theorem w17 : c17.body.wf = true := by kernel_rfl
/-- cardamom/cardamomref1.Next -/
noncomputable def c18 : DFn := ⟨35, .pure,
 .seq (.reg [⟨.op (.new [(.int .i64 0), (.int .i64 0), (.int .i64 0)]), (some 6), none⟩, ⟨.op (.mv (.c (.bool false))), (some 7), none⟩])
 [0, 1, 2, 6, 12, 13, 16, 17, 20, 21]
 (.seq (.seq (.reg [⟨.op (.mv (.t 0)), (some 9), none⟩, ⟨.op (.bin .lss 0 (.t 9) (.c (.int .i64 0))), (some 10), none⟩, ⟨.op (.mv (.t 10)), (some 11), none⟩, ⟨.op (.mv (.t 0)), (some 12), (some (11, false))⟩, ⟨.op (.bin .geq 0 (.t 12) (.c (.int .i64 5000))), (some 13), (some (11, false))⟩, ⟨.op (.pick (.t 11) (.c (.bool true)) (.t 13)), (some 14), none⟩, ⟨.op (.mv (.t 14)), (some 15), none⟩, ⟨.op (.mv (.t 2)), (some 16), (some (15, false))⟩, ⟨.op (.bin .lss 0 (.t 16) (.c (.int .i64 0))), (some 17), (some (15, false))⟩, ⟨.op (.pick (.t 15) (.c (.bool true)) (.t 17)), (some 18), none⟩, ⟨.op (.mv (.t 18)), (some 19), none⟩, ⟨.op (.mv (.t 2)), (some 20), (some (19, false))⟩, ⟨.op (.bin .geq 0 (.t 20) (.c (.int .i64 1000))), (some 21), (some (19, false))⟩, ⟨.op (.pick (.t 19) (.c (.bool true)) (.t 21)), (some 22), none⟩])
 [0, 1, 2, 6, 22]
 (.cond (.t 22) (.seq (.reg [⟨.op (.build [(.int .i64 0), (.int .i64 0), (.int .i64 0)] []), (some 23), none⟩, ⟨.op (.st 3 (.t 6) (.t 23)), none, none⟩, ⟨.op (.mv (.c (.bool false))), (some 7), none⟩])
 [6, 7]
 (.ret)) (.skip)))
 [0, 1, 2, 6]
 (.seq (.reg [⟨.op (.mv (.t 0)), (some 24), none⟩, ⟨.op (.bin .add 0 (.t 24) (.c (.int .i64 1))), (some 25), none⟩, ⟨.op (.mv (.t 1)), (some 26), none⟩, ⟨.op (.mv (.t 2)), (some 27), none⟩, ⟨.op (.bin .add 0 (.t 27) (.c (.int .i64 1))), (some 28), none⟩, ⟨.op (.build [(.int .i64 0), (.int .i64 0), (.int .i64 0)] [(0, 1, (.t 25)), (1, 1, (.t 26)), (2, 1, (.t 28))]), (some 29), none⟩, ⟨.op (.new [(.int .i64 0), (.int .i64 0), (.int .i64 0)]), (some 8), none⟩, ⟨.op (.st 3 (.t 8) (.t 29)), none, none⟩])
 [6, 8]
 (.seq (.seq (.reg [⟨.op (.ldn 3 (.t 8)), (some 30), none⟩, ⟨.call 20 [(.t 30)], (some 31), none⟩, ⟨.op (.not (.t 31)), (some 32), none⟩])
 [6, 8, 32]
 (.cond (.t 32) (.seq (.reg [⟨.op (.build [(.int .i64 0), (.int .i64 0), (.int .i64 0)] []), (some 33), none⟩, ⟨.op (.st 3 (.t 6) (.t 33)), none, none⟩, ⟨.op (.mv (.c (.bool false))), (some 7), none⟩])
 [6, 7]
 (.ret)) (.skip)))
 [6, 8]
 (.seq (.reg [⟨.op (.ldn 3 (.t 8)), (some 34), none⟩, ⟨.op (.st 3 (.t 6) (.t 34)), none, none⟩, ⟨.op (.mv (.c (.bool true))), (some 7), none⟩])
 [6, 7]
 (.ret))))),
 [.celln 3 6, .tmp 7]⟩
theorem k18 : cFn Try.prog 18 = some c18.toE := by kernel_rfl
theorem w18 : c18.body.wf = true := by kernel_rfl
/-- cardamom/stamp.May -/
noncomputable def c19 : DFn := ⟨9, .pure,
 .seq (.reg [⟨.op (.box (.t 0)), (some 1), none⟩, ⟨.op (.mv (.c (.bool false))), (some 2), none⟩])
 [1]
 (.seq (.reg [⟨.op (.ldn 3 (.t 1)), (some 3), none⟩, ⟨.call 41 [(.t 3)], (some 4), none⟩, ⟨.op (.build [] []), (some 5), none⟩, ⟨.op (.ifc 79 (.t 5)), (some 6), none⟩, ⟨.call 40 [(.t 4), (.t 6)], (some 7), none⟩, ⟨.op (.not (.t 7)), (some 8), none⟩, ⟨.op (.mv (.t 8)), (some 2), none⟩])
 [2]
 (.ret)),
 [.tmp 2]⟩
theorem k19 : cFn Try.prog 19 = some c19.toE := by kernel_rfl
theorem w19 : c19.body.wf = true := by kernel_rfl
/-- cardamom/cardamomref1.MayStamp -/
noncomputable def c20 : DFn := ⟨38, .pure,
 .seq (.reg [⟨.op (.box (.t 0)), (some 1), none⟩, ⟨.op (.mv (.c (.bool false))), (some 2), none⟩])
 [1, 7, 8, 9, 12, 13, 14, 17, 18, 19, 22, 23, 24, 27, 28, 29, 32, 33, 34, 35, 36]
 (.seq (.reg [⟨.op (.fa 0 (.t 1)), (some 3), none⟩, ⟨.op (.ld1 (.t 3)), (some 4), none⟩, ⟨.op (.bin .geq 0 (.t 4) (.c (.int .i64 1))), (some 5), none⟩, ⟨.op (.mv (.t 5)), (some 6), none⟩, ⟨.op (.fa 0 (.t 1)), (some 7), (some (6, true))⟩, ⟨.op (.ld1 (.t 7)), (some 8), (some (6, true))⟩, ⟨.op (.bin .leq 0 (.t 8) (.c (.int .i64 5000))), (some 9), (some (6, true))⟩, ⟨.op (.pick (.t 6) (.t 9) (.c (.bool false))), (some 10), none⟩, ⟨.op (.mv (.t 10)), (some 11), none⟩, ⟨.op (.fa 1 (.t 1)), (some 12), (some (11, true))⟩, ⟨.op (.ld1 (.t 12)), (some 13), (some (11, true))⟩, ⟨.op (.bin .geq 0 (.t 13) (.c (.int .i64 1))), (some 14), (some (11, true))⟩, ⟨.op (.pick (.t 11) (.t 14) (.c (.bool false))), (some 15), none⟩, ⟨.op (.mv (.t 15)), (some 16), none⟩, ⟨.op (.fa 1 (.t 1)), (some 17), (some (16, true))⟩, ⟨.op (.ld1 (.t 17)), (some 18), (some (16, true))⟩, ⟨.op (.bin .leq 0 (.t 18) (.c (.int .i64 5))), (some 19), (some (16, true))⟩, ⟨.op (.pick (.t 16) (.t 19) (.c (.bool false))), (some 20), none⟩, ⟨.op (.mv (.t 20)), (some 21), none⟩, ⟨.op (.fa 2 (.t 1)), (some 22), (some (21, true))⟩, ⟨.op (.ld1 (.t 22)), (some 23), (some (21, true))⟩, ⟨.op (.bin .geq 0 (.t 23) (.c (.int .i64 1))), (some 24), (some (21, true))⟩, ⟨.op (.pick (.t 21) (.t 24) (.c (.bool false))), (some 25), none⟩, ⟨.op (.mv (.t 25)), (some 26), none⟩, ⟨.op (.fa 2 (.t 1)), (some 27), (some (26, true))⟩, ⟨.op (.ld1 (.t 27)), (some 28), (some (26, true))⟩, ⟨.op (.bin .leq 0 (.t 28) (.c (.int .i64 1000))), (some 29), (some (26, true))⟩, ⟨.op (.pick (.t 26) (.t 29) (.c (.bool false))), (some 30), none⟩, ⟨.op (.mv (.t 30)), (some 31), none⟩, ⟨.op (.fa 2 (.t 1)), (some 32), (some (31, true))⟩, ⟨.op (.ld1 (.t 32)), (some 33), (some (31, true))⟩, ⟨.op (.fa 0 (.t 1)), (some 34), (some (31, true))⟩, ⟨.op (.ld1 (.t 34)), (some 35), (some (31, true))⟩, ⟨.op (.bin .leq 0 (.t 33) (.t 35)), (some 36), (some (31, true))⟩, ⟨.op (.pick (.t 31) (.t 36) (.c (.bool false))), (some 37), none⟩, ⟨.op (.mv (.t 37)), (some 2), none⟩])
 [2]
 (.ret)),
 [.tmp 2]⟩
theorem k20 : cFn Try.prog 20 = some c20.toE := by kernel_rfl
theorem w20 : c20.body.wf = true := by kernel_rfl
/-- cardamom/stamp.Compare -/
noncomputable def c21 : DFn := ⟨22, .pure,
 .seq (.reg [⟨.op (.box (.t 0)), (some 2), none⟩, ⟨.op (.box (.t 1)), (some 3), none⟩, ⟨.op (.mv (.c (.int .i64 0))), (some 4), none⟩])
 [2, 3]
 (.seq (.drw [⟨⟨.op (.fa 0 (.t 2)), (some 5), none⟩, .n, []⟩, ⟨⟨.op (.ld1 (.t 5)), (some 6), none⟩, .n, []⟩, ⟨⟨.op (.fa 0 (.t 3)), (some 7), none⟩, .n, []⟩, ⟨⟨.op (.ld1 (.t 7)), (some 8), none⟩, .n, []⟩, ⟨⟨.op (.fa 1 (.t 2)), (some 10), none⟩, .n, []⟩, ⟨⟨.op (.ld1 (.t 10)), (some 11), none⟩, .n, []⟩, ⟨⟨.op (.fa 1 (.t 3)), (some 12), none⟩, .n, []⟩, ⟨⟨.op (.ld1 (.t 12)), (some 13), none⟩, .n, []⟩, ⟨⟨.op (.fa 2 (.t 2)), (some 15), none⟩, .n, []⟩, ⟨⟨.op (.ld1 (.t 15)), (some 16), none⟩, .n, []⟩, ⟨⟨.op (.fa 2 (.t 3)), (some 17), none⟩, .n, []⟩, ⟨⟨.op (.ld1 (.t 17)), (some 18), none⟩, .n, []⟩, ⟨⟨.call 43 [(.t 6), (.t 8)], (some 9), none⟩, .x, [(true, 11), (true, 9), (true, 7), (true, 5)]⟩, ⟨⟨.call 43 [(.t 11), (.t 13)], (some 14), none⟩, .x, [(true, 11), (true, 9)]⟩, ⟨⟨.call 43 [(.t 16), (.t 18)], (some 19), none⟩, .x, []⟩, ⟨⟨.op (.bslice 1 3 [(.int .i64 0), (.int .i64 0), (.int .i64 0)] [(0, 1, (.t 9)), (1, 1, (.t 14)), (2, 1, (.t 19))]), (some 20), none⟩, .a, [(true, 11), (true, 9), (true, 7), (true, 5), (true, 3), (true, 1)]⟩, ⟨⟨.call 42 [(.t 20)], (some 21), none⟩, .x, []⟩, ⟨⟨.op (.mv (.t 21)), (some 4), none⟩, .x, []⟩])
 [4]
 (.ret)),
 [.tmp 4]⟩
theorem k21 : cFn Try.prog 21 = some c21.toE := by kernel_rfl
theorem w21 : c21.body.wf = true := by kernel_rfl
noncomputable def l22_0 : DC :=
 .seq (.seq (.reg [⟨.op (.mv (.t 7)), (some 22), none⟩, ⟨.op (.bin .lss 0 (.t 22) (.c (.int .i64 3))), (some 23), none⟩])
 [5, 6, 7, 23]
 (.cond (.t 23) (.skip) (.exit 0)))
 [5, 6, 7]
 (.seq (.block 1 (.seq (.seq (.drw [⟨⟨.op (.mv (.t 7)), (some 26), none⟩, .n, []⟩, ⟨⟨.op (.ia 1 (some 3) (.t 5) (.t 26)), (some 27), none⟩, .n, []⟩, ⟨⟨.op (.ld1 (.t 27)), (some 28), none⟩, .n, []⟩, ⟨⟨.op (.mv (.t 7)), (some 29), none⟩, .n, []⟩, ⟨⟨.op (.ia 1 (some 3) (.t 6) (.t 29)), (some 30), none⟩, .n, []⟩, ⟨⟨.op (.ld1 (.t 30)), (some 31), none⟩, .n, []⟩, ⟨⟨.op (.bin .lss 0 (.t 28) (.t 31)), (some 32), none⟩, .n, []⟩])
 [5, 6, 7, 32]
 (.cond (.t 32) (.seq (.reg [⟨.op (.mv (.c (.int .i64 (-1)))), (some 4), none⟩])
 [4]
 (.ret)) (.skip)))
 [5, 6, 7]
 (.seq (.drw [⟨⟨.op (.mv (.t 7)), (some 33), none⟩, .n, []⟩, ⟨⟨.op (.ia 1 (some 3) (.t 5) (.t 33)), (some 34), none⟩, .n, []⟩, ⟨⟨.op (.ld1 (.t 34)), (some 35), none⟩, .n, []⟩, ⟨⟨.op (.mv (.t 7)), (some 36), none⟩, .n, []⟩, ⟨⟨.op (.ia 1 (some 3) (.t 6) (.t 36)), (some 37), none⟩, .n, []⟩, ⟨⟨.op (.ld1 (.t 37)), (some 38), none⟩, .n, []⟩, ⟨⟨.op (.bin .gtr 0 (.t 35) (.t 38)), (some 39), none⟩, .n, []⟩])
 [5, 6, 7, 39]
 (.cond (.t 39) (.seq (.reg [⟨.op (.mv (.c (.int .i64 1))), (some 4), none⟩])
 [4]
 (.ret)) (.skip)))))
 [5, 6, 7]
 (.reg [⟨.op (.mv (.t 7)), (some 24), none⟩, ⟨.op (.bin .add 0 (.t 24) (.c (.int .i64 1))), (some 25), none⟩, ⟨.op (.mv (.t 25)), (some 7), none⟩]))
theorem u22_0 (call : DCall) (T : Tm) (st : Dv.St) : dCw Try.prog call l22_0 T st = dCw Try.prog call
 (.seq (.seq (.reg [⟨.op (.mv (.t 7)), (some 22), none⟩, ⟨.op (.bin .lss 0 (.t 22) (.c (.int .i64 3))), (some 23), none⟩])
 [5, 6, 7, 23]
 (.cond (.t 23) (.skip) (.exit 0)))
 [5, 6, 7]
 (.seq (.block 1 (.seq (.seq (.drw [⟨⟨.op (.mv (.t 7)), (some 26), none⟩, .n, []⟩, ⟨⟨.op (.ia 1 (some 3) (.t 5) (.t 26)), (some 27), none⟩, .n, []⟩, ⟨⟨.op (.ld1 (.t 27)), (some 28), none⟩, .n, []⟩, ⟨⟨.op (.mv (.t 7)), (some 29), none⟩, .n, []⟩, ⟨⟨.op (.ia 1 (some 3) (.t 6) (.t 29)), (some 30), none⟩, .n, []⟩, ⟨⟨.op (.ld1 (.t 30)), (some 31), none⟩, .n, []⟩, ⟨⟨.op (.bin .lss 0 (.t 28) (.t 31)), (some 32), none⟩, .n, []⟩])
 [5, 6, 7, 32]
 (.cond (.t 32) (.seq (.reg [⟨.op (.mv (.c (.int .i64 (-1)))), (some 4), none⟩])
 [4]
 (.ret)) (.skip)))
 [5, 6, 7]
 (.seq (.drw [⟨⟨.op (.mv (.t 7)), (some 33), none⟩, .n, []⟩, ⟨⟨.op (.ia 1 (some 3) (.t 5) (.t 33)), (some 34), none⟩, .n, []⟩, ⟨⟨.op (.ld1 (.t 34)), (some 35), none⟩, .n, []⟩, ⟨⟨.op (.mv (.t 7)), (some 36), none⟩, .n, []⟩, ⟨⟨.op (.ia 1 (some 3) (.t 6) (.t 36)), (some 37), none⟩, .n, []⟩, ⟨⟨.op (.ld1 (.t 37)), (some 38), none⟩, .n, []⟩, ⟨⟨.op (.bin .gtr 0 (.t 35) (.t 38)), (some 39), none⟩, .n, []⟩])
 [5, 6, 7, 39]
 (.cond (.t 39) (.seq (.reg [⟨.op (.mv (.c (.int .i64 1))), (some 4), none⟩])
 [4]
 (.ret)) (.skip)))))
 [5, 6, 7]
 (.reg [⟨.op (.mv (.t 7)), (some 24), none⟩, ⟨.op (.bin .add 0 (.t 24) (.c (.int .i64 1))), (some 25), none⟩, ⟨.op (.mv (.t 25)), (some 7), none⟩]))) T st := rfl
/-- cardamom/cardamomref1.Compare -/
noncomputable def c22 : DFn := ⟨40, .pure,
 .seq (.reg [⟨.op (.box (.t 0)), (some 2), none⟩, ⟨.op (.box (.t 1)), (some 3), none⟩, ⟨.op (.mv (.c (.int .i64 0))), (some 4), none⟩])
 [2, 3]
 (.seq (.drw [⟨⟨.op (.fa 0 (.t 2)), (some 8), none⟩, .n, []⟩, ⟨⟨.op (.ld1 (.t 8)), (some 9), none⟩, .n, []⟩, ⟨⟨.op (.fa 1 (.t 2)), (some 10), none⟩, .n, []⟩, ⟨⟨.op (.ld1 (.t 10)), (some 11), none⟩, .n, []⟩, ⟨⟨.op (.fa 2 (.t 2)), (some 12), none⟩, .n, []⟩, ⟨⟨.op (.ld1 (.t 12)), (some 13), none⟩, .n, []⟩, ⟨⟨.op (.build [(.int .i64 0), (.int .i64 0), (.int .i64 0)] [(0, 1, (.t 9)), (1, 1, (.t 11)), (2, 1, (.t 13))]), (some 14), none⟩, .n, []⟩, ⟨⟨.op (.fa 0 (.t 3)), (some 15), none⟩, .n, []⟩, ⟨⟨.op (.ld1 (.t 15)), (some 16), none⟩, .n, []⟩, ⟨⟨.op (.fa 1 (.t 3)), (some 17), none⟩, .n, []⟩, ⟨⟨.op (.ld1 (.t 17)), (some 18), none⟩, .n, []⟩, ⟨⟨.op (.fa 2 (.t 3)), (some 19), none⟩, .n, []⟩, ⟨⟨.op (.ld1 (.t 19)), (some 20), none⟩, .n, []⟩, ⟨⟨.op (.build [(.int .i64 0), (.int .i64 0), (.int .i64 0)] [(0, 1, (.t 16)), (1, 1, (.t 18)), (2, 1, (.t 20))]), (some 21), none⟩, .n, []⟩, ⟨⟨.op (.new [(.int .i64 0), (.int .i64 0), (.int .i64 0)]), (some 5), none⟩, .a, [(true, 12), (true, 10), (true, 8), (true, 5), (true, 3), (true, 1)]⟩, ⟨⟨.op (.new [(.int .i64 0), (.int .i64 0), (.int .i64 0)]), (some 6), none⟩, .a, [(true, 12), (true, 10), (true, 8), (true, 5), (true, 3), (true, 1)]⟩, ⟨⟨.op (.st 3 (.t 5) (.t 14)), none, none⟩, .x, [(true, 12), (true, 10), (true, 8)]⟩, ⟨⟨.op (.st 3 (.t 6) (.t 21)), none, none⟩, .x, []⟩])
 [5, 6]
 (.seq (.seq (.reg [⟨.op (.mv (.c (.int .i64 0))), (some 7), none⟩])
 [5, 6, 7]
 (.block 0 (.loop [5, 6, 7] (l22_0))))
 []
 (.seq (.reg [⟨.op (.mv (.c (.int .i64 0))), (some 4), none⟩])
 [4]
 (.ret)))),
 [.tmp 4]⟩
theorem k22 : cFn Try.prog 22 = some c22.toE := by kernel_rfl
theorem w22 : c22.body.wf = true := by kernel_rfl
/-- (*cardamom/cardamomplay.Picks).Stamp -/
noncomputable def c16 : DFn := ⟨18, .vars,
 .seq (.reg [⟨.op (.new [(.int .i64 0), (.int .i64 0), (.int .i64 0)]), (some 2), none⟩])
 [0, 2]
 (.seq (.reg [⟨.op (.mv (.t 0)), (some 4), none⟩, ⟨.call 39 [(.t 4), (.c (.int .i64 9))], (some 5), none⟩, ⟨.op (.bin .add 0 (.c (.int .i64 1)) (.t 5)), (some 6), none⟩, ⟨.op (.mv (.t 0)), (some 7), none⟩, ⟨.call 39 [(.t 7), (.c (.int .i64 3))], (some 8), none⟩, ⟨.op (.bin .add 0 (.c (.int .i64 1)) (.t 8)), (some 9), none⟩, ⟨.op (.build [(.int .i64 0), (.int .i64 0), (.int .i64 0)] [(0, 1, (.t 6)), (1, 1, (.t 9))]), (some 10), none⟩, ⟨.op (.new [(.int .i64 0), (.int .i64 0), (.int .i64 0)]), (some 3), none⟩, ⟨.op (.st 3 (.t 3) (.t 10)), none, none⟩])
 [0, 2, 3]
 (.seq (.reg [⟨.op (.mv (.t 0)), (some 11), none⟩, ⟨.op (.fa 0 (.t 3)), (some 12), none⟩, ⟨.op (.ld1 (.t 12)), (some 13), none⟩, ⟨.call 39 [(.t 11), (.t 13)], (some 14), none⟩, ⟨.op (.bin .add 0 (.c (.int .i64 1)) (.t 14)), (some 15), none⟩, ⟨.op (.fa 2 (.t 3)), (some 16), none⟩, ⟨.op (.st 1 (.t 16) (.t 15)), none, none⟩])
 [2, 3]
 (.seq (.reg [⟨.op (.ldn 3 (.t 3)), (some 17), none⟩, ⟨.op (.st 3 (.t 2) (.t 17)), none, none⟩])
 [2]
 (.ret)))),
 [.celln 3 2]⟩
theorem k16 : cFn Try.prog 16 = some c16.toE := by kernel_rfl
theorem w16 : c16.body.wf = true := by kernel_rfl
/-- (*cardamom/cardamomplay.Picks).Num -/
noncomputable def c39 : DFn := ⟨40, .vars,
 .seq (.reg [⟨.op (.mv (.c (.int .i64 0))), (some 4), none⟩])
 [0, 1, 16, 17]
 (.seq (.seq (.drw [⟨⟨.op (.mv (.t 0)), (some 5), none⟩, .n, []⟩, ⟨⟨.op (.nilchk (.t 5)), (some 6), none⟩, .n, []⟩, ⟨⟨.op (.fa 1 (.t 6)), (some 7), none⟩, .n, []⟩, ⟨⟨.op (.ld1 (.t 7)), (some 8), none⟩, .n, []⟩, ⟨⟨.op (.mv (.t 0)), (some 9), none⟩, .n, []⟩, ⟨⟨.op (.nilchk (.t 9)), (some 10), none⟩, .n, []⟩, ⟨⟨.op (.fa 0 (.t 10)), (some 11), none⟩, .n, []⟩, ⟨⟨.op (.ld1 (.t 11)), (some 12), none⟩, .n, []⟩, ⟨⟨.op (.len (.t 12)), (some 13), none⟩, .n, []⟩, ⟨⟨.op (.bin .geq 0 (.t 8) (.t 13)), (some 14), none⟩, .n, []⟩, ⟨⟨.op (.mv (.t 14)), (some 15), none⟩, .n, []⟩, ⟨⟨.op (.mv (.t 1)), (some 16), (some (15, false))⟩, .n, []⟩, ⟨⟨.op (.bin .lss 0 (.t 16) (.c (.int .i64 1))), (some 17), (some (15, false))⟩, .n, []⟩, ⟨⟨.op (.pick (.t 15) (.c (.bool true)) (.t 17)), (some 18), none⟩, .n, []⟩])
 [0, 1, 18]
 (.cond (.t 18) (.seq (.reg [⟨.op (.mv (.c (.int .i64 0))), (some 4), none⟩])
 [4]
 (.ret)) (.skip)))
 [0, 1]
 (.seq (.reg [⟨.op (.mv (.t 0)), (some 19), none⟩, ⟨.op (.nilchk (.t 19)), (some 20), none⟩, ⟨.op (.fa 1 (.t 20)), (some 21), none⟩, ⟨.op (.ld1 (.t 21)), (some 22), none⟩, ⟨.op (.bin .add 0 (.t 22) (.c (.int .i64 1))), (some 23), none⟩, ⟨.op (.nilchk (.t 19)), (some 24), none⟩, ⟨.op (.fa 1 (.t 24)), (some 25), none⟩, ⟨.op (.st 1 (.t 25) (.t 23)), none, none⟩])
 [0, 1]
 (.seq (.drw [⟨⟨.op (.mv (.t 0)), (some 26), none⟩, .n, []⟩, ⟨⟨.op (.nilchk (.t 26)), (some 27), none⟩, .n, []⟩, ⟨⟨.op (.fa 0 (.t 27)), (some 28), none⟩, .n, []⟩, ⟨⟨.op (.ld1 (.t 28)), (some 29), none⟩, .n, []⟩, ⟨⟨.op (.mv (.t 0)), (some 30), none⟩, .n, []⟩, ⟨⟨.op (.nilchk (.t 30)), (some 31), none⟩, .n, []⟩, ⟨⟨.op (.fa 1 (.t 31)), (some 32), none⟩, .n, []⟩, ⟨⟨.op (.ld1 (.t 32)), (some 33), none⟩, .n, []⟩, ⟨⟨.op (.bin .sub 0 (.t 33) (.c (.int .i64 1))), (some 34), none⟩, .n, []⟩, ⟨⟨.op (.ia 1 none (.t 29) (.t 34)), (some 35), none⟩, .n, []⟩, ⟨⟨.op (.ld1 (.t 35)), (some 36), none⟩, .n, []⟩, ⟨⟨.op (.conv .i64 (.t 36)), (some 37), none⟩, .n, []⟩, ⟨⟨.op (.mv (.t 1)), (some 38), none⟩, .n, []⟩, ⟨⟨.op (.bin .rem 0 (.t 37) (.t 38)), (some 39), none⟩, .n, []⟩, ⟨⟨.op (.mv (.t 39)), (some 4), none⟩, .x, []⟩])
 [4]
 (.ret)))),
 [.tmp 4]⟩
theorem k39 : cFn Try.prog 39 = some c39.toE := by kernel_rfl
theorem w39 : c39.body.wf = true := by kernel_rfl
/-- errors.Is -/
noncomputable def c40 : DFn := ⟨22, .pure,
 .seq (.reg [⟨.op (.mv (.c (.bool false))), (some 4), none⟩])
 [0, 1, 9, 10]
 (.seq (.seq (.reg [⟨.op (.mv (.t 0)), (some 6), none⟩, ⟨.op (.bin .eql 4 (.t 6) (.c .nilifc)), (some 7), none⟩, ⟨.op (.mv (.t 7)), (some 8), none⟩, ⟨.op (.mv (.t 1)), (some 9), (some (8, false))⟩, ⟨.op (.bin .eql 4 (.t 9) (.c .nilifc)), (some 10), (some (8, false))⟩, ⟨.op (.pick (.t 8) (.c (.bool true)) (.t 10)), (some 11), none⟩])
 [0, 1, 11]
 (.cond (.t 11) (.seq (.reg [⟨.op (.mv (.t 0)), (some 12), none⟩, ⟨.op (.mv (.t 1)), (some 13), none⟩, ⟨.op (.slow (operAt Try.prog 40 9)), (some 14), none⟩, ⟨.op (.mv (.t 14)), (some 4), none⟩])
 [4]
 (.ret)) (.skip)))
 [0, 1]
 (.seq (.reg [⟨.op (.mv (.t 1)), (some 15), none⟩, ⟨.ext (operAt Try.prog 40 12), (some 16), none⟩, ⟨.inv (.t 16) "Comparable" [] (operAt Try.prog 40 13), (some 17), none⟩, ⟨.op (.mv (.t 17)), (some 5), none⟩])
 [0, 1, 5]
 (.seq (.reg [⟨.op (.mv (.t 0)), (some 18), none⟩, ⟨.op (.mv (.t 1)), (some 19), none⟩, ⟨.op (.mv (.t 5)), (some 20), none⟩, ⟨.call 68 [(.t 18), (.t 19), (.t 20)], (some 21), none⟩, ⟨.op (.mv (.t 21)), (some 4), none⟩])
 [4]
 (.ret)))),
 [.tmp 4]⟩
theorem k40 : cFn Try.prog 40 = some c40.toE := by kernel_rfl
theorem w40 : c40.body.wf = true := by kernel_rfl
/-- cardamom/stamp.check -/
noncomputable def c41 : DFn := ⟨17, .pure,
 .seq (.reg [⟨.op (.box (.t 0)), (some 1), none⟩, ⟨.op (.mv (.c .nilifc)), (some 2), none⟩])
 [1]
 (.seq (.drw [⟨⟨.op (.fa 0 (.t 1)), (some 3), none⟩, .n, []⟩, ⟨⟨.op (.ld1 (.t 3)), (some 4), none⟩, .n, []⟩, ⟨⟨.op (.fa 1 (.t 1)), (some 6), none⟩, .n, []⟩, ⟨⟨.op (.ld1 (.t 6)), (some 7), none⟩, .n, []⟩, ⟨⟨.op (.fa 2 (.t 1)), (some 9), none⟩, .n, []⟩, ⟨⟨.op (.ld1 (.t 9)), (some 10), none⟩, .n, []⟩, ⟨⟨.op (.fa 0 (.t 1)), (some 11), none⟩, .n, []⟩, ⟨⟨.op (.ld1 (.t 11)), (some 12), none⟩, .n, []⟩, ⟨⟨.op (.slow (operAt Try.prog 41 12)), (some 13), none⟩, .n, []⟩, ⟨⟨.call 70 [(.c (.str [116, 105, 109, 101])), (.t 4), (.c (.int .i64 5000))], (some 5), none⟩, .x, [(true, 7), (true, 5), (true, 3)]⟩, ⟨⟨.call 70 [(.c (.str [114, 101, 112, 108, 105, 99, 97])), (.t 7), (.c (.int .i64 5))], (some 8), none⟩, .x, [(true, 7), (true, 5)]⟩, ⟨⟨.call 70 [(.c (.str [110, 117, 109, 98, 101, 114])), (.t 10), (.t 13)], (some 14), none⟩, .x, []⟩, ⟨⟨.op (.bslice 1 3 [.nilifc, .nilifc, .nilifc] [(0, 1, (.t 5)), (1, 1, (.t 8)), (2, 1, (.t 14))]), (some 15), none⟩, .a, [(true, 7), (true, 5), (true, 3), (true, 1)]⟩, ⟨⟨.call 69 [(.t 15)], (some 16), none⟩, .x, []⟩, ⟨⟨.op (.mv (.t 16)), (some 2), none⟩, .x, []⟩])
 [2]
 (.ret)),
 [.tmp 2]⟩
theorem k41 : cFn Try.prog 41 = some c41.toE := by kernel_rfl
theorem w41 : c41.body.wf = true := by kernel_rfl
noncomputable def l42_0 : DC :=
 .seq (.reg [⟨.op (.bin .lss 0 (.t 8) (.t 7)), (some 9), none⟩])
 [3, 6, 7, 8, 9]
 (.seq (.cond (.t 9) (.skip) (.exit 0))
 [3, 6, 7, 8]
 (.seq (.block 1 (.seq (.reg [⟨.op (.ia 1 none (.t 6) (.t 8)), (some 10), none⟩, ⟨.op (.ld1 (.t 10)), (some 11), none⟩, ⟨.op (.mv (.t 11)), (some 5), none⟩])
 [3, 5, 6, 7, 8]
 (.seq (.reg [⟨.op (.mv (.t 5)), (some 12), none⟩, ⟨.op (.mv (.t 3)), (some 13), none⟩, ⟨.op (.bin .neq 0 (.t 12) (.t 13)), (some 14), none⟩])
 [3, 5, 6, 7, 8, 14]
 (.cond (.t 14) (.seq (.reg [⟨.op (.mv (.t 5)), (some 15), none⟩, ⟨.op (.mv (.t 15)), (some 2), none⟩])
 [2]
 (.ret)) (.skip)))))
 [3, 6, 7, 8]
 (.reg [⟨.op (.bin .add 0 (.t 8) (.c (.int .i64 1))), (some 16), none⟩, ⟨.op (.mv (.t 16)), (some 8), none⟩])))
theorem u42_0 (call : DCall) (T : Tm) (st : Dv.St) : dCw Try.prog call l42_0 T st = dCw Try.prog call
 (.seq (.reg [⟨.op (.bin .lss 0 (.t 8) (.t 7)), (some 9), none⟩])
 [3, 6, 7, 8, 9]
 (.seq (.cond (.t 9) (.skip) (.exit 0))
 [3, 6, 7, 8]
 (.seq (.block 1 (.seq (.reg [⟨.op (.ia 1 none (.t 6) (.t 8)), (some 10), none⟩, ⟨.op (.ld1 (.t 10)), (some 11), none⟩, ⟨.op (.mv (.t 11)), (some 5), none⟩])
 [3, 5, 6, 7, 8]
 (.seq (.reg [⟨.op (.mv (.t 5)), (some 12), none⟩, ⟨.op (.mv (.t 3)), (some 13), none⟩, ⟨.op (.bin .neq 0 (.t 12) (.t 13)), (some 14), none⟩])
 [3, 5, 6, 7, 8, 14]
 (.cond (.t 14) (.seq (.reg [⟨.op (.mv (.t 5)), (some 15), none⟩, ⟨.op (.mv (.t 15)), (some 2), none⟩])
 [2]
 (.ret)) (.skip)))))
 [3, 6, 7, 8]
 (.reg [⟨.op (.bin .add 0 (.t 8) (.c (.int .i64 1))), (some 16), none⟩, ⟨.op (.mv (.t 16)), (some 8), none⟩])))) T st := rfl
/-- cmp.Or[int] -/
noncomputable def c42 : DFn := ⟨18, .pure,
 .seq (.reg [⟨.op (.mv (.c (.int .i64 0))), (some 2), none⟩])
 [0]
 (.seq (.reg [⟨.op (.mv (.c (.int .i64 0))), (some 3), none⟩])
 [0, 3]
 (.seq (.seq (.reg [⟨.op (.mv (.t 0)), (some 6), none⟩, ⟨.op (.len (.t 6)), (some 7), none⟩, ⟨.op (.mv (.c (.int .i64 0))), (some 8), none⟩])
 [3, 6, 7, 8]
 (.block 0 (.loop [3, 6, 7, 8] (l42_0))))
 [3]
 (.seq (.reg [⟨.op (.mv (.t 3)), (some 17), none⟩, ⟨.op (.mv (.t 17)), (some 2), none⟩])
 [2]
 (.ret)))),
 [.tmp 2]⟩
theorem k42 : cFn Try.prog 42 = some c42.toE := by kernel_rfl
theorem w42 : c42.body.wf = true := by kernel_rfl
/-- cmp.Compare[int] -/
noncomputable def c43 : DFn := ⟨20, .pure,
 .seq (.reg [⟨.op (.mv (.c (.int .i64 0))), (some 4), none⟩])
 [0, 1]
 (.seq (.reg [⟨.op (.mv (.t 0)), (some 7), none⟩, ⟨.call 71 [(.t 7)], (some 8), none⟩, ⟨.op (.mv (.t 8)), (some 5), none⟩])
 [0, 1, 5]
 (.seq (.reg [⟨.op (.mv (.t 1)), (some 9), none⟩, ⟨.call 71 [(.t 9)], (some 10), none⟩, ⟨.op (.mv (.t 10)), (some 6), none⟩])
 [0, 1, 5, 6]
 (.seq (.seq (.reg [⟨.op (.mv (.t 5)), (some 11), none⟩])
 [0, 1, 6, 11]
 (.cond (.t 11) (.seq (.seq (.reg [⟨.op (.mv (.t 6)), (some 12), none⟩])
 [12]
 (.cond (.t 12) (.seq (.reg [⟨.op (.mv (.c (.int .i64 0))), (some 4), none⟩])
 [4]
 (.ret)) (.skip)))
 []
 (.seq (.reg [⟨.op (.mv (.c (.int .i64 (-1)))), (some 4), none⟩])
 [4]
 (.ret))) (.skip)))
 [0, 1, 6]
 (.seq (.seq (.reg [⟨.op (.mv (.t 6)), (some 13), none⟩])
 [0, 1, 13]
 (.cond (.t 13) (.seq (.reg [⟨.op (.mv (.c (.int .i64 1))), (some 4), none⟩])
 [4]
 (.ret)) (.skip)))
 [0, 1]
 (.seq (.seq (.reg [⟨.op (.mv (.t 0)), (some 14), none⟩, ⟨.op (.mv (.t 1)), (some 15), none⟩, ⟨.op (.bin .lss 0 (.t 14) (.t 15)), (some 16), none⟩])
 [0, 1, 16]
 (.cond (.t 16) (.seq (.reg [⟨.op (.mv (.c (.int .i64 (-1)))), (some 4), none⟩])
 [4]
 (.ret)) (.skip)))
 [0, 1]
 (.seq (.seq (.reg [⟨.op (.mv (.t 0)), (some 17), none⟩, ⟨.op (.mv (.t 1)), (some 18), none⟩, ⟨.op (.bin .gtr 0 (.t 17) (.t 18)), (some 19), none⟩])
 [19]
 (.cond (.t 19) (.seq (.reg [⟨.op (.mv (.c (.int .i64 1))), (some 4), none⟩])
 [4]
 (.ret)) (.skip)))
 []
 (.seq (.reg [⟨.op (.mv (.c (.int .i64 0))), (some 4), none⟩])
 [4]
 (.ret)))))))),
 [.tmp 4]⟩
theorem k43 : cFn Try.prog 43 = some c43.toE := by kernel_rfl
theorem w43 : c43.body.wf = true := by kernel_rfl
/-- cmp.isNaN[int] -/
noncomputable def c71 : DFn := ⟨6, .pure,
 .seq (.reg [⟨.op (.mv (.c (.bool false))), (some 2), none⟩])
 [0]
 (.seq (.reg [⟨.op (.mv (.t 0)), (some 3), none⟩, ⟨.op (.mv (.t 0)), (some 4), none⟩, ⟨.op (.bin .neq 0 (.t 3) (.t 4)), (some 5), none⟩, ⟨.op (.mv (.t 5)), (some 2), none⟩])
 [2]
 (.ret)),
 [.tmp 2]⟩
theorem k71 : cFn Try.prog 71 = some c71.toE := by kernel_rfl
theorem w71 : c71.body.wf = true := by kernel_rfl
/-- cmp.Less[int] -/
noncomputable def c72 : DFn := ⟨17, .pure,
 .seq (.reg [⟨.op (.mv (.c (.bool false))), (some 4), none⟩])
 [0, 1, 8, 9, 10, 13, 14, 15]
 (.seq (.reg [⟨.op (.mv (.t 0)), (some 5), none⟩, ⟨.call 71 [(.t 5)], (some 6), none⟩, ⟨.op (.mv (.t 6)), (some 7), none⟩, ⟨.op (.mv (.t 1)), (some 8), (some (7, true))⟩, ⟨.call 71 [(.t 8)], (some 9), (some (7, true))⟩, ⟨.op (.not (.t 9)), (some 10), (some (7, true))⟩, ⟨.op (.pick (.t 7) (.t 10) (.c (.bool false))), (some 11), none⟩, ⟨.op (.mv (.t 11)), (some 12), none⟩, ⟨.op (.mv (.t 0)), (some 13), (some (12, false))⟩, ⟨.op (.mv (.t 1)), (some 14), (some (12, false))⟩, ⟨.op (.bin .lss 0 (.t 13) (.t 14)), (some 15), (some (12, false))⟩, ⟨.op (.pick (.t 12) (.c (.bool true)) (.t 15)), (some 16), none⟩, ⟨.op (.mv (.t 16)), (some 4), none⟩])
 [4]
 (.ret)),
 [.tmp 4]⟩
theorem k72 : cFn Try.prog 72 = some c72.toE := by kernel_rfl
theorem w72 : c72.body.wf = true := by kernel_rfl
noncomputable def l68_0 : DC :=
 .seq (.reg [⟨.op (.bin .lss 0 (.t 45) (.t 44)), (some 46), none⟩])
 [1, 2, 43, 44, 45, 46]
 (.seq (.cond (.t 46) (.skip) (.exit 3))
 [1, 2, 43, 44, 45]
 (.seq (.block 4 (.seq (.reg [⟨.op (.ia 1 none (.t 43) (.t 45)), (some 47), none⟩, ⟨.op (.ld1 (.t 47)), (some 48), none⟩, ⟨.op (.mv (.t 48)), (some 12), none⟩])
 [1, 2, 12, 43, 44, 45]
 (.seq (.reg [⟨.op (.mv (.t 12)), (some 49), none⟩, ⟨.op (.mv (.t 1)), (some 50), none⟩, ⟨.op (.mv (.t 2)), (some 51), none⟩, ⟨.call 68 [(.t 49), (.t 50), (.t 51)], (some 52), none⟩])
 [1, 2, 43, 44, 45, 52]
 (.cond (.t 52) (.seq (.reg [⟨.op (.mv (.c (.bool true))), (some 6), none⟩])
 [6]
 (.ret)) (.skip)))))
 [1, 2, 43, 44, 45]
 (.reg [⟨.op (.bin .add 0 (.t 45) (.c (.int .i64 1))), (some 53), none⟩, ⟨.op (.mv (.t 53)), (some 45), none⟩])))
theorem u68_0 (call : DCall) (T : Tm) (st : Dv.St) : dCw Try.prog call l68_0 T st = dCw Try.prog call
 (.seq (.reg [⟨.op (.bin .lss 0 (.t 45) (.t 44)), (some 46), none⟩])
 [1, 2, 43, 44, 45, 46]
 (.seq (.cond (.t 46) (.skip) (.exit 3))
 [1, 2, 43, 44, 45]
 (.seq (.block 4 (.seq (.reg [⟨.op (.ia 1 none (.t 43) (.t 45)), (some 47), none⟩, ⟨.op (.ld1 (.t 47)), (some 48), none⟩, ⟨.op (.mv (.t 48)), (some 12), none⟩])
 [1, 2, 12, 43, 44, 45]
 (.seq (.reg [⟨.op (.mv (.t 12)), (some 49), none⟩, ⟨.op (.mv (.t 1)), (some 50), none⟩, ⟨.op (.mv (.t 2)), (some 51), none⟩, ⟨.call 68 [(.t 49), (.t 50), (.t 51)], (some 52), none⟩])
 [1, 2, 43, 44, 45, 52]
 (.cond (.t 52) (.seq (.reg [⟨.op (.mv (.c (.bool true))), (some 6), none⟩])
 [6]
 (.ret)) (.skip)))))
 [1, 2, 43, 44, 45]
 (.reg [⟨.op (.bin .add 0 (.t 45) (.c (.int .i64 1))), (some 53), none⟩, ⟨.op (.mv (.t 53)), (some 45), none⟩])))) T st := rfl
noncomputable def l68_1 : DC :=
 .block 1 (.seq (.seq (.reg [⟨.op (.mv (.t 2)), (some 14), none⟩, ⟨.op (.mv (.t 14)), (some 15), none⟩, ⟨.op (.mv (.t 0)), (some 16), (some (15, true))⟩, ⟨.op (.mv (.t 1)), (some 17), (some (15, true))⟩, ⟨.op (.slow (operAt Try.prog 68 5)), (some 18), (some (15, true))⟩, ⟨.op (.pick (.t 15) (.t 18) (.c (.bool false))), (some 19), none⟩])
 [0, 1, 2, 16, 17, 18, 19, 27, 28, 29]
 (.cond (.t 19) (.seq (.reg [⟨.op (.mv (.c (.bool true))), (some 6), none⟩])
 [6]
 (.ret)) (.skip)))
 [0, 1, 2, 16, 17, 18, 27, 28, 29]
 (.seq (.seq (.reg [⟨.op (.mv (.t 0)), (some 21), none⟩, ⟨.op (.slow (operAt Try.prog 68 9)), (some 22), none⟩, ⟨.op (.mv (.t 22)), (some 20), none⟩, ⟨.op (.ext (.t 20) 0), (some 23), none⟩, ⟨.op (.ext (.t 20) 1), (some 24), none⟩, ⟨.op (.mv (.t 23)), (some 7), none⟩, ⟨.op (.mv (.t 24)), (some 8), none⟩])
 [0, 1, 2, 7, 8, 16, 17, 18, 27, 28, 29]
 (.seq (.reg [⟨.op (.mv (.t 8)), (some 25), none⟩, ⟨.op (.mv (.t 25)), (some 26), none⟩, ⟨.op (.mv (.t 7)), (some 27), (some (26, true))⟩, ⟨.op (.mv (.t 1)), (some 28), (some (26, true))⟩, ⟨.inv (.t 27) "Is" [(.t 28)] (operAt Try.prog 68 19), (some 29), (some (26, true))⟩, ⟨.op (.pick (.t 26) (.t 29) (.c (.bool false))), (some 30), none⟩])
 [0, 1, 2, 16, 17, 18, 27, 28, 29, 30]
 (.cond (.t 30) (.seq (.reg [⟨.op (.mv (.c (.bool true))), (some 6), none⟩])
 [6]
 (.ret)) (.skip))))
 [0, 1, 2, 16, 17, 18, 27, 28, 29]
 (.seq (.reg [⟨.op (.mv (.t 0)), (some 31), none⟩])
 [1, 2, 16, 17, 18, 27, 28, 29, 31]
 (.block 2 (.seq (.reg [⟨.op (.slow (operAt Try.prog 68 23)), (some 32), none⟩, ⟨.op (.ext (.t 32) 1), (some 33), none⟩, ⟨.op (.ext (.t 32) 0), (some 34), none⟩])
 [1, 2, 16, 17, 18, 27, 28, 29, 31, 33, 34]
 (.cond (.t 33) (.seq (.reg [⟨.op (.mv (.t 34)), (some 9), none⟩])
 [1, 2, 9, 16, 17, 18, 27, 28, 29]
 (.seq (.reg [⟨.op (.mv (.t 9)), (some 35), none⟩, ⟨.inv (.t 35) "Unwrap" [] (operAt Try.prog 68 28), (some 36), none⟩, ⟨.op (.mv (.t 36)), (some 0), none⟩])
 [0, 1, 2, 16, 17, 18, 27, 28, 29]
 (.seq (.reg [⟨.op (.mv (.t 0)), (some 37), none⟩, ⟨.op (.bin .eql 4 (.t 37) (.c .nilifc)), (some 38), none⟩])
 [0, 1, 2, 16, 17, 18, 27, 28, 29, 38]
 (.cond (.t 38) (.seq (.reg [⟨.op (.mv (.c (.bool false))), (some 6), none⟩])
 [6]
 (.ret)) (.skip))))) (.seq (.reg [⟨.op (.slow (operAt Try.prog 68 33)), (some 39), none⟩, ⟨.op (.ext (.t 39) 1), (some 40), none⟩, ⟨.op (.ext (.t 39) 0), (some 41), none⟩])
 [1, 2, 31, 40, 41]
 (.cond (.t 40) (.seq (.reg [⟨.op (.mv (.t 41)), (some 10), none⟩])
 [1, 2, 10]
 (.seq (.seq (.reg [⟨.op (.mv (.t 10)), (some 42), none⟩, ⟨.inv (.t 42) "Unwrap" [] (operAt Try.prog 68 38), (some 43), none⟩, ⟨.op (.len (.t 43)), (some 44), none⟩, ⟨.op (.mv (.c (.int .i64 0))), (some 45), none⟩])
 [1, 2, 43, 44, 45]
 (.block 3 (.loop [1, 2, 43, 44, 45] (l68_0))))
 []
 (.seq (.reg [⟨.op (.mv (.c (.bool false))), (some 6), none⟩])
 [6]
 (.ret)))) (.seq (.reg [⟨.op (.mv (.t 31)), (some 13), none⟩])
 []
 (.seq (.reg [⟨.op (.mv (.c (.bool false))), (some 6), none⟩])
 [6]
 (.ret)))))))))))
theorem u68_1 (call : DCall) (T : Tm) (st : Dv.St) : dCw Try.prog call l68_1 T st = dCw Try.prog call
 (.block 1 (.seq (.seq (.reg [⟨.op (.mv (.t 2)), (some 14), none⟩, ⟨.op (.mv (.t 14)), (some 15), none⟩, ⟨.op (.mv (.t 0)), (some 16), (some (15, true))⟩, ⟨.op (.mv (.t 1)), (some 17), (some (15, true))⟩, ⟨.op (.slow (operAt Try.prog 68 5)), (some 18), (some (15, true))⟩, ⟨.op (.pick (.t 15) (.t 18) (.c (.bool false))), (some 19), none⟩])
 [0, 1, 2, 16, 17, 18, 19, 27, 28, 29]
 (.cond (.t 19) (.seq (.reg [⟨.op (.mv (.c (.bool true))), (some 6), none⟩])
 [6]
 (.ret)) (.skip)))
 [0, 1, 2, 16, 17, 18, 27, 28, 29]
 (.seq (.seq (.reg [⟨.op (.mv (.t 0)), (some 21), none⟩, ⟨.op (.slow (operAt Try.prog 68 9)), (some 22), none⟩, ⟨.op (.mv (.t 22)), (some 20), none⟩, ⟨.op (.ext (.t 20) 0), (some 23), none⟩, ⟨.op (.ext (.t 20) 1), (some 24), none⟩, ⟨.op (.mv (.t 23)), (some 7), none⟩, ⟨.op (.mv (.t 24)), (some 8), none⟩])
 [0, 1, 2, 7, 8, 16, 17, 18, 27, 28, 29]
 (.seq (.reg [⟨.op (.mv (.t 8)), (some 25), none⟩, ⟨.op (.mv (.t 25)), (some 26), none⟩, ⟨.op (.mv (.t 7)), (some 27), (some (26, true))⟩, ⟨.op (.mv (.t 1)), (some 28), (some (26, true))⟩, ⟨.inv (.t 27) "Is" [(.t 28)] (operAt Try.prog 68 19), (some 29), (some (26, true))⟩, ⟨.op (.pick (.t 26) (.t 29) (.c (.bool false))), (some 30), none⟩])
 [0, 1, 2, 16, 17, 18, 27, 28, 29, 30]
 (.cond (.t 30) (.seq (.reg [⟨.op (.mv (.c (.bool true))), (some 6), none⟩])
 [6]
 (.ret)) (.skip))))
 [0, 1, 2, 16, 17, 18, 27, 28, 29]
 (.seq (.reg [⟨.op (.mv (.t 0)), (some 31), none⟩])
 [1, 2, 16, 17, 18, 27, 28, 29, 31]
 (.block 2 (.seq (.reg [⟨.op (.slow (operAt Try.prog 68 23)), (some 32), none⟩, ⟨.op (.ext (.t 32) 1), (some 33), none⟩, ⟨.op (.ext (.t 32) 0), (some 34), none⟩])
 [1, 2, 16, 17, 18, 27, 28, 29, 31, 33, 34]
 (.cond (.t 33) (.seq (.reg [⟨.op (.mv (.t 34)), (some 9), none⟩])
 [1, 2, 9, 16, 17, 18, 27, 28, 29]
 (.seq (.reg [⟨.op (.mv (.t 9)), (some 35), none⟩, ⟨.inv (.t 35) "Unwrap" [] (operAt Try.prog 68 28), (some 36), none⟩, ⟨.op (.mv (.t 36)), (some 0), none⟩])
 [0, 1, 2, 16, 17, 18, 27, 28, 29]
 (.seq (.reg [⟨.op (.mv (.t 0)), (some 37), none⟩, ⟨.op (.bin .eql 4 (.t 37) (.c .nilifc)), (some 38), none⟩])
 [0, 1, 2, 16, 17, 18, 27, 28, 29, 38]
 (.cond (.t 38) (.seq (.reg [⟨.op (.mv (.c (.bool false))), (some 6), none⟩])
 [6]
 (.ret)) (.skip))))) (.seq (.reg [⟨.op (.slow (operAt Try.prog 68 33)), (some 39), none⟩, ⟨.op (.ext (.t 39) 1), (some 40), none⟩, ⟨.op (.ext (.t 39) 0), (some 41), none⟩])
 [1, 2, 31, 40, 41]
 (.cond (.t 40) (.seq (.reg [⟨.op (.mv (.t 41)), (some 10), none⟩])
 [1, 2, 10]
 (.seq (.seq (.reg [⟨.op (.mv (.t 10)), (some 42), none⟩, ⟨.inv (.t 42) "Unwrap" [] (operAt Try.prog 68 38), (some 43), none⟩, ⟨.op (.len (.t 43)), (some 44), none⟩, ⟨.op (.mv (.c (.int .i64 0))), (some 45), none⟩])
 [1, 2, 43, 44, 45]
 (.block 3 (.loop [1, 2, 43, 44, 45] (l68_0))))
 []
 (.seq (.reg [⟨.op (.mv (.c (.bool false))), (some 6), none⟩])
 [6]
 (.ret)))) (.seq (.reg [⟨.op (.mv (.t 31)), (some 13), none⟩])
 []
 (.seq (.reg [⟨.op (.mv (.c (.bool false))), (some 6), none⟩])
 [6]
 (.ret)))))))))))) T st := rfl
/-- errors.is -/
noncomputable def c68 : DFn := ⟨54, .pure,
 .seq (.reg [⟨.op (.mv (.c (.bool false))), (some 6), none⟩])
 [0, 1, 2, 16, 17, 18, 27, 28, 29]
 (.block 0 (.loop [0, 1, 2, 16, 17, 18, 27, 28, 29] (l68_1))),
 [.tmp 6]⟩
theorem k68 : cFn Try.prog 68 = some c68.toE := by kernel_rfl
theorem w68 : c68.body.wf = true := by kernel_rfl
noncomputable def l69_0 : DC :=
 .seq (.reg [⟨.op (.bin .lss 0 (.t 11) (.t 10)), (some 12), none⟩])
 [0, 3, 9, 10, 11, 12]
 (.seq (.cond (.t 12) (.skip) (.exit 0))
 [0, 3, 9, 10, 11]
 (.seq (.block 1 (.seq (.reg [⟨.op (.ia 1 none (.t 9) (.t 11)), (some 13), none⟩, ⟨.op (.ld1 (.t 13)), (some 14), none⟩, ⟨.op (.mv (.t 14)), (some 5), none⟩])
 [0, 3, 5, 9, 10, 11]
 (.seq (.reg [⟨.op (.mv (.t 5)), (some 15), none⟩, ⟨.op (.bin .neq 4 (.t 15) (.c .nilifc)), (some 16), none⟩])
 [0, 3, 9, 10, 11, 16]
 (.cond (.t 16) (.reg [⟨.op (.mv (.t 3)), (some 17), none⟩, ⟨.op (.bin .add 0 (.t 17) (.c (.int .i64 1))), (some 18), none⟩, ⟨.op (.mv (.t 18)), (some 3), none⟩]) (.skip)))))
 [0, 3, 9, 10, 11]
 (.reg [⟨.op (.bin .add 0 (.t 11) (.c (.int .i64 1))), (some 19), none⟩, ⟨.op (.mv (.t 19)), (some 11), none⟩])))
theorem u69_0 (call : DCall) (T : Tm) (st : Dv.St) : dCw Try.prog call l69_0 T st = dCw Try.prog call
 (.seq (.reg [⟨.op (.bin .lss 0 (.t 11) (.t 10)), (some 12), none⟩])
 [0, 3, 9, 10, 11, 12]
 (.seq (.cond (.t 12) (.skip) (.exit 0))
 [0, 3, 9, 10, 11]
 (.seq (.block 1 (.seq (.reg [⟨.op (.ia 1 none (.t 9) (.t 11)), (some 13), none⟩, ⟨.op (.ld1 (.t 13)), (some 14), none⟩, ⟨.op (.mv (.t 14)), (some 5), none⟩])
 [0, 3, 5, 9, 10, 11]
 (.seq (.reg [⟨.op (.mv (.t 5)), (some 15), none⟩, ⟨.op (.bin .neq 4 (.t 15) (.c .nilifc)), (some 16), none⟩])
 [0, 3, 9, 10, 11, 16]
 (.cond (.t 16) (.reg [⟨.op (.mv (.t 3)), (some 17), none⟩, ⟨.op (.bin .add 0 (.t 17) (.c (.int .i64 1))), (some 18), none⟩, ⟨.op (.mv (.t 18)), (some 3), none⟩]) (.skip)))))
 [0, 3, 9, 10, 11]
 (.reg [⟨.op (.bin .add 0 (.t 11) (.c (.int .i64 1))), (some 19), none⟩, ⟨.op (.mv (.t 19)), (some 11), none⟩])))) T st := rfl
noncomputable def l69_1 : DC :=
 .seq (.reg [⟨.op (.bin .lss 0 (.t 28) (.t 27)), (some 29), none⟩])
 [6, 26, 27, 28, 29]
 (.seq (.cond (.t 29) (.skip) (.exit 2))
 [6, 26, 27, 28]
 (.seq (.block 3 (.seq (.reg [⟨.op (.ia 1 none (.t 26) (.t 28)), (some 30), none⟩, ⟨.op (.ld1 (.t 30)), (some 31), none⟩, ⟨.op (.mv (.t 31)), (some 8), none⟩])
 [6, 8, 26, 27, 28]
 (.seq (.reg [⟨.op (.mv (.t 8)), (some 32), none⟩, ⟨.op (.bin .neq 4 (.t 32) (.c .nilifc)), (some 33), none⟩])
 [6, 8, 26, 27, 28, 33]
 (.cond (.t 33) (.reg [⟨.op (.mv (.t 6)), (some 34), none⟩, ⟨.op (.mv (.t 6)), (some 35), none⟩, ⟨.op (.nilchk (.t 35)), (some 36), none⟩, ⟨.op (.fa 0 (.t 36)), (some 37), none⟩, ⟨.op (.ld1 (.t 37)), (some 38), none⟩, ⟨.op (.mv (.t 8)), (some 39), none⟩, ⟨.op (.bslice 1 1 [.nilifc] [(0, 1, (.t 39))]), (some 40), none⟩, ⟨.op (.app 1 16 false (.t 38) (.t 40)), (some 41), none⟩, ⟨.op (.nilchk (.t 34)), (some 42), none⟩, ⟨.op (.fa 0 (.t 42)), (some 43), none⟩, ⟨.op (.st 1 (.t 43) (.t 41)), none, none⟩]) (.skip)))))
 [6, 26, 27, 28]
 (.reg [⟨.op (.bin .add 0 (.t 28) (.c (.int .i64 1))), (some 44), none⟩, ⟨.op (.mv (.t 44)), (some 28), none⟩])))
theorem u69_1 (call : DCall) (T : Tm) (st : Dv.St) : dCw Try.prog call l69_1 T st = dCw Try.prog call
 (.seq (.reg [⟨.op (.bin .lss 0 (.t 28) (.t 27)), (some 29), none⟩])
 [6, 26, 27, 28, 29]
 (.seq (.cond (.t 29) (.skip) (.exit 2))
 [6, 26, 27, 28]
 (.seq (.block 3 (.seq (.reg [⟨.op (.ia 1 none (.t 26) (.t 28)), (some 30), none⟩, ⟨.op (.ld1 (.t 30)), (some 31), none⟩, ⟨.op (.mv (.t 31)), (some 8), none⟩])
 [6, 8, 26, 27, 28]
 (.seq (.reg [⟨.op (.mv (.t 8)), (some 32), none⟩, ⟨.op (.bin .neq 4 (.t 32) (.c .nilifc)), (some 33), none⟩])
 [6, 8, 26, 27, 28, 33]
 (.cond (.t 33) (.reg [⟨.op (.mv (.t 6)), (some 34), none⟩, ⟨.op (.mv (.t 6)), (some 35), none⟩, ⟨.op (.nilchk (.t 35)), (some 36), none⟩, ⟨.op (.fa 0 (.t 36)), (some 37), none⟩, ⟨.op (.ld1 (.t 37)), (some 38), none⟩, ⟨.op (.mv (.t 8)), (some 39), none⟩, ⟨.op (.bslice 1 1 [.nilifc] [(0, 1, (.t 39))]), (some 40), none⟩, ⟨.op (.app 1 16 false (.t 38) (.t 40)), (some 41), none⟩, ⟨.op (.nilchk (.t 34)), (some 42), none⟩, ⟨.op (.fa 0 (.t 42)), (some 43), none⟩, ⟨.op (.st 1 (.t 43) (.t 41)), none, none⟩]) (.skip)))))
 [6, 26, 27, 28]
 (.reg [⟨.op (.bin .add 0 (.t 28) (.c (.int .i64 1))), (some 44), none⟩, ⟨.op (.mv (.t 44)), (some 28), none⟩])))) T st := rfl
/-- errors.Join -/
noncomputable def c69 : DFn := ⟨47, .pure,
 .seq (.reg [⟨.op (.mv (.c .nilifc)), (some 2), none⟩])
 [0]
 (.seq (.reg [⟨.op (.mv (.c (.int .i64 0))), (some 3), none⟩])
 [0, 3]
 (.seq (.seq (.reg [⟨.op (.mv (.t 0)), (some 9), none⟩, ⟨.op (.len (.t 9)), (some 10), none⟩, ⟨.op (.mv (.c (.int .i64 0))), (some 11), none⟩])
 [0, 3, 9, 10, 11]
 (.block 0 (.loop [0, 3, 9, 10, 11] (l69_0))))
 [0, 3]
 (.seq (.seq (.reg [⟨.op (.mv (.t 3)), (some 20), none⟩, ⟨.op (.bin .eql 0 (.t 20) (.c (.int .i64 0))), (some 21), none⟩])
 [0, 3, 21]
 (.cond (.t 21) (.seq (.reg [⟨.op (.mv (.c .nilifc)), (some 2), none⟩])
 [2]
 (.ret)) (.skip)))
 [0, 3]
 (.seq (.reg [⟨.op (.mv (.t 3)), (some 22), none⟩, ⟨.op (.mks 1 16 [.nilifc] (.c (.int .i64 0)) (.t 22)), (some 23), none⟩, ⟨.op (.build [(.sl none 0)] [(0, 1, (.t 23))]), (some 24), none⟩, ⟨.op (.box (.t 24)), (some 25), none⟩, ⟨.op (.mv (.t 25)), (some 6), none⟩])
 [0, 6]
 (.seq (.seq (.reg [⟨.op (.mv (.t 0)), (some 26), none⟩, ⟨.op (.len (.t 26)), (some 27), none⟩, ⟨.op (.mv (.c (.int .i64 0))), (some 28), none⟩])
 [6, 26, 27, 28]
 (.block 2 (.loop [6, 26, 27, 28] (l69_1))))
 [6]
 (.seq (.reg [⟨.op (.mv (.t 6)), (some 45), none⟩, ⟨.op (.ifc 135 (.t 45)), (some 46), none⟩, ⟨.op (.mv (.t 46)), (some 2), none⟩])
 [2]
 (.ret))))))),
 [.tmp 2]⟩
theorem k69 : cFn Try.prog 69 = some c69.toE := by kernel_rfl
theorem w69 : c69.body.wf = true := by kernel_rfl
/-- cardamom/stamp.within -/
noncomputable def c70 : DFn := ⟨19, .pure,
 .seq (.reg [⟨.op (.mv (.c .nilifc)), (some 6), none⟩])
 [0, 1, 2, 10, 11, 12]
 (.seq (.seq (.reg [⟨.op (.mv (.t 1)), (some 7), none⟩, ⟨.op (.bin .lss 0 (.t 7) (.c (.int .i64 1))), (some 8), none⟩, ⟨.op (.mv (.t 8)), (some 9), none⟩, ⟨.op (.mv (.t 1)), (some 10), (some (9, false))⟩, ⟨.op (.mv (.t 2)), (some 11), (some (9, false))⟩, ⟨.op (.bin .gtr 0 (.t 10) (.t 11)), (some 12), (some (9, false))⟩, ⟨.op (.pick (.t 9) (.c (.bool true)) (.t 12)), (some 13), none⟩])
 [0, 13]
 (.cond (.t 13) (.seq (.reg [⟨.op (.mv (.t 0)), (some 14), none⟩, ⟨.op (.build [] []), (some 15), none⟩, ⟨.op (.ifc 79 (.t 15)), (some 16), none⟩, ⟨.op (.build [(.str []), .nilifc] [(0, 1, (.t 14)), (1, 1, (.t 16))]), (some 17), none⟩, ⟨.op (.ifc 139 (.t 17)), (some 18), none⟩, ⟨.op (.mv (.t 18)), (some 6), none⟩])
 [6]
 (.ret)) (.skip)))
 []
 (.seq (.reg [⟨.op (.mv (.c .nilifc)), (some 6), none⟩])
 [6]
 (.ret))),
 [.tmp 6]⟩
theorem k70 : cFn Try.prog 70 = some c70.toE := by kernel_rfl
theorem w70 : c70.body.wf = true := by kernel_rfl
/-- cardamom/cardamomlaw2.begun -/
noncomputable def c23 : DFn := ⟨45, .pure,
 .seq (.reg [⟨.op (.mv (.c (.bool false))), (some 0), none⟩])
 [10, 11, 12, 15, 16, 17, 18, 21, 22, 23, 26, 27, 28, 29, 32, 33, 36, 37, 38, 41, 42, 43]
 (.seq (.reg [⟨.op (.build [(.int .i64 0), (.sl none 0)] []), (some 3), none⟩, ⟨.call 24 [(.t 3), (.c (.int .i64 2))], (some 4), none⟩, ⟨.op (.new [(.int .i64 0), (.sl none 0)]), (some 1), none⟩, ⟨.op (.st 2 (.t 1) (.t 4)), none, none⟩])
 [1, 10, 11, 12, 15, 16, 17, 18, 21, 22, 23, 26, 27, 28, 29, 32, 33, 36, 37, 38, 41, 42, 43]
 (.seq (.reg [⟨.op (.ldn 2 (.t 1)), (some 5), none⟩, ⟨.call 24 [(.t 5), (.c (.int .i64 1))], (some 6), none⟩, ⟨.op (.new [(.int .i64 0), (.sl none 0)]), (some 2), none⟩, ⟨.op (.st 2 (.t 2) (.t 6)), none, none⟩])
 [1, 2, 10, 11, 12, 15, 16, 17, 18, 21, 22, 23, 26, 27, 28, 29, 32, 33, 36, 37, 38, 41, 42, 43]
 (.seq (.reg [⟨.op (.ldn 2 (.t 1)), (some 7), none⟩, ⟨.call 27 [(.t 7)], (some 8), none⟩, ⟨.op (.mv (.t 8)), (some 9), none⟩, ⟨.op (.fa 0 (.t 1)), (some 10), (some (9, true))⟩, ⟨.op (.ld1 (.t 10)), (some 11), (some (9, true))⟩, ⟨.op (.bin .eql 0 (.t 11) (.c (.int .i64 0))), (some 12), (some (9, true))⟩, ⟨.op (.pick (.t 9) (.t 12) (.c (.bool false))), (some 13), none⟩, ⟨.op (.mv (.t 13)), (some 14), none⟩, ⟨.op (.fa 1 (.t 1)), (some 15), (some (14, true))⟩, ⟨.op (.ld1 (.t 15)), (some 16), (some (14, true))⟩, ⟨.op (.len (.t 16)), (some 17), (some (14, true))⟩, ⟨.op (.bin .eql 0 (.t 17) (.c (.int .i64 1))), (some 18), (some (14, true))⟩, ⟨.op (.pick (.t 14) (.t 18) (.c (.bool false))), (some 19), none⟩, ⟨.op (.mv (.t 19)), (some 20), none⟩, ⟨.op (.fa 0 (.t 2)), (some 21), (some (20, true))⟩, ⟨.op (.ld1 (.t 21)), (some 22), (some (20, true))⟩, ⟨.op (.bin .eql 0 (.t 22) (.c (.int .i64 2))), (some 23), (some (20, true))⟩, ⟨.op (.pick (.t 20) (.t 23) (.c (.bool false))), (some 24), none⟩, ⟨.op (.mv (.t 24)), (some 25), none⟩, ⟨.op (.fa 1 (.t 2)), (some 26), (some (25, true))⟩, ⟨.op (.ld1 (.t 26)), (some 27), (some (25, true))⟩, ⟨.op (.len (.t 27)), (some 28), (some (25, true))⟩, ⟨.op (.bin .eql 0 (.t 28) (.c (.int .i64 0))), (some 29), (some (25, true))⟩, ⟨.op (.pick (.t 25) (.t 29) (.c (.bool false))), (some 30), none⟩, ⟨.op (.mv (.t 30)), (some 31), none⟩, ⟨.op (.ldn 2 (.t 2)), (some 32), (some (31, true))⟩, ⟨.call 25 [(.t 32), (.c (.int .i64 2))], (some 33), (some (31, true))⟩, ⟨.op (.pick (.t 31) (.t 33) (.c (.bool false))), (some 34), none⟩, ⟨.op (.mv (.t 34)), (some 35), none⟩, ⟨.op (.ldn 2 (.t 2)), (some 36), (some (35, true))⟩, ⟨.call 25 [(.t 36), (.c (.int .i64 3))], (some 37), (some (35, true))⟩, ⟨.op (.not (.t 37)), (some 38), (some (35, true))⟩, ⟨.op (.pick (.t 35) (.t 38) (.c (.bool false))), (some 39), none⟩, ⟨.op (.mv (.t 39)), (some 40), none⟩, ⟨.op (.ldn 2 (.t 2)), (some 41), (some (40, true))⟩, ⟨.call 28 [(.t 41)], (some 42), (some (40, true))⟩, ⟨.op (.bin .eql 0 (.t 42) (.c (.int .i64 2))), (some 43), (some (40, true))⟩, ⟨.op (.pick (.t 40) (.t 43) (.c (.bool false))), (some 44), none⟩, ⟨.op (.mv (.t 44)), (some 0), none⟩])
 [0]
 (.ret)))),
 [.tmp 0]⟩
theorem k23 : cFn Try.prog 23 = some c23.toE := by kernel_rfl
theorem w23 : c23.body.wf = true := by kernel_rfl
/-- cardamom/know.Add -/
noncomputable def c24 : DFn := ⟨39, .pure,
 .seq (.reg [⟨.op (.box (.t 0)), (some 2), none⟩, ⟨.op (.new [(.int .i64 0), (.sl none 0)]), (some 4), none⟩])
 [1, 2, 4, 14, 15, 18, 19, 20]
 (.seq (.reg [⟨.op (.fa 1 (.t 2)), (some 7), none⟩, ⟨.op (.ld1 (.t 7)), (some 8), none⟩, ⟨.call 44 [(.t 8)], (some 9), none⟩, ⟨.op (.fa 1 (.t 2)), (some 10), none⟩, ⟨.op (.st 1 (.t 10) (.t 9)), none, none⟩])
 [1, 2, 4, 14, 15, 18, 19, 20]
 (.seq (.seq (.reg [⟨.op (.mv (.t 1)), (some 11), none⟩, ⟨.op (.bin .lss 0 (.t 11) (.c (.int .i64 1))), (some 12), none⟩, ⟨.op (.mv (.t 12)), (some 13), none⟩, ⟨.op (.mv (.t 1)), (some 14), (some (13, false))⟩, ⟨.op (.bin .gtr 0 (.t 14) (.c (.int .i64 1000000))), (some 15), (some (13, false))⟩, ⟨.op (.pick (.t 13) (.c (.bool true)) (.t 15)), (some 16), none⟩, ⟨.op (.mv (.t 16)), (some 17), none⟩, ⟨.op (.ldn 2 (.t 2)), (some 18), (some (17, false))⟩, ⟨.op (.mv (.t 1)), (some 19), (some (17, false))⟩, ⟨.call 25 [(.t 18), (.t 19)], (some 20), (some (17, false))⟩, ⟨.op (.pick (.t 17) (.c (.bool true)) (.t 20)), (some 21), none⟩])
 [1, 2, 4, 21]
 (.cond (.t 21) (.seq (.reg [⟨.op (.ldn 2 (.t 2)), (some 22), none⟩, ⟨.op (.st 2 (.t 4) (.t 22)), none, none⟩])
 [4]
 (.ret)) (.skip)))
 [1, 2, 4]
 (.seq (.reg [⟨.op (.fa 1 (.t 2)), (some 24), none⟩, ⟨.op (.ld1 (.t 24)), (some 25), none⟩, ⟨.op (.mv (.t 1)), (some 26), none⟩, ⟨.call 45 [(.t 25), (.t 26)], (some 27), none⟩, ⟨.op (.mv (.t 27)), (some 23), none⟩, ⟨.op (.ext (.t 23) 0), (some 28), none⟩, ⟨.op (.ext (.t 23) 1), (some 29), none⟩, ⟨.op (.mv (.t 28)), (some 5), none⟩, ⟨.op (.mv (.t 29)), (some 6), none⟩])
 [1, 2, 4, 5]
 (.seq (.reg [⟨.op (.fa 1 (.t 2)), (some 30), none⟩, ⟨.op (.ld1 (.t 30)), (some 31), none⟩, ⟨.op (.mv (.t 5)), (some 32), none⟩, ⟨.op (.mv (.t 1)), (some 33), none⟩, ⟨.op (.bslice 1 1 [(.int .i64 0)] [(0, 1, (.t 33))]), (some 34), none⟩, ⟨.call 46 [(.t 31), (.t 32), (.t 34)], (some 35), none⟩, ⟨.op (.fa 1 (.t 2)), (some 36), none⟩, ⟨.op (.st 1 (.t 36) (.t 35)), none, none⟩])
 [2, 4]
 (.seq (.reg [⟨.op (.ldn 2 (.t 2)), (some 37), none⟩, ⟨.call 47 [(.t 37)], (some 38), none⟩, ⟨.op (.st 2 (.t 4) (.t 38)), none, none⟩])
 [4]
 (.ret)))))),
 [.celln 2 4]⟩
theorem k24 : cFn Try.prog 24 = some c24.toE := by kernel_rfl
theorem w24 : c24.body.wf = true := by kernel_rfl
/-- cardamom/know.Has -/
noncomputable def c25 : DFn := ⟨19, .pure,
 .seq (.reg [⟨.op (.box (.t 0)), (some 2), none⟩, ⟨.op (.mv (.c (.bool false))), (some 4), none⟩])
 [1, 2, 8, 9, 10, 11, 14, 15, 16, 17]
 (.seq (.reg [⟨.op (.mv (.t 1)), (some 5), none⟩, ⟨.op (.bin .geq 0 (.t 5) (.c (.int .i64 1))), (some 6), none⟩, ⟨.op (.mv (.t 6)), (some 7), none⟩, ⟨.op (.mv (.t 1)), (some 8), (some (7, true))⟩, ⟨.op (.fa 0 (.t 2)), (some 9), (some (7, true))⟩, ⟨.op (.ld1 (.t 9)), (some 10), (some (7, true))⟩, ⟨.op (.bin .leq 0 (.t 8) (.t 10)), (some 11), (some (7, true))⟩, ⟨.op (.pick (.t 7) (.t 11) (.c (.bool false))), (some 12), none⟩, ⟨.op (.mv (.t 12)), (some 13), none⟩, ⟨.op (.fa 1 (.t 2)), (some 14), (some (13, false))⟩, ⟨.op (.ld1 (.t 14)), (some 15), (some (13, false))⟩, ⟨.op (.mv (.t 1)), (some 16), (some (13, false))⟩, ⟨.call 48 [(.t 15), (.t 16)], (some 17), (some (13, false))⟩, ⟨.op (.pick (.t 13) (.c (.bool true)) (.t 17)), (some 18), none⟩, ⟨.op (.mv (.t 18)), (some 4), none⟩])
 [4]
 (.ret)),
 [.tmp 4]⟩
theorem k25 : cFn Try.prog 25 = some c25.toE := by kernel_rfl
theorem w25 : c25.body.wf = true := by kernel_rfl
/-- cardamom/cardamomref1.SameKnow -/
noncomputable def c26 : DFn := ⟨17, .pure,
 .seq (.reg [⟨.op (.box (.t 0)), (some 2), none⟩, ⟨.op (.box (.t 1)), (some 3), none⟩, ⟨.op (.mv (.c (.bool false))), (some 4), none⟩])
 [2, 3, 11, 12, 13, 14, 15]
 (.seq (.reg [⟨.op (.fa 0 (.t 2)), (some 5), none⟩, ⟨.op (.ld1 (.t 5)), (some 6), none⟩, ⟨.op (.fa 0 (.t 3)), (some 7), none⟩, ⟨.op (.ld1 (.t 7)), (some 8), none⟩, ⟨.op (.bin .eql 0 (.t 6) (.t 8)), (some 9), none⟩, ⟨.op (.mv (.t 9)), (some 10), none⟩, ⟨.op (.fa 1 (.t 2)), (some 11), (some (10, true))⟩, ⟨.op (.ld1 (.t 11)), (some 12), (some (10, true))⟩, ⟨.op (.fa 1 (.t 3)), (some 13), (some (10, true))⟩, ⟨.op (.ld1 (.t 13)), (some 14), (some (10, true))⟩, ⟨.call 49 [(.t 12), (.t 14)], (some 15), (some (10, true))⟩, ⟨.op (.pick (.t 10) (.t 15) (.c (.bool false))), (some 16), none⟩, ⟨.op (.mv (.t 16)), (some 4), none⟩])
 [4]
 (.ret)),
 [.tmp 4]⟩
theorem k26 : cFn Try.prog 26 = some c26.toE := by kernel_rfl
theorem w26 : c26.body.wf = true := by kernel_rfl
/-- cardamom/know.May -/
noncomputable def c27 : DFn := ⟨9, .pure,
 .seq (.reg [⟨.op (.box (.t 0)), (some 1), none⟩, ⟨.op (.mv (.c (.bool false))), (some 2), none⟩])
 [1]
 (.seq (.reg [⟨.op (.ldn 2 (.t 1)), (some 3), none⟩, ⟨.call 50 [(.t 3)], (some 4), none⟩, ⟨.op (.build [] []), (some 5), none⟩, ⟨.op (.ifc 90 (.t 5)), (some 6), none⟩, ⟨.call 40 [(.t 4), (.t 6)], (some 7), none⟩, ⟨.op (.not (.t 7)), (some 8), none⟩, ⟨.op (.mv (.t 8)), (some 2), none⟩])
 [2]
 (.ret)),
 [.tmp 2]⟩
theorem k27 : cFn Try.prog 27 = some c27.toE := by kernel_rfl
theorem w27 : c27.body.wf = true := by kernel_rfl
/-- cardamom/know.Count -/
noncomputable def c28 : DFn := ⟨9, .pure,
 .seq (.reg [⟨.op (.box (.t 0)), (some 1), none⟩, ⟨.op (.mv (.c (.int .i64 0))), (some 2), none⟩])
 [1]
 (.seq (.reg [⟨.op (.fa 0 (.t 1)), (some 3), none⟩, ⟨.op (.ld1 (.t 3)), (some 4), none⟩, ⟨.op (.fa 1 (.t 1)), (some 5), none⟩, ⟨.op (.ld1 (.t 5)), (some 6), none⟩, ⟨.op (.len (.t 6)), (some 7), none⟩, ⟨.op (.bin .add 0 (.t 4) (.t 7)), (some 8), none⟩, ⟨.op (.mv (.t 8)), (some 2), none⟩])
 [2]
 (.ret)),
 [.tmp 2]⟩
theorem k28 : cFn Try.prog 28 = some c28.toE := by kernel_rfl
theorem w28 : c28.body.wf = true := by kernel_rfl
noncomputable def l29_0 : DC :=
 .seq (.seq (.reg [⟨.op (.mv (.t 4)), (some 6), none⟩, ⟨.op (.mv (.t 0)), (some 7), none⟩, ⟨.op (.len (.t 7)), (some 8), none⟩, ⟨.op (.bin .lss 0 (.t 6) (.t 8)), (some 9), none⟩])
 [0, 2, 3, 4, 9]
 (.cond (.t 9) (.skip) (.exit 0)))
 [0, 2, 3, 4]
 (.seq (.block 1 (.drw [⟨⟨.op (.ldn 2 (.t 3)), (some 12), none⟩, .n, []⟩, ⟨⟨.op (.mv (.t 0)), (some 13), none⟩, .n, []⟩, ⟨⟨.op (.mv (.t 4)), (some 14), none⟩, .n, []⟩, ⟨⟨.op (.ia 1 none (.t 13) (.t 14)), (some 15), none⟩, .n, []⟩, ⟨⟨.op (.ld1 (.t 15)), (some 16), none⟩, .n, []⟩, ⟨⟨.op (.bin .rem 0 (.t 16) (.c (.int .u8 50))), (some 17), none⟩, .n, []⟩, ⟨⟨.op (.conv .i64 (.t 17)), (some 18), none⟩, .n, []⟩, ⟨⟨.op (.bin .add 0 (.c (.int .i64 1)) (.t 18)), (some 19), none⟩, .n, []⟩, ⟨⟨.call 51 [(.t 12), (.t 19)], (some 20), none⟩, .x, []⟩, ⟨⟨.op (.st 2 (.t 3) (.t 20)), none, none⟩, .x, []⟩]))
 [0, 2, 3, 4]
 (.reg [⟨.op (.mv (.t 4)), (some 10), none⟩, ⟨.op (.bin .add 0 (.t 10) (.c (.int .i64 1))), (some 11), none⟩, ⟨.op (.mv (.t 11)), (some 4), none⟩]))
theorem u29_0 (call : DCall) (T : Tm) (st : Dv.St) : dCw Try.prog call l29_0 T st = dCw Try.prog call
 (.seq (.seq (.reg [⟨.op (.mv (.t 4)), (some 6), none⟩, ⟨.op (.mv (.t 0)), (some 7), none⟩, ⟨.op (.len (.t 7)), (some 8), none⟩, ⟨.op (.bin .lss 0 (.t 6) (.t 8)), (some 9), none⟩])
 [0, 2, 3, 4, 9]
 (.cond (.t 9) (.skip) (.exit 0)))
 [0, 2, 3, 4]
 (.seq (.block 1 (.drw [⟨⟨.op (.ldn 2 (.t 3)), (some 12), none⟩, .n, []⟩, ⟨⟨.op (.mv (.t 0)), (some 13), none⟩, .n, []⟩, ⟨⟨.op (.mv (.t 4)), (some 14), none⟩, .n, []⟩, ⟨⟨.op (.ia 1 none (.t 13) (.t 14)), (some 15), none⟩, .n, []⟩, ⟨⟨.op (.ld1 (.t 15)), (some 16), none⟩, .n, []⟩, ⟨⟨.op (.bin .rem 0 (.t 16) (.c (.int .u8 50))), (some 17), none⟩, .n, []⟩, ⟨⟨.op (.conv .i64 (.t 17)), (some 18), none⟩, .n, []⟩, ⟨⟨.op (.bin .add 0 (.c (.int .i64 1)) (.t 18)), (some 19), none⟩, .n, []⟩, ⟨⟨.call 51 [(.t 12), (.t 19)], (some 20), none⟩, .x, []⟩, ⟨⟨.op (.st 2 (.t 3) (.t 20)), none, none⟩, .x, []⟩]))
 [0, 2, 3, 4]
 (.reg [⟨.op (.mv (.t 4)), (some 10), none⟩, ⟨.op (.bin .add 0 (.t 10) (.c (.int .i64 1))), (some 11), none⟩, ⟨.op (.mv (.t 11)), (some 4), none⟩]))) T st := rfl
/-- cardamom/cardamomlaw2.made -/
noncomputable def c29 : DFn := ⟨22, .pure,
 .seq (.reg [⟨.op (.new [(.int .i64 0), (.sl none 0)]), (some 2), none⟩])
 [0, 2]
 (.seq (.reg [⟨.op (.build [(.int .i64 0), (.sl none 0)] []), (some 5), none⟩, ⟨.op (.new [(.int .i64 0), (.sl none 0)]), (some 3), none⟩, ⟨.op (.st 2 (.t 3) (.t 5)), none, none⟩])
 [0, 2, 3]
 (.seq (.seq (.reg [⟨.op (.mv (.c (.int .i64 0))), (some 4), none⟩])
 [0, 2, 3, 4]
 (.block 0 (.loop [0, 2, 3, 4] (l29_0))))
 [2, 3]
 (.seq (.reg [⟨.op (.ldn 2 (.t 3)), (some 21), none⟩, ⟨.op (.st 2 (.t 2) (.t 21)), none, none⟩])
 [2]
 (.ret)))),
 [.celln 2 2]⟩
theorem k29 : cFn Try.prog 29 = some c29.toE := by kernel_rfl
theorem w29 : c29.body.wf = true := by kernel_rfl
/-- cardamom/know.Both -/
noncomputable def c30 : DFn := ⟨23, .pure,
 .seq (.reg [⟨.op (.box (.t 0)), (some 2), none⟩, ⟨.op (.box (.t 1)), (some 3), none⟩, ⟨.op (.new [(.int .i64 0), (.sl none 0)]), (some 4), none⟩])
 [2, 3, 4]
 (.seq (.reg [⟨.op (.fa 1 (.t 2)), (some 6), none⟩, ⟨.op (.ld1 (.t 6)), (some 7), none⟩, ⟨.op (.fa 1 (.t 3)), (some 8), none⟩, ⟨.op (.ld1 (.t 8)), (some 9), none⟩, ⟨.op (.bslice 1 2 [(.sl none 0), (.sl none 0)] [(0, 1, (.t 7)), (1, 1, (.t 9))]), (some 10), none⟩, ⟨.call 52 [(.t 10)], (some 11), none⟩, ⟨.op (.mv (.t 11)), (some 5), none⟩])
 [2, 3, 4, 5]
 (.seq (.reg [⟨.op (.mv (.t 5)), (some 12), none⟩, ⟨.call 53 [(.t 12)], (some 13), none⟩])
 [2, 3, 4, 5]
 (.seq (.drw [⟨⟨.op (.fa 0 (.t 2)), (some 14), none⟩, .n, []⟩, ⟨⟨.op (.ld1 (.t 14)), (some 15), none⟩, .n, []⟩, ⟨⟨.op (.fa 0 (.t 3)), (some 16), none⟩, .n, []⟩, ⟨⟨.op (.ld1 (.t 16)), (some 17), none⟩, .n, []⟩, ⟨⟨.op (.slow (operAt Try.prog 30 16)), (some 18), none⟩, .n, []⟩, ⟨⟨.op (.mv (.t 5)), (some 19), none⟩, .n, []⟩, ⟨⟨.call 54 [(.t 19)], (some 20), none⟩, .x, [(true, 3), (true, 1)]⟩, ⟨⟨.op (.build [(.int .i64 0), (.sl none 0)] [(0, 1, (.t 18)), (1, 1, (.t 20))]), (some 21), none⟩, .n, []⟩, ⟨⟨.call 47 [(.t 21)], (some 22), none⟩, .x, []⟩, ⟨⟨.op (.st 2 (.t 4) (.t 22)), none, none⟩, .x, []⟩])
 [4]
 (.ret)))),
 [.celln 2 4]⟩
theorem k30 : cFn Try.prog 30 = some c30.toE := by kernel_rfl
theorem w30 : c30.body.wf = true := by kernel_rfl
/-- cardamom/know.Within -/
noncomputable def c31 : DFn := ⟨17, .pure,
 .seq (.reg [⟨.op (.box (.t 0)), (some 2), none⟩, ⟨.op (.box (.t 1)), (some 3), none⟩, ⟨.op (.mv (.c (.bool false))), (some 4), none⟩])
 [2, 3, 11, 12, 13, 14, 15]
 (.seq (.reg [⟨.op (.fa 0 (.t 2)), (some 5), none⟩, ⟨.op (.ld1 (.t 5)), (some 6), none⟩, ⟨.op (.fa 0 (.t 3)), (some 7), none⟩, ⟨.op (.ld1 (.t 7)), (some 8), none⟩, ⟨.op (.bin .leq 0 (.t 6) (.t 8)), (some 9), none⟩, ⟨.op (.mv (.t 9)), (some 10), none⟩, ⟨.op (.fa 1 (.t 2)), (some 11), (some (10, true))⟩, ⟨.op (.ld1 (.t 11)), (some 12), (some (10, true))⟩, ⟨.op (.fn 56 [(.t 3)]), (some 13), (some (10, true))⟩, ⟨.call 55 [(.t 12), (.t 13)], (some 14), (some (10, true))⟩, ⟨.op (.not (.t 14)), (some 15), (some (10, true))⟩, ⟨.op (.pick (.t 10) (.t 15) (.c (.bool false))), (some 16), none⟩, ⟨.op (.mv (.t 16)), (some 4), none⟩])
 [4]
 (.ret)),
 [.tmp 4]⟩
theorem k31 : cFn Try.prog 31 = some c31.toE := by kernel_rfl
theorem w31 : c31.body.wf = true := by kernel_rfl
noncomputable def l9_0 : DC :=
 .seq (.seq (.reg [⟨.op (.mv (.t 11)), (some 36), none⟩, ⟨.op (.bin .lss 0 (.t 36) (.c (.int .i64 60))), (some 37), none⟩])
 [7, 8, 9, 10, 11, 37, 47, 48, 49, 55, 56, 57, 60, 61, 62, 65, 66, 67, 68, 69, 72, 73, 74, 75, 76, 77, 78, 79, 80, 83, 84, 85, 86, 87, 88, 89, 92, 93, 94, 95, 96]
 (.cond (.t 37) (.skip) (.exit 0)))
 [7, 8, 9, 10, 11, 47, 48, 49, 55, 56, 57, 60, 61, 62, 65, 66, 67, 68, 69, 72, 73, 74, 75, 76, 77, 78, 79, 80, 83, 84, 85, 86, 87, 88, 89, 92, 93, 94, 95, 96]
 (.seq (.block 1 (.seq (.drw [⟨⟨.op (.ldn 2 (.t 10)), (some 40), none⟩, .n, []⟩, ⟨⟨.op (.mv (.t 11)), (some 41), none⟩, .n, []⟩, ⟨⟨.op (.ldn 2 (.t 7)), (some 43), none⟩, .n, []⟩, ⟨⟨.op (.mv (.t 11)), (some 44), none⟩, .n, []⟩, ⟨⟨.call 25 [(.t 40), (.t 41)], (some 42), none⟩, .x, [(true, 2)]⟩, ⟨⟨.call 25 [(.t 43), (.t 44)], (some 45), none⟩, .x, []⟩, ⟨⟨.op (.mv (.t 45)), (some 46), none⟩, .n, []⟩, ⟨⟨.op (.ldn 2 (.t 8)), (some 47), (some (46, false))⟩, .n, []⟩, ⟨⟨.op (.mv (.t 11)), (some 48), (some (46, false))⟩, .n, []⟩, ⟨⟨.call 25 [(.t 47), (.t 48)], (some 49), (some (46, false))⟩, .x, []⟩, ⟨⟨.op (.pick (.t 46) (.c (.bool true)) (.t 49)), (some 50), none⟩, .n, []⟩, ⟨⟨.op (.bin .neq 5 (.t 42) (.t 50)), (some 51), none⟩, .n, []⟩])
 [7, 8, 9, 10, 11, 47, 48, 49, 51, 55, 56, 57, 60, 61, 62, 65, 66, 67, 68, 69, 72, 73, 74, 75, 76, 77, 78, 79, 80, 83, 84, 85, 86, 87, 88, 89, 92, 93, 94, 95, 96]
 (.cond (.t 51) (.seq (.reg [⟨.op (.mv (.c (.bool false))), (some 6), none⟩])
 [6]
 (.ret)) (.skip))))
 [7, 8, 9, 10, 11, 47, 48, 49, 55, 56, 57, 60, 61, 62, 65, 66, 67, 68, 69, 72, 73, 74, 75, 76, 77, 78, 79, 80, 83, 84, 85, 86, 87, 88, 89, 92, 93, 94, 95, 96]
 (.reg [⟨.op (.mv (.t 11)), (some 38), none⟩, ⟨.op (.bin .add 0 (.t 38) (.c (.int .i64 1))), (some 39), none⟩, ⟨.op (.mv (.t 39)), (some 11), none⟩]))
theorem u9_0 (call : DCall) (T : Tm) (st : Dv.St) : dCw Try.prog call l9_0 T st = dCw Try.prog call
 (.seq (.seq (.reg [⟨.op (.mv (.t 11)), (some 36), none⟩, ⟨.op (.bin .lss 0 (.t 36) (.c (.int .i64 60))), (some 37), none⟩])
 [7, 8, 9, 10, 11, 37, 47, 48, 49, 55, 56, 57, 60, 61, 62, 65, 66, 67, 68, 69, 72, 73, 74, 75, 76, 77, 78, 79, 80, 83, 84, 85, 86, 87, 88, 89, 92, 93, 94, 95, 96]
 (.cond (.t 37) (.skip) (.exit 0)))
 [7, 8, 9, 10, 11, 47, 48, 49, 55, 56, 57, 60, 61, 62, 65, 66, 67, 68, 69, 72, 73, 74, 75, 76, 77, 78, 79, 80, 83, 84, 85, 86, 87, 88, 89, 92, 93, 94, 95, 96]
 (.seq (.block 1 (.seq (.drw [⟨⟨.op (.ldn 2 (.t 10)), (some 40), none⟩, .n, []⟩, ⟨⟨.op (.mv (.t 11)), (some 41), none⟩, .n, []⟩, ⟨⟨.op (.ldn 2 (.t 7)), (some 43), none⟩, .n, []⟩, ⟨⟨.op (.mv (.t 11)), (some 44), none⟩, .n, []⟩, ⟨⟨.call 25 [(.t 40), (.t 41)], (some 42), none⟩, .x, [(true, 2)]⟩, ⟨⟨.call 25 [(.t 43), (.t 44)], (some 45), none⟩, .x, []⟩, ⟨⟨.op (.mv (.t 45)), (some 46), none⟩, .n, []⟩, ⟨⟨.op (.ldn 2 (.t 8)), (some 47), (some (46, false))⟩, .n, []⟩, ⟨⟨.op (.mv (.t 11)), (some 48), (some (46, false))⟩, .n, []⟩, ⟨⟨.call 25 [(.t 47), (.t 48)], (some 49), (some (46, false))⟩, .x, []⟩, ⟨⟨.op (.pick (.t 46) (.c (.bool true)) (.t 49)), (some 50), none⟩, .n, []⟩, ⟨⟨.op (.bin .neq 5 (.t 42) (.t 50)), (some 51), none⟩, .n, []⟩])
 [7, 8, 9, 10, 11, 47, 48, 49, 51, 55, 56, 57, 60, 61, 62, 65, 66, 67, 68, 69, 72, 73, 74, 75, 76, 77, 78, 79, 80, 83, 84, 85, 86, 87, 88, 89, 92, 93, 94, 95, 96]
 (.cond (.t 51) (.seq (.reg [⟨.op (.mv (.c (.bool false))), (some 6), none⟩])
 [6]
 (.ret)) (.skip))))
 [7, 8, 9, 10, 11, 47, 48, 49, 55, 56, 57, 60, 61, 62, 65, 66, 67, 68, 69, 72, 73, 74, 75, 76, 77, 78, 79, 80, 83, 84, 85, 86, 87, 88, 89, 92, 93, 94, 95, 96]
 (.reg [⟨.op (.mv (.t 11)), (some 38), none⟩, ⟨.op (.bin .add 0 (.t 38) (.c (.int .i64 1))), (some 39), none⟩, ⟨.op (.mv (.t 39)), (some 11), none⟩]))) T st := rfl
/-- cardamom/cardamomlaw2.KnowBoth -/
noncomputable def c9 : DFn := ⟨98, .pure,
 .seq (.reg [⟨.op (.mv (.c (.bool false))), (some 6), none⟩])
 [0, 1, 2, 18, 19, 20, 23, 24, 25, 47, 48, 49, 55, 56, 57, 60, 61, 62, 65, 66, 67, 68, 69, 72, 73, 74, 75, 76, 77, 78, 79, 80, 83, 84, 85, 86, 87, 88, 89, 92, 93, 94, 95, 96]
 (.seq (.seq (.reg [⟨.call 23 [], (some 12), none⟩, ⟨.op (.not (.t 12)), (some 13), none⟩])
 [0, 1, 2, 13, 18, 19, 20, 23, 24, 25, 47, 48, 49, 55, 56, 57, 60, 61, 62, 65, 66, 67, 68, 69, 72, 73, 74, 75, 76, 77, 78, 79, 80, 83, 84, 85, 86, 87, 88, 89, 92, 93, 94, 95, 96]
 (.cond (.t 13) (.seq (.reg [⟨.op (.mv (.c (.bool false))), (some 6), none⟩])
 [6]
 (.ret)) (.skip)))
 [0, 1, 2, 18, 19, 20, 23, 24, 25, 47, 48, 49, 55, 56, 57, 60, 61, 62, 65, 66, 67, 68, 69, 72, 73, 74, 75, 76, 77, 78, 79, 80, 83, 84, 85, 86, 87, 88, 89, 92, 93, 94, 95, 96]
 (.seq (.seq (.reg [⟨.op (.mv (.t 0)), (some 14), none⟩, ⟨.op (.len (.t 14)), (some 15), none⟩, ⟨.op (.bin .gtr 0 (.t 15) (.c (.int .i64 20))), (some 16), none⟩, ⟨.op (.mv (.t 16)), (some 17), none⟩, ⟨.op (.mv (.t 1)), (some 18), (some (17, false))⟩, ⟨.op (.len (.t 18)), (some 19), (some (17, false))⟩, ⟨.op (.bin .gtr 0 (.t 19) (.c (.int .i64 20))), (some 20), (some (17, false))⟩, ⟨.op (.pick (.t 17) (.c (.bool true)) (.t 20)), (some 21), none⟩, ⟨.op (.mv (.t 21)), (some 22), none⟩, ⟨.op (.mv (.t 2)), (some 23), (some (22, false))⟩, ⟨.op (.len (.t 23)), (some 24), (some (22, false))⟩, ⟨.op (.bin .gtr 0 (.t 24) (.c (.int .i64 20))), (some 25), (some (22, false))⟩, ⟨.op (.pick (.t 22) (.c (.bool true)) (.t 25)), (some 26), none⟩])
 [0, 1, 2, 26, 47, 48, 49, 55, 56, 57, 60, 61, 62, 65, 66, 67, 68, 69, 72, 73, 74, 75, 76, 77, 78, 79, 80, 83, 84, 85, 86, 87, 88, 89, 92, 93, 94, 95, 96]
 (.cond (.t 26) (.seq (.reg [⟨.op (.mv (.c (.bool true))), (some 6), none⟩])
 [6]
 (.ret)) (.skip)))
 [0, 1, 2, 47, 48, 49, 55, 56, 57, 60, 61, 62, 65, 66, 67, 68, 69, 72, 73, 74, 75, 76, 77, 78, 79, 80, 83, 84, 85, 86, 87, 88, 89, 92, 93, 94, 95, 96]
 (.seq (.reg [⟨.op (.mv (.t 0)), (some 27), none⟩, ⟨.call 29 [(.t 27)], (some 28), none⟩, ⟨.op (.mv (.t 1)), (some 29), none⟩, ⟨.call 29 [(.t 29)], (some 30), none⟩, ⟨.op (.mv (.t 2)), (some 31), none⟩, ⟨.call 29 [(.t 31)], (some 32), none⟩, ⟨.op (.new [(.int .i64 0), (.sl none 0)]), (some 7), none⟩, ⟨.op (.new [(.int .i64 0), (.sl none 0)]), (some 8), none⟩, ⟨.op (.new [(.int .i64 0), (.sl none 0)]), (some 9), none⟩, ⟨.op (.st 2 (.t 7) (.t 28)), none, none⟩, ⟨.op (.st 2 (.t 8) (.t 30)), none, none⟩, ⟨.op (.st 2 (.t 9) (.t 32)), none, none⟩])
 [7, 8, 9, 47, 48, 49, 55, 56, 57, 60, 61, 62, 65, 66, 67, 68, 69, 72, 73, 74, 75, 76, 77, 78, 79, 80, 83, 84, 85, 86, 87, 88, 89, 92, 93, 94, 95, 96]
 (.seq (.reg [⟨.op (.ldn 2 (.t 7)), (some 33), none⟩, ⟨.op (.ldn 2 (.t 8)), (some 34), none⟩, ⟨.call 30 [(.t 33), (.t 34)], (some 35), none⟩, ⟨.op (.new [(.int .i64 0), (.sl none 0)]), (some 10), none⟩, ⟨.op (.st 2 (.t 10) (.t 35)), none, none⟩])
 [7, 8, 9, 10, 47, 48, 49, 55, 56, 57, 60, 61, 62, 65, 66, 67, 68, 69, 72, 73, 74, 75, 76, 77, 78, 79, 80, 83, 84, 85, 86, 87, 88, 89, 92, 93, 94, 95, 96]
 (.seq (.seq (.reg [⟨.op (.mv (.c (.int .i64 0))), (some 11), none⟩])
 [7, 8, 9, 10, 11, 47, 48, 49, 55, 56, 57, 60, 61, 62, 65, 66, 67, 68, 69, 72, 73, 74, 75, 76, 77, 78, 79, 80, 83, 84, 85, 86, 87, 88, 89, 92, 93, 94, 95, 96]
 (.block 0 (.loop [7, 8, 9, 10, 11, 47, 48, 49, 55, 56, 57, 60, 61, 62, 65, 66, 67, 68, 69, 72, 73, 74, 75, 76, 77, 78, 79, 80, 83, 84, 85, 86, 87, 88, 89, 92, 93, 94, 95, 96] (l9_0))))
 [7, 8, 9, 10, 55, 56, 57, 60, 61, 62, 65, 66, 67, 68, 69, 72, 73, 74, 75, 76, 77, 78, 79, 80, 83, 84, 85, 86, 87, 88, 89, 92, 93, 94, 95, 96]
 (.seq (.drw [⟨⟨.op (.ldn 2 (.t 10)), (some 52), none⟩, .n, []⟩, ⟨⟨.call 27 [(.t 52)], (some 53), none⟩, .x, []⟩, ⟨⟨.op (.mv (.t 53)), (some 54), none⟩, .n, []⟩, ⟨⟨.op (.ldn 2 (.t 7)), (some 55), (some (54, true))⟩, .n, []⟩, ⟨⟨.op (.ldn 2 (.t 10)), (some 56), (some (54, true))⟩, .n, []⟩, ⟨⟨.call 31 [(.t 55), (.t 56)], (some 57), (some (54, true))⟩, .x, []⟩, ⟨⟨.op (.pick (.t 54) (.t 57) (.c (.bool false))), (some 58), none⟩, .n, []⟩, ⟨⟨.op (.mv (.t 58)), (some 59), none⟩, .n, []⟩, ⟨⟨.op (.ldn 2 (.t 8)), (some 60), (some (59, true))⟩, .n, []⟩, ⟨⟨.op (.ldn 2 (.t 10)), (some 61), (some (59, true))⟩, .n, []⟩, ⟨⟨.call 31 [(.t 60), (.t 61)], (some 62), (some (59, true))⟩, .x, []⟩, ⟨⟨.op (.pick (.t 59) (.t 62) (.c (.bool false))), (some 63), none⟩, .n, []⟩, ⟨⟨.op (.mv (.t 63)), (some 64), none⟩, .n, []⟩, ⟨⟨.op (.ldn 2 (.t 10)), (some 65), (some (64, true))⟩, .n, []⟩, ⟨⟨.op (.ldn 2 (.t 8)), (some 66), (some (64, true))⟩, .n, []⟩, ⟨⟨.op (.ldn 2 (.t 7)), (some 67), (some (64, true))⟩, .n, []⟩, ⟨⟨.call 30 [(.t 66), (.t 67)], (some 68), (some (64, true))⟩, .x, [(true, 13)]⟩, ⟨⟨.call 26 [(.t 65), (.t 68)], (some 69), (some (64, true))⟩, .x, []⟩, ⟨⟨.op (.pick (.t 64) (.t 69) (.c (.bool false))), (some 70), none⟩, .n, []⟩, ⟨⟨.op (.mv (.t 70)), (some 71), none⟩, .n, []⟩, ⟨⟨.op (.ldn 2 (.t 10)), (some 72), (some (71, true))⟩, .n, []⟩, ⟨⟨.op (.ldn 2 (.t 9)), (some 73), (some (71, true))⟩, .n, []⟩, ⟨⟨.op (.ldn 2 (.t 7)), (some 75), (some (71, true))⟩, .n, []⟩, ⟨⟨.op (.ldn 2 (.t 8)), (some 76), (some (71, true))⟩, .n, []⟩, ⟨⟨.op (.ldn 2 (.t 9)), (some 77), (some (71, true))⟩, .n, []⟩, ⟨⟨.call 30 [(.t 72), (.t 73)], (some 74), (some (71, true))⟩, .x, [(true, 24), (true, 23), (true, 22)]⟩, ⟨⟨.call 30 [(.t 76), (.t 77)], (some 78), (some (71, true))⟩, .x, [(true, 22)]⟩, ⟨⟨.call 30 [(.t 75), (.t 78)], (some 79), (some (71, true))⟩, .x, []⟩, ⟨⟨.call 26 [(.t 74), (.t 79)], (some 80), (some (71, true))⟩, .x, []⟩, ⟨⟨.op (.pick (.t 71) (.t 80) (.c (.bool false))), (some 81), none⟩, .n, []⟩, ⟨⟨.op (.mv (.t 81)), (some 82), none⟩, .n, []⟩, ⟨⟨.op (.ldn 2 (.t 10)), (some 83), (some (82, true))⟩, .n, []⟩, ⟨⟨.op (.ldn 2 (.t 7)), (some 84), (some (82, true))⟩, .n, []⟩, ⟨⟨.op (.ldn 2 (.t 8)), (some 86), (some (82, true))⟩, .n, []⟩, ⟨⟨.op (.ldn 2 (.t 7)), (some 87), (some (82, true))⟩, .n, []⟩, ⟨⟨.call 31 [(.t 83), (.t 84)], (some 85), (some (82, true))⟩, .x, [(true, 34), (true, 33)]⟩, ⟨⟨.call 31 [(.t 86), (.t 87)], (some 88), (some (82, true))⟩, .x, []⟩, ⟨⟨.op (.bin .eql 5 (.t 85) (.t 88)), (some 89), (some (82, true))⟩, .n, []⟩, ⟨⟨.op (.pick (.t 82) (.t 89) (.c (.bool false))), (some 90), none⟩, .n, []⟩, ⟨⟨.op (.mv (.t 90)), (some 91), none⟩, .n, []⟩, ⟨⟨.op (.ldn 2 (.t 7)), (some 92), (some (91, true))⟩, .n, []⟩, ⟨⟨.op (.ldn 2 (.t 7)), (some 93), (some (91, true))⟩, .n, []⟩, ⟨⟨.op (.ldn 2 (.t 7)), (some 95), (some (91, true))⟩, .n, []⟩, ⟨⟨.call 30 [(.t 92), (.t 93)], (some 94), (some (91, true))⟩, .x, [(true, 42)]⟩, ⟨⟨.call 26 [(.t 94), (.t 95)], (some 96), (some (91, true))⟩, .x, []⟩, ⟨⟨.op (.pick (.t 91) (.t 96) (.c (.bool false))), (some 97), none⟩, .n, []⟩, ⟨⟨.op (.mv (.t 97)), (some 6), none⟩, .x, []⟩])
 [6]
 (.ret))))))),
 [.tmp 6]⟩
theorem k9 : cFn Try.prog 9 = some c9.toE := by kernel_rfl
theorem w9 : c9.body.wf = true := by kernel_rfl
/-- slices.Contains[[]int,int] -/
noncomputable def c48 : DFn := ⟨9, .pure,
 .seq (.reg [⟨.op (.mv (.c (.bool false))), (some 4), none⟩])
 [0, 1]
 (.seq (.reg [⟨.op (.mv (.t 0)), (some 5), none⟩, ⟨.op (.mv (.t 1)), (some 6), none⟩, ⟨.call 76 [(.t 5), (.t 6)], (some 7), none⟩, ⟨.op (.bin .geq 0 (.t 7) (.c (.int .i64 0))), (some 8), none⟩, ⟨.op (.mv (.t 8)), (some 4), none⟩])
 [4]
 (.ret)),
 [.tmp 4]⟩
theorem k48 : cFn Try.prog 48 = some c48.toE := by kernel_rfl
theorem w48 : c48.body.wf = true := by kernel_rfl
noncomputable def l49_0 : DC :=
 .seq (.seq (.reg [⟨.op (.mv (.t 5)), (some 11), none⟩, ⟨.op (.mv (.t 0)), (some 12), none⟩, ⟨.op (.len (.t 12)), (some 13), none⟩, ⟨.op (.bin .lss 0 (.t 11) (.t 13)), (some 14), none⟩])
 [0, 1, 5, 14]
 (.cond (.t 14) (.skip) (.exit 0)))
 [0, 1, 5]
 (.seq (.block 1 (.seq (.drw [⟨⟨.op (.mv (.t 0)), (some 17), none⟩, .n, []⟩, ⟨⟨.op (.mv (.t 5)), (some 18), none⟩, .n, []⟩, ⟨⟨.op (.ia 1 none (.t 17) (.t 18)), (some 19), none⟩, .n, []⟩, ⟨⟨.op (.ld1 (.t 19)), (some 20), none⟩, .n, []⟩, ⟨⟨.op (.mv (.t 1)), (some 21), none⟩, .n, []⟩, ⟨⟨.op (.mv (.t 5)), (some 22), none⟩, .n, []⟩, ⟨⟨.op (.ia 1 none (.t 21) (.t 22)), (some 23), none⟩, .n, []⟩, ⟨⟨.op (.ld1 (.t 23)), (some 24), none⟩, .n, []⟩, ⟨⟨.op (.bin .neq 0 (.t 20) (.t 24)), (some 25), none⟩, .n, []⟩])
 [0, 1, 5, 25]
 (.cond (.t 25) (.seq (.reg [⟨.op (.mv (.c (.bool false))), (some 4), none⟩])
 [4]
 (.ret)) (.skip))))
 [0, 1, 5]
 (.reg [⟨.op (.mv (.t 5)), (some 15), none⟩, ⟨.op (.bin .add 0 (.t 15) (.c (.int .i64 1))), (some 16), none⟩, ⟨.op (.mv (.t 16)), (some 5), none⟩]))
theorem u49_0 (call : DCall) (T : Tm) (st : Dv.St) : dCw Try.prog call l49_0 T st = dCw Try.prog call
 (.seq (.seq (.reg [⟨.op (.mv (.t 5)), (some 11), none⟩, ⟨.op (.mv (.t 0)), (some 12), none⟩, ⟨.op (.len (.t 12)), (some 13), none⟩, ⟨.op (.bin .lss 0 (.t 11) (.t 13)), (some 14), none⟩])
 [0, 1, 5, 14]
 (.cond (.t 14) (.skip) (.exit 0)))
 [0, 1, 5]
 (.seq (.block 1 (.seq (.drw [⟨⟨.op (.mv (.t 0)), (some 17), none⟩, .n, []⟩, ⟨⟨.op (.mv (.t 5)), (some 18), none⟩, .n, []⟩, ⟨⟨.op (.ia 1 none (.t 17) (.t 18)), (some 19), none⟩, .n, []⟩, ⟨⟨.op (.ld1 (.t 19)), (some 20), none⟩, .n, []⟩, ⟨⟨.op (.mv (.t 1)), (some 21), none⟩, .n, []⟩, ⟨⟨.op (.mv (.t 5)), (some 22), none⟩, .n, []⟩, ⟨⟨.op (.ia 1 none (.t 21) (.t 22)), (some 23), none⟩, .n, []⟩, ⟨⟨.op (.ld1 (.t 23)), (some 24), none⟩, .n, []⟩, ⟨⟨.op (.bin .neq 0 (.t 20) (.t 24)), (some 25), none⟩, .n, []⟩])
 [0, 1, 5, 25]
 (.cond (.t 25) (.seq (.reg [⟨.op (.mv (.c (.bool false))), (some 4), none⟩])
 [4]
 (.ret)) (.skip))))
 [0, 1, 5]
 (.reg [⟨.op (.mv (.t 5)), (some 15), none⟩, ⟨.op (.bin .add 0 (.t 15) (.c (.int .i64 1))), (some 16), none⟩, ⟨.op (.mv (.t 16)), (some 5), none⟩]))) T st := rfl
/-- cardamom/cardamomref1.sameInts -/
noncomputable def c49 : DFn := ⟨26, .pure,
 .seq (.reg [⟨.op (.mv (.c (.bool false))), (some 4), none⟩])
 [0, 1]
 (.seq (.seq (.reg [⟨.op (.mv (.t 0)), (some 6), none⟩, ⟨.op (.len (.t 6)), (some 7), none⟩, ⟨.op (.mv (.t 1)), (some 8), none⟩, ⟨.op (.len (.t 8)), (some 9), none⟩, ⟨.op (.bin .neq 0 (.t 7) (.t 9)), (some 10), none⟩])
 [0, 1, 10]
 (.cond (.t 10) (.seq (.reg [⟨.op (.mv (.c (.bool false))), (some 4), none⟩])
 [4]
 (.ret)) (.skip)))
 [0, 1]
 (.seq (.seq (.reg [⟨.op (.mv (.c (.int .i64 0))), (some 5), none⟩])
 [0, 1, 5]
 (.block 0 (.loop [0, 1, 5] (l49_0))))
 []
 (.seq (.reg [⟨.op (.mv (.c (.bool true))), (some 4), none⟩])
 [4]
 (.ret)))),
 [.tmp 4]⟩
theorem k49 : cFn Try.prog 49 = some c49.toE := by kernel_rfl
theorem w49 : c49.body.wf = true := by kernel_rfl
noncomputable def l52_0 : DC :=
 .seq (.reg [⟨.op (.bin .lss 0 (.t 11) (.t 10)), (some 12), none⟩])
 [0, 3, 9, 10, 11, 12]
 (.seq (.cond (.t 12) (.skip) (.exit 0))
 [0, 3, 9, 10, 11]
 (.seq (.block 1 (.seq (.reg [⟨.op (.ia 1 none (.t 9) (.t 11)), (some 13), none⟩, ⟨.op (.ld1 (.t 13)), (some 14), none⟩, ⟨.op (.mv (.t 14)), (some 5), none⟩])
 [0, 3, 5, 9, 10, 11]
 (.seq (.reg [⟨.op (.mv (.t 3)), (some 15), none⟩, ⟨.op (.mv (.t 5)), (some 16), none⟩, ⟨.op (.len (.t 16)), (some 17), none⟩, ⟨.op (.bin .add 0 (.t 15) (.t 17)), (some 18), none⟩, ⟨.op (.mv (.t 18)), (some 3), none⟩])
 [0, 3, 9, 10, 11]
 (.seq (.reg [⟨.op (.mv (.t 3)), (some 19), none⟩, ⟨.op (.bin .lss 0 (.t 19) (.c (.int .i64 0))), (some 20), none⟩])
 [0, 3, 9, 10, 11, 20]
 (.cond (.t 20) (.reg [⟨.op (.ifc 9 (.c (.str [108, 101, 110, 32, 111, 117, 116, 32, 111, 102, 32, 114, 97, 110, 103, 101]))), (some 21), none⟩, ⟨.op (.slow (operAt Try.prog 52 17)), none, none⟩]) (.skip))))))
 [0, 3, 9, 10, 11]
 (.reg [⟨.op (.bin .add 0 (.t 11) (.c (.int .i64 1))), (some 22), none⟩, ⟨.op (.mv (.t 22)), (some 11), none⟩])))
theorem u52_0 (call : DCall) (T : Tm) (st : Dv.St) : dCw Try.prog call l52_0 T st = dCw Try.prog call
 (.seq (.reg [⟨.op (.bin .lss 0 (.t 11) (.t 10)), (some 12), none⟩])
 [0, 3, 9, 10, 11, 12]
 (.seq (.cond (.t 12) (.skip) (.exit 0))
 [0, 3, 9, 10, 11]
 (.seq (.block 1 (.seq (.reg [⟨.op (.ia 1 none (.t 9) (.t 11)), (some 13), none⟩, ⟨.op (.ld1 (.t 13)), (some 14), none⟩, ⟨.op (.mv (.t 14)), (some 5), none⟩])
 [0, 3, 5, 9, 10, 11]
 (.seq (.reg [⟨.op (.mv (.t 3)), (some 15), none⟩, ⟨.op (.mv (.t 5)), (some 16), none⟩, ⟨.op (.len (.t 16)), (some 17), none⟩, ⟨.op (.bin .add 0 (.t 15) (.t 17)), (some 18), none⟩, ⟨.op (.mv (.t 18)), (some 3), none⟩])
 [0, 3, 9, 10, 11]
 (.seq (.reg [⟨.op (.mv (.t 3)), (some 19), none⟩, ⟨.op (.bin .lss 0 (.t 19) (.c (.int .i64 0))), (some 20), none⟩])
 [0, 3, 9, 10, 11, 20]
 (.cond (.t 20) (.reg [⟨.op (.ifc 9 (.c (.str [108, 101, 110, 32, 111, 117, 116, 32, 111, 102, 32, 114, 97, 110, 103, 101]))), (some 21), none⟩, ⟨.op (.slow (operAt Try.prog 52 17)), none, none⟩]) (.skip))))))
 [0, 3, 9, 10, 11]
 (.reg [⟨.op (.bin .add 0 (.t 11) (.c (.int .i64 1))), (some 22), none⟩, ⟨.op (.mv (.t 22)), (some 11), none⟩])))) T st := rfl
noncomputable def l52_1 : DC :=
 .seq (.reg [⟨.op (.bin .lss 0 (.t 27) (.t 26)), (some 28), none⟩])
 [6, 25, 26, 27, 28]
 (.seq (.cond (.t 28) (.skip) (.exit 2))
 [6, 25, 26, 27]
 (.seq (.block 3 (.seq (.reg [⟨.op (.ia 1 none (.t 25) (.t 27)), (some 29), none⟩, ⟨.op (.ld1 (.t 29)), (some 30), none⟩, ⟨.op (.mv (.t 30)), (some 8), none⟩])
 [6, 8, 25, 26, 27]
 (.reg [⟨.op (.mv (.t 6)), (some 31), none⟩, ⟨.op (.mv (.t 8)), (some 32), none⟩, ⟨.op (.app 1 8 false (.t 31) (.t 32)), (some 33), none⟩, ⟨.op (.mv (.t 33)), (some 6), none⟩])))
 [6, 25, 26, 27]
 (.reg [⟨.op (.bin .add 0 (.t 27) (.c (.int .i64 1))), (some 34), none⟩, ⟨.op (.mv (.t 34)), (some 27), none⟩])))
theorem u52_1 (call : DCall) (T : Tm) (st : Dv.St) : dCw Try.prog call l52_1 T st = dCw Try.prog call
 (.seq (.reg [⟨.op (.bin .lss 0 (.t 27) (.t 26)), (some 28), none⟩])
 [6, 25, 26, 27, 28]
 (.seq (.cond (.t 28) (.skip) (.exit 2))
 [6, 25, 26, 27]
 (.seq (.block 3 (.seq (.reg [⟨.op (.ia 1 none (.t 25) (.t 27)), (some 29), none⟩, ⟨.op (.ld1 (.t 29)), (some 30), none⟩, ⟨.op (.mv (.t 30)), (some 8), none⟩])
 [6, 8, 25, 26, 27]
 (.reg [⟨.op (.mv (.t 6)), (some 31), none⟩, ⟨.op (.mv (.t 8)), (some 32), none⟩, ⟨.op (.app 1 8 false (.t 31) (.t 32)), (some 33), none⟩, ⟨.op (.mv (.t 33)), (some 6), none⟩])))
 [6, 25, 26, 27]
 (.reg [⟨.op (.bin .add 0 (.t 27) (.c (.int .i64 1))), (some 34), none⟩, ⟨.op (.mv (.t 34)), (some 27), none⟩])))) T st := rfl
/-- slices.Concat[[]int,int] -/
noncomputable def c52 : DFn := ⟨36, .pure,
 .seq (.reg [⟨.op (.mv (.c (.sl none 0))), (some 2), none⟩])
 [0]
 (.seq (.reg [⟨.op (.mv (.c (.int .i64 0))), (some 3), none⟩])
 [0, 3]
 (.seq (.seq (.reg [⟨.op (.mv (.t 0)), (some 9), none⟩, ⟨.op (.len (.t 9)), (some 10), none⟩, ⟨.op (.mv (.c (.int .i64 0))), (some 11), none⟩])
 [0, 3, 9, 10, 11]
 (.block 0 (.loop [0, 3, 9, 10, 11] (l52_0))))
 [0, 3]
 (.seq (.reg [⟨.op (.mv (.t 3)), (some 23), none⟩, ⟨.call 78 [(.c (.sl none 0)), (.t 23)], (some 24), none⟩, ⟨.op (.mv (.t 24)), (some 6), none⟩])
 [0, 6]
 (.seq (.seq (.reg [⟨.op (.mv (.t 0)), (some 25), none⟩, ⟨.op (.len (.t 25)), (some 26), none⟩, ⟨.op (.mv (.c (.int .i64 0))), (some 27), none⟩])
 [6, 25, 26, 27]
 (.block 2 (.loop [6, 25, 26, 27] (l52_1))))
 [6]
 (.seq (.reg [⟨.op (.mv (.t 6)), (some 35), none⟩, ⟨.op (.mv (.t 35)), (some 2), none⟩])
 [2]
 (.ret)))))),
 [.tmp 2]⟩
theorem k52 : cFn Try.prog 52 = some c52.toE := by kernel_rfl
theorem w52 : c52.body.wf = true := by kernel_rfl
/-- slices.ContainsFunc[[]int,int] -/
noncomputable def c55 : DFn := ⟨9, .pure,
 .seq (.reg [⟨.op (.mv (.c (.bool false))), (some 4), none⟩])
 [0, 1]
 (.seq (.reg [⟨.op (.mv (.t 0)), (some 5), none⟩, ⟨.op (.mv (.t 1)), (some 6), none⟩, ⟨.call 81 [(.t 5), (.t 6)], (some 7), none⟩, ⟨.op (.bin .geq 0 (.t 7) (.c (.int .i64 0))), (some 8), none⟩, ⟨.op (.mv (.t 8)), (some 4), none⟩])
 [4]
 (.ret)),
 [.tmp 4]⟩
theorem k55 : cFn Try.prog 55 = some c55.toE := by kernel_rfl
theorem w55 : c55.body.wf = true := by kernel_rfl
/-- cardamom/know.Within$1 -/
noncomputable def c56 : DFn := ⟨8, .pure,
 .seq (.reg [⟨.op (.mv (.c (.bool false))), (some 3), none⟩])
 [0, 1]
 (.seq (.reg [⟨.op (.ldn 2 (.t 1)), (some 4), none⟩, ⟨.op (.mv (.t 0)), (some 5), none⟩, ⟨.call 25 [(.t 4), (.t 5)], (some 6), none⟩, ⟨.op (.not (.t 6)), (some 7), none⟩, ⟨.op (.mv (.t 7)), (some 3), none⟩])
 [3]
 (.ret)),
 [.tmp 3]⟩
theorem k56 : cFn Try.prog 56 = some c56.toE := by kernel_rfl
theorem w56 : c56.body.wf = true := by kernel_rfl
noncomputable def l61_0 : DC :=
 .seq (.seq (.reg [⟨.op (.mv (.t 6)), (some 15), none⟩, ⟨.op (.fa 1 (.t 2)), (some 16), none⟩, ⟨.op (.ld1 (.t 16)), (some 17), none⟩, ⟨.op (.len (.t 17)), (some 18), none⟩, ⟨.op (.bin .lss 0 (.t 15) (.t 18)), (some 19), none⟩])
 [1, 2, 5, 6, 19, 24, 25, 26, 27, 28, 29, 30]
 (.cond (.t 19) (.skip) (.exit 0)))
 [1, 2, 5, 6, 24, 25, 26, 27, 28, 29, 30]
 (.seq (.block 1 (.reg [⟨.op (.mv (.t 5)), (some 22), none⟩, ⟨.op (.mv (.t 22)), (some 23), none⟩, ⟨.op (.fa 1 (.t 2)), (some 24), (some (23, false))⟩, ⟨.op (.ld1 (.t 24)), (some 25), (some (23, false))⟩, ⟨.op (.mv (.t 6)), (some 26), (some (23, false))⟩, ⟨.op (.ia 1 none (.t 25) (.t 26)), (some 27), (some (23, false))⟩, ⟨.op (.ld1 (.t 27)), (some 28), (some (23, false))⟩, ⟨.op (.mv (.t 1)), (some 29), (some (23, false))⟩, ⟨.op (.bin .eql 0 (.t 28) (.t 29)), (some 30), (some (23, false))⟩, ⟨.op (.pick (.t 23) (.c (.bool true)) (.t 30)), (some 31), none⟩, ⟨.op (.mv (.t 31)), (some 5), none⟩]))
 [1, 2, 5, 6, 24, 25, 26, 27, 28, 29, 30]
 (.reg [⟨.op (.mv (.t 6)), (some 20), none⟩, ⟨.op (.bin .add 0 (.t 20) (.c (.int .i64 1))), (some 21), none⟩, ⟨.op (.mv (.t 21)), (some 6), none⟩]))
theorem u61_0 (call : DCall) (T : Tm) (st : Dv.St) : dCw Try.prog call l61_0 T st = dCw Try.prog call
 (.seq (.seq (.reg [⟨.op (.mv (.t 6)), (some 15), none⟩, ⟨.op (.fa 1 (.t 2)), (some 16), none⟩, ⟨.op (.ld1 (.t 16)), (some 17), none⟩, ⟨.op (.len (.t 17)), (some 18), none⟩, ⟨.op (.bin .lss 0 (.t 15) (.t 18)), (some 19), none⟩])
 [1, 2, 5, 6, 19, 24, 25, 26, 27, 28, 29, 30]
 (.cond (.t 19) (.skip) (.exit 0)))
 [1, 2, 5, 6, 24, 25, 26, 27, 28, 29, 30]
 (.seq (.block 1 (.reg [⟨.op (.mv (.t 5)), (some 22), none⟩, ⟨.op (.mv (.t 22)), (some 23), none⟩, ⟨.op (.fa 1 (.t 2)), (some 24), (some (23, false))⟩, ⟨.op (.ld1 (.t 24)), (some 25), (some (23, false))⟩, ⟨.op (.mv (.t 6)), (some 26), (some (23, false))⟩, ⟨.op (.ia 1 none (.t 25) (.t 26)), (some 27), (some (23, false))⟩, ⟨.op (.ld1 (.t 27)), (some 28), (some (23, false))⟩, ⟨.op (.mv (.t 1)), (some 29), (some (23, false))⟩, ⟨.op (.bin .eql 0 (.t 28) (.t 29)), (some 30), (some (23, false))⟩, ⟨.op (.pick (.t 23) (.c (.bool true)) (.t 30)), (some 31), none⟩, ⟨.op (.mv (.t 31)), (some 5), none⟩]))
 [1, 2, 5, 6, 24, 25, 26, 27, 28, 29, 30]
 (.reg [⟨.op (.mv (.t 6)), (some 20), none⟩, ⟨.op (.bin .add 0 (.t 20) (.c (.int .i64 1))), (some 21), none⟩, ⟨.op (.mv (.t 21)), (some 6), none⟩]))) T st := rfl
/-- cardamom/cardamomref1.HasNum -/
noncomputable def c61 : DFn := ⟨33, .pure,
 .seq (.reg [⟨.op (.box (.t 0)), (some 2), none⟩, ⟨.op (.mv (.c (.bool false))), (some 4), none⟩])
 [1, 2, 10, 11, 12, 13, 24, 25, 26, 27, 28, 29, 30]
 (.seq (.reg [⟨.op (.mv (.t 1)), (some 7), none⟩, ⟨.op (.bin .geq 0 (.t 7) (.c (.int .i64 1))), (some 8), none⟩, ⟨.op (.mv (.t 8)), (some 9), none⟩, ⟨.op (.mv (.t 1)), (some 10), (some (9, true))⟩, ⟨.op (.fa 0 (.t 2)), (some 11), (some (9, true))⟩, ⟨.op (.ld1 (.t 11)), (some 12), (some (9, true))⟩, ⟨.op (.bin .leq 0 (.t 10) (.t 12)), (some 13), (some (9, true))⟩, ⟨.op (.pick (.t 9) (.t 13) (.c (.bool false))), (some 14), none⟩, ⟨.op (.mv (.t 14)), (some 5), none⟩])
 [1, 2, 5, 24, 25, 26, 27, 28, 29, 30]
 (.seq (.seq (.reg [⟨.op (.mv (.c (.int .i64 0))), (some 6), none⟩])
 [1, 2, 5, 6, 24, 25, 26, 27, 28, 29, 30]
 (.block 0 (.loop [1, 2, 5, 6, 24, 25, 26, 27, 28, 29, 30] (l61_0))))
 [5]
 (.seq (.reg [⟨.op (.mv (.t 5)), (some 32), none⟩, ⟨.op (.mv (.t 32)), (some 4), none⟩])
 [4]
 (.ret)))),
 [.tmp 4]⟩
theorem k61 : cFn Try.prog 61 = some c61.toE := by kernel_rfl
theorem w61 : c61.body.wf = true := by kernel_rfl
/-- cardamom/cardamomlaw21.begun -/
noncomputable def c32 : DFn := ⟨68, .pure,
 .seq (.reg [⟨.op (.mv (.c (.bool false))), (some 0), none⟩])
 [29, 30, 31, 32, 35, 36, 37, 40, 41, 42, 43, 46, 47, 48, 49, 52, 53, 54, 55, 58, 59, 60, 61, 64, 65, 66]
 (.seq (.reg [⟨.op (.build [(.int .i64 0), (.sl none 0), (.sl none 0)] []), (some 8), none⟩, ⟨.op (.build [(.int .i64 0), (.str [])] [(0, 1, (.c (.int .i64 2))), (1, 1, (.c (.str [98])))]), (some 9), none⟩, ⟨.call 33 [(.t 8), (.t 9)], (some 10), none⟩, ⟨.op (.mv (.t 10)), (some 7), none⟩, ⟨.op (.ext (.t 7) 0), (some 11), none⟩, ⟨.op (.ext (.t 7) 1), (some 12), none⟩, ⟨.op (.new [(.int .i64 0), (.sl none 0), (.sl none 0)]), (some 1), none⟩, ⟨.op (.st 3 (.t 1) (.t 11)), none, none⟩, ⟨.op (.mv (.t 12)), (some 2), none⟩])
 [1, 2, 29, 30, 31, 32, 35, 36, 37, 40, 41, 42, 43, 46, 47, 48, 49, 52, 53, 54, 55, 58, 59, 60, 61, 64, 65, 66]
 (.seq (.reg [⟨.op (.ldn 3 (.t 1)), (some 14), none⟩, ⟨.op (.build [(.int .i64 0), (.str [])] [(0, 1, (.c (.int .i64 1))), (1, 1, (.c (.str [97])))]), (some 15), none⟩, ⟨.call 33 [(.t 14), (.t 15)], (some 16), none⟩, ⟨.op (.mv (.t 16)), (some 13), none⟩, ⟨.op (.ext (.t 13) 0), (some 17), none⟩, ⟨.op (.ext (.t 13) 1), (some 18), none⟩, ⟨.op (.new [(.int .i64 0), (.sl none 0), (.sl none 0)]), (some 3), none⟩, ⟨.op (.st 3 (.t 3) (.t 17)), none, none⟩, ⟨.op (.mv (.t 18)), (some 4), none⟩])
 [1, 2, 3, 4, 29, 30, 31, 32, 35, 36, 37, 40, 41, 42, 43, 46, 47, 48, 49, 52, 53, 54, 55, 58, 59, 60, 61, 64, 65, 66]
 (.seq (.reg [⟨.op (.ldn 3 (.t 3)), (some 20), none⟩, ⟨.op (.build [(.int .i64 0), (.str [])] [(0, 1, (.c (.int .i64 1))), (1, 1, (.c (.str [97])))]), (some 21), none⟩, ⟨.call 33 [(.t 20), (.t 21)], (some 22), none⟩, ⟨.op (.mv (.t 22)), (some 19), none⟩, ⟨.op (.ext (.t 19) 0), (some 23), none⟩, ⟨.op (.ext (.t 19) 1), (some 24), none⟩, ⟨.op (.new [(.int .i64 0), (.sl none 0), (.sl none 0)]), (some 5), none⟩, ⟨.op (.st 3 (.t 5) (.t 23)), none, none⟩, ⟨.op (.mv (.t 24)), (some 6), none⟩])
 [1, 2, 3, 4, 6, 29, 30, 31, 32, 35, 36, 37, 40, 41, 42, 43, 46, 47, 48, 49, 52, 53, 54, 55, 58, 59, 60, 61, 64, 65, 66]
 (.seq (.reg [⟨.op (.mv (.t 2)), (some 25), none⟩, ⟨.op (.len (.t 25)), (some 26), none⟩, ⟨.op (.bin .eql 0 (.t 26) (.c (.int .i64 0))), (some 27), none⟩, ⟨.op (.mv (.t 27)), (some 28), none⟩, ⟨.op (.fa 2 (.t 1)), (some 29), (some (28, true))⟩, ⟨.op (.ld1 (.t 29)), (some 30), (some (28, true))⟩, ⟨.op (.len (.t 30)), (some 31), (some (28, true))⟩, ⟨.op (.bin .eql 0 (.t 31) (.c (.int .i64 1))), (some 32), (some (28, true))⟩, ⟨.op (.pick (.t 28) (.t 32) (.c (.bool false))), (some 33), none⟩, ⟨.op (.mv (.t 33)), (some 34), none⟩, ⟨.op (.mv (.t 4)), (some 35), (some (34, true))⟩, ⟨.op (.len (.t 35)), (some 36), (some (34, true))⟩, ⟨.op (.bin .eql 0 (.t 36) (.c (.int .i64 2))), (some 37), (some (34, true))⟩, ⟨.op (.pick (.t 34) (.t 37) (.c (.bool false))), (some 38), none⟩, ⟨.op (.mv (.t 38)), (some 39), none⟩, ⟨.op (.mv (.t 4)), (some 40), (some (39, true))⟩, ⟨.op (.ia 1 none (.t 40) (.c (.int .i64 0))), (some 41), (some (39, true))⟩, ⟨.op (.ld1 (.t 41)), (some 42), (some (39, true))⟩, ⟨.op (.bin .eql 0 (.t 42) (.c (.str [97]))), (some 43), (some (39, true))⟩, ⟨.op (.pick (.t 39) (.t 43) (.c (.bool false))), (some 44), none⟩, ⟨.op (.mv (.t 44)), (some 45), none⟩, ⟨.op (.mv (.t 4)), (some 46), (some (45, true))⟩, ⟨.op (.ia 1 none (.t 46) (.c (.int .i64 1))), (some 47), (some (45, true))⟩, ⟨.op (.ld1 (.t 47)), (some 48), (some (45, true))⟩, ⟨.op (.bin .eql 0 (.t 48) (.c (.str [98]))), (some 49), (some (45, true))⟩, ⟨.op (.pick (.t 45) (.t 49) (.c (.bool false))), (some 50), none⟩, ⟨.op (.mv (.t 50)), (some 51), none⟩, ⟨.op (.fa 0 (.t 3)), (some 52), (some (51, true))⟩, ⟨.op (.fa 0 (.t 52)), (some 53), (some (51, true))⟩, ⟨.op (.ld1 (.t 53)), (some 54), (some (51, true))⟩, ⟨.op (.bin .eql 0 (.t 54) (.c (.int .i64 2))), (some 55), (some (51, true))⟩, ⟨.op (.pick (.t 51) (.t 55) (.c (.bool false))), (some 56), none⟩, ⟨.op (.mv (.t 56)), (some 57), none⟩, ⟨.op (.fa 2 (.t 3)), (some 58), (some (57, true))⟩, ⟨.op (.ld1 (.t 58)), (some 59), (some (57, true))⟩, ⟨.op (.len (.t 59)), (some 60), (some (57, true))⟩, ⟨.op (.bin .eql 0 (.t 60) (.c (.int .i64 0))), (some 61), (some (57, true))⟩, ⟨.op (.pick (.t 57) (.t 61) (.c (.bool false))), (some 62), none⟩, ⟨.op (.mv (.t 62)), (some 63), none⟩, ⟨.op (.mv (.t 6)), (some 64), (some (63, true))⟩, ⟨.op (.len (.t 64)), (some 65), (some (63, true))⟩, ⟨.op (.bin .eql 0 (.t 65) (.c (.int .i64 0))), (some 66), (some (63, true))⟩, ⟨.op (.pick (.t 63) (.t 66) (.c (.bool false))), (some 67), none⟩, ⟨.op (.mv (.t 67)), (some 0), none⟩])
 [0]
 (.ret))))),
 [.tmp 0]⟩
theorem k32 : cFn Try.prog 32 = some c32.toE := by kernel_rfl
theorem w32 : c32.body.wf = true := by kernel_rfl
noncomputable def l33_0 : DC :=
 .seq (.seq (.drw [⟨⟨.op (.fa 2 (.t 2)), (some 60), none⟩, .n, []⟩, ⟨⟨.op (.ld1 (.t 60)), (some 61), none⟩, .n, []⟩, ⟨⟨.op (.len (.t 61)), (some 62), none⟩, .n, []⟩, ⟨⟨.op (.bin .gtr 0 (.t 62) (.c (.int .i64 0))), (some 63), none⟩, .n, []⟩, ⟨⟨.op (.mv (.t 63)), (some 64), none⟩, .n, []⟩, ⟨⟨.op (.fa 2 (.t 2)), (some 65), (some (64, true))⟩, .n, []⟩, ⟨⟨.op (.ld1 (.t 65)), (some 66), (some (64, true))⟩, .n, []⟩, ⟨⟨.op (.ia 2 none (.t 66) (.c (.int .i64 0))), (some 67), (some (64, true))⟩, .n, []⟩, ⟨⟨.op (.fa 0 (.t 67)), (some 68), (some (64, true))⟩, .n, []⟩, ⟨⟨.op (.ld1 (.t 68)), (some 69), (some (64, true))⟩, .n, []⟩, ⟨⟨.op (.fa 0 (.t 2)), (some 70), (some (64, true))⟩, .n, []⟩, ⟨⟨.op (.fa 0 (.t 70)), (some 71), (some (64, true))⟩, .n, []⟩, ⟨⟨.op (.ld1 (.t 71)), (some 72), (some (64, true))⟩, .n, []⟩, ⟨⟨.op (.bin .leq 0 (.t 69) (.t 72)), (some 73), (some (64, true))⟩, .n, []⟩, ⟨⟨.op (.pick (.t 64) (.t 73) (.c (.bool false))), (some 74), none⟩, .n, []⟩])
 [2, 4, 8, 65, 66, 67, 68, 69, 70, 71, 72, 73, 74]
 (.cond (.t 74) (.skip) (.exit 3)))
 [2, 4, 8, 65, 66, 67, 68, 69, 70, 71, 72, 73]
 (.block 4 (.seq (.reg [⟨.op (.mv (.t 8)), (some 75), none⟩, ⟨.op (.fa 2 (.t 2)), (some 76), none⟩, ⟨.op (.ld1 (.t 76)), (some 77), none⟩, ⟨.op (.ia 2 none (.t 77) (.c (.int .i64 0))), (some 78), none⟩, ⟨.op (.fa 1 (.t 78)), (some 79), none⟩, ⟨.op (.ld1 (.t 79)), (some 80), none⟩, ⟨.op (.bslice 1 1 [(.str [])] [(0, 1, (.t 80))]), (some 81), none⟩, ⟨.op (.app 1 16 false (.t 75) (.t 81)), (some 82), none⟩, ⟨.op (.mv (.t 82)), (some 8), none⟩])
 [2, 4, 8, 65, 66, 67, 68, 69, 70, 71, 72, 73]
 (.reg [⟨.op (.fa 2 (.t 2)), (some 83), none⟩, ⟨.op (.ld1 (.t 83)), (some 84), none⟩, ⟨.op (.cut 2 none (.t 84) (some (.c (.int .i64 1))) none), (some 85), none⟩, ⟨.op (.fa 2 (.t 2)), (some 86), none⟩, ⟨.op (.st 1 (.t 86) (.t 85)), none, none⟩])))
theorem u33_0 (call : DCall) (T : Tm) (st : Dv.St) : dCw Try.prog call l33_0 T st = dCw Try.prog call
 (.seq (.seq (.drw [⟨⟨.op (.fa 2 (.t 2)), (some 60), none⟩, .n, []⟩, ⟨⟨.op (.ld1 (.t 60)), (some 61), none⟩, .n, []⟩, ⟨⟨.op (.len (.t 61)), (some 62), none⟩, .n, []⟩, ⟨⟨.op (.bin .gtr 0 (.t 62) (.c (.int .i64 0))), (some 63), none⟩, .n, []⟩, ⟨⟨.op (.mv (.t 63)), (some 64), none⟩, .n, []⟩, ⟨⟨.op (.fa 2 (.t 2)), (some 65), (some (64, true))⟩, .n, []⟩, ⟨⟨.op (.ld1 (.t 65)), (some 66), (some (64, true))⟩, .n, []⟩, ⟨⟨.op (.ia 2 none (.t 66) (.c (.int .i64 0))), (some 67), (some (64, true))⟩, .n, []⟩, ⟨⟨.op (.fa 0 (.t 67)), (some 68), (some (64, true))⟩, .n, []⟩, ⟨⟨.op (.ld1 (.t 68)), (some 69), (some (64, true))⟩, .n, []⟩, ⟨⟨.op (.fa 0 (.t 2)), (some 70), (some (64, true))⟩, .n, []⟩, ⟨⟨.op (.fa 0 (.t 70)), (some 71), (some (64, true))⟩, .n, []⟩, ⟨⟨.op (.ld1 (.t 71)), (some 72), (some (64, true))⟩, .n, []⟩, ⟨⟨.op (.bin .leq 0 (.t 69) (.t 72)), (some 73), (some (64, true))⟩, .n, []⟩, ⟨⟨.op (.pick (.t 64) (.t 73) (.c (.bool false))), (some 74), none⟩, .n, []⟩])
 [2, 4, 8, 65, 66, 67, 68, 69, 70, 71, 72, 73, 74]
 (.cond (.t 74) (.skip) (.exit 3)))
 [2, 4, 8, 65, 66, 67, 68, 69, 70, 71, 72, 73]
 (.block 4 (.seq (.reg [⟨.op (.mv (.t 8)), (some 75), none⟩, ⟨.op (.fa 2 (.t 2)), (some 76), none⟩, ⟨.op (.ld1 (.t 76)), (some 77), none⟩, ⟨.op (.ia 2 none (.t 77) (.c (.int .i64 0))), (some 78), none⟩, ⟨.op (.fa 1 (.t 78)), (some 79), none⟩, ⟨.op (.ld1 (.t 79)), (some 80), none⟩, ⟨.op (.bslice 1 1 [(.str [])] [(0, 1, (.t 80))]), (some 81), none⟩, ⟨.op (.app 1 16 false (.t 75) (.t 81)), (some 82), none⟩, ⟨.op (.mv (.t 82)), (some 8), none⟩])
 [2, 4, 8, 65, 66, 67, 68, 69, 70, 71, 72, 73]
 (.reg [⟨.op (.fa 2 (.t 2)), (some 83), none⟩, ⟨.op (.ld1 (.t 83)), (some 84), none⟩, ⟨.op (.cut 2 none (.t 84) (some (.c (.int .i64 1))) none), (some 85), none⟩, ⟨.op (.fa 2 (.t 2)), (some 86), none⟩, ⟨.op (.st 1 (.t 86) (.t 85)), none, none⟩])))) T st := rfl
/-- cardamom/rcvr.Comes -/
noncomputable def c33 : DFn := ⟨89, .pure,
 .seq (.reg [⟨.op (.box (.t 0)), (some 2), none⟩, ⟨.op (.box (.t 1)), (some 3), none⟩, ⟨.op (.new [(.int .i64 0), (.sl none 0), (.sl none 0)]), (some 4), none⟩, ⟨.op (.mv (.c (.sl none 0))), (some 5), none⟩])
 [2, 3, 4, 30, 31, 32, 33, 34, 35, 36, 65, 66, 67, 68, 69, 70, 71, 72, 73]
 (.seq (.drw [⟨⟨.op (.fa 2 (.t 2)), (some 9), none⟩, .n, []⟩, ⟨⟨.op (.ld1 (.t 9)), (some 10), none⟩, .n, []⟩, ⟨⟨.op (.fa 0 (.t 2)), (some 12), none⟩, .n, []⟩, ⟨⟨.op (.fa 1 (.t 12)), (some 13), none⟩, .n, []⟩, ⟨⟨.op (.ld1 (.t 13)), (some 14), none⟩, .n, []⟩, ⟨⟨.call 57 [(.t 10)], (some 11), none⟩, .x, [(true, 4)]⟩, ⟨⟨.op (.fa 2 (.t 2)), (some 16), none⟩, .n, []⟩, ⟨⟨.call 44 [(.t 14)], (some 15), none⟩, .x, []⟩, ⟨⟨.op (.st 1 (.t 16) (.t 11)), none, none⟩, .x, []⟩, ⟨⟨.op (.fa 0 (.t 2)), (some 17), none⟩, .n, []⟩, ⟨⟨.op (.fa 1 (.t 17)), (some 18), none⟩, .n, []⟩, ⟨⟨.op (.st 1 (.t 18) (.t 15)), none, none⟩, .x, []⟩])
 [2, 3, 4, 30, 31, 32, 33, 34, 35, 36, 65, 66, 67, 68, 69, 70, 71, 72, 73]
 (.seq (.block 0 (.seq (.block 2 (.block 1 (.seq (.seq (.seq (.reg [⟨.op (.fa 0 (.t 2)), (some 20), none⟩, ⟨.op (.ldn 2 (.t 20)), (some 21), none⟩, ⟨.op (.fa 0 (.t 3)), (some 22), none⟩, ⟨.op (.ld1 (.t 22)), (some 23), none⟩, ⟨.call 25 [(.t 21), (.t 23)], (some 24), none⟩, ⟨.op (.mv (.t 24)), (some 19), none⟩])
 [2, 3, 4, 19, 30, 31, 32, 33, 34, 35, 36, 65, 66, 67, 68, 69, 70, 71, 72, 73]
 (.cond (.t 19) (.exit 1) (.skip)))
 [2, 3, 4, 30, 31, 32, 33, 34, 35, 36, 65, 66, 67, 68, 69, 70, 71, 72, 73]
 (.seq (.reg [⟨.op (.fa 0 (.t 3)), (some 26), none⟩, ⟨.op (.ld1 (.t 26)), (some 27), none⟩, ⟨.op (.bin .lss 0 (.t 27) (.c (.int .i64 1))), (some 28), none⟩, ⟨.op (.mv (.t 28)), (some 29), none⟩, ⟨.op (.fa 0 (.t 3)), (some 30), (some (29, false))⟩, ⟨.op (.ld1 (.t 30)), (some 31), (some (29, false))⟩, ⟨.op (.fa 0 (.t 2)), (some 32), (some (29, false))⟩, ⟨.op (.fa 0 (.t 32)), (some 33), (some (29, false))⟩, ⟨.op (.ld1 (.t 33)), (some 34), (some (29, false))⟩, ⟨.op (.bin .add 0 (.t 34) (.c (.int .i64 4))), (some 35), (some (29, false))⟩, ⟨.op (.bin .gtr 0 (.t 31) (.t 35)), (some 36), (some (29, false))⟩, ⟨.op (.pick (.t 29) (.c (.bool true)) (.t 36)), (some 37), none⟩, ⟨.op (.mv (.t 37)), (some 25), none⟩])
 [2, 3, 4, 25, 65, 66, 67, 68, 69, 70, 71, 72, 73]
 (.cond (.t 25) (.exit 2) (.skip))))
 [2, 3, 4, 65, 66, 67, 68, 69, 70, 71, 72, 73]
 (.exit 0))))
 [2, 4]
 (.seq (.seq (.reg [⟨.op (.ldn 3 (.t 2)), (some 38), none⟩, ⟨.op (.st 3 (.t 4) (.t 38)), none, none⟩, ⟨.op (.mv (.c (.sl none 0))), (some 5), none⟩])
 [4, 5]
 (.ret))
 [2, 3, 4, 65, 66, 67, 68, 69, 70, 71, 72, 73]
 (.exit 0))))
 [2, 3, 4, 65, 66, 67, 68, 69, 70, 71, 72, 73]
 (.seq (.reg [⟨.op (.fa 0 (.t 2)), (some 39), none⟩, ⟨.op (.ldn 2 (.t 39)), (some 40), none⟩, ⟨.op (.fa 0 (.t 3)), (some 41), none⟩, ⟨.op (.ld1 (.t 41)), (some 42), none⟩, ⟨.call 24 [(.t 40), (.t 42)], (some 43), none⟩, ⟨.op (.fa 0 (.t 2)), (some 44), none⟩, ⟨.op (.st 2 (.t 44) (.t 43)), none, none⟩])
 [2, 3, 4, 65, 66, 67, 68, 69, 70, 71, 72, 73]
 (.seq (.reg [⟨.op (.fa 2 (.t 2)), (some 46), none⟩, ⟨.op (.ld1 (.t 46)), (some 47), none⟩, ⟨.op (.fa 0 (.t 3)), (some 48), none⟩, ⟨.op (.ld1 (.t 48)), (some 49), none⟩, ⟨.call 58 [(.t 47), (.t 49), (.c (.fn 59 []))], (some 50), none⟩, ⟨.op (.mv (.t 50)), (some 45), none⟩, ⟨.op (.ext (.t 45) 0), (some 51), none⟩, ⟨.op (.ext (.t 45) 1), (some 52), none⟩, ⟨.op (.mv (.t 51)), (some 6), none⟩, ⟨.op (.mv (.t 52)), (some 7), none⟩])
 [2, 3, 4, 6, 65, 66, 67, 68, 69, 70, 71, 72, 73]
 (.seq (.reg [⟨.op (.fa 2 (.t 2)), (some 53), none⟩, ⟨.op (.ld1 (.t 53)), (some 54), none⟩, ⟨.op (.mv (.t 6)), (some 55), none⟩, ⟨.op (.ldn 2 (.t 3)), (some 56), none⟩, ⟨.op (.bslice 2 1 [(.int .i64 0), (.str [])] [(0, 2, (.t 56))]), (some 57), none⟩, ⟨.call 60 [(.t 54), (.t 55), (.t 57)], (some 58), none⟩, ⟨.op (.fa 2 (.t 2)), (some 59), none⟩, ⟨.op (.st 1 (.t 59) (.t 58)), none, none⟩])
 [2, 4, 65, 66, 67, 68, 69, 70, 71, 72, 73]
 (.seq (.reg [⟨.op (.mv (.c (.sl none 0))), (some 8), none⟩])
 [2, 4, 8, 65, 66, 67, 68, 69, 70, 71, 72, 73]
 (.seq (.block 3 (.loop [2, 4, 8, 65, 66, 67, 68, 69, 70, 71, 72, 73] (l33_0)))
 [2, 4, 8]
 (.seq (.reg [⟨.op (.ldn 3 (.t 2)), (some 87), none⟩, ⟨.op (.mv (.t 8)), (some 88), none⟩, ⟨.op (.st 3 (.t 4) (.t 87)), none, none⟩, ⟨.op (.mv (.t 88)), (some 5), none⟩])
 [4, 5]
 (.ret))))))))),
 [.celln 3 4, .tmp 5]⟩
theorem k33 : cFn Try.prog 33 = some c33.toE := by kernel_rfl
theorem w33 : c33.body.wf = true := by kernel_rfl
noncomputable def l34_0 : DC :=
 .seq (.seq (.reg [⟨.op (.mv (.t 10)), (some 43), none⟩, ⟨.op (.fa 2 (.t 2)), (some 44), none⟩, ⟨.op (.ld1 (.t 44)), (some 45), none⟩, ⟨.op (.len (.t 45)), (some 46), none⟩, ⟨.op (.bin .lss 0 (.t 43) (.t 46)), (some 47), none⟩])
 [2, 3, 4, 6, 7, 8, 9, 10, 47, 53, 54, 55, 56, 57, 58, 59, 60, 61, 95, 96, 97, 98, 99, 100, 101, 102, 103]
 (.cond (.t 47) (.skip) (.exit 0)))
 [2, 3, 4, 6, 7, 8, 9, 10, 53, 54, 55, 56, 57, 58, 59, 60, 61, 95, 96, 97, 98, 99, 100, 101, 102, 103]
 (.seq (.block 1 (.seq (.seq (.drw [⟨⟨.op (.mv (.t 9)), (some 50), none⟩, .n, []⟩, ⟨⟨.op (.not (.t 50)), (some 51), none⟩, .n, []⟩, ⟨⟨.op (.mv (.t 51)), (some 52), none⟩, .n, []⟩, ⟨⟨.op (.fa 2 (.t 2)), (some 53), (some (52, true))⟩, .n, []⟩, ⟨⟨.op (.ld1 (.t 53)), (some 54), (some (52, true))⟩, .n, []⟩, ⟨⟨.op (.mv (.t 10)), (some 55), (some (52, true))⟩, .n, []⟩, ⟨⟨.op (.ia 2 none (.t 54) (.t 55)), (some 56), (some (52, true))⟩, .n, []⟩, ⟨⟨.op (.fa 0 (.t 56)), (some 57), (some (52, true))⟩, .n, []⟩, ⟨⟨.op (.ld1 (.t 57)), (some 58), (some (52, true))⟩, .n, []⟩, ⟨⟨.op (.fa 0 (.t 3)), (some 59), (some (52, true))⟩, .n, []⟩, ⟨⟨.op (.ld1 (.t 59)), (some 60), (some (52, true))⟩, .n, []⟩, ⟨⟨.op (.bin .gtr 0 (.t 58) (.t 60)), (some 61), (some (52, true))⟩, .n, []⟩, ⟨⟨.op (.pick (.t 52) (.t 61) (.c (.bool false))), (some 62), none⟩, .n, []⟩])
 [2, 3, 4, 6, 7, 8, 9, 10, 53, 54, 55, 56, 57, 58, 59, 60, 61, 62, 95, 96, 97, 98, 99, 100, 101, 102, 103]
 (.cond (.t 62) (.reg [⟨.op (.mv (.t 8)), (some 63), none⟩, ⟨.op (.ldn 2 (.t 3)), (some 64), none⟩, ⟨.op (.bslice 2 1 [(.int .i64 0), (.str [])] [(0, 2, (.t 64))]), (some 65), none⟩, ⟨.op (.app 2 24 false (.t 63) (.t 65)), (some 66), none⟩, ⟨.op (.mv (.t 66)), (some 8), none⟩, ⟨.op (.mv (.c (.bool true))), (some 9), none⟩]) (.skip)))
 [2, 3, 4, 6, 7, 8, 9, 10, 53, 54, 55, 56, 57, 58, 59, 60, 61, 95, 96, 97, 98, 99, 100, 101, 102, 103]
 (.reg [⟨.op (.mv (.t 8)), (some 67), none⟩, ⟨.op (.fa 2 (.t 2)), (some 68), none⟩, ⟨.op (.ld1 (.t 68)), (some 69), none⟩, ⟨.op (.mv (.t 10)), (some 70), none⟩, ⟨.op (.ia 2 none (.t 69) (.t 70)), (some 71), none⟩, ⟨.op (.ldn 2 (.t 71)), (some 72), none⟩, ⟨.op (.bslice 2 1 [(.int .i64 0), (.str [])] [(0, 2, (.t 72))]), (some 73), none⟩, ⟨.op (.app 2 24 false (.t 67) (.t 73)), (some 74), none⟩, ⟨.op (.mv (.t 74)), (some 8), none⟩])))
 [2, 3, 4, 6, 7, 8, 9, 10, 53, 54, 55, 56, 57, 58, 59, 60, 61, 95, 96, 97, 98, 99, 100, 101, 102, 103]
 (.reg [⟨.op (.mv (.t 10)), (some 48), none⟩, ⟨.op (.bin .add 0 (.t 48) (.c (.int .i64 1))), (some 49), none⟩, ⟨.op (.mv (.t 49)), (some 10), none⟩]))
theorem u34_0 (call : DCall) (T : Tm) (st : Dv.St) : dCw Try.prog call l34_0 T st = dCw Try.prog call
 (.seq (.seq (.reg [⟨.op (.mv (.t 10)), (some 43), none⟩, ⟨.op (.fa 2 (.t 2)), (some 44), none⟩, ⟨.op (.ld1 (.t 44)), (some 45), none⟩, ⟨.op (.len (.t 45)), (some 46), none⟩, ⟨.op (.bin .lss 0 (.t 43) (.t 46)), (some 47), none⟩])
 [2, 3, 4, 6, 7, 8, 9, 10, 47, 53, 54, 55, 56, 57, 58, 59, 60, 61, 95, 96, 97, 98, 99, 100, 101, 102, 103]
 (.cond (.t 47) (.skip) (.exit 0)))
 [2, 3, 4, 6, 7, 8, 9, 10, 53, 54, 55, 56, 57, 58, 59, 60, 61, 95, 96, 97, 98, 99, 100, 101, 102, 103]
 (.seq (.block 1 (.seq (.seq (.drw [⟨⟨.op (.mv (.t 9)), (some 50), none⟩, .n, []⟩, ⟨⟨.op (.not (.t 50)), (some 51), none⟩, .n, []⟩, ⟨⟨.op (.mv (.t 51)), (some 52), none⟩, .n, []⟩, ⟨⟨.op (.fa 2 (.t 2)), (some 53), (some (52, true))⟩, .n, []⟩, ⟨⟨.op (.ld1 (.t 53)), (some 54), (some (52, true))⟩, .n, []⟩, ⟨⟨.op (.mv (.t 10)), (some 55), (some (52, true))⟩, .n, []⟩, ⟨⟨.op (.ia 2 none (.t 54) (.t 55)), (some 56), (some (52, true))⟩, .n, []⟩, ⟨⟨.op (.fa 0 (.t 56)), (some 57), (some (52, true))⟩, .n, []⟩, ⟨⟨.op (.ld1 (.t 57)), (some 58), (some (52, true))⟩, .n, []⟩, ⟨⟨.op (.fa 0 (.t 3)), (some 59), (some (52, true))⟩, .n, []⟩, ⟨⟨.op (.ld1 (.t 59)), (some 60), (some (52, true))⟩, .n, []⟩, ⟨⟨.op (.bin .gtr 0 (.t 58) (.t 60)), (some 61), (some (52, true))⟩, .n, []⟩, ⟨⟨.op (.pick (.t 52) (.t 61) (.c (.bool false))), (some 62), none⟩, .n, []⟩])
 [2, 3, 4, 6, 7, 8, 9, 10, 53, 54, 55, 56, 57, 58, 59, 60, 61, 62, 95, 96, 97, 98, 99, 100, 101, 102, 103]
 (.cond (.t 62) (.reg [⟨.op (.mv (.t 8)), (some 63), none⟩, ⟨.op (.ldn 2 (.t 3)), (some 64), none⟩, ⟨.op (.bslice 2 1 [(.int .i64 0), (.str [])] [(0, 2, (.t 64))]), (some 65), none⟩, ⟨.op (.app 2 24 false (.t 63) (.t 65)), (some 66), none⟩, ⟨.op (.mv (.t 66)), (some 8), none⟩, ⟨.op (.mv (.c (.bool true))), (some 9), none⟩]) (.skip)))
 [2, 3, 4, 6, 7, 8, 9, 10, 53, 54, 55, 56, 57, 58, 59, 60, 61, 95, 96, 97, 98, 99, 100, 101, 102, 103]
 (.reg [⟨.op (.mv (.t 8)), (some 67), none⟩, ⟨.op (.fa 2 (.t 2)), (some 68), none⟩, ⟨.op (.ld1 (.t 68)), (some 69), none⟩, ⟨.op (.mv (.t 10)), (some 70), none⟩, ⟨.op (.ia 2 none (.t 69) (.t 70)), (some 71), none⟩, ⟨.op (.ldn 2 (.t 71)), (some 72), none⟩, ⟨.op (.bslice 2 1 [(.int .i64 0), (.str [])] [(0, 2, (.t 72))]), (some 73), none⟩, ⟨.op (.app 2 24 false (.t 67) (.t 73)), (some 74), none⟩, ⟨.op (.mv (.t 74)), (some 8), none⟩])))
 [2, 3, 4, 6, 7, 8, 9, 10, 53, 54, 55, 56, 57, 58, 59, 60, 61, 95, 96, 97, 98, 99, 100, 101, 102, 103]
 (.reg [⟨.op (.mv (.t 10)), (some 48), none⟩, ⟨.op (.bin .add 0 (.t 48) (.c (.int .i64 1))), (some 49), none⟩, ⟨.op (.mv (.t 49)), (some 10), none⟩]))) T st := rfl
noncomputable def l34_1 : DC :=
 .seq (.seq (.reg [⟨.op (.mv (.t 12)), (some 81), none⟩, ⟨.op (.mv (.t 8)), (some 82), none⟩, ⟨.op (.len (.t 82)), (some 83), none⟩, ⟨.op (.bin .lss 0 (.t 81) (.t 83)), (some 84), none⟩])
 [4, 6, 7, 8, 11, 12, 84, 95, 96, 97, 98, 99, 100, 101, 102, 103]
 (.cond (.t 84) (.skip) (.exit 2)))
 [4, 6, 7, 8, 11, 12, 95, 96, 97, 98, 99, 100, 101, 102, 103]
 (.seq (.block 3 (.seq (.drw [⟨⟨.op (.mv (.t 8)), (some 87), none⟩, .n, []⟩, ⟨⟨.op (.mv (.t 12)), (some 88), none⟩, .n, []⟩, ⟨⟨.op (.ia 2 none (.t 87) (.t 88)), (some 89), none⟩, .n, []⟩, ⟨⟨.op (.fa 0 (.t 89)), (some 90), none⟩, .n, []⟩, ⟨⟨.op (.ld1 (.t 90)), (some 91), none⟩, .n, []⟩, ⟨⟨.op (.mv (.t 6)), (some 92), none⟩, .n, []⟩, ⟨⟨.op (.bin .gtr 0 (.t 91) (.t 92)), (some 93), none⟩, .n, []⟩, ⟨⟨.op (.mv (.t 93)), (some 94), none⟩, .n, []⟩, ⟨⟨.op (.mv (.t 8)), (some 95), (some (94, true))⟩, .n, []⟩, ⟨⟨.op (.mv (.t 12)), (some 96), (some (94, true))⟩, .n, []⟩, ⟨⟨.op (.ia 2 none (.t 95) (.t 96)), (some 97), (some (94, true))⟩, .n, []⟩, ⟨⟨.op (.fa 0 (.t 97)), (some 98), (some (94, true))⟩, .n, []⟩, ⟨⟨.op (.ld1 (.t 98)), (some 99), (some (94, true))⟩, .n, []⟩, ⟨⟨.op (.fa 0 (.t 7)), (some 100), (some (94, true))⟩, .n, []⟩, ⟨⟨.op (.fa 0 (.t 100)), (some 101), (some (94, true))⟩, .n, []⟩, ⟨⟨.op (.ld1 (.t 101)), (some 102), (some (94, true))⟩, .n, []⟩, ⟨⟨.op (.bin .leq 0 (.t 99) (.t 102)), (some 103), (some (94, true))⟩, .n, []⟩, ⟨⟨.op (.pick (.t 94) (.t 103) (.c (.bool false))), (some 104), none⟩, .n, []⟩])
 [4, 6, 7, 8, 11, 12, 95, 96, 97, 98, 99, 100, 101, 102, 103, 104]
 (.cond (.t 104) (.reg [⟨.op (.mv (.t 11)), (some 105), none⟩, ⟨.op (.mv (.t 8)), (some 106), none⟩, ⟨.op (.mv (.t 12)), (some 107), none⟩, ⟨.op (.ia 2 none (.t 106) (.t 107)), (some 108), none⟩, ⟨.op (.fa 1 (.t 108)), (some 109), none⟩, ⟨.op (.ld1 (.t 109)), (some 110), none⟩, ⟨.op (.bslice 1 1 [(.str [])] [(0, 1, (.t 110))]), (some 111), none⟩, ⟨.op (.app 1 16 false (.t 105) (.t 111)), (some 112), none⟩, ⟨.op (.mv (.t 112)), (some 11), none⟩]) (.drw [⟨⟨.op (.fa 2 (.t 7)), (some 113), none⟩, .n, []⟩, ⟨⟨.op (.ld1 (.t 113)), (some 114), none⟩, .n, []⟩, ⟨⟨.op (.mv (.t 8)), (some 115), none⟩, .n, []⟩, ⟨⟨.op (.mv (.t 12)), (some 116), none⟩, .n, []⟩, ⟨⟨.op (.ia 2 none (.t 115) (.t 116)), (some 117), none⟩, .n, []⟩, ⟨⟨.op (.ldn 2 (.t 117)), (some 118), none⟩, .n, []⟩, ⟨⟨.op (.bslice 2 1 [(.int .i64 0), (.str [])] [(0, 2, (.t 118))]), (some 119), none⟩, .a, [(true, 5), (true, 1)]⟩, ⟨⟨.op (.app 2 24 false (.t 114) (.t 119)), (some 120), none⟩, .x, []⟩, ⟨⟨.op (.fa 2 (.t 7)), (some 121), none⟩, .n, []⟩, ⟨⟨.op (.st 1 (.t 121) (.t 120)), none, none⟩, .x, []⟩]))))
 [4, 6, 7, 8, 11, 12, 95, 96, 97, 98, 99, 100, 101, 102, 103]
 (.reg [⟨.op (.mv (.t 12)), (some 85), none⟩, ⟨.op (.bin .add 0 (.t 85) (.c (.int .i64 1))), (some 86), none⟩, ⟨.op (.mv (.t 86)), (some 12), none⟩]))
theorem u34_1 (call : DCall) (T : Tm) (st : Dv.St) : dCw Try.prog call l34_1 T st = dCw Try.prog call
 (.seq (.seq (.reg [⟨.op (.mv (.t 12)), (some 81), none⟩, ⟨.op (.mv (.t 8)), (some 82), none⟩, ⟨.op (.len (.t 82)), (some 83), none⟩, ⟨.op (.bin .lss 0 (.t 81) (.t 83)), (some 84), none⟩])
 [4, 6, 7, 8, 11, 12, 84, 95, 96, 97, 98, 99, 100, 101, 102, 103]
 (.cond (.t 84) (.skip) (.exit 2)))
 [4, 6, 7, 8, 11, 12, 95, 96, 97, 98, 99, 100, 101, 102, 103]
 (.seq (.block 3 (.seq (.drw [⟨⟨.op (.mv (.t 8)), (some 87), none⟩, .n, []⟩, ⟨⟨.op (.mv (.t 12)), (some 88), none⟩, .n, []⟩, ⟨⟨.op (.ia 2 none (.t 87) (.t 88)), (some 89), none⟩, .n, []⟩, ⟨⟨.op (.fa 0 (.t 89)), (some 90), none⟩, .n, []⟩, ⟨⟨.op (.ld1 (.t 90)), (some 91), none⟩, .n, []⟩, ⟨⟨.op (.mv (.t 6)), (some 92), none⟩, .n, []⟩, ⟨⟨.op (.bin .gtr 0 (.t 91) (.t 92)), (some 93), none⟩, .n, []⟩, ⟨⟨.op (.mv (.t 93)), (some 94), none⟩, .n, []⟩, ⟨⟨.op (.mv (.t 8)), (some 95), (some (94, true))⟩, .n, []⟩, ⟨⟨.op (.mv (.t 12)), (some 96), (some (94, true))⟩, .n, []⟩, ⟨⟨.op (.ia 2 none (.t 95) (.t 96)), (some 97), (some (94, true))⟩, .n, []⟩, ⟨⟨.op (.fa 0 (.t 97)), (some 98), (some (94, true))⟩, .n, []⟩, ⟨⟨.op (.ld1 (.t 98)), (some 99), (some (94, true))⟩, .n, []⟩, ⟨⟨.op (.fa 0 (.t 7)), (some 100), (some (94, true))⟩, .n, []⟩, ⟨⟨.op (.fa 0 (.t 100)), (some 101), (some (94, true))⟩, .n, []⟩, ⟨⟨.op (.ld1 (.t 101)), (some 102), (some (94, true))⟩, .n, []⟩, ⟨⟨.op (.bin .leq 0 (.t 99) (.t 102)), (some 103), (some (94, true))⟩, .n, []⟩, ⟨⟨.op (.pick (.t 94) (.t 103) (.c (.bool false))), (some 104), none⟩, .n, []⟩])
 [4, 6, 7, 8, 11, 12, 95, 96, 97, 98, 99, 100, 101, 102, 103, 104]
 (.cond (.t 104) (.reg [⟨.op (.mv (.t 11)), (some 105), none⟩, ⟨.op (.mv (.t 8)), (some 106), none⟩, ⟨.op (.mv (.t 12)), (some 107), none⟩, ⟨.op (.ia 2 none (.t 106) (.t 107)), (some 108), none⟩, ⟨.op (.fa 1 (.t 108)), (some 109), none⟩, ⟨.op (.ld1 (.t 109)), (some 110), none⟩, ⟨.op (.bslice 1 1 [(.str [])] [(0, 1, (.t 110))]), (some 111), none⟩, ⟨.op (.app 1 16 false (.t 105) (.t 111)), (some 112), none⟩, ⟨.op (.mv (.t 112)), (some 11), none⟩]) (.drw [⟨⟨.op (.fa 2 (.t 7)), (some 113), none⟩, .n, []⟩, ⟨⟨.op (.ld1 (.t 113)), (some 114), none⟩, .n, []⟩, ⟨⟨.op (.mv (.t 8)), (some 115), none⟩, .n, []⟩, ⟨⟨.op (.mv (.t 12)), (some 116), none⟩, .n, []⟩, ⟨⟨.op (.ia 2 none (.t 115) (.t 116)), (some 117), none⟩, .n, []⟩, ⟨⟨.op (.ldn 2 (.t 117)), (some 118), none⟩, .n, []⟩, ⟨⟨.op (.bslice 2 1 [(.int .i64 0), (.str [])] [(0, 2, (.t 118))]), (some 119), none⟩, .a, [(true, 5), (true, 1)]⟩, ⟨⟨.op (.app 2 24 false (.t 114) (.t 119)), (some 120), none⟩, .x, []⟩, ⟨⟨.op (.fa 2 (.t 7)), (some 121), none⟩, .n, []⟩, ⟨⟨.op (.st 1 (.t 121) (.t 120)), none, none⟩, .x, []⟩]))))
 [4, 6, 7, 8, 11, 12, 95, 96, 97, 98, 99, 100, 101, 102, 103]
 (.reg [⟨.op (.mv (.t 12)), (some 85), none⟩, ⟨.op (.bin .add 0 (.t 85) (.c (.int .i64 1))), (some 86), none⟩, ⟨.op (.mv (.t 86)), (some 12), none⟩]))) T st := rfl
/-- cardamom/cardamomref20.Comes -/
noncomputable def c34 : DFn := ⟨124, .pure,
 .seq (.reg [⟨.op (.box (.t 0)), (some 2), none⟩, ⟨.op (.box (.t 1)), (some 3), none⟩, ⟨.op (.new [(.int .i64 0), (.sl none 0), (.sl none 0)]), (some 4), none⟩, ⟨.op (.mv (.c (.sl none 0))), (some 5), none⟩])
 [2, 3, 4, 19, 20, 21, 24, 25, 26, 27, 28, 29, 30, 53, 54, 55, 56, 57, 58, 59, 60, 61, 95, 96, 97, 98, 99, 100, 101, 102, 103]
 (.seq (.seq (.reg [⟨.op (.fa 0 (.t 2)), (some 13), none⟩, ⟨.op (.ldn 2 (.t 13)), (some 14), none⟩, ⟨.op (.fa 0 (.t 3)), (some 15), none⟩, ⟨.op (.ld1 (.t 15)), (some 16), none⟩, ⟨.call 61 [(.t 14), (.t 16)], (some 17), none⟩, ⟨.op (.mv (.t 17)), (some 18), none⟩, ⟨.op (.fa 0 (.t 3)), (some 19), (some (18, false))⟩, ⟨.op (.ld1 (.t 19)), (some 20), (some (18, false))⟩, ⟨.op (.bin .lss 0 (.t 20) (.c (.int .i64 1))), (some 21), (some (18, false))⟩, ⟨.op (.pick (.t 18) (.c (.bool true)) (.t 21)), (some 22), none⟩, ⟨.op (.mv (.t 22)), (some 23), none⟩, ⟨.op (.fa 0 (.t 3)), (some 24), (some (23, false))⟩, ⟨.op (.ld1 (.t 24)), (some 25), (some (23, false))⟩, ⟨.op (.fa 0 (.t 2)), (some 26), (some (23, false))⟩, ⟨.op (.fa 0 (.t 26)), (some 27), (some (23, false))⟩, ⟨.op (.ld1 (.t 27)), (some 28), (some (23, false))⟩, ⟨.op (.bin .add 0 (.t 28) (.c (.int .i64 4))), (some 29), (some (23, false))⟩, ⟨.op (.bin .gtr 0 (.t 25) (.t 29)), (some 30), (some (23, false))⟩, ⟨.op (.pick (.t 23) (.c (.bool true)) (.t 30)), (some 31), none⟩])
 [2, 3, 4, 31, 53, 54, 55, 56, 57, 58, 59, 60, 61, 95, 96, 97, 98, 99, 100, 101, 102, 103]
 (.cond (.t 31) (.seq (.reg [⟨.op (.ldn 3 (.t 2)), (some 32), none⟩, ⟨.op (.st 3 (.t 4) (.t 32)), none, none⟩, ⟨.op (.mv (.c (.sl none 0))), (some 5), none⟩])
 [4, 5]
 (.ret)) (.skip)))
 [2, 3, 4, 53, 54, 55, 56, 57, 58, 59, 60, 61, 95, 96, 97, 98, 99, 100, 101, 102, 103]
 (.seq (.reg [⟨.op (.fa 0 (.t 2)), (some 33), none⟩, ⟨.op (.fa 0 (.t 33)), (some 34), none⟩, ⟨.op (.ld1 (.t 34)), (some 35), none⟩, ⟨.op (.mv (.t 35)), (some 6), none⟩])
 [2, 3, 4, 6, 53, 54, 55, 56, 57, 58, 59, 60, 61, 95, 96, 97, 98, 99, 100, 101, 102, 103]
 (.seq (.reg [⟨.op (.fa 0 (.t 2)), (some 36), none⟩, ⟨.op (.ldn 2 (.t 36)), (some 37), none⟩, ⟨.op (.fa 0 (.t 3)), (some 38), none⟩, ⟨.op (.ld1 (.t 38)), (some 39), none⟩, ⟨.call 51 [(.t 37), (.t 39)], (some 40), none⟩, ⟨.op (.build [(.int .i64 0), (.sl none 0), (.sl none 0)] [(0, 2, (.t 40))]), (some 41), none⟩, ⟨.op (.new [(.int .i64 0), (.sl none 0), (.sl none 0)]), (some 7), none⟩, ⟨.op (.st 3 (.t 7) (.t 41)), none, none⟩])
 [2, 3, 4, 6, 7, 53, 54, 55, 56, 57, 58, 59, 60, 61, 95, 96, 97, 98, 99, 100, 101, 102, 103]
 (.seq (.reg [⟨.op (.bslice 2 0 [] []), (some 42), none⟩, ⟨.op (.mv (.t 42)), (some 8), none⟩])
 [2, 3, 4, 6, 7, 8, 53, 54, 55, 56, 57, 58, 59, 60, 61, 95, 96, 97, 98, 99, 100, 101, 102, 103]
 (.seq (.reg [⟨.op (.mv (.c (.bool false))), (some 9), none⟩])
 [2, 3, 4, 6, 7, 8, 9, 53, 54, 55, 56, 57, 58, 59, 60, 61, 95, 96, 97, 98, 99, 100, 101, 102, 103]
 (.seq (.seq (.reg [⟨.op (.mv (.c (.int .i64 0))), (some 10), none⟩])
 [2, 3, 4, 6, 7, 8, 9, 10, 53, 54, 55, 56, 57, 58, 59, 60, 61, 95, 96, 97, 98, 99, 100, 101, 102, 103]
 (.block 0 (.loop [2, 3, 4, 6, 7, 8, 9, 10, 53, 54, 55, 56, 57, 58, 59, 60, 61, 95, 96, 97, 98, 99, 100, 101, 102, 103] (l34_0))))
 [3, 4, 6, 7, 8, 9, 95, 96, 97, 98, 99, 100, 101, 102, 103]
 (.seq (.seq (.reg [⟨.op (.mv (.t 9)), (some 75), none⟩, ⟨.op (.not (.t 75)), (some 76), none⟩])
 [3, 4, 6, 7, 8, 76, 95, 96, 97, 98, 99, 100, 101, 102, 103]
 (.cond (.t 76) (.reg [⟨.op (.mv (.t 8)), (some 77), none⟩, ⟨.op (.ldn 2 (.t 3)), (some 78), none⟩, ⟨.op (.bslice 2 1 [(.int .i64 0), (.str [])] [(0, 2, (.t 78))]), (some 79), none⟩, ⟨.op (.app 2 24 false (.t 77) (.t 79)), (some 80), none⟩, ⟨.op (.mv (.t 80)), (some 8), none⟩]) (.skip)))
 [4, 6, 7, 8, 95, 96, 97, 98, 99, 100, 101, 102, 103]
 (.seq (.reg [⟨.op (.mv (.c (.sl none 0))), (some 11), none⟩])
 [4, 6, 7, 8, 11, 95, 96, 97, 98, 99, 100, 101, 102, 103]
 (.seq (.seq (.reg [⟨.op (.mv (.c (.int .i64 0))), (some 12), none⟩])
 [4, 6, 7, 8, 11, 12, 95, 96, 97, 98, 99, 100, 101, 102, 103]
 (.block 2 (.loop [4, 6, 7, 8, 11, 12, 95, 96, 97, 98, 99, 100, 101, 102, 103] (l34_1))))
 [4, 7, 11]
 (.seq (.reg [⟨.op (.ldn 3 (.t 7)), (some 122), none⟩, ⟨.op (.mv (.t 11)), (some 123), none⟩, ⟨.op (.st 3 (.t 4) (.t 122)), none, none⟩, ⟨.op (.mv (.t 123)), (some 5), none⟩])
 [4, 5]
 (.ret))))))))))),
 [.celln 3 4, .tmp 5]⟩
theorem k34 : cFn Try.prog 34 = some c34.toE := by kernel_rfl
theorem w34 : c34.body.wf = true := by kernel_rfl
/-- cardamom/cardamomref20.SameRcvr -/
noncomputable def c35 : DFn := ⟨17, .pure,
 .seq (.reg [⟨.op (.box (.t 0)), (some 2), none⟩, ⟨.op (.box (.t 1)), (some 3), none⟩, ⟨.op (.mv (.c (.bool false))), (some 4), none⟩])
 [2, 3, 11, 12, 13, 14, 15]
 (.seq (.reg [⟨.op (.fa 0 (.t 2)), (some 5), none⟩, ⟨.op (.ldn 2 (.t 5)), (some 6), none⟩, ⟨.op (.fa 0 (.t 3)), (some 7), none⟩, ⟨.op (.ldn 2 (.t 7)), (some 8), none⟩, ⟨.call 26 [(.t 6), (.t 8)], (some 9), none⟩, ⟨.op (.mv (.t 9)), (some 10), none⟩, ⟨.op (.fa 2 (.t 2)), (some 11), (some (10, true))⟩, ⟨.op (.ld1 (.t 11)), (some 12), (some (10, true))⟩, ⟨.op (.fa 2 (.t 3)), (some 13), (some (10, true))⟩, ⟨.op (.ld1 (.t 13)), (some 14), (some (10, true))⟩, ⟨.call 62 [(.t 12), (.t 14)], (some 15), (some (10, true))⟩, ⟨.op (.pick (.t 10) (.t 15) (.c (.bool false))), (some 16), none⟩, ⟨.op (.mv (.t 16)), (some 4), none⟩])
 [4]
 (.ret)),
 [.tmp 4]⟩
theorem k35 : cFn Try.prog 35 = some c35.toE := by kernel_rfl
theorem w35 : c35.body.wf = true := by kernel_rfl
noncomputable def l11_0 : DC :=
 .seq (.seq (.reg [⟨.op (.mv (.t 13)), (some 80), none⟩, ⟨.op (.mv (.t 12)), (some 81), none⟩, ⟨.op (.len (.t 81)), (some 82), none⟩, ⟨.op (.bin .lss 0 (.t 80) (.t 82)), (some 83), none⟩])
 [0, 3, 5, 6, 7, 9, 10, 11, 12, 13, 75, 76, 77, 78, 83]
 (.cond (.t 83) (.skip) (.exit 2)))
 [0, 3, 5, 6, 7, 9, 10, 11, 12, 13, 75, 76, 77, 78]
 (.seq (.block 3 (.seq (.drw [⟨⟨.op (.mv (.t 10)), (some 86), none⟩, .n, []⟩, ⟨⟨.op (.mv (.t 13)), (some 87), none⟩, .n, []⟩, ⟨⟨.op (.ia 1 none (.t 86) (.t 87)), (some 88), none⟩, .n, []⟩, ⟨⟨.op (.ld1 (.t 88)), (some 89), none⟩, .n, []⟩, ⟨⟨.op (.mv (.t 12)), (some 90), none⟩, .n, []⟩, ⟨⟨.op (.mv (.t 13)), (some 91), none⟩, .n, []⟩, ⟨⟨.op (.ia 1 none (.t 90) (.t 91)), (some 92), none⟩, .n, []⟩, ⟨⟨.op (.ld1 (.t 92)), (some 93), none⟩, .n, []⟩, ⟨⟨.op (.bin .neq 0 (.t 89) (.t 93)), (some 94), none⟩, .n, []⟩])
 [0, 3, 5, 6, 7, 9, 10, 11, 12, 13, 75, 76, 77, 78, 94]
 (.cond (.t 94) (.seq (.reg [⟨.op (.mv (.c (.bool false))), (some 4), none⟩])
 [4]
 (.ret)) (.skip))))
 [0, 3, 5, 6, 7, 9, 10, 11, 12, 13, 75, 76, 77, 78]
 (.reg [⟨.op (.mv (.t 13)), (some 84), none⟩, ⟨.op (.bin .add 0 (.t 84) (.c (.int .i64 1))), (some 85), none⟩, ⟨.op (.mv (.t 85)), (some 13), none⟩]))
theorem u11_0 (call : DCall) (T : Tm) (st : Dv.St) : dCw Try.prog call l11_0 T st = dCw Try.prog call
 (.seq (.seq (.reg [⟨.op (.mv (.t 13)), (some 80), none⟩, ⟨.op (.mv (.t 12)), (some 81), none⟩, ⟨.op (.len (.t 81)), (some 82), none⟩, ⟨.op (.bin .lss 0 (.t 80) (.t 82)), (some 83), none⟩])
 [0, 3, 5, 6, 7, 9, 10, 11, 12, 13, 75, 76, 77, 78, 83]
 (.cond (.t 83) (.skip) (.exit 2)))
 [0, 3, 5, 6, 7, 9, 10, 11, 12, 13, 75, 76, 77, 78]
 (.seq (.block 3 (.seq (.drw [⟨⟨.op (.mv (.t 10)), (some 86), none⟩, .n, []⟩, ⟨⟨.op (.mv (.t 13)), (some 87), none⟩, .n, []⟩, ⟨⟨.op (.ia 1 none (.t 86) (.t 87)), (some 88), none⟩, .n, []⟩, ⟨⟨.op (.ld1 (.t 88)), (some 89), none⟩, .n, []⟩, ⟨⟨.op (.mv (.t 12)), (some 90), none⟩, .n, []⟩, ⟨⟨.op (.mv (.t 13)), (some 91), none⟩, .n, []⟩, ⟨⟨.op (.ia 1 none (.t 90) (.t 91)), (some 92), none⟩, .n, []⟩, ⟨⟨.op (.ld1 (.t 92)), (some 93), none⟩, .n, []⟩, ⟨⟨.op (.bin .neq 0 (.t 89) (.t 93)), (some 94), none⟩, .n, []⟩])
 [0, 3, 5, 6, 7, 9, 10, 11, 12, 13, 75, 76, 77, 78, 94]
 (.cond (.t 94) (.seq (.reg [⟨.op (.mv (.c (.bool false))), (some 4), none⟩])
 [4]
 (.ret)) (.skip))))
 [0, 3, 5, 6, 7, 9, 10, 11, 12, 13, 75, 76, 77, 78]
 (.reg [⟨.op (.mv (.t 13)), (some 84), none⟩, ⟨.op (.bin .add 0 (.t 84) (.c (.int .i64 1))), (some 85), none⟩, ⟨.op (.mv (.t 85)), (some 13), none⟩]))) T st := rfl
noncomputable def l11_1 : DC :=
 .seq (.seq (.reg [⟨.op (.mv (.t 7)), (some 27), none⟩, ⟨.op (.mv (.t 0)), (some 28), none⟩, ⟨.op (.len (.t 28)), (some 29), none⟩, ⟨.op (.bin .lss 0 (.t 27) (.t 29)), (some 30), none⟩])
 [0, 3, 5, 6, 7, 30, 75, 76, 77, 78]
 (.cond (.t 30) (.skip) (.exit 0)))
 [0, 3, 5, 6, 7, 75, 76, 77, 78]
 (.seq (.block 1 (.seq (.drw [⟨⟨.op (.fa 0 (.t 6)), (some 33), none⟩, .n, []⟩, ⟨⟨.op (.fa 0 (.t 33)), (some 34), none⟩, .n, []⟩, ⟨⟨.op (.ld1 (.t 34)), (some 35), none⟩, .n, []⟩, ⟨⟨.op (.bin .sub 0 (.t 35) (.c (.int .i64 1))), (some 36), none⟩, .n, []⟩, ⟨⟨.op (.mv (.t 0)), (some 37), none⟩, .n, []⟩, ⟨⟨.op (.mv (.t 7)), (some 38), none⟩, .n, []⟩, ⟨⟨.op (.ia 1 none (.t 37) (.t 38)), (some 39), none⟩, .n, []⟩, ⟨⟨.op (.ld1 (.t 39)), (some 40), none⟩, .n, []⟩, ⟨⟨.op (.bin .rem 0 (.t 40) (.c (.int .u8 8))), (some 41), none⟩, .n, []⟩, ⟨⟨.op (.conv .i64 (.t 41)), (some 42), none⟩, .n, []⟩, ⟨⟨.op (.bin .add 0 (.t 36) (.t 42)), (some 43), none⟩, .n, []⟩, ⟨⟨.op (.mv (.t 0)), (some 44), none⟩, .n, []⟩, ⟨⟨.op (.mv (.t 7)), (some 45), none⟩, .n, []⟩, ⟨⟨.op (.ia 1 none (.t 44) (.t 45)), (some 46), none⟩, .n, []⟩, ⟨⟨.op (.ld1 (.t 46)), (some 47), none⟩, .n, []⟩, ⟨⟨.op (.bin .rem 0 (.t 47) (.c (.int .u8 26))), (some 48), none⟩, .n, []⟩, ⟨⟨.op (.bin .add 0 (.c (.int .u8 97)) (.t 48)), (some 49), none⟩, .n, []⟩, ⟨⟨.op (.bslice 1 1 [(.int .u8 0)] [(0, 1, (.t 49))]), (some 50), none⟩, .a, [(true, 14), (true, 9), (true, 7), (true, 2)]⟩, ⟨⟨.op (.string (.t 50)), (some 51), none⟩, .n, []⟩, ⟨⟨.op (.build [(.int .i64 0), (.str [])] [(0, 1, (.t 43)), (1, 1, (.t 51))]), (some 52), none⟩, .n, []⟩, ⟨⟨.op (.new [(.int .i64 0), (.str [])]), (some 8), none⟩, .a, [(true, 18), (true, 14), (true, 9), (true, 7), (true, 2)]⟩, ⟨⟨.op (.st 2 (.t 8) (.t 52)), none, none⟩, .x, []⟩])
 [0, 3, 5, 6, 7, 8, 75, 76, 77, 78]
 (.seq (.seq (.reg [⟨.op (.mv (.t 7)), (some 53), none⟩, ⟨.op (.bin .rem 0 (.t 53) (.c (.int .i64 9))), (some 54), none⟩, ⟨.op (.bin .eql 0 (.t 54) (.c (.int .i64 8))), (some 55), none⟩])
 [0, 3, 5, 6, 7, 8, 55, 75, 76, 77, 78]
 (.cond (.t 55) (.reg [⟨.op (.ldn 2 (.t 3)), (some 56), none⟩, ⟨.op (.st 2 (.t 8) (.t 56)), none, none⟩]) (.skip)))
 [0, 3, 5, 6, 7, 8, 75, 76, 77, 78]
 (.seq (.reg [⟨.op (.ldn 3 (.t 5)), (some 58), none⟩, ⟨.op (.ldn 2 (.t 8)), (some 59), none⟩, ⟨.call 33 [(.t 58), (.t 59)], (some 60), none⟩, ⟨.op (.mv (.t 60)), (some 57), none⟩, ⟨.op (.ext (.t 57) 0), (some 61), none⟩, ⟨.op (.ext (.t 57) 1), (some 62), none⟩, ⟨.op (.new [(.int .i64 0), (.sl none 0), (.sl none 0)]), (some 9), none⟩, ⟨.op (.st 3 (.t 9) (.t 61)), none, none⟩, ⟨.op (.mv (.t 62)), (some 10), none⟩])
 [0, 3, 5, 6, 7, 8, 9, 10, 75, 76, 77, 78]
 (.seq (.reg [⟨.op (.ldn 3 (.t 6)), (some 64), none⟩, ⟨.op (.ldn 2 (.t 8)), (some 65), none⟩, ⟨.call 34 [(.t 64), (.t 65)], (some 66), none⟩, ⟨.op (.mv (.t 66)), (some 63), none⟩, ⟨.op (.ext (.t 63) 0), (some 67), none⟩, ⟨.op (.ext (.t 63) 1), (some 68), none⟩, ⟨.op (.new [(.int .i64 0), (.sl none 0), (.sl none 0)]), (some 11), none⟩, ⟨.op (.st 3 (.t 11) (.t 67)), none, none⟩, ⟨.op (.mv (.t 68)), (some 12), none⟩])
 [0, 3, 5, 6, 7, 9, 10, 11, 12, 75, 76, 77, 78]
 (.seq (.seq (.reg [⟨.op (.mv (.t 10)), (some 69), none⟩, ⟨.op (.len (.t 69)), (some 70), none⟩, ⟨.op (.mv (.t 12)), (some 71), none⟩, ⟨.op (.len (.t 71)), (some 72), none⟩, ⟨.op (.bin .neq 0 (.t 70) (.t 72)), (some 73), none⟩, ⟨.op (.mv (.t 73)), (some 74), none⟩, ⟨.op (.ldn 3 (.t 9)), (some 75), (some (74, false))⟩, ⟨.op (.ldn 3 (.t 11)), (some 76), (some (74, false))⟩, ⟨.call 35 [(.t 75), (.t 76)], (some 77), (some (74, false))⟩, ⟨.op (.not (.t 77)), (some 78), (some (74, false))⟩, ⟨.op (.pick (.t 74) (.c (.bool true)) (.t 78)), (some 79), none⟩])
 [0, 3, 5, 6, 7, 9, 10, 11, 12, 75, 76, 77, 78, 79]
 (.cond (.t 79) (.seq (.reg [⟨.op (.mv (.c (.bool false))), (some 4), none⟩])
 [4]
 (.ret)) (.skip)))
 [0, 3, 5, 6, 7, 9, 10, 11, 12, 75, 76, 77, 78]
 (.seq (.seq (.reg [⟨.op (.mv (.c (.int .i64 0))), (some 13), none⟩])
 [0, 3, 5, 6, 7, 9, 10, 11, 12, 13, 75, 76, 77, 78]
 (.block 2 (.loop [0, 3, 5, 6, 7, 9, 10, 11, 12, 13, 75, 76, 77, 78] (l11_0))))
 [0, 3, 5, 6, 7, 9, 11, 75, 76, 77, 78]
 (.drw [⟨⟨.op (.ldn 3 (.t 9)), (some 95), none⟩, .n, []⟩, ⟨⟨.op (.ldn 3 (.t 11)), (some 96), none⟩, .n, []⟩, ⟨⟨.op (.st 3 (.t 5) (.t 95)), none, none⟩, .x, [(true, 1)]⟩, ⟨⟨.op (.st 3 (.t 6) (.t 96)), none, none⟩, .x, []⟩]))))))))
 [0, 3, 5, 6, 7, 75, 76, 77, 78]
 (.reg [⟨.op (.mv (.t 7)), (some 31), none⟩, ⟨.op (.bin .add 0 (.t 31) (.c (.int .i64 1))), (some 32), none⟩, ⟨.op (.mv (.t 32)), (some 7), none⟩]))
theorem u11_1 (call : DCall) (T : Tm) (st : Dv.St) : dCw Try.prog call l11_1 T st = dCw Try.prog call
 (.seq (.seq (.reg [⟨.op (.mv (.t 7)), (some 27), none⟩, ⟨.op (.mv (.t 0)), (some 28), none⟩, ⟨.op (.len (.t 28)), (some 29), none⟩, ⟨.op (.bin .lss 0 (.t 27) (.t 29)), (some 30), none⟩])
 [0, 3, 5, 6, 7, 30, 75, 76, 77, 78]
 (.cond (.t 30) (.skip) (.exit 0)))
 [0, 3, 5, 6, 7, 75, 76, 77, 78]
 (.seq (.block 1 (.seq (.drw [⟨⟨.op (.fa 0 (.t 6)), (some 33), none⟩, .n, []⟩, ⟨⟨.op (.fa 0 (.t 33)), (some 34), none⟩, .n, []⟩, ⟨⟨.op (.ld1 (.t 34)), (some 35), none⟩, .n, []⟩, ⟨⟨.op (.bin .sub 0 (.t 35) (.c (.int .i64 1))), (some 36), none⟩, .n, []⟩, ⟨⟨.op (.mv (.t 0)), (some 37), none⟩, .n, []⟩, ⟨⟨.op (.mv (.t 7)), (some 38), none⟩, .n, []⟩, ⟨⟨.op (.ia 1 none (.t 37) (.t 38)), (some 39), none⟩, .n, []⟩, ⟨⟨.op (.ld1 (.t 39)), (some 40), none⟩, .n, []⟩, ⟨⟨.op (.bin .rem 0 (.t 40) (.c (.int .u8 8))), (some 41), none⟩, .n, []⟩, ⟨⟨.op (.conv .i64 (.t 41)), (some 42), none⟩, .n, []⟩, ⟨⟨.op (.bin .add 0 (.t 36) (.t 42)), (some 43), none⟩, .n, []⟩, ⟨⟨.op (.mv (.t 0)), (some 44), none⟩, .n, []⟩, ⟨⟨.op (.mv (.t 7)), (some 45), none⟩, .n, []⟩, ⟨⟨.op (.ia 1 none (.t 44) (.t 45)), (some 46), none⟩, .n, []⟩, ⟨⟨.op (.ld1 (.t 46)), (some 47), none⟩, .n, []⟩, ⟨⟨.op (.bin .rem 0 (.t 47) (.c (.int .u8 26))), (some 48), none⟩, .n, []⟩, ⟨⟨.op (.bin .add 0 (.c (.int .u8 97)) (.t 48)), (some 49), none⟩, .n, []⟩, ⟨⟨.op (.bslice 1 1 [(.int .u8 0)] [(0, 1, (.t 49))]), (some 50), none⟩, .a, [(true, 14), (true, 9), (true, 7), (true, 2)]⟩, ⟨⟨.op (.string (.t 50)), (some 51), none⟩, .n, []⟩, ⟨⟨.op (.build [(.int .i64 0), (.str [])] [(0, 1, (.t 43)), (1, 1, (.t 51))]), (some 52), none⟩, .n, []⟩, ⟨⟨.op (.new [(.int .i64 0), (.str [])]), (some 8), none⟩, .a, [(true, 18), (true, 14), (true, 9), (true, 7), (true, 2)]⟩, ⟨⟨.op (.st 2 (.t 8) (.t 52)), none, none⟩, .x, []⟩])
 [0, 3, 5, 6, 7, 8, 75, 76, 77, 78]
 (.seq (.seq (.reg [⟨.op (.mv (.t 7)), (some 53), none⟩, ⟨.op (.bin .rem 0 (.t 53) (.c (.int .i64 9))), (some 54), none⟩, ⟨.op (.bin .eql 0 (.t 54) (.c (.int .i64 8))), (some 55), none⟩])
 [0, 3, 5, 6, 7, 8, 55, 75, 76, 77, 78]
 (.cond (.t 55) (.reg [⟨.op (.ldn 2 (.t 3)), (some 56), none⟩, ⟨.op (.st 2 (.t 8) (.t 56)), none, none⟩]) (.skip)))
 [0, 3, 5, 6, 7, 8, 75, 76, 77, 78]
 (.seq (.reg [⟨.op (.ldn 3 (.t 5)), (some 58), none⟩, ⟨.op (.ldn 2 (.t 8)), (some 59), none⟩, ⟨.call 33 [(.t 58), (.t 59)], (some 60), none⟩, ⟨.op (.mv (.t 60)), (some 57), none⟩, ⟨.op (.ext (.t 57) 0), (some 61), none⟩, ⟨.op (.ext (.t 57) 1), (some 62), none⟩, ⟨.op (.new [(.int .i64 0), (.sl none 0), (.sl none 0)]), (some 9), none⟩, ⟨.op (.st 3 (.t 9) (.t 61)), none, none⟩, ⟨.op (.mv (.t 62)), (some 10), none⟩])
 [0, 3, 5, 6, 7, 8, 9, 10, 75, 76, 77, 78]
 (.seq (.reg [⟨.op (.ldn 3 (.t 6)), (some 64), none⟩, ⟨.op (.ldn 2 (.t 8)), (some 65), none⟩, ⟨.call 34 [(.t 64), (.t 65)], (some 66), none⟩, ⟨.op (.mv (.t 66)), (some 63), none⟩, ⟨.op (.ext (.t 63) 0), (some 67), none⟩, ⟨.op (.ext (.t 63) 1), (some 68), none⟩, ⟨.op (.new [(.int .i64 0), (.sl none 0), (.sl none 0)]), (some 11), none⟩, ⟨.op (.st 3 (.t 11) (.t 67)), none, none⟩, ⟨.op (.mv (.t 68)), (some 12), none⟩])
 [0, 3, 5, 6, 7, 9, 10, 11, 12, 75, 76, 77, 78]
 (.seq (.seq (.reg [⟨.op (.mv (.t 10)), (some 69), none⟩, ⟨.op (.len (.t 69)), (some 70), none⟩, ⟨.op (.mv (.t 12)), (some 71), none⟩, ⟨.op (.len (.t 71)), (some 72), none⟩, ⟨.op (.bin .neq 0 (.t 70) (.t 72)), (some 73), none⟩, ⟨.op (.mv (.t 73)), (some 74), none⟩, ⟨.op (.ldn 3 (.t 9)), (some 75), (some (74, false))⟩, ⟨.op (.ldn 3 (.t 11)), (some 76), (some (74, false))⟩, ⟨.call 35 [(.t 75), (.t 76)], (some 77), (some (74, false))⟩, ⟨.op (.not (.t 77)), (some 78), (some (74, false))⟩, ⟨.op (.pick (.t 74) (.c (.bool true)) (.t 78)), (some 79), none⟩])
 [0, 3, 5, 6, 7, 9, 10, 11, 12, 75, 76, 77, 78, 79]
 (.cond (.t 79) (.seq (.reg [⟨.op (.mv (.c (.bool false))), (some 4), none⟩])
 [4]
 (.ret)) (.skip)))
 [0, 3, 5, 6, 7, 9, 10, 11, 12, 75, 76, 77, 78]
 (.seq (.seq (.reg [⟨.op (.mv (.c (.int .i64 0))), (some 13), none⟩])
 [0, 3, 5, 6, 7, 9, 10, 11, 12, 13, 75, 76, 77, 78]
 (.block 2 (.loop [0, 3, 5, 6, 7, 9, 10, 11, 12, 13, 75, 76, 77, 78] (l11_0))))
 [0, 3, 5, 6, 7, 9, 11, 75, 76, 77, 78]
 (.drw [⟨⟨.op (.ldn 3 (.t 9)), (some 95), none⟩, .n, []⟩, ⟨⟨.op (.ldn 3 (.t 11)), (some 96), none⟩, .n, []⟩, ⟨⟨.op (.st 3 (.t 5) (.t 95)), none, none⟩, .x, [(true, 1)]⟩, ⟨⟨.op (.st 3 (.t 6) (.t 96)), none, none⟩, .x, []⟩]))))))))
 [0, 3, 5, 6, 7, 75, 76, 77, 78]
 (.reg [⟨.op (.mv (.t 7)), (some 31), none⟩, ⟨.op (.bin .add 0 (.t 31) (.c (.int .i64 1))), (some 32), none⟩, ⟨.op (.mv (.t 32)), (some 7), none⟩]))) T st := rfl
/-- cardamom/cardamomlaw21.RcvrAll -/
noncomputable def c11 : DFn := ⟨97, .pure,
 .seq (.reg [⟨.op (.box (.t 1)), (some 3), none⟩, ⟨.op (.mv (.c (.bool false))), (some 4), none⟩])
 [0, 3, 20, 21, 22, 23, 75, 76, 77, 78]
 (.seq (.seq (.reg [⟨.call 32 [], (some 14), none⟩, ⟨.op (.not (.t 14)), (some 15), none⟩])
 [0, 3, 15, 20, 21, 22, 23, 75, 76, 77, 78]
 (.cond (.t 15) (.seq (.reg [⟨.op (.mv (.c (.bool false))), (some 4), none⟩])
 [4]
 (.ret)) (.skip)))
 [0, 3, 20, 21, 22, 23, 75, 76, 77, 78]
 (.seq (.seq (.reg [⟨.op (.mv (.t 0)), (some 16), none⟩, ⟨.op (.len (.t 16)), (some 17), none⟩, ⟨.op (.bin .gtr 0 (.t 17) (.c (.int .i64 60))), (some 18), none⟩, ⟨.op (.mv (.t 18)), (some 19), none⟩, ⟨.op (.fa 1 (.t 3)), (some 20), (some (19, false))⟩, ⟨.op (.ld1 (.t 20)), (some 21), (some (19, false))⟩, ⟨.op (.lenstr (.t 21)), (some 22), (some (19, false))⟩, ⟨.op (.bin .gtr 0 (.t 22) (.c (.int .i64 20))), (some 23), (some (19, false))⟩, ⟨.op (.pick (.t 19) (.c (.bool true)) (.t 23)), (some 24), none⟩])
 [0, 3, 24, 75, 76, 77, 78]
 (.cond (.t 24) (.seq (.reg [⟨.op (.mv (.c (.bool true))), (some 4), none⟩])
 [4]
 (.ret)) (.skip)))
 [0, 3, 75, 76, 77, 78]
 (.seq (.reg [⟨.op (.build [(.int .i64 0), (.sl none 0), (.sl none 0)] []), (some 25), none⟩, ⟨.op (.build [(.int .i64 0), (.sl none 0), (.sl none 0)] []), (some 26), none⟩, ⟨.op (.new [(.int .i64 0), (.sl none 0), (.sl none 0)]), (some 5), none⟩, ⟨.op (.new [(.int .i64 0), (.sl none 0), (.sl none 0)]), (some 6), none⟩, ⟨.op (.st 3 (.t 5) (.t 25)), none, none⟩, ⟨.op (.st 3 (.t 6) (.t 26)), none, none⟩])
 [0, 3, 5, 6, 75, 76, 77, 78]
 (.seq (.seq (.reg [⟨.op (.mv (.c (.int .i64 0))), (some 7), none⟩])
 [0, 3, 5, 6, 7, 75, 76, 77, 78]
 (.block 0 (.loop [0, 3, 5, 6, 7, 75, 76, 77, 78] (l11_1))))
 []
 (.seq (.reg [⟨.op (.mv (.c (.bool true))), (some 4), none⟩])
 [4]
 (.ret)))))),
 [.tmp 4]⟩
theorem k11 : cFn Try.prog 11 = some c11.toE := by kernel_rfl
theorem w11 : c11.body.wf = true := by kernel_rfl
noncomputable def l62_0 : DC :=
 .seq (.seq (.reg [⟨.op (.mv (.t 5)), (some 11), none⟩, ⟨.op (.mv (.t 0)), (some 12), none⟩, ⟨.op (.len (.t 12)), (some 13), none⟩, ⟨.op (.bin .lss 0 (.t 11) (.t 13)), (some 14), none⟩])
 [0, 1, 5, 14]
 (.cond (.t 14) (.skip) (.exit 0)))
 [0, 1, 5]
 (.seq (.block 1 (.seq (.drw [⟨⟨.op (.mv (.t 0)), (some 17), none⟩, .n, []⟩, ⟨⟨.op (.mv (.t 5)), (some 18), none⟩, .n, []⟩, ⟨⟨.op (.ia 2 none (.t 17) (.t 18)), (some 19), none⟩, .n, []⟩, ⟨⟨.op (.ldn 2 (.t 19)), (some 20), none⟩, .n, []⟩, ⟨⟨.op (.mv (.t 1)), (some 21), none⟩, .n, []⟩, ⟨⟨.op (.mv (.t 5)), (some 22), none⟩, .n, []⟩, ⟨⟨.op (.ia 2 none (.t 21) (.t 22)), (some 23), none⟩, .n, []⟩, ⟨⟨.op (.ldn 2 (.t 23)), (some 24), none⟩, .n, []⟩, ⟨⟨.op (.slow (operAt Try.prog 62 20)), (some 25), none⟩, .n, []⟩])
 [0, 1, 5, 25]
 (.cond (.t 25) (.seq (.reg [⟨.op (.mv (.c (.bool false))), (some 4), none⟩])
 [4]
 (.ret)) (.skip))))
 [0, 1, 5]
 (.reg [⟨.op (.mv (.t 5)), (some 15), none⟩, ⟨.op (.bin .add 0 (.t 15) (.c (.int .i64 1))), (some 16), none⟩, ⟨.op (.mv (.t 16)), (some 5), none⟩]))
theorem u62_0 (call : DCall) (T : Tm) (st : Dv.St) : dCw Try.prog call l62_0 T st = dCw Try.prog call
 (.seq (.seq (.reg [⟨.op (.mv (.t 5)), (some 11), none⟩, ⟨.op (.mv (.t 0)), (some 12), none⟩, ⟨.op (.len (.t 12)), (some 13), none⟩, ⟨.op (.bin .lss 0 (.t 11) (.t 13)), (some 14), none⟩])
 [0, 1, 5, 14]
 (.cond (.t 14) (.skip) (.exit 0)))
 [0, 1, 5]
 (.seq (.block 1 (.seq (.drw [⟨⟨.op (.mv (.t 0)), (some 17), none⟩, .n, []⟩, ⟨⟨.op (.mv (.t 5)), (some 18), none⟩, .n, []⟩, ⟨⟨.op (.ia 2 none (.t 17) (.t 18)), (some 19), none⟩, .n, []⟩, ⟨⟨.op (.ldn 2 (.t 19)), (some 20), none⟩, .n, []⟩, ⟨⟨.op (.mv (.t 1)), (some 21), none⟩, .n, []⟩, ⟨⟨.op (.mv (.t 5)), (some 22), none⟩, .n, []⟩, ⟨⟨.op (.ia 2 none (.t 21) (.t 22)), (some 23), none⟩, .n, []⟩, ⟨⟨.op (.ldn 2 (.t 23)), (some 24), none⟩, .n, []⟩, ⟨⟨.op (.slow (operAt Try.prog 62 20)), (some 25), none⟩, .n, []⟩])
 [0, 1, 5, 25]
 (.cond (.t 25) (.seq (.reg [⟨.op (.mv (.c (.bool false))), (some 4), none⟩])
 [4]
 (.ret)) (.skip))))
 [0, 1, 5]
 (.reg [⟨.op (.mv (.t 5)), (some 15), none⟩, ⟨.op (.bin .add 0 (.t 15) (.c (.int .i64 1))), (some 16), none⟩, ⟨.op (.mv (.t 16)), (some 5), none⟩]))) T st := rfl
/-- cardamom/cardamomref20.SameSegs -/
noncomputable def c62 : DFn := ⟨26, .pure,
 .seq (.reg [⟨.op (.mv (.c (.bool false))), (some 4), none⟩])
 [0, 1]
 (.seq (.seq (.reg [⟨.op (.mv (.t 0)), (some 6), none⟩, ⟨.op (.len (.t 6)), (some 7), none⟩, ⟨.op (.mv (.t 1)), (some 8), none⟩, ⟨.op (.len (.t 8)), (some 9), none⟩, ⟨.op (.bin .neq 0 (.t 7) (.t 9)), (some 10), none⟩])
 [0, 1, 10]
 (.cond (.t 10) (.seq (.reg [⟨.op (.mv (.c (.bool false))), (some 4), none⟩])
 [4]
 (.ret)) (.skip)))
 [0, 1]
 (.seq (.seq (.reg [⟨.op (.mv (.c (.int .i64 0))), (some 5), none⟩])
 [0, 1, 5]
 (.block 0 (.loop [0, 1, 5] (l62_0))))
 []
 (.seq (.reg [⟨.op (.mv (.c (.bool true))), (some 4), none⟩])
 [4]
 (.ret)))),
 [.tmp 4]⟩
theorem k62 : cFn Try.prog 62 = some c62.toE := by kernel_rfl
theorem w62 : c62.body.wf = true := by kernel_rfl
/-- (cardamom/stamp.part).Unwrap -/
noncomputable def c141 : DFn := ⟨5, .pure,
 .seq (.reg [⟨.op (.box (.t 0)), (some 1), none⟩, ⟨.op (.mv (.c .nilifc)), (some 2), none⟩])
 [1]
 (.seq (.reg [⟨.op (.fa 1 (.t 1)), (some 3), none⟩, ⟨.op (.ld1 (.t 3)), (some 4), none⟩, ⟨.op (.mv (.t 4)), (some 2), none⟩])
 [2]
 (.ret)),
 [.tmp 2]⟩
theorem k141 : cFn Try.prog 141 = some c141.toE := by kernel_rfl
theorem w141 : c141.body.wf = true := by kernel_rfl
/-- (*errors.joinError).Unwrap -/
noncomputable def c139 : DFn := ⟨7, .pure,
 .seq (.reg [⟨.op (.mv (.c (.sl none 0))), (some 2), none⟩])
 [0]
 (.seq (.reg [⟨.op (.mv (.t 0)), (some 3), none⟩, ⟨.op (.nilchk (.t 3)), (some 4), none⟩, ⟨.op (.fa 0 (.t 4)), (some 5), none⟩, ⟨.op (.ld1 (.t 5)), (some 6), none⟩, ⟨.op (.mv (.t 6)), (some 2), none⟩])
 [2]
 (.ret)),
 [.tmp 2]⟩
theorem k139 : cFn Try.prog 139 = some c139.toE := by kernel_rfl
theorem w139 : c139.body.wf = true := by kernel_rfl
/-- (cardamom/know.row).Unwrap -/
noncomputable def c125 : DFn := ⟨5, .pure,
 .seq (.reg [⟨.op (.box (.t 0)), (some 1), none⟩, ⟨.op (.mv (.c .nilifc)), (some 2), none⟩])
 [1]
 (.seq (.reg [⟨.op (.fa 0 (.t 1)), (some 3), none⟩, ⟨.op (.ld1 (.t 3)), (some 4), none⟩, ⟨.op (.mv (.t 4)), (some 2), none⟩])
 [2]
 (.ret)),
 [.tmp 2]⟩
theorem k125 : cFn Try.prog 125 = some c125.toE := by kernel_rfl
theorem w125 : c125.body.wf = true := by kernel_rfl
def tbl : Nat → Option DFn := fun f => bif Nat.beq f 3 then some c3 else bif Nat.beq f 4 then some c4 else bif Nat.beq f 5 then some c5 else bif Nat.beq f 14 then some c14 else bif Nat.beq f 15 then some c15 else bif Nat.beq f 17 then some c17 else bif Nat.beq f 18 then some c18 else bif Nat.beq f 19 then some c19 else bif Nat.beq f 20 then some c20 else bif Nat.beq f 21 then some c21 else bif Nat.beq f 22 then some c22 else bif Nat.beq f 16 then some c16 else bif Nat.beq f 39 then some c39 else bif Nat.beq f 40 then some c40 else bif Nat.beq f 41 then some c41 else bif Nat.beq f 42 then some c42 else bif Nat.beq f 43 then some c43 else bif Nat.beq f 71 then some c71 else bif Nat.beq f 72 then some c72 else bif Nat.beq f 68 then some c68 else bif Nat.beq f 69 then some c69 else bif Nat.beq f 70 then some c70 else bif Nat.beq f 23 then some c23 else bif Nat.beq f 24 then some c24 else bif Nat.beq f 25 then some c25 else bif Nat.beq f 26 then some c26 else bif Nat.beq f 27 then some c27 else bif Nat.beq f 28 then some c28 else bif Nat.beq f 29 then some c29 else bif Nat.beq f 30 then some c30 else bif Nat.beq f 31 then some c31 else bif Nat.beq f 9 then some c9 else bif Nat.beq f 48 then some c48 else bif Nat.beq f 49 then some c49 else bif Nat.beq f 52 then some c52 else bif Nat.beq f 55 then some c55 else bif Nat.beq f 56 then some c56 else bif Nat.beq f 61 then some c61 else bif Nat.beq f 32 then some c32 else bif Nat.beq f 33 then some c33 else bif Nat.beq f 34 then some c34 else bif Nat.beq f 35 then some c35 else bif Nat.beq f 11 then some c11 else bif Nat.beq f 62 then some c62 else bif Nat.beq f 141 then some c141 else bif Nat.beq f 139 then some c139 else bif Nat.beq f 125 then some c125 else none
def dx : DX := fun _ => none
theorem code_ok : ∀ f df, tbl f = some df → cFn Try.prog f = some df.toE ∧ df.body.wf = true := by
  intro f df h
  unfold tbl at h
  by_cases h3 : f = 3
  · subst h3; rw [Nat.beq_refl, cond_true] at h; rw [← Option.some.inj h]; exact ⟨k3, w3⟩
  rw [Ev.beq_false _ _ h3, cond_false] at h
  by_cases h4 : f = 4
  · subst h4; rw [Nat.beq_refl, cond_true] at h; rw [← Option.some.inj h]; exact ⟨k4, w4⟩
  rw [Ev.beq_false _ _ h4, cond_false] at h
  by_cases h5 : f = 5
  · subst h5; rw [Nat.beq_refl, cond_true] at h; rw [← Option.some.inj h]; exact ⟨k5, w5⟩
  rw [Ev.beq_false _ _ h5, cond_false] at h
  by_cases h14 : f = 14
  · subst h14; rw [Nat.beq_refl, cond_true] at h; rw [← Option.some.inj h]; exact ⟨k14, w14⟩
  rw [Ev.beq_false _ _ h14, cond_false] at h
  by_cases h15 : f = 15
  · subst h15; rw [Nat.beq_refl, cond_true] at h; rw [← Option.some.inj h]; exact ⟨k15, w15⟩
  rw [Ev.beq_false _ _ h15, cond_false] at h
  by_cases h17 : f = 17
  · subst h17; rw [Nat.beq_refl, cond_true] at h; rw [← Option.some.inj h]; exact ⟨k17, w17⟩
  rw [Ev.beq_false _ _ h17, cond_false] at h
  by_cases h18 : f = 18
  · subst h18; rw [Nat.beq_refl, cond_true] at h; rw [← Option.some.inj h]; exact ⟨k18, w18⟩
  rw [Ev.beq_false _ _ h18, cond_false] at h
  by_cases h19 : f = 19
  · subst h19; rw [Nat.beq_refl, cond_true] at h; rw [← Option.some.inj h]; exact ⟨k19, w19⟩
  rw [Ev.beq_false _ _ h19, cond_false] at h
  by_cases h20 : f = 20
  · subst h20; rw [Nat.beq_refl, cond_true] at h; rw [← Option.some.inj h]; exact ⟨k20, w20⟩
  rw [Ev.beq_false _ _ h20, cond_false] at h
  by_cases h21 : f = 21
  · subst h21; rw [Nat.beq_refl, cond_true] at h; rw [← Option.some.inj h]; exact ⟨k21, w21⟩
  rw [Ev.beq_false _ _ h21, cond_false] at h
  by_cases h22 : f = 22
  · subst h22; rw [Nat.beq_refl, cond_true] at h; rw [← Option.some.inj h]; exact ⟨k22, w22⟩
  rw [Ev.beq_false _ _ h22, cond_false] at h
  by_cases h16 : f = 16
  · subst h16; rw [Nat.beq_refl, cond_true] at h; rw [← Option.some.inj h]; exact ⟨k16, w16⟩
  rw [Ev.beq_false _ _ h16, cond_false] at h
  by_cases h39 : f = 39
  · subst h39; rw [Nat.beq_refl, cond_true] at h; rw [← Option.some.inj h]; exact ⟨k39, w39⟩
  rw [Ev.beq_false _ _ h39, cond_false] at h
  by_cases h40 : f = 40
  · subst h40; rw [Nat.beq_refl, cond_true] at h; rw [← Option.some.inj h]; exact ⟨k40, w40⟩
  rw [Ev.beq_false _ _ h40, cond_false] at h
  by_cases h41 : f = 41
  · subst h41; rw [Nat.beq_refl, cond_true] at h; rw [← Option.some.inj h]; exact ⟨k41, w41⟩
  rw [Ev.beq_false _ _ h41, cond_false] at h
  by_cases h42 : f = 42
  · subst h42; rw [Nat.beq_refl, cond_true] at h; rw [← Option.some.inj h]; exact ⟨k42, w42⟩
  rw [Ev.beq_false _ _ h42, cond_false] at h
  by_cases h43 : f = 43
  · subst h43; rw [Nat.beq_refl, cond_true] at h; rw [← Option.some.inj h]; exact ⟨k43, w43⟩
  rw [Ev.beq_false _ _ h43, cond_false] at h
  by_cases h71 : f = 71
  · subst h71; rw [Nat.beq_refl, cond_true] at h; rw [← Option.some.inj h]; exact ⟨k71, w71⟩
  rw [Ev.beq_false _ _ h71, cond_false] at h
  by_cases h72 : f = 72
  · subst h72; rw [Nat.beq_refl, cond_true] at h; rw [← Option.some.inj h]; exact ⟨k72, w72⟩
  rw [Ev.beq_false _ _ h72, cond_false] at h
  by_cases h68 : f = 68
  · subst h68; rw [Nat.beq_refl, cond_true] at h; rw [← Option.some.inj h]; exact ⟨k68, w68⟩
  rw [Ev.beq_false _ _ h68, cond_false] at h
  by_cases h69 : f = 69
  · subst h69; rw [Nat.beq_refl, cond_true] at h; rw [← Option.some.inj h]; exact ⟨k69, w69⟩
  rw [Ev.beq_false _ _ h69, cond_false] at h
  by_cases h70 : f = 70
  · subst h70; rw [Nat.beq_refl, cond_true] at h; rw [← Option.some.inj h]; exact ⟨k70, w70⟩
  rw [Ev.beq_false _ _ h70, cond_false] at h
  by_cases h23 : f = 23
  · subst h23; rw [Nat.beq_refl, cond_true] at h; rw [← Option.some.inj h]; exact ⟨k23, w23⟩
  rw [Ev.beq_false _ _ h23, cond_false] at h
  by_cases h24 : f = 24
  · subst h24; rw [Nat.beq_refl, cond_true] at h; rw [← Option.some.inj h]; exact ⟨k24, w24⟩
  rw [Ev.beq_false _ _ h24, cond_false] at h
  by_cases h25 : f = 25
  · subst h25; rw [Nat.beq_refl, cond_true] at h; rw [← Option.some.inj h]; exact ⟨k25, w25⟩
  rw [Ev.beq_false _ _ h25, cond_false] at h
  by_cases h26 : f = 26
  · subst h26; rw [Nat.beq_refl, cond_true] at h; rw [← Option.some.inj h]; exact ⟨k26, w26⟩
  rw [Ev.beq_false _ _ h26, cond_false] at h
  by_cases h27 : f = 27
  · subst h27; rw [Nat.beq_refl, cond_true] at h; rw [← Option.some.inj h]; exact ⟨k27, w27⟩
  rw [Ev.beq_false _ _ h27, cond_false] at h
  by_cases h28 : f = 28
  · subst h28; rw [Nat.beq_refl, cond_true] at h; rw [← Option.some.inj h]; exact ⟨k28, w28⟩
  rw [Ev.beq_false _ _ h28, cond_false] at h
  by_cases h29 : f = 29
  · subst h29; rw [Nat.beq_refl, cond_true] at h; rw [← Option.some.inj h]; exact ⟨k29, w29⟩
  rw [Ev.beq_false _ _ h29, cond_false] at h
  by_cases h30 : f = 30
  · subst h30; rw [Nat.beq_refl, cond_true] at h; rw [← Option.some.inj h]; exact ⟨k30, w30⟩
  rw [Ev.beq_false _ _ h30, cond_false] at h
  by_cases h31 : f = 31
  · subst h31; rw [Nat.beq_refl, cond_true] at h; rw [← Option.some.inj h]; exact ⟨k31, w31⟩
  rw [Ev.beq_false _ _ h31, cond_false] at h
  by_cases h9 : f = 9
  · subst h9; rw [Nat.beq_refl, cond_true] at h; rw [← Option.some.inj h]; exact ⟨k9, w9⟩
  rw [Ev.beq_false _ _ h9, cond_false] at h
  by_cases h48 : f = 48
  · subst h48; rw [Nat.beq_refl, cond_true] at h; rw [← Option.some.inj h]; exact ⟨k48, w48⟩
  rw [Ev.beq_false _ _ h48, cond_false] at h
  by_cases h49 : f = 49
  · subst h49; rw [Nat.beq_refl, cond_true] at h; rw [← Option.some.inj h]; exact ⟨k49, w49⟩
  rw [Ev.beq_false _ _ h49, cond_false] at h
  by_cases h52 : f = 52
  · subst h52; rw [Nat.beq_refl, cond_true] at h; rw [← Option.some.inj h]; exact ⟨k52, w52⟩
  rw [Ev.beq_false _ _ h52, cond_false] at h
  by_cases h55 : f = 55
  · subst h55; rw [Nat.beq_refl, cond_true] at h; rw [← Option.some.inj h]; exact ⟨k55, w55⟩
  rw [Ev.beq_false _ _ h55, cond_false] at h
  by_cases h56 : f = 56
  · subst h56; rw [Nat.beq_refl, cond_true] at h; rw [← Option.some.inj h]; exact ⟨k56, w56⟩
  rw [Ev.beq_false _ _ h56, cond_false] at h
  by_cases h61 : f = 61
  · subst h61; rw [Nat.beq_refl, cond_true] at h; rw [← Option.some.inj h]; exact ⟨k61, w61⟩
  rw [Ev.beq_false _ _ h61, cond_false] at h
  by_cases h32 : f = 32
  · subst h32; rw [Nat.beq_refl, cond_true] at h; rw [← Option.some.inj h]; exact ⟨k32, w32⟩
  rw [Ev.beq_false _ _ h32, cond_false] at h
  by_cases h33 : f = 33
  · subst h33; rw [Nat.beq_refl, cond_true] at h; rw [← Option.some.inj h]; exact ⟨k33, w33⟩
  rw [Ev.beq_false _ _ h33, cond_false] at h
  by_cases h34 : f = 34
  · subst h34; rw [Nat.beq_refl, cond_true] at h; rw [← Option.some.inj h]; exact ⟨k34, w34⟩
  rw [Ev.beq_false _ _ h34, cond_false] at h
  by_cases h35 : f = 35
  · subst h35; rw [Nat.beq_refl, cond_true] at h; rw [← Option.some.inj h]; exact ⟨k35, w35⟩
  rw [Ev.beq_false _ _ h35, cond_false] at h
  by_cases h11 : f = 11
  · subst h11; rw [Nat.beq_refl, cond_true] at h; rw [← Option.some.inj h]; exact ⟨k11, w11⟩
  rw [Ev.beq_false _ _ h11, cond_false] at h
  by_cases h62 : f = 62
  · subst h62; rw [Nat.beq_refl, cond_true] at h; rw [← Option.some.inj h]; exact ⟨k62, w62⟩
  rw [Ev.beq_false _ _ h62, cond_false] at h
  by_cases h141 : f = 141
  · subst h141; rw [Nat.beq_refl, cond_true] at h; rw [← Option.some.inj h]; exact ⟨k141, w141⟩
  rw [Ev.beq_false _ _ h141, cond_false] at h
  by_cases h139 : f = 139
  · subst h139; rw [Nat.beq_refl, cond_true] at h; rw [← Option.some.inj h]; exact ⟨k139, w139⟩
  rw [Ev.beq_false _ _ h139, cond_false] at h
  by_cases h125 : f = 125
  · subst h125; rw [Nat.beq_refl, cond_true] at h; rw [← Option.some.inj h]; exact ⟨k125, w125⟩
  rw [Ev.beq_false _ _ h125, cond_false] at h
  cases h
theorem tbl_ok : TblOK Try.prog noPrims (cFn Try.prog) dx tbl := ⟨fun f df _ _ h => code_ok f df h, fun f g _ h => by cases h⟩
end
end Go.Proofs.Ytpinhopgeaamdaa.Cd
