/-
  What is proved here: the texts of the functions, looked up.
  Conditions: none.
-/
import Derived.Test.YtoojkgoljghddaaRows
import Derived.Test.YtoojkgoljghddaaDv3
import Derived.KernelRfl
set_option linter.unusedVariables false
set_option linter.unusedSimpArgs false
set_option maxRecDepth 100000
namespace Go.Proofs.Ytoojkgoljghddaa.Cd
open Go Go.Proofs Go.Proofs.Ev Go.Proofs.Dv
noncomputable section
noncomputable def l3_0 : DC :=
 .seq (.seq (.reg [⟨.op (.mv (.t 7)), (some 19), none⟩, ⟨.op (.mv (.t 0)), (some 20), none⟩, ⟨.op (.len (.t 20)), (some 21), none⟩, ⟨.op (.bin .lss 0 (.t 19) (.t 21)), (some 22), none⟩])
 [0, 1, 5, 6, 7, 22]
 (.cond (.t 22) (.skip) (.exit 0)))
 [0, 1, 5, 6, 7]
 (.seq (.block 1 (.seq (.drw [⟨⟨.op (.ldn 2 (.t 5)), (some 25), none⟩, .n, []⟩, ⟨⟨.op (.mv (.t 0)), (some 26), none⟩, .n, []⟩, ⟨⟨.op (.mv (.t 7)), (some 27), none⟩, .n, []⟩, ⟨⟨.op (.ia 1 none (.t 26) (.t 27)), (some 28), none⟩, .n, []⟩, ⟨⟨.op (.ld1 (.t 28)), (some 29), none⟩, .n, []⟩, ⟨⟨.op (.bin .rem 0 (.t 29) (.c (.int .u8 50))), (some 30), none⟩, .n, []⟩, ⟨⟨.op (.conv .i64 (.t 30)), (some 31), none⟩, .n, []⟩, ⟨⟨.op (.bin .add 0 (.c (.int .i64 1)) (.t 31)), (some 32), none⟩, .n, []⟩, ⟨⟨.call 5 [(.t 25), (.t 32)], (some 33), none⟩, .x, []⟩, ⟨⟨.op (.st 2 (.t 5) (.t 33)), none, none⟩, .x, []⟩])
 [0, 1, 5, 6, 7]
 (.drw [⟨⟨.op (.ldn 2 (.t 6)), (some 34), none⟩, .n, []⟩, ⟨⟨.op (.mv (.t 0)), (some 35), none⟩, .n, []⟩, ⟨⟨.op (.mv (.t 7)), (some 36), none⟩, .n, []⟩, ⟨⟨.op (.mv (.t 1)), (some 37), none⟩, .n, []⟩, ⟨⟨.op (.conv .i64 (.t 37)), (some 38), none⟩, .n, []⟩, ⟨⟨.op (.bin .add 0 (.t 36) (.t 38)), (some 39), none⟩, .n, []⟩, ⟨⟨.op (.mv (.t 0)), (some 40), none⟩, .n, []⟩, ⟨⟨.op (.len (.t 40)), (some 41), none⟩, .n, []⟩, ⟨⟨.op (.bin .rem 0 (.t 39) (.t 41)), (some 42), none⟩, .n, []⟩, ⟨⟨.op (.ia 1 none (.t 35) (.t 42)), (some 43), none⟩, .n, []⟩, ⟨⟨.op (.ld1 (.t 43)), (some 44), none⟩, .n, []⟩, ⟨⟨.op (.bin .rem 0 (.t 44) (.c (.int .u8 50))), (some 45), none⟩, .n, []⟩, ⟨⟨.op (.conv .i64 (.t 45)), (some 46), none⟩, .n, []⟩, ⟨⟨.op (.bin .add 0 (.c (.int .i64 1)) (.t 46)), (some 47), none⟩, .n, []⟩, ⟨⟨.call 5 [(.t 34), (.t 47)], (some 48), none⟩, .x, []⟩, ⟨⟨.op (.st 2 (.t 6) (.t 48)), none, none⟩, .x, []⟩])))
 [0, 1, 5, 6, 7]
 (.reg [⟨.op (.mv (.t 7)), (some 23), none⟩, ⟨.op (.bin .add 0 (.t 23) (.c (.int .i64 1))), (some 24), none⟩, ⟨.op (.mv (.t 24)), (some 7), none⟩]))
theorem u3_0 (call : DCall) (T : Tm) (st : Dv.St) : dCw Try.prog call l3_0 T st = dCw Try.prog call
 (.seq (.seq (.reg [⟨.op (.mv (.t 7)), (some 19), none⟩, ⟨.op (.mv (.t 0)), (some 20), none⟩, ⟨.op (.len (.t 20)), (some 21), none⟩, ⟨.op (.bin .lss 0 (.t 19) (.t 21)), (some 22), none⟩])
 [0, 1, 5, 6, 7, 22]
 (.cond (.t 22) (.skip) (.exit 0)))
 [0, 1, 5, 6, 7]
 (.seq (.block 1 (.seq (.drw [⟨⟨.op (.ldn 2 (.t 5)), (some 25), none⟩, .n, []⟩, ⟨⟨.op (.mv (.t 0)), (some 26), none⟩, .n, []⟩, ⟨⟨.op (.mv (.t 7)), (some 27), none⟩, .n, []⟩, ⟨⟨.op (.ia 1 none (.t 26) (.t 27)), (some 28), none⟩, .n, []⟩, ⟨⟨.op (.ld1 (.t 28)), (some 29), none⟩, .n, []⟩, ⟨⟨.op (.bin .rem 0 (.t 29) (.c (.int .u8 50))), (some 30), none⟩, .n, []⟩, ⟨⟨.op (.conv .i64 (.t 30)), (some 31), none⟩, .n, []⟩, ⟨⟨.op (.bin .add 0 (.c (.int .i64 1)) (.t 31)), (some 32), none⟩, .n, []⟩, ⟨⟨.call 5 [(.t 25), (.t 32)], (some 33), none⟩, .x, []⟩, ⟨⟨.op (.st 2 (.t 5) (.t 33)), none, none⟩, .x, []⟩])
 [0, 1, 5, 6, 7]
 (.drw [⟨⟨.op (.ldn 2 (.t 6)), (some 34), none⟩, .n, []⟩, ⟨⟨.op (.mv (.t 0)), (some 35), none⟩, .n, []⟩, ⟨⟨.op (.mv (.t 7)), (some 36), none⟩, .n, []⟩, ⟨⟨.op (.mv (.t 1)), (some 37), none⟩, .n, []⟩, ⟨⟨.op (.conv .i64 (.t 37)), (some 38), none⟩, .n, []⟩, ⟨⟨.op (.bin .add 0 (.t 36) (.t 38)), (some 39), none⟩, .n, []⟩, ⟨⟨.op (.mv (.t 0)), (some 40), none⟩, .n, []⟩, ⟨⟨.op (.len (.t 40)), (some 41), none⟩, .n, []⟩, ⟨⟨.op (.bin .rem 0 (.t 39) (.t 41)), (some 42), none⟩, .n, []⟩, ⟨⟨.op (.ia 1 none (.t 35) (.t 42)), (some 43), none⟩, .n, []⟩, ⟨⟨.op (.ld1 (.t 43)), (some 44), none⟩, .n, []⟩, ⟨⟨.op (.bin .rem 0 (.t 44) (.c (.int .u8 50))), (some 45), none⟩, .n, []⟩, ⟨⟨.op (.conv .i64 (.t 45)), (some 46), none⟩, .n, []⟩, ⟨⟨.op (.bin .add 0 (.c (.int .i64 1)) (.t 46)), (some 47), none⟩, .n, []⟩, ⟨⟨.call 5 [(.t 34), (.t 47)], (some 48), none⟩, .x, []⟩, ⟨⟨.op (.st 2 (.t 6) (.t 48)), none, none⟩, .x, []⟩])))
 [0, 1, 5, 6, 7]
 (.reg [⟨.op (.mv (.t 7)), (some 23), none⟩, ⟨.op (.bin .add 0 (.t 23) (.c (.int .i64 1))), (some 24), none⟩, ⟨.op (.mv (.t 24)), (some 7), none⟩]))) T st := rfl
noncomputable def l3_1 : DC :=
 .seq (.seq (.reg [⟨.op (.mv (.t 8)), (some 52), none⟩, ⟨.op (.bin .geq 0 (.t 52) (.c (.int .i64 0))), (some 53), none⟩])
 [0, 5, 6, 8, 53]
 (.cond (.t 53) (.skip) (.exit 2)))
 [0, 5, 6, 8]
 (.seq (.block 3 (.drw [⟨⟨.op (.ldn 2 (.t 6)), (some 56), none⟩, .n, []⟩, ⟨⟨.op (.mv (.t 0)), (some 57), none⟩, .n, []⟩, ⟨⟨.op (.mv (.t 8)), (some 58), none⟩, .n, []⟩, ⟨⟨.op (.ia 1 none (.t 57) (.t 58)), (some 59), none⟩, .n, []⟩, ⟨⟨.op (.ld1 (.t 59)), (some 60), none⟩, .n, []⟩, ⟨⟨.op (.bin .rem 0 (.t 60) (.c (.int .u8 50))), (some 61), none⟩, .n, []⟩, ⟨⟨.op (.conv .i64 (.t 61)), (some 62), none⟩, .n, []⟩, ⟨⟨.op (.bin .add 0 (.c (.int .i64 1)) (.t 62)), (some 63), none⟩, .n, []⟩, ⟨⟨.call 5 [(.t 56), (.t 63)], (some 64), none⟩, .x, []⟩, ⟨⟨.op (.st 2 (.t 6) (.t 64)), none, none⟩, .x, []⟩]))
 [0, 5, 6, 8]
 (.reg [⟨.op (.mv (.t 8)), (some 54), none⟩, ⟨.op (.bin .sub 0 (.t 54) (.c (.int .i64 1))), (some 55), none⟩, ⟨.op (.mv (.t 55)), (some 8), none⟩]))
theorem u3_1 (call : DCall) (T : Tm) (st : Dv.St) : dCw Try.prog call l3_1 T st = dCw Try.prog call
 (.seq (.seq (.reg [⟨.op (.mv (.t 8)), (some 52), none⟩, ⟨.op (.bin .geq 0 (.t 52) (.c (.int .i64 0))), (some 53), none⟩])
 [0, 5, 6, 8, 53]
 (.cond (.t 53) (.skip) (.exit 2)))
 [0, 5, 6, 8]
 (.seq (.block 3 (.drw [⟨⟨.op (.ldn 2 (.t 6)), (some 56), none⟩, .n, []⟩, ⟨⟨.op (.mv (.t 0)), (some 57), none⟩, .n, []⟩, ⟨⟨.op (.mv (.t 8)), (some 58), none⟩, .n, []⟩, ⟨⟨.op (.ia 1 none (.t 57) (.t 58)), (some 59), none⟩, .n, []⟩, ⟨⟨.op (.ld1 (.t 59)), (some 60), none⟩, .n, []⟩, ⟨⟨.op (.bin .rem 0 (.t 60) (.c (.int .u8 50))), (some 61), none⟩, .n, []⟩, ⟨⟨.op (.conv .i64 (.t 61)), (some 62), none⟩, .n, []⟩, ⟨⟨.op (.bin .add 0 (.c (.int .i64 1)) (.t 62)), (some 63), none⟩, .n, []⟩, ⟨⟨.call 5 [(.t 56), (.t 63)], (some 64), none⟩, .x, []⟩, ⟨⟨.op (.st 2 (.t 6) (.t 64)), none, none⟩, .x, []⟩]))
 [0, 5, 6, 8]
 (.reg [⟨.op (.mv (.t 8)), (some 54), none⟩, ⟨.op (.bin .sub 0 (.t 54) (.c (.int .i64 1))), (some 55), none⟩, ⟨.op (.mv (.t 55)), (some 8), none⟩]))) T st := rfl
noncomputable def l3_2 : DC :=
 .seq (.seq (.reg [⟨.op (.mv (.t 10)), (some 66), none⟩, ⟨.op (.mv (.t 0)), (some 67), none⟩, ⟨.op (.len (.t 67)), (some 68), none⟩, ⟨.op (.bin .lss 0 (.t 66) (.t 68)), (some 69), none⟩])
 [0, 5, 6, 9, 10, 69]
 (.cond (.t 69) (.skip) (.exit 4)))
 [0, 5, 6, 9, 10]
 (.seq (.block 5 (.reg [⟨.op (.mv (.t 9)), (some 72), none⟩, ⟨.op (.mv (.t 0)), (some 73), none⟩, ⟨.op (.mv (.t 10)), (some 74), none⟩, ⟨.op (.ia 1 none (.t 73) (.t 74)), (some 75), none⟩, ⟨.op (.ld1 (.t 75)), (some 76), none⟩, ⟨.op (.bin .rem 0 (.t 76) (.c (.int .u8 50))), (some 77), none⟩, ⟨.op (.conv .i64 (.t 77)), (some 78), none⟩, ⟨.op (.bin .add 0 (.c (.int .i64 1)) (.t 78)), (some 79), none⟩, ⟨.mop (.set .i64 (.t 72) (.t 79) (.c (.bool true))), none, none⟩]))
 [0, 5, 6, 9, 10]
 (.reg [⟨.op (.mv (.t 10)), (some 70), none⟩, ⟨.op (.bin .add 0 (.t 70) (.c (.int .i64 1))), (some 71), none⟩, ⟨.op (.mv (.t 71)), (some 10), none⟩]))
theorem u3_2 (call : DCall) (T : Tm) (st : Dv.St) : dCw Try.prog call l3_2 T st = dCw Try.prog call
 (.seq (.seq (.reg [⟨.op (.mv (.t 10)), (some 66), none⟩, ⟨.op (.mv (.t 0)), (some 67), none⟩, ⟨.op (.len (.t 67)), (some 68), none⟩, ⟨.op (.bin .lss 0 (.t 66) (.t 68)), (some 69), none⟩])
 [0, 5, 6, 9, 10, 69]
 (.cond (.t 69) (.skip) (.exit 4)))
 [0, 5, 6, 9, 10]
 (.seq (.block 5 (.reg [⟨.op (.mv (.t 9)), (some 72), none⟩, ⟨.op (.mv (.t 0)), (some 73), none⟩, ⟨.op (.mv (.t 10)), (some 74), none⟩, ⟨.op (.ia 1 none (.t 73) (.t 74)), (some 75), none⟩, ⟨.op (.ld1 (.t 75)), (some 76), none⟩, ⟨.op (.bin .rem 0 (.t 76) (.c (.int .u8 50))), (some 77), none⟩, ⟨.op (.conv .i64 (.t 77)), (some 78), none⟩, ⟨.op (.bin .add 0 (.c (.int .i64 1)) (.t 78)), (some 79), none⟩, ⟨.mop (.set .i64 (.t 72) (.t 79) (.c (.bool true))), none, none⟩]))
 [0, 5, 6, 9, 10]
 (.reg [⟨.op (.mv (.t 10)), (some 70), none⟩, ⟨.op (.bin .add 0 (.t 70) (.c (.int .i64 1))), (some 71), none⟩, ⟨.op (.mv (.t 71)), (some 10), none⟩]))) T st := rfl
noncomputable def l3_3 : DC :=
 .seq (.seq (.reg [⟨.op (.mv (.t 11)), (some 80), none⟩, ⟨.op (.bin .lss 0 (.t 80) (.c (.int .i64 60))), (some 81), none⟩])
 [5, 6, 9, 11, 81]
 (.cond (.t 81) (.skip) (.exit 6)))
 [5, 6, 9, 11]
 (.seq (.block 7 (.seq (.drw [⟨⟨.op (.ldn 2 (.t 5)), (some 84), none⟩, .n, []⟩, ⟨⟨.op (.mv (.t 11)), (some 85), none⟩, .n, []⟩, ⟨⟨.op (.mv (.t 9)), (some 87), none⟩, .n, []⟩, ⟨⟨.op (.mv (.t 11)), (some 88), none⟩, .n, []⟩, ⟨⟨.op (.mget .i64 (.bool false) (.t 87) (.t 88)), (some 89), none⟩, .n, []⟩, ⟨⟨.call 6 [(.t 84), (.t 85)], (some 86), none⟩, .x, [(true, 4)]⟩, ⟨⟨.op (.bin .neq 5 (.t 86) (.t 89)), (some 90), none⟩, .n, []⟩])
 [5, 6, 9, 11, 90]
 (.cond (.t 90) (.seq (.reg [⟨.op (.mv (.c (.bool false))), (some 4), none⟩])
 [4]
 (.ret)) (.skip))))
 [5, 6, 9, 11]
 (.reg [⟨.op (.mv (.t 11)), (some 82), none⟩, ⟨.op (.bin .add 0 (.t 82) (.c (.int .i64 1))), (some 83), none⟩, ⟨.op (.mv (.t 83)), (some 11), none⟩]))
theorem u3_3 (call : DCall) (T : Tm) (st : Dv.St) : dCw Try.prog call l3_3 T st = dCw Try.prog call
 (.seq (.seq (.reg [⟨.op (.mv (.t 11)), (some 80), none⟩, ⟨.op (.bin .lss 0 (.t 80) (.c (.int .i64 60))), (some 81), none⟩])
 [5, 6, 9, 11, 81]
 (.cond (.t 81) (.skip) (.exit 6)))
 [5, 6, 9, 11]
 (.seq (.block 7 (.seq (.drw [⟨⟨.op (.ldn 2 (.t 5)), (some 84), none⟩, .n, []⟩, ⟨⟨.op (.mv (.t 11)), (some 85), none⟩, .n, []⟩, ⟨⟨.op (.mv (.t 9)), (some 87), none⟩, .n, []⟩, ⟨⟨.op (.mv (.t 11)), (some 88), none⟩, .n, []⟩, ⟨⟨.op (.mget .i64 (.bool false) (.t 87) (.t 88)), (some 89), none⟩, .n, []⟩, ⟨⟨.call 6 [(.t 84), (.t 85)], (some 86), none⟩, .x, [(true, 4)]⟩, ⟨⟨.op (.bin .neq 5 (.t 86) (.t 89)), (some 90), none⟩, .n, []⟩])
 [5, 6, 9, 11, 90]
 (.cond (.t 90) (.seq (.reg [⟨.op (.mv (.c (.bool false))), (some 4), none⟩])
 [4]
 (.ret)) (.skip))))
 [5, 6, 9, 11]
 (.reg [⟨.op (.mv (.t 11)), (some 82), none⟩, ⟨.op (.bin .add 0 (.t 82) (.c (.int .i64 1))), (some 83), none⟩, ⟨.op (.mv (.t 83)), (some 11), none⟩]))) T st := rfl
/-- cardamom/cardamomlaw2.KnowOrder -/
noncomputable def c3 : DFn := ⟨105, .pure,
 .seq (.reg [⟨.op (.mv (.c (.bool false))), (some 4), none⟩])
 [0, 1]
 (.seq (.seq (.reg [⟨.call 4 [], (some 12), none⟩, ⟨.op (.not (.t 12)), (some 13), none⟩])
 [0, 1, 13]
 (.cond (.t 13) (.seq (.reg [⟨.op (.mv (.c (.bool false))), (some 4), none⟩])
 [4]
 (.ret)) (.skip)))
 [0, 1]
 (.seq (.seq (.reg [⟨.op (.mv (.t 0)), (some 14), none⟩, ⟨.op (.len (.t 14)), (some 15), none⟩, ⟨.op (.bin .gtr 0 (.t 15) (.c (.int .i64 30))), (some 16), none⟩])
 [0, 1, 16]
 (.cond (.t 16) (.seq (.reg [⟨.op (.mv (.c (.bool true))), (some 4), none⟩])
 [4]
 (.ret)) (.skip)))
 [0, 1]
 (.seq (.reg [⟨.op (.build [(.int .i64 0), (.sl none 0)] []), (some 17), none⟩, ⟨.op (.build [(.int .i64 0), (.sl none 0)] []), (some 18), none⟩, ⟨.op (.new [(.int .i64 0), (.sl none 0)]), (some 5), none⟩, ⟨.op (.new [(.int .i64 0), (.sl none 0)]), (some 6), none⟩, ⟨.op (.st 2 (.t 5) (.t 17)), none, none⟩, ⟨.op (.st 2 (.t 6) (.t 18)), none, none⟩])
 [0, 1, 5, 6]
 (.seq (.seq (.reg [⟨.op (.mv (.c (.int .i64 0))), (some 7), none⟩])
 [0, 1, 5, 6, 7]
 (.block 0 (.loop [0, 1, 5, 6, 7] (l3_0))))
 [0, 5, 6]
 (.seq (.seq (.reg [⟨.op (.mv (.t 0)), (some 49), none⟩, ⟨.op (.len (.t 49)), (some 50), none⟩, ⟨.op (.bin .sub 0 (.t 50) (.c (.int .i64 1))), (some 51), none⟩, ⟨.op (.mv (.t 51)), (some 8), none⟩])
 [0, 5, 6, 8]
 (.block 2 (.loop [0, 5, 6, 8] (l3_1))))
 [0, 5, 6]
 (.seq (.reg [⟨.mop .mk, (some 65), none⟩, ⟨.op (.mv (.t 65)), (some 9), none⟩])
 [0, 5, 6, 9]
 (.seq (.seq (.reg [⟨.op (.mv (.c (.int .i64 0))), (some 10), none⟩])
 [0, 5, 6, 9, 10]
 (.block 4 (.loop [0, 5, 6, 9, 10] (l3_2))))
 [5, 6, 9]
 (.seq (.seq (.reg [⟨.op (.mv (.c (.int .i64 0))), (some 11), none⟩])
 [5, 6, 9, 11]
 (.block 6 (.loop [5, 6, 9, 11] (l3_3))))
 [5, 6, 9]
 (.seq (.reg [⟨.op (.ldn 2 (.t 5)), (some 91), none⟩, ⟨.op (.ldn 2 (.t 6)), (some 92), none⟩, ⟨.call 7 [(.t 91), (.t 92)], (some 93), none⟩, ⟨.op (.mv (.t 93)), (some 94), none⟩, ⟨.op (.ldn 2 (.t 5)), (some 95), (some (94, true))⟩, ⟨.call 8 [(.t 95)], (some 96), (some (94, true))⟩, ⟨.op (.pick (.t 94) (.t 96) (.c (.bool false))), (some 97), none⟩, ⟨.op (.mv (.t 97)), (some 98), none⟩, ⟨.op (.ldn 2 (.t 5)), (some 99), (some (98, true))⟩, ⟨.call 9 [(.t 99)], (some 100), (some (98, true))⟩, ⟨.op (.mv (.t 9)), (some 101), (some (98, true))⟩, ⟨.mop (.len (.t 101)), (some 102), (some (98, true))⟩, ⟨.op (.bin .eql 0 (.t 100) (.t 102)), (some 103), (some (98, true))⟩, ⟨.op (.pick (.t 98) (.t 103) (.c (.bool false))), (some 104), none⟩, ⟨.op (.mv (.t 104)), (some 4), none⟩])
 [4]
 (.ret)))))))))),
 [.tmp 4]⟩
theorem k3 : cFn Try.prog 3 = some c3.toE := by kernel_rfl
theorem w3 : c3.body.wf = true := by kernel_rfl
/-- cardamom/know.Has -/
noncomputable def c6 : DFn := ⟨19, .pure,
 .seq (.reg [⟨.op (.box (.t 0)), (some 2), none⟩, ⟨.op (.mv (.c (.bool false))), (some 4), none⟩])
 [1, 2]
 (.seq (.reg [⟨.op (.mv (.t 1)), (some 5), none⟩, ⟨.op (.bin .geq 0 (.t 5) (.c (.int .i64 1))), (some 6), none⟩, ⟨.op (.mv (.t 6)), (some 7), none⟩, ⟨.op (.mv (.t 1)), (some 8), (some (7, true))⟩, ⟨.op (.fa 0 (.t 2)), (some 9), (some (7, true))⟩, ⟨.op (.ld1 (.t 9)), (some 10), (some (7, true))⟩, ⟨.op (.bin .leq 0 (.t 8) (.t 10)), (some 11), (some (7, true))⟩, ⟨.op (.pick (.t 7) (.t 11) (.c (.bool false))), (some 12), none⟩, ⟨.op (.mv (.t 12)), (some 13), none⟩, ⟨.op (.fa 1 (.t 2)), (some 14), (some (13, false))⟩, ⟨.op (.ld1 (.t 14)), (some 15), (some (13, false))⟩, ⟨.op (.mv (.t 1)), (some 16), (some (13, false))⟩, ⟨.call 14 [(.t 15), (.t 16)], (some 17), (some (13, false))⟩, ⟨.op (.pick (.t 13) (.c (.bool true)) (.t 17)), (some 18), none⟩, ⟨.op (.mv (.t 18)), (some 4), none⟩])
 [4]
 (.ret)),
 [.tmp 4]⟩
theorem k6 : cFn Try.prog 6 = some c6.toE := by kernel_rfl
theorem w6 : c6.body.wf = true := by kernel_rfl
/-- cardamom/know.May -/
noncomputable def c8 : DFn := ⟨9, .pure,
 .seq (.reg [⟨.op (.box (.t 0)), (some 1), none⟩, ⟨.op (.mv (.c (.bool false))), (some 2), none⟩])
 [1]
 (.seq (.reg [⟨.op (.ldn 2 (.t 1)), (some 3), none⟩, ⟨.call 17 [(.t 3)], (some 4), none⟩, ⟨.op (.build [] []), (some 5), none⟩, ⟨.op (.ifc 46 (.t 5)), (some 6), none⟩, ⟨.call 16 [(.t 4), (.t 6)], (some 7), none⟩, ⟨.op (.not (.t 7)), (some 8), none⟩, ⟨.op (.mv (.t 8)), (some 2), none⟩])
 [2]
 (.ret)),
 [.tmp 2]⟩
theorem k8 : cFn Try.prog 8 = some c8.toE := by kernel_rfl
theorem w8 : c8.body.wf = true := by kernel_rfl
/-- cardamom/know.Add -/
noncomputable def c5 : DFn := ⟨39, .pure,
 .seq (.reg [⟨.op (.box (.t 0)), (some 2), none⟩, ⟨.op (.new [(.int .i64 0), (.sl none 0)]), (some 4), none⟩])
 [1, 2, 4]
 (.seq (.reg [⟨.op (.fa 1 (.t 2)), (some 7), none⟩, ⟨.op (.ld1 (.t 7)), (some 8), none⟩, ⟨.call 10 [(.t 8)], (some 9), none⟩, ⟨.op (.fa 1 (.t 2)), (some 10), none⟩, ⟨.op (.st 1 (.t 10) (.t 9)), none, none⟩])
 [1, 2, 4]
 (.seq (.seq (.reg [⟨.op (.mv (.t 1)), (some 11), none⟩, ⟨.op (.bin .lss 0 (.t 11) (.c (.int .i64 1))), (some 12), none⟩, ⟨.op (.mv (.t 12)), (some 13), none⟩, ⟨.op (.mv (.t 1)), (some 14), (some (13, false))⟩, ⟨.op (.bin .gtr 0 (.t 14) (.c (.int .i64 1000000))), (some 15), (some (13, false))⟩, ⟨.op (.pick (.t 13) (.c (.bool true)) (.t 15)), (some 16), none⟩, ⟨.op (.mv (.t 16)), (some 17), none⟩, ⟨.op (.ldn 2 (.t 2)), (some 18), (some (17, false))⟩, ⟨.op (.mv (.t 1)), (some 19), (some (17, false))⟩, ⟨.call 6 [(.t 18), (.t 19)], (some 20), (some (17, false))⟩, ⟨.op (.pick (.t 17) (.c (.bool true)) (.t 20)), (some 21), none⟩])
 [1, 2, 4, 21]
 (.cond (.t 21) (.seq (.reg [⟨.op (.ldn 2 (.t 2)), (some 22), none⟩, ⟨.op (.st 2 (.t 4) (.t 22)), none, none⟩])
 [4]
 (.ret)) (.skip)))
 [1, 2, 4]
 (.seq (.reg [⟨.op (.fa 1 (.t 2)), (some 24), none⟩, ⟨.op (.ld1 (.t 24)), (some 25), none⟩, ⟨.op (.mv (.t 1)), (some 26), none⟩, ⟨.call 11 [(.t 25), (.t 26)], (some 27), none⟩, ⟨.op (.mv (.t 27)), (some 23), none⟩, ⟨.op (.ext (.t 23) 0), (some 28), none⟩, ⟨.op (.ext (.t 23) 1), (some 29), none⟩, ⟨.op (.mv (.t 28)), (some 5), none⟩, ⟨.op (.mv (.t 29)), (some 6), none⟩])
 [1, 2, 4, 5]
 (.seq (.reg [⟨.op (.fa 1 (.t 2)), (some 30), none⟩, ⟨.op (.ld1 (.t 30)), (some 31), none⟩, ⟨.op (.mv (.t 5)), (some 32), none⟩, ⟨.op (.mv (.t 1)), (some 33), none⟩, ⟨.op (.bslice 1 1 [(.int .i64 0)] [(0, 1, (.t 33))]), (some 34), none⟩, ⟨.call 12 [(.t 31), (.t 32), (.t 34)], (some 35), none⟩, ⟨.op (.fa 1 (.t 2)), (some 36), none⟩, ⟨.op (.st 1 (.t 36) (.t 35)), none, none⟩])
 [2, 4]
 (.seq (.reg [⟨.op (.ldn 2 (.t 2)), (some 37), none⟩, ⟨.call 13 [(.t 37)], (some 38), none⟩, ⟨.op (.st 2 (.t 4) (.t 38)), none, none⟩])
 [4]
 (.ret)))))),
 [.celln 2 4]⟩
theorem k5 : cFn Try.prog 5 = some c5.toE := by kernel_rfl
theorem w5 : c5.body.wf = true := by kernel_rfl
/-- cardamom/know.Count -/
noncomputable def c9 : DFn := ⟨9, .pure,
 .seq (.reg [⟨.op (.box (.t 0)), (some 1), none⟩, ⟨.op (.mv (.c (.int .i64 0))), (some 2), none⟩])
 [1]
 (.seq (.reg [⟨.op (.fa 0 (.t 1)), (some 3), none⟩, ⟨.op (.ld1 (.t 3)), (some 4), none⟩, ⟨.op (.fa 1 (.t 1)), (some 5), none⟩, ⟨.op (.ld1 (.t 5)), (some 6), none⟩, ⟨.op (.len (.t 6)), (some 7), none⟩, ⟨.op (.bin .add 0 (.t 4) (.t 7)), (some 8), none⟩, ⟨.op (.mv (.t 8)), (some 2), none⟩])
 [2]
 (.ret)),
 [.tmp 2]⟩
theorem k9 : cFn Try.prog 9 = some c9.toE := by kernel_rfl
theorem w9 : c9.body.wf = true := by kernel_rfl
noncomputable def l13_0 : DC :=
 .seq (.seq (.drw [⟨⟨.op (.mv (.t 3)), (some 7), none⟩, .n, []⟩, ⟨⟨.op (.len (.t 7)), (some 8), none⟩, .n, []⟩, ⟨⟨.op (.bin .gtr 0 (.t 8) (.c (.int .i64 0))), (some 9), none⟩, .n, []⟩, ⟨⟨.op (.mv (.t 9)), (some 10), none⟩, .n, []⟩, ⟨⟨.op (.mv (.t 3)), (some 11), (some (10, true))⟩, .n, []⟩, ⟨⟨.op (.ia 1 none (.t 11) (.c (.int .i64 0))), (some 12), (some (10, true))⟩, .n, []⟩, ⟨⟨.op (.ld1 (.t 12)), (some 13), (some (10, true))⟩, .n, []⟩, ⟨⟨.op (.fa 0 (.t 1)), (some 14), (some (10, true))⟩, .n, []⟩, ⟨⟨.op (.ld1 (.t 14)), (some 15), (some (10, true))⟩, .n, []⟩, ⟨⟨.op (.bin .add 0 (.t 15) (.c (.int .i64 1))), (some 16), (some (10, true))⟩, .n, []⟩, ⟨⟨.op (.bin .leq 0 (.t 13) (.t 16)), (some 17), (some (10, true))⟩, .n, []⟩, ⟨⟨.op (.pick (.t 10) (.t 17) (.c (.bool false))), (some 18), none⟩, .n, []⟩])
 [1, 2, 3, 18]
 (.cond (.t 18) (.skip) (.exit 0)))
 [1, 2, 3]
 (.block 1 (.drw [⟨⟨.op (.fa 0 (.t 1)), (some 19), none⟩, .n, []⟩, ⟨⟨.op (.ld1 (.t 19)), (some 20), none⟩, .n, []⟩, ⟨⟨.op (.mv (.t 3)), (some 21), none⟩, .n, []⟩, ⟨⟨.op (.ia 1 none (.t 21) (.c (.int .i64 0))), (some 22), none⟩, .n, []⟩, ⟨⟨.op (.ld1 (.t 22)), (some 23), none⟩, .n, []⟩, ⟨⟨.op (.slow (operAt Try.prog 13 23)), (some 24), none⟩, .n, []⟩, ⟨⟨.op (.mv (.t 3)), (some 25), none⟩, .n, []⟩, ⟨⟨.op (.cut 1 none (.t 25) (some (.c (.int .i64 1))) none), (some 26), none⟩, .n, []⟩, ⟨⟨.op (.fa 0 (.t 1)), (some 27), none⟩, .n, []⟩, ⟨⟨.op (.st 1 (.t 27) (.t 24)), none, none⟩, .x, [(true, 7)]⟩, ⟨⟨.op (.mv (.t 26)), (some 3), none⟩, .x, []⟩]))
theorem u13_0 (call : DCall) (T : Tm) (st : Dv.St) : dCw Try.prog call l13_0 T st = dCw Try.prog call
 (.seq (.seq (.drw [⟨⟨.op (.mv (.t 3)), (some 7), none⟩, .n, []⟩, ⟨⟨.op (.len (.t 7)), (some 8), none⟩, .n, []⟩, ⟨⟨.op (.bin .gtr 0 (.t 8) (.c (.int .i64 0))), (some 9), none⟩, .n, []⟩, ⟨⟨.op (.mv (.t 9)), (some 10), none⟩, .n, []⟩, ⟨⟨.op (.mv (.t 3)), (some 11), (some (10, true))⟩, .n, []⟩, ⟨⟨.op (.ia 1 none (.t 11) (.c (.int .i64 0))), (some 12), (some (10, true))⟩, .n, []⟩, ⟨⟨.op (.ld1 (.t 12)), (some 13), (some (10, true))⟩, .n, []⟩, ⟨⟨.op (.fa 0 (.t 1)), (some 14), (some (10, true))⟩, .n, []⟩, ⟨⟨.op (.ld1 (.t 14)), (some 15), (some (10, true))⟩, .n, []⟩, ⟨⟨.op (.bin .add 0 (.t 15) (.c (.int .i64 1))), (some 16), (some (10, true))⟩, .n, []⟩, ⟨⟨.op (.bin .leq 0 (.t 13) (.t 16)), (some 17), (some (10, true))⟩, .n, []⟩, ⟨⟨.op (.pick (.t 10) (.t 17) (.c (.bool false))), (some 18), none⟩, .n, []⟩])
 [1, 2, 3, 18]
 (.cond (.t 18) (.skip) (.exit 0)))
 [1, 2, 3]
 (.block 1 (.drw [⟨⟨.op (.fa 0 (.t 1)), (some 19), none⟩, .n, []⟩, ⟨⟨.op (.ld1 (.t 19)), (some 20), none⟩, .n, []⟩, ⟨⟨.op (.mv (.t 3)), (some 21), none⟩, .n, []⟩, ⟨⟨.op (.ia 1 none (.t 21) (.c (.int .i64 0))), (some 22), none⟩, .n, []⟩, ⟨⟨.op (.ld1 (.t 22)), (some 23), none⟩, .n, []⟩, ⟨⟨.op (.slow (operAt Try.prog 13 23)), (some 24), none⟩, .n, []⟩, ⟨⟨.op (.mv (.t 3)), (some 25), none⟩, .n, []⟩, ⟨⟨.op (.cut 1 none (.t 25) (some (.c (.int .i64 1))) none), (some 26), none⟩, .n, []⟩, ⟨⟨.op (.fa 0 (.t 1)), (some 27), none⟩, .n, []⟩, ⟨⟨.op (.st 1 (.t 27) (.t 24)), none, none⟩, .x, [(true, 7)]⟩, ⟨⟨.op (.mv (.t 26)), (some 3), none⟩, .x, []⟩]))) T st := rfl
/-- cardamom/know.whole -/
noncomputable def c13 : DFn := ⟨31, .pure,
 .seq (.reg [⟨.op (.box (.t 0)), (some 1), none⟩, ⟨.op (.new [(.int .i64 0), (.sl none 0)]), (some 2), none⟩])
 [1, 2]
 (.seq (.reg [⟨.op (.fa 1 (.t 1)), (some 4), none⟩, ⟨.op (.ld1 (.t 4)), (some 5), none⟩, ⟨.call 10 [(.t 5)], (some 6), none⟩, ⟨.op (.mv (.t 6)), (some 3), none⟩])
 [1, 2, 3]
 (.seq (.block 0 (.loop [1, 2, 3] (l13_0)))
 [1, 2, 3]
 (.seq (.reg [⟨.op (.mv (.t 3)), (some 28), none⟩, ⟨.op (.fa 1 (.t 1)), (some 29), none⟩, ⟨.op (.st 1 (.t 29) (.t 28)), none, none⟩])
 [1, 2]
 (.seq (.reg [⟨.op (.ldn 2 (.t 1)), (some 30), none⟩, ⟨.op (.st 2 (.t 2) (.t 30)), none, none⟩])
 [2]
 (.ret))))),
 [.celln 2 2]⟩
theorem k13 : cFn Try.prog 13 = some c13.toE := by kernel_rfl
theorem w13 : c13.body.wf = true := by kernel_rfl
noncomputable def l17_0 : DC :=
 .seq (.reg [⟨.op (.bin .lss 0 (.t 28) (.t 27)), (some 29), none⟩])
 [3, 26, 27, 28, 29]
 (.seq (.cond (.t 29) (.skip) (.exit 0))
 [3, 26, 27, 28]
 (.seq (.block 1 (.seq (.reg [⟨.op (.ia 1 none (.t 26) (.t 28)), (some 30), none⟩, ⟨.op (.ld1 (.t 30)), (some 31), none⟩, ⟨.op (.mv (.t 31)), (some 5), none⟩])
 [3, 5, 26, 27, 28]
 (.seq (.seq (.reg [⟨.op (.mv (.t 5)), (some 32), none⟩, ⟨.op (.mv (.t 3)), (some 33), none⟩, ⟨.op (.bin .leq 0 (.t 32) (.t 33)), (some 34), none⟩, ⟨.op (.mv (.t 34)), (some 35), none⟩, ⟨.op (.mv (.t 5)), (some 36), (some (35, false))⟩, ⟨.op (.bin .gtr 0 (.t 36) (.c (.int .i64 1000000))), (some 37), (some (35, false))⟩, ⟨.op (.pick (.t 35) (.c (.bool true)) (.t 37)), (some 38), none⟩])
 [5, 26, 27, 28, 38]
 (.cond (.t 38) (.seq (.reg [⟨.op (.build [] []), (some 39), none⟩, ⟨.op (.ifc 46 (.t 39)), (some 40), none⟩, ⟨.op (.build [.nilifc] [(0, 1, (.t 40))]), (some 41), none⟩, ⟨.op (.ifc 57 (.t 41)), (some 42), none⟩, ⟨.op (.mv (.t 42)), (some 2), none⟩])
 [2]
 (.ret)) (.skip)))
 [5, 26, 27, 28]
 (.reg [⟨.op (.mv (.t 5)), (some 43), none⟩, ⟨.op (.mv (.t 43)), (some 3), none⟩]))))
 [3, 26, 27, 28]
 (.reg [⟨.op (.bin .add 0 (.t 28) (.c (.int .i64 1))), (some 44), none⟩, ⟨.op (.mv (.t 44)), (some 28), none⟩])))
theorem u17_0 (call : DCall) (T : Tm) (st : Dv.St) : dCw Try.prog call l17_0 T st = dCw Try.prog call
 (.seq (.reg [⟨.op (.bin .lss 0 (.t 28) (.t 27)), (some 29), none⟩])
 [3, 26, 27, 28, 29]
 (.seq (.cond (.t 29) (.skip) (.exit 0))
 [3, 26, 27, 28]
 (.seq (.block 1 (.seq (.reg [⟨.op (.ia 1 none (.t 26) (.t 28)), (some 30), none⟩, ⟨.op (.ld1 (.t 30)), (some 31), none⟩, ⟨.op (.mv (.t 31)), (some 5), none⟩])
 [3, 5, 26, 27, 28]
 (.seq (.seq (.reg [⟨.op (.mv (.t 5)), (some 32), none⟩, ⟨.op (.mv (.t 3)), (some 33), none⟩, ⟨.op (.bin .leq 0 (.t 32) (.t 33)), (some 34), none⟩, ⟨.op (.mv (.t 34)), (some 35), none⟩, ⟨.op (.mv (.t 5)), (some 36), (some (35, false))⟩, ⟨.op (.bin .gtr 0 (.t 36) (.c (.int .i64 1000000))), (some 37), (some (35, false))⟩, ⟨.op (.pick (.t 35) (.c (.bool true)) (.t 37)), (some 38), none⟩])
 [5, 26, 27, 28, 38]
 (.cond (.t 38) (.seq (.reg [⟨.op (.build [] []), (some 39), none⟩, ⟨.op (.ifc 46 (.t 39)), (some 40), none⟩, ⟨.op (.build [.nilifc] [(0, 1, (.t 40))]), (some 41), none⟩, ⟨.op (.ifc 57 (.t 41)), (some 42), none⟩, ⟨.op (.mv (.t 42)), (some 2), none⟩])
 [2]
 (.ret)) (.skip)))
 [5, 26, 27, 28]
 (.reg [⟨.op (.mv (.t 5)), (some 43), none⟩, ⟨.op (.mv (.t 43)), (some 3), none⟩]))))
 [3, 26, 27, 28]
 (.reg [⟨.op (.bin .add 0 (.t 28) (.c (.int .i64 1))), (some 44), none⟩, ⟨.op (.mv (.t 44)), (some 28), none⟩])))) T st := rfl
/-- cardamom/know.check -/
noncomputable def c17 : DFn := ⟨45, .pure,
 .seq (.reg [⟨.op (.box (.t 0)), (some 1), none⟩, ⟨.op (.mv (.c .nilifc)), (some 2), none⟩])
 [1]
 (.seq (.reg [⟨.op (.fa 0 (.t 1)), (some 6), none⟩, ⟨.op (.ld1 (.t 6)), (some 7), none⟩, ⟨.op (.bin .add 0 (.t 7) (.c (.int .i64 1))), (some 8), none⟩, ⟨.op (.mv (.t 8)), (some 3), none⟩])
 [1, 3]
 (.seq (.seq (.reg [⟨.op (.fa 0 (.t 1)), (some 9), none⟩, ⟨.op (.ld1 (.t 9)), (some 10), none⟩, ⟨.op (.bin .lss 0 (.t 10) (.c (.int .i64 0))), (some 11), none⟩, ⟨.op (.mv (.t 11)), (some 12), none⟩, ⟨.op (.fa 0 (.t 1)), (some 13), (some (12, false))⟩, ⟨.op (.ld1 (.t 13)), (some 14), (some (12, false))⟩, ⟨.op (.bin .gtr 0 (.t 14) (.c (.int .i64 1000000))), (some 15), (some (12, false))⟩, ⟨.op (.pick (.t 12) (.c (.bool true)) (.t 15)), (some 16), none⟩, ⟨.op (.mv (.t 16)), (some 17), none⟩, ⟨.op (.fa 1 (.t 1)), (some 18), (some (17, false))⟩, ⟨.op (.ld1 (.t 18)), (some 19), (some (17, false))⟩, ⟨.op (.len (.t 19)), (some 20), (some (17, false))⟩, ⟨.op (.bin .gtr 0 (.t 20) (.c (.int .i64 60))), (some 21), (some (17, false))⟩, ⟨.op (.pick (.t 17) (.c (.bool true)) (.t 21)), (some 22), none⟩])
 [1, 3, 22]
 (.cond (.t 22) (.seq (.reg [⟨.op (.build [] []), (some 23), none⟩, ⟨.op (.ifc 46 (.t 23)), (some 24), none⟩, ⟨.op (.mv (.t 24)), (some 2), none⟩])
 [2]
 (.ret)) (.skip)))
 [1, 3]
 (.seq (.seq (.reg [⟨.op (.fa 1 (.t 1)), (some 25), none⟩, ⟨.op (.ld1 (.t 25)), (some 26), none⟩, ⟨.op (.len (.t 26)), (some 27), none⟩, ⟨.op (.mv (.c (.int .i64 0))), (some 28), none⟩])
 [3, 26, 27, 28]
 (.block 0 (.loop [3, 26, 27, 28] (l17_0))))
 []
 (.seq (.reg [⟨.op (.mv (.c .nilifc)), (some 2), none⟩])
 [2]
 (.ret))))),
 [.tmp 2]⟩
theorem k17 : cFn Try.prog 17 = some c17.toE := by kernel_rfl
theorem w17 : c17.body.wf = true := by kernel_rfl
/-- cardamom/cardamomref1.SameKnow -/
noncomputable def c7 : DFn := ⟨17, .pure,
 .seq (.reg [⟨.op (.box (.t 0)), (some 2), none⟩, ⟨.op (.box (.t 1)), (some 3), none⟩, ⟨.op (.mv (.c (.bool false))), (some 4), none⟩])
 [2, 3]
 (.seq (.reg [⟨.op (.fa 0 (.t 2)), (some 5), none⟩, ⟨.op (.ld1 (.t 5)), (some 6), none⟩, ⟨.op (.fa 0 (.t 3)), (some 7), none⟩, ⟨.op (.ld1 (.t 7)), (some 8), none⟩, ⟨.op (.bin .eql 0 (.t 6) (.t 8)), (some 9), none⟩, ⟨.op (.mv (.t 9)), (some 10), none⟩, ⟨.op (.fa 1 (.t 2)), (some 11), (some (10, true))⟩, ⟨.op (.ld1 (.t 11)), (some 12), (some (10, true))⟩, ⟨.op (.fa 1 (.t 3)), (some 13), (some (10, true))⟩, ⟨.op (.ld1 (.t 13)), (some 14), (some (10, true))⟩, ⟨.call 15 [(.t 12), (.t 14)], (some 15), (some (10, true))⟩, ⟨.op (.pick (.t 10) (.t 15) (.c (.bool false))), (some 16), none⟩, ⟨.op (.mv (.t 16)), (some 4), none⟩])
 [4]
 (.ret)),
 [.tmp 4]⟩
theorem k7 : cFn Try.prog 7 = some c7.toE := by kernel_rfl
theorem w7 : c7.body.wf = true := by kernel_rfl
noncomputable def l15_0 : DC :=
 .seq (.seq (.reg [⟨.op (.mv (.t 5)), (some 11), none⟩, ⟨.op (.mv (.t 0)), (some 12), none⟩, ⟨.op (.len (.t 12)), (some 13), none⟩, ⟨.op (.bin .lss 0 (.t 11) (.t 13)), (some 14), none⟩])
 [0, 1, 5, 14]
 (.cond (.t 14) (.skip) (.exit 0)))
 [0, 1, 5]
 (.seq (.block 1 (.seq (.drw [⟨⟨.op (.mv (.t 0)), (some 17), none⟩, .n, []⟩, ⟨⟨.op (.mv (.t 5)), (some 18), none⟩, .n, []⟩, ⟨⟨.op (.ia 1 none (.t 17) (.t 18)), (some 19), none⟩, .n, []⟩, ⟨⟨.op (.ld1 (.t 19)), (some 20), none⟩, .n, []⟩, ⟨⟨.op (.mv (.t 1)), (some 21), none⟩, .n, []⟩, ⟨⟨.op (.mv (.t 5)), (some 22), none⟩, .n, []⟩, ⟨⟨.op (.ia 1 none (.t 21) (.t 22)), (some 23), none⟩, .n, []⟩, ⟨⟨.op (.ld1 (.t 23)), (some 24), none⟩, .n, []⟩, ⟨⟨.op (.bin .neq 0 (.t 20) (.t 24)), (some 25), none⟩, .n, []⟩])
 [0, 1, 5, 25]
 (.cond (.t 25) (.seq (.reg [⟨.op (.mv (.c (.bool false))), (some 4), none⟩])
 [4]
 (.ret)) (.skip))))
 [0, 1, 5]
 (.reg [⟨.op (.mv (.t 5)), (some 15), none⟩, ⟨.op (.bin .add 0 (.t 15) (.c (.int .i64 1))), (some 16), none⟩, ⟨.op (.mv (.t 16)), (some 5), none⟩]))
theorem u15_0 (call : DCall) (T : Tm) (st : Dv.St) : dCw Try.prog call l15_0 T st = dCw Try.prog call
 (.seq (.seq (.reg [⟨.op (.mv (.t 5)), (some 11), none⟩, ⟨.op (.mv (.t 0)), (some 12), none⟩, ⟨.op (.len (.t 12)), (some 13), none⟩, ⟨.op (.bin .lss 0 (.t 11) (.t 13)), (some 14), none⟩])
 [0, 1, 5, 14]
 (.cond (.t 14) (.skip) (.exit 0)))
 [0, 1, 5]
 (.seq (.block 1 (.seq (.drw [⟨⟨.op (.mv (.t 0)), (some 17), none⟩, .n, []⟩, ⟨⟨.op (.mv (.t 5)), (some 18), none⟩, .n, []⟩, ⟨⟨.op (.ia 1 none (.t 17) (.t 18)), (some 19), none⟩, .n, []⟩, ⟨⟨.op (.ld1 (.t 19)), (some 20), none⟩, .n, []⟩, ⟨⟨.op (.mv (.t 1)), (some 21), none⟩, .n, []⟩, ⟨⟨.op (.mv (.t 5)), (some 22), none⟩, .n, []⟩, ⟨⟨.op (.ia 1 none (.t 21) (.t 22)), (some 23), none⟩, .n, []⟩, ⟨⟨.op (.ld1 (.t 23)), (some 24), none⟩, .n, []⟩, ⟨⟨.op (.bin .neq 0 (.t 20) (.t 24)), (some 25), none⟩, .n, []⟩])
 [0, 1, 5, 25]
 (.cond (.t 25) (.seq (.reg [⟨.op (.mv (.c (.bool false))), (some 4), none⟩])
 [4]
 (.ret)) (.skip))))
 [0, 1, 5]
 (.reg [⟨.op (.mv (.t 5)), (some 15), none⟩, ⟨.op (.bin .add 0 (.t 15) (.c (.int .i64 1))), (some 16), none⟩, ⟨.op (.mv (.t 16)), (some 5), none⟩]))) T st := rfl
/-- cardamom/cardamomref1.sameInts -/
noncomputable def c15 : DFn := ⟨26, .pure,
 .seq (.reg [⟨.op (.mv (.c (.bool false))), (some 4), none⟩])
 [0, 1]
 (.seq (.seq (.reg [⟨.op (.mv (.t 0)), (some 6), none⟩, ⟨.op (.len (.t 6)), (some 7), none⟩, ⟨.op (.mv (.t 1)), (some 8), none⟩, ⟨.op (.len (.t 8)), (some 9), none⟩, ⟨.op (.bin .neq 0 (.t 7) (.t 9)), (some 10), none⟩])
 [0, 1, 10]
 (.cond (.t 10) (.seq (.reg [⟨.op (.mv (.c (.bool false))), (some 4), none⟩])
 [4]
 (.ret)) (.skip)))
 [0, 1]
 (.seq (.seq (.reg [⟨.op (.mv (.c (.int .i64 0))), (some 5), none⟩])
 [0, 1, 5]
 (.block 0 (.loop [0, 1, 5] (l15_0))))
 []
 (.seq (.reg [⟨.op (.mv (.c (.bool true))), (some 4), none⟩])
 [4]
 (.ret)))),
 [.tmp 4]⟩
theorem k15 : cFn Try.prog 15 = some c15.toE := by kernel_rfl
theorem w15 : c15.body.wf = true := by kernel_rfl
/-- slices.Contains[[]int,int] -/
noncomputable def c14 : DFn := ⟨9, .pure,
 .seq (.reg [⟨.op (.mv (.c (.bool false))), (some 4), none⟩])
 [0, 1]
 (.seq (.reg [⟨.op (.mv (.t 0)), (some 5), none⟩, ⟨.op (.mv (.t 1)), (some 6), none⟩, ⟨.call 22 [(.t 5), (.t 6)], (some 7), none⟩, ⟨.op (.bin .geq 0 (.t 7) (.c (.int .i64 0))), (some 8), none⟩, ⟨.op (.mv (.t 8)), (some 4), none⟩])
 [4]
 (.ret)),
 [.tmp 4]⟩
theorem k14 : cFn Try.prog 14 = some c14.toE := by kernel_rfl
theorem w14 : c14.body.wf = true := by kernel_rfl
noncomputable def l22_0 : DC :=
 .seq (.reg [⟨.op (.bin .lss 0 (.t 8) (.t 7)), (some 9), none⟩])
 [0, 1, 7, 8, 9]
 (.seq (.cond (.t 9) (.skip) (.exit 0))
 [0, 1, 7, 8]
 (.seq (.block 1 (.seq (.reg [⟨.op (.mv (.t 8)), (some 10), none⟩, ⟨.op (.mv (.t 10)), (some 5), none⟩])
 [0, 1, 5, 7, 8]
 (.seq (.reg [⟨.op (.mv (.t 1)), (some 11), none⟩, ⟨.op (.mv (.t 0)), (some 12), none⟩, ⟨.op (.mv (.t 5)), (some 13), none⟩, ⟨.op (.ia 1 none (.t 12) (.t 13)), (some 14), none⟩, ⟨.op (.ld1 (.t 14)), (some 15), none⟩, ⟨.op (.bin .eql 0 (.t 11) (.t 15)), (some 16), none⟩])
 [0, 1, 5, 7, 8, 16]
 (.cond (.t 16) (.seq (.reg [⟨.op (.mv (.t 5)), (some 17), none⟩, ⟨.op (.mv (.t 17)), (some 4), none⟩])
 [4]
 (.ret)) (.skip)))))
 [0, 1, 7, 8]
 (.reg [⟨.op (.bin .add 0 (.t 8) (.c (.int .i64 1))), (some 18), none⟩, ⟨.op (.mv (.t 18)), (some 8), none⟩])))
theorem u22_0 (call : DCall) (T : Tm) (st : Dv.St) : dCw Try.prog call l22_0 T st = dCw Try.prog call
 (.seq (.reg [⟨.op (.bin .lss 0 (.t 8) (.t 7)), (some 9), none⟩])
 [0, 1, 7, 8, 9]
 (.seq (.cond (.t 9) (.skip) (.exit 0))
 [0, 1, 7, 8]
 (.seq (.block 1 (.seq (.reg [⟨.op (.mv (.t 8)), (some 10), none⟩, ⟨.op (.mv (.t 10)), (some 5), none⟩])
 [0, 1, 5, 7, 8]
 (.seq (.reg [⟨.op (.mv (.t 1)), (some 11), none⟩, ⟨.op (.mv (.t 0)), (some 12), none⟩, ⟨.op (.mv (.t 5)), (some 13), none⟩, ⟨.op (.ia 1 none (.t 12) (.t 13)), (some 14), none⟩, ⟨.op (.ld1 (.t 14)), (some 15), none⟩, ⟨.op (.bin .eql 0 (.t 11) (.t 15)), (some 16), none⟩])
 [0, 1, 5, 7, 8, 16]
 (.cond (.t 16) (.seq (.reg [⟨.op (.mv (.t 5)), (some 17), none⟩, ⟨.op (.mv (.t 17)), (some 4), none⟩])
 [4]
 (.ret)) (.skip)))))
 [0, 1, 7, 8]
 (.reg [⟨.op (.bin .add 0 (.t 8) (.c (.int .i64 1))), (some 18), none⟩, ⟨.op (.mv (.t 18)), (some 8), none⟩])))) T st := rfl
/-- slices.Index[[]int,int] -/
noncomputable def c22 : DFn := ⟨19, .pure,
 .seq (.reg [⟨.op (.mv (.c (.int .i64 0))), (some 4), none⟩])
 [0, 1]
 (.seq (.seq (.reg [⟨.op (.mv (.t 0)), (some 6), none⟩, ⟨.op (.len (.t 6)), (some 7), none⟩, ⟨.op (.mv (.c (.int .i64 0))), (some 8), none⟩])
 [0, 1, 7, 8]
 (.block 0 (.loop [0, 1, 7, 8] (l22_0))))
 []
 (.seq (.reg [⟨.op (.mv (.c (.int .i64 (-1)))), (some 4), none⟩])
 [4]
 (.ret))),
 [.tmp 4]⟩
theorem k22 : cFn Try.prog 22 = some c22.toE := by kernel_rfl
theorem w22 : c22.body.wf = true := by kernel_rfl
/-- errors.Is -/
noncomputable def c16 : DFn := ⟨22, .pure,
 .seq (.reg [⟨.op (.mv (.c (.bool false))), (some 4), none⟩])
 [0, 1]
 (.seq (.seq (.reg [⟨.op (.mv (.t 0)), (some 6), none⟩, ⟨.op (.bin .eql 4 (.t 6) (.c .nilifc)), (some 7), none⟩, ⟨.op (.mv (.t 7)), (some 8), none⟩, ⟨.op (.mv (.t 1)), (some 9), (some (8, false))⟩, ⟨.op (.bin .eql 4 (.t 9) (.c .nilifc)), (some 10), (some (8, false))⟩, ⟨.op (.pick (.t 8) (.c (.bool true)) (.t 10)), (some 11), none⟩])
 [0, 1, 11]
 (.cond (.t 11) (.seq (.reg [⟨.op (.mv (.t 0)), (some 12), none⟩, ⟨.op (.mv (.t 1)), (some 13), none⟩, ⟨.op (.slow (operAt Try.prog 16 9)), (some 14), none⟩, ⟨.op (.mv (.t 14)), (some 4), none⟩])
 [4]
 (.ret)) (.skip)))
 [0, 1]
 (.seq (.reg [⟨.op (.mv (.t 1)), (some 15), none⟩, ⟨.ext (operAt Try.prog 16 12), (some 16), none⟩, ⟨.inv (.t 16) "Comparable" [] (operAt Try.prog 16 13), (some 17), none⟩, ⟨.op (.mv (.t 17)), (some 5), none⟩])
 [0, 1, 5]
 (.seq (.reg [⟨.op (.mv (.t 0)), (some 18), none⟩, ⟨.op (.mv (.t 1)), (some 19), none⟩, ⟨.op (.mv (.t 5)), (some 20), none⟩, ⟨.call 24 [(.t 18), (.t 19), (.t 20)], (some 21), none⟩, ⟨.op (.mv (.t 21)), (some 4), none⟩])
 [4]
 (.ret)))),
 [.tmp 4]⟩
theorem k16 : cFn Try.prog 16 = some c16.toE := by kernel_rfl
theorem w16 : c16.body.wf = true := by kernel_rfl
/-- slices.Clone[[]int,int] -/
noncomputable def c10 : DFn := ⟨8, .pure,
 .seq (.reg [⟨.op (.mv (.c (.sl none 0))), (some 2), none⟩])
 [0]
 (.seq (.seq (.reg [⟨.op (.mv (.t 0)), (some 3), none⟩, ⟨.op (.bin .eql 1 (.t 3) (.c (.sl none 0))), (some 4), none⟩])
 [0, 4]
 (.cond (.t 4) (.seq (.reg [⟨.op (.mv (.c (.sl none 0))), (some 2), none⟩])
 [2]
 (.ret)) (.skip)))
 [0]
 (.seq (.reg [⟨.op (.bslice 1 0 [] []), (some 5), none⟩, ⟨.op (.mv (.t 0)), (some 6), none⟩, ⟨.op (.app 1 8 false (.t 5) (.t 6)), (some 7), none⟩, ⟨.op (.mv (.t 7)), (some 2), none⟩])
 [2]
 (.ret))),
 [.tmp 2]⟩
theorem k10 : cFn Try.prog 10 = some c10.toE := by kernel_rfl
theorem w10 : c10.body.wf = true := by kernel_rfl
noncomputable def l11_0 : DC :=
 .seq (.seq (.reg [⟨.op (.mv (.t 7)), (some 13), none⟩, ⟨.op (.mv (.t 8)), (some 14), none⟩, ⟨.op (.bin .lss 0 (.t 13) (.t 14)), (some 15), none⟩])
 [0, 1, 6, 7, 8, 15]
 (.cond (.t 15) (.skip) (.exit 0)))
 [0, 1, 6, 7, 8]
 (.block 1 (.seq (.reg [⟨.op (.mv (.t 7)), (some 16), none⟩, ⟨.op (.mv (.t 8)), (some 17), none⟩, ⟨.op (.bin .add 0 (.t 16) (.t 17)), (some 18), none⟩, ⟨.op (.conv .u64 (.t 18)), (some 19), none⟩, ⟨.op (.slow (operAt Try.prog 11 15)), (some 20), none⟩, ⟨.op (.conv .i64 (.t 20)), (some 21), none⟩, ⟨.op (.mv (.t 21)), (some 9), none⟩])
 [0, 1, 6, 7, 8, 9]
 (.seq (.reg [⟨.op (.mv (.t 0)), (some 22), none⟩, ⟨.op (.mv (.t 9)), (some 23), none⟩, ⟨.op (.ia 1 none (.t 22) (.t 23)), (some 24), none⟩, ⟨.op (.ld1 (.t 24)), (some 25), none⟩, ⟨.op (.mv (.t 1)), (some 26), none⟩, ⟨.call 18 [(.t 25), (.t 26)], (some 27), none⟩])
 [0, 1, 6, 7, 8, 9, 27]
 (.cond (.t 27) (.reg [⟨.op (.mv (.t 9)), (some 28), none⟩, ⟨.op (.bin .add 0 (.t 28) (.c (.int .i64 1))), (some 29), none⟩, ⟨.op (.mv (.t 29)), (some 7), none⟩]) (.reg [⟨.op (.mv (.t 9)), (some 30), none⟩, ⟨.op (.mv (.t 30)), (some 8), none⟩])))))
theorem u11_0 (call : DCall) (T : Tm) (st : Dv.St) : dCw Try.prog call l11_0 T st = dCw Try.prog call
 (.seq (.seq (.reg [⟨.op (.mv (.t 7)), (some 13), none⟩, ⟨.op (.mv (.t 8)), (some 14), none⟩, ⟨.op (.bin .lss 0 (.t 13) (.t 14)), (some 15), none⟩])
 [0, 1, 6, 7, 8, 15]
 (.cond (.t 15) (.skip) (.exit 0)))
 [0, 1, 6, 7, 8]
 (.block 1 (.seq (.reg [⟨.op (.mv (.t 7)), (some 16), none⟩, ⟨.op (.mv (.t 8)), (some 17), none⟩, ⟨.op (.bin .add 0 (.t 16) (.t 17)), (some 18), none⟩, ⟨.op (.conv .u64 (.t 18)), (some 19), none⟩, ⟨.op (.slow (operAt Try.prog 11 15)), (some 20), none⟩, ⟨.op (.conv .i64 (.t 20)), (some 21), none⟩, ⟨.op (.mv (.t 21)), (some 9), none⟩])
 [0, 1, 6, 7, 8, 9]
 (.seq (.reg [⟨.op (.mv (.t 0)), (some 22), none⟩, ⟨.op (.mv (.t 9)), (some 23), none⟩, ⟨.op (.ia 1 none (.t 22) (.t 23)), (some 24), none⟩, ⟨.op (.ld1 (.t 24)), (some 25), none⟩, ⟨.op (.mv (.t 1)), (some 26), none⟩, ⟨.call 18 [(.t 25), (.t 26)], (some 27), none⟩])
 [0, 1, 6, 7, 8, 9, 27]
 (.cond (.t 27) (.reg [⟨.op (.mv (.t 9)), (some 28), none⟩, ⟨.op (.bin .add 0 (.t 28) (.c (.int .i64 1))), (some 29), none⟩, ⟨.op (.mv (.t 29)), (some 7), none⟩]) (.reg [⟨.op (.mv (.t 9)), (some 30), none⟩, ⟨.op (.mv (.t 30)), (some 8), none⟩])))))) T st := rfl
/-- slices.BinarySearch[[]int,int] -/
noncomputable def c11 : DFn := ⟨54, .pure,
 .seq (.reg [⟨.op (.mv (.c (.int .i64 0))), (some 4), none⟩, ⟨.op (.mv (.c (.bool false))), (some 5), none⟩])
 [0, 1]
 (.seq (.reg [⟨.op (.mv (.t 0)), (some 10), none⟩, ⟨.op (.len (.t 10)), (some 11), none⟩, ⟨.op (.mv (.t 11)), (some 6), none⟩])
 [0, 1, 6]
 (.seq (.reg [⟨.op (.mv (.t 6)), (some 12), none⟩, ⟨.op (.mv (.c (.int .i64 0))), (some 7), none⟩, ⟨.op (.mv (.t 12)), (some 8), none⟩])
 [0, 1, 6, 7, 8]
 (.seq (.block 0 (.loop [0, 1, 6, 7, 8] (l11_0)))
 [0, 1, 6, 7]
 (.seq (.reg [⟨.op (.mv (.t 7)), (some 31), none⟩, ⟨.op (.mv (.t 7)), (some 32), none⟩, ⟨.op (.mv (.t 6)), (some 33), none⟩, ⟨.op (.bin .lss 0 (.t 32) (.t 33)), (some 34), none⟩, ⟨.op (.mv (.t 34)), (some 35), none⟩, ⟨.op (.mv (.t 0)), (some 36), (some (35, true))⟩, ⟨.op (.mv (.t 7)), (some 37), (some (35, true))⟩, ⟨.op (.ia 1 none (.t 36) (.t 37)), (some 38), (some (35, true))⟩, ⟨.op (.ld1 (.t 38)), (some 39), (some (35, true))⟩, ⟨.op (.mv (.t 1)), (some 40), (some (35, true))⟩, ⟨.op (.bin .eql 0 (.t 39) (.t 40)), (some 41), (some (35, true))⟩, ⟨.op (.mv (.t 41)), (some 42), (some (35, true))⟩, ⟨.op (.mv (.t 0)), (some 43), (some (42, false))⟩, ⟨.op (.mv (.t 7)), (some 44), (some (42, false))⟩, ⟨.op (.ia 1 none (.t 43) (.t 44)), (some 45), (some (42, false))⟩, ⟨.op (.ld1 (.t 45)), (some 46), (some (42, false))⟩, ⟨.call 19 [(.t 46)], (some 47), (some (42, false))⟩, ⟨.op (.mv (.t 47)), (some 48), (some (42, false))⟩, ⟨.op (.mv (.t 1)), (some 49), (some (48, true))⟩, ⟨.call 19 [(.t 49)], (some 50), (some (48, true))⟩, ⟨.op (.pick (.t 48) (.t 50) (.c (.bool false))), (some 51), (some (42, false))⟩, ⟨.op (.pick (.t 42) (.c (.bool true)) (.t 51)), (some 52), (some (35, true))⟩, ⟨.op (.pick (.t 35) (.t 52) (.c (.bool false))), (some 53), none⟩, ⟨.op (.mv (.t 31)), (some 4), none⟩, ⟨.op (.mv (.t 53)), (some 5), none⟩])
 [4, 5]
 (.ret))))),
 [.tmp 4, .tmp 5]⟩
theorem k11 : cFn Try.prog 11 = some c11.toE := by kernel_rfl
theorem w11 : c11.body.wf = true := by kernel_rfl
/-- cmp.Less[int] -/
noncomputable def c18 : DFn := ⟨17, .pure,
 .seq (.reg [⟨.op (.mv (.c (.bool false))), (some 4), none⟩])
 [0, 1]
 (.seq (.reg [⟨.op (.mv (.t 0)), (some 5), none⟩, ⟨.call 25 [(.t 5)], (some 6), none⟩, ⟨.op (.mv (.t 6)), (some 7), none⟩, ⟨.op (.mv (.t 1)), (some 8), (some (7, true))⟩, ⟨.call 25 [(.t 8)], (some 9), (some (7, true))⟩, ⟨.op (.not (.t 9)), (some 10), (some (7, true))⟩, ⟨.op (.pick (.t 7) (.t 10) (.c (.bool false))), (some 11), none⟩, ⟨.op (.mv (.t 11)), (some 12), none⟩, ⟨.op (.mv (.t 0)), (some 13), (some (12, false))⟩, ⟨.op (.mv (.t 1)), (some 14), (some (12, false))⟩, ⟨.op (.bin .lss 0 (.t 13) (.t 14)), (some 15), (some (12, false))⟩, ⟨.op (.pick (.t 12) (.c (.bool true)) (.t 15)), (some 16), none⟩, ⟨.op (.mv (.t 16)), (some 4), none⟩])
 [4]
 (.ret)),
 [.tmp 4]⟩
theorem k18 : cFn Try.prog 18 = some c18.toE := by kernel_rfl
theorem w18 : c18.body.wf = true := by kernel_rfl
/-- slices.isNaN[int] -/
noncomputable def c19 : DFn := ⟨6, .pure,
 .seq (.reg [⟨.op (.mv (.c (.bool false))), (some 2), none⟩])
 [0]
 (.seq (.reg [⟨.op (.mv (.t 0)), (some 3), none⟩, ⟨.op (.mv (.t 0)), (some 4), none⟩, ⟨.op (.bin .neq 0 (.t 3) (.t 4)), (some 5), none⟩, ⟨.op (.mv (.t 5)), (some 2), none⟩])
 [2]
 (.ret)),
 [.tmp 2]⟩
theorem k19 : cFn Try.prog 19 = some c19.toE := by kernel_rfl
theorem w19 : c19.body.wf = true := by kernel_rfl
/-- cmp.isNaN[int] -/
noncomputable def c25 : DFn := ⟨6, .pure,
 .seq (.reg [⟨.op (.mv (.c (.bool false))), (some 2), none⟩])
 [0]
 (.seq (.reg [⟨.op (.mv (.t 0)), (some 3), none⟩, ⟨.op (.mv (.t 0)), (some 4), none⟩, ⟨.op (.bin .neq 0 (.t 3) (.t 4)), (some 5), none⟩, ⟨.op (.mv (.t 5)), (some 2), none⟩])
 [2]
 (.ret)),
 [.tmp 2]⟩
theorem k25 : cFn Try.prog 25 = some c25.toE := by kernel_rfl
theorem w25 : c25.body.wf = true := by kernel_rfl
def tbl : Nat → Option DFn := fun f => bif Nat.beq f 3 then some c3 else bif Nat.beq f 6 then some c6 else bif Nat.beq f 8 then some c8 else bif Nat.beq f 5 then some c5 else bif Nat.beq f 9 then some c9 else bif Nat.beq f 13 then some c13 else bif Nat.beq f 17 then some c17 else bif Nat.beq f 7 then some c7 else bif Nat.beq f 15 then some c15 else bif Nat.beq f 14 then some c14 else bif Nat.beq f 22 then some c22 else bif Nat.beq f 16 then some c16 else bif Nat.beq f 11 then some c11 else bif Nat.beq f 18 then some c18 else bif Nat.beq f 19 then some c19 else bif Nat.beq f 25 then some c25 else none
def dx : DX := fun f => bif Nat.beq f 10 then some (dClone 1 8) else none
def ren12 : Go.Shelf.Ren := ⟨fun n => if n = 29 then 20 else if n = 30 then 21 else n, fun n => if n = 24 then 24 else if n = 9 then 3 else if n = 3 then 3 else if n = 4 then 4 else 0, fun n => n⟩
theorem lay12 : Go.Proofs.Ev.InsLay Try.prog ren12 12 ((Try.prog.info? 3).getD default).size ((Try.prog.info? 3).getD default) (((Try.prog.info? 3).getD default).zero.getD .nilFunc) where
  mixed := Try.checked.mixed
  hf := ⟨Try.f12.name, by rw [Try.func12]; exact congrArg some (show Try.f12 = { Go.Proofs.Body2.n22 ren12 with name := Try.f12.name } from by kernel_rfl)⟩
  hov := fun args w => run_callFunc_extern (fn := Try.f20) Try.func20 (by kernel_rfl) (by kernel_rfl) (by kernel_rfl) (e := Extern.SlicesOverlaps.overlaps #[24, 24] #[4]) (by kernel_rfl) args w
  t3 := by kernel_rfl
  a3 := fun w => Go.Proofs.Ev.tagg_run (by kernel_rfl) w
  z3 := fun w => Go.Proofs.Ev.tsize_run (by kernel_rfl) w
  v3 := fun w => Go.Proofs.Ev.zero_run (by kernel_rfl) w
  t4 := by kernel_rfl
  a4 := fun w => Go.Proofs.Ev.tagg_run (by kernel_rfl) w
  z4 := fun w => Go.Proofs.Ev.tsize_run (by kernel_rfl) w
  v4 := fun w => Go.Proofs.Ev.zero_run (by kernel_rfl) w
  t24 := by kernel_rfl
  a24 := fun w => Go.Proofs.Ev.tagg_run (by kernel_rfl) w
  z24 := fun w => Go.Proofs.Ev.tsize_run (by kernel_rfl) w
  v24 := fun w => Go.Proofs.Ev.zero_run (by kernel_rfl) w
  i9 := by kernel_rfl
  iz := rfl
  ib := Nat.le_of_ble_eq_true (by kernel_rfl)
  izv := by kernel_rfl
  hzv := by kernel_rfl
  hz0 := Nat.le_of_ble_eq_true (by kernel_rfl)
theorem siz12 : Prim.ins 1 8 = .ins ((Try.prog.info? 3).getD default).size ((Try.prog.info? 3).getD default).bytes := by kernel_rfl
def prims : Prims := fun f => bif Nat.beq f 12 then some (.ins 1 8) else bif Nat.beq f 4 then some .yes else none
theorem code_ok : ∀ f df, tbl f = some df → cFn Try.prog f = some df.toE ∧ df.body.wf = true := by
  intro f df h
  unfold tbl at h
  by_cases h3 : f = 3
  · subst h3; rw [Nat.beq_refl, cond_true] at h; rw [← Option.some.inj h]; exact ⟨k3, w3⟩
  rw [Ev.beq_false _ _ h3, cond_false] at h
  by_cases h6 : f = 6
  · subst h6; rw [Nat.beq_refl, cond_true] at h; rw [← Option.some.inj h]; exact ⟨k6, w6⟩
  rw [Ev.beq_false _ _ h6, cond_false] at h
  by_cases h8 : f = 8
  · subst h8; rw [Nat.beq_refl, cond_true] at h; rw [← Option.some.inj h]; exact ⟨k8, w8⟩
  rw [Ev.beq_false _ _ h8, cond_false] at h
  by_cases h5 : f = 5
  · subst h5; rw [Nat.beq_refl, cond_true] at h; rw [← Option.some.inj h]; exact ⟨k5, w5⟩
  rw [Ev.beq_false _ _ h5, cond_false] at h
  by_cases h9 : f = 9
  · subst h9; rw [Nat.beq_refl, cond_true] at h; rw [← Option.some.inj h]; exact ⟨k9, w9⟩
  rw [Ev.beq_false _ _ h9, cond_false] at h
  by_cases h13 : f = 13
  · subst h13; rw [Nat.beq_refl, cond_true] at h; rw [← Option.some.inj h]; exact ⟨k13, w13⟩
  rw [Ev.beq_false _ _ h13, cond_false] at h
  by_cases h17 : f = 17
  · subst h17; rw [Nat.beq_refl, cond_true] at h; rw [← Option.some.inj h]; exact ⟨k17, w17⟩
  rw [Ev.beq_false _ _ h17, cond_false] at h
  by_cases h7 : f = 7
  · subst h7; rw [Nat.beq_refl, cond_true] at h; rw [← Option.some.inj h]; exact ⟨k7, w7⟩
  rw [Ev.beq_false _ _ h7, cond_false] at h
  by_cases h15 : f = 15
  · subst h15; rw [Nat.beq_refl, cond_true] at h; rw [← Option.some.inj h]; exact ⟨k15, w15⟩
  rw [Ev.beq_false _ _ h15, cond_false] at h
  by_cases h14 : f = 14
  · subst h14; rw [Nat.beq_refl, cond_true] at h; rw [← Option.some.inj h]; exact ⟨k14, w14⟩
  rw [Ev.beq_false _ _ h14, cond_false] at h
  by_cases h22 : f = 22
  · subst h22; rw [Nat.beq_refl, cond_true] at h; rw [← Option.some.inj h]; exact ⟨k22, w22⟩
  rw [Ev.beq_false _ _ h22, cond_false] at h
  by_cases h16 : f = 16
  · subst h16; rw [Nat.beq_refl, cond_true] at h; rw [← Option.some.inj h]; exact ⟨k16, w16⟩
  rw [Ev.beq_false _ _ h16, cond_false] at h
  by_cases h11 : f = 11
  · subst h11; rw [Nat.beq_refl, cond_true] at h; rw [← Option.some.inj h]; exact ⟨k11, w11⟩
  rw [Ev.beq_false _ _ h11, cond_false] at h
  by_cases h18 : f = 18
  · subst h18; rw [Nat.beq_refl, cond_true] at h; rw [← Option.some.inj h]; exact ⟨k18, w18⟩
  rw [Ev.beq_false _ _ h18, cond_false] at h
  by_cases h19 : f = 19
  · subst h19; rw [Nat.beq_refl, cond_true] at h; rw [← Option.some.inj h]; exact ⟨k19, w19⟩
  rw [Ev.beq_false _ _ h19, cond_false] at h
  by_cases h25 : f = 25
  · subst h25; rw [Nat.beq_refl, cond_true] at h; rw [← Option.some.inj h]; exact ⟨k25, w25⟩
  rw [Ev.beq_false _ _ h25, cond_false] at h
  cases h
theorem ext_ok : ∀ f g, prims f = none → dx f = some g → ∀ (k : Nat) (ds : List D) (st : Dv.St) (r : D × Dv.St × List Nat) (c : Ct) (H : Heap) (vs : List V), g ds st = some r → SR c st H → Row (DR c H) ds vs → Fol c st H r (eFn Try.prog prims (cFn Try.prog) listHP (k + 1) f vs H) := by
  intro f g _ h
  unfold dx at h
  by_cases h10 : f = 10
  · subst h10; rw [Nat.beq_refl, cond_true] at h; rw [← Option.some.inj h]; exact clone_ok (z := 1) (bytes := 8) (by kernel_rfl) k10
  rw [Ev.beq_false _ _ h10, cond_false] at h
  cases h
theorem extq_ok : ∀ f g, dx f = some g → kSrt (g [.ptr 0 0] ⟨[], [], 0⟩) = none := by
  intro f g h
  unfold dx at h
  by_cases h10 : f = 10
  · subst h10; rw [Nat.beq_refl, cond_true] at h; rw [← Option.some.inj h]; rfl
  rw [Ev.beq_false _ _ h10, cond_false] at h
  cases h
theorem tbl_ok : TblOK Try.prog prims (cFn Try.prog) dx tbl := ⟨fun f df _ _ h => code_ok f df h, extq_ok, ext_ok⟩
def prims0 : Prims := fun f => bif Nat.beq f 12 then some (.ins 1 8) else none
theorem prims0_ok : PrimsOK Try.prog prims0 := by
  intro f p h
  unfold prims0 at h
  by_cases h12 : f = 12
  · subst h12
    rw [Nat.beq_refl, cond_true] at h
    rw [← Option.some.inj h, siz12]
    exact ⟨by kernel_rfl, fun vs H v H' he β cs w hr s => Go.Proofs.Ev.evIns_ok lay12 (by intro hz; have : (Go.Proofs.Ev.zeroV Try.prog 3).isSome = true := by kernel_rfl
                                                                                          rw [show ren12.t 9 = 3 from rfl] at hz; rw [hz] at this; cases this) vs H v H' he β cs w hr s⟩
  rw [Go.Proofs.Ev.beq_false _ _ h12, cond_false] at h
  cases h
theorem yes_okP {P : Program} (hm : P.follows .mixedOrders = true) {pr : Prims} (hpr : PrimsOK P pr) {k f : Nat} (h : saysTrue (evFn P pr k f [] []) = true) (vs : List V) (H : Heap) (v : V) (H' : Heap) (he : evPrim .yes vs H = some (v, H'))
    (β : Inj) (cs : Array Value) (w : World) (hL : LRel β vs cs) (s : Sim β H w) : Calls P f cs w fun e w' => ∃ β' c, e = .returned c ∧ Ext β H w β' H' w' ∧ VRel β' v c := by
  cases vs with
  | cons a l => cases he
  | nil =>
    cases he
    have hc : cs = #[] := by
      obtain ⟨h1, _⟩ := hL
      exact Array.eq_empty_of_size_eq_zero (by simpa using h1.symm)
    subst hc
    refine (closed_true hm hpr h w).mono ?_
    rintro e w' ⟨rfl, hb⟩
    exact ⟨β, .bool true, rfl, ⟨s.as hb, fun _ _ => rfl, Nat.le_refl _, hb.os, hb.tape, hb.output, hb.size, fun B hB _ => hb.block B hB, fun _ h => .inl h⟩, .bool true⟩
theorem prims_ok : PrimsOK Try.prog prims := by
  intro f p h
  unfold prims at h
  by_cases h12 : f = 12
  · subst h12
    rw [Nat.beq_refl, cond_true] at h
    rw [← Option.some.inj h, siz12]
    exact ⟨by kernel_rfl, fun vs H v H' he β cs w hr s => Go.Proofs.Ev.evIns_ok lay12 (by intro hz; have : (Go.Proofs.Ev.zeroV Try.prog 3).isSome = true := by kernel_rfl
                                                                                          rw [show ren12.t 9 = 3 from rfl] at hz; rw [hz] at this; cases this) vs H v H' he β cs w hr s⟩
  rw [Go.Proofs.Ev.beq_false _ _ h12, cond_false] at h
  by_cases h4 : f = 4
  · subst h4
    rw [Nat.beq_refl, cond_true] at h
    rw [← Option.some.inj h]
    exact ⟨by kernel_rfl, fun vs H v H' he β cs w hr s => yes_okP Try.checked.mixed prims0_ok (k := 60) (by kernel_rfl) vs H v H' he β cs w hr s⟩
  rw [Go.Proofs.Ev.beq_false _ _ h4, cond_false] at h
  cases h
end
end Go.Proofs.Ytoojkgoljghddaa.Cd
