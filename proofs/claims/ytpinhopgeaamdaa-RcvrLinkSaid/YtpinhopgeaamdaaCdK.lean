/-
  What is proved here: the texts of the functions, looked up.
  Conditions: none.
-/
import Derived.Test.YtpinhopgeaamdaaRows
import Derived.Test.YtpinhopgeaamdaaDv3
import Derived.KernelRfl
set_option linter.unusedVariables false
set_option linter.unusedSimpArgs false
set_option maxRecDepth 100000
namespace Go.Proofs.Ytpinhopgeaamdaa.Cd
open Go Go.Proofs Go.Proofs.Ev Go.Proofs.Dv
noncomputable section
noncomputable def l11_0 : DC :=
 .seq (.seq (.reg [⟨.op (.mv (.t 13)), (some 80), none⟩, ⟨.op (.mv (.t 12)), (some 81), none⟩, ⟨.op (.len (.t 81)), (some 82), none⟩, ⟨.op (.bin .lss 0 (.t 80) (.t 82)), (some 83), none⟩])
 [0, 3, 5, 6, 7, 9, 10, 11, 12, 13, 83]
 (.cond (.t 83) (.skip) (.exit 2)))
 [0, 3, 5, 6, 7, 9, 10, 11, 12, 13]
 (.seq (.block 3 (.seq (.drw [⟨⟨.op (.mv (.t 10)), (some 86), none⟩, .n, []⟩, ⟨⟨.op (.mv (.t 13)), (some 87), none⟩, .n, []⟩, ⟨⟨.op (.ia 1 none (.t 86) (.t 87)), (some 88), none⟩, .n, []⟩, ⟨⟨.op (.ld1 (.t 88)), (some 89), none⟩, .n, []⟩, ⟨⟨.op (.mv (.t 12)), (some 90), none⟩, .n, []⟩, ⟨⟨.op (.mv (.t 13)), (some 91), none⟩, .n, []⟩, ⟨⟨.op (.ia 1 none (.t 90) (.t 91)), (some 92), none⟩, .n, []⟩, ⟨⟨.op (.ld1 (.t 92)), (some 93), none⟩, .n, []⟩, ⟨⟨.op (.bin .neq 0 (.t 89) (.t 93)), (some 94), none⟩, .n, []⟩])
 [0, 3, 5, 6, 7, 9, 10, 11, 12, 13, 94]
 (.cond (.t 94) (.seq (.reg [⟨.op (.mv (.c (.bool false))), (some 4), none⟩])
 [4]
 (.ret)) (.skip))))
 [0, 3, 5, 6, 7, 9, 10, 11, 12, 13]
 (.reg [⟨.op (.mv (.t 13)), (some 84), none⟩, ⟨.op (.bin .add 0 (.t 84) (.c (.int .i64 1))), (some 85), none⟩, ⟨.op (.mv (.t 85)), (some 13), none⟩]))
theorem u11_0 (call : DCall) (T : Tm) (st : Dv.St) : dCw Try.prog call l11_0 T st = dCw Try.prog call
 (.seq (.seq (.reg [⟨.op (.mv (.t 13)), (some 80), none⟩, ⟨.op (.mv (.t 12)), (some 81), none⟩, ⟨.op (.len (.t 81)), (some 82), none⟩, ⟨.op (.bin .lss 0 (.t 80) (.t 82)), (some 83), none⟩])
 [0, 3, 5, 6, 7, 9, 10, 11, 12, 13, 83]
 (.cond (.t 83) (.skip) (.exit 2)))
 [0, 3, 5, 6, 7, 9, 10, 11, 12, 13]
 (.seq (.block 3 (.seq (.drw [⟨⟨.op (.mv (.t 10)), (some 86), none⟩, .n, []⟩, ⟨⟨.op (.mv (.t 13)), (some 87), none⟩, .n, []⟩, ⟨⟨.op (.ia 1 none (.t 86) (.t 87)), (some 88), none⟩, .n, []⟩, ⟨⟨.op (.ld1 (.t 88)), (some 89), none⟩, .n, []⟩, ⟨⟨.op (.mv (.t 12)), (some 90), none⟩, .n, []⟩, ⟨⟨.op (.mv (.t 13)), (some 91), none⟩, .n, []⟩, ⟨⟨.op (.ia 1 none (.t 90) (.t 91)), (some 92), none⟩, .n, []⟩, ⟨⟨.op (.ld1 (.t 92)), (some 93), none⟩, .n, []⟩, ⟨⟨.op (.bin .neq 0 (.t 89) (.t 93)), (some 94), none⟩, .n, []⟩])
 [0, 3, 5, 6, 7, 9, 10, 11, 12, 13, 94]
 (.cond (.t 94) (.seq (.reg [⟨.op (.mv (.c (.bool false))), (some 4), none⟩])
 [4]
 (.ret)) (.skip))))
 [0, 3, 5, 6, 7, 9, 10, 11, 12, 13]
 (.reg [⟨.op (.mv (.t 13)), (some 84), none⟩, ⟨.op (.bin .add 0 (.t 84) (.c (.int .i64 1))), (some 85), none⟩, ⟨.op (.mv (.t 85)), (some 13), none⟩]))) T st := rfl
noncomputable def l11_1 : DC :=
 .seq (.seq (.reg [⟨.op (.mv (.t 7)), (some 27), none⟩, ⟨.op (.mv (.t 0)), (some 28), none⟩, ⟨.op (.len (.t 28)), (some 29), none⟩, ⟨.op (.bin .lss 0 (.t 27) (.t 29)), (some 30), none⟩])
 [0, 3, 5, 6, 7, 30]
 (.cond (.t 30) (.skip) (.exit 0)))
 [0, 3, 5, 6, 7]
 (.seq (.block 1 (.seq (.drw [⟨⟨.op (.fa 0 (.t 6)), (some 33), none⟩, .n, []⟩, ⟨⟨.op (.fa 0 (.t 33)), (some 34), none⟩, .n, []⟩, ⟨⟨.op (.ld1 (.t 34)), (some 35), none⟩, .n, []⟩, ⟨⟨.op (.bin .sub 0 (.t 35) (.c (.int .i64 1))), (some 36), none⟩, .n, []⟩, ⟨⟨.op (.mv (.t 0)), (some 37), none⟩, .n, []⟩, ⟨⟨.op (.mv (.t 7)), (some 38), none⟩, .n, []⟩, ⟨⟨.op (.ia 1 none (.t 37) (.t 38)), (some 39), none⟩, .n, []⟩, ⟨⟨.op (.ld1 (.t 39)), (some 40), none⟩, .n, []⟩, ⟨⟨.op (.bin .rem 0 (.t 40) (.c (.int .u8 8))), (some 41), none⟩, .n, []⟩, ⟨⟨.op (.conv .i64 (.t 41)), (some 42), none⟩, .n, []⟩, ⟨⟨.op (.bin .add 0 (.t 36) (.t 42)), (some 43), none⟩, .n, []⟩, ⟨⟨.op (.mv (.t 0)), (some 44), none⟩, .n, []⟩, ⟨⟨.op (.mv (.t 7)), (some 45), none⟩, .n, []⟩, ⟨⟨.op (.ia 1 none (.t 44) (.t 45)), (some 46), none⟩, .n, []⟩, ⟨⟨.op (.ld1 (.t 46)), (some 47), none⟩, .n, []⟩, ⟨⟨.op (.bin .rem 0 (.t 47) (.c (.int .u8 26))), (some 48), none⟩, .n, []⟩, ⟨⟨.op (.bin .add 0 (.c (.int .u8 97)) (.t 48)), (some 49), none⟩, .n, []⟩, ⟨⟨.op (.bslice 1 1 [(.int .u8 0)] [(0, 1, (.t 49))]), (some 50), none⟩, .a, [(true, 14), (true, 9), (true, 7), (true, 2)]⟩, ⟨⟨.op (.string (.t 50)), (some 51), none⟩, .n, []⟩, ⟨⟨.op (.build [(.int .i64 0), (.str [])] [(0, 1, (.t 43)), (1, 1, (.t 51))]), (some 52), none⟩, .n, []⟩, ⟨⟨.op (.new [(.int .i64 0), (.str [])]), (some 8), none⟩, .a, [(true, 18), (true, 14), (true, 9), (true, 7), (true, 2)]⟩, ⟨⟨.op (.st 2 (.t 8) (.t 52)), none, none⟩, .x, []⟩])
 [0, 3, 5, 6, 7, 8]
 (.seq (.seq (.reg [⟨.op (.mv (.t 7)), (some 53), none⟩, ⟨.op (.bin .rem 0 (.t 53) (.c (.int .i64 9))), (some 54), none⟩, ⟨.op (.bin .eql 0 (.t 54) (.c (.int .i64 8))), (some 55), none⟩])
 [0, 3, 5, 6, 7, 8, 55]
 (.cond (.t 55) (.reg [⟨.op (.ldn 2 (.t 3)), (some 56), none⟩, ⟨.op (.st 2 (.t 8) (.t 56)), none, none⟩]) (.skip)))
 [0, 3, 5, 6, 7, 8]
 (.seq (.reg [⟨.op (.ldn 3 (.t 5)), (some 58), none⟩, ⟨.op (.ldn 2 (.t 8)), (some 59), none⟩, ⟨.call 33 [(.t 58), (.t 59)], (some 60), none⟩, ⟨.op (.mv (.t 60)), (some 57), none⟩, ⟨.op (.ext (.t 57) 0), (some 61), none⟩, ⟨.op (.ext (.t 57) 1), (some 62), none⟩, ⟨.op (.new [(.int .i64 0), (.sl none 0), (.sl none 0)]), (some 9), none⟩, ⟨.op (.st 3 (.t 9) (.t 61)), none, none⟩, ⟨.op (.mv (.t 62)), (some 10), none⟩])
 [0, 3, 5, 6, 7, 8, 9, 10]
 (.seq (.reg [⟨.op (.ldn 3 (.t 6)), (some 64), none⟩, ⟨.op (.ldn 2 (.t 8)), (some 65), none⟩, ⟨.call 34 [(.t 64), (.t 65)], (some 66), none⟩, ⟨.op (.mv (.t 66)), (some 63), none⟩, ⟨.op (.ext (.t 63) 0), (some 67), none⟩, ⟨.op (.ext (.t 63) 1), (some 68), none⟩, ⟨.op (.new [(.int .i64 0), (.sl none 0), (.sl none 0)]), (some 11), none⟩, ⟨.op (.st 3 (.t 11) (.t 67)), none, none⟩, ⟨.op (.mv (.t 68)), (some 12), none⟩])
 [0, 3, 5, 6, 7, 9, 10, 11, 12]
 (.seq (.seq (.reg [⟨.op (.mv (.t 10)), (some 69), none⟩, ⟨.op (.len (.t 69)), (some 70), none⟩, ⟨.op (.mv (.t 12)), (some 71), none⟩, ⟨.op (.len (.t 71)), (some 72), none⟩, ⟨.op (.bin .neq 0 (.t 70) (.t 72)), (some 73), none⟩, ⟨.op (.mv (.t 73)), (some 74), none⟩, ⟨.op (.ldn 3 (.t 9)), (some 75), (some (74, false))⟩, ⟨.op (.ldn 3 (.t 11)), (some 76), (some (74, false))⟩, ⟨.call 35 [(.t 75), (.t 76)], (some 77), (some (74, false))⟩, ⟨.op (.not (.t 77)), (some 78), (some (74, false))⟩, ⟨.op (.pick (.t 74) (.c (.bool true)) (.t 78)), (some 79), none⟩])
 [0, 3, 5, 6, 7, 9, 10, 11, 12, 79]
 (.cond (.t 79) (.seq (.reg [⟨.op (.mv (.c (.bool false))), (some 4), none⟩])
 [4]
 (.ret)) (.skip)))
 [0, 3, 5, 6, 7, 9, 10, 11, 12]
 (.seq (.seq (.reg [⟨.op (.mv (.c (.int .i64 0))), (some 13), none⟩])
 [0, 3, 5, 6, 7, 9, 10, 11, 12, 13]
 (.block 2 (.loop [0, 3, 5, 6, 7, 9, 10, 11, 12, 13] (l11_0))))
 [0, 3, 5, 6, 7, 9, 11]
 (.drw [⟨⟨.op (.ldn 3 (.t 9)), (some 95), none⟩, .n, []⟩, ⟨⟨.op (.ldn 3 (.t 11)), (some 96), none⟩, .n, []⟩, ⟨⟨.op (.st 3 (.t 5) (.t 95)), none, none⟩, .x, [(true, 1)]⟩, ⟨⟨.op (.st 3 (.t 6) (.t 96)), none, none⟩, .x, []⟩]))))))))
 [0, 3, 5, 6, 7]
 (.reg [⟨.op (.mv (.t 7)), (some 31), none⟩, ⟨.op (.bin .add 0 (.t 31) (.c (.int .i64 1))), (some 32), none⟩, ⟨.op (.mv (.t 32)), (some 7), none⟩]))
theorem u11_1 (call : DCall) (T : Tm) (st : Dv.St) : dCw Try.prog call l11_1 T st = dCw Try.prog call
 (.seq (.seq (.reg [⟨.op (.mv (.t 7)), (some 27), none⟩, ⟨.op (.mv (.t 0)), (some 28), none⟩, ⟨.op (.len (.t 28)), (some 29), none⟩, ⟨.op (.bin .lss 0 (.t 27) (.t 29)), (some 30), none⟩])
 [0, 3, 5, 6, 7, 30]
 (.cond (.t 30) (.skip) (.exit 0)))
 [0, 3, 5, 6, 7]
 (.seq (.block 1 (.seq (.drw [⟨⟨.op (.fa 0 (.t 6)), (some 33), none⟩, .n, []⟩, ⟨⟨.op (.fa 0 (.t 33)), (some 34), none⟩, .n, []⟩, ⟨⟨.op (.ld1 (.t 34)), (some 35), none⟩, .n, []⟩, ⟨⟨.op (.bin .sub 0 (.t 35) (.c (.int .i64 1))), (some 36), none⟩, .n, []⟩, ⟨⟨.op (.mv (.t 0)), (some 37), none⟩, .n, []⟩, ⟨⟨.op (.mv (.t 7)), (some 38), none⟩, .n, []⟩, ⟨⟨.op (.ia 1 none (.t 37) (.t 38)), (some 39), none⟩, .n, []⟩, ⟨⟨.op (.ld1 (.t 39)), (some 40), none⟩, .n, []⟩, ⟨⟨.op (.bin .rem 0 (.t 40) (.c (.int .u8 8))), (some 41), none⟩, .n, []⟩, ⟨⟨.op (.conv .i64 (.t 41)), (some 42), none⟩, .n, []⟩, ⟨⟨.op (.bin .add 0 (.t 36) (.t 42)), (some 43), none⟩, .n, []⟩, ⟨⟨.op (.mv (.t 0)), (some 44), none⟩, .n, []⟩, ⟨⟨.op (.mv (.t 7)), (some 45), none⟩, .n, []⟩, ⟨⟨.op (.ia 1 none (.t 44) (.t 45)), (some 46), none⟩, .n, []⟩, ⟨⟨.op (.ld1 (.t 46)), (some 47), none⟩, .n, []⟩, ⟨⟨.op (.bin .rem 0 (.t 47) (.c (.int .u8 26))), (some 48), none⟩, .n, []⟩, ⟨⟨.op (.bin .add 0 (.c (.int .u8 97)) (.t 48)), (some 49), none⟩, .n, []⟩, ⟨⟨.op (.bslice 1 1 [(.int .u8 0)] [(0, 1, (.t 49))]), (some 50), none⟩, .a, [(true, 14), (true, 9), (true, 7), (true, 2)]⟩, ⟨⟨.op (.string (.t 50)), (some 51), none⟩, .n, []⟩, ⟨⟨.op (.build [(.int .i64 0), (.str [])] [(0, 1, (.t 43)), (1, 1, (.t 51))]), (some 52), none⟩, .n, []⟩, ⟨⟨.op (.new [(.int .i64 0), (.str [])]), (some 8), none⟩, .a, [(true, 18), (true, 14), (true, 9), (true, 7), (true, 2)]⟩, ⟨⟨.op (.st 2 (.t 8) (.t 52)), none, none⟩, .x, []⟩])
 [0, 3, 5, 6, 7, 8]
 (.seq (.seq (.reg [⟨.op (.mv (.t 7)), (some 53), none⟩, ⟨.op (.bin .rem 0 (.t 53) (.c (.int .i64 9))), (some 54), none⟩, ⟨.op (.bin .eql 0 (.t 54) (.c (.int .i64 8))), (some 55), none⟩])
 [0, 3, 5, 6, 7, 8, 55]
 (.cond (.t 55) (.reg [⟨.op (.ldn 2 (.t 3)), (some 56), none⟩, ⟨.op (.st 2 (.t 8) (.t 56)), none, none⟩]) (.skip)))
 [0, 3, 5, 6, 7, 8]
 (.seq (.reg [⟨.op (.ldn 3 (.t 5)), (some 58), none⟩, ⟨.op (.ldn 2 (.t 8)), (some 59), none⟩, ⟨.call 33 [(.t 58), (.t 59)], (some 60), none⟩, ⟨.op (.mv (.t 60)), (some 57), none⟩, ⟨.op (.ext (.t 57) 0), (some 61), none⟩, ⟨.op (.ext (.t 57) 1), (some 62), none⟩, ⟨.op (.new [(.int .i64 0), (.sl none 0), (.sl none 0)]), (some 9), none⟩, ⟨.op (.st 3 (.t 9) (.t 61)), none, none⟩, ⟨.op (.mv (.t 62)), (some 10), none⟩])
 [0, 3, 5, 6, 7, 8, 9, 10]
 (.seq (.reg [⟨.op (.ldn 3 (.t 6)), (some 64), none⟩, ⟨.op (.ldn 2 (.t 8)), (some 65), none⟩, ⟨.call 34 [(.t 64), (.t 65)], (some 66), none⟩, ⟨.op (.mv (.t 66)), (some 63), none⟩, ⟨.op (.ext (.t 63) 0), (some 67), none⟩, ⟨.op (.ext (.t 63) 1), (some 68), none⟩, ⟨.op (.new [(.int .i64 0), (.sl none 0), (.sl none 0)]), (some 11), none⟩, ⟨.op (.st 3 (.t 11) (.t 67)), none, none⟩, ⟨.op (.mv (.t 68)), (some 12), none⟩])
 [0, 3, 5, 6, 7, 9, 10, 11, 12]
 (.seq (.seq (.reg [⟨.op (.mv (.t 10)), (some 69), none⟩, ⟨.op (.len (.t 69)), (some 70), none⟩, ⟨.op (.mv (.t 12)), (some 71), none⟩, ⟨.op (.len (.t 71)), (some 72), none⟩, ⟨.op (.bin .neq 0 (.t 70) (.t 72)), (some 73), none⟩, ⟨.op (.mv (.t 73)), (some 74), none⟩, ⟨.op (.ldn 3 (.t 9)), (some 75), (some (74, false))⟩, ⟨.op (.ldn 3 (.t 11)), (some 76), (some (74, false))⟩, ⟨.call 35 [(.t 75), (.t 76)], (some 77), (some (74, false))⟩, ⟨.op (.not (.t 77)), (some 78), (some (74, false))⟩, ⟨.op (.pick (.t 74) (.c (.bool true)) (.t 78)), (some 79), none⟩])
 [0, 3, 5, 6, 7, 9, 10, 11, 12, 79]
 (.cond (.t 79) (.seq (.reg [⟨.op (.mv (.c (.bool false))), (some 4), none⟩])
 [4]
 (.ret)) (.skip)))
 [0, 3, 5, 6, 7, 9, 10, 11, 12]
 (.seq (.seq (.reg [⟨.op (.mv (.c (.int .i64 0))), (some 13), none⟩])
 [0, 3, 5, 6, 7, 9, 10, 11, 12, 13]
 (.block 2 (.loop [0, 3, 5, 6, 7, 9, 10, 11, 12, 13] (l11_0))))
 [0, 3, 5, 6, 7, 9, 11]
 (.drw [⟨⟨.op (.ldn 3 (.t 9)), (some 95), none⟩, .n, []⟩, ⟨⟨.op (.ldn 3 (.t 11)), (some 96), none⟩, .n, []⟩, ⟨⟨.op (.st 3 (.t 5) (.t 95)), none, none⟩, .x, [(true, 1)]⟩, ⟨⟨.op (.st 3 (.t 6) (.t 96)), none, none⟩, .x, []⟩]))))))))
 [0, 3, 5, 6, 7]
 (.reg [⟨.op (.mv (.t 7)), (some 31), none⟩, ⟨.op (.bin .add 0 (.t 31) (.c (.int .i64 1))), (some 32), none⟩, ⟨.op (.mv (.t 32)), (some 7), none⟩]))) T st := rfl
/-- cardamom/cardamomlaw21.RcvrAll -/
noncomputable def c11 : DFn := ⟨97, .pure,
 .seq (.reg [⟨.op (.box (.t 1)), (some 3), none⟩, ⟨.op (.mv (.c (.bool false))), (some 4), none⟩])
 [0, 3]
 (.seq (.seq (.reg [⟨.call 32 [], (some 14), none⟩, ⟨.op (.not (.t 14)), (some 15), none⟩])
 [0, 3, 15]
 (.cond (.t 15) (.seq (.reg [⟨.op (.mv (.c (.bool false))), (some 4), none⟩])
 [4]
 (.ret)) (.skip)))
 [0, 3]
 (.seq (.seq (.reg [⟨.op (.mv (.t 0)), (some 16), none⟩, ⟨.op (.len (.t 16)), (some 17), none⟩, ⟨.op (.bin .gtr 0 (.t 17) (.c (.int .i64 60))), (some 18), none⟩, ⟨.op (.mv (.t 18)), (some 19), none⟩, ⟨.op (.fa 1 (.t 3)), (some 20), (some (19, false))⟩, ⟨.op (.ld1 (.t 20)), (some 21), (some (19, false))⟩, ⟨.op (.lenstr (.t 21)), (some 22), (some (19, false))⟩, ⟨.op (.bin .gtr 0 (.t 22) (.c (.int .i64 20))), (some 23), (some (19, false))⟩, ⟨.op (.pick (.t 19) (.c (.bool true)) (.t 23)), (some 24), none⟩])
 [0, 3, 24]
 (.cond (.t 24) (.seq (.reg [⟨.op (.mv (.c (.bool true))), (some 4), none⟩])
 [4]
 (.ret)) (.skip)))
 [0, 3]
 (.seq (.reg [⟨.op (.build [(.int .i64 0), (.sl none 0), (.sl none 0)] []), (some 25), none⟩, ⟨.op (.build [(.int .i64 0), (.sl none 0), (.sl none 0)] []), (some 26), none⟩, ⟨.op (.new [(.int .i64 0), (.sl none 0), (.sl none 0)]), (some 5), none⟩, ⟨.op (.new [(.int .i64 0), (.sl none 0), (.sl none 0)]), (some 6), none⟩, ⟨.op (.st 3 (.t 5) (.t 25)), none, none⟩, ⟨.op (.st 3 (.t 6) (.t 26)), none, none⟩])
 [0, 3, 5, 6]
 (.seq (.seq (.reg [⟨.op (.mv (.c (.int .i64 0))), (some 7), none⟩])
 [0, 3, 5, 6, 7]
 (.block 0 (.loop [0, 3, 5, 6, 7] (l11_1))))
 []
 (.seq (.reg [⟨.op (.mv (.c (.bool true))), (some 4), none⟩])
 [4]
 (.ret)))))),
 [.tmp 4]⟩
theorem k11 : cFn Try.prog 11 = some c11.toE := by kernel_rfl
theorem w11 : c11.body.wf = true := by kernel_rfl
noncomputable def l13_0 : DC :=
 .seq (.seq (.reg [⟨.op (.mv (.t 7)), (some 33), none⟩, ⟨.op (.mv (.t 5)), (some 34), none⟩, ⟨.op (.bin .lss 0 (.t 33) (.t 34)), (some 35), none⟩])
 [1, 5, 6, 7, 35]
 (.cond (.t 35) (.skip) (.exit 0)))
 [1, 5, 6, 7]
 (.seq (.block 1 (.reg [⟨.op (.ldn 4 (.t 6)), (some 38), none⟩, ⟨.op (.mv (.t 7)), (some 39), none⟩, ⟨.op (.bin .add 0 (.c (.int .i64 97)) (.t 39)), (some 40), none⟩, ⟨.op (.conv .u8 (.t 40)), (some 41), none⟩, ⟨.op (.bslice 1 1 [(.int .u8 0)] [(0, 1, (.t 41))]), (some 42), none⟩, ⟨.op (.string (.t 42)), (some 43), none⟩, ⟨.call 37 [(.t 38), (.t 43)], (some 44), none⟩, ⟨.op (.st 4 (.t 6) (.t 44)), none, none⟩]))
 [1, 5, 6, 7]
 (.reg [⟨.op (.mv (.t 7)), (some 36), none⟩, ⟨.op (.bin .add 0 (.t 36) (.c (.int .i64 1))), (some 37), none⟩, ⟨.op (.mv (.t 37)), (some 7), none⟩]))
theorem u13_0 (call : DCall) (T : Tm) (st : Dv.St) : dCw Try.prog call l13_0 T st = dCw Try.prog call
 (.seq (.seq (.reg [⟨.op (.mv (.t 7)), (some 33), none⟩, ⟨.op (.mv (.t 5)), (some 34), none⟩, ⟨.op (.bin .lss 0 (.t 33) (.t 34)), (some 35), none⟩])
 [1, 5, 6, 7, 35]
 (.cond (.t 35) (.skip) (.exit 0)))
 [1, 5, 6, 7]
 (.seq (.block 1 (.reg [⟨.op (.ldn 4 (.t 6)), (some 38), none⟩, ⟨.op (.mv (.t 7)), (some 39), none⟩, ⟨.op (.bin .add 0 (.c (.int .i64 97)) (.t 39)), (some 40), none⟩, ⟨.op (.conv .u8 (.t 40)), (some 41), none⟩, ⟨.op (.bslice 1 1 [(.int .u8 0)] [(0, 1, (.t 41))]), (some 42), none⟩, ⟨.op (.string (.t 42)), (some 43), none⟩, ⟨.call 37 [(.t 38), (.t 43)], (some 44), none⟩, ⟨.op (.st 4 (.t 6) (.t 44)), none, none⟩]))
 [1, 5, 6, 7]
 (.reg [⟨.op (.mv (.t 7)), (some 36), none⟩, ⟨.op (.bin .add 0 (.t 36) (.c (.int .i64 1))), (some 37), none⟩, ⟨.op (.mv (.t 37)), (some 7), none⟩]))) T st := rfl
noncomputable def l13_1 : DC :=
 .seq (.seq (.reg [⟨.op (.mv (.t 16)), (some 104), none⟩, ⟨.op (.mv (.t 15)), (some 105), none⟩, ⟨.op (.len (.t 105)), (some 106), none⟩, ⟨.op (.bin .lss 0 (.t 104) (.t 106)), (some 107), none⟩])
 [1, 5, 6, 8, 9, 10, 11, 12, 13, 15, 16, 107]
 (.cond (.t 107) (.skip) (.exit 5)))
 [1, 5, 6, 8, 9, 10, 11, 12, 13, 15, 16]
 (.seq (.block 6 (.reg [⟨.op (.mv (.t 9)), (some 110), none⟩, ⟨.op (.mv (.t 15)), (some 111), none⟩, ⟨.op (.mv (.t 16)), (some 112), none⟩, ⟨.op (.ia 1 none (.t 111) (.t 112)), (some 113), none⟩, ⟨.op (.ld1 (.t 113)), (some 114), none⟩, ⟨.op (.bin .add 0 (.t 110) (.t 114)), (some 115), none⟩, ⟨.op (.mv (.t 115)), (some 9), none⟩]))
 [1, 5, 6, 8, 9, 10, 11, 12, 13, 15, 16]
 (.reg [⟨.op (.mv (.t 16)), (some 108), none⟩, ⟨.op (.bin .add 0 (.t 108) (.c (.int .i64 1))), (some 109), none⟩, ⟨.op (.mv (.t 109)), (some 16), none⟩]))
theorem u13_1 (call : DCall) (T : Tm) (st : Dv.St) : dCw Try.prog call l13_1 T st = dCw Try.prog call
 (.seq (.seq (.reg [⟨.op (.mv (.t 16)), (some 104), none⟩, ⟨.op (.mv (.t 15)), (some 105), none⟩, ⟨.op (.len (.t 105)), (some 106), none⟩, ⟨.op (.bin .lss 0 (.t 104) (.t 106)), (some 107), none⟩])
 [1, 5, 6, 8, 9, 10, 11, 12, 13, 15, 16, 107]
 (.cond (.t 107) (.skip) (.exit 5)))
 [1, 5, 6, 8, 9, 10, 11, 12, 13, 15, 16]
 (.seq (.block 6 (.reg [⟨.op (.mv (.t 9)), (some 110), none⟩, ⟨.op (.mv (.t 15)), (some 111), none⟩, ⟨.op (.mv (.t 16)), (some 112), none⟩, ⟨.op (.ia 1 none (.t 111) (.t 112)), (some 113), none⟩, ⟨.op (.ld1 (.t 113)), (some 114), none⟩, ⟨.op (.bin .add 0 (.t 110) (.t 114)), (some 115), none⟩, ⟨.op (.mv (.t 115)), (some 9), none⟩]))
 [1, 5, 6, 8, 9, 10, 11, 12, 13, 15, 16]
 (.reg [⟨.op (.mv (.t 16)), (some 108), none⟩, ⟨.op (.bin .add 0 (.t 108) (.c (.int .i64 1))), (some 109), none⟩, ⟨.op (.mv (.t 109)), (some 16), none⟩]))) T st := rfl
noncomputable def l13_2 : DC :=
 .seq (.seq (.reg [⟨.op (.mv (.t 11)), (some 46), none⟩, ⟨.op (.mv (.t 1)), (some 47), none⟩, ⟨.op (.len (.t 47)), (some 48), none⟩, ⟨.op (.bin .lss 0 (.t 46) (.t 48)), (some 49), none⟩])
 [1, 5, 6, 8, 9, 10, 11, 49]
 (.cond (.t 49) (.skip) (.exit 2)))
 [1, 5, 6, 8, 9, 10, 11]
 (.seq (.block 3 (.seq (.reg [⟨.op (.mv (.t 1)), (some 52), none⟩, ⟨.op (.mv (.t 11)), (some 53), none⟩, ⟨.op (.ia 1 none (.t 52) (.t 53)), (some 54), none⟩, ⟨.op (.ld1 (.t 54)), (some 55), none⟩, ⟨.op (.conv .i64 (.t 55)), (some 56), none⟩, ⟨.op (.mv (.t 56)), (some 12), none⟩])
 [1, 5, 6, 8, 9, 10, 11, 12]
 (.seq (.reg [⟨.op (.mv (.t 12)), (some 57), none⟩, ⟨.op (.bin .rem 0 (.t 57) (.c (.int .i64 4))), (some 58), none⟩])
 [1, 5, 6, 8, 9, 10, 11, 12, 58]
 (.block 4 (.seq (.reg [⟨.op (.bin .eql 0 (.t 58) (.c (.int .i64 0))), (some 65), none⟩, ⟨.op (.mv (.t 65)), (some 64), none⟩])
 [1, 5, 6, 8, 9, 10, 11, 12, 58, 64]
 (.cond (.t 64) (.seq (.reg [⟨.op (.fa 2 (.t 6)), (some 66), none⟩, ⟨.op (.ld1 (.t 66)), (some 67), none⟩, ⟨.op (.len (.t 67)), (some 68), none⟩, ⟨.op (.bin .gtr 0 (.t 68) (.c (.int .i64 0))), (some 69), none⟩])
 [1, 5, 6, 8, 9, 10, 11, 12, 69]
 (.cond (.t 69) (.drw [⟨⟨.op (.mv (.t 10)), (some 70), none⟩, .n, []⟩, ⟨⟨.op (.fa 2 (.t 6)), (some 71), none⟩, .n, []⟩, ⟨⟨.op (.ld1 (.t 71)), (some 72), none⟩, .n, []⟩, ⟨⟨.op (.mv (.t 12)), (some 73), none⟩, .n, []⟩, ⟨⟨.op (.bin .quo 0 (.t 73) (.c (.int .i64 4))), (some 74), none⟩, .n, []⟩, ⟨⟨.op (.fa 2 (.t 6)), (some 75), none⟩, .n, []⟩, ⟨⟨.op (.ld1 (.t 75)), (some 76), none⟩, .n, []⟩, ⟨⟨.op (.len (.t 76)), (some 77), none⟩, .n, []⟩, ⟨⟨.op (.bin .rem 0 (.t 74) (.t 77)), (some 78), none⟩, .n, []⟩, ⟨⟨.op (.ia 2 none (.t 72) (.t 78)), (some 79), none⟩, .n, []⟩, ⟨⟨.op (.ldn 2 (.t 79)), (some 80), none⟩, .n, []⟩, ⟨⟨.op (.bslice 2 1 [(.int .i64 0), (.str [])] [(0, 2, (.t 80))]), (some 81), none⟩, .a, [(true, 10), (true, 6), (true, 2)]⟩, ⟨⟨.op (.app 2 24 false (.t 70) (.t 81)), (some 82), none⟩, .x, []⟩, ⟨⟨.op (.mv (.t 82)), (some 10), none⟩, .x, []⟩]) (.skip))) (.seq (.seq (.reg [⟨.op (.bin .eql 0 (.t 58) (.c (.int .i64 1))), (some 84), none⟩, ⟨.op (.mv (.t 84)), (some 83), none⟩])
 [1, 5, 6, 8, 9, 10, 11, 12, 58, 83]
 (.cond (.t 83) (.skip) (.reg [⟨.op (.bin .eql 0 (.t 58) (.c (.int .i64 2))), (some 85), none⟩, ⟨.op (.mv (.t 85)), (some 83), none⟩])))
 [1, 5, 6, 8, 9, 10, 11, 12, 83]
 (.cond (.t 83) (.seq (.reg [⟨.op (.mv (.t 10)), (some 86), none⟩, ⟨.op (.len (.t 86)), (some 87), none⟩, ⟨.op (.bin .gtr 0 (.t 87) (.c (.int .i64 0))), (some 88), none⟩])
 [1, 5, 6, 8, 9, 10, 11, 12, 88]
 (.cond (.t 88) (.seq (.reg [⟨.op (.mv (.t 12)), (some 89), none⟩, ⟨.op (.bin .quo 0 (.t 89) (.c (.int .i64 4))), (some 90), none⟩, ⟨.op (.mv (.t 10)), (some 91), none⟩, ⟨.op (.len (.t 91)), (some 92), none⟩, ⟨.op (.bin .rem 0 (.t 90) (.t 92)), (some 93), none⟩, ⟨.op (.mv (.t 93)), (some 13), none⟩])
 [1, 5, 6, 8, 9, 10, 11, 12, 13]
 (.seq (.drw [⟨⟨.op (.ldn 3 (.t 8)), (some 95), none⟩, .n, []⟩, ⟨⟨.op (.mv (.t 10)), (some 96), none⟩, .n, []⟩, ⟨⟨.op (.mv (.t 13)), (some 97), none⟩, .n, []⟩, ⟨⟨.op (.ia 2 none (.t 96) (.t 97)), (some 98), none⟩, .n, []⟩, ⟨⟨.op (.ldn 2 (.t 98)), (some 99), none⟩, .n, []⟩, ⟨⟨.op (.new [(.int .i64 0), (.sl none 0), (.sl none 0)]), (some 14), none⟩, .a, [(true, 4), (true, 0)]⟩, ⟨⟨.call 33 [(.t 95), (.t 99)], (some 100), none⟩, .x, [(false, 5)]⟩, ⟨⟨.op (.mv (.t 100)), (some 94), none⟩, .n, []⟩, ⟨⟨.op (.ext (.t 94) 0), (some 101), none⟩, .n, []⟩, ⟨⟨.op (.ext (.t 94) 1), (some 102), none⟩, .n, []⟩, ⟨⟨.op (.st 3 (.t 14) (.t 101)), none, none⟩, .x, []⟩, ⟨⟨.op (.mv (.t 102)), (some 15), none⟩, .x, []⟩])
 [1, 5, 6, 8, 9, 10, 11, 12, 13, 14, 15]
 (.seq (.reg [⟨.op (.ldn 3 (.t 14)), (some 103), none⟩, ⟨.op (.st 3 (.t 8) (.t 103)), none, none⟩])
 [1, 5, 6, 8, 9, 10, 11, 12, 13, 15]
 (.seq (.seq (.reg [⟨.op (.mv (.c (.int .i64 0))), (some 16), none⟩])
 [1, 5, 6, 8, 9, 10, 11, 12, 13, 15, 16]
 (.block 5 (.loop [1, 5, 6, 8, 9, 10, 11, 12, 13, 15, 16] (l13_1))))
 [1, 5, 6, 8, 9, 10, 11, 12, 13]
 (.seq (.reg [⟨.op (.mv (.t 12)), (some 116), none⟩, ⟨.op (.bin .rem 0 (.t 116) (.c (.int .i64 4))), (some 117), none⟩, ⟨.op (.bin .eql 0 (.t 117) (.c (.int .i64 1))), (some 118), none⟩])
 [1, 5, 6, 8, 9, 10, 11, 13, 118]
 (.cond (.t 118) (.drw [⟨⟨.op (.bslice 2 0 [] []), (some 119), none⟩, .a, []⟩, ⟨⟨.op (.mv (.t 10)), (some 120), none⟩, .n, []⟩, ⟨⟨.op (.mv (.t 13)), (some 121), none⟩, .n, []⟩, ⟨⟨.op (.cut 2 none (.t 120) none (some (.t 121))), (some 122), none⟩, .n, []⟩, ⟨⟨.op (.mv (.t 10)), (some 124), none⟩, .n, []⟩, ⟨⟨.op (.mv (.t 13)), (some 125), none⟩, .n, []⟩, ⟨⟨.op (.bin .add 0 (.t 125) (.c (.int .i64 1))), (some 126), none⟩, .n, []⟩, ⟨⟨.op (.cut 2 none (.t 124) (some (.t 126)) none), (some 127), none⟩, .n, []⟩, ⟨⟨.op (.app 2 24 false (.t 119) (.t 122)), (some 123), none⟩, .x, [(true, 7)]⟩, ⟨⟨.op (.app 2 24 false (.t 123) (.t 127)), (some 128), none⟩, .x, []⟩, ⟨⟨.op (.mv (.t 128)), (some 10), none⟩, .x, []⟩]) (.skip))))))) (.skip))) (.reg [⟨.op (.ldn 4 (.t 6)), (some 59), none⟩, ⟨.op (.fa 0 (.t 8)), (some 60), none⟩, ⟨.op (.fa 0 (.t 60)), (some 61), none⟩, ⟨.op (.ld1 (.t 61)), (some 62), none⟩, ⟨.call 38 [(.t 59), (.t 62)], (some 63), none⟩, ⟨.op (.st 4 (.t 6) (.t 63)), none, none⟩])))))))))
 [1, 5, 6, 8, 9, 10, 11]
 (.reg [⟨.op (.mv (.t 11)), (some 50), none⟩, ⟨.op (.bin .add 0 (.t 50) (.c (.int .i64 1))), (some 51), none⟩, ⟨.op (.mv (.t 51)), (some 11), none⟩]))
theorem u13_2 (call : DCall) (T : Tm) (st : Dv.St) : dCw Try.prog call l13_2 T st = dCw Try.prog call
 (.seq (.seq (.reg [⟨.op (.mv (.t 11)), (some 46), none⟩, ⟨.op (.mv (.t 1)), (some 47), none⟩, ⟨.op (.len (.t 47)), (some 48), none⟩, ⟨.op (.bin .lss 0 (.t 46) (.t 48)), (some 49), none⟩])
 [1, 5, 6, 8, 9, 10, 11, 49]
 (.cond (.t 49) (.skip) (.exit 2)))
 [1, 5, 6, 8, 9, 10, 11]
 (.seq (.block 3 (.seq (.reg [⟨.op (.mv (.t 1)), (some 52), none⟩, ⟨.op (.mv (.t 11)), (some 53), none⟩, ⟨.op (.ia 1 none (.t 52) (.t 53)), (some 54), none⟩, ⟨.op (.ld1 (.t 54)), (some 55), none⟩, ⟨.op (.conv .i64 (.t 55)), (some 56), none⟩, ⟨.op (.mv (.t 56)), (some 12), none⟩])
 [1, 5, 6, 8, 9, 10, 11, 12]
 (.seq (.reg [⟨.op (.mv (.t 12)), (some 57), none⟩, ⟨.op (.bin .rem 0 (.t 57) (.c (.int .i64 4))), (some 58), none⟩])
 [1, 5, 6, 8, 9, 10, 11, 12, 58]
 (.block 4 (.seq (.reg [⟨.op (.bin .eql 0 (.t 58) (.c (.int .i64 0))), (some 65), none⟩, ⟨.op (.mv (.t 65)), (some 64), none⟩])
 [1, 5, 6, 8, 9, 10, 11, 12, 58, 64]
 (.cond (.t 64) (.seq (.reg [⟨.op (.fa 2 (.t 6)), (some 66), none⟩, ⟨.op (.ld1 (.t 66)), (some 67), none⟩, ⟨.op (.len (.t 67)), (some 68), none⟩, ⟨.op (.bin .gtr 0 (.t 68) (.c (.int .i64 0))), (some 69), none⟩])
 [1, 5, 6, 8, 9, 10, 11, 12, 69]
 (.cond (.t 69) (.drw [⟨⟨.op (.mv (.t 10)), (some 70), none⟩, .n, []⟩, ⟨⟨.op (.fa 2 (.t 6)), (some 71), none⟩, .n, []⟩, ⟨⟨.op (.ld1 (.t 71)), (some 72), none⟩, .n, []⟩, ⟨⟨.op (.mv (.t 12)), (some 73), none⟩, .n, []⟩, ⟨⟨.op (.bin .quo 0 (.t 73) (.c (.int .i64 4))), (some 74), none⟩, .n, []⟩, ⟨⟨.op (.fa 2 (.t 6)), (some 75), none⟩, .n, []⟩, ⟨⟨.op (.ld1 (.t 75)), (some 76), none⟩, .n, []⟩, ⟨⟨.op (.len (.t 76)), (some 77), none⟩, .n, []⟩, ⟨⟨.op (.bin .rem 0 (.t 74) (.t 77)), (some 78), none⟩, .n, []⟩, ⟨⟨.op (.ia 2 none (.t 72) (.t 78)), (some 79), none⟩, .n, []⟩, ⟨⟨.op (.ldn 2 (.t 79)), (some 80), none⟩, .n, []⟩, ⟨⟨.op (.bslice 2 1 [(.int .i64 0), (.str [])] [(0, 2, (.t 80))]), (some 81), none⟩, .a, [(true, 10), (true, 6), (true, 2)]⟩, ⟨⟨.op (.app 2 24 false (.t 70) (.t 81)), (some 82), none⟩, .x, []⟩, ⟨⟨.op (.mv (.t 82)), (some 10), none⟩, .x, []⟩]) (.skip))) (.seq (.seq (.reg [⟨.op (.bin .eql 0 (.t 58) (.c (.int .i64 1))), (some 84), none⟩, ⟨.op (.mv (.t 84)), (some 83), none⟩])
 [1, 5, 6, 8, 9, 10, 11, 12, 58, 83]
 (.cond (.t 83) (.skip) (.reg [⟨.op (.bin .eql 0 (.t 58) (.c (.int .i64 2))), (some 85), none⟩, ⟨.op (.mv (.t 85)), (some 83), none⟩])))
 [1, 5, 6, 8, 9, 10, 11, 12, 83]
 (.cond (.t 83) (.seq (.reg [⟨.op (.mv (.t 10)), (some 86), none⟩, ⟨.op (.len (.t 86)), (some 87), none⟩, ⟨.op (.bin .gtr 0 (.t 87) (.c (.int .i64 0))), (some 88), none⟩])
 [1, 5, 6, 8, 9, 10, 11, 12, 88]
 (.cond (.t 88) (.seq (.reg [⟨.op (.mv (.t 12)), (some 89), none⟩, ⟨.op (.bin .quo 0 (.t 89) (.c (.int .i64 4))), (some 90), none⟩, ⟨.op (.mv (.t 10)), (some 91), none⟩, ⟨.op (.len (.t 91)), (some 92), none⟩, ⟨.op (.bin .rem 0 (.t 90) (.t 92)), (some 93), none⟩, ⟨.op (.mv (.t 93)), (some 13), none⟩])
 [1, 5, 6, 8, 9, 10, 11, 12, 13]
 (.seq (.drw [⟨⟨.op (.ldn 3 (.t 8)), (some 95), none⟩, .n, []⟩, ⟨⟨.op (.mv (.t 10)), (some 96), none⟩, .n, []⟩, ⟨⟨.op (.mv (.t 13)), (some 97), none⟩, .n, []⟩, ⟨⟨.op (.ia 2 none (.t 96) (.t 97)), (some 98), none⟩, .n, []⟩, ⟨⟨.op (.ldn 2 (.t 98)), (some 99), none⟩, .n, []⟩, ⟨⟨.op (.new [(.int .i64 0), (.sl none 0), (.sl none 0)]), (some 14), none⟩, .a, [(true, 4), (true, 0)]⟩, ⟨⟨.call 33 [(.t 95), (.t 99)], (some 100), none⟩, .x, [(false, 5)]⟩, ⟨⟨.op (.mv (.t 100)), (some 94), none⟩, .n, []⟩, ⟨⟨.op (.ext (.t 94) 0), (some 101), none⟩, .n, []⟩, ⟨⟨.op (.ext (.t 94) 1), (some 102), none⟩, .n, []⟩, ⟨⟨.op (.st 3 (.t 14) (.t 101)), none, none⟩, .x, []⟩, ⟨⟨.op (.mv (.t 102)), (some 15), none⟩, .x, []⟩])
 [1, 5, 6, 8, 9, 10, 11, 12, 13, 14, 15]
 (.seq (.reg [⟨.op (.ldn 3 (.t 14)), (some 103), none⟩, ⟨.op (.st 3 (.t 8) (.t 103)), none, none⟩])
 [1, 5, 6, 8, 9, 10, 11, 12, 13, 15]
 (.seq (.seq (.reg [⟨.op (.mv (.c (.int .i64 0))), (some 16), none⟩])
 [1, 5, 6, 8, 9, 10, 11, 12, 13, 15, 16]
 (.block 5 (.loop [1, 5, 6, 8, 9, 10, 11, 12, 13, 15, 16] (l13_1))))
 [1, 5, 6, 8, 9, 10, 11, 12, 13]
 (.seq (.reg [⟨.op (.mv (.t 12)), (some 116), none⟩, ⟨.op (.bin .rem 0 (.t 116) (.c (.int .i64 4))), (some 117), none⟩, ⟨.op (.bin .eql 0 (.t 117) (.c (.int .i64 1))), (some 118), none⟩])
 [1, 5, 6, 8, 9, 10, 11, 13, 118]
 (.cond (.t 118) (.drw [⟨⟨.op (.bslice 2 0 [] []), (some 119), none⟩, .a, []⟩, ⟨⟨.op (.mv (.t 10)), (some 120), none⟩, .n, []⟩, ⟨⟨.op (.mv (.t 13)), (some 121), none⟩, .n, []⟩, ⟨⟨.op (.cut 2 none (.t 120) none (some (.t 121))), (some 122), none⟩, .n, []⟩, ⟨⟨.op (.mv (.t 10)), (some 124), none⟩, .n, []⟩, ⟨⟨.op (.mv (.t 13)), (some 125), none⟩, .n, []⟩, ⟨⟨.op (.bin .add 0 (.t 125) (.c (.int .i64 1))), (some 126), none⟩, .n, []⟩, ⟨⟨.op (.cut 2 none (.t 124) (some (.t 126)) none), (some 127), none⟩, .n, []⟩, ⟨⟨.op (.app 2 24 false (.t 119) (.t 122)), (some 123), none⟩, .x, [(true, 7)]⟩, ⟨⟨.op (.app 2 24 false (.t 123) (.t 127)), (some 128), none⟩, .x, []⟩, ⟨⟨.op (.mv (.t 128)), (some 10), none⟩, .x, []⟩]) (.skip))))))) (.skip))) (.reg [⟨.op (.ldn 4 (.t 6)), (some 59), none⟩, ⟨.op (.fa 0 (.t 8)), (some 60), none⟩, ⟨.op (.fa 0 (.t 60)), (some 61), none⟩, ⟨.op (.ld1 (.t 61)), (some 62), none⟩, ⟨.call 38 [(.t 59), (.t 62)], (some 63), none⟩, ⟨.op (.st 4 (.t 6) (.t 63)), none, none⟩])))))))))
 [1, 5, 6, 8, 9, 10, 11]
 (.reg [⟨.op (.mv (.t 11)), (some 50), none⟩, ⟨.op (.bin .add 0 (.t 50) (.c (.int .i64 1))), (some 51), none⟩, ⟨.op (.mv (.t 51)), (some 11), none⟩]))) T st := rfl
noncomputable def l13_3 : DC :=
 .seq (.seq (.reg [⟨.op (.mv (.t 21)), (some 154), none⟩, ⟨.op (.mv (.t 20)), (some 155), none⟩, ⟨.op (.len (.t 155)), (some 156), none⟩, ⟨.op (.bin .lss 0 (.t 154) (.t 156)), (some 157), none⟩])
 [5, 6, 8, 9, 17, 18, 20, 21, 157]
 (.cond (.t 157) (.skip) (.exit 11)))
 [5, 6, 8, 9, 17, 18, 20, 21]
 (.seq (.block 12 (.reg [⟨.op (.mv (.t 9)), (some 160), none⟩, ⟨.op (.mv (.t 20)), (some 161), none⟩, ⟨.op (.mv (.t 21)), (some 162), none⟩, ⟨.op (.ia 1 none (.t 161) (.t 162)), (some 163), none⟩, ⟨.op (.ld1 (.t 163)), (some 164), none⟩, ⟨.op (.bin .add 0 (.t 160) (.t 164)), (some 165), none⟩, ⟨.op (.mv (.t 165)), (some 9), none⟩]))
 [5, 6, 8, 9, 17, 18, 20, 21]
 (.reg [⟨.op (.mv (.t 21)), (some 158), none⟩, ⟨.op (.bin .add 0 (.t 158) (.c (.int .i64 1))), (some 159), none⟩, ⟨.op (.mv (.t 159)), (some 21), none⟩]))
theorem u13_3 (call : DCall) (T : Tm) (st : Dv.St) : dCw Try.prog call l13_3 T st = dCw Try.prog call
 (.seq (.seq (.reg [⟨.op (.mv (.t 21)), (some 154), none⟩, ⟨.op (.mv (.t 20)), (some 155), none⟩, ⟨.op (.len (.t 155)), (some 156), none⟩, ⟨.op (.bin .lss 0 (.t 154) (.t 156)), (some 157), none⟩])
 [5, 6, 8, 9, 17, 18, 20, 21, 157]
 (.cond (.t 157) (.skip) (.exit 11)))
 [5, 6, 8, 9, 17, 18, 20, 21]
 (.seq (.block 12 (.reg [⟨.op (.mv (.t 9)), (some 160), none⟩, ⟨.op (.mv (.t 20)), (some 161), none⟩, ⟨.op (.mv (.t 21)), (some 162), none⟩, ⟨.op (.ia 1 none (.t 161) (.t 162)), (some 163), none⟩, ⟨.op (.ld1 (.t 163)), (some 164), none⟩, ⟨.op (.bin .add 0 (.t 160) (.t 164)), (some 165), none⟩, ⟨.op (.mv (.t 165)), (some 9), none⟩]))
 [5, 6, 8, 9, 17, 18, 20, 21]
 (.reg [⟨.op (.mv (.t 21)), (some 158), none⟩, ⟨.op (.bin .add 0 (.t 158) (.c (.int .i64 1))), (some 159), none⟩, ⟨.op (.mv (.t 159)), (some 21), none⟩]))) T st := rfl
noncomputable def l13_4 : DC :=
 .seq (.seq (.reg [⟨.op (.mv (.t 18)), (some 136), none⟩, ⟨.op (.fa 2 (.t 6)), (some 137), none⟩, ⟨.op (.ld1 (.t 137)), (some 138), none⟩, ⟨.op (.len (.t 138)), (some 139), none⟩, ⟨.op (.bin .lss 0 (.t 136) (.t 139)), (some 140), none⟩])
 [5, 6, 8, 9, 17, 18, 140]
 (.cond (.t 140) (.skip) (.exit 9)))
 [5, 6, 8, 9, 17, 18]
 (.seq (.block 10 (.seq (.drw [⟨⟨.op (.ldn 3 (.t 8)), (some 144), none⟩, .n, []⟩, ⟨⟨.op (.fa 2 (.t 6)), (some 145), none⟩, .n, []⟩, ⟨⟨.op (.ld1 (.t 145)), (some 146), none⟩, .n, []⟩, ⟨⟨.op (.mv (.t 18)), (some 147), none⟩, .n, []⟩, ⟨⟨.op (.ia 2 none (.t 146) (.t 147)), (some 148), none⟩, .n, []⟩, ⟨⟨.op (.ldn 2 (.t 148)), (some 149), none⟩, .n, []⟩, ⟨⟨.op (.new [(.int .i64 0), (.sl none 0), (.sl none 0)]), (some 19), none⟩, .a, [(true, 5), (true, 2), (true, 0)]⟩, ⟨⟨.call 33 [(.t 144), (.t 149)], (some 150), none⟩, .x, [(false, 6)]⟩, ⟨⟨.op (.mv (.t 150)), (some 143), none⟩, .n, []⟩, ⟨⟨.op (.ext (.t 143) 0), (some 151), none⟩, .n, []⟩, ⟨⟨.op (.ext (.t 143) 1), (some 152), none⟩, .n, []⟩, ⟨⟨.op (.st 3 (.t 19) (.t 151)), none, none⟩, .x, []⟩, ⟨⟨.op (.mv (.t 152)), (some 20), none⟩, .x, []⟩])
 [5, 6, 8, 9, 17, 18, 19, 20]
 (.seq (.reg [⟨.op (.ldn 3 (.t 19)), (some 153), none⟩, ⟨.op (.st 3 (.t 8) (.t 153)), none, none⟩])
 [5, 6, 8, 9, 17, 18, 20]
 (.seq (.reg [⟨.op (.mv (.c (.int .i64 0))), (some 21), none⟩])
 [5, 6, 8, 9, 17, 18, 20, 21]
 (.block 11 (.loop [5, 6, 8, 9, 17, 18, 20, 21] (l13_3)))))))
 [5, 6, 8, 9, 17, 18]
 (.reg [⟨.op (.mv (.t 18)), (some 141), none⟩, ⟨.op (.bin .add 0 (.t 141) (.c (.int .i64 1))), (some 142), none⟩, ⟨.op (.mv (.t 142)), (some 18), none⟩]))
theorem u13_4 (call : DCall) (T : Tm) (st : Dv.St) : dCw Try.prog call l13_4 T st = dCw Try.prog call
 (.seq (.seq (.reg [⟨.op (.mv (.t 18)), (some 136), none⟩, ⟨.op (.fa 2 (.t 6)), (some 137), none⟩, ⟨.op (.ld1 (.t 137)), (some 138), none⟩, ⟨.op (.len (.t 138)), (some 139), none⟩, ⟨.op (.bin .lss 0 (.t 136) (.t 139)), (some 140), none⟩])
 [5, 6, 8, 9, 17, 18, 140]
 (.cond (.t 140) (.skip) (.exit 9)))
 [5, 6, 8, 9, 17, 18]
 (.seq (.block 10 (.seq (.drw [⟨⟨.op (.ldn 3 (.t 8)), (some 144), none⟩, .n, []⟩, ⟨⟨.op (.fa 2 (.t 6)), (some 145), none⟩, .n, []⟩, ⟨⟨.op (.ld1 (.t 145)), (some 146), none⟩, .n, []⟩, ⟨⟨.op (.mv (.t 18)), (some 147), none⟩, .n, []⟩, ⟨⟨.op (.ia 2 none (.t 146) (.t 147)), (some 148), none⟩, .n, []⟩, ⟨⟨.op (.ldn 2 (.t 148)), (some 149), none⟩, .n, []⟩, ⟨⟨.op (.new [(.int .i64 0), (.sl none 0), (.sl none 0)]), (some 19), none⟩, .a, [(true, 5), (true, 2), (true, 0)]⟩, ⟨⟨.call 33 [(.t 144), (.t 149)], (some 150), none⟩, .x, [(false, 6)]⟩, ⟨⟨.op (.mv (.t 150)), (some 143), none⟩, .n, []⟩, ⟨⟨.op (.ext (.t 143) 0), (some 151), none⟩, .n, []⟩, ⟨⟨.op (.ext (.t 143) 1), (some 152), none⟩, .n, []⟩, ⟨⟨.op (.st 3 (.t 19) (.t 151)), none, none⟩, .x, []⟩, ⟨⟨.op (.mv (.t 152)), (some 20), none⟩, .x, []⟩])
 [5, 6, 8, 9, 17, 18, 19, 20]
 (.seq (.reg [⟨.op (.ldn 3 (.t 19)), (some 153), none⟩, ⟨.op (.st 3 (.t 8) (.t 153)), none, none⟩])
 [5, 6, 8, 9, 17, 18, 20]
 (.seq (.reg [⟨.op (.mv (.c (.int .i64 0))), (some 21), none⟩])
 [5, 6, 8, 9, 17, 18, 20, 21]
 (.block 11 (.loop [5, 6, 8, 9, 17, 18, 20, 21] (l13_3)))))))
 [5, 6, 8, 9, 17, 18]
 (.reg [⟨.op (.mv (.t 18)), (some 141), none⟩, ⟨.op (.bin .add 0 (.t 141) (.c (.int .i64 1))), (some 142), none⟩, ⟨.op (.mv (.t 142)), (some 18), none⟩]))) T st := rfl
noncomputable def l13_5 : DC :=
 .seq (.seq (.reg [⟨.op (.mv (.t 17)), (some 129), none⟩, ⟨.op (.mv (.t 5)), (some 130), none⟩, ⟨.op (.bin .mul 0 (.c (.int .i64 2)) (.t 130)), (some 131), none⟩, ⟨.op (.bin .add 0 (.t 131) (.c (.int .i64 2))), (some 132), none⟩, ⟨.op (.bin .lss 0 (.t 129) (.t 132)), (some 133), none⟩])
 [5, 6, 8, 9, 17, 133]
 (.cond (.t 133) (.skip) (.exit 7)))
 [5, 6, 8, 9, 17]
 (.seq (.block 8 (.seq (.seq (.reg [⟨.op (.mv (.c (.int .i64 0))), (some 18), none⟩])
 [5, 6, 8, 9, 17, 18]
 (.block 9 (.loop [5, 6, 8, 9, 17, 18] (l13_4))))
 [5, 6, 8, 9, 17]
 (.reg [⟨.op (.ldn 4 (.t 6)), (some 166), none⟩, ⟨.op (.fa 0 (.t 8)), (some 167), none⟩, ⟨.op (.fa 0 (.t 167)), (some 168), none⟩, ⟨.op (.ld1 (.t 168)), (some 169), none⟩, ⟨.call 38 [(.t 166), (.t 169)], (some 170), none⟩, ⟨.op (.st 4 (.t 6) (.t 170)), none, none⟩])))
 [5, 6, 8, 9, 17]
 (.reg [⟨.op (.mv (.t 17)), (some 134), none⟩, ⟨.op (.bin .add 0 (.t 134) (.c (.int .i64 1))), (some 135), none⟩, ⟨.op (.mv (.t 135)), (some 17), none⟩]))
theorem u13_5 (call : DCall) (T : Tm) (st : Dv.St) : dCw Try.prog call l13_5 T st = dCw Try.prog call
 (.seq (.seq (.reg [⟨.op (.mv (.t 17)), (some 129), none⟩, ⟨.op (.mv (.t 5)), (some 130), none⟩, ⟨.op (.bin .mul 0 (.c (.int .i64 2)) (.t 130)), (some 131), none⟩, ⟨.op (.bin .add 0 (.t 131) (.c (.int .i64 2))), (some 132), none⟩, ⟨.op (.bin .lss 0 (.t 129) (.t 132)), (some 133), none⟩])
 [5, 6, 8, 9, 17, 133]
 (.cond (.t 133) (.skip) (.exit 7)))
 [5, 6, 8, 9, 17]
 (.seq (.block 8 (.seq (.seq (.reg [⟨.op (.mv (.c (.int .i64 0))), (some 18), none⟩])
 [5, 6, 8, 9, 17, 18]
 (.block 9 (.loop [5, 6, 8, 9, 17, 18] (l13_4))))
 [5, 6, 8, 9, 17]
 (.reg [⟨.op (.ldn 4 (.t 6)), (some 166), none⟩, ⟨.op (.fa 0 (.t 8)), (some 167), none⟩, ⟨.op (.fa 0 (.t 167)), (some 168), none⟩, ⟨.op (.ld1 (.t 168)), (some 169), none⟩, ⟨.call 38 [(.t 166), (.t 169)], (some 170), none⟩, ⟨.op (.st 4 (.t 6) (.t 170)), none, none⟩])))
 [5, 6, 8, 9, 17]
 (.reg [⟨.op (.mv (.t 17)), (some 134), none⟩, ⟨.op (.bin .add 0 (.t 134) (.c (.int .i64 1))), (some 135), none⟩, ⟨.op (.mv (.t 135)), (some 17), none⟩]))) T st := rfl
noncomputable def l13_6 : DC :=
 .seq (.seq (.reg [⟨.op (.mv (.t 23)), (some 171), none⟩, ⟨.op (.mv (.t 5)), (some 172), none⟩, ⟨.op (.bin .lss 0 (.t 171) (.t 172)), (some 173), none⟩])
 [5, 6, 8, 9, 22, 23, 173]
 (.cond (.t 173) (.skip) (.exit 13)))
 [5, 6, 8, 9, 22, 23]
 (.seq (.block 14 (.reg [⟨.op (.mv (.t 22)), (some 176), none⟩, ⟨.op (.mv (.t 23)), (some 177), none⟩, ⟨.op (.bin .add 0 (.c (.int .i64 97)) (.t 177)), (some 178), none⟩, ⟨.op (.conv .u8 (.t 178)), (some 179), none⟩, ⟨.op (.bslice 1 1 [(.int .u8 0)] [(0, 1, (.t 179))]), (some 180), none⟩, ⟨.op (.string (.t 180)), (some 181), none⟩, ⟨.op (.bin .add 0 (.t 176) (.t 181)), (some 182), none⟩, ⟨.op (.mv (.t 182)), (some 22), none⟩]))
 [5, 6, 8, 9, 22, 23]
 (.reg [⟨.op (.mv (.t 23)), (some 174), none⟩, ⟨.op (.bin .add 0 (.t 174) (.c (.int .i64 1))), (some 175), none⟩, ⟨.op (.mv (.t 175)), (some 23), none⟩]))
theorem u13_6 (call : DCall) (T : Tm) (st : Dv.St) : dCw Try.prog call l13_6 T st = dCw Try.prog call
 (.seq (.seq (.reg [⟨.op (.mv (.t 23)), (some 171), none⟩, ⟨.op (.mv (.t 5)), (some 172), none⟩, ⟨.op (.bin .lss 0 (.t 171) (.t 172)), (some 173), none⟩])
 [5, 6, 8, 9, 22, 23, 173]
 (.cond (.t 173) (.skip) (.exit 13)))
 [5, 6, 8, 9, 22, 23]
 (.seq (.block 14 (.reg [⟨.op (.mv (.t 22)), (some 176), none⟩, ⟨.op (.mv (.t 23)), (some 177), none⟩, ⟨.op (.bin .add 0 (.c (.int .i64 97)) (.t 177)), (some 178), none⟩, ⟨.op (.conv .u8 (.t 178)), (some 179), none⟩, ⟨.op (.bslice 1 1 [(.int .u8 0)] [(0, 1, (.t 179))]), (some 180), none⟩, ⟨.op (.string (.t 180)), (some 181), none⟩, ⟨.op (.bin .add 0 (.t 176) (.t 181)), (some 182), none⟩, ⟨.op (.mv (.t 182)), (some 22), none⟩]))
 [5, 6, 8, 9, 22, 23]
 (.reg [⟨.op (.mv (.t 23)), (some 174), none⟩, ⟨.op (.bin .add 0 (.t 174) (.c (.int .i64 1))), (some 175), none⟩, ⟨.op (.mv (.t 175)), (some 23), none⟩]))) T st := rfl
/-- cardamom/cardamomlaw21.RcvrLink -/
noncomputable def c13 : DFn := ⟨211, .pure,
 .seq (.reg [⟨.op (.mv (.c (.bool false))), (some 4), none⟩])
 [0, 1]
 (.seq (.seq (.reg [⟨.call 32 [], (some 24), none⟩, ⟨.op (.not (.t 24)), (some 25), none⟩])
 [0, 1, 25]
 (.cond (.t 25) (.seq (.reg [⟨.op (.mv (.c (.bool false))), (some 4), none⟩])
 [4]
 (.ret)) (.skip)))
 [0, 1]
 (.seq (.seq (.reg [⟨.op (.mv (.t 1)), (some 26), none⟩, ⟨.op (.len (.t 26)), (some 27), none⟩, ⟨.op (.bin .gtr 0 (.t 27) (.c (.int .i64 150))), (some 28), none⟩])
 [0, 1, 28]
 (.cond (.t 28) (.seq (.reg [⟨.op (.mv (.c (.bool true))), (some 4), none⟩])
 [4]
 (.ret)) (.skip)))
 [0, 1]
 (.seq (.reg [⟨.op (.mv (.t 0)), (some 29), none⟩, ⟨.op (.bin .rem 0 (.t 29) (.c (.int .u8 20))), (some 30), none⟩, ⟨.op (.conv .i64 (.t 30)), (some 31), none⟩, ⟨.op (.mv (.t 31)), (some 5), none⟩])
 [1, 5]
 (.seq (.reg [⟨.call 36 [], (some 32), none⟩, ⟨.op (.new [(.int .i64 0), (.int .i64 0), (.sl none 0), (.sl none 0)]), (some 6), none⟩, ⟨.op (.st 4 (.t 6) (.t 32)), none, none⟩])
 [1, 5, 6]
 (.seq (.seq (.reg [⟨.op (.mv (.c (.int .i64 0))), (some 7), none⟩])
 [1, 5, 6, 7]
 (.block 0 (.loop [1, 5, 6, 7] (l13_0))))
 [1, 5, 6]
 (.seq (.reg [⟨.op (.build [(.int .i64 0), (.sl none 0), (.sl none 0)] []), (some 45), none⟩, ⟨.op (.new [(.int .i64 0), (.sl none 0), (.sl none 0)]), (some 8), none⟩, ⟨.op (.st 3 (.t 8) (.t 45)), none, none⟩])
 [1, 5, 6, 8]
 (.seq (.reg [⟨.op (.mv (.c (.str []))), (some 9), none⟩])
 [1, 5, 6, 8, 9]
 (.seq (.reg [⟨.op (.mv (.c (.sl none 0))), (some 10), none⟩])
 [1, 5, 6, 8, 9, 10]
 (.seq (.seq (.reg [⟨.op (.mv (.c (.int .i64 0))), (some 11), none⟩])
 [1, 5, 6, 8, 9, 10, 11]
 (.block 2 (.loop [1, 5, 6, 8, 9, 10, 11] (l13_2))))
 [5, 6, 8, 9]
 (.seq (.seq (.reg [⟨.op (.mv (.c (.int .i64 0))), (some 17), none⟩])
 [5, 6, 8, 9, 17]
 (.block 7 (.loop [5, 6, 8, 9, 17] (l13_5))))
 [5, 6, 8, 9]
 (.seq (.reg [⟨.op (.mv (.c (.str []))), (some 22), none⟩])
 [5, 6, 8, 9, 22]
 (.seq (.seq (.reg [⟨.op (.mv (.c (.int .i64 0))), (some 23), none⟩])
 [5, 6, 8, 9, 22, 23]
 (.block 13 (.loop [5, 6, 8, 9, 22, 23] (l13_6))))
 [5, 6, 8, 9, 22]
 (.seq (.reg [⟨.op (.mv (.t 9)), (some 183), none⟩, ⟨.op (.mv (.t 22)), (some 184), none⟩, ⟨.op (.bin .eql 0 (.t 183) (.t 184)), (some 185), none⟩, ⟨.op (.mv (.t 185)), (some 186), none⟩, ⟨.op (.fa 0 (.t 8)), (some 187), (some (186, true))⟩, ⟨.op (.fa 0 (.t 187)), (some 188), (some (186, true))⟩, ⟨.op (.ld1 (.t 188)), (some 189), (some (186, true))⟩, ⟨.op (.mv (.t 5)), (some 190), (some (186, true))⟩, ⟨.op (.bin .eql 0 (.t 189) (.t 190)), (some 191), (some (186, true))⟩, ⟨.op (.pick (.t 186) (.t 191) (.c (.bool false))), (some 192), none⟩, ⟨.op (.mv (.t 192)), (some 193), none⟩, ⟨.op (.fa 2 (.t 8)), (some 194), (some (193, true))⟩, ⟨.op (.ld1 (.t 194)), (some 195), (some (193, true))⟩, ⟨.op (.len (.t 195)), (some 196), (some (193, true))⟩, ⟨.op (.bin .eql 0 (.t 196) (.c (.int .i64 0))), (some 197), (some (193, true))⟩, ⟨.op (.pick (.t 193) (.t 197) (.c (.bool false))), (some 198), none⟩, ⟨.op (.mv (.t 198)), (some 199), none⟩, ⟨.op (.fa 2 (.t 6)), (some 200), (some (199, true))⟩, ⟨.op (.ld1 (.t 200)), (some 201), (some (199, true))⟩, ⟨.op (.len (.t 201)), (some 202), (some (199, true))⟩, ⟨.op (.bin .eql 0 (.t 202) (.c (.int .i64 0))), (some 203), (some (199, true))⟩, ⟨.op (.pick (.t 199) (.t 203) (.c (.bool false))), (some 204), none⟩, ⟨.op (.mv (.t 204)), (some 205), none⟩, ⟨.op (.fa 3 (.t 6)), (some 206), (some (205, true))⟩, ⟨.op (.ld1 (.t 206)), (some 207), (some (205, true))⟩, ⟨.op (.len (.t 207)), (some 208), (some (205, true))⟩, ⟨.op (.bin .eql 0 (.t 208) (.c (.int .i64 0))), (some 209), (some (205, true))⟩, ⟨.op (.pick (.t 205) (.t 209) (.c (.bool false))), (some 210), none⟩, ⟨.op (.mv (.t 210)), (some 4), none⟩])
 [4]
 (.ret)))))))))))))),
 [.tmp 4]⟩
theorem k13 : cFn Try.prog 13 = some c13.toE := by kernel_rfl
theorem w13 : c13.body.wf = true := by kernel_rfl
/-- cardamom/cardamomlaw21.begun -/
noncomputable def c32 : DFn := ⟨68, .pure,
 .seq (.reg [⟨.op (.mv (.c (.bool false))), (some 0), none⟩])
 []
 (.seq (.reg [⟨.op (.build [(.int .i64 0), (.sl none 0), (.sl none 0)] []), (some 8), none⟩, ⟨.op (.build [(.int .i64 0), (.str [])] [(0, 1, (.c (.int .i64 2))), (1, 1, (.c (.str [98])))]), (some 9), none⟩, ⟨.call 33 [(.t 8), (.t 9)], (some 10), none⟩, ⟨.op (.mv (.t 10)), (some 7), none⟩, ⟨.op (.ext (.t 7) 0), (some 11), none⟩, ⟨.op (.ext (.t 7) 1), (some 12), none⟩, ⟨.op (.new [(.int .i64 0), (.sl none 0), (.sl none 0)]), (some 1), none⟩, ⟨.op (.st 3 (.t 1) (.t 11)), none, none⟩, ⟨.op (.mv (.t 12)), (some 2), none⟩])
 [1, 2]
 (.seq (.reg [⟨.op (.ldn 3 (.t 1)), (some 14), none⟩, ⟨.op (.build [(.int .i64 0), (.str [])] [(0, 1, (.c (.int .i64 1))), (1, 1, (.c (.str [97])))]), (some 15), none⟩, ⟨.call 33 [(.t 14), (.t 15)], (some 16), none⟩, ⟨.op (.mv (.t 16)), (some 13), none⟩, ⟨.op (.ext (.t 13) 0), (some 17), none⟩, ⟨.op (.ext (.t 13) 1), (some 18), none⟩, ⟨.op (.new [(.int .i64 0), (.sl none 0), (.sl none 0)]), (some 3), none⟩, ⟨.op (.st 3 (.t 3) (.t 17)), none, none⟩, ⟨.op (.mv (.t 18)), (some 4), none⟩])
 [1, 2, 3, 4]
 (.seq (.reg [⟨.op (.ldn 3 (.t 3)), (some 20), none⟩, ⟨.op (.build [(.int .i64 0), (.str [])] [(0, 1, (.c (.int .i64 1))), (1, 1, (.c (.str [97])))]), (some 21), none⟩, ⟨.call 33 [(.t 20), (.t 21)], (some 22), none⟩, ⟨.op (.mv (.t 22)), (some 19), none⟩, ⟨.op (.ext (.t 19) 0), (some 23), none⟩, ⟨.op (.ext (.t 19) 1), (some 24), none⟩, ⟨.op (.new [(.int .i64 0), (.sl none 0), (.sl none 0)]), (some 5), none⟩, ⟨.op (.st 3 (.t 5) (.t 23)), none, none⟩, ⟨.op (.mv (.t 24)), (some 6), none⟩])
 [1, 2, 3, 4, 6]
 (.seq (.reg [⟨.op (.mv (.t 2)), (some 25), none⟩, ⟨.op (.len (.t 25)), (some 26), none⟩, ⟨.op (.bin .eql 0 (.t 26) (.c (.int .i64 0))), (some 27), none⟩, ⟨.op (.mv (.t 27)), (some 28), none⟩, ⟨.op (.fa 2 (.t 1)), (some 29), (some (28, true))⟩, ⟨.op (.ld1 (.t 29)), (some 30), (some (28, true))⟩, ⟨.op (.len (.t 30)), (some 31), (some (28, true))⟩, ⟨.op (.bin .eql 0 (.t 31) (.c (.int .i64 1))), (some 32), (some (28, true))⟩, ⟨.op (.pick (.t 28) (.t 32) (.c (.bool false))), (some 33), none⟩, ⟨.op (.mv (.t 33)), (some 34), none⟩, ⟨.op (.mv (.t 4)), (some 35), (some (34, true))⟩, ⟨.op (.len (.t 35)), (some 36), (some (34, true))⟩, ⟨.op (.bin .eql 0 (.t 36) (.c (.int .i64 2))), (some 37), (some (34, true))⟩, ⟨.op (.pick (.t 34) (.t 37) (.c (.bool false))), (some 38), none⟩, ⟨.op (.mv (.t 38)), (some 39), none⟩, ⟨.op (.mv (.t 4)), (some 40), (some (39, true))⟩, ⟨.op (.ia 1 none (.t 40) (.c (.int .i64 0))), (some 41), (some (39, true))⟩, ⟨.op (.ld1 (.t 41)), (some 42), (some (39, true))⟩, ⟨.op (.bin .eql 0 (.t 42) (.c (.str [97]))), (some 43), (some (39, true))⟩, ⟨.op (.pick (.t 39) (.t 43) (.c (.bool false))), (some 44), none⟩, ⟨.op (.mv (.t 44)), (some 45), none⟩, ⟨.op (.mv (.t 4)), (some 46), (some (45, true))⟩, ⟨.op (.ia 1 none (.t 46) (.c (.int .i64 1))), (some 47), (some (45, true))⟩, ⟨.op (.ld1 (.t 47)), (some 48), (some (45, true))⟩, ⟨.op (.bin .eql 0 (.t 48) (.c (.str [98]))), (some 49), (some (45, true))⟩, ⟨.op (.pick (.t 45) (.t 49) (.c (.bool false))), (some 50), none⟩, ⟨.op (.mv (.t 50)), (some 51), none⟩, ⟨.op (.fa 0 (.t 3)), (some 52), (some (51, true))⟩, ⟨.op (.fa 0 (.t 52)), (some 53), (some (51, true))⟩, ⟨.op (.ld1 (.t 53)), (some 54), (some (51, true))⟩, ⟨.op (.bin .eql 0 (.t 54) (.c (.int .i64 2))), (some 55), (some (51, true))⟩, ⟨.op (.pick (.t 51) (.t 55) (.c (.bool false))), (some 56), none⟩, ⟨.op (.mv (.t 56)), (some 57), none⟩, ⟨.op (.fa 2 (.t 3)), (some 58), (some (57, true))⟩, ⟨.op (.ld1 (.t 58)), (some 59), (some (57, true))⟩, ⟨.op (.len (.t 59)), (some 60), (some (57, true))⟩, ⟨.op (.bin .eql 0 (.t 60) (.c (.int .i64 0))), (some 61), (some (57, true))⟩, ⟨.op (.pick (.t 57) (.t 61) (.c (.bool false))), (some 62), none⟩, ⟨.op (.mv (.t 62)), (some 63), none⟩, ⟨.op (.mv (.t 6)), (some 64), (some (63, true))⟩, ⟨.op (.len (.t 64)), (some 65), (some (63, true))⟩, ⟨.op (.bin .eql 0 (.t 65) (.c (.int .i64 0))), (some 66), (some (63, true))⟩, ⟨.op (.pick (.t 63) (.t 66) (.c (.bool false))), (some 67), none⟩, ⟨.op (.mv (.t 67)), (some 0), none⟩])
 [0]
 (.ret))))),
 [.tmp 0]⟩
theorem k32 : cFn Try.prog 32 = some c32.toE := by kernel_rfl
theorem w32 : c32.body.wf = true := by kernel_rfl
/-- cardamom/know.Has -/
noncomputable def c25 : DFn := ⟨19, .pure,
 .seq (.reg [⟨.op (.box (.t 0)), (some 2), none⟩, ⟨.op (.mv (.c (.bool false))), (some 4), none⟩])
 [1, 2]
 (.seq (.reg [⟨.op (.mv (.t 1)), (some 5), none⟩, ⟨.op (.bin .geq 0 (.t 5) (.c (.int .i64 1))), (some 6), none⟩, ⟨.op (.mv (.t 6)), (some 7), none⟩, ⟨.op (.mv (.t 1)), (some 8), (some (7, true))⟩, ⟨.op (.fa 0 (.t 2)), (some 9), (some (7, true))⟩, ⟨.op (.ld1 (.t 9)), (some 10), (some (7, true))⟩, ⟨.op (.bin .leq 0 (.t 8) (.t 10)), (some 11), (some (7, true))⟩, ⟨.op (.pick (.t 7) (.t 11) (.c (.bool false))), (some 12), none⟩, ⟨.op (.mv (.t 12)), (some 13), none⟩, ⟨.op (.fa 1 (.t 2)), (some 14), (some (13, false))⟩, ⟨.op (.ld1 (.t 14)), (some 15), (some (13, false))⟩, ⟨.op (.mv (.t 1)), (some 16), (some (13, false))⟩, ⟨.call 48 [(.t 15), (.t 16)], (some 17), (some (13, false))⟩, ⟨.op (.pick (.t 13) (.c (.bool true)) (.t 17)), (some 18), none⟩, ⟨.op (.mv (.t 18)), (some 4), none⟩])
 [4]
 (.ret)),
 [.tmp 4]⟩
theorem k25 : cFn Try.prog 25 = some c25.toE := by kernel_rfl
theorem w25 : c25.body.wf = true := by kernel_rfl
/-- cardamom/know.Add -/
noncomputable def c24 : DFn := ⟨39, .pure,
 .seq (.reg [⟨.op (.box (.t 0)), (some 2), none⟩, ⟨.op (.new [(.int .i64 0), (.sl none 0)]), (some 4), none⟩])
 [1, 2, 4]
 (.seq (.reg [⟨.op (.fa 1 (.t 2)), (some 7), none⟩, ⟨.op (.ld1 (.t 7)), (some 8), none⟩, ⟨.call 44 [(.t 8)], (some 9), none⟩, ⟨.op (.fa 1 (.t 2)), (some 10), none⟩, ⟨.op (.st 1 (.t 10) (.t 9)), none, none⟩])
 [1, 2, 4]
 (.seq (.seq (.reg [⟨.op (.mv (.t 1)), (some 11), none⟩, ⟨.op (.bin .lss 0 (.t 11) (.c (.int .i64 1))), (some 12), none⟩, ⟨.op (.mv (.t 12)), (some 13), none⟩, ⟨.op (.mv (.t 1)), (some 14), (some (13, false))⟩, ⟨.op (.bin .gtr 0 (.t 14) (.c (.int .i64 1000000))), (some 15), (some (13, false))⟩, ⟨.op (.pick (.t 13) (.c (.bool true)) (.t 15)), (some 16), none⟩, ⟨.op (.mv (.t 16)), (some 17), none⟩, ⟨.op (.ldn 2 (.t 2)), (some 18), (some (17, false))⟩, ⟨.op (.mv (.t 1)), (some 19), (some (17, false))⟩, ⟨.call 25 [(.t 18), (.t 19)], (some 20), (some (17, false))⟩, ⟨.op (.pick (.t 17) (.c (.bool true)) (.t 20)), (some 21), none⟩])
 [1, 2, 4, 21]
 (.cond (.t 21) (.seq (.reg [⟨.op (.ldn 2 (.t 2)), (some 22), none⟩, ⟨.op (.st 2 (.t 4) (.t 22)), none, none⟩])
 [4]
 (.ret)) (.skip)))
 [1, 2, 4]
 (.seq (.reg [⟨.op (.fa 1 (.t 2)), (some 24), none⟩, ⟨.op (.ld1 (.t 24)), (some 25), none⟩, ⟨.op (.mv (.t 1)), (some 26), none⟩, ⟨.call 45 [(.t 25), (.t 26)], (some 27), none⟩, ⟨.op (.mv (.t 27)), (some 23), none⟩, ⟨.op (.ext (.t 23) 0), (some 28), none⟩, ⟨.op (.ext (.t 23) 1), (some 29), none⟩, ⟨.op (.mv (.t 28)), (some 5), none⟩, ⟨.op (.mv (.t 29)), (some 6), none⟩])
 [1, 2, 4, 5]
 (.seq (.reg [⟨.op (.fa 1 (.t 2)), (some 30), none⟩, ⟨.op (.ld1 (.t 30)), (some 31), none⟩, ⟨.op (.mv (.t 5)), (some 32), none⟩, ⟨.op (.mv (.t 1)), (some 33), none⟩, ⟨.op (.bslice 1 1 [(.int .i64 0)] [(0, 1, (.t 33))]), (some 34), none⟩, ⟨.call 46 [(.t 31), (.t 32), (.t 34)], (some 35), none⟩, ⟨.op (.fa 1 (.t 2)), (some 36), none⟩, ⟨.op (.st 1 (.t 36) (.t 35)), none, none⟩])
 [2, 4]
 (.seq (.reg [⟨.op (.ldn 2 (.t 2)), (some 37), none⟩, ⟨.call 47 [(.t 37)], (some 38), none⟩, ⟨.op (.st 2 (.t 4) (.t 38)), none, none⟩])
 [4]
 (.ret)))))),
 [.celln 2 4]⟩
theorem k24 : cFn Try.prog 24 = some c24.toE := by kernel_rfl
theorem w24 : c24.body.wf = true := by kernel_rfl
noncomputable def l47_0 : DC :=
 .seq (.seq (.drw [⟨⟨.op (.mv (.t 3)), (some 7), none⟩, .n, []⟩, ⟨⟨.op (.len (.t 7)), (some 8), none⟩, .n, []⟩, ⟨⟨.op (.bin .gtr 0 (.t 8) (.c (.int .i64 0))), (some 9), none⟩, .n, []⟩, ⟨⟨.op (.mv (.t 9)), (some 10), none⟩, .n, []⟩, ⟨⟨.op (.mv (.t 3)), (some 11), (some (10, true))⟩, .n, []⟩, ⟨⟨.op (.ia 1 none (.t 11) (.c (.int .i64 0))), (some 12), (some (10, true))⟩, .n, []⟩, ⟨⟨.op (.ld1 (.t 12)), (some 13), (some (10, true))⟩, .n, []⟩, ⟨⟨.op (.fa 0 (.t 1)), (some 14), (some (10, true))⟩, .n, []⟩, ⟨⟨.op (.ld1 (.t 14)), (some 15), (some (10, true))⟩, .n, []⟩, ⟨⟨.op (.bin .add 0 (.t 15) (.c (.int .i64 1))), (some 16), (some (10, true))⟩, .n, []⟩, ⟨⟨.op (.bin .leq 0 (.t 13) (.t 16)), (some 17), (some (10, true))⟩, .n, []⟩, ⟨⟨.op (.pick (.t 10) (.t 17) (.c (.bool false))), (some 18), none⟩, .n, []⟩])
 [1, 2, 3, 18]
 (.cond (.t 18) (.skip) (.exit 0)))
 [1, 2, 3]
 (.block 1 (.drw [⟨⟨.op (.fa 0 (.t 1)), (some 19), none⟩, .n, []⟩, ⟨⟨.op (.ld1 (.t 19)), (some 20), none⟩, .n, []⟩, ⟨⟨.op (.mv (.t 3)), (some 21), none⟩, .n, []⟩, ⟨⟨.op (.ia 1 none (.t 21) (.c (.int .i64 0))), (some 22), none⟩, .n, []⟩, ⟨⟨.op (.ld1 (.t 22)), (some 23), none⟩, .n, []⟩, ⟨⟨.op (.slow (operAt Try.prog 47 23)), (some 24), none⟩, .n, []⟩, ⟨⟨.op (.mv (.t 3)), (some 25), none⟩, .n, []⟩, ⟨⟨.op (.cut 1 none (.t 25) (some (.c (.int .i64 1))) none), (some 26), none⟩, .n, []⟩, ⟨⟨.op (.fa 0 (.t 1)), (some 27), none⟩, .n, []⟩, ⟨⟨.op (.st 1 (.t 27) (.t 24)), none, none⟩, .x, [(true, 7)]⟩, ⟨⟨.op (.mv (.t 26)), (some 3), none⟩, .x, []⟩]))
theorem u47_0 (call : DCall) (T : Tm) (st : Dv.St) : dCw Try.prog call l47_0 T st = dCw Try.prog call
 (.seq (.seq (.drw [⟨⟨.op (.mv (.t 3)), (some 7), none⟩, .n, []⟩, ⟨⟨.op (.len (.t 7)), (some 8), none⟩, .n, []⟩, ⟨⟨.op (.bin .gtr 0 (.t 8) (.c (.int .i64 0))), (some 9), none⟩, .n, []⟩, ⟨⟨.op (.mv (.t 9)), (some 10), none⟩, .n, []⟩, ⟨⟨.op (.mv (.t 3)), (some 11), (some (10, true))⟩, .n, []⟩, ⟨⟨.op (.ia 1 none (.t 11) (.c (.int .i64 0))), (some 12), (some (10, true))⟩, .n, []⟩, ⟨⟨.op (.ld1 (.t 12)), (some 13), (some (10, true))⟩, .n, []⟩, ⟨⟨.op (.fa 0 (.t 1)), (some 14), (some (10, true))⟩, .n, []⟩, ⟨⟨.op (.ld1 (.t 14)), (some 15), (some (10, true))⟩, .n, []⟩, ⟨⟨.op (.bin .add 0 (.t 15) (.c (.int .i64 1))), (some 16), (some (10, true))⟩, .n, []⟩, ⟨⟨.op (.bin .leq 0 (.t 13) (.t 16)), (some 17), (some (10, true))⟩, .n, []⟩, ⟨⟨.op (.pick (.t 10) (.t 17) (.c (.bool false))), (some 18), none⟩, .n, []⟩])
 [1, 2, 3, 18]
 (.cond (.t 18) (.skip) (.exit 0)))
 [1, 2, 3]
 (.block 1 (.drw [⟨⟨.op (.fa 0 (.t 1)), (some 19), none⟩, .n, []⟩, ⟨⟨.op (.ld1 (.t 19)), (some 20), none⟩, .n, []⟩, ⟨⟨.op (.mv (.t 3)), (some 21), none⟩, .n, []⟩, ⟨⟨.op (.ia 1 none (.t 21) (.c (.int .i64 0))), (some 22), none⟩, .n, []⟩, ⟨⟨.op (.ld1 (.t 22)), (some 23), none⟩, .n, []⟩, ⟨⟨.op (.slow (operAt Try.prog 47 23)), (some 24), none⟩, .n, []⟩, ⟨⟨.op (.mv (.t 3)), (some 25), none⟩, .n, []⟩, ⟨⟨.op (.cut 1 none (.t 25) (some (.c (.int .i64 1))) none), (some 26), none⟩, .n, []⟩, ⟨⟨.op (.fa 0 (.t 1)), (some 27), none⟩, .n, []⟩, ⟨⟨.op (.st 1 (.t 27) (.t 24)), none, none⟩, .x, [(true, 7)]⟩, ⟨⟨.op (.mv (.t 26)), (some 3), none⟩, .x, []⟩]))) T st := rfl
/-- cardamom/know.whole -/
noncomputable def c47 : DFn := ⟨31, .pure,
 .seq (.reg [⟨.op (.box (.t 0)), (some 1), none⟩, ⟨.op (.new [(.int .i64 0), (.sl none 0)]), (some 2), none⟩])
 [1, 2]
 (.seq (.reg [⟨.op (.fa 1 (.t 1)), (some 4), none⟩, ⟨.op (.ld1 (.t 4)), (some 5), none⟩, ⟨.call 44 [(.t 5)], (some 6), none⟩, ⟨.op (.mv (.t 6)), (some 3), none⟩])
 [1, 2, 3]
 (.seq (.block 0 (.loop [1, 2, 3] (l47_0)))
 [1, 2, 3]
 (.seq (.reg [⟨.op (.mv (.t 3)), (some 28), none⟩, ⟨.op (.fa 1 (.t 1)), (some 29), none⟩, ⟨.op (.st 1 (.t 29) (.t 28)), none, none⟩])
 [1, 2]
 (.seq (.reg [⟨.op (.ldn 2 (.t 1)), (some 30), none⟩, ⟨.op (.st 2 (.t 2) (.t 30)), none, none⟩])
 [2]
 (.ret))))),
 [.celln 2 2]⟩
theorem k47 : cFn Try.prog 47 = some c47.toE := by kernel_rfl
theorem w47 : c47.body.wf = true := by kernel_rfl
/-- slices.Contains[[]int,int] -/
noncomputable def c48 : DFn := ⟨9, .pure,
 .seq (.reg [⟨.op (.mv (.c (.bool false))), (some 4), none⟩])
 [0, 1]
 (.seq (.reg [⟨.op (.mv (.t 0)), (some 5), none⟩, ⟨.op (.mv (.t 1)), (some 6), none⟩, ⟨.call 76 [(.t 5), (.t 6)], (some 7), none⟩, ⟨.op (.bin .geq 0 (.t 7) (.c (.int .i64 0))), (some 8), none⟩, ⟨.op (.mv (.t 8)), (some 4), none⟩])
 [4]
 (.ret)),
 [.tmp 4]⟩
theorem k48 : cFn Try.prog 48 = some c48.toE := by kernel_rfl
theorem w48 : c48.body.wf = true := by kernel_rfl
noncomputable def l76_0 : DC :=
 .seq (.reg [⟨.op (.bin .lss 0 (.t 8) (.t 7)), (some 9), none⟩])
 [0, 1, 7, 8, 9]
 (.seq (.cond (.t 9) (.skip) (.exit 0))
 [0, 1, 7, 8]
 (.seq (.block 1 (.seq (.reg [⟨.op (.mv (.t 8)), (some 10), none⟩, ⟨.op (.mv (.t 10)), (some 5), none⟩])
 [0, 1, 5, 7, 8]
 (.seq (.reg [⟨.op (.mv (.t 1)), (some 11), none⟩, ⟨.op (.mv (.t 0)), (some 12), none⟩, ⟨.op (.mv (.t 5)), (some 13), none⟩, ⟨.op (.ia 1 none (.t 12) (.t 13)), (some 14), none⟩, ⟨.op (.ld1 (.t 14)), (some 15), none⟩, ⟨.op (.bin .eql 0 (.t 11) (.t 15)), (some 16), none⟩])
 [0, 1, 5, 7, 8, 16]
 (.cond (.t 16) (.seq (.reg [⟨.op (.mv (.t 5)), (some 17), none⟩, ⟨.op (.mv (.t 17)), (some 4), none⟩])
 [4]
 (.ret)) (.skip)))))
 [0, 1, 7, 8]
 (.reg [⟨.op (.bin .add 0 (.t 8) (.c (.int .i64 1))), (some 18), none⟩, ⟨.op (.mv (.t 18)), (some 8), none⟩])))
theorem u76_0 (call : DCall) (T : Tm) (st : Dv.St) : dCw Try.prog call l76_0 T st = dCw Try.prog call
 (.seq (.reg [⟨.op (.bin .lss 0 (.t 8) (.t 7)), (some 9), none⟩])
 [0, 1, 7, 8, 9]
 (.seq (.cond (.t 9) (.skip) (.exit 0))
 [0, 1, 7, 8]
 (.seq (.block 1 (.seq (.reg [⟨.op (.mv (.t 8)), (some 10), none⟩, ⟨.op (.mv (.t 10)), (some 5), none⟩])
 [0, 1, 5, 7, 8]
 (.seq (.reg [⟨.op (.mv (.t 1)), (some 11), none⟩, ⟨.op (.mv (.t 0)), (some 12), none⟩, ⟨.op (.mv (.t 5)), (some 13), none⟩, ⟨.op (.ia 1 none (.t 12) (.t 13)), (some 14), none⟩, ⟨.op (.ld1 (.t 14)), (some 15), none⟩, ⟨.op (.bin .eql 0 (.t 11) (.t 15)), (some 16), none⟩])
 [0, 1, 5, 7, 8, 16]
 (.cond (.t 16) (.seq (.reg [⟨.op (.mv (.t 5)), (some 17), none⟩, ⟨.op (.mv (.t 17)), (some 4), none⟩])
 [4]
 (.ret)) (.skip)))))
 [0, 1, 7, 8]
 (.reg [⟨.op (.bin .add 0 (.t 8) (.c (.int .i64 1))), (some 18), none⟩, ⟨.op (.mv (.t 18)), (some 8), none⟩])))) T st := rfl
/-- slices.Index[[]int,int] -/
noncomputable def c76 : DFn := ⟨19, .pure,
 .seq (.reg [⟨.op (.mv (.c (.int .i64 0))), (some 4), none⟩])
 [0, 1]
 (.seq (.seq (.reg [⟨.op (.mv (.t 0)), (some 6), none⟩, ⟨.op (.len (.t 6)), (some 7), none⟩, ⟨.op (.mv (.c (.int .i64 0))), (some 8), none⟩])
 [0, 1, 7, 8]
 (.block 0 (.loop [0, 1, 7, 8] (l76_0))))
 []
 (.seq (.reg [⟨.op (.mv (.c (.int .i64 (-1)))), (some 4), none⟩])
 [4]
 (.ret))),
 [.tmp 4]⟩
theorem k76 : cFn Try.prog 76 = some c76.toE := by kernel_rfl
theorem w76 : c76.body.wf = true := by kernel_rfl
/-- slices.Clone[[]int,int] -/
noncomputable def c44 : DFn := ⟨8, .pure,
 .seq (.reg [⟨.op (.mv (.c (.sl none 0))), (some 2), none⟩])
 [0]
 (.seq (.seq (.reg [⟨.op (.mv (.t 0)), (some 3), none⟩, ⟨.op (.bin .eql 1 (.t 3) (.c (.sl none 0))), (some 4), none⟩])
 [0, 4]
 (.cond (.t 4) (.seq (.reg [⟨.op (.mv (.c (.sl none 0))), (some 2), none⟩])
 [2]
 (.ret)) (.skip)))
 [0]
 (.seq (.reg [⟨.op (.bslice 1 0 [] []), (some 5), none⟩, ⟨.op (.mv (.t 0)), (some 6), none⟩, ⟨.op (.app 1 8 false (.t 5) (.t 6)), (some 7), none⟩, ⟨.op (.mv (.t 7)), (some 2), none⟩])
 [2]
 (.ret))),
 [.tmp 2]⟩
theorem k44 : cFn Try.prog 44 = some c44.toE := by kernel_rfl
theorem w44 : c44.body.wf = true := by kernel_rfl
noncomputable def l45_0 : DC :=
 .seq (.seq (.reg [⟨.op (.mv (.t 7)), (some 13), none⟩, ⟨.op (.mv (.t 8)), (some 14), none⟩, ⟨.op (.bin .lss 0 (.t 13) (.t 14)), (some 15), none⟩])
 [0, 1, 6, 7, 8, 15]
 (.cond (.t 15) (.skip) (.exit 0)))
 [0, 1, 6, 7, 8]
 (.block 1 (.seq (.reg [⟨.op (.mv (.t 7)), (some 16), none⟩, ⟨.op (.mv (.t 8)), (some 17), none⟩, ⟨.op (.bin .add 0 (.t 16) (.t 17)), (some 18), none⟩, ⟨.op (.conv .u64 (.t 18)), (some 19), none⟩, ⟨.op (.slow (operAt Try.prog 45 15)), (some 20), none⟩, ⟨.op (.conv .i64 (.t 20)), (some 21), none⟩, ⟨.op (.mv (.t 21)), (some 9), none⟩])
 [0, 1, 6, 7, 8, 9]
 (.seq (.reg [⟨.op (.mv (.t 0)), (some 22), none⟩, ⟨.op (.mv (.t 9)), (some 23), none⟩, ⟨.op (.ia 1 none (.t 22) (.t 23)), (some 24), none⟩, ⟨.op (.ld1 (.t 24)), (some 25), none⟩, ⟨.op (.mv (.t 1)), (some 26), none⟩, ⟨.call 72 [(.t 25), (.t 26)], (some 27), none⟩])
 [0, 1, 6, 7, 8, 9, 27]
 (.cond (.t 27) (.reg [⟨.op (.mv (.t 9)), (some 28), none⟩, ⟨.op (.bin .add 0 (.t 28) (.c (.int .i64 1))), (some 29), none⟩, ⟨.op (.mv (.t 29)), (some 7), none⟩]) (.reg [⟨.op (.mv (.t 9)), (some 30), none⟩, ⟨.op (.mv (.t 30)), (some 8), none⟩])))))
theorem u45_0 (call : DCall) (T : Tm) (st : Dv.St) : dCw Try.prog call l45_0 T st = dCw Try.prog call
 (.seq (.seq (.reg [⟨.op (.mv (.t 7)), (some 13), none⟩, ⟨.op (.mv (.t 8)), (some 14), none⟩, ⟨.op (.bin .lss 0 (.t 13) (.t 14)), (some 15), none⟩])
 [0, 1, 6, 7, 8, 15]
 (.cond (.t 15) (.skip) (.exit 0)))
 [0, 1, 6, 7, 8]
 (.block 1 (.seq (.reg [⟨.op (.mv (.t 7)), (some 16), none⟩, ⟨.op (.mv (.t 8)), (some 17), none⟩, ⟨.op (.bin .add 0 (.t 16) (.t 17)), (some 18), none⟩, ⟨.op (.conv .u64 (.t 18)), (some 19), none⟩, ⟨.op (.slow (operAt Try.prog 45 15)), (some 20), none⟩, ⟨.op (.conv .i64 (.t 20)), (some 21), none⟩, ⟨.op (.mv (.t 21)), (some 9), none⟩])
 [0, 1, 6, 7, 8, 9]
 (.seq (.reg [⟨.op (.mv (.t 0)), (some 22), none⟩, ⟨.op (.mv (.t 9)), (some 23), none⟩, ⟨.op (.ia 1 none (.t 22) (.t 23)), (some 24), none⟩, ⟨.op (.ld1 (.t 24)), (some 25), none⟩, ⟨.op (.mv (.t 1)), (some 26), none⟩, ⟨.call 72 [(.t 25), (.t 26)], (some 27), none⟩])
 [0, 1, 6, 7, 8, 9, 27]
 (.cond (.t 27) (.reg [⟨.op (.mv (.t 9)), (some 28), none⟩, ⟨.op (.bin .add 0 (.t 28) (.c (.int .i64 1))), (some 29), none⟩, ⟨.op (.mv (.t 29)), (some 7), none⟩]) (.reg [⟨.op (.mv (.t 9)), (some 30), none⟩, ⟨.op (.mv (.t 30)), (some 8), none⟩])))))) T st := rfl
/-- slices.BinarySearch[[]int,int] -/
noncomputable def c45 : DFn := ⟨54, .pure,
 .seq (.reg [⟨.op (.mv (.c (.int .i64 0))), (some 4), none⟩, ⟨.op (.mv (.c (.bool false))), (some 5), none⟩])
 [0, 1]
 (.seq (.reg [⟨.op (.mv (.t 0)), (some 10), none⟩, ⟨.op (.len (.t 10)), (some 11), none⟩, ⟨.op (.mv (.t 11)), (some 6), none⟩])
 [0, 1, 6]
 (.seq (.reg [⟨.op (.mv (.t 6)), (some 12), none⟩, ⟨.op (.mv (.c (.int .i64 0))), (some 7), none⟩, ⟨.op (.mv (.t 12)), (some 8), none⟩])
 [0, 1, 6, 7, 8]
 (.seq (.block 0 (.loop [0, 1, 6, 7, 8] (l45_0)))
 [0, 1, 6, 7]
 (.seq (.reg [⟨.op (.mv (.t 7)), (some 31), none⟩, ⟨.op (.mv (.t 7)), (some 32), none⟩, ⟨.op (.mv (.t 6)), (some 33), none⟩, ⟨.op (.bin .lss 0 (.t 32) (.t 33)), (some 34), none⟩, ⟨.op (.mv (.t 34)), (some 35), none⟩, ⟨.op (.mv (.t 0)), (some 36), (some (35, true))⟩, ⟨.op (.mv (.t 7)), (some 37), (some (35, true))⟩, ⟨.op (.ia 1 none (.t 36) (.t 37)), (some 38), (some (35, true))⟩, ⟨.op (.ld1 (.t 38)), (some 39), (some (35, true))⟩, ⟨.op (.mv (.t 1)), (some 40), (some (35, true))⟩, ⟨.op (.bin .eql 0 (.t 39) (.t 40)), (some 41), (some (35, true))⟩, ⟨.op (.mv (.t 41)), (some 42), (some (35, true))⟩, ⟨.op (.mv (.t 0)), (some 43), (some (42, false))⟩, ⟨.op (.mv (.t 7)), (some 44), (some (42, false))⟩, ⟨.op (.ia 1 none (.t 43) (.t 44)), (some 45), (some (42, false))⟩, ⟨.op (.ld1 (.t 45)), (some 46), (some (42, false))⟩, ⟨.call 73 [(.t 46)], (some 47), (some (42, false))⟩, ⟨.op (.mv (.t 47)), (some 48), (some (42, false))⟩, ⟨.op (.mv (.t 1)), (some 49), (some (48, true))⟩, ⟨.call 73 [(.t 49)], (some 50), (some (48, true))⟩, ⟨.op (.pick (.t 48) (.t 50) (.c (.bool false))), (some 51), (some (42, false))⟩, ⟨.op (.pick (.t 42) (.c (.bool true)) (.t 51)), (some 52), (some (35, true))⟩, ⟨.op (.pick (.t 35) (.t 52) (.c (.bool false))), (some 53), none⟩, ⟨.op (.mv (.t 31)), (some 4), none⟩, ⟨.op (.mv (.t 53)), (some 5), none⟩])
 [4, 5]
 (.ret))))),
 [.tmp 4, .tmp 5]⟩
theorem k45 : cFn Try.prog 45 = some c45.toE := by kernel_rfl
theorem w45 : c45.body.wf = true := by kernel_rfl
/-- cmp.Less[int] -/
noncomputable def c72 : DFn := ⟨17, .pure,
 .seq (.reg [⟨.op (.mv (.c (.bool false))), (some 4), none⟩])
 [0, 1]
 (.seq (.reg [⟨.op (.mv (.t 0)), (some 5), none⟩, ⟨.call 71 [(.t 5)], (some 6), none⟩, ⟨.op (.mv (.t 6)), (some 7), none⟩, ⟨.op (.mv (.t 1)), (some 8), (some (7, true))⟩, ⟨.call 71 [(.t 8)], (some 9), (some (7, true))⟩, ⟨.op (.not (.t 9)), (some 10), (some (7, true))⟩, ⟨.op (.pick (.t 7) (.t 10) (.c (.bool false))), (some 11), none⟩, ⟨.op (.mv (.t 11)), (some 12), none⟩, ⟨.op (.mv (.t 0)), (some 13), (some (12, false))⟩, ⟨.op (.mv (.t 1)), (some 14), (some (12, false))⟩, ⟨.op (.bin .lss 0 (.t 13) (.t 14)), (some 15), (some (12, false))⟩, ⟨.op (.pick (.t 12) (.c (.bool true)) (.t 15)), (some 16), none⟩, ⟨.op (.mv (.t 16)), (some 4), none⟩])
 [4]
 (.ret)),
 [.tmp 4]⟩
theorem k72 : cFn Try.prog 72 = some c72.toE := by kernel_rfl
theorem w72 : c72.body.wf = true := by kernel_rfl
/-- cmp.isNaN[int] -/
noncomputable def c71 : DFn := ⟨6, .pure,
 .seq (.reg [⟨.op (.mv (.c (.bool false))), (some 2), none⟩])
 [0]
 (.seq (.reg [⟨.op (.mv (.t 0)), (some 3), none⟩, ⟨.op (.mv (.t 0)), (some 4), none⟩, ⟨.op (.bin .neq 0 (.t 3) (.t 4)), (some 5), none⟩, ⟨.op (.mv (.t 5)), (some 2), none⟩])
 [2]
 (.ret)),
 [.tmp 2]⟩
theorem k71 : cFn Try.prog 71 = some c71.toE := by kernel_rfl
theorem w71 : c71.body.wf = true := by kernel_rfl
/-- slices.isNaN[int] -/
noncomputable def c73 : DFn := ⟨6, .pure,
 .seq (.reg [⟨.op (.mv (.c (.bool false))), (some 2), none⟩])
 [0]
 (.seq (.reg [⟨.op (.mv (.t 0)), (some 3), none⟩, ⟨.op (.mv (.t 0)), (some 4), none⟩, ⟨.op (.bin .neq 0 (.t 3) (.t 4)), (some 5), none⟩, ⟨.op (.mv (.t 5)), (some 2), none⟩])
 [2]
 (.ret)),
 [.tmp 2]⟩
theorem k73 : cFn Try.prog 73 = some c73.toE := by kernel_rfl
theorem w73 : c73.body.wf = true := by kernel_rfl
/-- cmp.Compare[int] -/
noncomputable def c43 : DFn := ⟨20, .pure,
 .seq (.reg [⟨.op (.mv (.c (.int .i64 0))), (some 4), none⟩])
 [0, 1]
 (.seq (.reg [⟨.op (.mv (.t 0)), (some 7), none⟩, ⟨.call 71 [(.t 7)], (some 8), none⟩, ⟨.op (.mv (.t 8)), (some 5), none⟩])
 [0, 1, 5]
 (.seq (.reg [⟨.op (.mv (.t 1)), (some 9), none⟩, ⟨.call 71 [(.t 9)], (some 10), none⟩, ⟨.op (.mv (.t 10)), (some 6), none⟩])
 [0, 1, 5, 6]
 (.seq (.seq (.reg [⟨.op (.mv (.t 5)), (some 11), none⟩])
 [0, 1, 6, 11]
 (.cond (.t 11) (.seq (.seq (.reg [⟨.op (.mv (.t 6)), (some 12), none⟩])
 [12]
 (.cond (.t 12) (.seq (.reg [⟨.op (.mv (.c (.int .i64 0))), (some 4), none⟩])
 [4]
 (.ret)) (.skip)))
 []
 (.seq (.reg [⟨.op (.mv (.c (.int .i64 (-1)))), (some 4), none⟩])
 [4]
 (.ret))) (.skip)))
 [0, 1, 6]
 (.seq (.seq (.reg [⟨.op (.mv (.t 6)), (some 13), none⟩])
 [0, 1, 13]
 (.cond (.t 13) (.seq (.reg [⟨.op (.mv (.c (.int .i64 1))), (some 4), none⟩])
 [4]
 (.ret)) (.skip)))
 [0, 1]
 (.seq (.seq (.reg [⟨.op (.mv (.t 0)), (some 14), none⟩, ⟨.op (.mv (.t 1)), (some 15), none⟩, ⟨.op (.bin .lss 0 (.t 14) (.t 15)), (some 16), none⟩])
 [0, 1, 16]
 (.cond (.t 16) (.seq (.reg [⟨.op (.mv (.c (.int .i64 (-1)))), (some 4), none⟩])
 [4]
 (.ret)) (.skip)))
 [0, 1]
 (.seq (.seq (.reg [⟨.op (.mv (.t 0)), (some 17), none⟩, ⟨.op (.mv (.t 1)), (some 18), none⟩, ⟨.op (.bin .gtr 0 (.t 17) (.t 18)), (some 19), none⟩])
 [19]
 (.cond (.t 19) (.seq (.reg [⟨.op (.mv (.c (.int .i64 1))), (some 4), none⟩])
 [4]
 (.ret)) (.skip)))
 []
 (.seq (.reg [⟨.op (.mv (.c (.int .i64 0))), (some 4), none⟩])
 [4]
 (.ret)))))))),
 [.tmp 4]⟩
theorem k43 : cFn Try.prog 43 = some c43.toE := by kernel_rfl
theorem w43 : c43.body.wf = true := by kernel_rfl
/-- cardamom/cardamomref1.AddNum -/
noncomputable def c51 : DFn := ⟨26, .pure,
 .seq (.reg [⟨.op (.box (.t 0)), (some 2), none⟩, ⟨.op (.new [(.int .i64 0), (.sl none 0)]), (some 4), none⟩])
 [1, 2, 4]
 (.seq (.seq (.reg [⟨.op (.mv (.t 1)), (some 5), none⟩, ⟨.op (.bin .lss 0 (.t 5) (.c (.int .i64 1))), (some 6), none⟩, ⟨.op (.mv (.t 6)), (some 7), none⟩, ⟨.op (.mv (.t 1)), (some 8), (some (7, false))⟩, ⟨.op (.bin .gtr 0 (.t 8) (.c (.int .i64 1000000))), (some 9), (some (7, false))⟩, ⟨.op (.pick (.t 7) (.c (.bool true)) (.t 9)), (some 10), none⟩])
 [1, 2, 4, 10]
 (.cond (.t 10) (.seq (.reg [⟨.op (.fa 0 (.t 2)), (some 11), none⟩, ⟨.op (.ld1 (.t 11)), (some 12), none⟩, ⟨.op (.fa 1 (.t 2)), (some 13), none⟩, ⟨.op (.ld1 (.t 13)), (some 14), none⟩, ⟨.call 77 [(.t 12), (.t 14)], (some 15), none⟩, ⟨.op (.st 2 (.t 4) (.t 15)), none, none⟩])
 [4]
 (.ret)) (.skip)))
 [1, 2, 4]
 (.seq (.drw [⟨⟨.op (.fa 0 (.t 2)), (some 16), none⟩, .n, []⟩, ⟨⟨.op (.ld1 (.t 16)), (some 17), none⟩, .n, []⟩, ⟨⟨.op (.bslice 1 0 [] []), (some 18), none⟩, .a, [(true, 1)]⟩, ⟨⟨.op (.fa 1 (.t 2)), (some 19), none⟩, .n, []⟩, ⟨⟨.op (.ld1 (.t 19)), (some 20), none⟩, .n, []⟩, ⟨⟨.op (.mv (.t 1)), (some 22), none⟩, .n, []⟩, ⟨⟨.op (.bslice 1 1 [(.int .i64 0)] [(0, 1, (.t 22))]), (some 23), none⟩, .a, [(true, 4), (true, 1)]⟩, ⟨⟨.op (.app 1 8 false (.t 18) (.t 20)), (some 21), none⟩, .x, [(false, 6), (true, 1)]⟩, ⟨⟨.op (.app 1 8 false (.t 21) (.t 23)), (some 24), none⟩, .x, [(true, 1)]⟩, ⟨⟨.call 77 [(.t 17), (.t 24)], (some 25), none⟩, .x, []⟩, ⟨⟨.op (.st 2 (.t 4) (.t 25)), none, none⟩, .x, []⟩])
 [4]
 (.ret))),
 [.celln 2 4]⟩
theorem k51 : cFn Try.prog 51 = some c51.toE := by kernel_rfl
theorem w51 : c51.body.wf = true := by kernel_rfl
noncomputable def l61_0 : DC :=
 .seq (.seq (.reg [⟨.op (.mv (.t 6)), (some 15), none⟩, ⟨.op (.fa 1 (.t 2)), (some 16), none⟩, ⟨.op (.ld1 (.t 16)), (some 17), none⟩, ⟨.op (.len (.t 17)), (some 18), none⟩, ⟨.op (.bin .lss 0 (.t 15) (.t 18)), (some 19), none⟩])
 [1, 2, 5, 6, 19]
 (.cond (.t 19) (.skip) (.exit 0)))
 [1, 2, 5, 6]
 (.seq (.block 1 (.reg [⟨.op (.mv (.t 5)), (some 22), none⟩, ⟨.op (.mv (.t 22)), (some 23), none⟩, ⟨.op (.fa 1 (.t 2)), (some 24), (some (23, false))⟩, ⟨.op (.ld1 (.t 24)), (some 25), (some (23, false))⟩, ⟨.op (.mv (.t 6)), (some 26), (some (23, false))⟩, ⟨.op (.ia 1 none (.t 25) (.t 26)), (some 27), (some (23, false))⟩, ⟨.op (.ld1 (.t 27)), (some 28), (some (23, false))⟩, ⟨.op (.mv (.t 1)), (some 29), (some (23, false))⟩, ⟨.op (.bin .eql 0 (.t 28) (.t 29)), (some 30), (some (23, false))⟩, ⟨.op (.pick (.t 23) (.c (.bool true)) (.t 30)), (some 31), none⟩, ⟨.op (.mv (.t 31)), (some 5), none⟩]))
 [1, 2, 5, 6]
 (.reg [⟨.op (.mv (.t 6)), (some 20), none⟩, ⟨.op (.bin .add 0 (.t 20) (.c (.int .i64 1))), (some 21), none⟩, ⟨.op (.mv (.t 21)), (some 6), none⟩]))
theorem u61_0 (call : DCall) (T : Tm) (st : Dv.St) : dCw Try.prog call l61_0 T st = dCw Try.prog call
 (.seq (.seq (.reg [⟨.op (.mv (.t 6)), (some 15), none⟩, ⟨.op (.fa 1 (.t 2)), (some 16), none⟩, ⟨.op (.ld1 (.t 16)), (some 17), none⟩, ⟨.op (.len (.t 17)), (some 18), none⟩, ⟨.op (.bin .lss 0 (.t 15) (.t 18)), (some 19), none⟩])
 [1, 2, 5, 6, 19]
 (.cond (.t 19) (.skip) (.exit 0)))
 [1, 2, 5, 6]
 (.seq (.block 1 (.reg [⟨.op (.mv (.t 5)), (some 22), none⟩, ⟨.op (.mv (.t 22)), (some 23), none⟩, ⟨.op (.fa 1 (.t 2)), (some 24), (some (23, false))⟩, ⟨.op (.ld1 (.t 24)), (some 25), (some (23, false))⟩, ⟨.op (.mv (.t 6)), (some 26), (some (23, false))⟩, ⟨.op (.ia 1 none (.t 25) (.t 26)), (some 27), (some (23, false))⟩, ⟨.op (.ld1 (.t 27)), (some 28), (some (23, false))⟩, ⟨.op (.mv (.t 1)), (some 29), (some (23, false))⟩, ⟨.op (.bin .eql 0 (.t 28) (.t 29)), (some 30), (some (23, false))⟩, ⟨.op (.pick (.t 23) (.c (.bool true)) (.t 30)), (some 31), none⟩, ⟨.op (.mv (.t 31)), (some 5), none⟩]))
 [1, 2, 5, 6]
 (.reg [⟨.op (.mv (.t 6)), (some 20), none⟩, ⟨.op (.bin .add 0 (.t 20) (.c (.int .i64 1))), (some 21), none⟩, ⟨.op (.mv (.t 21)), (some 6), none⟩]))) T st := rfl
/-- cardamom/cardamomref1.HasNum -/
noncomputable def c61 : DFn := ⟨33, .pure,
 .seq (.reg [⟨.op (.box (.t 0)), (some 2), none⟩, ⟨.op (.mv (.c (.bool false))), (some 4), none⟩])
 [1, 2]
 (.seq (.reg [⟨.op (.mv (.t 1)), (some 7), none⟩, ⟨.op (.bin .geq 0 (.t 7) (.c (.int .i64 1))), (some 8), none⟩, ⟨.op (.mv (.t 8)), (some 9), none⟩, ⟨.op (.mv (.t 1)), (some 10), (some (9, true))⟩, ⟨.op (.fa 0 (.t 2)), (some 11), (some (9, true))⟩, ⟨.op (.ld1 (.t 11)), (some 12), (some (9, true))⟩, ⟨.op (.bin .leq 0 (.t 10) (.t 12)), (some 13), (some (9, true))⟩, ⟨.op (.pick (.t 9) (.t 13) (.c (.bool false))), (some 14), none⟩, ⟨.op (.mv (.t 14)), (some 5), none⟩])
 [1, 2, 5]
 (.seq (.seq (.reg [⟨.op (.mv (.c (.int .i64 0))), (some 6), none⟩])
 [1, 2, 5, 6]
 (.block 0 (.loop [1, 2, 5, 6] (l61_0))))
 [5]
 (.seq (.reg [⟨.op (.mv (.t 5)), (some 32), none⟩, ⟨.op (.mv (.t 32)), (some 4), none⟩])
 [4]
 (.ret)))),
 [.tmp 4]⟩
theorem k61 : cFn Try.prog 61 = some c61.toE := by kernel_rfl
theorem w61 : c61.body.wf = true := by kernel_rfl
noncomputable def l77_0 : DC :=
 .seq (.seq (.reg [⟨.op (.mv (.t 7)), (some 13), none⟩, ⟨.op (.mv (.t 1)), (some 14), none⟩, ⟨.op (.len (.t 14)), (some 15), none⟩, ⟨.op (.bin .lss 0 (.t 13) (.t 15)), (some 16), none⟩])
 [1, 4, 5, 6, 7, 16]
 (.cond (.t 16) (.skip) (.exit 2)))
 [1, 4, 5, 6, 7]
 (.seq (.block 3 (.seq (.drw [⟨⟨.op (.mv (.t 1)), (some 19), none⟩, .n, []⟩, ⟨⟨.op (.mv (.t 7)), (some 20), none⟩, .n, []⟩, ⟨⟨.op (.ia 1 none (.t 19) (.t 20)), (some 21), none⟩, .n, []⟩, ⟨⟨.op (.ld1 (.t 21)), (some 22), none⟩, .n, []⟩, ⟨⟨.op (.fa 0 (.t 5)), (some 23), none⟩, .n, []⟩, ⟨⟨.op (.ld1 (.t 23)), (some 24), none⟩, .n, []⟩, ⟨⟨.op (.bin .add 0 (.t 24) (.c (.int .i64 1))), (some 25), none⟩, .n, []⟩, ⟨⟨.op (.bin .eql 0 (.t 22) (.t 25)), (some 26), none⟩, .n, []⟩])
 [1, 4, 5, 6, 7, 26]
 (.cond (.t 26) (.reg [⟨.op (.mv (.t 1)), (some 27), none⟩, ⟨.op (.mv (.t 7)), (some 28), none⟩, ⟨.op (.ia 1 none (.t 27) (.t 28)), (some 29), none⟩, ⟨.op (.ld1 (.t 29)), (some 30), none⟩, ⟨.op (.fa 0 (.t 5)), (some 31), none⟩, ⟨.op (.st 1 (.t 31) (.t 30)), none, none⟩, ⟨.op (.mv (.c (.bool true))), (some 6), none⟩]) (.skip))))
 [1, 4, 5, 6, 7]
 (.reg [⟨.op (.mv (.t 7)), (some 17), none⟩, ⟨.op (.bin .add 0 (.t 17) (.c (.int .i64 1))), (some 18), none⟩, ⟨.op (.mv (.t 18)), (some 7), none⟩]))
theorem u77_0 (call : DCall) (T : Tm) (st : Dv.St) : dCw Try.prog call l77_0 T st = dCw Try.prog call
 (.seq (.seq (.reg [⟨.op (.mv (.t 7)), (some 13), none⟩, ⟨.op (.mv (.t 1)), (some 14), none⟩, ⟨.op (.len (.t 14)), (some 15), none⟩, ⟨.op (.bin .lss 0 (.t 13) (.t 15)), (some 16), none⟩])
 [1, 4, 5, 6, 7, 16]
 (.cond (.t 16) (.skip) (.exit 2)))
 [1, 4, 5, 6, 7]
 (.seq (.block 3 (.seq (.drw [⟨⟨.op (.mv (.t 1)), (some 19), none⟩, .n, []⟩, ⟨⟨.op (.mv (.t 7)), (some 20), none⟩, .n, []⟩, ⟨⟨.op (.ia 1 none (.t 19) (.t 20)), (some 21), none⟩, .n, []⟩, ⟨⟨.op (.ld1 (.t 21)), (some 22), none⟩, .n, []⟩, ⟨⟨.op (.fa 0 (.t 5)), (some 23), none⟩, .n, []⟩, ⟨⟨.op (.ld1 (.t 23)), (some 24), none⟩, .n, []⟩, ⟨⟨.op (.bin .add 0 (.t 24) (.c (.int .i64 1))), (some 25), none⟩, .n, []⟩, ⟨⟨.op (.bin .eql 0 (.t 22) (.t 25)), (some 26), none⟩, .n, []⟩])
 [1, 4, 5, 6, 7, 26]
 (.cond (.t 26) (.reg [⟨.op (.mv (.t 1)), (some 27), none⟩, ⟨.op (.mv (.t 7)), (some 28), none⟩, ⟨.op (.ia 1 none (.t 27) (.t 28)), (some 29), none⟩, ⟨.op (.ld1 (.t 29)), (some 30), none⟩, ⟨.op (.fa 0 (.t 5)), (some 31), none⟩, ⟨.op (.st 1 (.t 31) (.t 30)), none, none⟩, ⟨.op (.mv (.c (.bool true))), (some 6), none⟩]) (.skip))))
 [1, 4, 5, 6, 7]
 (.reg [⟨.op (.mv (.t 7)), (some 17), none⟩, ⟨.op (.bin .add 0 (.t 17) (.c (.int .i64 1))), (some 18), none⟩, ⟨.op (.mv (.t 18)), (some 7), none⟩]))) T st := rfl
noncomputable def l77_1 : DC :=
 .seq (.seq (.reg [⟨.op (.mv (.t 6)), (some 12), none⟩])
 [1, 4, 5, 12]
 (.cond (.t 12) (.skip) (.exit 0)))
 [1, 4, 5]
 (.block 1 (.seq (.reg [⟨.op (.mv (.c (.bool false))), (some 6), none⟩])
 [1, 4, 5, 6]
 (.seq (.reg [⟨.op (.mv (.c (.int .i64 0))), (some 7), none⟩])
 [1, 4, 5, 6, 7]
 (.block 2 (.loop [1, 4, 5, 6, 7] (l77_0))))))
theorem u77_1 (call : DCall) (T : Tm) (st : Dv.St) : dCw Try.prog call l77_1 T st = dCw Try.prog call
 (.seq (.seq (.reg [⟨.op (.mv (.t 6)), (some 12), none⟩])
 [1, 4, 5, 12]
 (.cond (.t 12) (.skip) (.exit 0)))
 [1, 4, 5]
 (.block 1 (.seq (.reg [⟨.op (.mv (.c (.bool false))), (some 6), none⟩])
 [1, 4, 5, 6]
 (.seq (.reg [⟨.op (.mv (.c (.int .i64 0))), (some 7), none⟩])
 [1, 4, 5, 6, 7]
 (.block 2 (.loop [1, 4, 5, 6, 7] (l77_0))))))) T st := rfl
noncomputable def l77_2 : DC :=
 .seq (.seq (.reg [⟨.op (.mv (.t 9)), (some 32), none⟩, ⟨.op (.mv (.t 1)), (some 33), none⟩, ⟨.op (.len (.t 33)), (some 34), none⟩, ⟨.op (.bin .lss 0 (.t 32) (.t 34)), (some 35), none⟩])
 [1, 4, 5, 8, 9, 35]
 (.cond (.t 35) (.skip) (.exit 6)))
 [1, 4, 5, 8, 9]
 (.seq (.block 7 (.seq (.drw [⟨⟨.op (.ldn 2 (.t 5)), (some 38), none⟩, .n, []⟩, ⟨⟨.op (.mv (.t 1)), (some 39), none⟩, .n, []⟩, ⟨⟨.op (.mv (.t 9)), (some 40), none⟩, .n, []⟩, ⟨⟨.op (.ia 1 none (.t 39) (.t 40)), (some 41), none⟩, .n, []⟩, ⟨⟨.op (.ld1 (.t 41)), (some 42), none⟩, .n, []⟩, ⟨⟨.call 61 [(.t 38), (.t 42)], (some 43), none⟩, .x, []⟩, ⟨⟨.op (.not (.t 43)), (some 44), none⟩, .n, []⟩, ⟨⟨.op (.mv (.t 44)), (some 45), none⟩, .n, []⟩, ⟨⟨.op (.mv (.t 1)), (some 46), (some (45, true))⟩, .n, []⟩, ⟨⟨.op (.mv (.t 9)), (some 47), (some (45, true))⟩, .n, []⟩, ⟨⟨.op (.ia 1 none (.t 46) (.t 47)), (some 48), (some (45, true))⟩, .n, []⟩, ⟨⟨.op (.ld1 (.t 48)), (some 49), (some (45, true))⟩, .n, []⟩, ⟨⟨.op (.fa 0 (.t 5)), (some 50), (some (45, true))⟩, .n, []⟩, ⟨⟨.op (.ld1 (.t 50)), (some 51), (some (45, true))⟩, .n, []⟩, ⟨⟨.op (.bin .gtr 0 (.t 49) (.t 51)), (some 52), (some (45, true))⟩, .n, []⟩, ⟨⟨.op (.pick (.t 45) (.t 52) (.c (.bool false))), (some 53), none⟩, .n, []⟩, ⟨⟨.op (.mv (.t 53)), (some 54), none⟩, .n, []⟩, ⟨⟨.op (.mv (.t 8)), (some 55), (some (54, true))⟩, .n, []⟩, ⟨⟨.op (.bin .eql 0 (.t 55) (.c (.int .i64 0))), (some 56), (some (54, true))⟩, .n, []⟩, ⟨⟨.op (.mv (.t 56)), (some 57), (some (54, true))⟩, .n, []⟩, ⟨⟨.op (.mv (.t 1)), (some 58), (some (57, false))⟩, .n, []⟩, ⟨⟨.op (.mv (.t 9)), (some 59), (some (57, false))⟩, .n, []⟩, ⟨⟨.op (.ia 1 none (.t 58) (.t 59)), (some 60), (some (57, false))⟩, .n, []⟩, ⟨⟨.op (.ld1 (.t 60)), (some 61), (some (57, false))⟩, .n, []⟩, ⟨⟨.op (.mv (.t 8)), (some 62), (some (57, false))⟩, .n, []⟩, ⟨⟨.op (.bin .lss 0 (.t 61) (.t 62)), (some 63), (some (57, false))⟩, .n, []⟩, ⟨⟨.op (.pick (.t 57) (.c (.bool true)) (.t 63)), (some 64), (some (54, true))⟩, .n, []⟩, ⟨⟨.op (.pick (.t 54) (.t 64) (.c (.bool false))), (some 65), none⟩, .n, []⟩])
 [1, 4, 5, 8, 9, 65]
 (.cond (.t 65) (.reg [⟨.op (.mv (.t 1)), (some 66), none⟩, ⟨.op (.mv (.t 9)), (some 67), none⟩, ⟨.op (.ia 1 none (.t 66) (.t 67)), (some 68), none⟩, ⟨.op (.ld1 (.t 68)), (some 69), none⟩, ⟨.op (.mv (.t 69)), (some 8), none⟩]) (.skip))))
 [1, 4, 5, 8, 9]
 (.reg [⟨.op (.mv (.t 9)), (some 36), none⟩, ⟨.op (.bin .add 0 (.t 36) (.c (.int .i64 1))), (some 37), none⟩, ⟨.op (.mv (.t 37)), (some 9), none⟩]))
theorem u77_2 (call : DCall) (T : Tm) (st : Dv.St) : dCw Try.prog call l77_2 T st = dCw Try.prog call
 (.seq (.seq (.reg [⟨.op (.mv (.t 9)), (some 32), none⟩, ⟨.op (.mv (.t 1)), (some 33), none⟩, ⟨.op (.len (.t 33)), (some 34), none⟩, ⟨.op (.bin .lss 0 (.t 32) (.t 34)), (some 35), none⟩])
 [1, 4, 5, 8, 9, 35]
 (.cond (.t 35) (.skip) (.exit 6)))
 [1, 4, 5, 8, 9]
 (.seq (.block 7 (.seq (.drw [⟨⟨.op (.ldn 2 (.t 5)), (some 38), none⟩, .n, []⟩, ⟨⟨.op (.mv (.t 1)), (some 39), none⟩, .n, []⟩, ⟨⟨.op (.mv (.t 9)), (some 40), none⟩, .n, []⟩, ⟨⟨.op (.ia 1 none (.t 39) (.t 40)), (some 41), none⟩, .n, []⟩, ⟨⟨.op (.ld1 (.t 41)), (some 42), none⟩, .n, []⟩, ⟨⟨.call 61 [(.t 38), (.t 42)], (some 43), none⟩, .x, []⟩, ⟨⟨.op (.not (.t 43)), (some 44), none⟩, .n, []⟩, ⟨⟨.op (.mv (.t 44)), (some 45), none⟩, .n, []⟩, ⟨⟨.op (.mv (.t 1)), (some 46), (some (45, true))⟩, .n, []⟩, ⟨⟨.op (.mv (.t 9)), (some 47), (some (45, true))⟩, .n, []⟩, ⟨⟨.op (.ia 1 none (.t 46) (.t 47)), (some 48), (some (45, true))⟩, .n, []⟩, ⟨⟨.op (.ld1 (.t 48)), (some 49), (some (45, true))⟩, .n, []⟩, ⟨⟨.op (.fa 0 (.t 5)), (some 50), (some (45, true))⟩, .n, []⟩, ⟨⟨.op (.ld1 (.t 50)), (some 51), (some (45, true))⟩, .n, []⟩, ⟨⟨.op (.bin .gtr 0 (.t 49) (.t 51)), (some 52), (some (45, true))⟩, .n, []⟩, ⟨⟨.op (.pick (.t 45) (.t 52) (.c (.bool false))), (some 53), none⟩, .n, []⟩, ⟨⟨.op (.mv (.t 53)), (some 54), none⟩, .n, []⟩, ⟨⟨.op (.mv (.t 8)), (some 55), (some (54, true))⟩, .n, []⟩, ⟨⟨.op (.bin .eql 0 (.t 55) (.c (.int .i64 0))), (some 56), (some (54, true))⟩, .n, []⟩, ⟨⟨.op (.mv (.t 56)), (some 57), (some (54, true))⟩, .n, []⟩, ⟨⟨.op (.mv (.t 1)), (some 58), (some (57, false))⟩, .n, []⟩, ⟨⟨.op (.mv (.t 9)), (some 59), (some (57, false))⟩, .n, []⟩, ⟨⟨.op (.ia 1 none (.t 58) (.t 59)), (some 60), (some (57, false))⟩, .n, []⟩, ⟨⟨.op (.ld1 (.t 60)), (some 61), (some (57, false))⟩, .n, []⟩, ⟨⟨.op (.mv (.t 8)), (some 62), (some (57, false))⟩, .n, []⟩, ⟨⟨.op (.bin .lss 0 (.t 61) (.t 62)), (some 63), (some (57, false))⟩, .n, []⟩, ⟨⟨.op (.pick (.t 57) (.c (.bool true)) (.t 63)), (some 64), (some (54, true))⟩, .n, []⟩, ⟨⟨.op (.pick (.t 54) (.t 64) (.c (.bool false))), (some 65), none⟩, .n, []⟩])
 [1, 4, 5, 8, 9, 65]
 (.cond (.t 65) (.reg [⟨.op (.mv (.t 1)), (some 66), none⟩, ⟨.op (.mv (.t 9)), (some 67), none⟩, ⟨.op (.ia 1 none (.t 66) (.t 67)), (some 68), none⟩, ⟨.op (.ld1 (.t 68)), (some 69), none⟩, ⟨.op (.mv (.t 69)), (some 8), none⟩]) (.skip))))
 [1, 4, 5, 8, 9]
 (.reg [⟨.op (.mv (.t 9)), (some 36), none⟩, ⟨.op (.bin .add 0 (.t 36) (.c (.int .i64 1))), (some 37), none⟩, ⟨.op (.mv (.t 37)), (some 9), none⟩]))) T st := rfl
noncomputable def l77_3 : DC :=
 .block 5 (.seq (.reg [⟨.op (.mv (.c (.int .i64 0))), (some 8), none⟩])
 [1, 4, 5, 8]
 (.seq (.seq (.reg [⟨.op (.mv (.c (.int .i64 0))), (some 9), none⟩])
 [1, 4, 5, 8, 9]
 (.block 6 (.loop [1, 4, 5, 8, 9] (l77_2))))
 [1, 4, 5, 8]
 (.seq (.seq (.reg [⟨.op (.mv (.t 8)), (some 70), none⟩, ⟨.op (.bin .eql 0 (.t 70) (.c (.int .i64 0))), (some 71), none⟩])
 [1, 4, 5, 8, 71]
 (.cond (.t 71) (.seq (.reg [⟨.op (.ldn 2 (.t 5)), (some 72), none⟩, ⟨.op (.st 2 (.t 4) (.t 72)), none, none⟩])
 [4]
 (.ret)) (.skip)))
 [1, 4, 5, 8]
 (.reg [⟨.op (.fa 1 (.t 5)), (some 73), none⟩, ⟨.op (.ld1 (.t 73)), (some 74), none⟩, ⟨.op (.mv (.t 8)), (some 75), none⟩, ⟨.op (.bslice 1 1 [(.int .i64 0)] [(0, 1, (.t 75))]), (some 76), none⟩, ⟨.op (.app 1 8 false (.t 74) (.t 76)), (some 77), none⟩, ⟨.op (.fa 1 (.t 5)), (some 78), none⟩, ⟨.op (.st 1 (.t 78) (.t 77)), none, none⟩]))))
theorem u77_3 (call : DCall) (T : Tm) (st : Dv.St) : dCw Try.prog call l77_3 T st = dCw Try.prog call
 (.block 5 (.seq (.reg [⟨.op (.mv (.c (.int .i64 0))), (some 8), none⟩])
 [1, 4, 5, 8]
 (.seq (.seq (.reg [⟨.op (.mv (.c (.int .i64 0))), (some 9), none⟩])
 [1, 4, 5, 8, 9]
 (.block 6 (.loop [1, 4, 5, 8, 9] (l77_2))))
 [1, 4, 5, 8]
 (.seq (.seq (.reg [⟨.op (.mv (.t 8)), (some 70), none⟩, ⟨.op (.bin .eql 0 (.t 70) (.c (.int .i64 0))), (some 71), none⟩])
 [1, 4, 5, 8, 71]
 (.cond (.t 71) (.seq (.reg [⟨.op (.ldn 2 (.t 5)), (some 72), none⟩, ⟨.op (.st 2 (.t 4) (.t 72)), none, none⟩])
 [4]
 (.ret)) (.skip)))
 [1, 4, 5, 8]
 (.reg [⟨.op (.fa 1 (.t 5)), (some 73), none⟩, ⟨.op (.ld1 (.t 73)), (some 74), none⟩, ⟨.op (.mv (.t 8)), (some 75), none⟩, ⟨.op (.bslice 1 1 [(.int .i64 0)] [(0, 1, (.t 75))]), (some 76), none⟩, ⟨.op (.app 1 8 false (.t 74) (.t 76)), (some 77), none⟩, ⟨.op (.fa 1 (.t 5)), (some 78), none⟩, ⟨.op (.st 1 (.t 78) (.t 77)), none, none⟩]))))) T st := rfl
/-- cardamom/cardamomref1.Made -/
noncomputable def c77 : DFn := ⟨79, .pure,
 .seq (.reg [⟨.op (.new [(.int .i64 0), (.sl none 0)]), (some 4), none⟩])
 [0, 1, 4]
 (.seq (.reg [⟨.op (.mv (.t 0)), (some 10), none⟩, ⟨.op (.build [(.int .i64 0), (.sl none 0)] [(0, 1, (.t 10))]), (some 11), none⟩, ⟨.op (.new [(.int .i64 0), (.sl none 0)]), (some 5), none⟩, ⟨.op (.st 2 (.t 5) (.t 11)), none, none⟩])
 [1, 4, 5]
 (.seq (.seq (.reg [⟨.op (.mv (.c (.bool true))), (some 6), none⟩])
 [1, 4, 5, 6]
 (.block 0 (.loop [1, 4, 5, 6] (l77_1))))
 [1, 4, 5]
 (.block 4 (.loop [1, 4, 5] (l77_3))))),
 [.celln 2 4]⟩
theorem k77 : cFn Try.prog 77 = some c77.toE := by kernel_rfl
theorem w77 : c77.body.wf = true := by kernel_rfl
/-- cardamom/cardamomref1.SameKnow -/
noncomputable def c26 : DFn := ⟨17, .pure,
 .seq (.reg [⟨.op (.box (.t 0)), (some 2), none⟩, ⟨.op (.box (.t 1)), (some 3), none⟩, ⟨.op (.mv (.c (.bool false))), (some 4), none⟩])
 [2, 3]
 (.seq (.reg [⟨.op (.fa 0 (.t 2)), (some 5), none⟩, ⟨.op (.ld1 (.t 5)), (some 6), none⟩, ⟨.op (.fa 0 (.t 3)), (some 7), none⟩, ⟨.op (.ld1 (.t 7)), (some 8), none⟩, ⟨.op (.bin .eql 0 (.t 6) (.t 8)), (some 9), none⟩, ⟨.op (.mv (.t 9)), (some 10), none⟩, ⟨.op (.fa 1 (.t 2)), (some 11), (some (10, true))⟩, ⟨.op (.ld1 (.t 11)), (some 12), (some (10, true))⟩, ⟨.op (.fa 1 (.t 3)), (some 13), (some (10, true))⟩, ⟨.op (.ld1 (.t 13)), (some 14), (some (10, true))⟩, ⟨.call 49 [(.t 12), (.t 14)], (some 15), (some (10, true))⟩, ⟨.op (.pick (.t 10) (.t 15) (.c (.bool false))), (some 16), none⟩, ⟨.op (.mv (.t 16)), (some 4), none⟩])
 [4]
 (.ret)),
 [.tmp 4]⟩
theorem k26 : cFn Try.prog 26 = some c26.toE := by kernel_rfl
theorem w26 : c26.body.wf = true := by kernel_rfl
noncomputable def l49_0 : DC :=
 .seq (.seq (.reg [⟨.op (.mv (.t 5)), (some 11), none⟩, ⟨.op (.mv (.t 0)), (some 12), none⟩, ⟨.op (.len (.t 12)), (some 13), none⟩, ⟨.op (.bin .lss 0 (.t 11) (.t 13)), (some 14), none⟩])
 [0, 1, 5, 14]
 (.cond (.t 14) (.skip) (.exit 0)))
 [0, 1, 5]
 (.seq (.block 1 (.seq (.drw [⟨⟨.op (.mv (.t 0)), (some 17), none⟩, .n, []⟩, ⟨⟨.op (.mv (.t 5)), (some 18), none⟩, .n, []⟩, ⟨⟨.op (.ia 1 none (.t 17) (.t 18)), (some 19), none⟩, .n, []⟩, ⟨⟨.op (.ld1 (.t 19)), (some 20), none⟩, .n, []⟩, ⟨⟨.op (.mv (.t 1)), (some 21), none⟩, .n, []⟩, ⟨⟨.op (.mv (.t 5)), (some 22), none⟩, .n, []⟩, ⟨⟨.op (.ia 1 none (.t 21) (.t 22)), (some 23), none⟩, .n, []⟩, ⟨⟨.op (.ld1 (.t 23)), (some 24), none⟩, .n, []⟩, ⟨⟨.op (.bin .neq 0 (.t 20) (.t 24)), (some 25), none⟩, .n, []⟩])
 [0, 1, 5, 25]
 (.cond (.t 25) (.seq (.reg [⟨.op (.mv (.c (.bool false))), (some 4), none⟩])
 [4]
 (.ret)) (.skip))))
 [0, 1, 5]
 (.reg [⟨.op (.mv (.t 5)), (some 15), none⟩, ⟨.op (.bin .add 0 (.t 15) (.c (.int .i64 1))), (some 16), none⟩, ⟨.op (.mv (.t 16)), (some 5), none⟩]))
theorem u49_0 (call : DCall) (T : Tm) (st : Dv.St) : dCw Try.prog call l49_0 T st = dCw Try.prog call
 (.seq (.seq (.reg [⟨.op (.mv (.t 5)), (some 11), none⟩, ⟨.op (.mv (.t 0)), (some 12), none⟩, ⟨.op (.len (.t 12)), (some 13), none⟩, ⟨.op (.bin .lss 0 (.t 11) (.t 13)), (some 14), none⟩])
 [0, 1, 5, 14]
 (.cond (.t 14) (.skip) (.exit 0)))
 [0, 1, 5]
 (.seq (.block 1 (.seq (.drw [⟨⟨.op (.mv (.t 0)), (some 17), none⟩, .n, []⟩, ⟨⟨.op (.mv (.t 5)), (some 18), none⟩, .n, []⟩, ⟨⟨.op (.ia 1 none (.t 17) (.t 18)), (some 19), none⟩, .n, []⟩, ⟨⟨.op (.ld1 (.t 19)), (some 20), none⟩, .n, []⟩, ⟨⟨.op (.mv (.t 1)), (some 21), none⟩, .n, []⟩, ⟨⟨.op (.mv (.t 5)), (some 22), none⟩, .n, []⟩, ⟨⟨.op (.ia 1 none (.t 21) (.t 22)), (some 23), none⟩, .n, []⟩, ⟨⟨.op (.ld1 (.t 23)), (some 24), none⟩, .n, []⟩, ⟨⟨.op (.bin .neq 0 (.t 20) (.t 24)), (some 25), none⟩, .n, []⟩])
 [0, 1, 5, 25]
 (.cond (.t 25) (.seq (.reg [⟨.op (.mv (.c (.bool false))), (some 4), none⟩])
 [4]
 (.ret)) (.skip))))
 [0, 1, 5]
 (.reg [⟨.op (.mv (.t 5)), (some 15), none⟩, ⟨.op (.bin .add 0 (.t 15) (.c (.int .i64 1))), (some 16), none⟩, ⟨.op (.mv (.t 16)), (some 5), none⟩]))) T st := rfl
/-- cardamom/cardamomref1.sameInts -/
noncomputable def c49 : DFn := ⟨26, .pure,
 .seq (.reg [⟨.op (.mv (.c (.bool false))), (some 4), none⟩])
 [0, 1]
 (.seq (.seq (.reg [⟨.op (.mv (.t 0)), (some 6), none⟩, ⟨.op (.len (.t 6)), (some 7), none⟩, ⟨.op (.mv (.t 1)), (some 8), none⟩, ⟨.op (.len (.t 8)), (some 9), none⟩, ⟨.op (.bin .neq 0 (.t 7) (.t 9)), (some 10), none⟩])
 [0, 1, 10]
 (.cond (.t 10) (.seq (.reg [⟨.op (.mv (.c (.bool false))), (some 4), none⟩])
 [4]
 (.ret)) (.skip)))
 [0, 1]
 (.seq (.seq (.reg [⟨.op (.mv (.c (.int .i64 0))), (some 5), none⟩])
 [0, 1, 5]
 (.block 0 (.loop [0, 1, 5] (l49_0))))
 []
 (.seq (.reg [⟨.op (.mv (.c (.bool true))), (some 4), none⟩])
 [4]
 (.ret)))),
 [.tmp 4]⟩
theorem k49 : cFn Try.prog 49 = some c49.toE := by kernel_rfl
theorem w49 : c49.body.wf = true := by kernel_rfl
noncomputable def l33_0 : DC :=
 .seq (.seq (.drw [⟨⟨.op (.fa 2 (.t 2)), (some 60), none⟩, .n, []⟩, ⟨⟨.op (.ld1 (.t 60)), (some 61), none⟩, .n, []⟩, ⟨⟨.op (.len (.t 61)), (some 62), none⟩, .n, []⟩, ⟨⟨.op (.bin .gtr 0 (.t 62) (.c (.int .i64 0))), (some 63), none⟩, .n, []⟩, ⟨⟨.op (.mv (.t 63)), (some 64), none⟩, .n, []⟩, ⟨⟨.op (.fa 2 (.t 2)), (some 65), (some (64, true))⟩, .n, []⟩, ⟨⟨.op (.ld1 (.t 65)), (some 66), (some (64, true))⟩, .n, []⟩, ⟨⟨.op (.ia 2 none (.t 66) (.c (.int .i64 0))), (some 67), (some (64, true))⟩, .n, []⟩, ⟨⟨.op (.fa 0 (.t 67)), (some 68), (some (64, true))⟩, .n, []⟩, ⟨⟨.op (.ld1 (.t 68)), (some 69), (some (64, true))⟩, .n, []⟩, ⟨⟨.op (.fa 0 (.t 2)), (some 70), (some (64, true))⟩, .n, []⟩, ⟨⟨.op (.fa 0 (.t 70)), (some 71), (some (64, true))⟩, .n, []⟩, ⟨⟨.op (.ld1 (.t 71)), (some 72), (some (64, true))⟩, .n, []⟩, ⟨⟨.op (.bin .leq 0 (.t 69) (.t 72)), (some 73), (some (64, true))⟩, .n, []⟩, ⟨⟨.op (.pick (.t 64) (.t 73) (.c (.bool false))), (some 74), none⟩, .n, []⟩])
 [2, 4, 8, 74]
 (.cond (.t 74) (.skip) (.exit 3)))
 [2, 4, 8]
 (.block 4 (.seq (.reg [⟨.op (.mv (.t 8)), (some 75), none⟩, ⟨.op (.fa 2 (.t 2)), (some 76), none⟩, ⟨.op (.ld1 (.t 76)), (some 77), none⟩, ⟨.op (.ia 2 none (.t 77) (.c (.int .i64 0))), (some 78), none⟩, ⟨.op (.fa 1 (.t 78)), (some 79), none⟩, ⟨.op (.ld1 (.t 79)), (some 80), none⟩, ⟨.op (.bslice 1 1 [(.str [])] [(0, 1, (.t 80))]), (some 81), none⟩, ⟨.op (.app 1 16 false (.t 75) (.t 81)), (some 82), none⟩, ⟨.op (.mv (.t 82)), (some 8), none⟩])
 [2, 4, 8]
 (.reg [⟨.op (.fa 2 (.t 2)), (some 83), none⟩, ⟨.op (.ld1 (.t 83)), (some 84), none⟩, ⟨.op (.cut 2 none (.t 84) (some (.c (.int .i64 1))) none), (some 85), none⟩, ⟨.op (.fa 2 (.t 2)), (some 86), none⟩, ⟨.op (.st 1 (.t 86) (.t 85)), none, none⟩])))
theorem u33_0 (call : DCall) (T : Tm) (st : Dv.St) : dCw Try.prog call l33_0 T st = dCw Try.prog call
 (.seq (.seq (.drw [⟨⟨.op (.fa 2 (.t 2)), (some 60), none⟩, .n, []⟩, ⟨⟨.op (.ld1 (.t 60)), (some 61), none⟩, .n, []⟩, ⟨⟨.op (.len (.t 61)), (some 62), none⟩, .n, []⟩, ⟨⟨.op (.bin .gtr 0 (.t 62) (.c (.int .i64 0))), (some 63), none⟩, .n, []⟩, ⟨⟨.op (.mv (.t 63)), (some 64), none⟩, .n, []⟩, ⟨⟨.op (.fa 2 (.t 2)), (some 65), (some (64, true))⟩, .n, []⟩, ⟨⟨.op (.ld1 (.t 65)), (some 66), (some (64, true))⟩, .n, []⟩, ⟨⟨.op (.ia 2 none (.t 66) (.c (.int .i64 0))), (some 67), (some (64, true))⟩, .n, []⟩, ⟨⟨.op (.fa 0 (.t 67)), (some 68), (some (64, true))⟩, .n, []⟩, ⟨⟨.op (.ld1 (.t 68)), (some 69), (some (64, true))⟩, .n, []⟩, ⟨⟨.op (.fa 0 (.t 2)), (some 70), (some (64, true))⟩, .n, []⟩, ⟨⟨.op (.fa 0 (.t 70)), (some 71), (some (64, true))⟩, .n, []⟩, ⟨⟨.op (.ld1 (.t 71)), (some 72), (some (64, true))⟩, .n, []⟩, ⟨⟨.op (.bin .leq 0 (.t 69) (.t 72)), (some 73), (some (64, true))⟩, .n, []⟩, ⟨⟨.op (.pick (.t 64) (.t 73) (.c (.bool false))), (some 74), none⟩, .n, []⟩])
 [2, 4, 8, 74]
 (.cond (.t 74) (.skip) (.exit 3)))
 [2, 4, 8]
 (.block 4 (.seq (.reg [⟨.op (.mv (.t 8)), (some 75), none⟩, ⟨.op (.fa 2 (.t 2)), (some 76), none⟩, ⟨.op (.ld1 (.t 76)), (some 77), none⟩, ⟨.op (.ia 2 none (.t 77) (.c (.int .i64 0))), (some 78), none⟩, ⟨.op (.fa 1 (.t 78)), (some 79), none⟩, ⟨.op (.ld1 (.t 79)), (some 80), none⟩, ⟨.op (.bslice 1 1 [(.str [])] [(0, 1, (.t 80))]), (some 81), none⟩, ⟨.op (.app 1 16 false (.t 75) (.t 81)), (some 82), none⟩, ⟨.op (.mv (.t 82)), (some 8), none⟩])
 [2, 4, 8]
 (.reg [⟨.op (.fa 2 (.t 2)), (some 83), none⟩, ⟨.op (.ld1 (.t 83)), (some 84), none⟩, ⟨.op (.cut 2 none (.t 84) (some (.c (.int .i64 1))) none), (some 85), none⟩, ⟨.op (.fa 2 (.t 2)), (some 86), none⟩, ⟨.op (.st 1 (.t 86) (.t 85)), none, none⟩])))) T st := rfl
/-- cardamom/rcvr.Comes -/
noncomputable def c33 : DFn := ⟨89, .pure,
 .seq (.reg [⟨.op (.box (.t 0)), (some 2), none⟩, ⟨.op (.box (.t 1)), (some 3), none⟩, ⟨.op (.new [(.int .i64 0), (.sl none 0), (.sl none 0)]), (some 4), none⟩, ⟨.op (.mv (.c (.sl none 0))), (some 5), none⟩])
 [2, 3, 4]
 (.seq (.drw [⟨⟨.op (.fa 2 (.t 2)), (some 9), none⟩, .n, []⟩, ⟨⟨.op (.ld1 (.t 9)), (some 10), none⟩, .n, []⟩, ⟨⟨.op (.fa 0 (.t 2)), (some 12), none⟩, .n, []⟩, ⟨⟨.op (.fa 1 (.t 12)), (some 13), none⟩, .n, []⟩, ⟨⟨.op (.ld1 (.t 13)), (some 14), none⟩, .n, []⟩, ⟨⟨.call 57 [(.t 10)], (some 11), none⟩, .x, [(true, 4)]⟩, ⟨⟨.op (.fa 2 (.t 2)), (some 16), none⟩, .n, []⟩, ⟨⟨.call 44 [(.t 14)], (some 15), none⟩, .x, []⟩, ⟨⟨.op (.st 1 (.t 16) (.t 11)), none, none⟩, .x, []⟩, ⟨⟨.op (.fa 0 (.t 2)), (some 17), none⟩, .n, []⟩, ⟨⟨.op (.fa 1 (.t 17)), (some 18), none⟩, .n, []⟩, ⟨⟨.op (.st 1 (.t 18) (.t 15)), none, none⟩, .x, []⟩])
 [2, 3, 4]
 (.seq (.block 0 (.seq (.block 2 (.block 1 (.seq (.seq (.seq (.reg [⟨.op (.fa 0 (.t 2)), (some 20), none⟩, ⟨.op (.ldn 2 (.t 20)), (some 21), none⟩, ⟨.op (.fa 0 (.t 3)), (some 22), none⟩, ⟨.op (.ld1 (.t 22)), (some 23), none⟩, ⟨.call 25 [(.t 21), (.t 23)], (some 24), none⟩, ⟨.op (.mv (.t 24)), (some 19), none⟩])
 [2, 3, 4, 19]
 (.cond (.t 19) (.exit 1) (.skip)))
 [2, 3, 4]
 (.seq (.reg [⟨.op (.fa 0 (.t 3)), (some 26), none⟩, ⟨.op (.ld1 (.t 26)), (some 27), none⟩, ⟨.op (.bin .lss 0 (.t 27) (.c (.int .i64 1))), (some 28), none⟩, ⟨.op (.mv (.t 28)), (some 29), none⟩, ⟨.op (.fa 0 (.t 3)), (some 30), (some (29, false))⟩, ⟨.op (.ld1 (.t 30)), (some 31), (some (29, false))⟩, ⟨.op (.fa 0 (.t 2)), (some 32), (some (29, false))⟩, ⟨.op (.fa 0 (.t 32)), (some 33), (some (29, false))⟩, ⟨.op (.ld1 (.t 33)), (some 34), (some (29, false))⟩, ⟨.op (.bin .add 0 (.t 34) (.c (.int .i64 4))), (some 35), (some (29, false))⟩, ⟨.op (.bin .gtr 0 (.t 31) (.t 35)), (some 36), (some (29, false))⟩, ⟨.op (.pick (.t 29) (.c (.bool true)) (.t 36)), (some 37), none⟩, ⟨.op (.mv (.t 37)), (some 25), none⟩])
 [2, 3, 4, 25]
 (.cond (.t 25) (.exit 2) (.skip))))
 [2, 3, 4]
 (.exit 0))))
 [2, 4]
 (.seq (.seq (.reg [⟨.op (.ldn 3 (.t 2)), (some 38), none⟩, ⟨.op (.st 3 (.t 4) (.t 38)), none, none⟩, ⟨.op (.mv (.c (.sl none 0))), (some 5), none⟩])
 [4, 5]
 (.ret))
 [2, 3, 4]
 (.exit 0))))
 [2, 3, 4]
 (.seq (.reg [⟨.op (.fa 0 (.t 2)), (some 39), none⟩, ⟨.op (.ldn 2 (.t 39)), (some 40), none⟩, ⟨.op (.fa 0 (.t 3)), (some 41), none⟩, ⟨.op (.ld1 (.t 41)), (some 42), none⟩, ⟨.call 24 [(.t 40), (.t 42)], (some 43), none⟩, ⟨.op (.fa 0 (.t 2)), (some 44), none⟩, ⟨.op (.st 2 (.t 44) (.t 43)), none, none⟩])
 [2, 3, 4]
 (.seq (.reg [⟨.op (.fa 2 (.t 2)), (some 46), none⟩, ⟨.op (.ld1 (.t 46)), (some 47), none⟩, ⟨.op (.fa 0 (.t 3)), (some 48), none⟩, ⟨.op (.ld1 (.t 48)), (some 49), none⟩, ⟨.call 58 [(.t 47), (.t 49), (.c (.fn 59 []))], (some 50), none⟩, ⟨.op (.mv (.t 50)), (some 45), none⟩, ⟨.op (.ext (.t 45) 0), (some 51), none⟩, ⟨.op (.ext (.t 45) 1), (some 52), none⟩, ⟨.op (.mv (.t 51)), (some 6), none⟩, ⟨.op (.mv (.t 52)), (some 7), none⟩])
 [2, 3, 4, 6]
 (.seq (.reg [⟨.op (.fa 2 (.t 2)), (some 53), none⟩, ⟨.op (.ld1 (.t 53)), (some 54), none⟩, ⟨.op (.mv (.t 6)), (some 55), none⟩, ⟨.op (.ldn 2 (.t 3)), (some 56), none⟩, ⟨.op (.bslice 2 1 [(.int .i64 0), (.str [])] [(0, 2, (.t 56))]), (some 57), none⟩, ⟨.call 60 [(.t 54), (.t 55), (.t 57)], (some 58), none⟩, ⟨.op (.fa 2 (.t 2)), (some 59), none⟩, ⟨.op (.st 1 (.t 59) (.t 58)), none, none⟩])
 [2, 4]
 (.seq (.reg [⟨.op (.mv (.c (.sl none 0))), (some 8), none⟩])
 [2, 4, 8]
 (.seq (.block 3 (.loop [2, 4, 8] (l33_0)))
 [2, 4, 8]
 (.seq (.reg [⟨.op (.ldn 3 (.t 2)), (some 87), none⟩, ⟨.op (.mv (.t 8)), (some 88), none⟩, ⟨.op (.st 3 (.t 4) (.t 87)), none, none⟩, ⟨.op (.mv (.t 88)), (some 5), none⟩])
 [4, 5]
 (.ret))))))))),
 [.celln 3 4, .tmp 5]⟩
theorem k33 : cFn Try.prog 33 = some c33.toE := by kernel_rfl
theorem w33 : c33.body.wf = true := by kernel_rfl
/-- cardamom/rcvr.Comes$1 -/
noncomputable def c59 : DFn := ⟨9, .pure,
 .seq (.reg [⟨.op (.box (.t 0)), (some 2), none⟩, ⟨.op (.mv (.c (.int .i64 0))), (some 4), none⟩])
 [1, 2]
 (.seq (.reg [⟨.op (.fa 0 (.t 2)), (some 5), none⟩, ⟨.op (.ld1 (.t 5)), (some 6), none⟩, ⟨.op (.mv (.t 1)), (some 7), none⟩, ⟨.call 43 [(.t 6), (.t 7)], (some 8), none⟩, ⟨.op (.mv (.t 8)), (some 4), none⟩])
 [4]
 (.ret)),
 [.tmp 4]⟩
theorem k59 : cFn Try.prog 59 = some c59.toE := by kernel_rfl
theorem w59 : c59.body.wf = true := by kernel_rfl
/-- slices.Clone[[]cardamom/api.Seg,cardamom/api.Seg] -/
noncomputable def c57 : DFn := ⟨8, .pure,
 .seq (.reg [⟨.op (.mv (.c (.sl none 0))), (some 2), none⟩])
 [0]
 (.seq (.seq (.reg [⟨.op (.mv (.t 0)), (some 3), none⟩, ⟨.op (.bin .eql 1 (.t 3) (.c (.sl none 0))), (some 4), none⟩])
 [0, 4]
 (.cond (.t 4) (.seq (.reg [⟨.op (.mv (.c (.sl none 0))), (some 2), none⟩])
 [2]
 (.ret)) (.skip)))
 [0]
 (.seq (.reg [⟨.op (.bslice 2 0 [] []), (some 5), none⟩, ⟨.op (.mv (.t 0)), (some 6), none⟩, ⟨.op (.app 2 24 false (.t 5) (.t 6)), (some 7), none⟩, ⟨.op (.mv (.t 7)), (some 2), none⟩])
 [2]
 (.ret))),
 [.tmp 2]⟩
theorem k57 : cFn Try.prog 57 = some c57.toE := by kernel_rfl
theorem w57 : c57.body.wf = true := by kernel_rfl
noncomputable def l58_0 : DC :=
 .seq (.seq (.reg [⟨.op (.mv (.t 9)), (some 15), none⟩, ⟨.op (.mv (.t 10)), (some 16), none⟩, ⟨.op (.bin .lss 0 (.t 15) (.t 16)), (some 17), none⟩])
 [0, 1, 2, 8, 9, 10, 17]
 (.cond (.t 17) (.skip) (.exit 0)))
 [0, 1, 2, 8, 9, 10]
 (.block 1 (.seq (.reg [⟨.op (.mv (.t 9)), (some 18), none⟩, ⟨.op (.mv (.t 10)), (some 19), none⟩, ⟨.op (.bin .add 0 (.t 18) (.t 19)), (some 20), none⟩, ⟨.op (.conv .u64 (.t 20)), (some 21), none⟩, ⟨.op (.slow (operAt Try.prog 58 15)), (some 22), none⟩, ⟨.op (.conv .i64 (.t 22)), (some 23), none⟩, ⟨.op (.mv (.t 23)), (some 11), none⟩])
 [0, 1, 2, 8, 9, 10, 11]
 (.seq (.reg [⟨.op (.mv (.t 2)), (some 24), none⟩, ⟨.op (.mv (.t 0)), (some 25), none⟩, ⟨.op (.mv (.t 11)), (some 26), none⟩, ⟨.op (.ia 2 none (.t 25) (.t 26)), (some 27), none⟩, ⟨.op (.ldn 2 (.t 27)), (some 28), none⟩, ⟨.op (.mv (.t 1)), (some 29), none⟩, ⟨.callv (.t 24) [(.t 28), (.t 29)], (some 30), none⟩, ⟨.op (.bin .lss 0 (.t 30) (.c (.int .i64 0))), (some 31), none⟩])
 [0, 1, 2, 8, 9, 10, 11, 31]
 (.cond (.t 31) (.reg [⟨.op (.mv (.t 11)), (some 32), none⟩, ⟨.op (.bin .add 0 (.t 32) (.c (.int .i64 1))), (some 33), none⟩, ⟨.op (.mv (.t 33)), (some 9), none⟩]) (.reg [⟨.op (.mv (.t 11)), (some 34), none⟩, ⟨.op (.mv (.t 34)), (some 10), none⟩])))))
theorem u58_0 (call : DCall) (T : Tm) (st : Dv.St) : dCw Try.prog call l58_0 T st = dCw Try.prog call
 (.seq (.seq (.reg [⟨.op (.mv (.t 9)), (some 15), none⟩, ⟨.op (.mv (.t 10)), (some 16), none⟩, ⟨.op (.bin .lss 0 (.t 15) (.t 16)), (some 17), none⟩])
 [0, 1, 2, 8, 9, 10, 17]
 (.cond (.t 17) (.skip) (.exit 0)))
 [0, 1, 2, 8, 9, 10]
 (.block 1 (.seq (.reg [⟨.op (.mv (.t 9)), (some 18), none⟩, ⟨.op (.mv (.t 10)), (some 19), none⟩, ⟨.op (.bin .add 0 (.t 18) (.t 19)), (some 20), none⟩, ⟨.op (.conv .u64 (.t 20)), (some 21), none⟩, ⟨.op (.slow (operAt Try.prog 58 15)), (some 22), none⟩, ⟨.op (.conv .i64 (.t 22)), (some 23), none⟩, ⟨.op (.mv (.t 23)), (some 11), none⟩])
 [0, 1, 2, 8, 9, 10, 11]
 (.seq (.reg [⟨.op (.mv (.t 2)), (some 24), none⟩, ⟨.op (.mv (.t 0)), (some 25), none⟩, ⟨.op (.mv (.t 11)), (some 26), none⟩, ⟨.op (.ia 2 none (.t 25) (.t 26)), (some 27), none⟩, ⟨.op (.ldn 2 (.t 27)), (some 28), none⟩, ⟨.op (.mv (.t 1)), (some 29), none⟩, ⟨.callv (.t 24) [(.t 28), (.t 29)], (some 30), none⟩, ⟨.op (.bin .lss 0 (.t 30) (.c (.int .i64 0))), (some 31), none⟩])
 [0, 1, 2, 8, 9, 10, 11, 31]
 (.cond (.t 31) (.reg [⟨.op (.mv (.t 11)), (some 32), none⟩, ⟨.op (.bin .add 0 (.t 32) (.c (.int .i64 1))), (some 33), none⟩, ⟨.op (.mv (.t 33)), (some 9), none⟩]) (.reg [⟨.op (.mv (.t 11)), (some 34), none⟩, ⟨.op (.mv (.t 34)), (some 10), none⟩])))))) T st := rfl
/-- slices.BinarySearchFunc[[]cardamom/api.Seg,cardamom/api.Seg,int] -/
noncomputable def c58 : DFn := ⟨49, .pure,
 .seq (.reg [⟨.op (.mv (.c (.int .i64 0))), (some 6), none⟩, ⟨.op (.mv (.c (.bool false))), (some 7), none⟩])
 [0, 1, 2]
 (.seq (.reg [⟨.op (.mv (.t 0)), (some 12), none⟩, ⟨.op (.len (.t 12)), (some 13), none⟩, ⟨.op (.mv (.t 13)), (some 8), none⟩])
 [0, 1, 2, 8]
 (.seq (.reg [⟨.op (.mv (.t 8)), (some 14), none⟩, ⟨.op (.mv (.c (.int .i64 0))), (some 9), none⟩, ⟨.op (.mv (.t 14)), (some 10), none⟩])
 [0, 1, 2, 8, 9, 10]
 (.seq (.block 0 (.loop [0, 1, 2, 8, 9, 10] (l58_0)))
 [0, 1, 2, 8, 9]
 (.seq (.reg [⟨.op (.mv (.t 9)), (some 35), none⟩, ⟨.op (.mv (.t 9)), (some 36), none⟩, ⟨.op (.mv (.t 8)), (some 37), none⟩, ⟨.op (.bin .lss 0 (.t 36) (.t 37)), (some 38), none⟩, ⟨.op (.mv (.t 38)), (some 39), none⟩, ⟨.op (.mv (.t 2)), (some 40), (some (39, true))⟩, ⟨.op (.mv (.t 0)), (some 41), (some (39, true))⟩, ⟨.op (.mv (.t 9)), (some 42), (some (39, true))⟩, ⟨.op (.ia 2 none (.t 41) (.t 42)), (some 43), (some (39, true))⟩, ⟨.op (.ldn 2 (.t 43)), (some 44), (some (39, true))⟩, ⟨.op (.mv (.t 1)), (some 45), (some (39, true))⟩, ⟨.callv (.t 40) [(.t 44), (.t 45)], (some 46), (some (39, true))⟩, ⟨.op (.bin .eql 0 (.t 46) (.c (.int .i64 0))), (some 47), (some (39, true))⟩, ⟨.op (.pick (.t 39) (.t 47) (.c (.bool false))), (some 48), none⟩, ⟨.op (.mv (.t 35)), (some 6), none⟩, ⟨.op (.mv (.t 48)), (some 7), none⟩])
 [6, 7]
 (.ret))))),
 [.tmp 6, .tmp 7]⟩
theorem k58 : cFn Try.prog 58 = some c58.toE := by kernel_rfl
theorem w58 : c58.body.wf = true := by kernel_rfl
noncomputable def l34_0 : DC :=
 .seq (.seq (.reg [⟨.op (.mv (.t 10)), (some 43), none⟩, ⟨.op (.fa 2 (.t 2)), (some 44), none⟩, ⟨.op (.ld1 (.t 44)), (some 45), none⟩, ⟨.op (.len (.t 45)), (some 46), none⟩, ⟨.op (.bin .lss 0 (.t 43) (.t 46)), (some 47), none⟩])
 [2, 3, 4, 6, 7, 8, 9, 10, 47]
 (.cond (.t 47) (.skip) (.exit 0)))
 [2, 3, 4, 6, 7, 8, 9, 10]
 (.seq (.block 1 (.seq (.seq (.drw [⟨⟨.op (.mv (.t 9)), (some 50), none⟩, .n, []⟩, ⟨⟨.op (.not (.t 50)), (some 51), none⟩, .n, []⟩, ⟨⟨.op (.mv (.t 51)), (some 52), none⟩, .n, []⟩, ⟨⟨.op (.fa 2 (.t 2)), (some 53), (some (52, true))⟩, .n, []⟩, ⟨⟨.op (.ld1 (.t 53)), (some 54), (some (52, true))⟩, .n, []⟩, ⟨⟨.op (.mv (.t 10)), (some 55), (some (52, true))⟩, .n, []⟩, ⟨⟨.op (.ia 2 none (.t 54) (.t 55)), (some 56), (some (52, true))⟩, .n, []⟩, ⟨⟨.op (.fa 0 (.t 56)), (some 57), (some (52, true))⟩, .n, []⟩, ⟨⟨.op (.ld1 (.t 57)), (some 58), (some (52, true))⟩, .n, []⟩, ⟨⟨.op (.fa 0 (.t 3)), (some 59), (some (52, true))⟩, .n, []⟩, ⟨⟨.op (.ld1 (.t 59)), (some 60), (some (52, true))⟩, .n, []⟩, ⟨⟨.op (.bin .gtr 0 (.t 58) (.t 60)), (some 61), (some (52, true))⟩, .n, []⟩, ⟨⟨.op (.pick (.t 52) (.t 61) (.c (.bool false))), (some 62), none⟩, .n, []⟩])
 [2, 3, 4, 6, 7, 8, 9, 10, 62]
 (.cond (.t 62) (.reg [⟨.op (.mv (.t 8)), (some 63), none⟩, ⟨.op (.ldn 2 (.t 3)), (some 64), none⟩, ⟨.op (.bslice 2 1 [(.int .i64 0), (.str [])] [(0, 2, (.t 64))]), (some 65), none⟩, ⟨.op (.app 2 24 false (.t 63) (.t 65)), (some 66), none⟩, ⟨.op (.mv (.t 66)), (some 8), none⟩, ⟨.op (.mv (.c (.bool true))), (some 9), none⟩]) (.skip)))
 [2, 3, 4, 6, 7, 8, 9, 10]
 (.reg [⟨.op (.mv (.t 8)), (some 67), none⟩, ⟨.op (.fa 2 (.t 2)), (some 68), none⟩, ⟨.op (.ld1 (.t 68)), (some 69), none⟩, ⟨.op (.mv (.t 10)), (some 70), none⟩, ⟨.op (.ia 2 none (.t 69) (.t 70)), (some 71), none⟩, ⟨.op (.ldn 2 (.t 71)), (some 72), none⟩, ⟨.op (.bslice 2 1 [(.int .i64 0), (.str [])] [(0, 2, (.t 72))]), (some 73), none⟩, ⟨.op (.app 2 24 false (.t 67) (.t 73)), (some 74), none⟩, ⟨.op (.mv (.t 74)), (some 8), none⟩])))
 [2, 3, 4, 6, 7, 8, 9, 10]
 (.reg [⟨.op (.mv (.t 10)), (some 48), none⟩, ⟨.op (.bin .add 0 (.t 48) (.c (.int .i64 1))), (some 49), none⟩, ⟨.op (.mv (.t 49)), (some 10), none⟩]))
theorem u34_0 (call : DCall) (T : Tm) (st : Dv.St) : dCw Try.prog call l34_0 T st = dCw Try.prog call
 (.seq (.seq (.reg [⟨.op (.mv (.t 10)), (some 43), none⟩, ⟨.op (.fa 2 (.t 2)), (some 44), none⟩, ⟨.op (.ld1 (.t 44)), (some 45), none⟩, ⟨.op (.len (.t 45)), (some 46), none⟩, ⟨.op (.bin .lss 0 (.t 43) (.t 46)), (some 47), none⟩])
 [2, 3, 4, 6, 7, 8, 9, 10, 47]
 (.cond (.t 47) (.skip) (.exit 0)))
 [2, 3, 4, 6, 7, 8, 9, 10]
 (.seq (.block 1 (.seq (.seq (.drw [⟨⟨.op (.mv (.t 9)), (some 50), none⟩, .n, []⟩, ⟨⟨.op (.not (.t 50)), (some 51), none⟩, .n, []⟩, ⟨⟨.op (.mv (.t 51)), (some 52), none⟩, .n, []⟩, ⟨⟨.op (.fa 2 (.t 2)), (some 53), (some (52, true))⟩, .n, []⟩, ⟨⟨.op (.ld1 (.t 53)), (some 54), (some (52, true))⟩, .n, []⟩, ⟨⟨.op (.mv (.t 10)), (some 55), (some (52, true))⟩, .n, []⟩, ⟨⟨.op (.ia 2 none (.t 54) (.t 55)), (some 56), (some (52, true))⟩, .n, []⟩, ⟨⟨.op (.fa 0 (.t 56)), (some 57), (some (52, true))⟩, .n, []⟩, ⟨⟨.op (.ld1 (.t 57)), (some 58), (some (52, true))⟩, .n, []⟩, ⟨⟨.op (.fa 0 (.t 3)), (some 59), (some (52, true))⟩, .n, []⟩, ⟨⟨.op (.ld1 (.t 59)), (some 60), (some (52, true))⟩, .n, []⟩, ⟨⟨.op (.bin .gtr 0 (.t 58) (.t 60)), (some 61), (some (52, true))⟩, .n, []⟩, ⟨⟨.op (.pick (.t 52) (.t 61) (.c (.bool false))), (some 62), none⟩, .n, []⟩])
 [2, 3, 4, 6, 7, 8, 9, 10, 62]
 (.cond (.t 62) (.reg [⟨.op (.mv (.t 8)), (some 63), none⟩, ⟨.op (.ldn 2 (.t 3)), (some 64), none⟩, ⟨.op (.bslice 2 1 [(.int .i64 0), (.str [])] [(0, 2, (.t 64))]), (some 65), none⟩, ⟨.op (.app 2 24 false (.t 63) (.t 65)), (some 66), none⟩, ⟨.op (.mv (.t 66)), (some 8), none⟩, ⟨.op (.mv (.c (.bool true))), (some 9), none⟩]) (.skip)))
 [2, 3, 4, 6, 7, 8, 9, 10]
 (.reg [⟨.op (.mv (.t 8)), (some 67), none⟩, ⟨.op (.fa 2 (.t 2)), (some 68), none⟩, ⟨.op (.ld1 (.t 68)), (some 69), none⟩, ⟨.op (.mv (.t 10)), (some 70), none⟩, ⟨.op (.ia 2 none (.t 69) (.t 70)), (some 71), none⟩, ⟨.op (.ldn 2 (.t 71)), (some 72), none⟩, ⟨.op (.bslice 2 1 [(.int .i64 0), (.str [])] [(0, 2, (.t 72))]), (some 73), none⟩, ⟨.op (.app 2 24 false (.t 67) (.t 73)), (some 74), none⟩, ⟨.op (.mv (.t 74)), (some 8), none⟩])))
 [2, 3, 4, 6, 7, 8, 9, 10]
 (.reg [⟨.op (.mv (.t 10)), (some 48), none⟩, ⟨.op (.bin .add 0 (.t 48) (.c (.int .i64 1))), (some 49), none⟩, ⟨.op (.mv (.t 49)), (some 10), none⟩]))) T st := rfl
noncomputable def l34_1 : DC :=
 .seq (.seq (.reg [⟨.op (.mv (.t 12)), (some 81), none⟩, ⟨.op (.mv (.t 8)), (some 82), none⟩, ⟨.op (.len (.t 82)), (some 83), none⟩, ⟨.op (.bin .lss 0 (.t 81) (.t 83)), (some 84), none⟩])
 [4, 6, 7, 8, 11, 12, 84]
 (.cond (.t 84) (.skip) (.exit 2)))
 [4, 6, 7, 8, 11, 12]
 (.seq (.block 3 (.seq (.drw [⟨⟨.op (.mv (.t 8)), (some 87), none⟩, .n, []⟩, ⟨⟨.op (.mv (.t 12)), (some 88), none⟩, .n, []⟩, ⟨⟨.op (.ia 2 none (.t 87) (.t 88)), (some 89), none⟩, .n, []⟩, ⟨⟨.op (.fa 0 (.t 89)), (some 90), none⟩, .n, []⟩, ⟨⟨.op (.ld1 (.t 90)), (some 91), none⟩, .n, []⟩, ⟨⟨.op (.mv (.t 6)), (some 92), none⟩, .n, []⟩, ⟨⟨.op (.bin .gtr 0 (.t 91) (.t 92)), (some 93), none⟩, .n, []⟩, ⟨⟨.op (.mv (.t 93)), (some 94), none⟩, .n, []⟩, ⟨⟨.op (.mv (.t 8)), (some 95), (some (94, true))⟩, .n, []⟩, ⟨⟨.op (.mv (.t 12)), (some 96), (some (94, true))⟩, .n, []⟩, ⟨⟨.op (.ia 2 none (.t 95) (.t 96)), (some 97), (some (94, true))⟩, .n, []⟩, ⟨⟨.op (.fa 0 (.t 97)), (some 98), (some (94, true))⟩, .n, []⟩, ⟨⟨.op (.ld1 (.t 98)), (some 99), (some (94, true))⟩, .n, []⟩, ⟨⟨.op (.fa 0 (.t 7)), (some 100), (some (94, true))⟩, .n, []⟩, ⟨⟨.op (.fa 0 (.t 100)), (some 101), (some (94, true))⟩, .n, []⟩, ⟨⟨.op (.ld1 (.t 101)), (some 102), (some (94, true))⟩, .n, []⟩, ⟨⟨.op (.bin .leq 0 (.t 99) (.t 102)), (some 103), (some (94, true))⟩, .n, []⟩, ⟨⟨.op (.pick (.t 94) (.t 103) (.c (.bool false))), (some 104), none⟩, .n, []⟩])
 [4, 6, 7, 8, 11, 12, 104]
 (.cond (.t 104) (.reg [⟨.op (.mv (.t 11)), (some 105), none⟩, ⟨.op (.mv (.t 8)), (some 106), none⟩, ⟨.op (.mv (.t 12)), (some 107), none⟩, ⟨.op (.ia 2 none (.t 106) (.t 107)), (some 108), none⟩, ⟨.op (.fa 1 (.t 108)), (some 109), none⟩, ⟨.op (.ld1 (.t 109)), (some 110), none⟩, ⟨.op (.bslice 1 1 [(.str [])] [(0, 1, (.t 110))]), (some 111), none⟩, ⟨.op (.app 1 16 false (.t 105) (.t 111)), (some 112), none⟩, ⟨.op (.mv (.t 112)), (some 11), none⟩]) (.drw [⟨⟨.op (.fa 2 (.t 7)), (some 113), none⟩, .n, []⟩, ⟨⟨.op (.ld1 (.t 113)), (some 114), none⟩, .n, []⟩, ⟨⟨.op (.mv (.t 8)), (some 115), none⟩, .n, []⟩, ⟨⟨.op (.mv (.t 12)), (some 116), none⟩, .n, []⟩, ⟨⟨.op (.ia 2 none (.t 115) (.t 116)), (some 117), none⟩, .n, []⟩, ⟨⟨.op (.ldn 2 (.t 117)), (some 118), none⟩, .n, []⟩, ⟨⟨.op (.bslice 2 1 [(.int .i64 0), (.str [])] [(0, 2, (.t 118))]), (some 119), none⟩, .a, [(true, 5), (true, 1)]⟩, ⟨⟨.op (.app 2 24 false (.t 114) (.t 119)), (some 120), none⟩, .x, []⟩, ⟨⟨.op (.fa 2 (.t 7)), (some 121), none⟩, .n, []⟩, ⟨⟨.op (.st 1 (.t 121) (.t 120)), none, none⟩, .x, []⟩]))))
 [4, 6, 7, 8, 11, 12]
 (.reg [⟨.op (.mv (.t 12)), (some 85), none⟩, ⟨.op (.bin .add 0 (.t 85) (.c (.int .i64 1))), (some 86), none⟩, ⟨.op (.mv (.t 86)), (some 12), none⟩]))
theorem u34_1 (call : DCall) (T : Tm) (st : Dv.St) : dCw Try.prog call l34_1 T st = dCw Try.prog call
 (.seq (.seq (.reg [⟨.op (.mv (.t 12)), (some 81), none⟩, ⟨.op (.mv (.t 8)), (some 82), none⟩, ⟨.op (.len (.t 82)), (some 83), none⟩, ⟨.op (.bin .lss 0 (.t 81) (.t 83)), (some 84), none⟩])
 [4, 6, 7, 8, 11, 12, 84]
 (.cond (.t 84) (.skip) (.exit 2)))
 [4, 6, 7, 8, 11, 12]
 (.seq (.block 3 (.seq (.drw [⟨⟨.op (.mv (.t 8)), (some 87), none⟩, .n, []⟩, ⟨⟨.op (.mv (.t 12)), (some 88), none⟩, .n, []⟩, ⟨⟨.op (.ia 2 none (.t 87) (.t 88)), (some 89), none⟩, .n, []⟩, ⟨⟨.op (.fa 0 (.t 89)), (some 90), none⟩, .n, []⟩, ⟨⟨.op (.ld1 (.t 90)), (some 91), none⟩, .n, []⟩, ⟨⟨.op (.mv (.t 6)), (some 92), none⟩, .n, []⟩, ⟨⟨.op (.bin .gtr 0 (.t 91) (.t 92)), (some 93), none⟩, .n, []⟩, ⟨⟨.op (.mv (.t 93)), (some 94), none⟩, .n, []⟩, ⟨⟨.op (.mv (.t 8)), (some 95), (some (94, true))⟩, .n, []⟩, ⟨⟨.op (.mv (.t 12)), (some 96), (some (94, true))⟩, .n, []⟩, ⟨⟨.op (.ia 2 none (.t 95) (.t 96)), (some 97), (some (94, true))⟩, .n, []⟩, ⟨⟨.op (.fa 0 (.t 97)), (some 98), (some (94, true))⟩, .n, []⟩, ⟨⟨.op (.ld1 (.t 98)), (some 99), (some (94, true))⟩, .n, []⟩, ⟨⟨.op (.fa 0 (.t 7)), (some 100), (some (94, true))⟩, .n, []⟩, ⟨⟨.op (.fa 0 (.t 100)), (some 101), (some (94, true))⟩, .n, []⟩, ⟨⟨.op (.ld1 (.t 101)), (some 102), (some (94, true))⟩, .n, []⟩, ⟨⟨.op (.bin .leq 0 (.t 99) (.t 102)), (some 103), (some (94, true))⟩, .n, []⟩, ⟨⟨.op (.pick (.t 94) (.t 103) (.c (.bool false))), (some 104), none⟩, .n, []⟩])
 [4, 6, 7, 8, 11, 12, 104]
 (.cond (.t 104) (.reg [⟨.op (.mv (.t 11)), (some 105), none⟩, ⟨.op (.mv (.t 8)), (some 106), none⟩, ⟨.op (.mv (.t 12)), (some 107), none⟩, ⟨.op (.ia 2 none (.t 106) (.t 107)), (some 108), none⟩, ⟨.op (.fa 1 (.t 108)), (some 109), none⟩, ⟨.op (.ld1 (.t 109)), (some 110), none⟩, ⟨.op (.bslice 1 1 [(.str [])] [(0, 1, (.t 110))]), (some 111), none⟩, ⟨.op (.app 1 16 false (.t 105) (.t 111)), (some 112), none⟩, ⟨.op (.mv (.t 112)), (some 11), none⟩]) (.drw [⟨⟨.op (.fa 2 (.t 7)), (some 113), none⟩, .n, []⟩, ⟨⟨.op (.ld1 (.t 113)), (some 114), none⟩, .n, []⟩, ⟨⟨.op (.mv (.t 8)), (some 115), none⟩, .n, []⟩, ⟨⟨.op (.mv (.t 12)), (some 116), none⟩, .n, []⟩, ⟨⟨.op (.ia 2 none (.t 115) (.t 116)), (some 117), none⟩, .n, []⟩, ⟨⟨.op (.ldn 2 (.t 117)), (some 118), none⟩, .n, []⟩, ⟨⟨.op (.bslice 2 1 [(.int .i64 0), (.str [])] [(0, 2, (.t 118))]), (some 119), none⟩, .a, [(true, 5), (true, 1)]⟩, ⟨⟨.op (.app 2 24 false (.t 114) (.t 119)), (some 120), none⟩, .x, []⟩, ⟨⟨.op (.fa 2 (.t 7)), (some 121), none⟩, .n, []⟩, ⟨⟨.op (.st 1 (.t 121) (.t 120)), none, none⟩, .x, []⟩]))))
 [4, 6, 7, 8, 11, 12]
 (.reg [⟨.op (.mv (.t 12)), (some 85), none⟩, ⟨.op (.bin .add 0 (.t 85) (.c (.int .i64 1))), (some 86), none⟩, ⟨.op (.mv (.t 86)), (some 12), none⟩]))) T st := rfl
/-- cardamom/cardamomref20.Comes -/
noncomputable def c34 : DFn := ⟨124, .pure,
 .seq (.reg [⟨.op (.box (.t 0)), (some 2), none⟩, ⟨.op (.box (.t 1)), (some 3), none⟩, ⟨.op (.new [(.int .i64 0), (.sl none 0), (.sl none 0)]), (some 4), none⟩, ⟨.op (.mv (.c (.sl none 0))), (some 5), none⟩])
 [2, 3, 4]
 (.seq (.seq (.reg [⟨.op (.fa 0 (.t 2)), (some 13), none⟩, ⟨.op (.ldn 2 (.t 13)), (some 14), none⟩, ⟨.op (.fa 0 (.t 3)), (some 15), none⟩, ⟨.op (.ld1 (.t 15)), (some 16), none⟩, ⟨.call 61 [(.t 14), (.t 16)], (some 17), none⟩, ⟨.op (.mv (.t 17)), (some 18), none⟩, ⟨.op (.fa 0 (.t 3)), (some 19), (some (18, false))⟩, ⟨.op (.ld1 (.t 19)), (some 20), (some (18, false))⟩, ⟨.op (.bin .lss 0 (.t 20) (.c (.int .i64 1))), (some 21), (some (18, false))⟩, ⟨.op (.pick (.t 18) (.c (.bool true)) (.t 21)), (some 22), none⟩, ⟨.op (.mv (.t 22)), (some 23), none⟩, ⟨.op (.fa 0 (.t 3)), (some 24), (some (23, false))⟩, ⟨.op (.ld1 (.t 24)), (some 25), (some (23, false))⟩, ⟨.op (.fa 0 (.t 2)), (some 26), (some (23, false))⟩, ⟨.op (.fa 0 (.t 26)), (some 27), (some (23, false))⟩, ⟨.op (.ld1 (.t 27)), (some 28), (some (23, false))⟩, ⟨.op (.bin .add 0 (.t 28) (.c (.int .i64 4))), (some 29), (some (23, false))⟩, ⟨.op (.bin .gtr 0 (.t 25) (.t 29)), (some 30), (some (23, false))⟩, ⟨.op (.pick (.t 23) (.c (.bool true)) (.t 30)), (some 31), none⟩])
 [2, 3, 4, 31]
 (.cond (.t 31) (.seq (.reg [⟨.op (.ldn 3 (.t 2)), (some 32), none⟩, ⟨.op (.st 3 (.t 4) (.t 32)), none, none⟩, ⟨.op (.mv (.c (.sl none 0))), (some 5), none⟩])
 [4, 5]
 (.ret)) (.skip)))
 [2, 3, 4]
 (.seq (.reg [⟨.op (.fa 0 (.t 2)), (some 33), none⟩, ⟨.op (.fa 0 (.t 33)), (some 34), none⟩, ⟨.op (.ld1 (.t 34)), (some 35), none⟩, ⟨.op (.mv (.t 35)), (some 6), none⟩])
 [2, 3, 4, 6]
 (.seq (.reg [⟨.op (.fa 0 (.t 2)), (some 36), none⟩, ⟨.op (.ldn 2 (.t 36)), (some 37), none⟩, ⟨.op (.fa 0 (.t 3)), (some 38), none⟩, ⟨.op (.ld1 (.t 38)), (some 39), none⟩, ⟨.call 51 [(.t 37), (.t 39)], (some 40), none⟩, ⟨.op (.build [(.int .i64 0), (.sl none 0), (.sl none 0)] [(0, 2, (.t 40))]), (some 41), none⟩, ⟨.op (.new [(.int .i64 0), (.sl none 0), (.sl none 0)]), (some 7), none⟩, ⟨.op (.st 3 (.t 7) (.t 41)), none, none⟩])
 [2, 3, 4, 6, 7]
 (.seq (.reg [⟨.op (.bslice 2 0 [] []), (some 42), none⟩, ⟨.op (.mv (.t 42)), (some 8), none⟩])
 [2, 3, 4, 6, 7, 8]
 (.seq (.reg [⟨.op (.mv (.c (.bool false))), (some 9), none⟩])
 [2, 3, 4, 6, 7, 8, 9]
 (.seq (.seq (.reg [⟨.op (.mv (.c (.int .i64 0))), (some 10), none⟩])
 [2, 3, 4, 6, 7, 8, 9, 10]
 (.block 0 (.loop [2, 3, 4, 6, 7, 8, 9, 10] (l34_0))))
 [3, 4, 6, 7, 8, 9]
 (.seq (.seq (.reg [⟨.op (.mv (.t 9)), (some 75), none⟩, ⟨.op (.not (.t 75)), (some 76), none⟩])
 [3, 4, 6, 7, 8, 76]
 (.cond (.t 76) (.reg [⟨.op (.mv (.t 8)), (some 77), none⟩, ⟨.op (.ldn 2 (.t 3)), (some 78), none⟩, ⟨.op (.bslice 2 1 [(.int .i64 0), (.str [])] [(0, 2, (.t 78))]), (some 79), none⟩, ⟨.op (.app 2 24 false (.t 77) (.t 79)), (some 80), none⟩, ⟨.op (.mv (.t 80)), (some 8), none⟩]) (.skip)))
 [4, 6, 7, 8]
 (.seq (.reg [⟨.op (.mv (.c (.sl none 0))), (some 11), none⟩])
 [4, 6, 7, 8, 11]
 (.seq (.seq (.reg [⟨.op (.mv (.c (.int .i64 0))), (some 12), none⟩])
 [4, 6, 7, 8, 11, 12]
 (.block 2 (.loop [4, 6, 7, 8, 11, 12] (l34_1))))
 [4, 7, 11]
 (.seq (.reg [⟨.op (.ldn 3 (.t 7)), (some 122), none⟩, ⟨.op (.mv (.t 11)), (some 123), none⟩, ⟨.op (.st 3 (.t 4) (.t 122)), none, none⟩, ⟨.op (.mv (.t 123)), (some 5), none⟩])
 [4, 5]
 (.ret))))))))))),
 [.celln 3 4, .tmp 5]⟩
theorem k34 : cFn Try.prog 34 = some c34.toE := by kernel_rfl
theorem w34 : c34.body.wf = true := by kernel_rfl
/-- cardamom/cardamomref20.SameRcvr -/
noncomputable def c35 : DFn := ⟨17, .pure,
 .seq (.reg [⟨.op (.box (.t 0)), (some 2), none⟩, ⟨.op (.box (.t 1)), (some 3), none⟩, ⟨.op (.mv (.c (.bool false))), (some 4), none⟩])
 [2, 3]
 (.seq (.reg [⟨.op (.fa 0 (.t 2)), (some 5), none⟩, ⟨.op (.ldn 2 (.t 5)), (some 6), none⟩, ⟨.op (.fa 0 (.t 3)), (some 7), none⟩, ⟨.op (.ldn 2 (.t 7)), (some 8), none⟩, ⟨.call 26 [(.t 6), (.t 8)], (some 9), none⟩, ⟨.op (.mv (.t 9)), (some 10), none⟩, ⟨.op (.fa 2 (.t 2)), (some 11), (some (10, true))⟩, ⟨.op (.ld1 (.t 11)), (some 12), (some (10, true))⟩, ⟨.op (.fa 2 (.t 3)), (some 13), (some (10, true))⟩, ⟨.op (.ld1 (.t 13)), (some 14), (some (10, true))⟩, ⟨.call 62 [(.t 12), (.t 14)], (some 15), (some (10, true))⟩, ⟨.op (.pick (.t 10) (.t 15) (.c (.bool false))), (some 16), none⟩, ⟨.op (.mv (.t 16)), (some 4), none⟩])
 [4]
 (.ret)),
 [.tmp 4]⟩
theorem k35 : cFn Try.prog 35 = some c35.toE := by kernel_rfl
theorem w35 : c35.body.wf = true := by kernel_rfl
noncomputable def l62_0 : DC :=
 .seq (.seq (.reg [⟨.op (.mv (.t 5)), (some 11), none⟩, ⟨.op (.mv (.t 0)), (some 12), none⟩, ⟨.op (.len (.t 12)), (some 13), none⟩, ⟨.op (.bin .lss 0 (.t 11) (.t 13)), (some 14), none⟩])
 [0, 1, 5, 14]
 (.cond (.t 14) (.skip) (.exit 0)))
 [0, 1, 5]
 (.seq (.block 1 (.seq (.drw [⟨⟨.op (.mv (.t 0)), (some 17), none⟩, .n, []⟩, ⟨⟨.op (.mv (.t 5)), (some 18), none⟩, .n, []⟩, ⟨⟨.op (.ia 2 none (.t 17) (.t 18)), (some 19), none⟩, .n, []⟩, ⟨⟨.op (.ldn 2 (.t 19)), (some 20), none⟩, .n, []⟩, ⟨⟨.op (.mv (.t 1)), (some 21), none⟩, .n, []⟩, ⟨⟨.op (.mv (.t 5)), (some 22), none⟩, .n, []⟩, ⟨⟨.op (.ia 2 none (.t 21) (.t 22)), (some 23), none⟩, .n, []⟩, ⟨⟨.op (.ldn 2 (.t 23)), (some 24), none⟩, .n, []⟩, ⟨⟨.op (.slow (operAt Try.prog 62 20)), (some 25), none⟩, .n, []⟩])
 [0, 1, 5, 25]
 (.cond (.t 25) (.seq (.reg [⟨.op (.mv (.c (.bool false))), (some 4), none⟩])
 [4]
 (.ret)) (.skip))))
 [0, 1, 5]
 (.reg [⟨.op (.mv (.t 5)), (some 15), none⟩, ⟨.op (.bin .add 0 (.t 15) (.c (.int .i64 1))), (some 16), none⟩, ⟨.op (.mv (.t 16)), (some 5), none⟩]))
theorem u62_0 (call : DCall) (T : Tm) (st : Dv.St) : dCw Try.prog call l62_0 T st = dCw Try.prog call
 (.seq (.seq (.reg [⟨.op (.mv (.t 5)), (some 11), none⟩, ⟨.op (.mv (.t 0)), (some 12), none⟩, ⟨.op (.len (.t 12)), (some 13), none⟩, ⟨.op (.bin .lss 0 (.t 11) (.t 13)), (some 14), none⟩])
 [0, 1, 5, 14]
 (.cond (.t 14) (.skip) (.exit 0)))
 [0, 1, 5]
 (.seq (.block 1 (.seq (.drw [⟨⟨.op (.mv (.t 0)), (some 17), none⟩, .n, []⟩, ⟨⟨.op (.mv (.t 5)), (some 18), none⟩, .n, []⟩, ⟨⟨.op (.ia 2 none (.t 17) (.t 18)), (some 19), none⟩, .n, []⟩, ⟨⟨.op (.ldn 2 (.t 19)), (some 20), none⟩, .n, []⟩, ⟨⟨.op (.mv (.t 1)), (some 21), none⟩, .n, []⟩, ⟨⟨.op (.mv (.t 5)), (some 22), none⟩, .n, []⟩, ⟨⟨.op (.ia 2 none (.t 21) (.t 22)), (some 23), none⟩, .n, []⟩, ⟨⟨.op (.ldn 2 (.t 23)), (some 24), none⟩, .n, []⟩, ⟨⟨.op (.slow (operAt Try.prog 62 20)), (some 25), none⟩, .n, []⟩])
 [0, 1, 5, 25]
 (.cond (.t 25) (.seq (.reg [⟨.op (.mv (.c (.bool false))), (some 4), none⟩])
 [4]
 (.ret)) (.skip))))
 [0, 1, 5]
 (.reg [⟨.op (.mv (.t 5)), (some 15), none⟩, ⟨.op (.bin .add 0 (.t 15) (.c (.int .i64 1))), (some 16), none⟩, ⟨.op (.mv (.t 16)), (some 5), none⟩]))) T st := rfl
/-- cardamom/cardamomref20.SameSegs -/
noncomputable def c62 : DFn := ⟨26, .pure,
 .seq (.reg [⟨.op (.mv (.c (.bool false))), (some 4), none⟩])
 [0, 1]
 (.seq (.seq (.reg [⟨.op (.mv (.t 0)), (some 6), none⟩, ⟨.op (.len (.t 6)), (some 7), none⟩, ⟨.op (.mv (.t 1)), (some 8), none⟩, ⟨.op (.len (.t 8)), (some 9), none⟩, ⟨.op (.bin .neq 0 (.t 7) (.t 9)), (some 10), none⟩])
 [0, 1, 10]
 (.cond (.t 10) (.seq (.reg [⟨.op (.mv (.c (.bool false))), (some 4), none⟩])
 [4]
 (.ret)) (.skip)))
 [0, 1]
 (.seq (.seq (.reg [⟨.op (.mv (.c (.int .i64 0))), (some 5), none⟩])
 [0, 1, 5]
 (.block 0 (.loop [0, 1, 5] (l62_0))))
 []
 (.seq (.reg [⟨.op (.mv (.c (.bool true))), (some 4), none⟩])
 [4]
 (.ret)))),
 [.tmp 4]⟩
theorem k62 : cFn Try.prog 62 = some c62.toE := by kernel_rfl
theorem w62 : c62.body.wf = true := by kernel_rfl
/-- cardamom/wind.New -/
noncomputable def c36 : DFn := ⟨2, .pure,
 .seq (.reg [⟨.op (.new [(.int .i64 0), (.int .i64 0), (.sl none 0), (.sl none 0)]), (some 0), none⟩])
 [0]
 (.seq (.reg [⟨.op (.build [(.int .i64 0), (.int .i64 0), (.sl none 0), (.sl none 0)] [(0, 1, (.c (.int .i64 1))), (1, 1, (.c (.int .i64 1)))]), (some 1), none⟩, ⟨.op (.st 4 (.t 0) (.t 1)), none, none⟩])
 [0]
 (.ret)),
 [.celln 4 0]⟩
theorem k36 : cFn Try.prog 36 = some c36.toE := by kernel_rfl
theorem w36 : c36.body.wf = true := by kernel_rfl
/-- cardamom/wind.Send -/
noncomputable def c37 : DFn := ⟨15, .pure,
 .seq (.reg [⟨.op (.box (.t 0)), (some 2), none⟩, ⟨.op (.new [(.int .i64 0), (.int .i64 0), (.sl none 0), (.sl none 0)]), (some 4), none⟩])
 [1, 2, 4]
 (.seq (.reg [⟨.op (.ldn 4 (.t 2)), (some 5), none⟩, ⟨.call 63 [(.t 5)], (some 6), none⟩, ⟨.op (.st 4 (.t 2) (.t 6)), none, none⟩])
 [1, 2, 4]
 (.seq (.reg [⟨.op (.fa 3 (.t 2)), (some 7), none⟩, ⟨.op (.ld1 (.t 7)), (some 8), none⟩, ⟨.op (.mv (.t 1)), (some 9), none⟩, ⟨.op (.bslice 1 1 [(.str [])] [(0, 1, (.t 9))]), (some 10), none⟩, ⟨.op (.app 1 16 false (.t 8) (.t 10)), (some 11), none⟩, ⟨.op (.fa 3 (.t 2)), (some 12), none⟩, ⟨.op (.st 1 (.t 12) (.t 11)), none, none⟩])
 [2, 4]
 (.seq (.reg [⟨.op (.ldn 4 (.t 2)), (some 13), none⟩, ⟨.call 64 [(.t 13)], (some 14), none⟩, ⟨.op (.st 4 (.t 4) (.t 14)), none, none⟩])
 [4]
 (.ret)))),
 [.celln 4 4]⟩
theorem k37 : cFn Try.prog 37 = some c37.toE := by kernel_rfl
theorem w37 : c37.body.wf = true := by kernel_rfl
/-- cardamom/wind.Told -/
noncomputable def c38 : DFn := ⟨28, .pure,
 .seq (.reg [⟨.op (.box (.t 0)), (some 2), none⟩, ⟨.op (.box (.t 1)), (some 3), none⟩, ⟨.op (.new [(.int .i64 0), (.int .i64 0), (.sl none 0), (.sl none 0)]), (some 4), none⟩])
 [2, 3, 4]
 (.seq (.reg [⟨.op (.ldn 4 (.t 2)), (some 5), none⟩, ⟨.call 63 [(.t 5)], (some 6), none⟩, ⟨.op (.st 4 (.t 2) (.t 6)), none, none⟩])
 [2, 3, 4]
 (.seq (.block 0 (.seq (.block 2 (.block 1 (.seq (.seq (.seq (.reg [⟨.op (.ld1 (.t 3)), (some 8), none⟩, ⟨.op (.fa 0 (.t 2)), (some 9), none⟩, ⟨.op (.ld1 (.t 9)), (some 10), none⟩, ⟨.op (.bin .lss 0 (.t 8) (.t 10)), (some 11), none⟩, ⟨.op (.mv (.t 11)), (some 7), none⟩])
 [2, 3, 4, 7]
 (.cond (.t 7) (.exit 1) (.skip)))
 [2, 3, 4]
 (.seq (.reg [⟨.op (.ld1 (.t 3)), (some 13), none⟩, ⟨.op (.fa 1 (.t 2)), (some 14), none⟩, ⟨.op (.ld1 (.t 14)), (some 15), none⟩, ⟨.op (.bin .geq 0 (.t 13) (.t 15)), (some 16), none⟩, ⟨.op (.mv (.t 16)), (some 12), none⟩])
 [2, 3, 4, 12]
 (.cond (.t 12) (.exit 2) (.skip))))
 [2, 3, 4]
 (.exit 0))))
 [2, 4]
 (.seq (.seq (.reg [⟨.op (.ldn 4 (.t 2)), (some 17), none⟩, ⟨.op (.st 4 (.t 4) (.t 17)), none, none⟩])
 [4]
 (.ret))
 [2, 3, 4]
 (.exit 0))))
 [2, 3, 4]
 (.seq (.reg [⟨.op (.fa 2 (.t 2)), (some 18), none⟩, ⟨.op (.ld1 (.t 18)), (some 19), none⟩, ⟨.op (.fn 66 [(.t 3)]), (some 20), none⟩, ⟨.call 65 [(.t 19), (.t 20)], (some 21), none⟩, ⟨.op (.fa 2 (.t 2)), (some 22), none⟩, ⟨.op (.st 1 (.t 22) (.t 21)), none, none⟩])
 [2, 3, 4]
 (.seq (.reg [⟨.op (.ld1 (.t 3)), (some 23), none⟩, ⟨.op (.bin .add 0 (.t 23) (.c (.int .i64 1))), (some 24), none⟩, ⟨.op (.fa 0 (.t 2)), (some 25), none⟩, ⟨.op (.st 1 (.t 25) (.t 24)), none, none⟩])
 [2, 4]
 (.seq (.reg [⟨.op (.ldn 4 (.t 2)), (some 26), none⟩, ⟨.call 64 [(.t 26)], (some 27), none⟩, ⟨.op (.st 4 (.t 4) (.t 27)), none, none⟩])
 [4]
 (.ret)))))),
 [.celln 4 4]⟩
theorem k38 : cFn Try.prog 38 = some c38.toE := by kernel_rfl
theorem w38 : c38.body.wf = true := by kernel_rfl
/-- cardamom/wind.Told$1 -/
noncomputable def c66 : DFn := ⟨8, .pure,
 .seq (.reg [⟨.op (.box (.t 0)), (some 2), none⟩, ⟨.op (.mv (.c (.bool false))), (some 3), none⟩])
 [1, 2]
 (.seq (.reg [⟨.op (.fa 0 (.t 2)), (some 4), none⟩, ⟨.op (.ld1 (.t 4)), (some 5), none⟩, ⟨.op (.ld1 (.t 1)), (some 6), none⟩, ⟨.op (.bin .leq 0 (.t 5) (.t 6)), (some 7), none⟩, ⟨.op (.mv (.t 7)), (some 3), none⟩])
 [3]
 (.ret)),
 [.tmp 3]⟩
theorem k66 : cFn Try.prog 66 = some c66.toE := by kernel_rfl
theorem w66 : c66.body.wf = true := by kernel_rfl
/-- cardamom/wind.twin -/
noncomputable def c63 : DFn := ⟨12, .own,
 .seq (.reg [⟨.op (.box (.t 0)), (some 1), none⟩, ⟨.op (.new [(.int .i64 0), (.int .i64 0), (.sl none 0), (.sl none 0)]), (some 2), none⟩])
 [1, 2]
 (.seq (.drw [⟨⟨.op (.fa 2 (.t 1)), (some 3), none⟩, .n, []⟩, ⟨⟨.op (.ld1 (.t 3)), (some 4), none⟩, .n, []⟩, ⟨⟨.op (.fa 3 (.t 1)), (some 6), none⟩, .n, []⟩, ⟨⟨.op (.ld1 (.t 6)), (some 7), none⟩, .n, []⟩, ⟨⟨.call 57 [(.t 4)], (some 5), none⟩, .x, [(true, 3)]⟩, ⟨⟨.op (.fa 2 (.t 1)), (some 9), none⟩, .n, []⟩, ⟨⟨.call 84 [(.t 7)], (some 8), none⟩, .x, []⟩, ⟨⟨.op (.st 1 (.t 9) (.t 5)), none, none⟩, .x, []⟩, ⟨⟨.op (.fa 3 (.t 1)), (some 10), none⟩, .n, []⟩, ⟨⟨.op (.st 1 (.t 10) (.t 8)), none, none⟩, .x, []⟩])
 [1, 2]
 (.seq (.reg [⟨.op (.ldn 4 (.t 1)), (some 11), none⟩, ⟨.op (.st 4 (.t 2) (.t 11)), none, none⟩])
 [2]
 (.ret))),
 [.celln 4 2]⟩
theorem k63 : cFn Try.prog 63 = some c63.toE := by kernel_rfl
theorem w63 : c63.body.wf = true := by kernel_rfl
noncomputable def l64_0 : DC :=
 .seq (.seq (.reg [⟨.op (.fa 3 (.t 1)), (some 3), none⟩, ⟨.op (.ld1 (.t 3)), (some 4), none⟩, ⟨.op (.len (.t 4)), (some 5), none⟩, ⟨.op (.bin .gtr 0 (.t 5) (.c (.int .i64 0))), (some 6), none⟩, ⟨.op (.mv (.t 6)), (some 7), none⟩, ⟨.op (.fa 1 (.t 1)), (some 8), (some (7, true))⟩, ⟨.op (.ld1 (.t 8)), (some 9), (some (7, true))⟩, ⟨.op (.fa 0 (.t 1)), (some 10), (some (7, true))⟩, ⟨.op (.ld1 (.t 10)), (some 11), (some (7, true))⟩, ⟨.op (.bin .add 0 (.t 11) (.c (.int .i64 4))), (some 12), (some (7, true))⟩, ⟨.op (.bin .lss 0 (.t 9) (.t 12)), (some 13), (some (7, true))⟩, ⟨.op (.pick (.t 7) (.t 13) (.c (.bool false))), (some 14), none⟩])
 [1, 2, 14]
 (.cond (.t 14) (.skip) (.exit 0)))
 [1, 2]
 (.block 1 (.seq (.drw [⟨⟨.op (.fa 2 (.t 1)), (some 15), none⟩, .n, []⟩, ⟨⟨.op (.ld1 (.t 15)), (some 16), none⟩, .n, []⟩, ⟨⟨.op (.fa 1 (.t 1)), (some 17), none⟩, .n, []⟩, ⟨⟨.op (.ld1 (.t 17)), (some 18), none⟩, .n, []⟩, ⟨⟨.op (.fa 3 (.t 1)), (some 19), none⟩, .n, []⟩, ⟨⟨.op (.ld1 (.t 19)), (some 20), none⟩, .n, []⟩, ⟨⟨.op (.ia 1 none (.t 20) (.c (.int .i64 0))), (some 21), none⟩, .n, []⟩, ⟨⟨.op (.ld1 (.t 21)), (some 22), none⟩, .n, []⟩, ⟨⟨.op (.build [(.int .i64 0), (.str [])] [(0, 1, (.t 18)), (1, 1, (.t 22))]), (some 23), none⟩, .n, []⟩, ⟨⟨.op (.bslice 2 1 [(.int .i64 0), (.str [])] [(0, 2, (.t 23))]), (some 24), none⟩, .a, [(true, 7), (true, 5), (true, 3), (true, 1)]⟩, ⟨⟨.op (.app 2 24 false (.t 16) (.t 24)), (some 25), none⟩, .x, []⟩, ⟨⟨.op (.fa 2 (.t 1)), (some 26), none⟩, .n, []⟩, ⟨⟨.op (.st 1 (.t 26) (.t 25)), none, none⟩, .x, []⟩])
 [1, 2]
 (.seq (.reg [⟨.op (.fa 3 (.t 1)), (some 27), none⟩, ⟨.op (.ld1 (.t 27)), (some 28), none⟩, ⟨.op (.cut 1 none (.t 28) (some (.c (.int .i64 1))) none), (some 29), none⟩, ⟨.op (.fa 3 (.t 1)), (some 30), none⟩, ⟨.op (.st 1 (.t 30) (.t 29)), none, none⟩])
 [1, 2]
 (.reg [⟨.op (.fa 1 (.t 1)), (some 31), none⟩, ⟨.op (.ld1 (.t 31)), (some 32), none⟩, ⟨.op (.bin .add 0 (.t 32) (.c (.int .i64 1))), (some 33), none⟩, ⟨.op (.fa 1 (.t 1)), (some 34), none⟩, ⟨.op (.st 1 (.t 34) (.t 33)), none, none⟩]))))
theorem u64_0 (call : DCall) (T : Tm) (st : Dv.St) : dCw Try.prog call l64_0 T st = dCw Try.prog call
 (.seq (.seq (.reg [⟨.op (.fa 3 (.t 1)), (some 3), none⟩, ⟨.op (.ld1 (.t 3)), (some 4), none⟩, ⟨.op (.len (.t 4)), (some 5), none⟩, ⟨.op (.bin .gtr 0 (.t 5) (.c (.int .i64 0))), (some 6), none⟩, ⟨.op (.mv (.t 6)), (some 7), none⟩, ⟨.op (.fa 1 (.t 1)), (some 8), (some (7, true))⟩, ⟨.op (.ld1 (.t 8)), (some 9), (some (7, true))⟩, ⟨.op (.fa 0 (.t 1)), (some 10), (some (7, true))⟩, ⟨.op (.ld1 (.t 10)), (some 11), (some (7, true))⟩, ⟨.op (.bin .add 0 (.t 11) (.c (.int .i64 4))), (some 12), (some (7, true))⟩, ⟨.op (.bin .lss 0 (.t 9) (.t 12)), (some 13), (some (7, true))⟩, ⟨.op (.pick (.t 7) (.t 13) (.c (.bool false))), (some 14), none⟩])
 [1, 2, 14]
 (.cond (.t 14) (.skip) (.exit 0)))
 [1, 2]
 (.block 1 (.seq (.drw [⟨⟨.op (.fa 2 (.t 1)), (some 15), none⟩, .n, []⟩, ⟨⟨.op (.ld1 (.t 15)), (some 16), none⟩, .n, []⟩, ⟨⟨.op (.fa 1 (.t 1)), (some 17), none⟩, .n, []⟩, ⟨⟨.op (.ld1 (.t 17)), (some 18), none⟩, .n, []⟩, ⟨⟨.op (.fa 3 (.t 1)), (some 19), none⟩, .n, []⟩, ⟨⟨.op (.ld1 (.t 19)), (some 20), none⟩, .n, []⟩, ⟨⟨.op (.ia 1 none (.t 20) (.c (.int .i64 0))), (some 21), none⟩, .n, []⟩, ⟨⟨.op (.ld1 (.t 21)), (some 22), none⟩, .n, []⟩, ⟨⟨.op (.build [(.int .i64 0), (.str [])] [(0, 1, (.t 18)), (1, 1, (.t 22))]), (some 23), none⟩, .n, []⟩, ⟨⟨.op (.bslice 2 1 [(.int .i64 0), (.str [])] [(0, 2, (.t 23))]), (some 24), none⟩, .a, [(true, 7), (true, 5), (true, 3), (true, 1)]⟩, ⟨⟨.op (.app 2 24 false (.t 16) (.t 24)), (some 25), none⟩, .x, []⟩, ⟨⟨.op (.fa 2 (.t 1)), (some 26), none⟩, .n, []⟩, ⟨⟨.op (.st 1 (.t 26) (.t 25)), none, none⟩, .x, []⟩])
 [1, 2]
 (.seq (.reg [⟨.op (.fa 3 (.t 1)), (some 27), none⟩, ⟨.op (.ld1 (.t 27)), (some 28), none⟩, ⟨.op (.cut 1 none (.t 28) (some (.c (.int .i64 1))) none), (some 29), none⟩, ⟨.op (.fa 3 (.t 1)), (some 30), none⟩, ⟨.op (.st 1 (.t 30) (.t 29)), none, none⟩])
 [1, 2]
 (.reg [⟨.op (.fa 1 (.t 1)), (some 31), none⟩, ⟨.op (.ld1 (.t 31)), (some 32), none⟩, ⟨.op (.bin .add 0 (.t 32) (.c (.int .i64 1))), (some 33), none⟩, ⟨.op (.fa 1 (.t 1)), (some 34), none⟩, ⟨.op (.st 1 (.t 34) (.t 33)), none, none⟩]))))) T st := rfl
/-- cardamom/wind.goes -/
noncomputable def c64 : DFn := ⟨36, .own,
 .seq (.reg [⟨.op (.box (.t 0)), (some 1), none⟩, ⟨.op (.new [(.int .i64 0), (.int .i64 0), (.sl none 0), (.sl none 0)]), (some 2), none⟩])
 [1, 2]
 (.seq (.block 0 (.loop [1, 2] (l64_0)))
 [1, 2]
 (.seq (.reg [⟨.op (.ldn 4 (.t 1)), (some 35), none⟩, ⟨.op (.st 4 (.t 2) (.t 35)), none, none⟩])
 [2]
 (.ret))),
 [.celln 4 2]⟩
theorem k64 : cFn Try.prog 64 = some c64.toE := by kernel_rfl
theorem w64 : c64.body.wf = true := by kernel_rfl
noncomputable def l65_0 : DC :=
 .seq (.seq (.reg [⟨.op (.mv (.t 6)), (some 16), none⟩, ⟨.op (.mv (.t 0)), (some 17), none⟩, ⟨.op (.len (.t 17)), (some 18), none⟩, ⟨.op (.bin .lss 0 (.t 16) (.t 18)), (some 19), none⟩])
 [0, 1, 5, 6, 19]
 (.cond (.t 19) (.skip) (.exit 0)))
 [0, 1, 5, 6]
 (.seq (.block 1 (.seq (.reg [⟨.op (.mv (.t 0)), (some 22), none⟩, ⟨.op (.mv (.t 6)), (some 23), none⟩, ⟨.op (.ia 2 none (.t 22) (.t 23)), (some 24), none⟩, ⟨.op (.ldn 2 (.t 24)), (some 25), none⟩, ⟨.op (.new [(.int .i64 0), (.str [])]), (some 7), none⟩, ⟨.op (.st 2 (.t 7) (.t 25)), none, none⟩])
 [0, 1, 5, 6, 7]
 (.seq (.reg [⟨.op (.mv (.t 1)), (some 26), none⟩, ⟨.op (.ldn 2 (.t 7)), (some 27), none⟩, ⟨.callv (.t 26) [(.t 27)], (some 28), none⟩, ⟨.op (.not (.t 28)), (some 29), none⟩])
 [0, 1, 5, 6, 7, 29]
 (.cond (.t 29) (.seq (.reg [⟨.op (.mv (.t 0)), (some 30), none⟩, ⟨.op (.mv (.t 5)), (some 31), none⟩, ⟨.op (.ldn 2 (.t 7)), (some 32), none⟩, ⟨.op (.ia 2 none (.t 30) (.t 31)), (some 33), none⟩, ⟨.op (.st 2 (.t 33) (.t 32)), none, none⟩])
 [0, 1, 5, 6]
 (.reg [⟨.op (.mv (.t 5)), (some 34), none⟩, ⟨.op (.bin .add 0 (.t 34) (.c (.int .i64 1))), (some 35), none⟩, ⟨.op (.mv (.t 35)), (some 5), none⟩])) (.skip)))))
 [0, 1, 5, 6]
 (.reg [⟨.op (.mv (.t 6)), (some 20), none⟩, ⟨.op (.bin .add 0 (.t 20) (.c (.int .i64 1))), (some 21), none⟩, ⟨.op (.mv (.t 21)), (some 6), none⟩]))
theorem u65_0 (call : DCall) (T : Tm) (st : Dv.St) : dCw Try.prog call l65_0 T st = dCw Try.prog call
 (.seq (.seq (.reg [⟨.op (.mv (.t 6)), (some 16), none⟩, ⟨.op (.mv (.t 0)), (some 17), none⟩, ⟨.op (.len (.t 17)), (some 18), none⟩, ⟨.op (.bin .lss 0 (.t 16) (.t 18)), (some 19), none⟩])
 [0, 1, 5, 6, 19]
 (.cond (.t 19) (.skip) (.exit 0)))
 [0, 1, 5, 6]
 (.seq (.block 1 (.seq (.reg [⟨.op (.mv (.t 0)), (some 22), none⟩, ⟨.op (.mv (.t 6)), (some 23), none⟩, ⟨.op (.ia 2 none (.t 22) (.t 23)), (some 24), none⟩, ⟨.op (.ldn 2 (.t 24)), (some 25), none⟩, ⟨.op (.new [(.int .i64 0), (.str [])]), (some 7), none⟩, ⟨.op (.st 2 (.t 7) (.t 25)), none, none⟩])
 [0, 1, 5, 6, 7]
 (.seq (.reg [⟨.op (.mv (.t 1)), (some 26), none⟩, ⟨.op (.ldn 2 (.t 7)), (some 27), none⟩, ⟨.callv (.t 26) [(.t 27)], (some 28), none⟩, ⟨.op (.not (.t 28)), (some 29), none⟩])
 [0, 1, 5, 6, 7, 29]
 (.cond (.t 29) (.seq (.reg [⟨.op (.mv (.t 0)), (some 30), none⟩, ⟨.op (.mv (.t 5)), (some 31), none⟩, ⟨.op (.ldn 2 (.t 7)), (some 32), none⟩, ⟨.op (.ia 2 none (.t 30) (.t 31)), (some 33), none⟩, ⟨.op (.st 2 (.t 33) (.t 32)), none, none⟩])
 [0, 1, 5, 6]
 (.reg [⟨.op (.mv (.t 5)), (some 34), none⟩, ⟨.op (.bin .add 0 (.t 34) (.c (.int .i64 1))), (some 35), none⟩, ⟨.op (.mv (.t 35)), (some 5), none⟩])) (.skip)))))
 [0, 1, 5, 6]
 (.reg [⟨.op (.mv (.t 6)), (some 20), none⟩, ⟨.op (.bin .add 0 (.t 20) (.c (.int .i64 1))), (some 21), none⟩, ⟨.op (.mv (.t 21)), (some 6), none⟩]))) T st := rfl
/-- slices.DeleteFunc[[]cardamom/api.Seg,cardamom/api.Seg] -/
noncomputable def c65 : DFn := ⟨42, .own,
 .seq (.reg [⟨.op (.mv (.c (.sl none 0))), (some 4), none⟩])
 [0, 1]
 (.seq (.reg [⟨.op (.mv (.t 0)), (some 8), none⟩, ⟨.op (.mv (.t 1)), (some 9), none⟩, ⟨.call 85 [(.t 8), (.t 9)], (some 10), none⟩, ⟨.op (.mv (.t 10)), (some 5), none⟩])
 [0, 1, 5]
 (.seq (.seq (.reg [⟨.op (.mv (.t 5)), (some 11), none⟩, ⟨.op (.bin .eql 0 (.t 11) (.c (.int .i64 (-1)))), (some 12), none⟩])
 [0, 1, 5, 12]
 (.cond (.t 12) (.seq (.reg [⟨.op (.mv (.t 0)), (some 13), none⟩, ⟨.op (.mv (.t 13)), (some 4), none⟩])
 [4]
 (.ret)) (.skip)))
 [0, 1, 5]
 (.seq (.seq (.reg [⟨.op (.mv (.t 5)), (some 14), none⟩, ⟨.op (.bin .add 0 (.t 14) (.c (.int .i64 1))), (some 15), none⟩, ⟨.op (.mv (.t 15)), (some 6), none⟩])
 [0, 1, 5, 6]
 (.block 0 (.loop [0, 1, 5, 6] (l65_0))))
 [0, 5]
 (.seq (.reg [⟨.op (.mv (.t 0)), (some 36), none⟩, ⟨.op (.mv (.t 5)), (some 37), none⟩, ⟨.op (.cut 2 none (.t 36) (some (.t 37)) none), (some 38), none⟩, ⟨.op (.clr 2 [(.int .i64 0), (.str [])] (.t 38)), none, none⟩])
 [0, 5]
 (.seq (.reg [⟨.op (.mv (.t 0)), (some 39), none⟩, ⟨.op (.mv (.t 5)), (some 40), none⟩, ⟨.op (.cut 2 none (.t 39) none (some (.t 40))), (some 41), none⟩, ⟨.op (.mv (.t 41)), (some 4), none⟩])
 [4]
 (.ret)))))),
 [.tmp 4]⟩
theorem k65 : cFn Try.prog 65 = some c65.toE := by kernel_rfl
theorem w65 : c65.body.wf = true := by kernel_rfl
noncomputable def l85_0 : DC :=
 .seq (.reg [⟨.op (.bin .lss 0 (.t 8) (.t 7)), (some 9), none⟩])
 [0, 1, 7, 8, 9]
 (.seq (.cond (.t 9) (.skip) (.exit 0))
 [0, 1, 7, 8]
 (.seq (.block 1 (.seq (.reg [⟨.op (.mv (.t 8)), (some 10), none⟩, ⟨.op (.mv (.t 10)), (some 5), none⟩])
 [0, 1, 5, 7, 8]
 (.seq (.reg [⟨.op (.mv (.t 1)), (some 11), none⟩, ⟨.op (.mv (.t 0)), (some 12), none⟩, ⟨.op (.mv (.t 5)), (some 13), none⟩, ⟨.op (.ia 2 none (.t 12) (.t 13)), (some 14), none⟩, ⟨.op (.ldn 2 (.t 14)), (some 15), none⟩, ⟨.callv (.t 11) [(.t 15)], (some 16), none⟩])
 [0, 1, 5, 7, 8, 16]
 (.cond (.t 16) (.seq (.reg [⟨.op (.mv (.t 5)), (some 17), none⟩, ⟨.op (.mv (.t 17)), (some 4), none⟩])
 [4]
 (.ret)) (.skip)))))
 [0, 1, 7, 8]
 (.reg [⟨.op (.bin .add 0 (.t 8) (.c (.int .i64 1))), (some 18), none⟩, ⟨.op (.mv (.t 18)), (some 8), none⟩])))
theorem u85_0 (call : DCall) (T : Tm) (st : Dv.St) : dCw Try.prog call l85_0 T st = dCw Try.prog call
 (.seq (.reg [⟨.op (.bin .lss 0 (.t 8) (.t 7)), (some 9), none⟩])
 [0, 1, 7, 8, 9]
 (.seq (.cond (.t 9) (.skip) (.exit 0))
 [0, 1, 7, 8]
 (.seq (.block 1 (.seq (.reg [⟨.op (.mv (.t 8)), (some 10), none⟩, ⟨.op (.mv (.t 10)), (some 5), none⟩])
 [0, 1, 5, 7, 8]
 (.seq (.reg [⟨.op (.mv (.t 1)), (some 11), none⟩, ⟨.op (.mv (.t 0)), (some 12), none⟩, ⟨.op (.mv (.t 5)), (some 13), none⟩, ⟨.op (.ia 2 none (.t 12) (.t 13)), (some 14), none⟩, ⟨.op (.ldn 2 (.t 14)), (some 15), none⟩, ⟨.callv (.t 11) [(.t 15)], (some 16), none⟩])
 [0, 1, 5, 7, 8, 16]
 (.cond (.t 16) (.seq (.reg [⟨.op (.mv (.t 5)), (some 17), none⟩, ⟨.op (.mv (.t 17)), (some 4), none⟩])
 [4]
 (.ret)) (.skip)))))
 [0, 1, 7, 8]
 (.reg [⟨.op (.bin .add 0 (.t 8) (.c (.int .i64 1))), (some 18), none⟩, ⟨.op (.mv (.t 18)), (some 8), none⟩])))) T st := rfl
/-- slices.IndexFunc[[]cardamom/api.Seg,cardamom/api.Seg] -/
noncomputable def c85 : DFn := ⟨19, .pure,
 .seq (.reg [⟨.op (.mv (.c (.int .i64 0))), (some 4), none⟩])
 [0, 1]
 (.seq (.seq (.reg [⟨.op (.mv (.t 0)), (some 6), none⟩, ⟨.op (.len (.t 6)), (some 7), none⟩, ⟨.op (.mv (.c (.int .i64 0))), (some 8), none⟩])
 [0, 1, 7, 8]
 (.block 0 (.loop [0, 1, 7, 8] (l85_0))))
 []
 (.seq (.reg [⟨.op (.mv (.c (.int .i64 (-1)))), (some 4), none⟩])
 [4]
 (.ret))),
 [.tmp 4]⟩
theorem k85 : cFn Try.prog 85 = some c85.toE := by kernel_rfl
theorem w85 : c85.body.wf = true := by kernel_rfl
/-- slices.Clone[[]string,string] -/
noncomputable def c84 : DFn := ⟨8, .pure,
 .seq (.reg [⟨.op (.mv (.c (.sl none 0))), (some 2), none⟩])
 [0]
 (.seq (.seq (.reg [⟨.op (.mv (.t 0)), (some 3), none⟩, ⟨.op (.bin .eql 1 (.t 3) (.c (.sl none 0))), (some 4), none⟩])
 [0, 4]
 (.cond (.t 4) (.seq (.reg [⟨.op (.mv (.c (.sl none 0))), (some 2), none⟩])
 [2]
 (.ret)) (.skip)))
 [0]
 (.seq (.reg [⟨.op (.bslice 1 0 [] []), (some 5), none⟩, ⟨.op (.mv (.t 0)), (some 6), none⟩, ⟨.op (.app 1 16 false (.t 5) (.t 6)), (some 7), none⟩, ⟨.op (.mv (.t 7)), (some 2), none⟩])
 [2]
 (.ret))),
 [.tmp 2]⟩
theorem k84 : cFn Try.prog 84 = some c84.toE := by kernel_rfl
theorem w84 : c84.body.wf = true := by kernel_rfl
def tbl : Nat → Option DFn := fun f => bif Nat.beq f 11 then some c11 else bif Nat.beq f 13 then some c13 else bif Nat.beq f 32 then some c32 else bif Nat.beq f 25 then some c25 else bif Nat.beq f 24 then some c24 else bif Nat.beq f 47 then some c47 else bif Nat.beq f 48 then some c48 else bif Nat.beq f 76 then some c76 else bif Nat.beq f 45 then some c45 else bif Nat.beq f 72 then some c72 else bif Nat.beq f 71 then some c71 else bif Nat.beq f 73 then some c73 else bif Nat.beq f 43 then some c43 else bif Nat.beq f 51 then some c51 else bif Nat.beq f 61 then some c61 else bif Nat.beq f 77 then some c77 else bif Nat.beq f 26 then some c26 else bif Nat.beq f 49 then some c49 else bif Nat.beq f 33 then some c33 else bif Nat.beq f 59 then some c59 else bif Nat.beq f 58 then some c58 else bif Nat.beq f 34 then some c34 else bif Nat.beq f 35 then some c35 else bif Nat.beq f 62 then some c62 else bif Nat.beq f 36 then some c36 else bif Nat.beq f 37 then some c37 else bif Nat.beq f 38 then some c38 else bif Nat.beq f 66 then some c66 else bif Nat.beq f 63 then some c63 else bif Nat.beq f 64 then some c64 else bif Nat.beq f 65 then some c65 else bif Nat.beq f 85 then some c85 else none
def dx : DX := fun f => bif Nat.beq f 44 then some (dClone 1 8) else bif Nat.beq f 57 then some (dClone 2 24) else bif Nat.beq f 84 then some (dClone 1 16) else none
def ren46 : Go.Shelf.Ren := ⟨fun n => if n = 29 then 74 else if n = 30 then 75 else n, fun n => if n = 24 then 41 else if n = 9 then 3 else if n = 3 then 3 else if n = 4 then 4 else 0, fun n => n⟩
theorem lay46 : Go.Proofs.Ev.InsLay Try.prog ren46 46 ((Try.prog.info? 3).getD default).size ((Try.prog.info? 3).getD default) (((Try.prog.info? 3).getD default).zero.getD .nilFunc) where
  mixed := Try.checked.mixed
  hf := ⟨Try.f46.name, by rw [Try.func46]; exact congrArg some (show Try.f46 = { Go.Proofs.Body2.n22 ren46 with name := Try.f46.name } from by kernel_rfl)⟩
  hov := fun args w => run_callFunc_extern (fn := Try.f74) Try.func74 (by kernel_rfl) (by kernel_rfl) (by kernel_rfl) (e := Extern.SlicesOverlaps.overlaps #[41, 41] #[4]) (by kernel_rfl) args w
  t3 := by kernel_rfl
  a3 := fun w => Go.Proofs.Ev.tagg_run (by kernel_rfl) w
  z3 := fun w => Go.Proofs.Ev.tsize_run (by kernel_rfl) w
  v3 := fun w => Go.Proofs.Ev.zero_run (by kernel_rfl) w
  t4 := by kernel_rfl
  a4 := fun w => Go.Proofs.Ev.tagg_run (by kernel_rfl) w
  z4 := fun w => Go.Proofs.Ev.tsize_run (by kernel_rfl) w
  v4 := fun w => Go.Proofs.Ev.zero_run (by kernel_rfl) w
  t24 := by kernel_rfl
  a24 := fun w => Go.Proofs.Ev.tagg_run (by kernel_rfl) w
  z24 := fun w => Go.Proofs.Ev.tsize_run (by kernel_rfl) w
  v24 := fun w => Go.Proofs.Ev.zero_run (by kernel_rfl) w
  i9 := by kernel_rfl
  iz := rfl
  ib := Nat.le_of_ble_eq_true (by kernel_rfl)
  izv := by kernel_rfl
  hzv := by kernel_rfl
  hz0 := Nat.le_of_ble_eq_true (by kernel_rfl)
theorem siz46 : Prim.ins 1 8 = .ins ((Try.prog.info? 3).getD default).size ((Try.prog.info? 3).getD default).bytes := by kernel_rfl
def ren60 : Go.Shelf.Ren := ⟨fun n => if n = 29 then 82 else if n = 30 then 83 else n, fun n => if n = 24 then 57 else if n = 9 then 56 else if n = 3 then 3 else if n = 4 then 4 else 0, fun n => n⟩
theorem lay60 : Go.Proofs.Ev.InsLay Try.prog ren60 60 ((Try.prog.info? 56).getD default).size ((Try.prog.info? 56).getD default) (((Try.prog.info? 56).getD default).zero.getD .nilFunc) where
  mixed := Try.checked.mixed
  hf := ⟨Try.f60.name, by rw [Try.func60]; exact congrArg some (show Try.f60 = { Go.Proofs.Body2.n22 ren60 with name := Try.f60.name } from by kernel_rfl)⟩
  hov := fun args w => run_callFunc_extern (fn := Try.f82) Try.func82 (by kernel_rfl) (by kernel_rfl) (by kernel_rfl) (e := Extern.SlicesOverlaps.overlaps #[57, 57] #[4]) (by kernel_rfl) args w
  t3 := by kernel_rfl
  a3 := fun w => Go.Proofs.Ev.tagg_run (by kernel_rfl) w
  z3 := fun w => Go.Proofs.Ev.tsize_run (by kernel_rfl) w
  v3 := fun w => Go.Proofs.Ev.zero_run (by kernel_rfl) w
  t4 := by kernel_rfl
  a4 := fun w => Go.Proofs.Ev.tagg_run (by kernel_rfl) w
  z4 := fun w => Go.Proofs.Ev.tsize_run (by kernel_rfl) w
  v4 := fun w => Go.Proofs.Ev.zero_run (by kernel_rfl) w
  t24 := by kernel_rfl
  a24 := fun w => Go.Proofs.Ev.tagg_run (by kernel_rfl) w
  z24 := fun w => Go.Proofs.Ev.tsize_run (by kernel_rfl) w
  v24 := fun w => Go.Proofs.Ev.zero_run (by kernel_rfl) w
  i9 := by kernel_rfl
  iz := rfl
  ib := Nat.le_of_ble_eq_true (by kernel_rfl)
  izv := by kernel_rfl
  hzv := by kernel_rfl
  hz0 := Nat.le_of_ble_eq_true (by kernel_rfl)
theorem siz60 : Prim.ins 2 24 = .ins ((Try.prog.info? 56).getD default).size ((Try.prog.info? 56).getD default).bytes := by kernel_rfl
def prims : Prims := fun f => bif Nat.beq f 46 then some (.ins 1 8) else bif Nat.beq f 60 then some (.ins 2 24) else none
theorem code_ok : ∀ f df, tbl f = some df → cFn Try.prog f = some df.toE ∧ df.body.wf = true := by
  intro f df h
  unfold tbl at h
  by_cases h11 : f = 11
  · subst h11; rw [Nat.beq_refl, cond_true] at h; rw [← Option.some.inj h]; exact ⟨k11, w11⟩
  rw [Ev.beq_false _ _ h11, cond_false] at h
  by_cases h13 : f = 13
  · subst h13; rw [Nat.beq_refl, cond_true] at h; rw [← Option.some.inj h]; exact ⟨k13, w13⟩
  rw [Ev.beq_false _ _ h13, cond_false] at h
  by_cases h32 : f = 32
  · subst h32; rw [Nat.beq_refl, cond_true] at h; rw [← Option.some.inj h]; exact ⟨k32, w32⟩
  rw [Ev.beq_false _ _ h32, cond_false] at h
  by_cases h25 : f = 25
  · subst h25; rw [Nat.beq_refl, cond_true] at h; rw [← Option.some.inj h]; exact ⟨k25, w25⟩
  rw [Ev.beq_false _ _ h25, cond_false] at h
  by_cases h24 : f = 24
  · subst h24; rw [Nat.beq_refl, cond_true] at h; rw [← Option.some.inj h]; exact ⟨k24, w24⟩
  rw [Ev.beq_false _ _ h24, cond_false] at h
  by_cases h47 : f = 47
  · subst h47; rw [Nat.beq_refl, cond_true] at h; rw [← Option.some.inj h]; exact ⟨k47, w47⟩
  rw [Ev.beq_false _ _ h47, cond_false] at h
  by_cases h48 : f = 48
  · subst h48; rw [Nat.beq_refl, cond_true] at h; rw [← Option.some.inj h]; exact ⟨k48, w48⟩
  rw [Ev.beq_false _ _ h48, cond_false] at h
  by_cases h76 : f = 76
  · subst h76; rw [Nat.beq_refl, cond_true] at h; rw [← Option.some.inj h]; exact ⟨k76, w76⟩
  rw [Ev.beq_false _ _ h76, cond_false] at h
  by_cases h45 : f = 45
  · subst h45; rw [Nat.beq_refl, cond_true] at h; rw [← Option.some.inj h]; exact ⟨k45, w45⟩
  rw [Ev.beq_false _ _ h45, cond_false] at h
  by_cases h72 : f = 72
  · subst h72; rw [Nat.beq_refl, cond_true] at h; rw [← Option.some.inj h]; exact ⟨k72, w72⟩
  rw [Ev.beq_false _ _ h72, cond_false] at h
  by_cases h71 : f = 71
  · subst h71; rw [Nat.beq_refl, cond_true] at h; rw [← Option.some.inj h]; exact ⟨k71, w71⟩
  rw [Ev.beq_false _ _ h71, cond_false] at h
  by_cases h73 : f = 73
  · subst h73; rw [Nat.beq_refl, cond_true] at h; rw [← Option.some.inj h]; exact ⟨k73, w73⟩
  rw [Ev.beq_false _ _ h73, cond_false] at h
  by_cases h43 : f = 43
  · subst h43; rw [Nat.beq_refl, cond_true] at h; rw [← Option.some.inj h]; exact ⟨k43, w43⟩
  rw [Ev.beq_false _ _ h43, cond_false] at h
  by_cases h51 : f = 51
  · subst h51; rw [Nat.beq_refl, cond_true] at h; rw [← Option.some.inj h]; exact ⟨k51, w51⟩
  rw [Ev.beq_false _ _ h51, cond_false] at h
  by_cases h61 : f = 61
  · subst h61; rw [Nat.beq_refl, cond_true] at h; rw [← Option.some.inj h]; exact ⟨k61, w61⟩
  rw [Ev.beq_false _ _ h61, cond_false] at h
  by_cases h77 : f = 77
  · subst h77; rw [Nat.beq_refl, cond_true] at h; rw [← Option.some.inj h]; exact ⟨k77, w77⟩
  rw [Ev.beq_false _ _ h77, cond_false] at h
  by_cases h26 : f = 26
  · subst h26; rw [Nat.beq_refl, cond_true] at h; rw [← Option.some.inj h]; exact ⟨k26, w26⟩
  rw [Ev.beq_false _ _ h26, cond_false] at h
  by_cases h49 : f = 49
  · subst h49; rw [Nat.beq_refl, cond_true] at h; rw [← Option.some.inj h]; exact ⟨k49, w49⟩
  rw [Ev.beq_false _ _ h49, cond_false] at h
  by_cases h33 : f = 33
  · subst h33; rw [Nat.beq_refl, cond_true] at h; rw [← Option.some.inj h]; exact ⟨k33, w33⟩
  rw [Ev.beq_false _ _ h33, cond_false] at h
  by_cases h59 : f = 59
  · subst h59; rw [Nat.beq_refl, cond_true] at h; rw [← Option.some.inj h]; exact ⟨k59, w59⟩
  rw [Ev.beq_false _ _ h59, cond_false] at h
  by_cases h58 : f = 58
  · subst h58; rw [Nat.beq_refl, cond_true] at h; rw [← Option.some.inj h]; exact ⟨k58, w58⟩
  rw [Ev.beq_false _ _ h58, cond_false] at h
  by_cases h34 : f = 34
  · subst h34; rw [Nat.beq_refl, cond_true] at h; rw [← Option.some.inj h]; exact ⟨k34, w34⟩
  rw [Ev.beq_false _ _ h34, cond_false] at h
  by_cases h35 : f = 35
  · subst h35; rw [Nat.beq_refl, cond_true] at h; rw [← Option.some.inj h]; exact ⟨k35, w35⟩
  rw [Ev.beq_false _ _ h35, cond_false] at h
  by_cases h62 : f = 62
  · subst h62; rw [Nat.beq_refl, cond_true] at h; rw [← Option.some.inj h]; exact ⟨k62, w62⟩
  rw [Ev.beq_false _ _ h62, cond_false] at h
  by_cases h36 : f = 36
  · subst h36; rw [Nat.beq_refl, cond_true] at h; rw [← Option.some.inj h]; exact ⟨k36, w36⟩
  rw [Ev.beq_false _ _ h36, cond_false] at h
  by_cases h37 : f = 37
  · subst h37; rw [Nat.beq_refl, cond_true] at h; rw [← Option.some.inj h]; exact ⟨k37, w37⟩
  rw [Ev.beq_false _ _ h37, cond_false] at h
  by_cases h38 : f = 38
  · subst h38; rw [Nat.beq_refl, cond_true] at h; rw [← Option.some.inj h]; exact ⟨k38, w38⟩
  rw [Ev.beq_false _ _ h38, cond_false] at h
  by_cases h66 : f = 66
  · subst h66; rw [Nat.beq_refl, cond_true] at h; rw [← Option.some.inj h]; exact ⟨k66, w66⟩
  rw [Ev.beq_false _ _ h66, cond_false] at h
  by_cases h63 : f = 63
  · subst h63; rw [Nat.beq_refl, cond_true] at h; rw [← Option.some.inj h]; exact ⟨k63, w63⟩
  rw [Ev.beq_false _ _ h63, cond_false] at h
  by_cases h64 : f = 64
  · subst h64; rw [Nat.beq_refl, cond_true] at h; rw [← Option.some.inj h]; exact ⟨k64, w64⟩
  rw [Ev.beq_false _ _ h64, cond_false] at h
  by_cases h65 : f = 65
  · subst h65; rw [Nat.beq_refl, cond_true] at h; rw [← Option.some.inj h]; exact ⟨k65, w65⟩
  rw [Ev.beq_false _ _ h65, cond_false] at h
  by_cases h85 : f = 85
  · subst h85; rw [Nat.beq_refl, cond_true] at h; rw [← Option.some.inj h]; exact ⟨k85, w85⟩
  rw [Ev.beq_false _ _ h85, cond_false] at h
  cases h
theorem ext_ok : ∀ f g, prims f = none → dx f = some g → ∀ (k : Nat) (ds : List D) (st : Dv.St) (r : D × Dv.St × List Nat) (c : Ct) (H : Heap) (vs : List V), g ds st = some r → SR c st H → Row (DR c H) ds vs → Fol c st H r (eFn Try.prog prims (cFn Try.prog) listHP (k + 1) f vs H) := by
  intro f g _ h
  unfold dx at h
  by_cases h44 : f = 44
  · subst h44; rw [Nat.beq_refl, cond_true] at h; rw [← Option.some.inj h]; exact clone_ok (z := 1) (bytes := 8) (by kernel_rfl) k44
  rw [Ev.beq_false _ _ h44, cond_false] at h
  by_cases h57 : f = 57
  · subst h57; rw [Nat.beq_refl, cond_true] at h; rw [← Option.some.inj h]; exact clone_ok (z := 2) (bytes := 24) (by kernel_rfl) k57
  rw [Ev.beq_false _ _ h57, cond_false] at h
  by_cases h84 : f = 84
  · subst h84; rw [Nat.beq_refl, cond_true] at h; rw [← Option.some.inj h]; exact clone_ok (z := 1) (bytes := 16) (by kernel_rfl) k84
  rw [Ev.beq_false _ _ h84, cond_false] at h
  cases h
theorem tbl_ok : TblOK Try.prog prims (cFn Try.prog) dx tbl := ⟨fun f df _ _ h => code_ok f df h, ext_ok⟩
theorem prims_ok : PrimsOK Try.prog prims := by
  intro f p h
  unfold prims at h
  by_cases h46 : f = 46
  · subst h46
    rw [Nat.beq_refl, cond_true] at h
    rw [← Option.some.inj h, siz46]
    exact ⟨by kernel_rfl, fun vs H v H' he β cs w hr s => Go.Proofs.Ev.evIns_ok lay46 (by intro hz; have : (Go.Proofs.Ev.zeroV Try.prog 3).isSome = true := by kernel_rfl
                                                                                          rw [show ren46.t 9 = 3 from rfl] at hz; rw [hz] at this; cases this) vs H v H' he β cs w hr s⟩
  rw [Go.Proofs.Ev.beq_false _ _ h46, cond_false] at h
  by_cases h60 : f = 60
  · subst h60
    rw [Nat.beq_refl, cond_true] at h
    rw [← Option.some.inj h, siz60]
    exact ⟨by kernel_rfl, fun vs H v H' he β cs w hr s => Go.Proofs.Ev.evIns_ok lay60 (by intro hz; have : (Go.Proofs.Ev.zeroV Try.prog 56).isSome = true := by kernel_rfl
                                                                                          rw [show ren60.t 9 = 56 from rfl] at hz; rw [hz] at this; cases this) vs H v H' he β cs w hr s⟩
  rw [Go.Proofs.Ev.beq_false _ _ h60, cond_false] at h
  cases h
end
end Go.Proofs.Ytpinhopgeaamdaa.Cd
