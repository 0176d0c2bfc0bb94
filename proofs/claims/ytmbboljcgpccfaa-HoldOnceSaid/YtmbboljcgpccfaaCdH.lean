/-
  What is proved here: the texts of the functions, looked up.
  Conditions: none.
-/
import Derived.Test.YtmbboljcgpccfaaRows
import Derived.Test.YtmbboljcgpccfaaDv3
import Derived.KernelRfl
set_option linter.unusedVariables false
set_option linter.unusedSimpArgs false
set_option maxRecDepth 100000
namespace Go.Proofs.Ytmbboljcgpccfaa.Cd
open Go Go.Proofs Go.Proofs.Ev Go.Proofs.Dv
noncomputable section
noncomputable def l3_0 : DC :=
 .seq (.seq (.reg [⟨.op (.mv (.t 18)), (some 91), none⟩, ⟨.op (.mv (.t 9)), (some 92), none⟩, ⟨.op (.len (.t 92)), (some 93), none⟩, ⟨.op (.bin .lss 0 (.t 91) (.t 93)), (some 94), none⟩])
 [9, 11, 16, 17, 18, 94]
 (.cond (.t 94) (.skip) (.exit 0)))
 [9, 11, 16, 17, 18]
 (.seq (.block 1 (.seq (.drw [⟨⟨.op (.ldn 6 (.t 11)), (some 97), none⟩, .n, []⟩, ⟨⟨.op (.mv (.t 9)), (some 98), none⟩, .n, []⟩, ⟨⟨.op (.mv (.t 18)), (some 99), none⟩, .n, []⟩, ⟨⟨.op (.ia 8 none (.t 98) (.t 99)), (some 100), none⟩, .n, []⟩, ⟨⟨.op (.ldn 8 (.t 100)), (some 101), none⟩, .n, []⟩, ⟨⟨.call 30 [(.t 97), (.t 101)], (some 102), none⟩, .x, []⟩])
 [9, 11, 16, 17, 18, 102]
 (.cond (.t 102) (.reg [⟨.op (.mv (.t 16)), (some 103), none⟩, ⟨.op (.mv (.t 9)), (some 104), none⟩, ⟨.op (.mv (.t 18)), (some 105), none⟩, ⟨.op (.ia 8 none (.t 104) (.t 105)), (some 106), none⟩, ⟨.op (.ldn 8 (.t 106)), (some 107), none⟩, ⟨.op (.bslice 8 1 [(.int .i64 0), (.int .i64 0), (.int .i64 0), (.int .i64 0), (.bool false), (.sl none 0), (.str []), (.str [])] [(0, 8, (.t 107))]), (some 108), none⟩, ⟨.op (.app 8 96 false (.t 103) (.t 108)), (some 109), none⟩, ⟨.op (.mv (.t 109)), (some 16), none⟩]) (.reg [⟨.op (.mv (.t 17)), (some 110), none⟩, ⟨.op (.mv (.t 9)), (some 111), none⟩, ⟨.op (.mv (.t 18)), (some 112), none⟩, ⟨.op (.ia 8 none (.t 111) (.t 112)), (some 113), none⟩, ⟨.op (.ldn 8 (.t 113)), (some 114), none⟩, ⟨.op (.bslice 8 1 [(.int .i64 0), (.int .i64 0), (.int .i64 0), (.int .i64 0), (.bool false), (.sl none 0), (.str []), (.str [])] [(0, 8, (.t 114))]), (some 115), none⟩, ⟨.op (.app 8 96 false (.t 110) (.t 115)), (some 116), none⟩, ⟨.op (.mv (.t 116)), (some 17), none⟩]))))
 [9, 11, 16, 17, 18]
 (.reg [⟨.op (.mv (.t 18)), (some 95), none⟩, ⟨.op (.bin .add 0 (.t 95) (.c (.int .i64 1))), (some 96), none⟩, ⟨.op (.mv (.t 96)), (some 18), none⟩]))
theorem u3_0 (call : DCall) (T : Tm) (st : Dv.St) : dCw Try.prog call l3_0 T st = dCw Try.prog call
 (.seq (.seq (.reg [⟨.op (.mv (.t 18)), (some 91), none⟩, ⟨.op (.mv (.t 9)), (some 92), none⟩, ⟨.op (.len (.t 92)), (some 93), none⟩, ⟨.op (.bin .lss 0 (.t 91) (.t 93)), (some 94), none⟩])
 [9, 11, 16, 17, 18, 94]
 (.cond (.t 94) (.skip) (.exit 0)))
 [9, 11, 16, 17, 18]
 (.seq (.block 1 (.seq (.drw [⟨⟨.op (.ldn 6 (.t 11)), (some 97), none⟩, .n, []⟩, ⟨⟨.op (.mv (.t 9)), (some 98), none⟩, .n, []⟩, ⟨⟨.op (.mv (.t 18)), (some 99), none⟩, .n, []⟩, ⟨⟨.op (.ia 8 none (.t 98) (.t 99)), (some 100), none⟩, .n, []⟩, ⟨⟨.op (.ldn 8 (.t 100)), (some 101), none⟩, .n, []⟩, ⟨⟨.call 30 [(.t 97), (.t 101)], (some 102), none⟩, .x, []⟩])
 [9, 11, 16, 17, 18, 102]
 (.cond (.t 102) (.reg [⟨.op (.mv (.t 16)), (some 103), none⟩, ⟨.op (.mv (.t 9)), (some 104), none⟩, ⟨.op (.mv (.t 18)), (some 105), none⟩, ⟨.op (.ia 8 none (.t 104) (.t 105)), (some 106), none⟩, ⟨.op (.ldn 8 (.t 106)), (some 107), none⟩, ⟨.op (.bslice 8 1 [(.int .i64 0), (.int .i64 0), (.int .i64 0), (.int .i64 0), (.bool false), (.sl none 0), (.str []), (.str [])] [(0, 8, (.t 107))]), (some 108), none⟩, ⟨.op (.app 8 96 false (.t 103) (.t 108)), (some 109), none⟩, ⟨.op (.mv (.t 109)), (some 16), none⟩]) (.reg [⟨.op (.mv (.t 17)), (some 110), none⟩, ⟨.op (.mv (.t 9)), (some 111), none⟩, ⟨.op (.mv (.t 18)), (some 112), none⟩, ⟨.op (.ia 8 none (.t 111) (.t 112)), (some 113), none⟩, ⟨.op (.ldn 8 (.t 113)), (some 114), none⟩, ⟨.op (.bslice 8 1 [(.int .i64 0), (.int .i64 0), (.int .i64 0), (.int .i64 0), (.bool false), (.sl none 0), (.str []), (.str [])] [(0, 8, (.t 114))]), (some 115), none⟩, ⟨.op (.app 8 96 false (.t 110) (.t 115)), (some 116), none⟩, ⟨.op (.mv (.t 116)), (some 17), none⟩]))))
 [9, 11, 16, 17, 18]
 (.reg [⟨.op (.mv (.t 18)), (some 95), none⟩, ⟨.op (.bin .add 0 (.t 95) (.c (.int .i64 1))), (some 96), none⟩, ⟨.op (.mv (.t 96)), (some 18), none⟩]))) T st := rfl
/-- cardamom/cardamomlaw10.HoldAll -/
noncomputable def c3 : DFn := ⟨136, .pure,
 .seq (.reg [⟨.op (.mv (.c (.bool false))), (some 8), none⟩])
 [0, 1, 2, 3]
 (.seq (.seq (.reg [⟨.call 14 [], (some 19), none⟩, ⟨.op (.not (.t 19)), (some 20), none⟩])
 [0, 1, 2, 3, 20]
 (.cond (.t 20) (.seq (.reg [⟨.op (.mv (.c (.bool false))), (some 8), none⟩])
 [8]
 (.ret)) (.skip)))
 [0, 1, 2, 3]
 (.seq (.seq (.reg [⟨.op (.mv (.t 0)), (some 21), none⟩, ⟨.op (.len (.t 21)), (some 22), none⟩, ⟨.op (.bin .gtr 0 (.t 22) (.c (.int .i64 80))), (some 23), none⟩, ⟨.op (.mv (.t 23)), (some 24), none⟩, ⟨.op (.mv (.t 1)), (some 25), (some (24, false))⟩, ⟨.op (.len (.t 25)), (some 26), (some (24, false))⟩, ⟨.op (.bin .gtr 0 (.t 26) (.c (.int .i64 15))), (some 27), (some (24, false))⟩, ⟨.op (.pick (.t 24) (.c (.bool true)) (.t 27)), (some 28), none⟩, ⟨.op (.mv (.t 28)), (some 29), none⟩, ⟨.op (.mv (.t 2)), (some 30), (some (29, false))⟩, ⟨.op (.len (.t 30)), (some 31), (some (29, false))⟩, ⟨.op (.bin .gtr 0 (.t 31) (.c (.int .i64 30))), (some 32), (some (29, false))⟩, ⟨.op (.pick (.t 29) (.c (.bool true)) (.t 32)), (some 33), none⟩])
 [0, 1, 2, 3, 33]
 (.cond (.t 33) (.seq (.reg [⟨.op (.mv (.c (.bool true))), (some 8), none⟩])
 [8]
 (.ret)) (.skip)))
 [0, 1, 2, 3]
 (.seq (.reg [⟨.op (.mv (.t 0)), (some 34), none⟩, ⟨.call 15 [(.t 34)], (some 35), none⟩, ⟨.op (.mv (.t 1)), (some 36), none⟩, ⟨.call 16 [(.t 36)], (some 37), none⟩, ⟨.call 17 [(.t 37)], (some 38), none⟩, ⟨.op (.mv (.t 2)), (some 39), none⟩, ⟨.call 16 [(.t 39)], (some 40), none⟩, ⟨.call 18 [(.t 40), (.c (.int .i64 3))], (some 41), none⟩, ⟨.op (.new [(.int .i64 0), (.int .i64 0), (.int .i64 0), (.int .i64 0), (.bool false), (.sl none 0), (.str []), (.str [])]), (some 10), none⟩, ⟨.op (.new [(.int .i64 0), (.int .i64 0), (.int .i64 0), (.int .i64 0), (.str []), (.sl none 0)]), (some 11), none⟩, ⟨.op (.mv (.t 35)), (some 9), none⟩, ⟨.op (.st 8 (.t 10) (.t 38)), none, none⟩, ⟨.op (.st 6 (.t 11) (.t 41)), none, none⟩])
 [3, 9, 10, 11]
 (.seq (.reg [⟨.op (.mv (.t 9)), (some 43), none⟩, ⟨.op (.mv (.t 3)), (some 44), none⟩, ⟨.call 19 [(.t 43), (.t 44)], (some 45), none⟩, ⟨.op (.mv (.t 45)), (some 42), none⟩, ⟨.op (.ext (.t 42) 0), (some 46), none⟩, ⟨.op (.ext (.t 42) 1), (some 47), none⟩, ⟨.op (.new [(.int .i64 0), (.int .i64 0), (.int .i64 0), (.int .i64 0), (.bool false), (.sl none 0), (.str []), (.str [])]), (some 12), none⟩, ⟨.op (.st 8 (.t 12) (.t 46)), none, none⟩, ⟨.op (.mv (.t 47)), (some 13), none⟩])
 [3, 9, 10, 11, 12, 13]
 (.seq (.reg [⟨.op (.mv (.t 9)), (some 49), none⟩, ⟨.op (.mv (.t 3)), (some 50), none⟩, ⟨.call 20 [(.t 49), (.t 50)], (some 51), none⟩, ⟨.op (.mv (.t 51)), (some 48), none⟩, ⟨.op (.ext (.t 48) 0), (some 52), none⟩, ⟨.op (.ext (.t 48) 1), (some 53), none⟩, ⟨.op (.new [(.int .i64 0), (.int .i64 0), (.int .i64 0), (.int .i64 0), (.bool false), (.sl none 0), (.str []), (.str [])]), (some 14), none⟩, ⟨.op (.st 8 (.t 14) (.t 52)), none, none⟩, ⟨.op (.mv (.t 53)), (some 15), none⟩])
 [3, 9, 10, 11, 12, 13, 14, 15]
 (.seq (.seq (.drw [⟨⟨.op (.mv (.t 13)), (some 54), none⟩, .n, []⟩, ⟨⟨.op (.mv (.t 15)), (some 55), none⟩, .n, []⟩, ⟨⟨.op (.bin .neq 5 (.t 54) (.t 55)), (some 56), none⟩, .n, []⟩, ⟨⟨.op (.mv (.t 56)), (some 57), none⟩, .n, []⟩, ⟨⟨.op (.ldn 8 (.t 12)), (some 58), (some (57, false))⟩, .n, []⟩, ⟨⟨.op (.ldn 8 (.t 14)), (some 59), (some (57, false))⟩, .n, []⟩, ⟨⟨.call 21 [(.t 58), (.t 59)], (some 60), (some (57, false))⟩, .x, []⟩, ⟨⟨.op (.not (.t 60)), (some 61), (some (57, false))⟩, .n, []⟩, ⟨⟨.op (.pick (.t 57) (.c (.bool true)) (.t 61)), (some 62), none⟩, .n, []⟩, ⟨⟨.op (.mv (.t 62)), (some 63), none⟩, .n, []⟩, ⟨⟨.op (.mv (.t 9)), (some 64), (some (63, false))⟩, .n, []⟩, ⟨⟨.op (.ldn 8 (.t 10)), (some 65), (some (63, false))⟩, .n, []⟩, ⟨⟨.op (.mv (.t 9)), (some 67), (some (63, false))⟩, .n, []⟩, ⟨⟨.op (.ldn 8 (.t 10)), (some 68), (some (63, false))⟩, .n, []⟩, ⟨⟨.call 23 [(.t 64), (.t 65)], (some 66), (some (63, false))⟩, .x, [(true, 13)]⟩, ⟨⟨.call 24 [(.t 67), (.t 68)], (some 69), (some (63, false))⟩, .x, []⟩, ⟨⟨.call 22 [(.t 66), (.t 69)], (some 70), (some (63, false))⟩, .x, []⟩, ⟨⟨.op (.not (.t 70)), (some 71), (some (63, false))⟩, .n, []⟩, ⟨⟨.op (.pick (.t 63) (.c (.bool true)) (.t 71)), (some 72), none⟩, .n, []⟩, ⟨⟨.op (.mv (.t 72)), (some 73), none⟩, .n, []⟩, ⟨⟨.op (.mv (.t 9)), (some 74), (some (73, false))⟩, .n, []⟩, ⟨⟨.op (.mv (.t 3)), (some 75), (some (73, false))⟩, .n, []⟩, ⟨⟨.op (.mv (.t 9)), (some 77), (some (73, false))⟩, .n, []⟩, ⟨⟨.op (.mv (.t 3)), (some 78), (some (73, false))⟩, .n, []⟩, ⟨⟨.call 25 [(.t 74), (.t 75)], (some 76), (some (73, false))⟩, .x, []⟩, ⟨⟨.call 26 [(.t 77), (.t 78)], (some 79), (some (73, false))⟩, .x, []⟩, ⟨⟨.call 22 [(.t 76), (.t 79)], (some 80), (some (73, false))⟩, .x, []⟩, ⟨⟨.op (.not (.t 80)), (some 81), (some (73, false))⟩, .n, []⟩, ⟨⟨.op (.pick (.t 73) (.c (.bool true)) (.t 81)), (some 82), none⟩, .n, []⟩, ⟨⟨.op (.mv (.t 82)), (some 83), none⟩, .n, []⟩, ⟨⟨.op (.mv (.t 9)), (some 84), (some (83, false))⟩, .n, []⟩, ⟨⟨.op (.mv (.t 9)), (some 86), (some (83, false))⟩, .n, []⟩, ⟨⟨.call 28 [(.t 84)], (some 85), (some (83, false))⟩, .x, []⟩, ⟨⟨.call 29 [(.t 86)], (some 87), (some (83, false))⟩, .x, []⟩, ⟨⟨.call 27 [(.t 85), (.t 87)], (some 88), (some (83, false))⟩, .x, []⟩, ⟨⟨.op (.not (.t 88)), (some 89), (some (83, false))⟩, .n, []⟩, ⟨⟨.op (.pick (.t 83) (.c (.bool true)) (.t 89)), (some 90), none⟩, .n, []⟩])
 [9, 11, 90]
 (.cond (.t 90) (.seq (.reg [⟨.op (.mv (.c (.bool false))), (some 8), none⟩])
 [8]
 (.ret)) (.skip)))
 [9, 11]
 (.seq (.reg [⟨.op (.mv (.c (.sl none 0))), (some 16), none⟩, ⟨.op (.mv (.c (.sl none 0))), (some 17), none⟩])
 [9, 11, 16, 17]
 (.seq (.seq (.reg [⟨.op (.mv (.c (.int .i64 0))), (some 18), none⟩])
 [9, 11, 16, 17, 18]
 (.block 0 (.loop [9, 11, 16, 17, 18] (l3_0))))
 [9, 11, 16, 17]
 (.seq (.reg [⟨.op (.mv (.t 9)), (some 117), none⟩, ⟨.op (.ldn 6 (.t 11)), (some 118), none⟩, ⟨.call 31 [(.t 117), (.t 118)], (some 119), none⟩, ⟨.op (.mv (.t 16)), (some 120), none⟩, ⟨.call 22 [(.t 119), (.t 120)], (some 121), none⟩, ⟨.op (.mv (.t 121)), (some 122), none⟩, ⟨.op (.mv (.t 9)), (some 123), (some (122, true))⟩, ⟨.op (.ldn 6 (.t 11)), (some 124), (some (122, true))⟩, ⟨.call 32 [(.t 123), (.t 124)], (some 125), (some (122, true))⟩, ⟨.op (.mv (.t 17)), (some 126), (some (122, true))⟩, ⟨.call 22 [(.t 125), (.t 126)], (some 127), (some (122, true))⟩, ⟨.op (.pick (.t 122) (.t 127) (.c (.bool false))), (some 128), none⟩, ⟨.op (.mv (.t 128)), (some 129), none⟩, ⟨.op (.mv (.t 9)), (some 130), (some (129, true))⟩, ⟨.call 25 [(.t 130), (.c (.int .i64 2))], (some 131), (some (129, true))⟩, ⟨.op (.mv (.t 9)), (some 132), (some (129, true))⟩, ⟨.call 26 [(.t 132), (.c (.int .i64 2))], (some 133), (some (129, true))⟩, ⟨.call 22 [(.t 131), (.t 133)], (some 134), (some (129, true))⟩, ⟨.op (.pick (.t 129) (.t 134) (.c (.bool false))), (some 135), none⟩, ⟨.op (.mv (.t 135)), (some 8), none⟩])
 [8]
 (.ret)))))))))),
 [.tmp 8]⟩
theorem k3 : cFn Try.prog 3 = some c3.toE := by kernel_rfl
theorem w3 : c3.body.wf = true := by kernel_rfl
noncomputable def l4_0 : DC :=
 .seq (.seq (.reg [⟨.op (.mv (.t 7)), (some 27), none⟩, ⟨.op (.mv (.t 6)), (some 28), none⟩, ⟨.op (.bin .lss 0 (.t 27) (.t 28)), (some 29), none⟩])
 [1, 5, 6, 7, 29]
 (.cond (.t 29) (.skip) (.exit 2)))
 [1, 5, 6, 7]
 (.seq (.block 3 (.seq (.drw [⟨⟨.op (.mv (.t 5)), (some 32), none⟩, .n, []⟩, ⟨⟨.op (.mv (.t 6)), (some 33), none⟩, .n, []⟩, ⟨⟨.op (.ia 8 none (.t 32) (.t 33)), (some 34), none⟩, .n, []⟩, ⟨⟨.op (.fa 1 (.t 34)), (some 35), none⟩, .n, []⟩, ⟨⟨.op (.ldn 3 (.t 35)), (some 36), none⟩, .n, []⟩, ⟨⟨.op (.mv (.t 5)), (some 37), none⟩, .n, []⟩, ⟨⟨.op (.mv (.t 7)), (some 38), none⟩, .n, []⟩, ⟨⟨.op (.ia 8 none (.t 37) (.t 38)), (some 39), none⟩, .n, []⟩, ⟨⟨.op (.fa 1 (.t 39)), (some 40), none⟩, .n, []⟩, ⟨⟨.op (.ldn 3 (.t 40)), (some 41), none⟩, .n, []⟩, ⟨⟨.op (.slow (operAt Try.prog 4 30)), (some 42), none⟩, .n, []⟩])
 [1, 5, 6, 7, 42]
 (.cond (.t 42) (.seq (.reg [⟨.op (.mv (.c (.bool true))), (some 4), none⟩])
 [4]
 (.ret)) (.skip))))
 [1, 5, 6, 7]
 (.reg [⟨.op (.mv (.t 7)), (some 30), none⟩, ⟨.op (.bin .add 0 (.t 30) (.c (.int .i64 1))), (some 31), none⟩, ⟨.op (.mv (.t 31)), (some 7), none⟩]))
theorem u4_0 (call : DCall) (T : Tm) (st : Dv.St) : dCw Try.prog call l4_0 T st = dCw Try.prog call
 (.seq (.seq (.reg [⟨.op (.mv (.t 7)), (some 27), none⟩, ⟨.op (.mv (.t 6)), (some 28), none⟩, ⟨.op (.bin .lss 0 (.t 27) (.t 28)), (some 29), none⟩])
 [1, 5, 6, 7, 29]
 (.cond (.t 29) (.skip) (.exit 2)))
 [1, 5, 6, 7]
 (.seq (.block 3 (.seq (.drw [⟨⟨.op (.mv (.t 5)), (some 32), none⟩, .n, []⟩, ⟨⟨.op (.mv (.t 6)), (some 33), none⟩, .n, []⟩, ⟨⟨.op (.ia 8 none (.t 32) (.t 33)), (some 34), none⟩, .n, []⟩, ⟨⟨.op (.fa 1 (.t 34)), (some 35), none⟩, .n, []⟩, ⟨⟨.op (.ldn 3 (.t 35)), (some 36), none⟩, .n, []⟩, ⟨⟨.op (.mv (.t 5)), (some 37), none⟩, .n, []⟩, ⟨⟨.op (.mv (.t 7)), (some 38), none⟩, .n, []⟩, ⟨⟨.op (.ia 8 none (.t 37) (.t 38)), (some 39), none⟩, .n, []⟩, ⟨⟨.op (.fa 1 (.t 39)), (some 40), none⟩, .n, []⟩, ⟨⟨.op (.ldn 3 (.t 40)), (some 41), none⟩, .n, []⟩, ⟨⟨.op (.slow (operAt Try.prog 4 30)), (some 42), none⟩, .n, []⟩])
 [1, 5, 6, 7, 42]
 (.cond (.t 42) (.seq (.reg [⟨.op (.mv (.c (.bool true))), (some 4), none⟩])
 [4]
 (.ret)) (.skip))))
 [1, 5, 6, 7]
 (.reg [⟨.op (.mv (.t 7)), (some 30), none⟩, ⟨.op (.bin .add 0 (.t 30) (.c (.int .i64 1))), (some 31), none⟩, ⟨.op (.mv (.t 31)), (some 7), none⟩]))) T st := rfl
noncomputable def l4_1 : DC :=
 .seq (.seq (.reg [⟨.op (.mv (.t 6)), (some 21), none⟩, ⟨.op (.mv (.t 5)), (some 22), none⟩, ⟨.op (.len (.t 22)), (some 23), none⟩, ⟨.op (.bin .lss 0 (.t 21) (.t 23)), (some 24), none⟩])
 [1, 5, 6, 24]
 (.cond (.t 24) (.skip) (.exit 0)))
 [1, 5, 6]
 (.seq (.block 1 (.seq (.reg [⟨.op (.mv (.c (.int .i64 0))), (some 7), none⟩])
 [1, 5, 6, 7]
 (.block 2 (.loop [1, 5, 6, 7] (l4_0)))))
 [1, 5, 6]
 (.reg [⟨.op (.mv (.t 6)), (some 25), none⟩, ⟨.op (.bin .add 0 (.t 25) (.c (.int .i64 1))), (some 26), none⟩, ⟨.op (.mv (.t 26)), (some 6), none⟩]))
theorem u4_1 (call : DCall) (T : Tm) (st : Dv.St) : dCw Try.prog call l4_1 T st = dCw Try.prog call
 (.seq (.seq (.reg [⟨.op (.mv (.t 6)), (some 21), none⟩, ⟨.op (.mv (.t 5)), (some 22), none⟩, ⟨.op (.len (.t 22)), (some 23), none⟩, ⟨.op (.bin .lss 0 (.t 21) (.t 23)), (some 24), none⟩])
 [1, 5, 6, 24]
 (.cond (.t 24) (.skip) (.exit 0)))
 [1, 5, 6]
 (.seq (.block 1 (.seq (.reg [⟨.op (.mv (.c (.int .i64 0))), (some 7), none⟩])
 [1, 5, 6, 7]
 (.block 2 (.loop [1, 5, 6, 7] (l4_0)))))
 [1, 5, 6]
 (.reg [⟨.op (.mv (.t 6)), (some 25), none⟩, ⟨.op (.bin .add 0 (.t 25) (.c (.int .i64 1))), (some 26), none⟩, ⟨.op (.mv (.t 26)), (some 6), none⟩]))) T st := rfl
noncomputable def l4_2 : DC :=
 .seq (.seq (.reg [⟨.op (.mv (.t 10)), (some 43), none⟩, ⟨.op (.mv (.t 5)), (some 44), none⟩, ⟨.op (.len (.t 44)), (some 45), none⟩, ⟨.op (.bin .lss 0 (.t 43) (.t 45)), (some 46), none⟩])
 [1, 5, 8, 9, 10, 46]
 (.cond (.t 46) (.skip) (.exit 4)))
 [1, 5, 8, 9, 10]
 (.seq (.block 5 (.drw [⟨⟨.op (.mv (.t 8)), (some 49), none⟩, .n, []⟩, ⟨⟨.op (.mv (.t 5)), (some 50), none⟩, .n, []⟩, ⟨⟨.op (.mv (.t 10)), (some 51), none⟩, .n, []⟩, ⟨⟨.op (.ia 8 none (.t 50) (.t 51)), (some 52), none⟩, .n, []⟩, ⟨⟨.op (.ldn 8 (.t 52)), (some 53), none⟩, .n, []⟩, ⟨⟨.op (.mv (.t 9)), (some 55), none⟩, .n, []⟩, ⟨⟨.op (.mv (.t 5)), (some 56), none⟩, .n, []⟩, ⟨⟨.op (.mv (.t 10)), (some 57), none⟩, .n, []⟩, ⟨⟨.op (.mv (.t 1)), (some 58), none⟩, .n, []⟩, ⟨⟨.op (.conv .i64 (.t 58)), (some 59), none⟩, .n, []⟩, ⟨⟨.op (.bin .add 0 (.t 57) (.t 59)), (some 60), none⟩, .n, []⟩, ⟨⟨.op (.mv (.t 5)), (some 61), none⟩, .n, []⟩, ⟨⟨.op (.len (.t 61)), (some 62), none⟩, .n, []⟩, ⟨⟨.op (.bin .rem 0 (.t 60) (.t 62)), (some 63), none⟩, .n, []⟩, ⟨⟨.op (.ia 8 none (.t 56) (.t 63)), (some 64), none⟩, .n, []⟩, ⟨⟨.op (.ldn 8 (.t 64)), (some 65), none⟩, .n, []⟩, ⟨⟨.call 23 [(.t 49), (.t 53)], (some 54), none⟩, .x, [(true, 15), (true, 9)]⟩, ⟨⟨.call 23 [(.t 55), (.t 65)], (some 66), none⟩, .x, []⟩, ⟨⟨.op (.mv (.t 54)), (some 8), none⟩, .x, []⟩, ⟨⟨.op (.mv (.t 66)), (some 9), none⟩, .x, []⟩]))
 [1, 5, 8, 9, 10]
 (.reg [⟨.op (.mv (.t 10)), (some 47), none⟩, ⟨.op (.bin .add 0 (.t 47) (.c (.int .i64 1))), (some 48), none⟩, ⟨.op (.mv (.t 48)), (some 10), none⟩]))
theorem u4_2 (call : DCall) (T : Tm) (st : Dv.St) : dCw Try.prog call l4_2 T st = dCw Try.prog call
 (.seq (.seq (.reg [⟨.op (.mv (.t 10)), (some 43), none⟩, ⟨.op (.mv (.t 5)), (some 44), none⟩, ⟨.op (.len (.t 44)), (some 45), none⟩, ⟨.op (.bin .lss 0 (.t 43) (.t 45)), (some 46), none⟩])
 [1, 5, 8, 9, 10, 46]
 (.cond (.t 46) (.skip) (.exit 4)))
 [1, 5, 8, 9, 10]
 (.seq (.block 5 (.drw [⟨⟨.op (.mv (.t 8)), (some 49), none⟩, .n, []⟩, ⟨⟨.op (.mv (.t 5)), (some 50), none⟩, .n, []⟩, ⟨⟨.op (.mv (.t 10)), (some 51), none⟩, .n, []⟩, ⟨⟨.op (.ia 8 none (.t 50) (.t 51)), (some 52), none⟩, .n, []⟩, ⟨⟨.op (.ldn 8 (.t 52)), (some 53), none⟩, .n, []⟩, ⟨⟨.op (.mv (.t 9)), (some 55), none⟩, .n, []⟩, ⟨⟨.op (.mv (.t 5)), (some 56), none⟩, .n, []⟩, ⟨⟨.op (.mv (.t 10)), (some 57), none⟩, .n, []⟩, ⟨⟨.op (.mv (.t 1)), (some 58), none⟩, .n, []⟩, ⟨⟨.op (.conv .i64 (.t 58)), (some 59), none⟩, .n, []⟩, ⟨⟨.op (.bin .add 0 (.t 57) (.t 59)), (some 60), none⟩, .n, []⟩, ⟨⟨.op (.mv (.t 5)), (some 61), none⟩, .n, []⟩, ⟨⟨.op (.len (.t 61)), (some 62), none⟩, .n, []⟩, ⟨⟨.op (.bin .rem 0 (.t 60) (.t 62)), (some 63), none⟩, .n, []⟩, ⟨⟨.op (.ia 8 none (.t 56) (.t 63)), (some 64), none⟩, .n, []⟩, ⟨⟨.op (.ldn 8 (.t 64)), (some 65), none⟩, .n, []⟩, ⟨⟨.call 23 [(.t 49), (.t 53)], (some 54), none⟩, .x, [(true, 15), (true, 9)]⟩, ⟨⟨.call 23 [(.t 55), (.t 65)], (some 66), none⟩, .x, []⟩, ⟨⟨.op (.mv (.t 54)), (some 8), none⟩, .x, []⟩, ⟨⟨.op (.mv (.t 66)), (some 9), none⟩, .x, []⟩]))
 [1, 5, 8, 9, 10]
 (.reg [⟨.op (.mv (.t 10)), (some 47), none⟩, ⟨.op (.bin .add 0 (.t 47) (.c (.int .i64 1))), (some 48), none⟩, ⟨.op (.mv (.t 48)), (some 10), none⟩]))) T st := rfl
noncomputable def l4_3 : DC :=
 .seq (.seq (.reg [⟨.op (.mv (.t 11)), (some 77), none⟩, ⟨.op (.mv (.t 5)), (some 78), none⟩, ⟨.op (.len (.t 78)), (some 79), none⟩, ⟨.op (.bin .lss 0 (.t 77) (.t 79)), (some 80), none⟩])
 [5, 8, 11, 80]
 (.cond (.t 80) (.skip) (.exit 6)))
 [5, 8, 11]
 (.seq (.block 7 (.seq (.reg [⟨.op (.mv (.t 8)), (some 84), none⟩, ⟨.op (.mv (.t 5)), (some 85), none⟩, ⟨.op (.mv (.t 11)), (some 86), none⟩, ⟨.op (.ia 8 none (.t 85) (.t 86)), (some 87), none⟩, ⟨.op (.fa 0 (.t 87)), (some 88), none⟩, ⟨.op (.ld1 (.t 88)), (some 89), none⟩, ⟨.call 19 [(.t 84), (.t 89)], (some 90), none⟩, ⟨.op (.mv (.t 90)), (some 83), none⟩, ⟨.op (.ext (.t 83) 0), (some 91), none⟩, ⟨.op (.ext (.t 83) 1), (some 92), none⟩, ⟨.op (.new [(.int .i64 0), (.int .i64 0), (.int .i64 0), (.int .i64 0), (.bool false), (.sl none 0), (.str []), (.str [])]), (some 12), none⟩, ⟨.op (.st 8 (.t 12) (.t 91)), none, none⟩, ⟨.op (.mv (.t 92)), (some 13), none⟩])
 [5, 8, 11, 12, 13]
 (.seq (.drw [⟨⟨.op (.mv (.t 13)), (some 93), none⟩, .n, []⟩, ⟨⟨.op (.not (.t 93)), (some 94), none⟩, .n, []⟩, ⟨⟨.op (.mv (.t 94)), (some 95), none⟩, .n, []⟩, ⟨⟨.op (.fa 1 (.t 12)), (some 96), (some (95, false))⟩, .n, []⟩, ⟨⟨.op (.ldn 3 (.t 96)), (some 97), (some (95, false))⟩, .n, []⟩, ⟨⟨.op (.mv (.t 5)), (some 98), (some (95, false))⟩, .n, []⟩, ⟨⟨.op (.mv (.t 11)), (some 99), (some (95, false))⟩, .n, []⟩, ⟨⟨.op (.ia 8 none (.t 98) (.t 99)), (some 100), (some (95, false))⟩, .n, []⟩, ⟨⟨.op (.fa 1 (.t 100)), (some 101), (some (95, false))⟩, .n, []⟩, ⟨⟨.op (.ldn 3 (.t 101)), (some 102), (some (95, false))⟩, .n, []⟩, ⟨⟨.call 35 [(.t 97), (.t 102)], (some 103), (some (95, false))⟩, .x, []⟩, ⟨⟨.op (.bin .lss 0 (.t 103) (.c (.int .i64 0))), (some 104), (some (95, false))⟩, .n, []⟩, ⟨⟨.op (.pick (.t 95) (.c (.bool true)) (.t 104)), (some 105), none⟩, .n, []⟩])
 [5, 8, 11, 105]
 (.cond (.t 105) (.seq (.reg [⟨.op (.mv (.c (.bool false))), (some 4), none⟩])
 [4]
 (.ret)) (.skip)))))
 [5, 8, 11]
 (.reg [⟨.op (.mv (.t 11)), (some 81), none⟩, ⟨.op (.bin .add 0 (.t 81) (.c (.int .i64 1))), (some 82), none⟩, ⟨.op (.mv (.t 82)), (some 11), none⟩]))
theorem u4_3 (call : DCall) (T : Tm) (st : Dv.St) : dCw Try.prog call l4_3 T st = dCw Try.prog call
 (.seq (.seq (.reg [⟨.op (.mv (.t 11)), (some 77), none⟩, ⟨.op (.mv (.t 5)), (some 78), none⟩, ⟨.op (.len (.t 78)), (some 79), none⟩, ⟨.op (.bin .lss 0 (.t 77) (.t 79)), (some 80), none⟩])
 [5, 8, 11, 80]
 (.cond (.t 80) (.skip) (.exit 6)))
 [5, 8, 11]
 (.seq (.block 7 (.seq (.reg [⟨.op (.mv (.t 8)), (some 84), none⟩, ⟨.op (.mv (.t 5)), (some 85), none⟩, ⟨.op (.mv (.t 11)), (some 86), none⟩, ⟨.op (.ia 8 none (.t 85) (.t 86)), (some 87), none⟩, ⟨.op (.fa 0 (.t 87)), (some 88), none⟩, ⟨.op (.ld1 (.t 88)), (some 89), none⟩, ⟨.call 19 [(.t 84), (.t 89)], (some 90), none⟩, ⟨.op (.mv (.t 90)), (some 83), none⟩, ⟨.op (.ext (.t 83) 0), (some 91), none⟩, ⟨.op (.ext (.t 83) 1), (some 92), none⟩, ⟨.op (.new [(.int .i64 0), (.int .i64 0), (.int .i64 0), (.int .i64 0), (.bool false), (.sl none 0), (.str []), (.str [])]), (some 12), none⟩, ⟨.op (.st 8 (.t 12) (.t 91)), none, none⟩, ⟨.op (.mv (.t 92)), (some 13), none⟩])
 [5, 8, 11, 12, 13]
 (.seq (.drw [⟨⟨.op (.mv (.t 13)), (some 93), none⟩, .n, []⟩, ⟨⟨.op (.not (.t 93)), (some 94), none⟩, .n, []⟩, ⟨⟨.op (.mv (.t 94)), (some 95), none⟩, .n, []⟩, ⟨⟨.op (.fa 1 (.t 12)), (some 96), (some (95, false))⟩, .n, []⟩, ⟨⟨.op (.ldn 3 (.t 96)), (some 97), (some (95, false))⟩, .n, []⟩, ⟨⟨.op (.mv (.t 5)), (some 98), (some (95, false))⟩, .n, []⟩, ⟨⟨.op (.mv (.t 11)), (some 99), (some (95, false))⟩, .n, []⟩, ⟨⟨.op (.ia 8 none (.t 98) (.t 99)), (some 100), (some (95, false))⟩, .n, []⟩, ⟨⟨.op (.fa 1 (.t 100)), (some 101), (some (95, false))⟩, .n, []⟩, ⟨⟨.op (.ldn 3 (.t 101)), (some 102), (some (95, false))⟩, .n, []⟩, ⟨⟨.call 35 [(.t 97), (.t 102)], (some 103), (some (95, false))⟩, .x, []⟩, ⟨⟨.op (.bin .lss 0 (.t 103) (.c (.int .i64 0))), (some 104), (some (95, false))⟩, .n, []⟩, ⟨⟨.op (.pick (.t 95) (.c (.bool true)) (.t 104)), (some 105), none⟩, .n, []⟩])
 [5, 8, 11, 105]
 (.cond (.t 105) (.seq (.reg [⟨.op (.mv (.c (.bool false))), (some 4), none⟩])
 [4]
 (.ret)) (.skip)))))
 [5, 8, 11]
 (.reg [⟨.op (.mv (.t 11)), (some 81), none⟩, ⟨.op (.bin .add 0 (.t 81) (.c (.int .i64 1))), (some 82), none⟩, ⟨.op (.mv (.t 82)), (some 11), none⟩]))) T st := rfl
/-- cardamom/cardamomlaw10.HoldOnce -/
noncomputable def c4 : DFn := ⟨106, .pure,
 .seq (.reg [⟨.op (.mv (.c (.bool false))), (some 4), none⟩])
 [0, 1]
 (.seq (.seq (.reg [⟨.call 14 [], (some 14), none⟩, ⟨.op (.not (.t 14)), (some 15), none⟩])
 [0, 1, 15]
 (.cond (.t 15) (.seq (.reg [⟨.op (.mv (.c (.bool false))), (some 4), none⟩])
 [4]
 (.ret)) (.skip)))
 [0, 1]
 (.seq (.seq (.reg [⟨.op (.mv (.t 0)), (some 16), none⟩, ⟨.op (.len (.t 16)), (some 17), none⟩, ⟨.op (.bin .gtr 0 (.t 17) (.c (.int .i64 80))), (some 18), none⟩])
 [0, 1, 18]
 (.cond (.t 18) (.seq (.reg [⟨.op (.mv (.c (.bool true))), (some 4), none⟩])
 [4]
 (.ret)) (.skip)))
 [0, 1]
 (.seq (.reg [⟨.op (.mv (.t 0)), (some 19), none⟩, ⟨.call 33 [(.t 19)], (some 20), none⟩, ⟨.op (.mv (.t 20)), (some 5), none⟩])
 [1, 5]
 (.seq (.seq (.reg [⟨.op (.mv (.c (.int .i64 0))), (some 6), none⟩])
 [1, 5, 6]
 (.block 0 (.loop [1, 5, 6] (l4_1))))
 [1, 5]
 (.seq (.reg [⟨.op (.mv (.c (.sl none 0))), (some 8), none⟩, ⟨.op (.mv (.c (.sl none 0))), (some 9), none⟩])
 [1, 5, 8, 9]
 (.seq (.seq (.reg [⟨.op (.mv (.c (.int .i64 0))), (some 10), none⟩])
 [1, 5, 8, 9, 10]
 (.block 4 (.loop [1, 5, 8, 9, 10] (l4_2))))
 [5, 8, 9]
 (.seq (.seq (.reg [⟨.op (.mv (.t 8)), (some 67), none⟩, ⟨.op (.mv (.t 9)), (some 68), none⟩, ⟨.call 22 [(.t 67), (.t 68)], (some 69), none⟩, ⟨.op (.not (.t 69)), (some 70), none⟩, ⟨.op (.mv (.t 70)), (some 71), none⟩, ⟨.op (.mv (.t 8)), (some 72), (some (71, false))⟩, ⟨.call 28 [(.t 72)], (some 73), (some (71, false))⟩, ⟨.call 34 [(.t 73)], (some 74), (some (71, false))⟩, ⟨.op (.not (.t 74)), (some 75), (some (71, false))⟩, ⟨.op (.pick (.t 71) (.c (.bool true)) (.t 75)), (some 76), none⟩])
 [5, 8, 76]
 (.cond (.t 76) (.seq (.reg [⟨.op (.mv (.c (.bool false))), (some 4), none⟩])
 [4]
 (.ret)) (.skip)))
 [5, 8]
 (.seq (.seq (.reg [⟨.op (.mv (.c (.int .i64 0))), (some 11), none⟩])
 [5, 8, 11]
 (.block 6 (.loop [5, 8, 11] (l4_3))))
 []
 (.seq (.reg [⟨.op (.mv (.c (.bool true))), (some 4), none⟩])
 [4]
 (.ret)))))))))),
 [.tmp 4]⟩
theorem k4 : cFn Try.prog 4 = some c4.toE := by kernel_rfl
theorem w4 : c4.body.wf = true := by kernel_rfl
noncomputable def l5_0 : DC :=
 .seq (.seq (.reg [⟨.op (.mv (.t 11)), (some 33), none⟩, ⟨.op (.mv (.t 5)), (some 34), none⟩, ⟨.op (.len (.t 34)), (some 35), none⟩, ⟨.op (.bin .lss 0 (.t 33) (.t 35)), (some 36), none⟩])
 [5, 7, 8, 9, 10, 11, 36]
 (.cond (.t 36) (.skip) (.exit 0)))
 [5, 7, 8, 9, 10, 11]
 (.seq (.block 1 (.block 2 (.seq (.drw [⟨⟨.op (.mv (.t 9)), (some 40), none⟩, .n, []⟩, ⟨⟨.op (.mv (.t 7)), (some 41), none⟩, .n, []⟩, ⟨⟨.op (.len (.t 41)), (some 42), none⟩, .n, []⟩, ⟨⟨.op (.bin .lss 0 (.t 40) (.t 42)), (some 43), none⟩, .n, []⟩, ⟨⟨.op (.mv (.t 43)), (some 44), none⟩, .n, []⟩, ⟨⟨.op (.mv (.t 7)), (some 45), (some (44, true))⟩, .n, []⟩, ⟨⟨.op (.mv (.t 9)), (some 46), (some (44, true))⟩, .n, []⟩, ⟨⟨.op (.ia 8 none (.t 45) (.t 46)), (some 47), (some (44, true))⟩, .n, []⟩, ⟨⟨.op (.ldn 8 (.t 47)), (some 48), (some (44, true))⟩, .n, []⟩, ⟨⟨.op (.mv (.t 5)), (some 49), (some (44, true))⟩, .n, []⟩, ⟨⟨.op (.mv (.t 11)), (some 50), (some (44, true))⟩, .n, []⟩, ⟨⟨.op (.ia 8 none (.t 49) (.t 50)), (some 51), (some (44, true))⟩, .n, []⟩, ⟨⟨.op (.ldn 8 (.t 51)), (some 52), (some (44, true))⟩, .n, []⟩, ⟨⟨.call 21 [(.t 48), (.t 52)], (some 53), (some (44, true))⟩, .x, []⟩, ⟨⟨.op (.pick (.t 44) (.t 53) (.c (.bool false))), (some 54), none⟩, .n, []⟩, ⟨⟨.op (.mv (.t 54)), (some 39), none⟩, .x, []⟩])
 [5, 7, 8, 9, 10, 11, 39]
 (.cond (.t 39) (.reg [⟨.op (.mv (.t 9)), (some 55), none⟩, ⟨.op (.bin .add 0 (.t 55) (.c (.int .i64 1))), (some 56), none⟩, ⟨.op (.mv (.t 56)), (some 9), none⟩]) (.seq (.drw [⟨⟨.op (.mv (.t 10)), (some 58), none⟩, .n, []⟩, ⟨⟨.op (.mv (.t 8)), (some 59), none⟩, .n, []⟩, ⟨⟨.op (.len (.t 59)), (some 60), none⟩, .n, []⟩, ⟨⟨.op (.bin .lss 0 (.t 58) (.t 60)), (some 61), none⟩, .n, []⟩, ⟨⟨.op (.mv (.t 61)), (some 62), none⟩, .n, []⟩, ⟨⟨.op (.mv (.t 8)), (some 63), (some (62, true))⟩, .n, []⟩, ⟨⟨.op (.mv (.t 10)), (some 64), (some (62, true))⟩, .n, []⟩, ⟨⟨.op (.ia 8 none (.t 63) (.t 64)), (some 65), (some (62, true))⟩, .n, []⟩, ⟨⟨.op (.ldn 8 (.t 65)), (some 66), (some (62, true))⟩, .n, []⟩, ⟨⟨.op (.mv (.t 5)), (some 67), (some (62, true))⟩, .n, []⟩, ⟨⟨.op (.mv (.t 11)), (some 68), (some (62, true))⟩, .n, []⟩, ⟨⟨.op (.ia 8 none (.t 67) (.t 68)), (some 69), (some (62, true))⟩, .n, []⟩, ⟨⟨.op (.ldn 8 (.t 69)), (some 70), (some (62, true))⟩, .n, []⟩, ⟨⟨.call 21 [(.t 66), (.t 70)], (some 71), (some (62, true))⟩, .x, []⟩, ⟨⟨.op (.pick (.t 62) (.t 71) (.c (.bool false))), (some 72), none⟩, .n, []⟩, ⟨⟨.op (.mv (.t 72)), (some 57), none⟩, .x, []⟩])
 [5, 7, 8, 9, 10, 11, 57]
 (.cond (.t 57) (.reg [⟨.op (.mv (.t 10)), (some 73), none⟩, ⟨.op (.bin .add 0 (.t 73) (.c (.int .i64 1))), (some 74), none⟩, ⟨.op (.mv (.t 74)), (some 10), none⟩]) (.seq (.reg [⟨.op (.mv (.c (.bool false))), (some 4), none⟩])
 [4]
 (.ret))))))))
 [5, 7, 8, 9, 10, 11]
 (.reg [⟨.op (.mv (.t 11)), (some 37), none⟩, ⟨.op (.bin .add 0 (.t 37) (.c (.int .i64 1))), (some 38), none⟩, ⟨.op (.mv (.t 38)), (some 11), none⟩]))
theorem u5_0 (call : DCall) (T : Tm) (st : Dv.St) : dCw Try.prog call l5_0 T st = dCw Try.prog call
 (.seq (.seq (.reg [⟨.op (.mv (.t 11)), (some 33), none⟩, ⟨.op (.mv (.t 5)), (some 34), none⟩, ⟨.op (.len (.t 34)), (some 35), none⟩, ⟨.op (.bin .lss 0 (.t 33) (.t 35)), (some 36), none⟩])
 [5, 7, 8, 9, 10, 11, 36]
 (.cond (.t 36) (.skip) (.exit 0)))
 [5, 7, 8, 9, 10, 11]
 (.seq (.block 1 (.block 2 (.seq (.drw [⟨⟨.op (.mv (.t 9)), (some 40), none⟩, .n, []⟩, ⟨⟨.op (.mv (.t 7)), (some 41), none⟩, .n, []⟩, ⟨⟨.op (.len (.t 41)), (some 42), none⟩, .n, []⟩, ⟨⟨.op (.bin .lss 0 (.t 40) (.t 42)), (some 43), none⟩, .n, []⟩, ⟨⟨.op (.mv (.t 43)), (some 44), none⟩, .n, []⟩, ⟨⟨.op (.mv (.t 7)), (some 45), (some (44, true))⟩, .n, []⟩, ⟨⟨.op (.mv (.t 9)), (some 46), (some (44, true))⟩, .n, []⟩, ⟨⟨.op (.ia 8 none (.t 45) (.t 46)), (some 47), (some (44, true))⟩, .n, []⟩, ⟨⟨.op (.ldn 8 (.t 47)), (some 48), (some (44, true))⟩, .n, []⟩, ⟨⟨.op (.mv (.t 5)), (some 49), (some (44, true))⟩, .n, []⟩, ⟨⟨.op (.mv (.t 11)), (some 50), (some (44, true))⟩, .n, []⟩, ⟨⟨.op (.ia 8 none (.t 49) (.t 50)), (some 51), (some (44, true))⟩, .n, []⟩, ⟨⟨.op (.ldn 8 (.t 51)), (some 52), (some (44, true))⟩, .n, []⟩, ⟨⟨.call 21 [(.t 48), (.t 52)], (some 53), (some (44, true))⟩, .x, []⟩, ⟨⟨.op (.pick (.t 44) (.t 53) (.c (.bool false))), (some 54), none⟩, .n, []⟩, ⟨⟨.op (.mv (.t 54)), (some 39), none⟩, .x, []⟩])
 [5, 7, 8, 9, 10, 11, 39]
 (.cond (.t 39) (.reg [⟨.op (.mv (.t 9)), (some 55), none⟩, ⟨.op (.bin .add 0 (.t 55) (.c (.int .i64 1))), (some 56), none⟩, ⟨.op (.mv (.t 56)), (some 9), none⟩]) (.seq (.drw [⟨⟨.op (.mv (.t 10)), (some 58), none⟩, .n, []⟩, ⟨⟨.op (.mv (.t 8)), (some 59), none⟩, .n, []⟩, ⟨⟨.op (.len (.t 59)), (some 60), none⟩, .n, []⟩, ⟨⟨.op (.bin .lss 0 (.t 58) (.t 60)), (some 61), none⟩, .n, []⟩, ⟨⟨.op (.mv (.t 61)), (some 62), none⟩, .n, []⟩, ⟨⟨.op (.mv (.t 8)), (some 63), (some (62, true))⟩, .n, []⟩, ⟨⟨.op (.mv (.t 10)), (some 64), (some (62, true))⟩, .n, []⟩, ⟨⟨.op (.ia 8 none (.t 63) (.t 64)), (some 65), (some (62, true))⟩, .n, []⟩, ⟨⟨.op (.ldn 8 (.t 65)), (some 66), (some (62, true))⟩, .n, []⟩, ⟨⟨.op (.mv (.t 5)), (some 67), (some (62, true))⟩, .n, []⟩, ⟨⟨.op (.mv (.t 11)), (some 68), (some (62, true))⟩, .n, []⟩, ⟨⟨.op (.ia 8 none (.t 67) (.t 68)), (some 69), (some (62, true))⟩, .n, []⟩, ⟨⟨.op (.ldn 8 (.t 69)), (some 70), (some (62, true))⟩, .n, []⟩, ⟨⟨.call 21 [(.t 66), (.t 70)], (some 71), (some (62, true))⟩, .x, []⟩, ⟨⟨.op (.pick (.t 62) (.t 71) (.c (.bool false))), (some 72), none⟩, .n, []⟩, ⟨⟨.op (.mv (.t 72)), (some 57), none⟩, .x, []⟩])
 [5, 7, 8, 9, 10, 11, 57]
 (.cond (.t 57) (.reg [⟨.op (.mv (.t 10)), (some 73), none⟩, ⟨.op (.bin .add 0 (.t 73) (.c (.int .i64 1))), (some 74), none⟩, ⟨.op (.mv (.t 74)), (some 10), none⟩]) (.seq (.reg [⟨.op (.mv (.c (.bool false))), (some 4), none⟩])
 [4]
 (.ret))))))))
 [5, 7, 8, 9, 10, 11]
 (.reg [⟨.op (.mv (.t 11)), (some 37), none⟩, ⟨.op (.bin .add 0 (.t 37) (.c (.int .i64 1))), (some 38), none⟩, ⟨.op (.mv (.t 38)), (some 11), none⟩]))) T st := rfl
/-- cardamom/cardamomlaw10.HoldParts -/
noncomputable def c5 : DFn := ⟨95, .pure,
 .seq (.reg [⟨.op (.mv (.c (.bool false))), (some 4), none⟩])
 [0, 1]
 (.seq (.seq (.reg [⟨.call 14 [], (some 12), none⟩, ⟨.op (.not (.t 12)), (some 13), none⟩])
 [0, 1, 13]
 (.cond (.t 13) (.seq (.reg [⟨.op (.mv (.c (.bool false))), (some 4), none⟩])
 [4]
 (.ret)) (.skip)))
 [0, 1]
 (.seq (.seq (.reg [⟨.op (.mv (.t 0)), (some 14), none⟩, ⟨.op (.len (.t 14)), (some 15), none⟩, ⟨.op (.bin .gtr 0 (.t 15) (.c (.int .i64 80))), (some 16), none⟩, ⟨.op (.mv (.t 16)), (some 17), none⟩, ⟨.op (.mv (.t 1)), (some 18), (some (17, false))⟩, ⟨.op (.len (.t 18)), (some 19), (some (17, false))⟩, ⟨.op (.bin .gtr 0 (.t 19) (.c (.int .i64 30))), (some 20), (some (17, false))⟩, ⟨.op (.pick (.t 17) (.c (.bool true)) (.t 20)), (some 21), none⟩])
 [0, 1, 21]
 (.cond (.t 21) (.seq (.reg [⟨.op (.mv (.c (.bool true))), (some 4), none⟩])
 [4]
 (.ret)) (.skip)))
 [0, 1]
 (.seq (.reg [⟨.op (.mv (.t 0)), (some 22), none⟩, ⟨.call 15 [(.t 22)], (some 23), none⟩, ⟨.op (.mv (.t 1)), (some 24), none⟩, ⟨.call 16 [(.t 24)], (some 25), none⟩, ⟨.call 18 [(.t 25), (.c (.int .i64 3))], (some 26), none⟩, ⟨.op (.new [(.int .i64 0), (.int .i64 0), (.int .i64 0), (.int .i64 0), (.str []), (.sl none 0)]), (some 6), none⟩, ⟨.op (.mv (.t 23)), (some 5), none⟩, ⟨.op (.st 6 (.t 6) (.t 26)), none, none⟩])
 [5, 6]
 (.seq (.drw [⟨⟨.op (.mv (.t 5)), (some 27), none⟩, .n, []⟩, ⟨⟨.op (.ldn 6 (.t 6)), (some 28), none⟩, .n, []⟩, ⟨⟨.op (.mv (.t 5)), (some 30), none⟩, .n, []⟩, ⟨⟨.op (.ldn 6 (.t 6)), (some 31), none⟩, .n, []⟩, ⟨⟨.call 31 [(.t 27), (.t 28)], (some 29), none⟩, .x, [(true, 3)]⟩, ⟨⟨.call 32 [(.t 30), (.t 31)], (some 32), none⟩, .x, []⟩, ⟨⟨.op (.mv (.t 29)), (some 7), none⟩, .x, []⟩, ⟨⟨.op (.mv (.t 32)), (some 8), none⟩, .x, []⟩])
 [5, 7, 8]
 (.seq (.reg [⟨.op (.mv (.c (.int .i64 0))), (some 9), none⟩, ⟨.op (.mv (.c (.int .i64 0))), (some 10), none⟩])
 [5, 7, 8, 9, 10]
 (.seq (.seq (.reg [⟨.op (.mv (.c (.int .i64 0))), (some 11), none⟩])
 [5, 7, 8, 9, 10, 11]
 (.block 0 (.loop [5, 7, 8, 9, 10, 11] (l5_0))))
 [5, 7, 8, 9, 10]
 (.seq (.reg [⟨.op (.mv (.t 9)), (some 75), none⟩, ⟨.op (.mv (.t 7)), (some 76), none⟩, ⟨.op (.len (.t 76)), (some 77), none⟩, ⟨.op (.bin .eql 0 (.t 75) (.t 77)), (some 78), none⟩, ⟨.op (.mv (.t 78)), (some 79), none⟩, ⟨.op (.mv (.t 10)), (some 80), (some (79, true))⟩, ⟨.op (.mv (.t 8)), (some 81), (some (79, true))⟩, ⟨.op (.len (.t 81)), (some 82), (some (79, true))⟩, ⟨.op (.bin .eql 0 (.t 80) (.t 82)), (some 83), (some (79, true))⟩, ⟨.op (.pick (.t 79) (.t 83) (.c (.bool false))), (some 84), none⟩, ⟨.op (.mv (.t 84)), (some 85), none⟩, ⟨.op (.mv (.t 7)), (some 86), (some (85, true))⟩, ⟨.call 28 [(.t 86)], (some 87), (some (85, true))⟩, ⟨.op (.mv (.t 8)), (some 88), (some (85, true))⟩, ⟨.call 28 [(.t 88)], (some 89), (some (85, true))⟩, ⟨.call 36 [(.t 87), (.t 89)], (some 90), (some (85, true))⟩, ⟨.op (.mv (.t 5)), (some 91), (some (85, true))⟩, ⟨.call 28 [(.t 91)], (some 92), (some (85, true))⟩, ⟨.call 27 [(.t 90), (.t 92)], (some 93), (some (85, true))⟩, ⟨.op (.pick (.t 85) (.t 93) (.c (.bool false))), (some 94), none⟩, ⟨.op (.mv (.t 94)), (some 4), none⟩])
 [4]
 (.ret)))))))),
 [.tmp 4]⟩
theorem k5 : cFn Try.prog 5 = some c5.toE := by kernel_rfl
theorem w5 : c5.body.wf = true := by kernel_rfl
/-- cardamom/cardamomlaw10.begun -/
noncomputable def c14 : DFn := ⟨85, .pure,
 .seq (.reg [⟨.op (.mv (.c (.bool false))), (some 0), none⟩])
 []
 (.seq (.reg [⟨.op (.build [(.int .i64 0), (.int .i64 0), (.int .i64 0)] [(0, 1, (.c (.int .i64 2))), (1, 1, (.c (.int .i64 1))), (2, 1, (.c (.int .i64 1)))]), (some 9), none⟩, ⟨.op (.build [(.int .i64 0), (.int .i64 0), (.int .i64 0), (.int .i64 0), (.bool false), (.sl none 0), (.str []), (.str [])] [(0, 1, (.c (.int .i64 2))), (1, 3, (.t 9))]), (some 10), none⟩, ⟨.op (.new [(.int .i64 0), (.int .i64 0), (.int .i64 0), (.int .i64 0), (.bool false), (.sl none 0), (.str []), (.str [])]), (some 1), none⟩, ⟨.op (.st 8 (.t 1) (.t 10)), none, none⟩])
 [1]
 (.seq (.reg [⟨.op (.build [(.int .i64 0), (.int .i64 0), (.int .i64 0)] [(0, 1, (.c (.int .i64 1))), (1, 1, (.c (.int .i64 1))), (2, 1, (.c (.int .i64 1)))]), (some 11), none⟩, ⟨.op (.build [(.int .i64 0), (.int .i64 0), (.int .i64 0), (.int .i64 0), (.bool false), (.sl none 0), (.str []), (.str [])] [(0, 1, (.c (.int .i64 1))), (1, 3, (.t 11))]), (some 12), none⟩, ⟨.op (.new [(.int .i64 0), (.int .i64 0), (.int .i64 0), (.int .i64 0), (.bool false), (.sl none 0), (.str []), (.str [])]), (some 2), none⟩, ⟨.op (.st 8 (.t 2) (.t 12)), none, none⟩])
 [1, 2]
 (.seq (.drw [⟨⟨.op (.ldn 8 (.t 1)), (some 13), none⟩, .n, []⟩, ⟨⟨.op (.ldn 8 (.t 2)), (some 15), none⟩, .n, []⟩, ⟨⟨.call 23 [(.c (.sl none 0)), (.t 13)], (some 14), none⟩, .x, [(true, 1)]⟩, ⟨⟨.call 23 [(.t 14), (.t 15)], (some 16), none⟩, .x, []⟩, ⟨⟨.op (.mv (.t 16)), (some 3), none⟩, .x, []⟩])
 [1, 3]
 (.seq (.reg [⟨.op (.mv (.t 3)), (some 18), none⟩, ⟨.call 19 [(.t 18), (.c (.int .i64 2))], (some 19), none⟩, ⟨.op (.mv (.t 19)), (some 17), none⟩, ⟨.op (.ext (.t 17) 0), (some 20), none⟩, ⟨.op (.ext (.t 17) 1), (some 21), none⟩, ⟨.op (.new [(.int .i64 0), (.int .i64 0), (.int .i64 0), (.int .i64 0), (.bool false), (.sl none 0), (.str []), (.str [])]), (some 4), none⟩, ⟨.op (.st 8 (.t 4) (.t 20)), none, none⟩, ⟨.op (.mv (.t 21)), (some 5), none⟩])
 [1, 3, 4, 5]
 (.seq (.reg [⟨.op (.mv (.t 3)), (some 23), none⟩, ⟨.call 19 [(.t 23), (.c (.int .i64 3))], (some 24), none⟩, ⟨.op (.mv (.t 24)), (some 22), none⟩, ⟨.op (.ext (.t 22) 0), (some 25), none⟩, ⟨.op (.ext (.t 22) 1), (some 26), none⟩, ⟨.op (.new [(.int .i64 0), (.int .i64 0), (.int .i64 0), (.int .i64 0), (.bool false), (.sl none 0), (.str []), (.str [])]), (some 6), none⟩, ⟨.op (.st 8 (.t 6) (.t 25)), none, none⟩, ⟨.op (.mv (.t 26)), (some 7), none⟩])
 [1, 3, 4, 5, 7]
 (.seq (.reg [⟨.op (.mv (.t 3)), (some 27), none⟩, ⟨.call 28 [(.t 27)], (some 28), none⟩, ⟨.op (.mv (.t 28)), (some 8), none⟩])
 [1, 3, 4, 5, 7, 8]
 (.seq (.reg [⟨.op (.mv (.t 3)), (some 29), none⟩, ⟨.op (.len (.t 29)), (some 30), none⟩, ⟨.op (.bin .eql 0 (.t 30) (.c (.int .i64 2))), (some 31), none⟩, ⟨.op (.mv (.t 31)), (some 32), none⟩, ⟨.op (.mv (.t 3)), (some 33), (some (32, true))⟩, ⟨.op (.ia 8 none (.t 33) (.c (.int .i64 0))), (some 34), (some (32, true))⟩, ⟨.op (.fa 0 (.t 34)), (some 35), (some (32, true))⟩, ⟨.op (.ld1 (.t 35)), (some 36), (some (32, true))⟩, ⟨.op (.bin .eql 0 (.t 36) (.c (.int .i64 1))), (some 37), (some (32, true))⟩, ⟨.op (.pick (.t 32) (.t 37) (.c (.bool false))), (some 38), none⟩, ⟨.op (.mv (.t 38)), (some 39), none⟩, ⟨.op (.mv (.t 5)), (some 40), (some (39, true))⟩, ⟨.op (.pick (.t 39) (.t 40) (.c (.bool false))), (some 41), none⟩, ⟨.op (.mv (.t 41)), (some 42), none⟩, ⟨.op (.fa 1 (.t 4)), (some 43), (some (42, true))⟩, ⟨.op (.ldn 3 (.t 43)), (some 44), (some (42, true))⟩, ⟨.op (.fa 1 (.t 1)), (some 45), (some (42, true))⟩, ⟨.op (.ldn 3 (.t 45)), (some 46), (some (42, true))⟩, ⟨.op (.slow (operAt Try.prog 14 51)), (some 47), (some (42, true))⟩, ⟨.op (.pick (.t 42) (.t 47) (.c (.bool false))), (some 48), none⟩, ⟨.op (.mv (.t 48)), (some 49), none⟩, ⟨.op (.mv (.t 7)), (some 50), (some (49, true))⟩, ⟨.op (.not (.t 50)), (some 51), (some (49, true))⟩, ⟨.op (.pick (.t 49) (.t 51) (.c (.bool false))), (some 52), none⟩, ⟨.op (.mv (.t 52)), (some 53), none⟩, ⟨.op (.mv (.t 8)), (some 54), (some (53, true))⟩, ⟨.op (.len (.t 54)), (some 55), (some (53, true))⟩, ⟨.op (.bin .eql 0 (.t 55) (.c (.int .i64 2))), (some 56), (some (53, true))⟩, ⟨.op (.pick (.t 53) (.t 56) (.c (.bool false))), (some 57), none⟩, ⟨.op (.mv (.t 57)), (some 58), none⟩, ⟨.op (.mv (.t 8)), (some 59), (some (58, true))⟩, ⟨.op (.ia 4 none (.t 59) (.c (.int .i64 1))), (some 60), (some (58, true))⟩, ⟨.op (.fa 0 (.t 60)), (some 61), (some (58, true))⟩, ⟨.op (.ld1 (.t 61)), (some 62), (some (58, true))⟩, ⟨.op (.bin .eql 0 (.t 62) (.c (.int .i64 2))), (some 63), (some (58, true))⟩, ⟨.op (.pick (.t 58) (.t 63) (.c (.bool false))), (some 64), none⟩, ⟨.op (.mv (.t 64)), (some 65), none⟩, ⟨.op (.mv (.t 3)), (some 66), (some (65, true))⟩, ⟨.call 25 [(.t 66), (.c (.int .i64 1))], (some 67), (some (65, true))⟩, ⟨.op (.len (.t 67)), (some 68), (some (65, true))⟩, ⟨.op (.bin .eql 0 (.t 68) (.c (.int .i64 1))), (some 69), (some (65, true))⟩, ⟨.op (.pick (.t 65) (.t 69) (.c (.bool false))), (some 70), none⟩, ⟨.op (.mv (.t 70)), (some 71), none⟩, ⟨.op (.mv (.t 3)), (some 72), (some (71, true))⟩, ⟨.op (.build [(.int .i64 0), (.int .i64 0), (.int .i64 0), (.int .i64 0), (.str []), (.sl none 0)] [(0, 1, (.c (.int .i64 1)))]), (some 73), (some (71, true))⟩, ⟨.call 31 [(.t 72), (.t 73)], (some 74), (some (71, true))⟩, ⟨.op (.len (.t 74)), (some 75), (some (71, true))⟩, ⟨.op (.bin .eql 0 (.t 75) (.c (.int .i64 2))), (some 76), (some (71, true))⟩, ⟨.op (.pick (.t 71) (.t 76) (.c (.bool false))), (some 77), none⟩, ⟨.op (.mv (.t 77)), (some 78), none⟩, ⟨.op (.mv (.t 3)), (some 79), (some (78, true))⟩, ⟨.op (.build [(.int .i64 0), (.int .i64 0), (.int .i64 0), (.int .i64 0), (.str []), (.sl none 0)] [(0, 1, (.c (.int .i64 1)))]), (some 80), (some (78, true))⟩, ⟨.call 32 [(.t 79), (.t 80)], (some 81), (some (78, true))⟩, ⟨.op (.len (.t 81)), (some 82), (some (78, true))⟩, ⟨.op (.bin .eql 0 (.t 82) (.c (.int .i64 0))), (some 83), (some (78, true))⟩, ⟨.op (.pick (.t 78) (.t 83) (.c (.bool false))), (some 84), none⟩, ⟨.op (.mv (.t 84)), (some 0), none⟩])
 [0]
 (.ret)))))))),
 [.tmp 0]⟩
theorem k14 : cFn Try.prog 14 = some c14.toE := by kernel_rfl
theorem w14 : c14.body.wf = true := by kernel_rfl
noncomputable def l15_0 : DC :=
 .seq (.seq (.reg [⟨.op (.mv (.t 4)), (some 8), none⟩, ⟨.op (.mv (.t 5)), (some 9), none⟩, ⟨.op (.len (.t 9)), (some 10), none⟩, ⟨.op (.bin .lss 0 (.t 8) (.t 10)), (some 11), none⟩])
 [3, 4, 5, 11]
 (.cond (.t 11) (.skip) (.exit 0)))
 [3, 4, 5]
 (.seq (.block 1 (.reg [⟨.op (.mv (.t 3)), (some 14), none⟩, ⟨.op (.mv (.t 5)), (some 15), none⟩, ⟨.op (.mv (.t 4)), (some 16), none⟩, ⟨.op (.ia 8 none (.t 15) (.t 16)), (some 17), none⟩, ⟨.op (.ldn 8 (.t 17)), (some 18), none⟩, ⟨.call 24 [(.t 14), (.t 18)], (some 19), none⟩, ⟨.op (.mv (.t 19)), (some 3), none⟩]))
 [3, 4, 5]
 (.reg [⟨.op (.mv (.t 4)), (some 12), none⟩, ⟨.op (.bin .add 0 (.t 12) (.c (.int .i64 1))), (some 13), none⟩, ⟨.op (.mv (.t 13)), (some 4), none⟩]))
theorem u15_0 (call : DCall) (T : Tm) (st : Dv.St) : dCw Try.prog call l15_0 T st = dCw Try.prog call
 (.seq (.seq (.reg [⟨.op (.mv (.t 4)), (some 8), none⟩, ⟨.op (.mv (.t 5)), (some 9), none⟩, ⟨.op (.len (.t 9)), (some 10), none⟩, ⟨.op (.bin .lss 0 (.t 8) (.t 10)), (some 11), none⟩])
 [3, 4, 5, 11]
 (.cond (.t 11) (.skip) (.exit 0)))
 [3, 4, 5]
 (.seq (.block 1 (.reg [⟨.op (.mv (.t 3)), (some 14), none⟩, ⟨.op (.mv (.t 5)), (some 15), none⟩, ⟨.op (.mv (.t 4)), (some 16), none⟩, ⟨.op (.ia 8 none (.t 15) (.t 16)), (some 17), none⟩, ⟨.op (.ldn 8 (.t 17)), (some 18), none⟩, ⟨.call 24 [(.t 14), (.t 18)], (some 19), none⟩, ⟨.op (.mv (.t 19)), (some 3), none⟩]))
 [3, 4, 5]
 (.reg [⟨.op (.mv (.t 4)), (some 12), none⟩, ⟨.op (.bin .add 0 (.t 12) (.c (.int .i64 1))), (some 13), none⟩, ⟨.op (.mv (.t 13)), (some 4), none⟩]))) T st := rfl
/-- cardamom/cardamomlaw10.Held -/
noncomputable def c15 : DFn := ⟨21, .pure,
 .seq (.reg [⟨.op (.mv (.c (.sl none 0))), (some 2), none⟩])
 [0]
 (.seq (.reg [⟨.op (.mv (.c (.sl none 0))), (some 3), none⟩])
 [0, 3]
 (.seq (.seq (.reg [⟨.op (.mv (.t 0)), (some 6), none⟩, ⟨.call 33 [(.t 6)], (some 7), none⟩, ⟨.op (.mv (.c (.int .i64 0))), (some 4), none⟩, ⟨.op (.mv (.t 7)), (some 5), none⟩])
 [3, 4, 5]
 (.block 0 (.loop [3, 4, 5] (l15_0))))
 [3]
 (.seq (.reg [⟨.op (.mv (.t 3)), (some 20), none⟩, ⟨.op (.mv (.t 20)), (some 2), none⟩])
 [2]
 (.ret)))),
 [.tmp 2]⟩
theorem k15 : cFn Try.prog 15 = some c15.toE := by kernel_rfl
theorem w15 : c15.body.wf = true := by kernel_rfl
noncomputable def l33_0 : DC :=
 .seq (.seq (.reg [⟨.op (.mv (.t 5)), (some 8), none⟩, ⟨.op (.bin .lss 0 (.t 8) (.c (.int .i64 8))), (some 9), none⟩, ⟨.op (.mv (.t 9)), (some 10), none⟩, ⟨.op (.mv (.t 3)), (some 11), (some (10, true))⟩, ⟨.call 68 [(.t 11)], (some 12), (some (10, true))⟩, ⟨.op (.not (.t 12)), (some 13), (some (10, true))⟩, ⟨.op (.pick (.t 10) (.t 13) (.c (.bool false))), (some 14), none⟩])
 [3, 4, 5, 14]
 (.cond (.t 14) (.skip) (.exit 0)))
 [3, 4, 5]
 (.seq (.block 1 (.reg [⟨.op (.mv (.t 4)), (some 17), none⟩, ⟨.op (.mv (.t 3)), (some 18), none⟩, ⟨.call 17 [(.t 18)], (some 19), none⟩, ⟨.op (.bslice 8 1 [(.int .i64 0), (.int .i64 0), (.int .i64 0), (.int .i64 0), (.bool false), (.sl none 0), (.str []), (.str [])] [(0, 8, (.t 19))]), (some 20), none⟩, ⟨.op (.app 8 96 false (.t 17) (.t 20)), (some 21), none⟩, ⟨.op (.mv (.t 21)), (some 4), none⟩]))
 [3, 4, 5]
 (.reg [⟨.op (.mv (.t 5)), (some 15), none⟩, ⟨.op (.bin .add 0 (.t 15) (.c (.int .i64 1))), (some 16), none⟩, ⟨.op (.mv (.t 16)), (some 5), none⟩]))
theorem u33_0 (call : DCall) (T : Tm) (st : Dv.St) : dCw Try.prog call l33_0 T st = dCw Try.prog call
 (.seq (.seq (.reg [⟨.op (.mv (.t 5)), (some 8), none⟩, ⟨.op (.bin .lss 0 (.t 8) (.c (.int .i64 8))), (some 9), none⟩, ⟨.op (.mv (.t 9)), (some 10), none⟩, ⟨.op (.mv (.t 3)), (some 11), (some (10, true))⟩, ⟨.call 68 [(.t 11)], (some 12), (some (10, true))⟩, ⟨.op (.not (.t 12)), (some 13), (some (10, true))⟩, ⟨.op (.pick (.t 10) (.t 13) (.c (.bool false))), (some 14), none⟩])
 [3, 4, 5, 14]
 (.cond (.t 14) (.skip) (.exit 0)))
 [3, 4, 5]
 (.seq (.block 1 (.reg [⟨.op (.mv (.t 4)), (some 17), none⟩, ⟨.op (.mv (.t 3)), (some 18), none⟩, ⟨.call 17 [(.t 18)], (some 19), none⟩, ⟨.op (.bslice 8 1 [(.int .i64 0), (.int .i64 0), (.int .i64 0), (.int .i64 0), (.bool false), (.sl none 0), (.str []), (.str [])] [(0, 8, (.t 19))]), (some 20), none⟩, ⟨.op (.app 8 96 false (.t 17) (.t 20)), (some 21), none⟩, ⟨.op (.mv (.t 21)), (some 4), none⟩]))
 [3, 4, 5]
 (.reg [⟨.op (.mv (.t 5)), (some 15), none⟩, ⟨.op (.bin .add 0 (.t 15) (.c (.int .i64 1))), (some 16), none⟩, ⟨.op (.mv (.t 16)), (some 5), none⟩]))) T st := rfl
/-- cardamom/cardamomlaw10.Rows -/
noncomputable def c33 : DFn := ⟨23, .pure,
 .seq (.reg [⟨.op (.mv (.c (.sl none 0))), (some 2), none⟩])
 [0]
 (.seq (.reg [⟨.op (.mv (.t 0)), (some 6), none⟩, ⟨.call 16 [(.t 6)], (some 7), none⟩, ⟨.op (.mv (.t 7)), (some 3), none⟩])
 [3]
 (.seq (.reg [⟨.op (.mv (.c (.sl none 0))), (some 4), none⟩])
 [3, 4]
 (.seq (.seq (.reg [⟨.op (.mv (.c (.int .i64 0))), (some 5), none⟩])
 [3, 4, 5]
 (.block 0 (.loop [3, 4, 5] (l33_0))))
 [4]
 (.seq (.reg [⟨.op (.mv (.t 4)), (some 22), none⟩, ⟨.op (.mv (.t 22)), (some 2), none⟩])
 [2]
 (.ret))))),
 [.tmp 2]⟩
theorem k33 : cFn Try.prog 33 = some c33.toE := by kernel_rfl
theorem w33 : c33.body.wf = true := by kernel_rfl
/-- cardamom/cardamomplay.Made -/
noncomputable def c16 : DFn := ⟨6, .vars,
 .seq (.reg [⟨.op (.mv (.c (.ptr none))), (some 2), none⟩])
 [0]
 (.seq (.reg [⟨.op (.mv (.t 0)), (some 3), none⟩, ⟨.op (.build [(.sl none 0), (.int .i64 0)] [(0, 1, (.t 3))]), (some 4), none⟩, ⟨.op (.box (.t 4)), (some 5), none⟩, ⟨.op (.mv (.t 5)), (some 2), none⟩])
 [2]
 (.ret)),
 [.tmp 2]⟩
theorem k16 : cFn Try.prog 16 = some c16.toE := by kernel_rfl
theorem w16 : c16.body.wf = true := by kernel_rfl
/-- (*cardamom/cardamomplay.Picks).Version -/
noncomputable def c17 : DFn := ⟨28, .vars,
 .seq (.reg [⟨.op (.new [(.int .i64 0), (.int .i64 0), (.int .i64 0), (.int .i64 0), (.bool false), (.sl none 0), (.str []), (.str [])]), (some 2), none⟩])
 [0, 2]
 (.seq (.reg [⟨.op (.mv (.t 0)), (some 4), none⟩, ⟨.call 39 [(.t 4), (.c (.int .i64 6))], (some 5), none⟩, ⟨.op (.bin .add 0 (.c (.int .i64 1)) (.t 5)), (some 6), none⟩, ⟨.op (.mv (.t 0)), (some 7), none⟩, ⟨.call 40 [(.t 7)], (some 8), none⟩, ⟨.op (.mv (.t 0)), (some 9), none⟩, ⟨.call 54 [(.t 9)], (some 10), none⟩, ⟨.op (.mv (.t 0)), (some 11), none⟩, ⟨.call 55 [(.t 11)], (some 12), none⟩, ⟨.op (.build [(.int .i64 0), (.int .i64 0), (.int .i64 0), (.int .i64 0), (.bool false), (.sl none 0), (.str []), (.str [])] [(0, 1, (.t 6)), (1, 3, (.t 8)), (5, 1, (.t 10)), (6, 1, (.t 12))]), (some 13), none⟩, ⟨.op (.new [(.int .i64 0), (.int .i64 0), (.int .i64 0), (.int .i64 0), (.bool false), (.sl none 0), (.str []), (.str [])]), (some 3), none⟩, ⟨.op (.st 8 (.t 3) (.t 13)), none, none⟩])
 [0, 2, 3]
 (.seq (.reg [⟨.op (.mv (.t 0)), (some 14), none⟩, ⟨.call 39 [(.t 14), (.c (.int .i64 6))], (some 15), none⟩, ⟨.op (.bin .eql 0 (.t 15) (.c (.int .i64 1))), (some 16), none⟩, ⟨.op (.fa 4 (.t 3)), (some 17), none⟩, ⟨.op (.st 1 (.t 17) (.t 16)), none, none⟩])
 [0, 2, 3]
 (.seq (.seq (.reg [⟨.op (.fa 4 (.t 3)), (some 18), none⟩, ⟨.op (.ld1 (.t 18)), (some 19), none⟩, ⟨.op (.not (.t 19)), (some 20), none⟩])
 [0, 2, 3, 20]
 (.cond (.t 20) (.reg [⟨.op (.bslice 1 4 [(.str []), (.str []), (.str []), (.str [])] [(0, 1, (.c (.str []))), (1, 1, (.c (.str [120]))), (2, 1, (.c (.str [98, 111, 100, 121]))), (3, 1, (.c (.str [97, 32, 98, 111, 100, 121, 32, 111, 102, 32, 49, 50])))]), (some 21), none⟩, ⟨.op (.mv (.t 0)), (some 22), none⟩, ⟨.call 39 [(.t 22), (.c (.int .i64 4))], (some 23), none⟩, ⟨.op (.ia 1 none (.t 21) (.t 23)), (some 24), none⟩, ⟨.op (.ld1 (.t 24)), (some 25), none⟩, ⟨.op (.fa 7 (.t 3)), (some 26), none⟩, ⟨.op (.st 1 (.t 26) (.t 25)), none, none⟩]) (.skip)))
 [2, 3]
 (.seq (.reg [⟨.op (.ldn 8 (.t 3)), (some 27), none⟩, ⟨.op (.st 8 (.t 2) (.t 27)), none, none⟩])
 [2]
 (.ret))))),
 [.celln 8 2]⟩
theorem k17 : cFn Try.prog 17 = some c17.toE := by kernel_rfl
theorem w17 : c17.body.wf = true := by kernel_rfl
/-- (*cardamom/cardamomplay.Picks).Filter -/
noncomputable def c18 : DFn := ⟨75, .vars,
 .seq (.reg [⟨.op (.new [(.int .i64 0), (.int .i64 0), (.int .i64 0), (.int .i64 0), (.str []), (.sl none 0)]), (some 4), none⟩])
 [0, 1, 4]
 (.seq (.seq (.reg [⟨.op (.mv (.t 1)), (some 7), none⟩, ⟨.op (.bin .leq 0 (.t 7) (.c (.int .i64 1))), (some 8), none⟩, ⟨.op (.mv (.t 8)), (some 9), none⟩, ⟨.op (.mv (.t 0)), (some 10), (some (9, false))⟩, ⟨.call 39 [(.t 10), (.c (.int .i64 3))], (some 11), (some (9, false))⟩, ⟨.op (.bin .eql 0 (.t 11) (.c (.int .i64 0))), (some 12), (some (9, false))⟩, ⟨.op (.pick (.t 9) (.c (.bool true)) (.t 12)), (some 13), none⟩])
 [0, 1, 4, 13]
 (.cond (.t 13) (.seq (.seq (.reg [⟨.op (.mv (.t 0)), (some 14), none⟩, ⟨.call 39 [(.t 14), (.c (.int .i64 6))], (some 15), none⟩])
 [0, 4, 15]
 (.block 0 (.seq (.reg [⟨.op (.bin .eql 0 (.t 15) (.c (.int .i64 0))), (some 17), none⟩, ⟨.op (.mv (.t 17)), (some 16), none⟩])
 [0, 4, 15, 16]
 (.cond (.t 16) (.seq (.reg [⟨.op (.build [(.int .i64 0), (.int .i64 0), (.int .i64 0), (.int .i64 0), (.str []), (.sl none 0)] [(0, 1, (.c (.int .i64 1)))]), (some 18), none⟩, ⟨.op (.st 6 (.t 4) (.t 18)), none, none⟩])
 [4]
 (.ret)) (.seq (.seq (.reg [⟨.op (.bin .eql 0 (.t 15) (.c (.int .i64 1))), (some 20), none⟩, ⟨.op (.mv (.t 20)), (some 19), none⟩])
 [0, 4, 15, 19]
 (.cond (.t 19) (.skip) (.reg [⟨.op (.bin .eql 0 (.t 15) (.c (.int .i64 2))), (some 21), none⟩, ⟨.op (.mv (.t 21)), (some 19), none⟩])))
 [0, 4, 15, 19]
 (.cond (.t 19) (.seq (.reg [⟨.op (.bslice 1 4 [(.int .i64 0), (.int .i64 0), (.int .i64 0), (.int .i64 0)] [(0, 1, (.c (.int .i64 0))), (1, 1, (.c (.int .i64 1))), (2, 1, (.c (.int .i64 5))), (3, 1, (.c (.int .i64 99)))]), (some 22), none⟩, ⟨.op (.mv (.t 0)), (some 23), none⟩, ⟨.call 39 [(.t 23), (.c (.int .i64 4))], (some 24), none⟩, ⟨.op (.ia 1 none (.t 22) (.t 24)), (some 25), none⟩, ⟨.op (.ld1 (.t 25)), (some 26), none⟩, ⟨.op (.mv (.t 26)), (some 5), none⟩])
 [0, 4, 5]
 (.seq (.reg [⟨.op (.mv (.t 0)), (some 27), none⟩, ⟨.call 39 [(.t 27), (.c (.int .i64 4))], (some 28), none⟩, ⟨.op (.mv (.t 5)), (some 29), none⟩, ⟨.op (.mv (.t 5)), (some 30), none⟩, ⟨.op (.build [(.int .i64 0), (.int .i64 0), (.int .i64 0), (.int .i64 0), (.str []), (.sl none 0)] [(0, 1, (.c (.int .i64 2))), (1, 1, (.t 28)), (2, 1, (.t 29)), (3, 1, (.t 30))]), (some 31), none⟩, ⟨.op (.st 6 (.t 4) (.t 31)), none, none⟩])
 [4]
 (.ret))) (.seq (.seq (.reg [⟨.op (.bin .eql 0 (.t 15) (.c (.int .i64 3))), (some 33), none⟩, ⟨.op (.mv (.t 33)), (some 32), none⟩])
 [0, 4, 15, 32]
 (.cond (.t 32) (.skip) (.reg [⟨.op (.bin .eql 0 (.t 15) (.c (.int .i64 4))), (some 34), none⟩, ⟨.op (.mv (.t 34)), (some 32), none⟩])))
 [0, 4, 32]
 (.cond (.t 32) (.seq (.reg [⟨.op (.mv (.t 0)), (some 35), none⟩, ⟨.call 39 [(.t 35), (.c (.int .i64 4))], (some 36), none⟩, ⟨.op (.mv (.t 0)), (some 37), none⟩, ⟨.call 39 [(.t 37), (.c (.int .i64 60))], (some 38), none⟩, ⟨.op (.build [(.int .i64 0), (.int .i64 0), (.int .i64 0), (.int .i64 0), (.str []), (.sl none 0)] [(0, 1, (.c (.int .i64 3))), (1, 1, (.t 36)), (2, 1, (.t 38))]), (some 39), none⟩, ⟨.op (.new [(.int .i64 0), (.int .i64 0), (.int .i64 0), (.int .i64 0), (.str []), (.sl none 0)]), (some 6), none⟩, ⟨.op (.st 6 (.t 6) (.t 39)), none, none⟩])
 [0, 4, 6]
 (.seq (.drw [⟨⟨.op (.fa 2 (.t 6)), (some 40), none⟩, .n, []⟩, ⟨⟨.op (.ld1 (.t 40)), (some 41), none⟩, .n, []⟩, ⟨⟨.op (.mv (.t 0)), (some 42), none⟩, .n, []⟩, ⟨⟨.call 39 [(.t 42), (.c (.int .i64 40))], (some 43), none⟩, .x, [(true, 1)]⟩, ⟨⟨.op (.bin .add 0 (.t 41) (.t 43)), (some 44), none⟩, .n, []⟩, ⟨⟨.op (.fa 3 (.t 6)), (some 45), none⟩, .n, []⟩, ⟨⟨.op (.st 1 (.t 45) (.t 44)), none, none⟩, .x, []⟩])
 [4, 6]
 (.seq (.reg [⟨.op (.ldn 6 (.t 6)), (some 46), none⟩, ⟨.op (.st 6 (.t 4) (.t 46)), none, none⟩])
 [4]
 (.ret)))) (.skip)))))))))
 [0, 4]
 (.seq (.reg [⟨.op (.bslice 1 3 [(.str []), (.str []), (.str [])] [(0, 1, (.c (.str [97]))), (1, 1, (.c (.str [97, 98]))), (2, 1, (.c (.str [98])))]), (some 47), none⟩, ⟨.op (.mv (.t 0)), (some 48), none⟩, ⟨.call 39 [(.t 48), (.c (.int .i64 3))], (some 49), none⟩, ⟨.op (.ia 1 none (.t 47) (.t 49)), (some 50), none⟩, ⟨.op (.ld1 (.t 50)), (some 51), none⟩, ⟨.op (.build [(.int .i64 0), (.int .i64 0), (.int .i64 0), (.int .i64 0), (.str []), (.sl none 0)] [(0, 1, (.c (.int .i64 4))), (4, 1, (.t 51))]), (some 52), none⟩, ⟨.op (.st 6 (.t 4) (.t 52)), none, none⟩])
 [4]
 (.ret))) (.skip)))
 [0, 1, 4]
 (.seq (.seq (.reg [⟨.op (.mv (.t 0)), (some 53), none⟩, ⟨.call 39 [(.t 53), (.c (.int .i64 3))], (some 54), none⟩, ⟨.op (.bin .eql 0 (.t 54) (.c (.int .i64 0))), (some 55), none⟩])
 [0, 1, 4, 55]
 (.cond (.t 55) (.seq (.reg [⟨.op (.mv (.t 0)), (some 56), none⟩, ⟨.op (.mv (.t 1)), (some 57), none⟩, ⟨.op (.bin .sub 0 (.t 57) (.c (.int .i64 1))), (some 58), none⟩, ⟨.call 18 [(.t 56), (.t 58)], (some 59), none⟩, ⟨.op (.bslice 6 1 [(.int .i64 0), (.int .i64 0), (.int .i64 0), (.int .i64 0), (.str []), (.sl none 0)] [(0, 6, (.t 59))]), (some 60), none⟩, ⟨.op (.build [(.int .i64 0), (.int .i64 0), (.int .i64 0), (.int .i64 0), (.str []), (.sl none 0)] [(0, 1, (.c (.int .i64 7))), (5, 1, (.t 60))]), (some 61), none⟩, ⟨.op (.st 6 (.t 4) (.t 61)), none, none⟩])
 [4]
 (.ret)) (.skip)))
 [0, 1, 4]
 (.seq (.reg [⟨.op (.mv (.t 0)), (some 62), none⟩, ⟨.call 39 [(.t 62), (.c (.int .i64 2))], (some 63), none⟩, ⟨.op (.bin .add 0 (.c (.int .i64 5)) (.t 63)), (some 64), none⟩, ⟨.op (.mv (.t 0)), (some 65), none⟩, ⟨.op (.mv (.t 1)), (some 66), none⟩, ⟨.op (.bin .sub 0 (.t 66) (.c (.int .i64 1))), (some 67), none⟩, ⟨.call 18 [(.t 65), (.t 67)], (some 68), none⟩, ⟨.op (.mv (.t 0)), (some 69), none⟩, ⟨.op (.mv (.t 1)), (some 70), none⟩, ⟨.op (.bin .sub 0 (.t 70) (.c (.int .i64 1))), (some 71), none⟩, ⟨.call 18 [(.t 69), (.t 71)], (some 72), none⟩, ⟨.op (.bslice 6 2 [(.int .i64 0), (.int .i64 0), (.int .i64 0), (.int .i64 0), (.str []), (.sl none 0), (.int .i64 0), (.int .i64 0), (.int .i64 0), (.int .i64 0), (.str []), (.sl none 0)] [(0, 6, (.t 68)), (6, 6, (.t 72))]), (some 73), none⟩, ⟨.op (.build [(.int .i64 0), (.int .i64 0), (.int .i64 0), (.int .i64 0), (.str []), (.sl none 0)] [(0, 1, (.t 64)), (5, 1, (.t 73))]), (some 74), none⟩, ⟨.op (.st 6 (.t 4) (.t 74)), none, none⟩])
 [4]
 (.ret)))),
 [.celln 6 4]⟩
theorem k18 : cFn Try.prog 18 = some c18.toE := by kernel_rfl
theorem w18 : c18.body.wf = true := by kernel_rfl
/-- (*cardamom/cardamomplay.Picks).Num -/
noncomputable def c39 : DFn := ⟨40, .vars,
 .seq (.reg [⟨.op (.mv (.c (.int .i64 0))), (some 4), none⟩])
 [0, 1]
 (.seq (.seq (.drw [⟨⟨.op (.mv (.t 0)), (some 5), none⟩, .n, []⟩, ⟨⟨.op (.nilchk (.t 5)), (some 6), none⟩, .n, []⟩, ⟨⟨.op (.fa 1 (.t 6)), (some 7), none⟩, .n, []⟩, ⟨⟨.op (.ld1 (.t 7)), (some 8), none⟩, .n, []⟩, ⟨⟨.op (.mv (.t 0)), (some 9), none⟩, .n, []⟩, ⟨⟨.op (.nilchk (.t 9)), (some 10), none⟩, .n, []⟩, ⟨⟨.op (.fa 0 (.t 10)), (some 11), none⟩, .n, []⟩, ⟨⟨.op (.ld1 (.t 11)), (some 12), none⟩, .n, []⟩, ⟨⟨.op (.len (.t 12)), (some 13), none⟩, .n, []⟩, ⟨⟨.op (.bin .geq 0 (.t 8) (.t 13)), (some 14), none⟩, .n, []⟩, ⟨⟨.op (.mv (.t 14)), (some 15), none⟩, .n, []⟩, ⟨⟨.op (.mv (.t 1)), (some 16), (some (15, false))⟩, .n, []⟩, ⟨⟨.op (.bin .lss 0 (.t 16) (.c (.int .i64 1))), (some 17), (some (15, false))⟩, .n, []⟩, ⟨⟨.op (.pick (.t 15) (.c (.bool true)) (.t 17)), (some 18), none⟩, .n, []⟩])
 [0, 1, 18]
 (.cond (.t 18) (.seq (.reg [⟨.op (.mv (.c (.int .i64 0))), (some 4), none⟩])
 [4]
 (.ret)) (.skip)))
 [0, 1]
 (.seq (.reg [⟨.op (.mv (.t 0)), (some 19), none⟩, ⟨.op (.nilchk (.t 19)), (some 20), none⟩, ⟨.op (.fa 1 (.t 20)), (some 21), none⟩, ⟨.op (.ld1 (.t 21)), (some 22), none⟩, ⟨.op (.bin .add 0 (.t 22) (.c (.int .i64 1))), (some 23), none⟩, ⟨.op (.nilchk (.t 19)), (some 24), none⟩, ⟨.op (.fa 1 (.t 24)), (some 25), none⟩, ⟨.op (.st 1 (.t 25) (.t 23)), none, none⟩])
 [0, 1]
 (.seq (.drw [⟨⟨.op (.mv (.t 0)), (some 26), none⟩, .n, []⟩, ⟨⟨.op (.nilchk (.t 26)), (some 27), none⟩, .n, []⟩, ⟨⟨.op (.fa 0 (.t 27)), (some 28), none⟩, .n, []⟩, ⟨⟨.op (.ld1 (.t 28)), (some 29), none⟩, .n, []⟩, ⟨⟨.op (.mv (.t 0)), (some 30), none⟩, .n, []⟩, ⟨⟨.op (.nilchk (.t 30)), (some 31), none⟩, .n, []⟩, ⟨⟨.op (.fa 1 (.t 31)), (some 32), none⟩, .n, []⟩, ⟨⟨.op (.ld1 (.t 32)), (some 33), none⟩, .n, []⟩, ⟨⟨.op (.bin .sub 0 (.t 33) (.c (.int .i64 1))), (some 34), none⟩, .n, []⟩, ⟨⟨.op (.ia 1 none (.t 29) (.t 34)), (some 35), none⟩, .n, []⟩, ⟨⟨.op (.ld1 (.t 35)), (some 36), none⟩, .n, []⟩, ⟨⟨.op (.conv .i64 (.t 36)), (some 37), none⟩, .n, []⟩, ⟨⟨.op (.mv (.t 1)), (some 38), none⟩, .n, []⟩, ⟨⟨.op (.bin .rem 0 (.t 37) (.t 38)), (some 39), none⟩, .n, []⟩, ⟨⟨.op (.mv (.t 39)), (some 4), none⟩, .x, []⟩])
 [4]
 (.ret)))),
 [.tmp 4]⟩
theorem k39 : cFn Try.prog 39 = some c39.toE := by kernel_rfl
theorem w39 : c39.body.wf = true := by kernel_rfl
/-- (*cardamom/cardamomplay.Picks).Stamp -/
noncomputable def c40 : DFn := ⟨18, .vars,
 .seq (.reg [⟨.op (.new [(.int .i64 0), (.int .i64 0), (.int .i64 0)]), (some 2), none⟩])
 [0, 2]
 (.seq (.reg [⟨.op (.mv (.t 0)), (some 4), none⟩, ⟨.call 39 [(.t 4), (.c (.int .i64 9))], (some 5), none⟩, ⟨.op (.bin .add 0 (.c (.int .i64 1)) (.t 5)), (some 6), none⟩, ⟨.op (.mv (.t 0)), (some 7), none⟩, ⟨.call 39 [(.t 7), (.c (.int .i64 3))], (some 8), none⟩, ⟨.op (.bin .add 0 (.c (.int .i64 1)) (.t 8)), (some 9), none⟩, ⟨.op (.build [(.int .i64 0), (.int .i64 0), (.int .i64 0)] [(0, 1, (.t 6)), (1, 1, (.t 9))]), (some 10), none⟩, ⟨.op (.new [(.int .i64 0), (.int .i64 0), (.int .i64 0)]), (some 3), none⟩, ⟨.op (.st 3 (.t 3) (.t 10)), none, none⟩])
 [0, 2, 3]
 (.seq (.reg [⟨.op (.mv (.t 0)), (some 11), none⟩, ⟨.op (.fa 0 (.t 3)), (some 12), none⟩, ⟨.op (.ld1 (.t 12)), (some 13), none⟩, ⟨.call 39 [(.t 11), (.t 13)], (some 14), none⟩, ⟨.op (.bin .add 0 (.c (.int .i64 1)) (.t 14)), (some 15), none⟩, ⟨.op (.fa 2 (.t 3)), (some 16), none⟩, ⟨.op (.st 1 (.t 16) (.t 15)), none, none⟩])
 [2, 3]
 (.seq (.reg [⟨.op (.ldn 3 (.t 3)), (some 17), none⟩, ⟨.op (.st 3 (.t 2) (.t 17)), none, none⟩])
 [2]
 (.ret)))),
 [.celln 3 2]⟩
theorem k40 : cFn Try.prog 40 = some c40.toE := by kernel_rfl
theorem w40 : c40.body.wf = true := by kernel_rfl
noncomputable def l54_0 : DC :=
 .seq (.seq (.reg [⟨.op (.mv (.t 4)), (some 5), none⟩, ⟨.op (.bin .lss 0 (.t 5) (.c (.int .i64 4))), (some 6), none⟩, ⟨.op (.mv (.t 6)), (some 7), none⟩, ⟨.op (.mv (.t 3)), (some 8), (some (7, true))⟩, ⟨.op (.len (.t 8)), (some 9), (some (7, true))⟩, ⟨.op (.bin .lss 0 (.t 9) (.c (.int .i64 3))), (some 10), (some (7, true))⟩, ⟨.op (.pick (.t 7) (.t 10) (.c (.bool false))), (some 11), none⟩])
 [0, 3, 4, 11]
 (.cond (.t 11) (.skip) (.exit 0)))
 [0, 3, 4]
 (.seq (.block 1 (.seq (.reg [⟨.op (.mv (.t 0)), (some 14), none⟩, ⟨.call 39 [(.t 14), (.c (.int .i64 2))], (some 15), none⟩, ⟨.op (.bin .eql 0 (.t 15) (.c (.int .i64 0))), (some 16), none⟩])
 [0, 3, 4, 16]
 (.cond (.t 16) (.reg [⟨.op (.mv (.t 3)), (some 17), none⟩, ⟨.op (.mv (.t 4)), (some 18), none⟩, ⟨.op (.bslice 1 6 [(.int .i64 0), (.int .i64 0), (.int .i64 0), (.int .i64 0), (.int .i64 0), (.int .i64 0)] [(0, 1, (.c (.int .i64 0))), (1, 1, (.c (.int .i64 1))), (2, 1, (.c (.int .i64 5))), (3, 1, (.c (.int .i64 7))), (4, 1, (.c (.int .i64 50))), (5, 1, (.c (.int .i64 99)))]), (some 19), none⟩, ⟨.op (.mv (.t 0)), (some 20), none⟩, ⟨.call 39 [(.t 20), (.c (.int .i64 6))], (some 21), none⟩, ⟨.op (.ia 1 none (.t 19) (.t 21)), (some 22), none⟩, ⟨.op (.ld1 (.t 22)), (some 23), none⟩, ⟨.op (.build [(.int .i64 0), (.int .i64 0)] [(0, 1, (.t 18)), (1, 1, (.t 23))]), (some 24), none⟩, ⟨.op (.bslice 2 1 [(.int .i64 0), (.int .i64 0)] [(0, 2, (.t 24))]), (some 25), none⟩, ⟨.op (.app 2 16 false (.t 17) (.t 25)), (some 26), none⟩, ⟨.op (.mv (.t 26)), (some 3), none⟩]) (.skip))))
 [0, 3, 4]
 (.reg [⟨.op (.mv (.t 4)), (some 12), none⟩, ⟨.op (.bin .add 0 (.t 12) (.c (.int .i64 1))), (some 13), none⟩, ⟨.op (.mv (.t 13)), (some 4), none⟩]))
theorem u54_0 (call : DCall) (T : Tm) (st : Dv.St) : dCw Try.prog call l54_0 T st = dCw Try.prog call
 (.seq (.seq (.reg [⟨.op (.mv (.t 4)), (some 5), none⟩, ⟨.op (.bin .lss 0 (.t 5) (.c (.int .i64 4))), (some 6), none⟩, ⟨.op (.mv (.t 6)), (some 7), none⟩, ⟨.op (.mv (.t 3)), (some 8), (some (7, true))⟩, ⟨.op (.len (.t 8)), (some 9), (some (7, true))⟩, ⟨.op (.bin .lss 0 (.t 9) (.c (.int .i64 3))), (some 10), (some (7, true))⟩, ⟨.op (.pick (.t 7) (.t 10) (.c (.bool false))), (some 11), none⟩])
 [0, 3, 4, 11]
 (.cond (.t 11) (.skip) (.exit 0)))
 [0, 3, 4]
 (.seq (.block 1 (.seq (.reg [⟨.op (.mv (.t 0)), (some 14), none⟩, ⟨.call 39 [(.t 14), (.c (.int .i64 2))], (some 15), none⟩, ⟨.op (.bin .eql 0 (.t 15) (.c (.int .i64 0))), (some 16), none⟩])
 [0, 3, 4, 16]
 (.cond (.t 16) (.reg [⟨.op (.mv (.t 3)), (some 17), none⟩, ⟨.op (.mv (.t 4)), (some 18), none⟩, ⟨.op (.bslice 1 6 [(.int .i64 0), (.int .i64 0), (.int .i64 0), (.int .i64 0), (.int .i64 0), (.int .i64 0)] [(0, 1, (.c (.int .i64 0))), (1, 1, (.c (.int .i64 1))), (2, 1, (.c (.int .i64 5))), (3, 1, (.c (.int .i64 7))), (4, 1, (.c (.int .i64 50))), (5, 1, (.c (.int .i64 99)))]), (some 19), none⟩, ⟨.op (.mv (.t 0)), (some 20), none⟩, ⟨.call 39 [(.t 20), (.c (.int .i64 6))], (some 21), none⟩, ⟨.op (.ia 1 none (.t 19) (.t 21)), (some 22), none⟩, ⟨.op (.ld1 (.t 22)), (some 23), none⟩, ⟨.op (.build [(.int .i64 0), (.int .i64 0)] [(0, 1, (.t 18)), (1, 1, (.t 23))]), (some 24), none⟩, ⟨.op (.bslice 2 1 [(.int .i64 0), (.int .i64 0)] [(0, 2, (.t 24))]), (some 25), none⟩, ⟨.op (.app 2 16 false (.t 17) (.t 25)), (some 26), none⟩, ⟨.op (.mv (.t 26)), (some 3), none⟩]) (.skip))))
 [0, 3, 4]
 (.reg [⟨.op (.mv (.t 4)), (some 12), none⟩, ⟨.op (.bin .add 0 (.t 12) (.c (.int .i64 1))), (some 13), none⟩, ⟨.op (.mv (.t 13)), (some 4), none⟩]))) T st := rfl
/-- (*cardamom/cardamomplay.Picks).Attrs -/
noncomputable def c54 : DFn := ⟨28, .vars,
 .seq (.reg [⟨.op (.mv (.c (.sl none 0))), (some 2), none⟩])
 [0]
 (.seq (.reg [⟨.op (.mv (.c (.sl none 0))), (some 3), none⟩])
 [0, 3]
 (.seq (.seq (.reg [⟨.op (.mv (.c (.int .i64 0))), (some 4), none⟩])
 [0, 3, 4]
 (.block 0 (.loop [0, 3, 4] (l54_0))))
 [3]
 (.seq (.reg [⟨.op (.mv (.t 3)), (some 27), none⟩, ⟨.op (.mv (.t 27)), (some 2), none⟩])
 [2]
 (.ret)))),
 [.tmp 2]⟩
theorem k54 : cFn Try.prog 54 = some c54.toE := by kernel_rfl
theorem w54 : c54.body.wf = true := by kernel_rfl
/-- (*cardamom/cardamomplay.Picks).Tag -/
noncomputable def c55 : DFn := ⟨8, .vars,
 .seq (.reg [⟨.op (.mv (.c (.str []))), (some 2), none⟩])
 [0]
 (.seq (.reg [⟨.op (.bslice 1 6 [(.str []), (.str []), (.str []), (.str []), (.str []), (.str [])] [(0, 1, (.c (.str []))), (1, 1, (.c (.str [97]))), (2, 1, (.c (.str [97, 98]))), (3, 1, (.c (.str [97, 98, 99]))), (4, 1, (.c (.str [98]))), (5, 1, (.c (.str [98, 97])))]), (some 3), none⟩, ⟨.op (.mv (.t 0)), (some 4), none⟩, ⟨.call 39 [(.t 4), (.c (.int .i64 6))], (some 5), none⟩, ⟨.op (.ia 1 none (.t 3) (.t 5)), (some 6), none⟩, ⟨.op (.ld1 (.t 6)), (some 7), none⟩, ⟨.op (.mv (.t 7)), (some 2), none⟩])
 [2]
 (.ret)),
 [.tmp 2]⟩
theorem k55 : cFn Try.prog 55 = some c55.toE := by kernel_rfl
theorem w55 : c55.body.wf = true := by kernel_rfl
/-- (*cardamom/cardamomplay.Picks).Over -/
noncomputable def c68 : DFn := ⟨13, .vars,
 .seq (.reg [⟨.op (.mv (.c (.bool false))), (some 2), none⟩])
 [0]
 (.seq (.drw [⟨⟨.op (.mv (.t 0)), (some 3), none⟩, .n, []⟩, ⟨⟨.op (.nilchk (.t 3)), (some 4), none⟩, .n, []⟩, ⟨⟨.op (.fa 1 (.t 4)), (some 5), none⟩, .n, []⟩, ⟨⟨.op (.ld1 (.t 5)), (some 6), none⟩, .n, []⟩, ⟨⟨.op (.mv (.t 0)), (some 7), none⟩, .n, []⟩, ⟨⟨.op (.nilchk (.t 7)), (some 8), none⟩, .n, []⟩, ⟨⟨.op (.fa 0 (.t 8)), (some 9), none⟩, .n, []⟩, ⟨⟨.op (.ld1 (.t 9)), (some 10), none⟩, .n, []⟩, ⟨⟨.op (.len (.t 10)), (some 11), none⟩, .n, []⟩, ⟨⟨.op (.bin .geq 0 (.t 6) (.t 11)), (some 12), none⟩, .n, []⟩, ⟨⟨.op (.mv (.t 12)), (some 2), none⟩, .x, []⟩])
 [2]
 (.ret)),
 [.tmp 2]⟩
theorem k68 : cFn Try.prog 68 = some c68.toE := by kernel_rfl
theorem w68 : c68.body.wf = true := by kernel_rfl
noncomputable def l20_0 : DC :=
 .seq (.seq (.reg [⟨.op (.mv (.t 6)), (some 7), none⟩, ⟨.op (.mv (.t 0)), (some 8), none⟩, ⟨.op (.len (.t 8)), (some 9), none⟩, ⟨.op (.bin .lss 0 (.t 7) (.t 9)), (some 10), none⟩])
 [0, 1, 4, 6, 10]
 (.cond (.t 10) (.skip) (.exit 0)))
 [0, 1, 4, 6]
 (.seq (.block 1 (.seq (.reg [⟨.op (.mv (.t 0)), (some 13), none⟩, ⟨.op (.mv (.t 6)), (some 14), none⟩, ⟨.op (.ia 8 none (.t 13) (.t 14)), (some 15), none⟩, ⟨.op (.fa 0 (.t 15)), (some 16), none⟩, ⟨.op (.ld1 (.t 16)), (some 17), none⟩, ⟨.op (.mv (.t 1)), (some 18), none⟩, ⟨.op (.bin .eql 0 (.t 17) (.t 18)), (some 19), none⟩])
 [0, 1, 4, 6, 19]
 (.cond (.t 19) (.seq (.reg [⟨.op (.mv (.t 0)), (some 20), none⟩, ⟨.op (.mv (.t 6)), (some 21), none⟩, ⟨.op (.ia 8 none (.t 20) (.t 21)), (some 22), none⟩, ⟨.op (.ldn 8 (.t 22)), (some 23), none⟩, ⟨.op (.st 8 (.t 4) (.t 23)), none, none⟩, ⟨.op (.mv (.c (.bool true))), (some 5), none⟩])
 [4, 5]
 (.ret)) (.skip))))
 [0, 1, 4, 6]
 (.reg [⟨.op (.mv (.t 6)), (some 11), none⟩, ⟨.op (.bin .add 0 (.t 11) (.c (.int .i64 1))), (some 12), none⟩, ⟨.op (.mv (.t 12)), (some 6), none⟩]))
theorem u20_0 (call : DCall) (T : Tm) (st : Dv.St) : dCw Try.prog call l20_0 T st = dCw Try.prog call
 (.seq (.seq (.reg [⟨.op (.mv (.t 6)), (some 7), none⟩, ⟨.op (.mv (.t 0)), (some 8), none⟩, ⟨.op (.len (.t 8)), (some 9), none⟩, ⟨.op (.bin .lss 0 (.t 7) (.t 9)), (some 10), none⟩])
 [0, 1, 4, 6, 10]
 (.cond (.t 10) (.skip) (.exit 0)))
 [0, 1, 4, 6]
 (.seq (.block 1 (.seq (.reg [⟨.op (.mv (.t 0)), (some 13), none⟩, ⟨.op (.mv (.t 6)), (some 14), none⟩, ⟨.op (.ia 8 none (.t 13) (.t 14)), (some 15), none⟩, ⟨.op (.fa 0 (.t 15)), (some 16), none⟩, ⟨.op (.ld1 (.t 16)), (some 17), none⟩, ⟨.op (.mv (.t 1)), (some 18), none⟩, ⟨.op (.bin .eql 0 (.t 17) (.t 18)), (some 19), none⟩])
 [0, 1, 4, 6, 19]
 (.cond (.t 19) (.seq (.reg [⟨.op (.mv (.t 0)), (some 20), none⟩, ⟨.op (.mv (.t 6)), (some 21), none⟩, ⟨.op (.ia 8 none (.t 20) (.t 21)), (some 22), none⟩, ⟨.op (.ldn 8 (.t 22)), (some 23), none⟩, ⟨.op (.st 8 (.t 4) (.t 23)), none, none⟩, ⟨.op (.mv (.c (.bool true))), (some 5), none⟩])
 [4, 5]
 (.ret)) (.skip))))
 [0, 1, 4, 6]
 (.reg [⟨.op (.mv (.t 6)), (some 11), none⟩, ⟨.op (.bin .add 0 (.t 11) (.c (.int .i64 1))), (some 12), none⟩, ⟨.op (.mv (.t 12)), (some 6), none⟩]))) T st := rfl
/-- cardamom/cardamomref1.Find -/
noncomputable def c20 : DFn := ⟨25, .pure,
 .seq (.reg [⟨.op (.new [(.int .i64 0), (.int .i64 0), (.int .i64 0), (.int .i64 0), (.bool false), (.sl none 0), (.str []), (.str [])]), (some 4), none⟩, ⟨.op (.mv (.c (.bool false))), (some 5), none⟩])
 [0, 1, 4]
 (.seq (.seq (.reg [⟨.op (.mv (.c (.int .i64 0))), (some 6), none⟩])
 [0, 1, 4, 6]
 (.block 0 (.loop [0, 1, 4, 6] (l20_0))))
 [4]
 (.seq (.reg [⟨.op (.build [(.int .i64 0), (.int .i64 0), (.int .i64 0), (.int .i64 0), (.bool false), (.sl none 0), (.str []), (.str [])] []), (some 24), none⟩, ⟨.op (.st 8 (.t 4) (.t 24)), none, none⟩, ⟨.op (.mv (.c (.bool false))), (some 5), none⟩])
 [4, 5]
 (.ret))),
 [.celln 8 4, .tmp 5]⟩
theorem k20 : cFn Try.prog 20 = some c20.toE := by kernel_rfl
theorem w20 : c20.body.wf = true := by kernel_rfl
noncomputable def l21_0 : DC :=
 .seq (.seq (.reg [⟨.op (.mv (.t 5)), (some 48), none⟩, ⟨.op (.fa 5 (.t 2)), (some 49), none⟩, ⟨.op (.ld1 (.t 49)), (some 50), none⟩, ⟨.op (.len (.t 50)), (some 51), none⟩, ⟨.op (.bin .lss 0 (.t 48) (.t 51)), (some 52), none⟩])
 [2, 3, 5, 52]
 (.cond (.t 52) (.skip) (.exit 0)))
 [2, 3, 5]
 (.seq (.block 1 (.seq (.drw [⟨⟨.op (.fa 5 (.t 2)), (some 55), none⟩, .n, []⟩, ⟨⟨.op (.ld1 (.t 55)), (some 56), none⟩, .n, []⟩, ⟨⟨.op (.mv (.t 5)), (some 57), none⟩, .n, []⟩, ⟨⟨.op (.ia 2 none (.t 56) (.t 57)), (some 58), none⟩, .n, []⟩, ⟨⟨.op (.ldn 2 (.t 58)), (some 59), none⟩, .n, []⟩, ⟨⟨.op (.fa 5 (.t 3)), (some 60), none⟩, .n, []⟩, ⟨⟨.op (.ld1 (.t 60)), (some 61), none⟩, .n, []⟩, ⟨⟨.op (.mv (.t 5)), (some 62), none⟩, .n, []⟩, ⟨⟨.op (.ia 2 none (.t 61) (.t 62)), (some 63), none⟩, .n, []⟩, ⟨⟨.op (.ldn 2 (.t 63)), (some 64), none⟩, .n, []⟩, ⟨⟨.op (.slow (operAt Try.prog 21 62)), (some 65), none⟩, .n, []⟩])
 [2, 3, 5, 65]
 (.cond (.t 65) (.seq (.reg [⟨.op (.mv (.c (.bool false))), (some 4), none⟩])
 [4]
 (.ret)) (.skip))))
 [2, 3, 5]
 (.reg [⟨.op (.mv (.t 5)), (some 53), none⟩, ⟨.op (.bin .add 0 (.t 53) (.c (.int .i64 1))), (some 54), none⟩, ⟨.op (.mv (.t 54)), (some 5), none⟩]))
theorem u21_0 (call : DCall) (T : Tm) (st : Dv.St) : dCw Try.prog call l21_0 T st = dCw Try.prog call
 (.seq (.seq (.reg [⟨.op (.mv (.t 5)), (some 48), none⟩, ⟨.op (.fa 5 (.t 2)), (some 49), none⟩, ⟨.op (.ld1 (.t 49)), (some 50), none⟩, ⟨.op (.len (.t 50)), (some 51), none⟩, ⟨.op (.bin .lss 0 (.t 48) (.t 51)), (some 52), none⟩])
 [2, 3, 5, 52]
 (.cond (.t 52) (.skip) (.exit 0)))
 [2, 3, 5]
 (.seq (.block 1 (.seq (.drw [⟨⟨.op (.fa 5 (.t 2)), (some 55), none⟩, .n, []⟩, ⟨⟨.op (.ld1 (.t 55)), (some 56), none⟩, .n, []⟩, ⟨⟨.op (.mv (.t 5)), (some 57), none⟩, .n, []⟩, ⟨⟨.op (.ia 2 none (.t 56) (.t 57)), (some 58), none⟩, .n, []⟩, ⟨⟨.op (.ldn 2 (.t 58)), (some 59), none⟩, .n, []⟩, ⟨⟨.op (.fa 5 (.t 3)), (some 60), none⟩, .n, []⟩, ⟨⟨.op (.ld1 (.t 60)), (some 61), none⟩, .n, []⟩, ⟨⟨.op (.mv (.t 5)), (some 62), none⟩, .n, []⟩, ⟨⟨.op (.ia 2 none (.t 61) (.t 62)), (some 63), none⟩, .n, []⟩, ⟨⟨.op (.ldn 2 (.t 63)), (some 64), none⟩, .n, []⟩, ⟨⟨.op (.slow (operAt Try.prog 21 62)), (some 65), none⟩, .n, []⟩])
 [2, 3, 5, 65]
 (.cond (.t 65) (.seq (.reg [⟨.op (.mv (.c (.bool false))), (some 4), none⟩])
 [4]
 (.ret)) (.skip))))
 [2, 3, 5]
 (.reg [⟨.op (.mv (.t 5)), (some 53), none⟩, ⟨.op (.bin .add 0 (.t 53) (.c (.int .i64 1))), (some 54), none⟩, ⟨.op (.mv (.t 54)), (some 5), none⟩]))) T st := rfl
/-- cardamom/cardamomref1.Same -/
noncomputable def c21 : DFn := ⟨66, .pure,
 .seq (.reg [⟨.op (.box (.t 0)), (some 2), none⟩, ⟨.op (.box (.t 1)), (some 3), none⟩, ⟨.op (.mv (.c (.bool false))), (some 4), none⟩])
 [2, 3]
 (.seq (.seq (.reg [⟨.op (.fa 0 (.t 2)), (some 6), none⟩, ⟨.op (.ld1 (.t 6)), (some 7), none⟩, ⟨.op (.fa 0 (.t 3)), (some 8), none⟩, ⟨.op (.ld1 (.t 8)), (some 9), none⟩, ⟨.op (.bin .neq 0 (.t 7) (.t 9)), (some 10), none⟩, ⟨.op (.mv (.t 10)), (some 11), none⟩, ⟨.op (.fa 1 (.t 2)), (some 12), (some (11, false))⟩, ⟨.op (.ldn 3 (.t 12)), (some 13), (some (11, false))⟩, ⟨.op (.fa 1 (.t 3)), (some 14), (some (11, false))⟩, ⟨.op (.ldn 3 (.t 14)), (some 15), (some (11, false))⟩, ⟨.op (.slow (operAt Try.prog 21 13)), (some 16), (some (11, false))⟩, ⟨.op (.pick (.t 11) (.c (.bool true)) (.t 16)), (some 17), none⟩, ⟨.op (.mv (.t 17)), (some 18), none⟩, ⟨.op (.fa 4 (.t 2)), (some 19), (some (18, false))⟩, ⟨.op (.ld1 (.t 19)), (some 20), (some (18, false))⟩, ⟨.op (.fa 4 (.t 3)), (some 21), (some (18, false))⟩, ⟨.op (.ld1 (.t 21)), (some 22), (some (18, false))⟩, ⟨.op (.bin .neq 5 (.t 20) (.t 22)), (some 23), (some (18, false))⟩, ⟨.op (.pick (.t 18) (.c (.bool true)) (.t 23)), (some 24), none⟩, ⟨.op (.mv (.t 24)), (some 25), none⟩, ⟨.op (.fa 6 (.t 2)), (some 26), (some (25, false))⟩, ⟨.op (.ld1 (.t 26)), (some 27), (some (25, false))⟩, ⟨.op (.fa 6 (.t 3)), (some 28), (some (25, false))⟩, ⟨.op (.ld1 (.t 28)), (some 29), (some (25, false))⟩, ⟨.op (.bin .neq 0 (.t 27) (.t 29)), (some 30), (some (25, false))⟩, ⟨.op (.pick (.t 25) (.c (.bool true)) (.t 30)), (some 31), none⟩, ⟨.op (.mv (.t 31)), (some 32), none⟩, ⟨.op (.fa 7 (.t 2)), (some 33), (some (32, false))⟩, ⟨.op (.ld1 (.t 33)), (some 34), (some (32, false))⟩, ⟨.op (.fa 7 (.t 3)), (some 35), (some (32, false))⟩, ⟨.op (.ld1 (.t 35)), (some 36), (some (32, false))⟩, ⟨.op (.bin .neq 0 (.t 34) (.t 36)), (some 37), (some (32, false))⟩, ⟨.op (.pick (.t 32) (.c (.bool true)) (.t 37)), (some 38), none⟩, ⟨.op (.mv (.t 38)), (some 39), none⟩, ⟨.op (.fa 5 (.t 2)), (some 40), (some (39, false))⟩, ⟨.op (.ld1 (.t 40)), (some 41), (some (39, false))⟩, ⟨.op (.len (.t 41)), (some 42), (some (39, false))⟩, ⟨.op (.fa 5 (.t 3)), (some 43), (some (39, false))⟩, ⟨.op (.ld1 (.t 43)), (some 44), (some (39, false))⟩, ⟨.op (.len (.t 44)), (some 45), (some (39, false))⟩, ⟨.op (.bin .neq 0 (.t 42) (.t 45)), (some 46), (some (39, false))⟩, ⟨.op (.pick (.t 39) (.c (.bool true)) (.t 46)), (some 47), none⟩])
 [2, 3, 47]
 (.cond (.t 47) (.seq (.reg [⟨.op (.mv (.c (.bool false))), (some 4), none⟩])
 [4]
 (.ret)) (.skip)))
 [2, 3]
 (.seq (.seq (.reg [⟨.op (.mv (.c (.int .i64 0))), (some 5), none⟩])
 [2, 3, 5]
 (.block 0 (.loop [2, 3, 5] (l21_0))))
 []
 (.seq (.reg [⟨.op (.mv (.c (.bool true))), (some 4), none⟩])
 [4]
 (.ret)))),
 [.tmp 4]⟩
theorem k21 : cFn Try.prog 21 = some c21.toE := by kernel_rfl
theorem w21 : c21.body.wf = true := by kernel_rfl
noncomputable def l22_0 : DC :=
 .seq (.seq (.reg [⟨.op (.mv (.t 5)), (some 11), none⟩, ⟨.op (.mv (.t 0)), (some 12), none⟩, ⟨.op (.len (.t 12)), (some 13), none⟩, ⟨.op (.bin .lss 0 (.t 11) (.t 13)), (some 14), none⟩])
 [0, 1, 5, 14]
 (.cond (.t 14) (.skip) (.exit 0)))
 [0, 1, 5]
 (.seq (.block 1 (.seq (.drw [⟨⟨.op (.mv (.t 0)), (some 17), none⟩, .n, []⟩, ⟨⟨.op (.mv (.t 5)), (some 18), none⟩, .n, []⟩, ⟨⟨.op (.ia 8 none (.t 17) (.t 18)), (some 19), none⟩, .n, []⟩, ⟨⟨.op (.ldn 8 (.t 19)), (some 20), none⟩, .n, []⟩, ⟨⟨.op (.mv (.t 1)), (some 21), none⟩, .n, []⟩, ⟨⟨.op (.mv (.t 5)), (some 22), none⟩, .n, []⟩, ⟨⟨.op (.ia 8 none (.t 21) (.t 22)), (some 23), none⟩, .n, []⟩, ⟨⟨.op (.ldn 8 (.t 23)), (some 24), none⟩, .n, []⟩, ⟨⟨.call 21 [(.t 20), (.t 24)], (some 25), none⟩, .x, []⟩, ⟨⟨.op (.not (.t 25)), (some 26), none⟩, .n, []⟩])
 [0, 1, 5, 26]
 (.cond (.t 26) (.seq (.reg [⟨.op (.mv (.c (.bool false))), (some 4), none⟩])
 [4]
 (.ret)) (.skip))))
 [0, 1, 5]
 (.reg [⟨.op (.mv (.t 5)), (some 15), none⟩, ⟨.op (.bin .add 0 (.t 15) (.c (.int .i64 1))), (some 16), none⟩, ⟨.op (.mv (.t 16)), (some 5), none⟩]))
theorem u22_0 (call : DCall) (T : Tm) (st : Dv.St) : dCw Try.prog call l22_0 T st = dCw Try.prog call
 (.seq (.seq (.reg [⟨.op (.mv (.t 5)), (some 11), none⟩, ⟨.op (.mv (.t 0)), (some 12), none⟩, ⟨.op (.len (.t 12)), (some 13), none⟩, ⟨.op (.bin .lss 0 (.t 11) (.t 13)), (some 14), none⟩])
 [0, 1, 5, 14]
 (.cond (.t 14) (.skip) (.exit 0)))
 [0, 1, 5]
 (.seq (.block 1 (.seq (.drw [⟨⟨.op (.mv (.t 0)), (some 17), none⟩, .n, []⟩, ⟨⟨.op (.mv (.t 5)), (some 18), none⟩, .n, []⟩, ⟨⟨.op (.ia 8 none (.t 17) (.t 18)), (some 19), none⟩, .n, []⟩, ⟨⟨.op (.ldn 8 (.t 19)), (some 20), none⟩, .n, []⟩, ⟨⟨.op (.mv (.t 1)), (some 21), none⟩, .n, []⟩, ⟨⟨.op (.mv (.t 5)), (some 22), none⟩, .n, []⟩, ⟨⟨.op (.ia 8 none (.t 21) (.t 22)), (some 23), none⟩, .n, []⟩, ⟨⟨.op (.ldn 8 (.t 23)), (some 24), none⟩, .n, []⟩, ⟨⟨.call 21 [(.t 20), (.t 24)], (some 25), none⟩, .x, []⟩, ⟨⟨.op (.not (.t 25)), (some 26), none⟩, .n, []⟩])
 [0, 1, 5, 26]
 (.cond (.t 26) (.seq (.reg [⟨.op (.mv (.c (.bool false))), (some 4), none⟩])
 [4]
 (.ret)) (.skip))))
 [0, 1, 5]
 (.reg [⟨.op (.mv (.t 5)), (some 15), none⟩, ⟨.op (.bin .add 0 (.t 15) (.c (.int .i64 1))), (some 16), none⟩, ⟨.op (.mv (.t 16)), (some 5), none⟩]))) T st := rfl
/-- cardamom/cardamomref1.SameAll -/
noncomputable def c22 : DFn := ⟨27, .pure,
 .seq (.reg [⟨.op (.mv (.c (.bool false))), (some 4), none⟩])
 [0, 1]
 (.seq (.seq (.reg [⟨.op (.mv (.t 0)), (some 6), none⟩, ⟨.op (.len (.t 6)), (some 7), none⟩, ⟨.op (.mv (.t 1)), (some 8), none⟩, ⟨.op (.len (.t 8)), (some 9), none⟩, ⟨.op (.bin .neq 0 (.t 7) (.t 9)), (some 10), none⟩])
 [0, 1, 10]
 (.cond (.t 10) (.seq (.reg [⟨.op (.mv (.c (.bool false))), (some 4), none⟩])
 [4]
 (.ret)) (.skip)))
 [0, 1]
 (.seq (.seq (.reg [⟨.op (.mv (.c (.int .i64 0))), (some 5), none⟩])
 [0, 1, 5]
 (.block 0 (.loop [0, 1, 5] (l22_0))))
 []
 (.seq (.reg [⟨.op (.mv (.c (.bool true))), (some 4), none⟩])
 [4]
 (.ret)))),
 [.tmp 4]⟩
theorem k22 : cFn Try.prog 22 = some c22.toE := by kernel_rfl
theorem w22 : c22.body.wf = true := by kernel_rfl
noncomputable def l24_0 : DC :=
 .seq (.seq (.reg [⟨.op (.mv (.t 9)), (some 29), none⟩, ⟨.op (.mv (.t 0)), (some 30), none⟩, ⟨.op (.len (.t 30)), (some 31), none⟩, ⟨.op (.bin .lss 0 (.t 29) (.t 31)), (some 32), none⟩])
 [0, 3, 7, 8, 9, 32]
 (.cond (.t 32) (.skip) (.exit 0)))
 [0, 3, 7, 8, 9]
 (.seq (.block 1 (.seq (.seq (.drw [⟨⟨.op (.mv (.t 8)), (some 35), none⟩, .n, []⟩, ⟨⟨.op (.not (.t 35)), (some 36), none⟩, .n, []⟩, ⟨⟨.op (.mv (.t 36)), (some 37), none⟩, .n, []⟩, ⟨⟨.op (.mv (.t 0)), (some 38), (some (37, true))⟩, .n, []⟩, ⟨⟨.op (.mv (.t 9)), (some 39), (some (37, true))⟩, .n, []⟩, ⟨⟨.op (.ia 8 none (.t 38) (.t 39)), (some 40), (some (37, true))⟩, .n, []⟩, ⟨⟨.op (.fa 0 (.t 40)), (some 41), (some (37, true))⟩, .n, []⟩, ⟨⟨.op (.ld1 (.t 41)), (some 42), (some (37, true))⟩, .n, []⟩, ⟨⟨.op (.fa 0 (.t 3)), (some 43), (some (37, true))⟩, .n, []⟩, ⟨⟨.op (.ld1 (.t 43)), (some 44), (some (37, true))⟩, .n, []⟩, ⟨⟨.op (.bin .geq 0 (.t 42) (.t 44)), (some 45), (some (37, true))⟩, .n, []⟩, ⟨⟨.op (.pick (.t 37) (.t 45) (.c (.bool false))), (some 46), none⟩, .n, []⟩])
 [0, 3, 7, 8, 9, 46]
 (.cond (.t 46) (.reg [⟨.op (.mv (.t 7)), (some 47), none⟩, ⟨.op (.ldn 8 (.t 3)), (some 48), none⟩, ⟨.op (.bslice 8 1 [(.int .i64 0), (.int .i64 0), (.int .i64 0), (.int .i64 0), (.bool false), (.sl none 0), (.str []), (.str [])] [(0, 8, (.t 48))]), (some 49), none⟩, ⟨.op (.app 8 96 false (.t 47) (.t 49)), (some 50), none⟩, ⟨.op (.mv (.t 50)), (some 7), none⟩, ⟨.op (.mv (.c (.bool true))), (some 8), none⟩]) (.skip)))
 [0, 3, 7, 8, 9]
 (.seq (.drw [⟨⟨.op (.mv (.t 0)), (some 51), none⟩, .n, []⟩, ⟨⟨.op (.mv (.t 9)), (some 52), none⟩, .n, []⟩, ⟨⟨.op (.ia 8 none (.t 51) (.t 52)), (some 53), none⟩, .n, []⟩, ⟨⟨.op (.fa 0 (.t 53)), (some 54), none⟩, .n, []⟩, ⟨⟨.op (.ld1 (.t 54)), (some 55), none⟩, .n, []⟩, ⟨⟨.op (.fa 0 (.t 3)), (some 56), none⟩, .n, []⟩, ⟨⟨.op (.ld1 (.t 56)), (some 57), none⟩, .n, []⟩, ⟨⟨.op (.bin .neq 0 (.t 55) (.t 57)), (some 58), none⟩, .n, []⟩])
 [0, 3, 7, 8, 9, 58]
 (.cond (.t 58) (.reg [⟨.op (.mv (.t 7)), (some 59), none⟩, ⟨.op (.mv (.t 0)), (some 60), none⟩, ⟨.op (.mv (.t 9)), (some 61), none⟩, ⟨.op (.ia 8 none (.t 60) (.t 61)), (some 62), none⟩, ⟨.op (.ldn 8 (.t 62)), (some 63), none⟩, ⟨.op (.bslice 8 1 [(.int .i64 0), (.int .i64 0), (.int .i64 0), (.int .i64 0), (.bool false), (.sl none 0), (.str []), (.str [])] [(0, 8, (.t 63))]), (some 64), none⟩, ⟨.op (.app 8 96 false (.t 59) (.t 64)), (some 65), none⟩, ⟨.op (.mv (.t 65)), (some 7), none⟩]) (.skip)))))
 [0, 3, 7, 8, 9]
 (.reg [⟨.op (.mv (.t 9)), (some 33), none⟩, ⟨.op (.bin .add 0 (.t 33) (.c (.int .i64 1))), (some 34), none⟩, ⟨.op (.mv (.t 34)), (some 9), none⟩]))
theorem u24_0 (call : DCall) (T : Tm) (st : Dv.St) : dCw Try.prog call l24_0 T st = dCw Try.prog call
 (.seq (.seq (.reg [⟨.op (.mv (.t 9)), (some 29), none⟩, ⟨.op (.mv (.t 0)), (some 30), none⟩, ⟨.op (.len (.t 30)), (some 31), none⟩, ⟨.op (.bin .lss 0 (.t 29) (.t 31)), (some 32), none⟩])
 [0, 3, 7, 8, 9, 32]
 (.cond (.t 32) (.skip) (.exit 0)))
 [0, 3, 7, 8, 9]
 (.seq (.block 1 (.seq (.seq (.drw [⟨⟨.op (.mv (.t 8)), (some 35), none⟩, .n, []⟩, ⟨⟨.op (.not (.t 35)), (some 36), none⟩, .n, []⟩, ⟨⟨.op (.mv (.t 36)), (some 37), none⟩, .n, []⟩, ⟨⟨.op (.mv (.t 0)), (some 38), (some (37, true))⟩, .n, []⟩, ⟨⟨.op (.mv (.t 9)), (some 39), (some (37, true))⟩, .n, []⟩, ⟨⟨.op (.ia 8 none (.t 38) (.t 39)), (some 40), (some (37, true))⟩, .n, []⟩, ⟨⟨.op (.fa 0 (.t 40)), (some 41), (some (37, true))⟩, .n, []⟩, ⟨⟨.op (.ld1 (.t 41)), (some 42), (some (37, true))⟩, .n, []⟩, ⟨⟨.op (.fa 0 (.t 3)), (some 43), (some (37, true))⟩, .n, []⟩, ⟨⟨.op (.ld1 (.t 43)), (some 44), (some (37, true))⟩, .n, []⟩, ⟨⟨.op (.bin .geq 0 (.t 42) (.t 44)), (some 45), (some (37, true))⟩, .n, []⟩, ⟨⟨.op (.pick (.t 37) (.t 45) (.c (.bool false))), (some 46), none⟩, .n, []⟩])
 [0, 3, 7, 8, 9, 46]
 (.cond (.t 46) (.reg [⟨.op (.mv (.t 7)), (some 47), none⟩, ⟨.op (.ldn 8 (.t 3)), (some 48), none⟩, ⟨.op (.bslice 8 1 [(.int .i64 0), (.int .i64 0), (.int .i64 0), (.int .i64 0), (.bool false), (.sl none 0), (.str []), (.str [])] [(0, 8, (.t 48))]), (some 49), none⟩, ⟨.op (.app 8 96 false (.t 47) (.t 49)), (some 50), none⟩, ⟨.op (.mv (.t 50)), (some 7), none⟩, ⟨.op (.mv (.c (.bool true))), (some 8), none⟩]) (.skip)))
 [0, 3, 7, 8, 9]
 (.seq (.drw [⟨⟨.op (.mv (.t 0)), (some 51), none⟩, .n, []⟩, ⟨⟨.op (.mv (.t 9)), (some 52), none⟩, .n, []⟩, ⟨⟨.op (.ia 8 none (.t 51) (.t 52)), (some 53), none⟩, .n, []⟩, ⟨⟨.op (.fa 0 (.t 53)), (some 54), none⟩, .n, []⟩, ⟨⟨.op (.ld1 (.t 54)), (some 55), none⟩, .n, []⟩, ⟨⟨.op (.fa 0 (.t 3)), (some 56), none⟩, .n, []⟩, ⟨⟨.op (.ld1 (.t 56)), (some 57), none⟩, .n, []⟩, ⟨⟨.op (.bin .neq 0 (.t 55) (.t 57)), (some 58), none⟩, .n, []⟩])
 [0, 3, 7, 8, 9, 58]
 (.cond (.t 58) (.reg [⟨.op (.mv (.t 7)), (some 59), none⟩, ⟨.op (.mv (.t 0)), (some 60), none⟩, ⟨.op (.mv (.t 9)), (some 61), none⟩, ⟨.op (.ia 8 none (.t 60) (.t 61)), (some 62), none⟩, ⟨.op (.ldn 8 (.t 62)), (some 63), none⟩, ⟨.op (.bslice 8 1 [(.int .i64 0), (.int .i64 0), (.int .i64 0), (.int .i64 0), (.bool false), (.sl none 0), (.str []), (.str [])] [(0, 8, (.t 63))]), (some 64), none⟩, ⟨.op (.app 8 96 false (.t 59) (.t 64)), (some 65), none⟩, ⟨.op (.mv (.t 65)), (some 7), none⟩]) (.skip)))))
 [0, 3, 7, 8, 9]
 (.reg [⟨.op (.mv (.t 9)), (some 33), none⟩, ⟨.op (.bin .add 0 (.t 33) (.c (.int .i64 1))), (some 34), none⟩, ⟨.op (.mv (.t 34)), (some 9), none⟩]))) T st := rfl
/-- cardamom/cardamomref1.Put -/
noncomputable def c24 : DFn := ⟨73, .pure,
 .seq (.reg [⟨.op (.box (.t 1)), (some 3), none⟩, ⟨.op (.mv (.c (.sl none 0))), (some 4), none⟩])
 [0, 3]
 (.seq (.reg [⟨.op (.mv (.t 0)), (some 11), none⟩, ⟨.op (.fa 0 (.t 3)), (some 12), none⟩, ⟨.op (.ld1 (.t 12)), (some 13), none⟩, ⟨.call 20 [(.t 11), (.t 13)], (some 14), none⟩, ⟨.op (.mv (.t 14)), (some 10), none⟩, ⟨.op (.ext (.t 10) 0), (some 15), none⟩, ⟨.op (.ext (.t 10) 1), (some 16), none⟩, ⟨.op (.new [(.int .i64 0), (.int .i64 0), (.int .i64 0), (.int .i64 0), (.bool false), (.sl none 0), (.str []), (.str [])]), (some 5), none⟩, ⟨.op (.st 8 (.t 5) (.t 15)), none, none⟩, ⟨.op (.mv (.t 16)), (some 6), none⟩])
 [0, 3, 5, 6]
 (.seq (.seq (.reg [⟨.op (.mv (.t 6)), (some 17), none⟩, ⟨.op (.mv (.t 17)), (some 18), none⟩, ⟨.op (.fa 1 (.t 5)), (some 19), (some (18, true))⟩, ⟨.op (.ldn 3 (.t 19)), (some 20), (some (18, true))⟩, ⟨.op (.fa 1 (.t 3)), (some 21), (some (18, true))⟩, ⟨.op (.ldn 3 (.t 21)), (some 22), (some (18, true))⟩, ⟨.call 35 [(.t 20), (.t 22)], (some 23), (some (18, true))⟩, ⟨.op (.bin .gtr 0 (.t 23) (.c (.int .i64 0))), (some 24), (some (18, true))⟩, ⟨.op (.pick (.t 18) (.t 24) (.c (.bool false))), (some 25), none⟩])
 [0, 3, 25]
 (.cond (.t 25) (.seq (.reg [⟨.op (.bslice 8 0 [] []), (some 26), none⟩, ⟨.op (.mv (.t 0)), (some 27), none⟩, ⟨.op (.app 8 96 false (.t 26) (.t 27)), (some 28), none⟩, ⟨.op (.mv (.t 28)), (some 4), none⟩])
 [4]
 (.ret)) (.skip)))
 [0, 3]
 (.seq (.reg [⟨.op (.mv (.c (.sl none 0))), (some 7), none⟩])
 [0, 3, 7]
 (.seq (.reg [⟨.op (.mv (.c (.bool false))), (some 8), none⟩])
 [0, 3, 7, 8]
 (.seq (.seq (.reg [⟨.op (.mv (.c (.int .i64 0))), (some 9), none⟩])
 [0, 3, 7, 8, 9]
 (.block 0 (.loop [0, 3, 7, 8, 9] (l24_0))))
 [3, 7, 8]
 (.seq (.seq (.reg [⟨.op (.mv (.t 8)), (some 66), none⟩, ⟨.op (.not (.t 66)), (some 67), none⟩])
 [3, 7, 67]
 (.cond (.t 67) (.reg [⟨.op (.mv (.t 7)), (some 68), none⟩, ⟨.op (.ldn 8 (.t 3)), (some 69), none⟩, ⟨.op (.bslice 8 1 [(.int .i64 0), (.int .i64 0), (.int .i64 0), (.int .i64 0), (.bool false), (.sl none 0), (.str []), (.str [])] [(0, 8, (.t 69))]), (some 70), none⟩, ⟨.op (.app 8 96 false (.t 68) (.t 70)), (some 71), none⟩, ⟨.op (.mv (.t 71)), (some 7), none⟩]) (.skip)))
 [7]
 (.seq (.reg [⟨.op (.mv (.t 7)), (some 72), none⟩, ⟨.op (.mv (.t 72)), (some 4), none⟩])
 [4]
 (.ret)))))))),
 [.tmp 4]⟩
theorem k24 : cFn Try.prog 24 = some c24.toE := by kernel_rfl
theorem w24 : c24.body.wf = true := by kernel_rfl
noncomputable def l26_0 : DC :=
 .seq (.seq (.reg [⟨.op (.mv (.t 6)), (some 7), none⟩, ⟨.op (.mv (.t 0)), (some 8), none⟩, ⟨.op (.len (.t 8)), (some 9), none⟩, ⟨.op (.bin .lss 0 (.t 7) (.t 9)), (some 10), none⟩])
 [0, 1, 5, 6, 10]
 (.cond (.t 10) (.skip) (.exit 0)))
 [0, 1, 5, 6]
 (.seq (.block 1 (.seq (.reg [⟨.op (.mv (.t 0)), (some 13), none⟩, ⟨.op (.mv (.t 6)), (some 14), none⟩, ⟨.op (.ia 8 none (.t 13) (.t 14)), (some 15), none⟩, ⟨.op (.fa 0 (.t 15)), (some 16), none⟩, ⟨.op (.ld1 (.t 16)), (some 17), none⟩, ⟨.op (.mv (.t 1)), (some 18), none⟩, ⟨.op (.bin .neq 0 (.t 17) (.t 18)), (some 19), none⟩])
 [0, 1, 5, 6, 19]
 (.cond (.t 19) (.reg [⟨.op (.mv (.t 5)), (some 20), none⟩, ⟨.op (.mv (.t 0)), (some 21), none⟩, ⟨.op (.mv (.t 6)), (some 22), none⟩, ⟨.op (.ia 8 none (.t 21) (.t 22)), (some 23), none⟩, ⟨.op (.ldn 8 (.t 23)), (some 24), none⟩, ⟨.op (.bslice 8 1 [(.int .i64 0), (.int .i64 0), (.int .i64 0), (.int .i64 0), (.bool false), (.sl none 0), (.str []), (.str [])] [(0, 8, (.t 24))]), (some 25), none⟩, ⟨.op (.app 8 96 false (.t 20) (.t 25)), (some 26), none⟩, ⟨.op (.mv (.t 26)), (some 5), none⟩]) (.skip))))
 [0, 1, 5, 6]
 (.reg [⟨.op (.mv (.t 6)), (some 11), none⟩, ⟨.op (.bin .add 0 (.t 11) (.c (.int .i64 1))), (some 12), none⟩, ⟨.op (.mv (.t 12)), (some 6), none⟩]))
theorem u26_0 (call : DCall) (T : Tm) (st : Dv.St) : dCw Try.prog call l26_0 T st = dCw Try.prog call
 (.seq (.seq (.reg [⟨.op (.mv (.t 6)), (some 7), none⟩, ⟨.op (.mv (.t 0)), (some 8), none⟩, ⟨.op (.len (.t 8)), (some 9), none⟩, ⟨.op (.bin .lss 0 (.t 7) (.t 9)), (some 10), none⟩])
 [0, 1, 5, 6, 10]
 (.cond (.t 10) (.skip) (.exit 0)))
 [0, 1, 5, 6]
 (.seq (.block 1 (.seq (.reg [⟨.op (.mv (.t 0)), (some 13), none⟩, ⟨.op (.mv (.t 6)), (some 14), none⟩, ⟨.op (.ia 8 none (.t 13) (.t 14)), (some 15), none⟩, ⟨.op (.fa 0 (.t 15)), (some 16), none⟩, ⟨.op (.ld1 (.t 16)), (some 17), none⟩, ⟨.op (.mv (.t 1)), (some 18), none⟩, ⟨.op (.bin .neq 0 (.t 17) (.t 18)), (some 19), none⟩])
 [0, 1, 5, 6, 19]
 (.cond (.t 19) (.reg [⟨.op (.mv (.t 5)), (some 20), none⟩, ⟨.op (.mv (.t 0)), (some 21), none⟩, ⟨.op (.mv (.t 6)), (some 22), none⟩, ⟨.op (.ia 8 none (.t 21) (.t 22)), (some 23), none⟩, ⟨.op (.ldn 8 (.t 23)), (some 24), none⟩, ⟨.op (.bslice 8 1 [(.int .i64 0), (.int .i64 0), (.int .i64 0), (.int .i64 0), (.bool false), (.sl none 0), (.str []), (.str [])] [(0, 8, (.t 24))]), (some 25), none⟩, ⟨.op (.app 8 96 false (.t 20) (.t 25)), (some 26), none⟩, ⟨.op (.mv (.t 26)), (some 5), none⟩]) (.skip))))
 [0, 1, 5, 6]
 (.reg [⟨.op (.mv (.t 6)), (some 11), none⟩, ⟨.op (.bin .add 0 (.t 11) (.c (.int .i64 1))), (some 12), none⟩, ⟨.op (.mv (.t 12)), (some 6), none⟩]))) T st := rfl
/-- cardamom/cardamomref1.Without -/
noncomputable def c26 : DFn := ⟨28, .pure,
 .seq (.reg [⟨.op (.mv (.c (.sl none 0))), (some 4), none⟩])
 [0, 1]
 (.seq (.reg [⟨.op (.mv (.c (.sl none 0))), (some 5), none⟩])
 [0, 1, 5]
 (.seq (.seq (.reg [⟨.op (.mv (.c (.int .i64 0))), (some 6), none⟩])
 [0, 1, 5, 6]
 (.block 0 (.loop [0, 1, 5, 6] (l26_0))))
 [5]
 (.seq (.reg [⟨.op (.mv (.t 5)), (some 27), none⟩, ⟨.op (.mv (.t 27)), (some 4), none⟩])
 [4]
 (.ret)))),
 [.tmp 4]⟩
theorem k26 : cFn Try.prog 26 = some c26.toE := by kernel_rfl
theorem w26 : c26.body.wf = true := by kernel_rfl
noncomputable def l27_0 : DC :=
 .seq (.seq (.reg [⟨.op (.mv (.t 5)), (some 11), none⟩, ⟨.op (.mv (.t 0)), (some 12), none⟩, ⟨.op (.len (.t 12)), (some 13), none⟩, ⟨.op (.bin .lss 0 (.t 11) (.t 13)), (some 14), none⟩])
 [0, 1, 5, 14]
 (.cond (.t 14) (.skip) (.exit 0)))
 [0, 1, 5]
 (.seq (.block 1 (.seq (.drw [⟨⟨.op (.mv (.t 0)), (some 17), none⟩, .n, []⟩, ⟨⟨.op (.mv (.t 5)), (some 18), none⟩, .n, []⟩, ⟨⟨.op (.ia 4 none (.t 17) (.t 18)), (some 19), none⟩, .n, []⟩, ⟨⟨.op (.ldn 4 (.t 19)), (some 20), none⟩, .n, []⟩, ⟨⟨.op (.mv (.t 1)), (some 21), none⟩, .n, []⟩, ⟨⟨.op (.mv (.t 5)), (some 22), none⟩, .n, []⟩, ⟨⟨.op (.ia 4 none (.t 21) (.t 22)), (some 23), none⟩, .n, []⟩, ⟨⟨.op (.ldn 4 (.t 23)), (some 24), none⟩, .n, []⟩, ⟨⟨.op (.slow (operAt Try.prog 27 20)), (some 25), none⟩, .n, []⟩])
 [0, 1, 5, 25]
 (.cond (.t 25) (.seq (.reg [⟨.op (.mv (.c (.bool false))), (some 4), none⟩])
 [4]
 (.ret)) (.skip))))
 [0, 1, 5]
 (.reg [⟨.op (.mv (.t 5)), (some 15), none⟩, ⟨.op (.bin .add 0 (.t 15) (.c (.int .i64 1))), (some 16), none⟩, ⟨.op (.mv (.t 16)), (some 5), none⟩]))
theorem u27_0 (call : DCall) (T : Tm) (st : Dv.St) : dCw Try.prog call l27_0 T st = dCw Try.prog call
 (.seq (.seq (.reg [⟨.op (.mv (.t 5)), (some 11), none⟩, ⟨.op (.mv (.t 0)), (some 12), none⟩, ⟨.op (.len (.t 12)), (some 13), none⟩, ⟨.op (.bin .lss 0 (.t 11) (.t 13)), (some 14), none⟩])
 [0, 1, 5, 14]
 (.cond (.t 14) (.skip) (.exit 0)))
 [0, 1, 5]
 (.seq (.block 1 (.seq (.drw [⟨⟨.op (.mv (.t 0)), (some 17), none⟩, .n, []⟩, ⟨⟨.op (.mv (.t 5)), (some 18), none⟩, .n, []⟩, ⟨⟨.op (.ia 4 none (.t 17) (.t 18)), (some 19), none⟩, .n, []⟩, ⟨⟨.op (.ldn 4 (.t 19)), (some 20), none⟩, .n, []⟩, ⟨⟨.op (.mv (.t 1)), (some 21), none⟩, .n, []⟩, ⟨⟨.op (.mv (.t 5)), (some 22), none⟩, .n, []⟩, ⟨⟨.op (.ia 4 none (.t 21) (.t 22)), (some 23), none⟩, .n, []⟩, ⟨⟨.op (.ldn 4 (.t 23)), (some 24), none⟩, .n, []⟩, ⟨⟨.op (.slow (operAt Try.prog 27 20)), (some 25), none⟩, .n, []⟩])
 [0, 1, 5, 25]
 (.cond (.t 25) (.seq (.reg [⟨.op (.mv (.c (.bool false))), (some 4), none⟩])
 [4]
 (.ret)) (.skip))))
 [0, 1, 5]
 (.reg [⟨.op (.mv (.t 5)), (some 15), none⟩, ⟨.op (.bin .add 0 (.t 15) (.c (.int .i64 1))), (some 16), none⟩, ⟨.op (.mv (.t 16)), (some 5), none⟩]))) T st := rfl
/-- cardamom/cardamomref1.SameHeads -/
noncomputable def c27 : DFn := ⟨26, .pure,
 .seq (.reg [⟨.op (.mv (.c (.bool false))), (some 4), none⟩])
 [0, 1]
 (.seq (.seq (.reg [⟨.op (.mv (.t 0)), (some 6), none⟩, ⟨.op (.len (.t 6)), (some 7), none⟩, ⟨.op (.mv (.t 1)), (some 8), none⟩, ⟨.op (.len (.t 8)), (some 9), none⟩, ⟨.op (.bin .neq 0 (.t 7) (.t 9)), (some 10), none⟩])
 [0, 1, 10]
 (.cond (.t 10) (.seq (.reg [⟨.op (.mv (.c (.bool false))), (some 4), none⟩])
 [4]
 (.ret)) (.skip)))
 [0, 1]
 (.seq (.seq (.reg [⟨.op (.mv (.c (.int .i64 0))), (some 5), none⟩])
 [0, 1, 5]
 (.block 0 (.loop [0, 1, 5] (l27_0))))
 []
 (.seq (.reg [⟨.op (.mv (.c (.bool true))), (some 4), none⟩])
 [4]
 (.ret)))),
 [.tmp 4]⟩
theorem k27 : cFn Try.prog 27 = some c27.toE := by kernel_rfl
theorem w27 : c27.body.wf = true := by kernel_rfl
noncomputable def l29_0 : DC :=
 .seq (.seq (.reg [⟨.op (.mv (.t 4)), (some 5), none⟩, ⟨.op (.mv (.t 0)), (some 6), none⟩, ⟨.op (.len (.t 6)), (some 7), none⟩, ⟨.op (.bin .lss 0 (.t 5) (.t 7)), (some 8), none⟩])
 [0, 3, 4, 8]
 (.cond (.t 8) (.skip) (.exit 0)))
 [0, 3, 4]
 (.seq (.block 1 (.drw [⟨⟨.op (.mv (.t 3)), (some 11), none⟩, .n, []⟩, ⟨⟨.op (.mv (.t 0)), (some 12), none⟩, .n, []⟩, ⟨⟨.op (.mv (.t 4)), (some 13), none⟩, .n, []⟩, ⟨⟨.op (.ia 8 none (.t 12) (.t 13)), (some 14), none⟩, .n, []⟩, ⟨⟨.op (.fa 0 (.t 14)), (some 15), none⟩, .n, []⟩, ⟨⟨.op (.ld1 (.t 15)), (some 16), none⟩, .n, []⟩, ⟨⟨.op (.mv (.t 0)), (some 17), none⟩, .n, []⟩, ⟨⟨.op (.mv (.t 4)), (some 18), none⟩, .n, []⟩, ⟨⟨.op (.ia 8 none (.t 17) (.t 18)), (some 19), none⟩, .n, []⟩, ⟨⟨.op (.fa 1 (.t 19)), (some 20), none⟩, .n, []⟩, ⟨⟨.op (.ldn 3 (.t 20)), (some 21), none⟩, .n, []⟩, ⟨⟨.op (.build [(.int .i64 0), (.int .i64 0), (.int .i64 0), (.int .i64 0)] [(0, 1, (.t 16)), (1, 3, (.t 21))]), (some 22), none⟩, .n, []⟩, ⟨⟨.op (.bslice 4 1 [(.int .i64 0), (.int .i64 0), (.int .i64 0), (.int .i64 0)] [(0, 4, (.t 22))]), (some 23), none⟩, .a, [(true, 10), (true, 5)]⟩, ⟨⟨.op (.app 4 32 false (.t 11) (.t 23)), (some 24), none⟩, .x, []⟩, ⟨⟨.op (.mv (.t 24)), (some 3), none⟩, .x, []⟩]))
 [0, 3, 4]
 (.reg [⟨.op (.mv (.t 4)), (some 9), none⟩, ⟨.op (.bin .add 0 (.t 9) (.c (.int .i64 1))), (some 10), none⟩, ⟨.op (.mv (.t 10)), (some 4), none⟩]))
theorem u29_0 (call : DCall) (T : Tm) (st : Dv.St) : dCw Try.prog call l29_0 T st = dCw Try.prog call
 (.seq (.seq (.reg [⟨.op (.mv (.t 4)), (some 5), none⟩, ⟨.op (.mv (.t 0)), (some 6), none⟩, ⟨.op (.len (.t 6)), (some 7), none⟩, ⟨.op (.bin .lss 0 (.t 5) (.t 7)), (some 8), none⟩])
 [0, 3, 4, 8]
 (.cond (.t 8) (.skip) (.exit 0)))
 [0, 3, 4]
 (.seq (.block 1 (.drw [⟨⟨.op (.mv (.t 3)), (some 11), none⟩, .n, []⟩, ⟨⟨.op (.mv (.t 0)), (some 12), none⟩, .n, []⟩, ⟨⟨.op (.mv (.t 4)), (some 13), none⟩, .n, []⟩, ⟨⟨.op (.ia 8 none (.t 12) (.t 13)), (some 14), none⟩, .n, []⟩, ⟨⟨.op (.fa 0 (.t 14)), (some 15), none⟩, .n, []⟩, ⟨⟨.op (.ld1 (.t 15)), (some 16), none⟩, .n, []⟩, ⟨⟨.op (.mv (.t 0)), (some 17), none⟩, .n, []⟩, ⟨⟨.op (.mv (.t 4)), (some 18), none⟩, .n, []⟩, ⟨⟨.op (.ia 8 none (.t 17) (.t 18)), (some 19), none⟩, .n, []⟩, ⟨⟨.op (.fa 1 (.t 19)), (some 20), none⟩, .n, []⟩, ⟨⟨.op (.ldn 3 (.t 20)), (some 21), none⟩, .n, []⟩, ⟨⟨.op (.build [(.int .i64 0), (.int .i64 0), (.int .i64 0), (.int .i64 0)] [(0, 1, (.t 16)), (1, 3, (.t 21))]), (some 22), none⟩, .n, []⟩, ⟨⟨.op (.bslice 4 1 [(.int .i64 0), (.int .i64 0), (.int .i64 0), (.int .i64 0)] [(0, 4, (.t 22))]), (some 23), none⟩, .a, [(true, 10), (true, 5)]⟩, ⟨⟨.op (.app 4 32 false (.t 11) (.t 23)), (some 24), none⟩, .x, []⟩, ⟨⟨.op (.mv (.t 24)), (some 3), none⟩, .x, []⟩]))
 [0, 3, 4]
 (.reg [⟨.op (.mv (.t 4)), (some 9), none⟩, ⟨.op (.bin .add 0 (.t 9) (.c (.int .i64 1))), (some 10), none⟩, ⟨.op (.mv (.t 10)), (some 4), none⟩]))) T st := rfl
/-- cardamom/cardamomref1.Heads -/
noncomputable def c29 : DFn := ⟨26, .pure,
 .seq (.reg [⟨.op (.mv (.c (.sl none 0))), (some 2), none⟩])
 [0]
 (.seq (.reg [⟨.op (.mv (.c (.sl none 0))), (some 3), none⟩])
 [0, 3]
 (.seq (.seq (.reg [⟨.op (.mv (.c (.int .i64 0))), (some 4), none⟩])
 [0, 3, 4]
 (.block 0 (.loop [0, 3, 4] (l29_0))))
 [3]
 (.seq (.reg [⟨.op (.mv (.t 3)), (some 25), none⟩, ⟨.op (.mv (.t 25)), (some 2), none⟩])
 [2]
 (.ret)))),
 [.tmp 2]⟩
theorem k29 : cFn Try.prog 29 = some c29.toE := by kernel_rfl
theorem w29 : c29.body.wf = true := by kernel_rfl
noncomputable def l34_0 : DC :=
 .seq (.seq (.reg [⟨.op (.mv (.t 3)), (some 4), none⟩, ⟨.op (.mv (.t 0)), (some 5), none⟩, ⟨.op (.len (.t 5)), (some 6), none⟩, ⟨.op (.bin .lss 0 (.t 4) (.t 6)), (some 7), none⟩])
 [0, 3, 7]
 (.cond (.t 7) (.skip) (.exit 0)))
 [0, 3]
 (.seq (.block 1 (.seq (.drw [⟨⟨.op (.mv (.t 0)), (some 10), none⟩, .n, []⟩, ⟨⟨.op (.mv (.t 3)), (some 11), none⟩, .n, []⟩, ⟨⟨.op (.ia 4 none (.t 10) (.t 11)), (some 12), none⟩, .n, []⟩, ⟨⟨.op (.fa 0 (.t 12)), (some 13), none⟩, .n, []⟩, ⟨⟨.op (.ld1 (.t 13)), (some 14), none⟩, .n, []⟩, ⟨⟨.op (.bin .lss 0 (.t 14) (.c (.int .i64 1))), (some 15), none⟩, .n, []⟩, ⟨⟨.op (.mv (.t 15)), (some 16), none⟩, .n, []⟩, ⟨⟨.op (.mv (.t 0)), (some 17), (some (16, false))⟩, .n, []⟩, ⟨⟨.op (.mv (.t 3)), (some 18), (some (16, false))⟩, .n, []⟩, ⟨⟨.op (.ia 4 none (.t 17) (.t 18)), (some 19), (some (16, false))⟩, .n, []⟩, ⟨⟨.op (.fa 0 (.t 19)), (some 20), (some (16, false))⟩, .n, []⟩, ⟨⟨.op (.ld1 (.t 20)), (some 21), (some (16, false))⟩, .n, []⟩, ⟨⟨.op (.bin .gtr 0 (.t 21) (.c (.int .i64 6))), (some 22), (some (16, false))⟩, .n, []⟩, ⟨⟨.op (.pick (.t 16) (.c (.bool true)) (.t 22)), (some 23), none⟩, .n, []⟩, ⟨⟨.op (.mv (.t 23)), (some 24), none⟩, .n, []⟩, ⟨⟨.op (.mv (.t 0)), (some 25), (some (24, false))⟩, .n, []⟩, ⟨⟨.op (.mv (.t 3)), (some 26), (some (24, false))⟩, .n, []⟩, ⟨⟨.op (.ia 4 none (.t 25) (.t 26)), (some 27), (some (24, false))⟩, .n, []⟩, ⟨⟨.op (.fa 1 (.t 27)), (some 28), (some (24, false))⟩, .n, []⟩, ⟨⟨.op (.ldn 3 (.t 28)), (some 29), (some (24, false))⟩, .n, []⟩, ⟨⟨.call 69 [(.t 29)], (some 30), (some (24, false))⟩, .x, []⟩, ⟨⟨.op (.not (.t 30)), (some 31), (some (24, false))⟩, .n, []⟩, ⟨⟨.op (.pick (.t 24) (.c (.bool true)) (.t 31)), (some 32), none⟩, .n, []⟩, ⟨⟨.op (.mv (.t 32)), (some 33), none⟩, .n, []⟩, ⟨⟨.op (.mv (.t 3)), (some 34), (some (33, false))⟩, .n, []⟩, ⟨⟨.op (.bin .gtr 0 (.t 34) (.c (.int .i64 0))), (some 35), (some (33, false))⟩, .n, []⟩, ⟨⟨.op (.mv (.t 35)), (some 36), (some (33, false))⟩, .n, []⟩, ⟨⟨.op (.mv (.t 0)), (some 37), (some (36, true))⟩, .n, []⟩, ⟨⟨.op (.mv (.t 3)), (some 38), (some (36, true))⟩, .n, []⟩, ⟨⟨.op (.ia 4 none (.t 37) (.t 38)), (some 39), (some (36, true))⟩, .n, []⟩, ⟨⟨.op (.fa 0 (.t 39)), (some 40), (some (36, true))⟩, .n, []⟩, ⟨⟨.op (.ld1 (.t 40)), (some 41), (some (36, true))⟩, .n, []⟩, ⟨⟨.op (.mv (.t 0)), (some 42), (some (36, true))⟩, .n, []⟩, ⟨⟨.op (.mv (.t 3)), (some 43), (some (36, true))⟩, .n, []⟩, ⟨⟨.op (.bin .sub 0 (.t 43) (.c (.int .i64 1))), (some 44), (some (36, true))⟩, .n, []⟩, ⟨⟨.op (.ia 4 none (.t 42) (.t 44)), (some 45), (some (36, true))⟩, .n, []⟩, ⟨⟨.op (.fa 0 (.t 45)), (some 46), (some (36, true))⟩, .n, []⟩, ⟨⟨.op (.ld1 (.t 46)), (some 47), (some (36, true))⟩, .n, []⟩, ⟨⟨.op (.bin .leq 0 (.t 41) (.t 47)), (some 48), (some (36, true))⟩, .n, []⟩, ⟨⟨.op (.pick (.t 36) (.t 48) (.c (.bool false))), (some 49), (some (33, false))⟩, .n, []⟩, ⟨⟨.op (.pick (.t 33) (.c (.bool true)) (.t 49)), (some 50), none⟩, .n, []⟩])
 [0, 3, 50]
 (.cond (.t 50) (.seq (.reg [⟨.op (.mv (.c (.bool false))), (some 2), none⟩])
 [2]
 (.ret)) (.skip))))
 [0, 3]
 (.reg [⟨.op (.mv (.t 3)), (some 8), none⟩, ⟨.op (.bin .add 0 (.t 8) (.c (.int .i64 1))), (some 9), none⟩, ⟨.op (.mv (.t 9)), (some 3), none⟩]))
theorem u34_0 (call : DCall) (T : Tm) (st : Dv.St) : dCw Try.prog call l34_0 T st = dCw Try.prog call
 (.seq (.seq (.reg [⟨.op (.mv (.t 3)), (some 4), none⟩, ⟨.op (.mv (.t 0)), (some 5), none⟩, ⟨.op (.len (.t 5)), (some 6), none⟩, ⟨.op (.bin .lss 0 (.t 4) (.t 6)), (some 7), none⟩])
 [0, 3, 7]
 (.cond (.t 7) (.skip) (.exit 0)))
 [0, 3]
 (.seq (.block 1 (.seq (.drw [⟨⟨.op (.mv (.t 0)), (some 10), none⟩, .n, []⟩, ⟨⟨.op (.mv (.t 3)), (some 11), none⟩, .n, []⟩, ⟨⟨.op (.ia 4 none (.t 10) (.t 11)), (some 12), none⟩, .n, []⟩, ⟨⟨.op (.fa 0 (.t 12)), (some 13), none⟩, .n, []⟩, ⟨⟨.op (.ld1 (.t 13)), (some 14), none⟩, .n, []⟩, ⟨⟨.op (.bin .lss 0 (.t 14) (.c (.int .i64 1))), (some 15), none⟩, .n, []⟩, ⟨⟨.op (.mv (.t 15)), (some 16), none⟩, .n, []⟩, ⟨⟨.op (.mv (.t 0)), (some 17), (some (16, false))⟩, .n, []⟩, ⟨⟨.op (.mv (.t 3)), (some 18), (some (16, false))⟩, .n, []⟩, ⟨⟨.op (.ia 4 none (.t 17) (.t 18)), (some 19), (some (16, false))⟩, .n, []⟩, ⟨⟨.op (.fa 0 (.t 19)), (some 20), (some (16, false))⟩, .n, []⟩, ⟨⟨.op (.ld1 (.t 20)), (some 21), (some (16, false))⟩, .n, []⟩, ⟨⟨.op (.bin .gtr 0 (.t 21) (.c (.int .i64 6))), (some 22), (some (16, false))⟩, .n, []⟩, ⟨⟨.op (.pick (.t 16) (.c (.bool true)) (.t 22)), (some 23), none⟩, .n, []⟩, ⟨⟨.op (.mv (.t 23)), (some 24), none⟩, .n, []⟩, ⟨⟨.op (.mv (.t 0)), (some 25), (some (24, false))⟩, .n, []⟩, ⟨⟨.op (.mv (.t 3)), (some 26), (some (24, false))⟩, .n, []⟩, ⟨⟨.op (.ia 4 none (.t 25) (.t 26)), (some 27), (some (24, false))⟩, .n, []⟩, ⟨⟨.op (.fa 1 (.t 27)), (some 28), (some (24, false))⟩, .n, []⟩, ⟨⟨.op (.ldn 3 (.t 28)), (some 29), (some (24, false))⟩, .n, []⟩, ⟨⟨.call 69 [(.t 29)], (some 30), (some (24, false))⟩, .x, []⟩, ⟨⟨.op (.not (.t 30)), (some 31), (some (24, false))⟩, .n, []⟩, ⟨⟨.op (.pick (.t 24) (.c (.bool true)) (.t 31)), (some 32), none⟩, .n, []⟩, ⟨⟨.op (.mv (.t 32)), (some 33), none⟩, .n, []⟩, ⟨⟨.op (.mv (.t 3)), (some 34), (some (33, false))⟩, .n, []⟩, ⟨⟨.op (.bin .gtr 0 (.t 34) (.c (.int .i64 0))), (some 35), (some (33, false))⟩, .n, []⟩, ⟨⟨.op (.mv (.t 35)), (some 36), (some (33, false))⟩, .n, []⟩, ⟨⟨.op (.mv (.t 0)), (some 37), (some (36, true))⟩, .n, []⟩, ⟨⟨.op (.mv (.t 3)), (some 38), (some (36, true))⟩, .n, []⟩, ⟨⟨.op (.ia 4 none (.t 37) (.t 38)), (some 39), (some (36, true))⟩, .n, []⟩, ⟨⟨.op (.fa 0 (.t 39)), (some 40), (some (36, true))⟩, .n, []⟩, ⟨⟨.op (.ld1 (.t 40)), (some 41), (some (36, true))⟩, .n, []⟩, ⟨⟨.op (.mv (.t 0)), (some 42), (some (36, true))⟩, .n, []⟩, ⟨⟨.op (.mv (.t 3)), (some 43), (some (36, true))⟩, .n, []⟩, ⟨⟨.op (.bin .sub 0 (.t 43) (.c (.int .i64 1))), (some 44), (some (36, true))⟩, .n, []⟩, ⟨⟨.op (.ia 4 none (.t 42) (.t 44)), (some 45), (some (36, true))⟩, .n, []⟩, ⟨⟨.op (.fa 0 (.t 45)), (some 46), (some (36, true))⟩, .n, []⟩, ⟨⟨.op (.ld1 (.t 46)), (some 47), (some (36, true))⟩, .n, []⟩, ⟨⟨.op (.bin .leq 0 (.t 41) (.t 47)), (some 48), (some (36, true))⟩, .n, []⟩, ⟨⟨.op (.pick (.t 36) (.t 48) (.c (.bool false))), (some 49), (some (33, false))⟩, .n, []⟩, ⟨⟨.op (.pick (.t 33) (.c (.bool true)) (.t 49)), (some 50), none⟩, .n, []⟩])
 [0, 3, 50]
 (.cond (.t 50) (.seq (.reg [⟨.op (.mv (.c (.bool false))), (some 2), none⟩])
 [2]
 (.ret)) (.skip))))
 [0, 3]
 (.reg [⟨.op (.mv (.t 3)), (some 8), none⟩, ⟨.op (.bin .add 0 (.t 8) (.c (.int .i64 1))), (some 9), none⟩, ⟨.op (.mv (.t 9)), (some 3), none⟩]))) T st := rfl
/-- cardamom/cardamomref1.MayHeads -/
noncomputable def c34 : DFn := ⟨51, .pure,
 .seq (.reg [⟨.op (.mv (.c (.bool false))), (some 2), none⟩])
 [0]
 (.seq (.seq (.reg [⟨.op (.mv (.c (.int .i64 0))), (some 3), none⟩])
 [0, 3]
 (.block 0 (.loop [0, 3] (l34_0))))
 []
 (.seq (.reg [⟨.op (.mv (.c (.bool true))), (some 2), none⟩])
 [2]
 (.ret))),
 [.tmp 2]⟩
theorem k34 : cFn Try.prog 34 = some c34.toE := by kernel_rfl
theorem w34 : c34.body.wf = true := by kernel_rfl
/-- cardamom/cardamomref1.MayStamp -/
noncomputable def c69 : DFn := ⟨38, .pure,
 .seq (.reg [⟨.op (.box (.t 0)), (some 1), none⟩, ⟨.op (.mv (.c (.bool false))), (some 2), none⟩])
 [1]
 (.seq (.reg [⟨.op (.fa 0 (.t 1)), (some 3), none⟩, ⟨.op (.ld1 (.t 3)), (some 4), none⟩, ⟨.op (.bin .geq 0 (.t 4) (.c (.int .i64 1))), (some 5), none⟩, ⟨.op (.mv (.t 5)), (some 6), none⟩, ⟨.op (.fa 0 (.t 1)), (some 7), (some (6, true))⟩, ⟨.op (.ld1 (.t 7)), (some 8), (some (6, true))⟩, ⟨.op (.bin .leq 0 (.t 8) (.c (.int .i64 5000))), (some 9), (some (6, true))⟩, ⟨.op (.pick (.t 6) (.t 9) (.c (.bool false))), (some 10), none⟩, ⟨.op (.mv (.t 10)), (some 11), none⟩, ⟨.op (.fa 1 (.t 1)), (some 12), (some (11, true))⟩, ⟨.op (.ld1 (.t 12)), (some 13), (some (11, true))⟩, ⟨.op (.bin .geq 0 (.t 13) (.c (.int .i64 1))), (some 14), (some (11, true))⟩, ⟨.op (.pick (.t 11) (.t 14) (.c (.bool false))), (some 15), none⟩, ⟨.op (.mv (.t 15)), (some 16), none⟩, ⟨.op (.fa 1 (.t 1)), (some 17), (some (16, true))⟩, ⟨.op (.ld1 (.t 17)), (some 18), (some (16, true))⟩, ⟨.op (.bin .leq 0 (.t 18) (.c (.int .i64 5))), (some 19), (some (16, true))⟩, ⟨.op (.pick (.t 16) (.t 19) (.c (.bool false))), (some 20), none⟩, ⟨.op (.mv (.t 20)), (some 21), none⟩, ⟨.op (.fa 2 (.t 1)), (some 22), (some (21, true))⟩, ⟨.op (.ld1 (.t 22)), (some 23), (some (21, true))⟩, ⟨.op (.bin .geq 0 (.t 23) (.c (.int .i64 1))), (some 24), (some (21, true))⟩, ⟨.op (.pick (.t 21) (.t 24) (.c (.bool false))), (some 25), none⟩, ⟨.op (.mv (.t 25)), (some 26), none⟩, ⟨.op (.fa 2 (.t 1)), (some 27), (some (26, true))⟩, ⟨.op (.ld1 (.t 27)), (some 28), (some (26, true))⟩, ⟨.op (.bin .leq 0 (.t 28) (.c (.int .i64 1000))), (some 29), (some (26, true))⟩, ⟨.op (.pick (.t 26) (.t 29) (.c (.bool false))), (some 30), none⟩, ⟨.op (.mv (.t 30)), (some 31), none⟩, ⟨.op (.fa 2 (.t 1)), (some 32), (some (31, true))⟩, ⟨.op (.ld1 (.t 32)), (some 33), (some (31, true))⟩, ⟨.op (.fa 0 (.t 1)), (some 34), (some (31, true))⟩, ⟨.op (.ld1 (.t 34)), (some 35), (some (31, true))⟩, ⟨.op (.bin .leq 0 (.t 33) (.t 35)), (some 36), (some (31, true))⟩, ⟨.op (.pick (.t 31) (.t 36) (.c (.bool false))), (some 37), none⟩, ⟨.op (.mv (.t 37)), (some 2), none⟩])
 [2]
 (.ret)),
 [.tmp 2]⟩
theorem k69 : cFn Try.prog 69 = some c69.toE := by kernel_rfl
theorem w69 : c69.body.wf = true := by kernel_rfl
noncomputable def l35_0 : DC :=
 .seq (.seq (.reg [⟨.op (.mv (.t 7)), (some 22), none⟩, ⟨.op (.bin .lss 0 (.t 22) (.c (.int .i64 3))), (some 23), none⟩])
 [5, 6, 7, 23]
 (.cond (.t 23) (.skip) (.exit 0)))
 [5, 6, 7]
 (.seq (.block 1 (.seq (.seq (.drw [⟨⟨.op (.mv (.t 7)), (some 26), none⟩, .n, []⟩, ⟨⟨.op (.ia 1 (some 3) (.t 5) (.t 26)), (some 27), none⟩, .n, []⟩, ⟨⟨.op (.ld1 (.t 27)), (some 28), none⟩, .n, []⟩, ⟨⟨.op (.mv (.t 7)), (some 29), none⟩, .n, []⟩, ⟨⟨.op (.ia 1 (some 3) (.t 6) (.t 29)), (some 30), none⟩, .n, []⟩, ⟨⟨.op (.ld1 (.t 30)), (some 31), none⟩, .n, []⟩, ⟨⟨.op (.bin .lss 0 (.t 28) (.t 31)), (some 32), none⟩, .n, []⟩])
 [5, 6, 7, 32]
 (.cond (.t 32) (.seq (.reg [⟨.op (.mv (.c (.int .i64 (-1)))), (some 4), none⟩])
 [4]
 (.ret)) (.skip)))
 [5, 6, 7]
 (.seq (.drw [⟨⟨.op (.mv (.t 7)), (some 33), none⟩, .n, []⟩, ⟨⟨.op (.ia 1 (some 3) (.t 5) (.t 33)), (some 34), none⟩, .n, []⟩, ⟨⟨.op (.ld1 (.t 34)), (some 35), none⟩, .n, []⟩, ⟨⟨.op (.mv (.t 7)), (some 36), none⟩, .n, []⟩, ⟨⟨.op (.ia 1 (some 3) (.t 6) (.t 36)), (some 37), none⟩, .n, []⟩, ⟨⟨.op (.ld1 (.t 37)), (some 38), none⟩, .n, []⟩, ⟨⟨.op (.bin .gtr 0 (.t 35) (.t 38)), (some 39), none⟩, .n, []⟩])
 [5, 6, 7, 39]
 (.cond (.t 39) (.seq (.reg [⟨.op (.mv (.c (.int .i64 1))), (some 4), none⟩])
 [4]
 (.ret)) (.skip)))))
 [5, 6, 7]
 (.reg [⟨.op (.mv (.t 7)), (some 24), none⟩, ⟨.op (.bin .add 0 (.t 24) (.c (.int .i64 1))), (some 25), none⟩, ⟨.op (.mv (.t 25)), (some 7), none⟩]))
theorem u35_0 (call : DCall) (T : Tm) (st : Dv.St) : dCw Try.prog call l35_0 T st = dCw Try.prog call
 (.seq (.seq (.reg [⟨.op (.mv (.t 7)), (some 22), none⟩, ⟨.op (.bin .lss 0 (.t 22) (.c (.int .i64 3))), (some 23), none⟩])
 [5, 6, 7, 23]
 (.cond (.t 23) (.skip) (.exit 0)))
 [5, 6, 7]
 (.seq (.block 1 (.seq (.seq (.drw [⟨⟨.op (.mv (.t 7)), (some 26), none⟩, .n, []⟩, ⟨⟨.op (.ia 1 (some 3) (.t 5) (.t 26)), (some 27), none⟩, .n, []⟩, ⟨⟨.op (.ld1 (.t 27)), (some 28), none⟩, .n, []⟩, ⟨⟨.op (.mv (.t 7)), (some 29), none⟩, .n, []⟩, ⟨⟨.op (.ia 1 (some 3) (.t 6) (.t 29)), (some 30), none⟩, .n, []⟩, ⟨⟨.op (.ld1 (.t 30)), (some 31), none⟩, .n, []⟩, ⟨⟨.op (.bin .lss 0 (.t 28) (.t 31)), (some 32), none⟩, .n, []⟩])
 [5, 6, 7, 32]
 (.cond (.t 32) (.seq (.reg [⟨.op (.mv (.c (.int .i64 (-1)))), (some 4), none⟩])
 [4]
 (.ret)) (.skip)))
 [5, 6, 7]
 (.seq (.drw [⟨⟨.op (.mv (.t 7)), (some 33), none⟩, .n, []⟩, ⟨⟨.op (.ia 1 (some 3) (.t 5) (.t 33)), (some 34), none⟩, .n, []⟩, ⟨⟨.op (.ld1 (.t 34)), (some 35), none⟩, .n, []⟩, ⟨⟨.op (.mv (.t 7)), (some 36), none⟩, .n, []⟩, ⟨⟨.op (.ia 1 (some 3) (.t 6) (.t 36)), (some 37), none⟩, .n, []⟩, ⟨⟨.op (.ld1 (.t 37)), (some 38), none⟩, .n, []⟩, ⟨⟨.op (.bin .gtr 0 (.t 35) (.t 38)), (some 39), none⟩, .n, []⟩])
 [5, 6, 7, 39]
 (.cond (.t 39) (.seq (.reg [⟨.op (.mv (.c (.int .i64 1))), (some 4), none⟩])
 [4]
 (.ret)) (.skip)))))
 [5, 6, 7]
 (.reg [⟨.op (.mv (.t 7)), (some 24), none⟩, ⟨.op (.bin .add 0 (.t 24) (.c (.int .i64 1))), (some 25), none⟩, ⟨.op (.mv (.t 25)), (some 7), none⟩]))) T st := rfl
/-- cardamom/cardamomref1.Compare -/
noncomputable def c35 : DFn := ⟨40, .pure,
 .seq (.reg [⟨.op (.box (.t 0)), (some 2), none⟩, ⟨.op (.box (.t 1)), (some 3), none⟩, ⟨.op (.mv (.c (.int .i64 0))), (some 4), none⟩])
 [2, 3]
 (.seq (.drw [⟨⟨.op (.fa 0 (.t 2)), (some 8), none⟩, .n, []⟩, ⟨⟨.op (.ld1 (.t 8)), (some 9), none⟩, .n, []⟩, ⟨⟨.op (.fa 1 (.t 2)), (some 10), none⟩, .n, []⟩, ⟨⟨.op (.ld1 (.t 10)), (some 11), none⟩, .n, []⟩, ⟨⟨.op (.fa 2 (.t 2)), (some 12), none⟩, .n, []⟩, ⟨⟨.op (.ld1 (.t 12)), (some 13), none⟩, .n, []⟩, ⟨⟨.op (.build [(.int .i64 0), (.int .i64 0), (.int .i64 0)] [(0, 1, (.t 9)), (1, 1, (.t 11)), (2, 1, (.t 13))]), (some 14), none⟩, .n, []⟩, ⟨⟨.op (.fa 0 (.t 3)), (some 15), none⟩, .n, []⟩, ⟨⟨.op (.ld1 (.t 15)), (some 16), none⟩, .n, []⟩, ⟨⟨.op (.fa 1 (.t 3)), (some 17), none⟩, .n, []⟩, ⟨⟨.op (.ld1 (.t 17)), (some 18), none⟩, .n, []⟩, ⟨⟨.op (.fa 2 (.t 3)), (some 19), none⟩, .n, []⟩, ⟨⟨.op (.ld1 (.t 19)), (some 20), none⟩, .n, []⟩, ⟨⟨.op (.build [(.int .i64 0), (.int .i64 0), (.int .i64 0)] [(0, 1, (.t 16)), (1, 1, (.t 18)), (2, 1, (.t 20))]), (some 21), none⟩, .n, []⟩, ⟨⟨.op (.new [(.int .i64 0), (.int .i64 0), (.int .i64 0)]), (some 5), none⟩, .a, [(true, 12), (true, 10), (true, 8), (true, 5), (true, 3), (true, 1)]⟩, ⟨⟨.op (.new [(.int .i64 0), (.int .i64 0), (.int .i64 0)]), (some 6), none⟩, .a, [(true, 12), (true, 10), (true, 8), (true, 5), (true, 3), (true, 1)]⟩, ⟨⟨.op (.st 3 (.t 5) (.t 14)), none, none⟩, .x, [(true, 12), (true, 10), (true, 8)]⟩, ⟨⟨.op (.st 3 (.t 6) (.t 21)), none, none⟩, .x, []⟩])
 [5, 6]
 (.seq (.seq (.reg [⟨.op (.mv (.c (.int .i64 0))), (some 7), none⟩])
 [5, 6, 7]
 (.block 0 (.loop [5, 6, 7] (l35_0))))
 []
 (.seq (.reg [⟨.op (.mv (.c (.int .i64 0))), (some 4), none⟩])
 [4]
 (.ret)))),
 [.tmp 4]⟩
theorem k35 : cFn Try.prog 35 = some c35.toE := by kernel_rfl
theorem w35 : c35.body.wf = true := by kernel_rfl
noncomputable def l36_0 : DC :=
 .seq (.seq (.reg [⟨.op (.mv (.t 6)), (some 10), none⟩, ⟨.op (.mv (.t 1)), (some 11), none⟩, ⟨.op (.len (.t 11)), (some 12), none⟩, ⟨.op (.bin .lss 0 (.t 10) (.t 12)), (some 13), none⟩])
 [1, 5, 6, 13]
 (.cond (.t 13) (.skip) (.exit 0)))
 [1, 5, 6]
 (.seq (.block 1 (.reg [⟨.op (.mv (.t 5)), (some 16), none⟩, ⟨.op (.mv (.t 1)), (some 17), none⟩, ⟨.op (.mv (.t 6)), (some 18), none⟩, ⟨.op (.ia 4 none (.t 17) (.t 18)), (some 19), none⟩, ⟨.op (.ldn 4 (.t 19)), (some 20), none⟩, ⟨.call 46 [(.t 16), (.t 20)], (some 21), none⟩, ⟨.op (.mv (.t 21)), (some 5), none⟩]))
 [1, 5, 6]
 (.reg [⟨.op (.mv (.t 6)), (some 14), none⟩, ⟨.op (.bin .add 0 (.t 14) (.c (.int .i64 1))), (some 15), none⟩, ⟨.op (.mv (.t 15)), (some 6), none⟩]))
theorem u36_0 (call : DCall) (T : Tm) (st : Dv.St) : dCw Try.prog call l36_0 T st = dCw Try.prog call
 (.seq (.seq (.reg [⟨.op (.mv (.t 6)), (some 10), none⟩, ⟨.op (.mv (.t 1)), (some 11), none⟩, ⟨.op (.len (.t 11)), (some 12), none⟩, ⟨.op (.bin .lss 0 (.t 10) (.t 12)), (some 13), none⟩])
 [1, 5, 6, 13]
 (.cond (.t 13) (.skip) (.exit 0)))
 [1, 5, 6]
 (.seq (.block 1 (.reg [⟨.op (.mv (.t 5)), (some 16), none⟩, ⟨.op (.mv (.t 1)), (some 17), none⟩, ⟨.op (.mv (.t 6)), (some 18), none⟩, ⟨.op (.ia 4 none (.t 17) (.t 18)), (some 19), none⟩, ⟨.op (.ldn 4 (.t 19)), (some 20), none⟩, ⟨.call 46 [(.t 16), (.t 20)], (some 21), none⟩, ⟨.op (.mv (.t 21)), (some 5), none⟩]))
 [1, 5, 6]
 (.reg [⟨.op (.mv (.t 6)), (some 14), none⟩, ⟨.op (.bin .add 0 (.t 14) (.c (.int .i64 1))), (some 15), none⟩, ⟨.op (.mv (.t 15)), (some 6), none⟩]))) T st := rfl
/-- cardamom/cardamomref1.Most -/
noncomputable def c36 : DFn := ⟨23, .pure,
 .seq (.reg [⟨.op (.mv (.c (.sl none 0))), (some 4), none⟩])
 [0, 1]
 (.seq (.reg [⟨.op (.bslice 4 0 [] []), (some 7), none⟩, ⟨.op (.mv (.t 0)), (some 8), none⟩, ⟨.op (.app 4 32 false (.t 7) (.t 8)), (some 9), none⟩, ⟨.op (.mv (.t 9)), (some 5), none⟩])
 [1, 5]
 (.seq (.seq (.reg [⟨.op (.mv (.c (.int .i64 0))), (some 6), none⟩])
 [1, 5, 6]
 (.block 0 (.loop [1, 5, 6] (l36_0))))
 [5]
 (.seq (.reg [⟨.op (.mv (.t 5)), (some 22), none⟩, ⟨.op (.mv (.t 22)), (some 4), none⟩])
 [4]
 (.ret)))),
 [.tmp 4]⟩
theorem k36 : cFn Try.prog 36 = some c36.toE := by kernel_rfl
theorem w36 : c36.body.wf = true := by kernel_rfl
noncomputable def l43_0 : DC :=
 .seq (.seq (.reg [⟨.op (.mv (.t 5)), (some 6), none⟩, ⟨.op (.mv (.t 0)), (some 7), none⟩, ⟨.op (.len (.t 7)), (some 8), none⟩, ⟨.op (.bin .lss 0 (.t 6) (.t 8)), (some 9), none⟩])
 [0, 1, 4, 5, 9]
 (.cond (.t 9) (.skip) (.exit 0)))
 [0, 1, 4, 5]
 (.seq (.block 1 (.seq (.reg [⟨.op (.mv (.t 0)), (some 12), none⟩, ⟨.op (.mv (.t 5)), (some 13), none⟩, ⟨.op (.ia 4 none (.t 12) (.t 13)), (some 14), none⟩, ⟨.op (.fa 0 (.t 14)), (some 15), none⟩, ⟨.op (.ld1 (.t 15)), (some 16), none⟩, ⟨.op (.mv (.t 1)), (some 17), none⟩, ⟨.op (.bin .eql 0 (.t 16) (.t 17)), (some 18), none⟩])
 [0, 1, 4, 5, 18]
 (.cond (.t 18) (.seq (.reg [⟨.op (.mv (.t 0)), (some 19), none⟩, ⟨.op (.mv (.t 5)), (some 20), none⟩, ⟨.op (.ia 4 none (.t 19) (.t 20)), (some 21), none⟩, ⟨.op (.fa 1 (.t 21)), (some 22), none⟩, ⟨.op (.ldn 3 (.t 22)), (some 23), none⟩, ⟨.op (.st 3 (.t 4) (.t 23)), none, none⟩])
 [4]
 (.ret)) (.skip))))
 [0, 1, 4, 5]
 (.reg [⟨.op (.mv (.t 5)), (some 10), none⟩, ⟨.op (.bin .add 0 (.t 10) (.c (.int .i64 1))), (some 11), none⟩, ⟨.op (.mv (.t 11)), (some 5), none⟩]))
theorem u43_0 (call : DCall) (T : Tm) (st : Dv.St) : dCw Try.prog call l43_0 T st = dCw Try.prog call
 (.seq (.seq (.reg [⟨.op (.mv (.t 5)), (some 6), none⟩, ⟨.op (.mv (.t 0)), (some 7), none⟩, ⟨.op (.len (.t 7)), (some 8), none⟩, ⟨.op (.bin .lss 0 (.t 6) (.t 8)), (some 9), none⟩])
 [0, 1, 4, 5, 9]
 (.cond (.t 9) (.skip) (.exit 0)))
 [0, 1, 4, 5]
 (.seq (.block 1 (.seq (.reg [⟨.op (.mv (.t 0)), (some 12), none⟩, ⟨.op (.mv (.t 5)), (some 13), none⟩, ⟨.op (.ia 4 none (.t 12) (.t 13)), (some 14), none⟩, ⟨.op (.fa 0 (.t 14)), (some 15), none⟩, ⟨.op (.ld1 (.t 15)), (some 16), none⟩, ⟨.op (.mv (.t 1)), (some 17), none⟩, ⟨.op (.bin .eql 0 (.t 16) (.t 17)), (some 18), none⟩])
 [0, 1, 4, 5, 18]
 (.cond (.t 18) (.seq (.reg [⟨.op (.mv (.t 0)), (some 19), none⟩, ⟨.op (.mv (.t 5)), (some 20), none⟩, ⟨.op (.ia 4 none (.t 19) (.t 20)), (some 21), none⟩, ⟨.op (.fa 1 (.t 21)), (some 22), none⟩, ⟨.op (.ldn 3 (.t 22)), (some 23), none⟩, ⟨.op (.st 3 (.t 4) (.t 23)), none, none⟩])
 [4]
 (.ret)) (.skip))))
 [0, 1, 4, 5]
 (.reg [⟨.op (.mv (.t 5)), (some 10), none⟩, ⟨.op (.bin .add 0 (.t 10) (.c (.int .i64 1))), (some 11), none⟩, ⟨.op (.mv (.t 11)), (some 5), none⟩]))) T st := rfl
/-- cardamom/cardamomref1.At -/
noncomputable def c43 : DFn := ⟨25, .pure,
 .seq (.reg [⟨.op (.new [(.int .i64 0), (.int .i64 0), (.int .i64 0)]), (some 4), none⟩])
 [0, 1, 4]
 (.seq (.seq (.reg [⟨.op (.mv (.c (.int .i64 0))), (some 5), none⟩])
 [0, 1, 4, 5]
 (.block 0 (.loop [0, 1, 4, 5] (l43_0))))
 [4]
 (.seq (.reg [⟨.op (.build [(.int .i64 0), (.int .i64 0), (.int .i64 0)] []), (some 24), none⟩, ⟨.op (.st 3 (.t 4) (.t 24)), none, none⟩])
 [4]
 (.ret))),
 [.celln 3 4]⟩
theorem k43 : cFn Try.prog 43 = some c43.toE := by kernel_rfl
theorem w43 : c43.body.wf = true := by kernel_rfl
noncomputable def l46_0 : DC :=
 .seq (.seq (.reg [⟨.op (.mv (.t 7)), (some 19), none⟩, ⟨.op (.mv (.t 0)), (some 20), none⟩, ⟨.op (.len (.t 20)), (some 21), none⟩, ⟨.op (.bin .lss 0 (.t 19) (.t 21)), (some 22), none⟩])
 [0, 3, 5, 6, 7, 22]
 (.cond (.t 22) (.skip) (.exit 0)))
 [0, 3, 5, 6, 7]
 (.seq (.block 1 (.seq (.seq (.drw [⟨⟨.op (.mv (.t 6)), (some 25), none⟩, .n, []⟩, ⟨⟨.op (.not (.t 25)), (some 26), none⟩, .n, []⟩, ⟨⟨.op (.mv (.t 26)), (some 27), none⟩, .n, []⟩, ⟨⟨.op (.mv (.t 0)), (some 28), (some (27, true))⟩, .n, []⟩, ⟨⟨.op (.mv (.t 7)), (some 29), (some (27, true))⟩, .n, []⟩, ⟨⟨.op (.ia 4 none (.t 28) (.t 29)), (some 30), (some (27, true))⟩, .n, []⟩, ⟨⟨.op (.fa 0 (.t 30)), (some 31), (some (27, true))⟩, .n, []⟩, ⟨⟨.op (.ld1 (.t 31)), (some 32), (some (27, true))⟩, .n, []⟩, ⟨⟨.op (.fa 0 (.t 3)), (some 33), (some (27, true))⟩, .n, []⟩, ⟨⟨.op (.ld1 (.t 33)), (some 34), (some (27, true))⟩, .n, []⟩, ⟨⟨.op (.bin .geq 0 (.t 32) (.t 34)), (some 35), (some (27, true))⟩, .n, []⟩, ⟨⟨.op (.pick (.t 27) (.t 35) (.c (.bool false))), (some 36), none⟩, .n, []⟩])
 [0, 3, 5, 6, 7, 36]
 (.cond (.t 36) (.reg [⟨.op (.mv (.t 5)), (some 37), none⟩, ⟨.op (.ldn 4 (.t 3)), (some 38), none⟩, ⟨.op (.bslice 4 1 [(.int .i64 0), (.int .i64 0), (.int .i64 0), (.int .i64 0)] [(0, 4, (.t 38))]), (some 39), none⟩, ⟨.op (.app 4 32 false (.t 37) (.t 39)), (some 40), none⟩, ⟨.op (.mv (.t 40)), (some 5), none⟩, ⟨.op (.mv (.c (.bool true))), (some 6), none⟩]) (.skip)))
 [0, 3, 5, 6, 7]
 (.seq (.drw [⟨⟨.op (.mv (.t 0)), (some 41), none⟩, .n, []⟩, ⟨⟨.op (.mv (.t 7)), (some 42), none⟩, .n, []⟩, ⟨⟨.op (.ia 4 none (.t 41) (.t 42)), (some 43), none⟩, .n, []⟩, ⟨⟨.op (.fa 0 (.t 43)), (some 44), none⟩, .n, []⟩, ⟨⟨.op (.ld1 (.t 44)), (some 45), none⟩, .n, []⟩, ⟨⟨.op (.fa 0 (.t 3)), (some 46), none⟩, .n, []⟩, ⟨⟨.op (.ld1 (.t 46)), (some 47), none⟩, .n, []⟩, ⟨⟨.op (.bin .neq 0 (.t 45) (.t 47)), (some 48), none⟩, .n, []⟩])
 [0, 3, 5, 6, 7, 48]
 (.cond (.t 48) (.reg [⟨.op (.mv (.t 5)), (some 49), none⟩, ⟨.op (.mv (.t 0)), (some 50), none⟩, ⟨.op (.mv (.t 7)), (some 51), none⟩, ⟨.op (.ia 4 none (.t 50) (.t 51)), (some 52), none⟩, ⟨.op (.ldn 4 (.t 52)), (some 53), none⟩, ⟨.op (.bslice 4 1 [(.int .i64 0), (.int .i64 0), (.int .i64 0), (.int .i64 0)] [(0, 4, (.t 53))]), (some 54), none⟩, ⟨.op (.app 4 32 false (.t 49) (.t 54)), (some 55), none⟩, ⟨.op (.mv (.t 55)), (some 5), none⟩]) (.skip)))))
 [0, 3, 5, 6, 7]
 (.reg [⟨.op (.mv (.t 7)), (some 23), none⟩, ⟨.op (.bin .add 0 (.t 23) (.c (.int .i64 1))), (some 24), none⟩, ⟨.op (.mv (.t 24)), (some 7), none⟩]))
theorem u46_0 (call : DCall) (T : Tm) (st : Dv.St) : dCw Try.prog call l46_0 T st = dCw Try.prog call
 (.seq (.seq (.reg [⟨.op (.mv (.t 7)), (some 19), none⟩, ⟨.op (.mv (.t 0)), (some 20), none⟩, ⟨.op (.len (.t 20)), (some 21), none⟩, ⟨.op (.bin .lss 0 (.t 19) (.t 21)), (some 22), none⟩])
 [0, 3, 5, 6, 7, 22]
 (.cond (.t 22) (.skip) (.exit 0)))
 [0, 3, 5, 6, 7]
 (.seq (.block 1 (.seq (.seq (.drw [⟨⟨.op (.mv (.t 6)), (some 25), none⟩, .n, []⟩, ⟨⟨.op (.not (.t 25)), (some 26), none⟩, .n, []⟩, ⟨⟨.op (.mv (.t 26)), (some 27), none⟩, .n, []⟩, ⟨⟨.op (.mv (.t 0)), (some 28), (some (27, true))⟩, .n, []⟩, ⟨⟨.op (.mv (.t 7)), (some 29), (some (27, true))⟩, .n, []⟩, ⟨⟨.op (.ia 4 none (.t 28) (.t 29)), (some 30), (some (27, true))⟩, .n, []⟩, ⟨⟨.op (.fa 0 (.t 30)), (some 31), (some (27, true))⟩, .n, []⟩, ⟨⟨.op (.ld1 (.t 31)), (some 32), (some (27, true))⟩, .n, []⟩, ⟨⟨.op (.fa 0 (.t 3)), (some 33), (some (27, true))⟩, .n, []⟩, ⟨⟨.op (.ld1 (.t 33)), (some 34), (some (27, true))⟩, .n, []⟩, ⟨⟨.op (.bin .geq 0 (.t 32) (.t 34)), (some 35), (some (27, true))⟩, .n, []⟩, ⟨⟨.op (.pick (.t 27) (.t 35) (.c (.bool false))), (some 36), none⟩, .n, []⟩])
 [0, 3, 5, 6, 7, 36]
 (.cond (.t 36) (.reg [⟨.op (.mv (.t 5)), (some 37), none⟩, ⟨.op (.ldn 4 (.t 3)), (some 38), none⟩, ⟨.op (.bslice 4 1 [(.int .i64 0), (.int .i64 0), (.int .i64 0), (.int .i64 0)] [(0, 4, (.t 38))]), (some 39), none⟩, ⟨.op (.app 4 32 false (.t 37) (.t 39)), (some 40), none⟩, ⟨.op (.mv (.t 40)), (some 5), none⟩, ⟨.op (.mv (.c (.bool true))), (some 6), none⟩]) (.skip)))
 [0, 3, 5, 6, 7]
 (.seq (.drw [⟨⟨.op (.mv (.t 0)), (some 41), none⟩, .n, []⟩, ⟨⟨.op (.mv (.t 7)), (some 42), none⟩, .n, []⟩, ⟨⟨.op (.ia 4 none (.t 41) (.t 42)), (some 43), none⟩, .n, []⟩, ⟨⟨.op (.fa 0 (.t 43)), (some 44), none⟩, .n, []⟩, ⟨⟨.op (.ld1 (.t 44)), (some 45), none⟩, .n, []⟩, ⟨⟨.op (.fa 0 (.t 3)), (some 46), none⟩, .n, []⟩, ⟨⟨.op (.ld1 (.t 46)), (some 47), none⟩, .n, []⟩, ⟨⟨.op (.bin .neq 0 (.t 45) (.t 47)), (some 48), none⟩, .n, []⟩])
 [0, 3, 5, 6, 7, 48]
 (.cond (.t 48) (.reg [⟨.op (.mv (.t 5)), (some 49), none⟩, ⟨.op (.mv (.t 0)), (some 50), none⟩, ⟨.op (.mv (.t 7)), (some 51), none⟩, ⟨.op (.ia 4 none (.t 50) (.t 51)), (some 52), none⟩, ⟨.op (.ldn 4 (.t 52)), (some 53), none⟩, ⟨.op (.bslice 4 1 [(.int .i64 0), (.int .i64 0), (.int .i64 0), (.int .i64 0)] [(0, 4, (.t 53))]), (some 54), none⟩, ⟨.op (.app 4 32 false (.t 49) (.t 54)), (some 55), none⟩, ⟨.op (.mv (.t 55)), (some 5), none⟩]) (.skip)))))
 [0, 3, 5, 6, 7]
 (.reg [⟨.op (.mv (.t 7)), (some 23), none⟩, ⟨.op (.bin .add 0 (.t 23) (.c (.int .i64 1))), (some 24), none⟩, ⟨.op (.mv (.t 24)), (some 7), none⟩]))) T st := rfl
/-- cardamom/cardamomref1.PutHead -/
noncomputable def c46 : DFn := ⟨63, .pure,
 .seq (.reg [⟨.op (.box (.t 1)), (some 3), none⟩, ⟨.op (.mv (.c (.sl none 0))), (some 4), none⟩])
 [0, 3]
 (.seq (.seq (.drw [⟨⟨.op (.fa 1 (.t 3)), (some 8), none⟩, .n, []⟩, ⟨⟨.op (.ldn 3 (.t 8)), (some 9), none⟩, .n, []⟩, ⟨⟨.op (.mv (.t 0)), (some 10), none⟩, .n, []⟩, ⟨⟨.op (.fa 0 (.t 3)), (some 11), none⟩, .n, []⟩, ⟨⟨.op (.ld1 (.t 11)), (some 12), none⟩, .n, []⟩, ⟨⟨.call 43 [(.t 10), (.t 12)], (some 13), none⟩, .x, [(true, 1)]⟩, ⟨⟨.call 35 [(.t 9), (.t 13)], (some 14), none⟩, .x, []⟩, ⟨⟨.op (.bin .leq 0 (.t 14) (.c (.int .i64 0))), (some 15), none⟩, .n, []⟩])
 [0, 3, 15]
 (.cond (.t 15) (.seq (.reg [⟨.op (.bslice 4 0 [] []), (some 16), none⟩, ⟨.op (.mv (.t 0)), (some 17), none⟩, ⟨.op (.app 4 32 false (.t 16) (.t 17)), (some 18), none⟩, ⟨.op (.mv (.t 18)), (some 4), none⟩])
 [4]
 (.ret)) (.skip)))
 [0, 3]
 (.seq (.reg [⟨.op (.mv (.c (.sl none 0))), (some 5), none⟩])
 [0, 3, 5]
 (.seq (.reg [⟨.op (.mv (.c (.bool false))), (some 6), none⟩])
 [0, 3, 5, 6]
 (.seq (.seq (.reg [⟨.op (.mv (.c (.int .i64 0))), (some 7), none⟩])
 [0, 3, 5, 6, 7]
 (.block 0 (.loop [0, 3, 5, 6, 7] (l46_0))))
 [3, 5, 6]
 (.seq (.seq (.reg [⟨.op (.mv (.t 6)), (some 56), none⟩, ⟨.op (.not (.t 56)), (some 57), none⟩])
 [3, 5, 57]
 (.cond (.t 57) (.reg [⟨.op (.mv (.t 5)), (some 58), none⟩, ⟨.op (.ldn 4 (.t 3)), (some 59), none⟩, ⟨.op (.bslice 4 1 [(.int .i64 0), (.int .i64 0), (.int .i64 0), (.int .i64 0)] [(0, 4, (.t 59))]), (some 60), none⟩, ⟨.op (.app 4 32 false (.t 58) (.t 60)), (some 61), none⟩, ⟨.op (.mv (.t 61)), (some 5), none⟩]) (.skip)))
 [5]
 (.seq (.reg [⟨.op (.mv (.t 5)), (some 62), none⟩, ⟨.op (.mv (.t 62)), (some 4), none⟩])
 [4]
 (.ret))))))),
 [.tmp 4]⟩
theorem k46 : cFn Try.prog 46 = some c46.toE := by kernel_rfl
theorem w46 : c46.body.wf = true := by kernel_rfl
noncomputable def l63_0 : DC :=
 .seq (.seq (.reg [⟨.op (.mv (.t 6)), (some 7), none⟩, ⟨.op (.fa 5 (.t 2)), (some 8), none⟩, ⟨.op (.ld1 (.t 8)), (some 9), none⟩, ⟨.op (.len (.t 9)), (some 10), none⟩, ⟨.op (.bin .lss 0 (.t 7) (.t 10)), (some 11), none⟩])
 [1, 2, 6, 11]
 (.cond (.t 11) (.skip) (.exit 0)))
 [1, 2, 6]
 (.seq (.block 1 (.seq (.reg [⟨.op (.fa 5 (.t 2)), (some 14), none⟩, ⟨.op (.ld1 (.t 14)), (some 15), none⟩, ⟨.op (.mv (.t 6)), (some 16), none⟩, ⟨.op (.ia 2 none (.t 15) (.t 16)), (some 17), none⟩, ⟨.op (.fa 0 (.t 17)), (some 18), none⟩, ⟨.op (.ld1 (.t 18)), (some 19), none⟩, ⟨.op (.mv (.t 1)), (some 20), none⟩, ⟨.op (.bin .eql 0 (.t 19) (.t 20)), (some 21), none⟩])
 [1, 2, 6, 21]
 (.cond (.t 21) (.seq (.reg [⟨.op (.fa 5 (.t 2)), (some 22), none⟩, ⟨.op (.ld1 (.t 22)), (some 23), none⟩, ⟨.op (.mv (.t 6)), (some 24), none⟩, ⟨.op (.ia 2 none (.t 23) (.t 24)), (some 25), none⟩, ⟨.op (.fa 1 (.t 25)), (some 26), none⟩, ⟨.op (.ld1 (.t 26)), (some 27), none⟩, ⟨.op (.mv (.t 27)), (some 4), none⟩, ⟨.op (.mv (.c (.bool true))), (some 5), none⟩])
 [4, 5]
 (.ret)) (.skip))))
 [1, 2, 6]
 (.reg [⟨.op (.mv (.t 6)), (some 12), none⟩, ⟨.op (.bin .add 0 (.t 12) (.c (.int .i64 1))), (some 13), none⟩, ⟨.op (.mv (.t 13)), (some 6), none⟩]))
theorem u63_0 (call : DCall) (T : Tm) (st : Dv.St) : dCw Try.prog call l63_0 T st = dCw Try.prog call
 (.seq (.seq (.reg [⟨.op (.mv (.t 6)), (some 7), none⟩, ⟨.op (.fa 5 (.t 2)), (some 8), none⟩, ⟨.op (.ld1 (.t 8)), (some 9), none⟩, ⟨.op (.len (.t 9)), (some 10), none⟩, ⟨.op (.bin .lss 0 (.t 7) (.t 10)), (some 11), none⟩])
 [1, 2, 6, 11]
 (.cond (.t 11) (.skip) (.exit 0)))
 [1, 2, 6]
 (.seq (.block 1 (.seq (.reg [⟨.op (.fa 5 (.t 2)), (some 14), none⟩, ⟨.op (.ld1 (.t 14)), (some 15), none⟩, ⟨.op (.mv (.t 6)), (some 16), none⟩, ⟨.op (.ia 2 none (.t 15) (.t 16)), (some 17), none⟩, ⟨.op (.fa 0 (.t 17)), (some 18), none⟩, ⟨.op (.ld1 (.t 18)), (some 19), none⟩, ⟨.op (.mv (.t 1)), (some 20), none⟩, ⟨.op (.bin .eql 0 (.t 19) (.t 20)), (some 21), none⟩])
 [1, 2, 6, 21]
 (.cond (.t 21) (.seq (.reg [⟨.op (.fa 5 (.t 2)), (some 22), none⟩, ⟨.op (.ld1 (.t 22)), (some 23), none⟩, ⟨.op (.mv (.t 6)), (some 24), none⟩, ⟨.op (.ia 2 none (.t 23) (.t 24)), (some 25), none⟩, ⟨.op (.fa 1 (.t 25)), (some 26), none⟩, ⟨.op (.ld1 (.t 26)), (some 27), none⟩, ⟨.op (.mv (.t 27)), (some 4), none⟩, ⟨.op (.mv (.c (.bool true))), (some 5), none⟩])
 [4, 5]
 (.ret)) (.skip))))
 [1, 2, 6]
 (.reg [⟨.op (.mv (.t 6)), (some 12), none⟩, ⟨.op (.bin .add 0 (.t 12) (.c (.int .i64 1))), (some 13), none⟩, ⟨.op (.mv (.t 13)), (some 6), none⟩]))) T st := rfl
/-- cardamom/cardamomref1.Attr -/
noncomputable def c63 : DFn := ⟨28, .pure,
 .seq (.reg [⟨.op (.box (.t 0)), (some 2), none⟩, ⟨.op (.mv (.c (.int .i64 0))), (some 4), none⟩, ⟨.op (.mv (.c (.bool false))), (some 5), none⟩])
 [1, 2]
 (.seq (.seq (.reg [⟨.op (.mv (.c (.int .i64 0))), (some 6), none⟩])
 [1, 2, 6]
 (.block 0 (.loop [1, 2, 6] (l63_0))))
 []
 (.seq (.reg [⟨.op (.mv (.c (.int .i64 0))), (some 4), none⟩, ⟨.op (.mv (.c (.bool false))), (some 5), none⟩])
 [4, 5]
 (.ret))),
 [.tmp 4, .tmp 5]⟩
theorem k63 : cFn Try.prog 63 = some c63.toE := by kernel_rfl
theorem w63 : c63.body.wf = true := by kernel_rfl
/-- cardamom/cardamomref4.Lets -/
noncomputable def c30 : DFn := ⟨82, .pure,
 .seq (.reg [⟨.op (.box (.t 0)), (some 2), none⟩, ⟨.op (.box (.t 1)), (some 3), none⟩, ⟨.op (.mv (.c (.bool false))), (some 4), none⟩])
 [2, 3]
 (.seq (.seq (.reg [⟨.op (.fa 0 (.t 2)), (some 7), none⟩, ⟨.op (.ld1 (.t 7)), (some 8), none⟩])
 [2, 3, 8]
 (.block 0 (.seq (.reg [⟨.op (.bin .eql 0 (.t 8) (.c (.int .i64 1))), (some 10), none⟩, ⟨.op (.mv (.t 10)), (some 9), none⟩])
 [2, 3, 8, 9]
 (.cond (.t 9) (.seq (.reg [⟨.op (.mv (.c (.bool true))), (some 4), none⟩])
 [4]
 (.ret)) (.seq (.seq (.reg [⟨.op (.bin .eql 0 (.t 8) (.c (.int .i64 2))), (some 12), none⟩, ⟨.op (.mv (.t 12)), (some 11), none⟩])
 [2, 3, 8, 11]
 (.cond (.t 11) (.skip) (.reg [⟨.op (.bin .eql 0 (.t 8) (.c (.int .i64 3))), (some 13), none⟩, ⟨.op (.mv (.t 13)), (some 11), none⟩])))
 [2, 3, 8, 11]
 (.cond (.t 11) (.seq (.reg [⟨.op (.ldn 8 (.t 3)), (some 15), none⟩, ⟨.op (.fa 1 (.t 2)), (some 16), none⟩, ⟨.op (.ld1 (.t 16)), (some 17), none⟩, ⟨.call 63 [(.t 15), (.t 17)], (some 18), none⟩, ⟨.op (.mv (.t 18)), (some 14), none⟩, ⟨.op (.ext (.t 14) 0), (some 19), none⟩, ⟨.op (.ext (.t 14) 1), (some 20), none⟩, ⟨.op (.mv (.t 19)), (some 5), none⟩, ⟨.op (.mv (.t 20)), (some 6), none⟩])
 [2, 5, 6]
 (.seq (.reg [⟨.op (.mv (.t 6)), (some 21), none⟩, ⟨.op (.mv (.t 21)), (some 22), none⟩, ⟨.op (.mv (.t 5)), (some 23), (some (22, true))⟩, ⟨.op (.fa 2 (.t 2)), (some 24), (some (22, true))⟩, ⟨.op (.ld1 (.t 24)), (some 25), (some (22, true))⟩, ⟨.op (.bin .geq 0 (.t 23) (.t 25)), (some 26), (some (22, true))⟩, ⟨.op (.pick (.t 22) (.t 26) (.c (.bool false))), (some 27), none⟩, ⟨.op (.mv (.t 27)), (some 28), none⟩, ⟨.op (.mv (.t 5)), (some 29), (some (28, true))⟩, ⟨.op (.fa 3 (.t 2)), (some 30), (some (28, true))⟩, ⟨.op (.ld1 (.t 30)), (some 31), (some (28, true))⟩, ⟨.op (.bin .leq 0 (.t 29) (.t 31)), (some 32), (some (28, true))⟩, ⟨.op (.pick (.t 28) (.t 32) (.c (.bool false))), (some 33), none⟩, ⟨.op (.mv (.t 33)), (some 4), none⟩])
 [4]
 (.ret))) (.seq (.reg [⟨.op (.bin .eql 0 (.t 8) (.c (.int .i64 4))), (some 35), none⟩, ⟨.op (.mv (.t 35)), (some 34), none⟩])
 [2, 3, 8, 34]
 (.cond (.t 34) (.seq (.reg [⟨.op (.fa 6 (.t 3)), (some 36), none⟩, ⟨.op (.ld1 (.t 36)), (some 37), none⟩, ⟨.op (.fa 4 (.t 2)), (some 38), none⟩, ⟨.op (.ld1 (.t 38)), (some 39), none⟩, ⟨.call 64 [(.t 37), (.t 39)], (some 40), none⟩, ⟨.op (.mv (.t 40)), (some 4), none⟩])
 [4]
 (.ret)) (.seq (.reg [⟨.op (.bin .eql 0 (.t 8) (.c (.int .i64 5))), (some 42), none⟩, ⟨.op (.mv (.t 42)), (some 41), none⟩])
 [2, 3, 8, 41]
 (.cond (.t 41) (.seq (.drw [⟨⟨.op (.fa 5 (.t 2)), (some 43), none⟩, .n, []⟩, ⟨⟨.op (.ld1 (.t 43)), (some 44), none⟩, .n, []⟩, ⟨⟨.op (.ia 6 none (.t 44) (.c (.int .i64 0))), (some 45), none⟩, .n, []⟩, ⟨⟨.op (.ldn 6 (.t 45)), (some 46), none⟩, .n, []⟩, ⟨⟨.op (.ldn 8 (.t 3)), (some 47), none⟩, .n, []⟩, ⟨⟨.call 30 [(.t 46), (.t 47)], (some 48), none⟩, .x, []⟩, ⟨⟨.op (.mv (.t 48)), (some 49), none⟩, .n, []⟩, ⟨⟨.op (.fa 5 (.t 2)), (some 50), (some (49, true))⟩, .n, []⟩, ⟨⟨.op (.ld1 (.t 50)), (some 51), (some (49, true))⟩, .n, []⟩, ⟨⟨.op (.ia 6 none (.t 51) (.c (.int .i64 1))), (some 52), (some (49, true))⟩, .n, []⟩, ⟨⟨.op (.ldn 6 (.t 52)), (some 53), (some (49, true))⟩, .n, []⟩, ⟨⟨.op (.ldn 8 (.t 3)), (some 54), (some (49, true))⟩, .n, []⟩, ⟨⟨.call 30 [(.t 53), (.t 54)], (some 55), (some (49, true))⟩, .x, []⟩, ⟨⟨.op (.pick (.t 49) (.t 55) (.c (.bool false))), (some 56), none⟩, .n, []⟩, ⟨⟨.op (.mv (.t 56)), (some 4), none⟩, .x, []⟩])
 [4]
 (.ret)) (.seq (.reg [⟨.op (.bin .eql 0 (.t 8) (.c (.int .i64 6))), (some 58), none⟩, ⟨.op (.mv (.t 58)), (some 57), none⟩])
 [2, 3, 8, 57]
 (.cond (.t 57) (.seq (.drw [⟨⟨.op (.fa 5 (.t 2)), (some 59), none⟩, .n, []⟩, ⟨⟨.op (.ld1 (.t 59)), (some 60), none⟩, .n, []⟩, ⟨⟨.op (.ia 6 none (.t 60) (.c (.int .i64 0))), (some 61), none⟩, .n, []⟩, ⟨⟨.op (.ldn 6 (.t 61)), (some 62), none⟩, .n, []⟩, ⟨⟨.op (.ldn 8 (.t 3)), (some 63), none⟩, .n, []⟩, ⟨⟨.call 30 [(.t 62), (.t 63)], (some 64), none⟩, .x, []⟩, ⟨⟨.op (.mv (.t 64)), (some 65), none⟩, .n, []⟩, ⟨⟨.op (.fa 5 (.t 2)), (some 66), (some (65, false))⟩, .n, []⟩, ⟨⟨.op (.ld1 (.t 66)), (some 67), (some (65, false))⟩, .n, []⟩, ⟨⟨.op (.ia 6 none (.t 67) (.c (.int .i64 1))), (some 68), (some (65, false))⟩, .n, []⟩, ⟨⟨.op (.ldn 6 (.t 68)), (some 69), (some (65, false))⟩, .n, []⟩, ⟨⟨.op (.ldn 8 (.t 3)), (some 70), (some (65, false))⟩, .n, []⟩, ⟨⟨.call 30 [(.t 69), (.t 70)], (some 71), (some (65, false))⟩, .x, []⟩, ⟨⟨.op (.pick (.t 65) (.c (.bool true)) (.t 71)), (some 72), none⟩, .n, []⟩, ⟨⟨.op (.mv (.t 72)), (some 4), none⟩, .x, []⟩])
 [4]
 (.ret)) (.seq (.reg [⟨.op (.bin .eql 0 (.t 8) (.c (.int .i64 7))), (some 74), none⟩, ⟨.op (.mv (.t 74)), (some 73), none⟩])
 [2, 3, 73]
 (.cond (.t 73) (.seq (.drw [⟨⟨.op (.fa 5 (.t 2)), (some 75), none⟩, .n, []⟩, ⟨⟨.op (.ld1 (.t 75)), (some 76), none⟩, .n, []⟩, ⟨⟨.op (.ia 6 none (.t 76) (.c (.int .i64 0))), (some 77), none⟩, .n, []⟩, ⟨⟨.op (.ldn 6 (.t 77)), (some 78), none⟩, .n, []⟩, ⟨⟨.op (.ldn 8 (.t 3)), (some 79), none⟩, .n, []⟩, ⟨⟨.call 30 [(.t 78), (.t 79)], (some 80), none⟩, .x, []⟩, ⟨⟨.op (.not (.t 80)), (some 81), none⟩, .n, []⟩, ⟨⟨.op (.mv (.t 81)), (some 4), none⟩, .x, []⟩])
 [4]
 (.ret)) (.skip)))))))))))))))
 []
 (.seq (.reg [⟨.op (.mv (.c (.bool false))), (some 4), none⟩])
 [4]
 (.ret))),
 [.tmp 4]⟩
theorem k30 : cFn Try.prog 30 = some c30.toE := by kernel_rfl
theorem w30 : c30.body.wf = true := by kernel_rfl
/-- cardamom/cardamomref4.begins -/
noncomputable def c64 : DFn := ⟨18, .pure,
 .seq (.reg [⟨.op (.mv (.c (.bool false))), (some 4), none⟩])
 [0, 1]
 (.seq (.reg [⟨.op (.mv (.t 0)), (some 5), none⟩, ⟨.op (.lenstr (.t 5)), (some 6), none⟩, ⟨.op (.mv (.t 1)), (some 7), none⟩, ⟨.op (.lenstr (.t 7)), (some 8), none⟩, ⟨.op (.bin .geq 0 (.t 6) (.t 8)), (some 9), none⟩, ⟨.op (.mv (.t 9)), (some 10), none⟩, ⟨.op (.mv (.t 0)), (some 11), (some (10, true))⟩, ⟨.op (.mv (.t 1)), (some 12), (some (10, true))⟩, ⟨.op (.lenstr (.t 12)), (some 13), (some (10, true))⟩, ⟨.op (.cuts (.t 11) none (some (.t 13))), (some 14), (some (10, true))⟩, ⟨.op (.mv (.t 1)), (some 15), (some (10, true))⟩, ⟨.op (.bin .eql 0 (.t 14) (.t 15)), (some 16), (some (10, true))⟩, ⟨.op (.pick (.t 10) (.t 16) (.c (.bool false))), (some 17), none⟩, ⟨.op (.mv (.t 17)), (some 4), none⟩])
 [4]
 (.ret)),
 [.tmp 4]⟩
theorem k64 : cFn Try.prog 64 = some c64.toE := by kernel_rfl
theorem w64 : c64.body.wf = true := by kernel_rfl
/-- cardamom/hold.Find -/
noncomputable def c19 : DFn := ⟨22, .pure,
 .seq (.reg [⟨.op (.new [(.int .i64 0), (.int .i64 0), (.int .i64 0), (.int .i64 0), (.bool false), (.sl none 0), (.str []), (.str [])]), (some 4), none⟩, ⟨.op (.mv (.c (.bool false))), (some 5), none⟩])
 [0, 1, 4]
 (.seq (.reg [⟨.op (.mv (.t 0)), (some 9), none⟩, ⟨.op (.mv (.t 1)), (some 10), none⟩, ⟨.call 56 [(.t 9), (.t 10)], (some 11), none⟩, ⟨.op (.mv (.t 11)), (some 8), none⟩, ⟨.op (.ext (.t 8) 0), (some 12), none⟩, ⟨.op (.ext (.t 8) 1), (some 13), none⟩, ⟨.op (.mv (.t 12)), (some 6), none⟩, ⟨.op (.mv (.t 13)), (some 7), none⟩])
 [0, 4, 6, 7]
 (.seq (.seq (.reg [⟨.op (.mv (.t 7)), (some 14), none⟩, ⟨.op (.not (.t 14)), (some 15), none⟩])
 [0, 4, 6, 15]
 (.cond (.t 15) (.seq (.reg [⟨.op (.build [(.int .i64 0), (.int .i64 0), (.int .i64 0), (.int .i64 0), (.bool false), (.sl none 0), (.str []), (.str [])] []), (some 16), none⟩, ⟨.op (.st 8 (.t 4) (.t 16)), none, none⟩, ⟨.op (.mv (.c (.bool false))), (some 5), none⟩])
 [4, 5]
 (.ret)) (.skip)))
 [0, 4, 6]
 (.seq (.reg [⟨.op (.mv (.t 0)), (some 17), none⟩, ⟨.op (.mv (.t 6)), (some 18), none⟩, ⟨.op (.ia 8 none (.t 17) (.t 18)), (some 19), none⟩, ⟨.op (.ldn 8 (.t 19)), (some 20), none⟩, ⟨.call 57 [(.t 20)], (some 21), none⟩, ⟨.op (.st 8 (.t 4) (.t 21)), none, none⟩, ⟨.op (.mv (.c (.bool true))), (some 5), none⟩])
 [4, 5]
 (.ret)))),
 [.celln 8 4, .tmp 5]⟩
theorem k19 : cFn Try.prog 19 = some c19.toE := by kernel_rfl
theorem w19 : c19.body.wf = true := by kernel_rfl
/-- cardamom/hold.Put -/
noncomputable def c23 : DFn := ⟨40, .pure,
 .seq (.reg [⟨.op (.box (.t 1)), (some 3), none⟩, ⟨.op (.mv (.c (.sl none 0))), (some 4), none⟩])
 [0, 3]
 (.seq (.reg [⟨.op (.mv (.t 0)), (some 8), none⟩, ⟨.call 58 [(.t 8)], (some 9), none⟩, ⟨.op (.mv (.t 9)), (some 5), none⟩])
 [0, 3, 5]
 (.seq (.reg [⟨.op (.mv (.t 0)), (some 11), none⟩, ⟨.op (.fa 0 (.t 3)), (some 12), none⟩, ⟨.op (.ld1 (.t 12)), (some 13), none⟩, ⟨.call 56 [(.t 11), (.t 13)], (some 14), none⟩, ⟨.op (.mv (.t 14)), (some 10), none⟩, ⟨.op (.ext (.t 10) 0), (some 15), none⟩, ⟨.op (.ext (.t 10) 1), (some 16), none⟩, ⟨.op (.mv (.t 15)), (some 6), none⟩, ⟨.op (.mv (.t 16)), (some 7), none⟩])
 [3, 5, 6, 7]
 (.seq (.block 0 (.seq (.reg [⟨.op (.mv (.t 7)), (some 18), none⟩, ⟨.op (.not (.t 18)), (some 19), none⟩, ⟨.op (.mv (.t 19)), (some 17), none⟩])
 [3, 5, 6, 17]
 (.cond (.t 17) (.seq (.reg [⟨.op (.mv (.t 5)), (some 20), none⟩, ⟨.op (.mv (.t 6)), (some 21), none⟩, ⟨.op (.ldn 8 (.t 3)), (some 22), none⟩, ⟨.call 57 [(.t 22)], (some 23), none⟩, ⟨.op (.bslice 8 1 [(.int .i64 0), (.int .i64 0), (.int .i64 0), (.int .i64 0), (.bool false), (.sl none 0), (.str []), (.str [])] [(0, 8, (.t 23))]), (some 24), none⟩, ⟨.call 59 [(.t 20), (.t 21), (.t 24)], (some 25), none⟩, ⟨.op (.mv (.t 25)), (some 4), none⟩])
 [4]
 (.ret)) (.seq (.drw [⟨⟨.op (.mv (.t 5)), (some 27), none⟩, .n, []⟩, ⟨⟨.op (.mv (.t 6)), (some 28), none⟩, .n, []⟩, ⟨⟨.op (.ia 8 none (.t 27) (.t 28)), (some 29), none⟩, .n, []⟩, ⟨⟨.op (.ldn 8 (.t 29)), (some 30), none⟩, .n, []⟩, ⟨⟨.op (.ldn 8 (.t 3)), (some 31), none⟩, .n, []⟩, ⟨⟨.call 60 [(.t 30), (.t 31)], (some 32), none⟩, .x, []⟩, ⟨⟨.op (.mv (.t 32)), (some 26), none⟩, .x, []⟩])
 [3, 5, 6, 26]
 (.cond (.t 26) (.seq (.reg [⟨.op (.mv (.t 5)), (some 33), none⟩, ⟨.op (.mv (.t 33)), (some 4), none⟩])
 [4]
 (.ret)) (.skip))))))
 [3, 5, 6]
 (.seq (.reg [⟨.op (.mv (.t 5)), (some 34), none⟩, ⟨.op (.mv (.t 6)), (some 35), none⟩, ⟨.op (.ldn 8 (.t 3)), (some 36), none⟩, ⟨.call 57 [(.t 36)], (some 37), none⟩, ⟨.op (.ia 8 none (.t 34) (.t 35)), (some 38), none⟩, ⟨.op (.st 8 (.t 38) (.t 37)), none, none⟩])
 [5]
 (.seq (.reg [⟨.op (.mv (.t 5)), (some 39), none⟩, ⟨.op (.mv (.t 39)), (some 4), none⟩])
 [4]
 (.ret)))))),
 [.tmp 4]⟩
theorem k23 : cFn Try.prog 23 = some c23.toE := by kernel_rfl
theorem w23 : c23.body.wf = true := by kernel_rfl
/-- cardamom/hold.Without -/
noncomputable def c25 : DFn := ⟨8, .pure,
 .seq (.reg [⟨.op (.box (.t 1)), (some 3), none⟩, ⟨.op (.mv (.c (.sl none 0))), (some 4), none⟩])
 [0, 3]
 (.seq (.reg [⟨.op (.mv (.t 0)), (some 5), none⟩, ⟨.op (.fn 62 [(.t 3)]), (some 6), none⟩, ⟨.call 61 [(.t 5), (.t 6)], (some 7), none⟩, ⟨.op (.mv (.t 7)), (some 4), none⟩])
 [4]
 (.ret)),
 [.tmp 4]⟩
theorem k25 : cFn Try.prog 25 = some c25.toE := by kernel_rfl
theorem w25 : c25.body.wf = true := by kernel_rfl
noncomputable def l28_0 : DC :=
 .seq (.reg [⟨.op (.bin .lss 0 (.t 7) (.t 6)), (some 8), none⟩])
 [2, 5, 6, 7, 8]
 (.seq (.cond (.t 8) (.skip) (.exit 0))
 [2, 5, 6, 7]
 (.seq (.block 1 (.seq (.reg [⟨.op (.ia 8 none (.t 5) (.t 7)), (some 9), none⟩, ⟨.op (.ldn 8 (.t 9)), (some 10), none⟩, ⟨.op (.new [(.int .i64 0), (.int .i64 0), (.int .i64 0), (.int .i64 0), (.bool false), (.sl none 0), (.str []), (.str [])]), (some 4), none⟩, ⟨.op (.st 8 (.t 4) (.t 10)), none, none⟩])
 [2, 4, 5, 6, 7]
 (.reg [⟨.op (.mv (.t 2)), (some 11), none⟩, ⟨.op (.fa 0 (.t 4)), (some 12), none⟩, ⟨.op (.ld1 (.t 12)), (some 13), none⟩, ⟨.op (.fa 1 (.t 4)), (some 14), none⟩, ⟨.op (.ldn 3 (.t 14)), (some 15), none⟩, ⟨.op (.build [(.int .i64 0), (.int .i64 0), (.int .i64 0), (.int .i64 0)] [(0, 1, (.t 13)), (1, 3, (.t 15))]), (some 16), none⟩, ⟨.op (.bslice 4 1 [(.int .i64 0), (.int .i64 0), (.int .i64 0), (.int .i64 0)] [(0, 4, (.t 16))]), (some 17), none⟩, ⟨.op (.app 4 32 false (.t 11) (.t 17)), (some 18), none⟩, ⟨.op (.mv (.t 18)), (some 2), none⟩])))
 [2, 5, 6, 7]
 (.reg [⟨.op (.bin .add 0 (.t 7) (.c (.int .i64 1))), (some 19), none⟩, ⟨.op (.mv (.t 19)), (some 7), none⟩])))
theorem u28_0 (call : DCall) (T : Tm) (st : Dv.St) : dCw Try.prog call l28_0 T st = dCw Try.prog call
 (.seq (.reg [⟨.op (.bin .lss 0 (.t 7) (.t 6)), (some 8), none⟩])
 [2, 5, 6, 7, 8]
 (.seq (.cond (.t 8) (.skip) (.exit 0))
 [2, 5, 6, 7]
 (.seq (.block 1 (.seq (.reg [⟨.op (.ia 8 none (.t 5) (.t 7)), (some 9), none⟩, ⟨.op (.ldn 8 (.t 9)), (some 10), none⟩, ⟨.op (.new [(.int .i64 0), (.int .i64 0), (.int .i64 0), (.int .i64 0), (.bool false), (.sl none 0), (.str []), (.str [])]), (some 4), none⟩, ⟨.op (.st 8 (.t 4) (.t 10)), none, none⟩])
 [2, 4, 5, 6, 7]
 (.reg [⟨.op (.mv (.t 2)), (some 11), none⟩, ⟨.op (.fa 0 (.t 4)), (some 12), none⟩, ⟨.op (.ld1 (.t 12)), (some 13), none⟩, ⟨.op (.fa 1 (.t 4)), (some 14), none⟩, ⟨.op (.ldn 3 (.t 14)), (some 15), none⟩, ⟨.op (.build [(.int .i64 0), (.int .i64 0), (.int .i64 0), (.int .i64 0)] [(0, 1, (.t 13)), (1, 3, (.t 15))]), (some 16), none⟩, ⟨.op (.bslice 4 1 [(.int .i64 0), (.int .i64 0), (.int .i64 0), (.int .i64 0)] [(0, 4, (.t 16))]), (some 17), none⟩, ⟨.op (.app 4 32 false (.t 11) (.t 17)), (some 18), none⟩, ⟨.op (.mv (.t 18)), (some 2), none⟩])))
 [2, 5, 6, 7]
 (.reg [⟨.op (.bin .add 0 (.t 7) (.c (.int .i64 1))), (some 19), none⟩, ⟨.op (.mv (.t 19)), (some 7), none⟩])))) T st := rfl
/-- cardamom/hold.Heads -/
noncomputable def c28 : DFn := ⟨21, .pure,
 .seq (.reg [⟨.op (.mv (.c (.sl none 0))), (some 2), none⟩])
 [0, 2]
 (.seq (.seq (.reg [⟨.op (.mv (.t 0)), (some 5), none⟩, ⟨.op (.len (.t 5)), (some 6), none⟩, ⟨.op (.mv (.c (.int .i64 0))), (some 7), none⟩])
 [2, 5, 6, 7]
 (.block 0 (.loop [2, 5, 6, 7] (l28_0))))
 [2]
 (.seq (.reg [⟨.op (.mv (.t 2)), (some 20), none⟩, ⟨.op (.mv (.t 20)), (some 2), none⟩])
 [2]
 (.ret))),
 [.tmp 2]⟩
theorem k28 : cFn Try.prog 28 = some c28.toE := by kernel_rfl
theorem w28 : c28.body.wf = true := by kernel_rfl
/-- cardamom/hold.In -/
noncomputable def c31 : DFn := ⟨8, .pure,
 .seq (.reg [⟨.op (.box (.t 1)), (some 3), none⟩, ⟨.op (.mv (.c (.sl none 0))), (some 4), none⟩])
 [0, 3]
 (.seq (.reg [⟨.op (.mv (.t 0)), (some 5), none⟩, ⟨.op (.fn 65 [(.t 3)]), (some 6), none⟩, ⟨.call 61 [(.t 5), (.t 6)], (some 7), none⟩, ⟨.op (.mv (.t 7)), (some 4), none⟩])
 [4]
 (.ret)),
 [.tmp 4]⟩
theorem k31 : cFn Try.prog 31 = some c31.toE := by kernel_rfl
theorem w31 : c31.body.wf = true := by kernel_rfl
/-- cardamom/hold.Out -/
noncomputable def c32 : DFn := ⟨8, .pure,
 .seq (.reg [⟨.op (.box (.t 1)), (some 3), none⟩, ⟨.op (.mv (.c (.sl none 0))), (some 4), none⟩])
 [0, 3]
 (.seq (.reg [⟨.op (.mv (.t 0)), (some 5), none⟩, ⟨.op (.fn 67 [(.t 3)]), (some 6), none⟩, ⟨.call 61 [(.t 5), (.t 6)], (some 7), none⟩, ⟨.op (.mv (.t 7)), (some 4), none⟩])
 [4]
 (.ret)),
 [.tmp 4]⟩
theorem k32 : cFn Try.prog 32 = some c32.toE := by kernel_rfl
theorem w32 : c32.body.wf = true := by kernel_rfl
/-- cardamom/hold.place -/
noncomputable def c56 : DFn := ⟨11, .pure,
 .seq (.reg [⟨.op (.mv (.c (.int .i64 0))), (some 4), none⟩, ⟨.op (.mv (.c (.bool false))), (some 5), none⟩])
 [0, 1]
 (.seq (.reg [⟨.op (.mv (.t 0)), (some 6), none⟩, ⟨.op (.mv (.t 1)), (some 7), none⟩, ⟨.call 84 [(.t 6), (.t 7), (.c (.fn 85 []))], (some 8), none⟩, ⟨.op (.ext (.t 8) 0), (some 9), none⟩, ⟨.op (.ext (.t 8) 1), (some 10), none⟩, ⟨.op (.mv (.t 9)), (some 4), none⟩, ⟨.op (.mv (.t 10)), (some 5), none⟩])
 [4, 5]
 (.ret)),
 [.tmp 4, .tmp 5]⟩
theorem k56 : cFn Try.prog 56 = some c56.toE := by kernel_rfl
theorem w56 : c56.body.wf = true := by kernel_rfl
/-- cardamom/hold.mine -/
noncomputable def c57 : DFn := ⟨8, .pure,
 .seq (.reg [⟨.op (.box (.t 0)), (some 1), none⟩, ⟨.op (.new [(.int .i64 0), (.int .i64 0), (.int .i64 0), (.int .i64 0), (.bool false), (.sl none 0), (.str []), (.str [])]), (some 2), none⟩])
 [1, 2]
 (.seq (.reg [⟨.op (.fa 5 (.t 1)), (some 3), none⟩, ⟨.op (.ld1 (.t 3)), (some 4), none⟩, ⟨.call 87 [(.t 4)], (some 5), none⟩, ⟨.op (.fa 5 (.t 1)), (some 6), none⟩, ⟨.op (.st 1 (.t 6) (.t 5)), none, none⟩])
 [1, 2]
 (.seq (.reg [⟨.op (.ldn 8 (.t 1)), (some 7), none⟩, ⟨.op (.st 8 (.t 2) (.t 7)), none, none⟩])
 [2]
 (.ret))),
 [.celln 8 2]⟩
theorem k57 : cFn Try.prog 57 = some c57.toE := by kernel_rfl
theorem w57 : c57.body.wf = true := by kernel_rfl
/-- cardamom/hold.all -/
noncomputable def c58 : DFn := ⟨5, .own,
 .seq (.reg [⟨.op (.mv (.c (.sl none 0))), (some 2), none⟩])
 [0]
 (.seq (.reg [⟨.op (.mv (.t 0)), (some 3), none⟩, ⟨.call 61 [(.t 3), (.c (.fn 88 []))], (some 4), none⟩, ⟨.op (.mv (.t 4)), (some 2), none⟩])
 [2]
 (.ret)),
 [.tmp 2]⟩
theorem k58 : cFn Try.prog 58 = some c58.toE := by kernel_rfl
theorem w58 : c58.body.wf = true := by kernel_rfl
noncomputable def l61_0 : DC :=
 .seq (.reg [⟨.op (.bin .lss 0 (.t 9) (.t 8)), (some 10), none⟩])
 [1, 4, 7, 8, 9, 10]
 (.seq (.cond (.t 10) (.skip) (.exit 0))
 [1, 4, 7, 8, 9]
 (.seq (.block 1 (.seq (.reg [⟨.op (.ia 8 none (.t 7) (.t 9)), (some 11), none⟩, ⟨.op (.ldn 8 (.t 11)), (some 12), none⟩, ⟨.op (.new [(.int .i64 0), (.int .i64 0), (.int .i64 0), (.int .i64 0), (.bool false), (.sl none 0), (.str []), (.str [])]), (some 6), none⟩, ⟨.op (.st 8 (.t 6) (.t 12)), none, none⟩])
 [1, 4, 6, 7, 8, 9]
 (.seq (.reg [⟨.op (.mv (.t 1)), (some 13), none⟩, ⟨.op (.ldn 8 (.t 6)), (some 14), none⟩, ⟨.callv (.t 13) [(.t 14)], (some 15), none⟩])
 [1, 4, 6, 7, 8, 9, 15]
 (.cond (.t 15) (.reg [⟨.op (.mv (.t 4)), (some 16), none⟩, ⟨.op (.ldn 8 (.t 6)), (some 17), none⟩, ⟨.call 57 [(.t 17)], (some 18), none⟩, ⟨.op (.bslice 8 1 [(.int .i64 0), (.int .i64 0), (.int .i64 0), (.int .i64 0), (.bool false), (.sl none 0), (.str []), (.str [])] [(0, 8, (.t 18))]), (some 19), none⟩, ⟨.op (.app 8 96 false (.t 16) (.t 19)), (some 20), none⟩, ⟨.op (.mv (.t 20)), (some 4), none⟩]) (.skip)))))
 [1, 4, 7, 8, 9]
 (.reg [⟨.op (.bin .add 0 (.t 9) (.c (.int .i64 1))), (some 21), none⟩, ⟨.op (.mv (.t 21)), (some 9), none⟩])))
theorem u61_0 (call : DCall) (T : Tm) (st : Dv.St) : dCw Try.prog call l61_0 T st = dCw Try.prog call
 (.seq (.reg [⟨.op (.bin .lss 0 (.t 9) (.t 8)), (some 10), none⟩])
 [1, 4, 7, 8, 9, 10]
 (.seq (.cond (.t 10) (.skip) (.exit 0))
 [1, 4, 7, 8, 9]
 (.seq (.block 1 (.seq (.reg [⟨.op (.ia 8 none (.t 7) (.t 9)), (some 11), none⟩, ⟨.op (.ldn 8 (.t 11)), (some 12), none⟩, ⟨.op (.new [(.int .i64 0), (.int .i64 0), (.int .i64 0), (.int .i64 0), (.bool false), (.sl none 0), (.str []), (.str [])]), (some 6), none⟩, ⟨.op (.st 8 (.t 6) (.t 12)), none, none⟩])
 [1, 4, 6, 7, 8, 9]
 (.seq (.reg [⟨.op (.mv (.t 1)), (some 13), none⟩, ⟨.op (.ldn 8 (.t 6)), (some 14), none⟩, ⟨.callv (.t 13) [(.t 14)], (some 15), none⟩])
 [1, 4, 6, 7, 8, 9, 15]
 (.cond (.t 15) (.reg [⟨.op (.mv (.t 4)), (some 16), none⟩, ⟨.op (.ldn 8 (.t 6)), (some 17), none⟩, ⟨.call 57 [(.t 17)], (some 18), none⟩, ⟨.op (.bslice 8 1 [(.int .i64 0), (.int .i64 0), (.int .i64 0), (.int .i64 0), (.bool false), (.sl none 0), (.str []), (.str [])] [(0, 8, (.t 18))]), (some 19), none⟩, ⟨.op (.app 8 96 false (.t 16) (.t 19)), (some 20), none⟩, ⟨.op (.mv (.t 20)), (some 4), none⟩]) (.skip)))))
 [1, 4, 7, 8, 9]
 (.reg [⟨.op (.bin .add 0 (.t 9) (.c (.int .i64 1))), (some 21), none⟩, ⟨.op (.mv (.t 21)), (some 9), none⟩])))) T st := rfl
/-- cardamom/hold.some -/
noncomputable def c61 : DFn := ⟨23, .own,
 .seq (.reg [⟨.op (.mv (.c (.sl none 0))), (some 4), none⟩])
 [0, 1, 4]
 (.seq (.seq (.reg [⟨.op (.mv (.t 0)), (some 7), none⟩, ⟨.op (.len (.t 7)), (some 8), none⟩, ⟨.op (.mv (.c (.int .i64 0))), (some 9), none⟩])
 [1, 4, 7, 8, 9]
 (.block 0 (.loop [1, 4, 7, 8, 9] (l61_0))))
 [4]
 (.seq (.reg [⟨.op (.mv (.t 4)), (some 22), none⟩, ⟨.op (.mv (.t 22)), (some 4), none⟩])
 [4]
 (.ret))),
 [.tmp 4]⟩
theorem k61 : cFn Try.prog 61 = some c61.toE := by kernel_rfl
theorem w61 : c61.body.wf = true := by kernel_rfl
/-- cardamom/hold.Without$1 -/
noncomputable def c62 : DFn := ⟨8, .pure,
 .seq (.reg [⟨.op (.box (.t 0)), (some 2), none⟩, ⟨.op (.mv (.c (.bool false))), (some 3), none⟩])
 [1, 2]
 (.seq (.reg [⟨.op (.fa 0 (.t 2)), (some 4), none⟩, ⟨.op (.ld1 (.t 4)), (some 5), none⟩, ⟨.op (.ld1 (.t 1)), (some 6), none⟩, ⟨.op (.bin .neq 0 (.t 5) (.t 6)), (some 7), none⟩, ⟨.op (.mv (.t 7)), (some 3), none⟩])
 [3]
 (.ret)),
 [.tmp 3]⟩
theorem k62 : cFn Try.prog 62 = some c62.toE := by kernel_rfl
theorem w62 : c62.body.wf = true := by kernel_rfl
/-- cardamom/hold.In$1 -/
noncomputable def c65 : DFn := ⟨7, .pure,
 .seq (.reg [⟨.op (.box (.t 0)), (some 2), none⟩, ⟨.op (.mv (.c (.bool false))), (some 3), none⟩])
 [1, 2]
 (.seq (.reg [⟨.op (.ldn 6 (.t 1)), (some 4), none⟩, ⟨.op (.ldn 8 (.t 2)), (some 5), none⟩, ⟨.call 66 [(.t 4), (.t 5)], (some 6), none⟩, ⟨.op (.mv (.t 6)), (some 3), none⟩])
 [3]
 (.ret)),
 [.tmp 3]⟩
theorem k65 : cFn Try.prog 65 = some c65.toE := by kernel_rfl
theorem w65 : c65.body.wf = true := by kernel_rfl
/-- cardamom/hold.Out$1 -/
noncomputable def c67 : DFn := ⟨8, .pure,
 .seq (.reg [⟨.op (.box (.t 0)), (some 2), none⟩, ⟨.op (.mv (.c (.bool false))), (some 3), none⟩])
 [1, 2]
 (.seq (.reg [⟨.op (.ldn 6 (.t 1)), (some 4), none⟩, ⟨.op (.ldn 8 (.t 2)), (some 5), none⟩, ⟨.call 66 [(.t 4), (.t 5)], (some 6), none⟩, ⟨.op (.not (.t 6)), (some 7), none⟩, ⟨.op (.mv (.t 7)), (some 3), none⟩])
 [3]
 (.ret)),
 [.tmp 3]⟩
theorem k67 : cFn Try.prog 67 = some c67.toE := by kernel_rfl
theorem w67 : c67.body.wf = true := by kernel_rfl
/-- cardamom/hold.all$1 -/
noncomputable def c88 : DFn := ⟨3, .pure,
 .seq (.reg [⟨.op (.box (.t 0)), (some 1), none⟩, ⟨.op (.mv (.c (.bool false))), (some 2), none⟩])
 []
 (.seq (.reg [⟨.op (.mv (.c (.bool true))), (some 2), none⟩])
 [2]
 (.ret)),
 [.tmp 2]⟩
theorem k88 : cFn Try.prog 88 = some c88.toE := by kernel_rfl
theorem w88 : c88.body.wf = true := by kernel_rfl
/-- cardamom/hold.place$1 -/
noncomputable def c85 : DFn := ⟨9, .pure,
 .seq (.reg [⟨.op (.box (.t 0)), (some 2), none⟩, ⟨.op (.mv (.c (.int .i64 0))), (some 4), none⟩])
 [1, 2]
 (.seq (.reg [⟨.op (.fa 0 (.t 2)), (some 5), none⟩, ⟨.op (.ld1 (.t 5)), (some 6), none⟩, ⟨.op (.mv (.t 1)), (some 7), none⟩, ⟨.call 86 [(.t 6), (.t 7)], (some 8), none⟩, ⟨.op (.mv (.t 8)), (some 4), none⟩])
 [4]
 (.ret)),
 [.tmp 4]⟩
theorem k85 : cFn Try.prog 85 = some c85.toE := by kernel_rfl
theorem w85 : c85.body.wf = true := by kernel_rfl
/-- cardamom/vers.Newer -/
noncomputable def c60 : DFn := ⟨11, .pure,
 .seq (.reg [⟨.op (.box (.t 0)), (some 2), none⟩, ⟨.op (.box (.t 1)), (some 3), none⟩, ⟨.op (.mv (.c (.bool false))), (some 4), none⟩])
 [2, 3]
 (.seq (.reg [⟨.op (.fa 1 (.t 2)), (some 5), none⟩, ⟨.op (.ldn 3 (.t 5)), (some 6), none⟩, ⟨.op (.fa 1 (.t 3)), (some 7), none⟩, ⟨.op (.ldn 3 (.t 7)), (some 8), none⟩, ⟨.call 75 [(.t 6), (.t 8)], (some 9), none⟩, ⟨.op (.bin .gtr 0 (.t 9) (.c (.int .i64 0))), (some 10), none⟩, ⟨.op (.mv (.t 10)), (some 4), none⟩])
 [4]
 (.ret)),
 [.tmp 4]⟩
theorem k60 : cFn Try.prog 60 = some c60.toE := by kernel_rfl
theorem w60 : c60.body.wf = true := by kernel_rfl
/-- cardamom/vers.Attr -/
noncomputable def c92 : DFn := ⟨19, .pure,
 .seq (.reg [⟨.op (.box (.t 0)), (some 2), none⟩, ⟨.op (.box (.t 1)), (some 3), none⟩, ⟨.op (.mv (.c (.int .i64 0))), (some 4), none⟩, ⟨.op (.mv (.c (.bool false))), (some 5), none⟩])
 [2, 3]
 (.seq (.reg [⟨.op (.fa 5 (.t 2)), (some 7), none⟩, ⟨.op (.ld1 (.t 7)), (some 8), none⟩, ⟨.op (.fn 111 [(.t 3)]), (some 9), none⟩, ⟨.call 110 [(.t 8), (.t 9)], (some 10), none⟩, ⟨.op (.mv (.t 10)), (some 6), none⟩])
 [2, 6]
 (.seq (.seq (.reg [⟨.op (.mv (.t 6)), (some 11), none⟩, ⟨.op (.bin .lss 0 (.t 11) (.c (.int .i64 0))), (some 12), none⟩])
 [2, 6, 12]
 (.cond (.t 12) (.seq (.reg [⟨.op (.mv (.c (.int .i64 0))), (some 4), none⟩, ⟨.op (.mv (.c (.bool false))), (some 5), none⟩])
 [4, 5]
 (.ret)) (.skip)))
 [2, 6]
 (.seq (.reg [⟨.op (.fa 5 (.t 2)), (some 13), none⟩, ⟨.op (.ld1 (.t 13)), (some 14), none⟩, ⟨.op (.mv (.t 6)), (some 15), none⟩, ⟨.op (.ia 2 none (.t 14) (.t 15)), (some 16), none⟩, ⟨.op (.fa 1 (.t 16)), (some 17), none⟩, ⟨.op (.ld1 (.t 17)), (some 18), none⟩, ⟨.op (.mv (.t 18)), (some 4), none⟩, ⟨.op (.mv (.c (.bool true))), (some 5), none⟩])
 [4, 5]
 (.ret)))),
 [.tmp 4, .tmp 5]⟩
theorem k92 : cFn Try.prog 92 = some c92.toE := by kernel_rfl
theorem w92 : c92.body.wf = true := by kernel_rfl
/-- cardamom/vers.Attr$1 -/
noncomputable def c111 : DFn := ⟨8, .pure,
 .seq (.reg [⟨.op (.box (.t 0)), (some 2), none⟩, ⟨.op (.mv (.c (.bool false))), (some 3), none⟩])
 [1, 2]
 (.seq (.reg [⟨.op (.fa 0 (.t 2)), (some 4), none⟩, ⟨.op (.ld1 (.t 4)), (some 5), none⟩, ⟨.op (.ld1 (.t 1)), (some 6), none⟩, ⟨.op (.bin .eql 0 (.t 5) (.t 6)), (some 7), none⟩, ⟨.op (.mv (.t 7)), (some 3), none⟩])
 [3]
 (.ret)),
 [.tmp 3]⟩
theorem k111 : cFn Try.prog 111 = some c111.toE := by kernel_rfl
theorem w111 : c111.body.wf = true := by kernel_rfl
/-- cardamom/eval.Lets -/
noncomputable def c66 : DFn := ⟨64, .pure,
 .seq (.reg [⟨.op (.box (.t 0)), (some 2), none⟩, ⟨.op (.box (.t 1)), (some 3), none⟩, ⟨.op (.mv (.c (.bool false))), (some 4), none⟩])
 [2, 3]
 (.seq (.reg [⟨.op (.fn 91 [(.t 3)]), (some 8), none⟩, ⟨.op (.new [.nilfn]), (some 5), none⟩, ⟨.op (.st 1 (.t 5) (.t 8)), none, none⟩])
 [2, 3, 5]
 (.seq (.seq (.reg [⟨.op (.fa 0 (.t 2)), (some 9), none⟩, ⟨.op (.ld1 (.t 9)), (some 10), none⟩])
 [2, 3, 5, 10]
 (.block 0 (.seq (.block 7 (.seq (.block 6 (.seq (.block 5 (.seq (.block 4 (.seq (.block 3 (.block 2 (.seq (.block 1 (.seq (.seq (.seq (.reg [⟨.op (.bin .eql 0 (.t 10) (.c (.int .i64 1))), (some 12), none⟩, ⟨.op (.mv (.t 12)), (some 11), none⟩])
 [2, 3, 5, 10, 11]
 (.cond (.t 11) (.exit 1) (.skip)))
 [2, 3, 5, 10]
 (.seq (.seq (.reg [⟨.op (.bin .eql 0 (.t 10) (.c (.int .i64 2))), (some 14), none⟩, ⟨.op (.mv (.t 14)), (some 13), none⟩])
 [2, 3, 5, 10, 13]
 (.cond (.t 13) (.exit 2) (.skip)))
 [2, 3, 5, 10]
 (.seq (.seq (.reg [⟨.op (.bin .eql 0 (.t 10) (.c (.int .i64 3))), (some 16), none⟩, ⟨.op (.mv (.t 16)), (some 15), none⟩])
 [2, 3, 5, 10, 15]
 (.cond (.t 15) (.exit 3) (.skip)))
 [2, 3, 5, 10]
 (.seq (.seq (.reg [⟨.op (.bin .eql 0 (.t 10) (.c (.int .i64 4))), (some 18), none⟩, ⟨.op (.mv (.t 18)), (some 17), none⟩])
 [2, 3, 5, 10, 17]
 (.cond (.t 17) (.exit 4) (.skip)))
 [2, 5, 10]
 (.seq (.seq (.reg [⟨.op (.bin .eql 0 (.t 10) (.c (.int .i64 5))), (some 20), none⟩, ⟨.op (.mv (.t 20)), (some 19), none⟩])
 [2, 5, 10, 19]
 (.cond (.t 19) (.exit 5) (.skip)))
 [2, 5, 10]
 (.seq (.seq (.reg [⟨.op (.bin .eql 0 (.t 10) (.c (.int .i64 6))), (some 22), none⟩, ⟨.op (.mv (.t 22)), (some 21), none⟩])
 [2, 5, 10, 21]
 (.cond (.t 21) (.exit 6) (.skip)))
 [2, 5, 10]
 (.seq (.reg [⟨.op (.bin .eql 0 (.t 10) (.c (.int .i64 7))), (some 24), none⟩, ⟨.op (.mv (.t 24)), (some 23), none⟩])
 [2, 5, 23]
 (.cond (.t 23) (.exit 7) (.skip)))))))))
 []
 (.exit 0)))
 []
 (.seq (.seq (.reg [⟨.op (.mv (.c (.bool true))), (some 4), none⟩])
 [4]
 (.ret))
 []
 (.exit 0)))))
 [2, 3]
 (.seq (.seq (.reg [⟨.op (.ldn 8 (.t 3)), (some 26), none⟩, ⟨.op (.fa 1 (.t 2)), (some 27), none⟩, ⟨.op (.ld1 (.t 27)), (some 28), none⟩, ⟨.call 92 [(.t 26), (.t 28)], (some 29), none⟩, ⟨.op (.mv (.t 29)), (some 25), none⟩, ⟨.op (.ext (.t 25) 0), (some 30), none⟩, ⟨.op (.ext (.t 25) 1), (some 31), none⟩, ⟨.op (.mv (.t 30)), (some 6), none⟩, ⟨.op (.mv (.t 31)), (some 7), none⟩])
 [2, 6, 7]
 (.seq (.reg [⟨.op (.mv (.t 7)), (some 32), none⟩, ⟨.op (.mv (.t 32)), (some 33), none⟩, ⟨.op (.mv (.t 6)), (some 34), (some (33, true))⟩, ⟨.op (.fa 2 (.t 2)), (some 35), (some (33, true))⟩, ⟨.op (.ld1 (.t 35)), (some 36), (some (33, true))⟩, ⟨.op (.bin .geq 0 (.t 34) (.t 36)), (some 37), (some (33, true))⟩, ⟨.op (.pick (.t 33) (.t 37) (.c (.bool false))), (some 38), none⟩, ⟨.op (.mv (.t 38)), (some 39), none⟩, ⟨.op (.mv (.t 6)), (some 40), (some (39, true))⟩, ⟨.op (.fa 3 (.t 2)), (some 41), (some (39, true))⟩, ⟨.op (.ld1 (.t 41)), (some 42), (some (39, true))⟩, ⟨.op (.bin .leq 0 (.t 40) (.t 42)), (some 43), (some (39, true))⟩, ⟨.op (.pick (.t 39) (.t 43) (.c (.bool false))), (some 44), none⟩, ⟨.op (.mv (.t 44)), (some 4), none⟩])
 [4]
 (.ret)))
 []
 (.exit 0))))
 [2, 3]
 (.seq (.seq (.reg [⟨.op (.fa 6 (.t 3)), (some 45), none⟩, ⟨.op (.ld1 (.t 45)), (some 46), none⟩, ⟨.op (.fa 4 (.t 2)), (some 47), none⟩, ⟨.op (.ld1 (.t 47)), (some 48), none⟩, ⟨.call 93 [(.t 46), (.t 48)], (some 49), none⟩, ⟨.op (.mv (.t 49)), (some 4), none⟩])
 [4]
 (.ret))
 []
 (.exit 0))))
 [2, 5]
 (.seq (.seq (.reg [⟨.op (.fa 5 (.t 2)), (some 50), none⟩, ⟨.op (.ld1 (.t 50)), (some 51), none⟩, ⟨.op (.fn 95 [(.t 5)]), (some 52), none⟩, ⟨.call 94 [(.t 51), (.t 52)], (some 53), none⟩, ⟨.op (.not (.t 53)), (some 54), none⟩, ⟨.op (.mv (.t 54)), (some 4), none⟩])
 [4]
 (.ret))
 []
 (.exit 0))))
 [2, 5]
 (.seq (.seq (.reg [⟨.op (.fa 5 (.t 2)), (some 55), none⟩, ⟨.op (.ld1 (.t 55)), (some 56), none⟩, ⟨.op (.ld1 (.t 5)), (some 57), none⟩, ⟨.call 94 [(.t 56), (.t 57)], (some 58), none⟩, ⟨.op (.mv (.t 58)), (some 4), none⟩])
 [4]
 (.ret))
 []
 (.exit 0))))
 [2, 5]
 (.seq (.seq (.reg [⟨.op (.fa 5 (.t 2)), (some 59), none⟩, ⟨.op (.ld1 (.t 59)), (some 60), none⟩, ⟨.op (.ld1 (.t 5)), (some 61), none⟩, ⟨.call 94 [(.t 60), (.t 61)], (some 62), none⟩, ⟨.op (.not (.t 62)), (some 63), none⟩, ⟨.op (.mv (.t 63)), (some 4), none⟩])
 [4]
 (.ret))
 []
 (.exit 0)))))
 []
 (.seq (.reg [⟨.op (.mv (.c (.bool false))), (some 4), none⟩])
 [4]
 (.ret)))),
 [.tmp 4]⟩
theorem k66 : cFn Try.prog 66 = some c66.toE := by kernel_rfl
theorem w66 : c66.body.wf = true := by kernel_rfl
/-- cardamom/eval.Lets$1 -/
noncomputable def c91 : DFn := ⟨7, .pure,
 .seq (.reg [⟨.op (.box (.t 0)), (some 2), none⟩, ⟨.op (.mv (.c (.bool false))), (some 3), none⟩])
 [1, 2]
 (.seq (.reg [⟨.op (.ldn 6 (.t 2)), (some 4), none⟩, ⟨.op (.ldn 8 (.t 1)), (some 5), none⟩, ⟨.call 66 [(.t 4), (.t 5)], (some 6), none⟩, ⟨.op (.mv (.t 6)), (some 3), none⟩])
 [3]
 (.ret)),
 [.tmp 3]⟩
theorem k91 : cFn Try.prog 91 = some c91.toE := by kernel_rfl
theorem w91 : c91.body.wf = true := by kernel_rfl
/-- cardamom/eval.Lets$2 -/
noncomputable def c95 : DFn := ⟨8, .pure,
 .seq (.reg [⟨.op (.box (.t 0)), (some 2), none⟩, ⟨.op (.mv (.c (.bool false))), (some 3), none⟩])
 [1, 2]
 (.seq (.reg [⟨.op (.ld1 (.t 1)), (some 4), none⟩, ⟨.op (.ldn 6 (.t 2)), (some 5), none⟩, ⟨.callv (.t 4) [(.t 5)], (some 6), none⟩, ⟨.op (.not (.t 6)), (some 7), none⟩, ⟨.op (.mv (.t 7)), (some 3), none⟩])
 [3]
 (.ret)),
 [.tmp 3]⟩
theorem k95 : cFn Try.prog 95 = some c95.toE := by kernel_rfl
theorem w95 : c95.body.wf = true := by kernel_rfl
/-- strings.HasPrefix -/
noncomputable def c93 : DFn := ⟨8, .pure,
 .seq (.reg [⟨.op (.mv (.c (.bool false))), (some 4), none⟩])
 [0, 1]
 (.seq (.reg [⟨.op (.mv (.t 0)), (some 5), none⟩, ⟨.op (.mv (.t 1)), (some 6), none⟩, ⟨.call 112 [(.t 5), (.t 6)], (some 7), none⟩, ⟨.op (.mv (.t 7)), (some 4), none⟩])
 [4]
 (.ret)),
 [.tmp 4]⟩
theorem k93 : cFn Try.prog 93 = some c93.toE := by kernel_rfl
theorem w93 : c93.body.wf = true := by kernel_rfl
/-- internal/stringslite.HasPrefix -/
noncomputable def c112 : DFn := ⟨18, .pure,
 .seq (.reg [⟨.op (.mv (.c (.bool false))), (some 4), none⟩])
 [0, 1]
 (.seq (.reg [⟨.op (.mv (.t 0)), (some 5), none⟩, ⟨.op (.lenstr (.t 5)), (some 6), none⟩, ⟨.op (.mv (.t 1)), (some 7), none⟩, ⟨.op (.lenstr (.t 7)), (some 8), none⟩, ⟨.op (.bin .geq 0 (.t 6) (.t 8)), (some 9), none⟩, ⟨.op (.mv (.t 9)), (some 10), none⟩, ⟨.op (.mv (.t 0)), (some 11), (some (10, true))⟩, ⟨.op (.mv (.t 1)), (some 12), (some (10, true))⟩, ⟨.op (.lenstr (.t 12)), (some 13), (some (10, true))⟩, ⟨.op (.cuts (.t 11) none (some (.t 13))), (some 14), (some (10, true))⟩, ⟨.op (.mv (.t 1)), (some 15), (some (10, true))⟩, ⟨.op (.bin .eql 0 (.t 14) (.t 15)), (some 16), (some (10, true))⟩, ⟨.op (.pick (.t 10) (.t 16) (.c (.bool false))), (some 17), none⟩, ⟨.op (.mv (.t 17)), (some 4), none⟩])
 [4]
 (.ret)),
 [.tmp 4]⟩
theorem k112 : cFn Try.prog 112 = some c112.toE := by kernel_rfl
theorem w112 : c112.body.wf = true := by kernel_rfl
/-- slices.ContainsFunc[[]cardamom/api.Filter,cardamom/api.Filter] -/
noncomputable def c94 : DFn := ⟨9, .pure,
 .seq (.reg [⟨.op (.mv (.c (.bool false))), (some 4), none⟩])
 [0, 1]
 (.seq (.reg [⟨.op (.mv (.t 0)), (some 5), none⟩, ⟨.op (.mv (.t 1)), (some 6), none⟩, ⟨.call 113 [(.t 5), (.t 6)], (some 7), none⟩, ⟨.op (.bin .geq 0 (.t 7) (.c (.int .i64 0))), (some 8), none⟩, ⟨.op (.mv (.t 8)), (some 4), none⟩])
 [4]
 (.ret)),
 [.tmp 4]⟩
theorem k94 : cFn Try.prog 94 = some c94.toE := by kernel_rfl
theorem w94 : c94.body.wf = true := by kernel_rfl
noncomputable def l113_0 : DC :=
 .seq (.reg [⟨.op (.bin .lss 0 (.t 8) (.t 7)), (some 9), none⟩])
 [0, 1, 7, 8, 9]
 (.seq (.cond (.t 9) (.skip) (.exit 0))
 [0, 1, 7, 8]
 (.seq (.block 1 (.seq (.reg [⟨.op (.mv (.t 8)), (some 10), none⟩, ⟨.op (.mv (.t 10)), (some 5), none⟩])
 [0, 1, 5, 7, 8]
 (.seq (.reg [⟨.op (.mv (.t 1)), (some 11), none⟩, ⟨.op (.mv (.t 0)), (some 12), none⟩, ⟨.op (.mv (.t 5)), (some 13), none⟩, ⟨.op (.ia 6 none (.t 12) (.t 13)), (some 14), none⟩, ⟨.op (.ldn 6 (.t 14)), (some 15), none⟩, ⟨.callv (.t 11) [(.t 15)], (some 16), none⟩])
 [0, 1, 5, 7, 8, 16]
 (.cond (.t 16) (.seq (.reg [⟨.op (.mv (.t 5)), (some 17), none⟩, ⟨.op (.mv (.t 17)), (some 4), none⟩])
 [4]
 (.ret)) (.skip)))))
 [0, 1, 7, 8]
 (.reg [⟨.op (.bin .add 0 (.t 8) (.c (.int .i64 1))), (some 18), none⟩, ⟨.op (.mv (.t 18)), (some 8), none⟩])))
theorem u113_0 (call : DCall) (T : Tm) (st : Dv.St) : dCw Try.prog call l113_0 T st = dCw Try.prog call
 (.seq (.reg [⟨.op (.bin .lss 0 (.t 8) (.t 7)), (some 9), none⟩])
 [0, 1, 7, 8, 9]
 (.seq (.cond (.t 9) (.skip) (.exit 0))
 [0, 1, 7, 8]
 (.seq (.block 1 (.seq (.reg [⟨.op (.mv (.t 8)), (some 10), none⟩, ⟨.op (.mv (.t 10)), (some 5), none⟩])
 [0, 1, 5, 7, 8]
 (.seq (.reg [⟨.op (.mv (.t 1)), (some 11), none⟩, ⟨.op (.mv (.t 0)), (some 12), none⟩, ⟨.op (.mv (.t 5)), (some 13), none⟩, ⟨.op (.ia 6 none (.t 12) (.t 13)), (some 14), none⟩, ⟨.op (.ldn 6 (.t 14)), (some 15), none⟩, ⟨.callv (.t 11) [(.t 15)], (some 16), none⟩])
 [0, 1, 5, 7, 8, 16]
 (.cond (.t 16) (.seq (.reg [⟨.op (.mv (.t 5)), (some 17), none⟩, ⟨.op (.mv (.t 17)), (some 4), none⟩])
 [4]
 (.ret)) (.skip)))))
 [0, 1, 7, 8]
 (.reg [⟨.op (.bin .add 0 (.t 8) (.c (.int .i64 1))), (some 18), none⟩, ⟨.op (.mv (.t 18)), (some 8), none⟩])))) T st := rfl
/-- slices.IndexFunc[[]cardamom/api.Filter,cardamom/api.Filter] -/
noncomputable def c113 : DFn := ⟨19, .pure,
 .seq (.reg [⟨.op (.mv (.c (.int .i64 0))), (some 4), none⟩])
 [0, 1]
 (.seq (.seq (.reg [⟨.op (.mv (.t 0)), (some 6), none⟩, ⟨.op (.len (.t 6)), (some 7), none⟩, ⟨.op (.mv (.c (.int .i64 0))), (some 8), none⟩])
 [0, 1, 7, 8]
 (.block 0 (.loop [0, 1, 7, 8] (l113_0))))
 []
 (.seq (.reg [⟨.op (.mv (.c (.int .i64 (-1)))), (some 4), none⟩])
 [4]
 (.ret))),
 [.tmp 4]⟩
theorem k113 : cFn Try.prog 113 = some c113.toE := by kernel_rfl
theorem w113 : c113.body.wf = true := by kernel_rfl
noncomputable def l110_0 : DC :=
 .seq (.reg [⟨.op (.bin .lss 0 (.t 8) (.t 7)), (some 9), none⟩])
 [0, 1, 7, 8, 9]
 (.seq (.cond (.t 9) (.skip) (.exit 0))
 [0, 1, 7, 8]
 (.seq (.block 1 (.seq (.reg [⟨.op (.mv (.t 8)), (some 10), none⟩, ⟨.op (.mv (.t 10)), (some 5), none⟩])
 [0, 1, 5, 7, 8]
 (.seq (.reg [⟨.op (.mv (.t 1)), (some 11), none⟩, ⟨.op (.mv (.t 0)), (some 12), none⟩, ⟨.op (.mv (.t 5)), (some 13), none⟩, ⟨.op (.ia 2 none (.t 12) (.t 13)), (some 14), none⟩, ⟨.op (.ldn 2 (.t 14)), (some 15), none⟩, ⟨.callv (.t 11) [(.t 15)], (some 16), none⟩])
 [0, 1, 5, 7, 8, 16]
 (.cond (.t 16) (.seq (.reg [⟨.op (.mv (.t 5)), (some 17), none⟩, ⟨.op (.mv (.t 17)), (some 4), none⟩])
 [4]
 (.ret)) (.skip)))))
 [0, 1, 7, 8]
 (.reg [⟨.op (.bin .add 0 (.t 8) (.c (.int .i64 1))), (some 18), none⟩, ⟨.op (.mv (.t 18)), (some 8), none⟩])))
theorem u110_0 (call : DCall) (T : Tm) (st : Dv.St) : dCw Try.prog call l110_0 T st = dCw Try.prog call
 (.seq (.reg [⟨.op (.bin .lss 0 (.t 8) (.t 7)), (some 9), none⟩])
 [0, 1, 7, 8, 9]
 (.seq (.cond (.t 9) (.skip) (.exit 0))
 [0, 1, 7, 8]
 (.seq (.block 1 (.seq (.reg [⟨.op (.mv (.t 8)), (some 10), none⟩, ⟨.op (.mv (.t 10)), (some 5), none⟩])
 [0, 1, 5, 7, 8]
 (.seq (.reg [⟨.op (.mv (.t 1)), (some 11), none⟩, ⟨.op (.mv (.t 0)), (some 12), none⟩, ⟨.op (.mv (.t 5)), (some 13), none⟩, ⟨.op (.ia 2 none (.t 12) (.t 13)), (some 14), none⟩, ⟨.op (.ldn 2 (.t 14)), (some 15), none⟩, ⟨.callv (.t 11) [(.t 15)], (some 16), none⟩])
 [0, 1, 5, 7, 8, 16]
 (.cond (.t 16) (.seq (.reg [⟨.op (.mv (.t 5)), (some 17), none⟩, ⟨.op (.mv (.t 17)), (some 4), none⟩])
 [4]
 (.ret)) (.skip)))))
 [0, 1, 7, 8]
 (.reg [⟨.op (.bin .add 0 (.t 8) (.c (.int .i64 1))), (some 18), none⟩, ⟨.op (.mv (.t 18)), (some 8), none⟩])))) T st := rfl
/-- slices.IndexFunc[[]cardamom/api.Attr,cardamom/api.Attr] -/
noncomputable def c110 : DFn := ⟨19, .pure,
 .seq (.reg [⟨.op (.mv (.c (.int .i64 0))), (some 4), none⟩])
 [0, 1]
 (.seq (.seq (.reg [⟨.op (.mv (.t 0)), (some 6), none⟩, ⟨.op (.len (.t 6)), (some 7), none⟩, ⟨.op (.mv (.c (.int .i64 0))), (some 8), none⟩])
 [0, 1, 7, 8]
 (.block 0 (.loop [0, 1, 7, 8] (l110_0))))
 []
 (.seq (.reg [⟨.op (.mv (.c (.int .i64 (-1)))), (some 4), none⟩])
 [4]
 (.ret))),
 [.tmp 4]⟩
theorem k110 : cFn Try.prog 110 = some c110.toE := by kernel_rfl
theorem w110 : c110.body.wf = true := by kernel_rfl
noncomputable def l84_0 : DC :=
 .seq (.seq (.reg [⟨.op (.mv (.t 9)), (some 15), none⟩, ⟨.op (.mv (.t 10)), (some 16), none⟩, ⟨.op (.bin .lss 0 (.t 15) (.t 16)), (some 17), none⟩])
 [0, 1, 2, 8, 9, 10, 17]
 (.cond (.t 17) (.skip) (.exit 0)))
 [0, 1, 2, 8, 9, 10]
 (.block 1 (.seq (.reg [⟨.op (.mv (.t 9)), (some 18), none⟩, ⟨.op (.mv (.t 10)), (some 19), none⟩, ⟨.op (.bin .add 0 (.t 18) (.t 19)), (some 20), none⟩, ⟨.op (.conv .u64 (.t 20)), (some 21), none⟩, ⟨.op (.slow (operAt Try.prog 84 15)), (some 22), none⟩, ⟨.op (.conv .i64 (.t 22)), (some 23), none⟩, ⟨.op (.mv (.t 23)), (some 11), none⟩])
 [0, 1, 2, 8, 9, 10, 11]
 (.seq (.reg [⟨.op (.mv (.t 2)), (some 24), none⟩, ⟨.op (.mv (.t 0)), (some 25), none⟩, ⟨.op (.mv (.t 11)), (some 26), none⟩, ⟨.op (.ia 8 none (.t 25) (.t 26)), (some 27), none⟩, ⟨.op (.ldn 8 (.t 27)), (some 28), none⟩, ⟨.op (.mv (.t 1)), (some 29), none⟩, ⟨.callv (.t 24) [(.t 28), (.t 29)], (some 30), none⟩, ⟨.op (.bin .lss 0 (.t 30) (.c (.int .i64 0))), (some 31), none⟩])
 [0, 1, 2, 8, 9, 10, 11, 31]
 (.cond (.t 31) (.reg [⟨.op (.mv (.t 11)), (some 32), none⟩, ⟨.op (.bin .add 0 (.t 32) (.c (.int .i64 1))), (some 33), none⟩, ⟨.op (.mv (.t 33)), (some 9), none⟩]) (.reg [⟨.op (.mv (.t 11)), (some 34), none⟩, ⟨.op (.mv (.t 34)), (some 10), none⟩])))))
theorem u84_0 (call : DCall) (T : Tm) (st : Dv.St) : dCw Try.prog call l84_0 T st = dCw Try.prog call
 (.seq (.seq (.reg [⟨.op (.mv (.t 9)), (some 15), none⟩, ⟨.op (.mv (.t 10)), (some 16), none⟩, ⟨.op (.bin .lss 0 (.t 15) (.t 16)), (some 17), none⟩])
 [0, 1, 2, 8, 9, 10, 17]
 (.cond (.t 17) (.skip) (.exit 0)))
 [0, 1, 2, 8, 9, 10]
 (.block 1 (.seq (.reg [⟨.op (.mv (.t 9)), (some 18), none⟩, ⟨.op (.mv (.t 10)), (some 19), none⟩, ⟨.op (.bin .add 0 (.t 18) (.t 19)), (some 20), none⟩, ⟨.op (.conv .u64 (.t 20)), (some 21), none⟩, ⟨.op (.slow (operAt Try.prog 84 15)), (some 22), none⟩, ⟨.op (.conv .i64 (.t 22)), (some 23), none⟩, ⟨.op (.mv (.t 23)), (some 11), none⟩])
 [0, 1, 2, 8, 9, 10, 11]
 (.seq (.reg [⟨.op (.mv (.t 2)), (some 24), none⟩, ⟨.op (.mv (.t 0)), (some 25), none⟩, ⟨.op (.mv (.t 11)), (some 26), none⟩, ⟨.op (.ia 8 none (.t 25) (.t 26)), (some 27), none⟩, ⟨.op (.ldn 8 (.t 27)), (some 28), none⟩, ⟨.op (.mv (.t 1)), (some 29), none⟩, ⟨.callv (.t 24) [(.t 28), (.t 29)], (some 30), none⟩, ⟨.op (.bin .lss 0 (.t 30) (.c (.int .i64 0))), (some 31), none⟩])
 [0, 1, 2, 8, 9, 10, 11, 31]
 (.cond (.t 31) (.reg [⟨.op (.mv (.t 11)), (some 32), none⟩, ⟨.op (.bin .add 0 (.t 32) (.c (.int .i64 1))), (some 33), none⟩, ⟨.op (.mv (.t 33)), (some 9), none⟩]) (.reg [⟨.op (.mv (.t 11)), (some 34), none⟩, ⟨.op (.mv (.t 34)), (some 10), none⟩])))))) T st := rfl
/-- slices.BinarySearchFunc[[]cardamom/api.Version,cardamom/api.Version,int] -/
noncomputable def c84 : DFn := ⟨49, .pure,
 .seq (.reg [⟨.op (.mv (.c (.int .i64 0))), (some 6), none⟩, ⟨.op (.mv (.c (.bool false))), (some 7), none⟩])
 [0, 1, 2]
 (.seq (.reg [⟨.op (.mv (.t 0)), (some 12), none⟩, ⟨.op (.len (.t 12)), (some 13), none⟩, ⟨.op (.mv (.t 13)), (some 8), none⟩])
 [0, 1, 2, 8]
 (.seq (.reg [⟨.op (.mv (.t 8)), (some 14), none⟩, ⟨.op (.mv (.c (.int .i64 0))), (some 9), none⟩, ⟨.op (.mv (.t 14)), (some 10), none⟩])
 [0, 1, 2, 8, 9, 10]
 (.seq (.block 0 (.loop [0, 1, 2, 8, 9, 10] (l84_0)))
 [0, 1, 2, 8, 9]
 (.seq (.reg [⟨.op (.mv (.t 9)), (some 35), none⟩, ⟨.op (.mv (.t 9)), (some 36), none⟩, ⟨.op (.mv (.t 8)), (some 37), none⟩, ⟨.op (.bin .lss 0 (.t 36) (.t 37)), (some 38), none⟩, ⟨.op (.mv (.t 38)), (some 39), none⟩, ⟨.op (.mv (.t 2)), (some 40), (some (39, true))⟩, ⟨.op (.mv (.t 0)), (some 41), (some (39, true))⟩, ⟨.op (.mv (.t 9)), (some 42), (some (39, true))⟩, ⟨.op (.ia 8 none (.t 41) (.t 42)), (some 43), (some (39, true))⟩, ⟨.op (.ldn 8 (.t 43)), (some 44), (some (39, true))⟩, ⟨.op (.mv (.t 1)), (some 45), (some (39, true))⟩, ⟨.callv (.t 40) [(.t 44), (.t 45)], (some 46), (some (39, true))⟩, ⟨.op (.bin .eql 0 (.t 46) (.c (.int .i64 0))), (some 47), (some (39, true))⟩, ⟨.op (.pick (.t 39) (.t 47) (.c (.bool false))), (some 48), none⟩, ⟨.op (.mv (.t 35)), (some 6), none⟩, ⟨.op (.mv (.t 48)), (some 7), none⟩])
 [6, 7]
 (.ret))))),
 [.tmp 6, .tmp 7]⟩
theorem k84 : cFn Try.prog 84 = some c84.toE := by kernel_rfl
theorem w84 : c84.body.wf = true := by kernel_rfl
/-- slices.Clone[[]cardamom/api.Attr,cardamom/api.Attr] -/
noncomputable def c87 : DFn := ⟨8, .pure,
 .seq (.reg [⟨.op (.mv (.c (.sl none 0))), (some 2), none⟩])
 [0]
 (.seq (.seq (.reg [⟨.op (.mv (.t 0)), (some 3), none⟩, ⟨.op (.bin .eql 1 (.t 3) (.c (.sl none 0))), (some 4), none⟩])
 [0, 4]
 (.cond (.t 4) (.seq (.reg [⟨.op (.mv (.c (.sl none 0))), (some 2), none⟩])
 [2]
 (.ret)) (.skip)))
 [0]
 (.seq (.reg [⟨.op (.bslice 2 0 [] []), (some 5), none⟩, ⟨.op (.mv (.t 0)), (some 6), none⟩, ⟨.op (.app 2 16 false (.t 5) (.t 6)), (some 7), none⟩, ⟨.op (.mv (.t 7)), (some 2), none⟩])
 [2]
 (.ret))),
 [.tmp 2]⟩
theorem k87 : cFn Try.prog 87 = some c87.toE := by kernel_rfl
theorem w87 : c87.body.wf = true := by kernel_rfl
/-- cardamom/stamp.Compare -/
noncomputable def c75 : DFn := ⟨22, .pure,
 .seq (.reg [⟨.op (.box (.t 0)), (some 2), none⟩, ⟨.op (.box (.t 1)), (some 3), none⟩, ⟨.op (.mv (.c (.int .i64 0))), (some 4), none⟩])
 [2, 3]
 (.seq (.drw [⟨⟨.op (.fa 0 (.t 2)), (some 5), none⟩, .n, []⟩, ⟨⟨.op (.ld1 (.t 5)), (some 6), none⟩, .n, []⟩, ⟨⟨.op (.fa 0 (.t 3)), (some 7), none⟩, .n, []⟩, ⟨⟨.op (.ld1 (.t 7)), (some 8), none⟩, .n, []⟩, ⟨⟨.op (.fa 1 (.t 2)), (some 10), none⟩, .n, []⟩, ⟨⟨.op (.ld1 (.t 10)), (some 11), none⟩, .n, []⟩, ⟨⟨.op (.fa 1 (.t 3)), (some 12), none⟩, .n, []⟩, ⟨⟨.op (.ld1 (.t 12)), (some 13), none⟩, .n, []⟩, ⟨⟨.op (.fa 2 (.t 2)), (some 15), none⟩, .n, []⟩, ⟨⟨.op (.ld1 (.t 15)), (some 16), none⟩, .n, []⟩, ⟨⟨.op (.fa 2 (.t 3)), (some 17), none⟩, .n, []⟩, ⟨⟨.op (.ld1 (.t 17)), (some 18), none⟩, .n, []⟩, ⟨⟨.call 86 [(.t 6), (.t 8)], (some 9), none⟩, .x, [(true, 11), (true, 9), (true, 7), (true, 5)]⟩, ⟨⟨.call 86 [(.t 11), (.t 13)], (some 14), none⟩, .x, [(true, 11), (true, 9)]⟩, ⟨⟨.call 86 [(.t 16), (.t 18)], (some 19), none⟩, .x, []⟩, ⟨⟨.op (.bslice 1 3 [(.int .i64 0), (.int .i64 0), (.int .i64 0)] [(0, 1, (.t 9)), (1, 1, (.t 14)), (2, 1, (.t 19))]), (some 20), none⟩, .a, [(true, 11), (true, 9), (true, 7), (true, 5), (true, 3), (true, 1)]⟩, ⟨⟨.call 102 [(.t 20)], (some 21), none⟩, .x, []⟩, ⟨⟨.op (.mv (.t 21)), (some 4), none⟩, .x, []⟩])
 [4]
 (.ret)),
 [.tmp 4]⟩
theorem k75 : cFn Try.prog 75 = some c75.toE := by kernel_rfl
theorem w75 : c75.body.wf = true := by kernel_rfl
/-- cmp.Compare[int] -/
noncomputable def c86 : DFn := ⟨20, .pure,
 .seq (.reg [⟨.op (.mv (.c (.int .i64 0))), (some 4), none⟩])
 [0, 1]
 (.seq (.reg [⟨.op (.mv (.t 0)), (some 7), none⟩, ⟨.call 108 [(.t 7)], (some 8), none⟩, ⟨.op (.mv (.t 8)), (some 5), none⟩])
 [0, 1, 5]
 (.seq (.reg [⟨.op (.mv (.t 1)), (some 9), none⟩, ⟨.call 108 [(.t 9)], (some 10), none⟩, ⟨.op (.mv (.t 10)), (some 6), none⟩])
 [0, 1, 5, 6]
 (.seq (.seq (.reg [⟨.op (.mv (.t 5)), (some 11), none⟩])
 [0, 1, 6, 11]
 (.cond (.t 11) (.seq (.seq (.reg [⟨.op (.mv (.t 6)), (some 12), none⟩])
 [12]
 (.cond (.t 12) (.seq (.reg [⟨.op (.mv (.c (.int .i64 0))), (some 4), none⟩])
 [4]
 (.ret)) (.skip)))
 []
 (.seq (.reg [⟨.op (.mv (.c (.int .i64 (-1)))), (some 4), none⟩])
 [4]
 (.ret))) (.skip)))
 [0, 1, 6]
 (.seq (.seq (.reg [⟨.op (.mv (.t 6)), (some 13), none⟩])
 [0, 1, 13]
 (.cond (.t 13) (.seq (.reg [⟨.op (.mv (.c (.int .i64 1))), (some 4), none⟩])
 [4]
 (.ret)) (.skip)))
 [0, 1]
 (.seq (.seq (.reg [⟨.op (.mv (.t 0)), (some 14), none⟩, ⟨.op (.mv (.t 1)), (some 15), none⟩, ⟨.op (.bin .lss 0 (.t 14) (.t 15)), (some 16), none⟩])
 [0, 1, 16]
 (.cond (.t 16) (.seq (.reg [⟨.op (.mv (.c (.int .i64 (-1)))), (some 4), none⟩])
 [4]
 (.ret)) (.skip)))
 [0, 1]
 (.seq (.seq (.reg [⟨.op (.mv (.t 0)), (some 17), none⟩, ⟨.op (.mv (.t 1)), (some 18), none⟩, ⟨.op (.bin .gtr 0 (.t 17) (.t 18)), (some 19), none⟩])
 [19]
 (.cond (.t 19) (.seq (.reg [⟨.op (.mv (.c (.int .i64 1))), (some 4), none⟩])
 [4]
 (.ret)) (.skip)))
 []
 (.seq (.reg [⟨.op (.mv (.c (.int .i64 0))), (some 4), none⟩])
 [4]
 (.ret)))))))),
 [.tmp 4]⟩
theorem k86 : cFn Try.prog 86 = some c86.toE := by kernel_rfl
theorem w86 : c86.body.wf = true := by kernel_rfl
noncomputable def l102_0 : DC :=
 .seq (.reg [⟨.op (.bin .lss 0 (.t 8) (.t 7)), (some 9), none⟩])
 [3, 6, 7, 8, 9]
 (.seq (.cond (.t 9) (.skip) (.exit 0))
 [3, 6, 7, 8]
 (.seq (.block 1 (.seq (.reg [⟨.op (.ia 1 none (.t 6) (.t 8)), (some 10), none⟩, ⟨.op (.ld1 (.t 10)), (some 11), none⟩, ⟨.op (.mv (.t 11)), (some 5), none⟩])
 [3, 5, 6, 7, 8]
 (.seq (.reg [⟨.op (.mv (.t 5)), (some 12), none⟩, ⟨.op (.mv (.t 3)), (some 13), none⟩, ⟨.op (.bin .neq 0 (.t 12) (.t 13)), (some 14), none⟩])
 [3, 5, 6, 7, 8, 14]
 (.cond (.t 14) (.seq (.reg [⟨.op (.mv (.t 5)), (some 15), none⟩, ⟨.op (.mv (.t 15)), (some 2), none⟩])
 [2]
 (.ret)) (.skip)))))
 [3, 6, 7, 8]
 (.reg [⟨.op (.bin .add 0 (.t 8) (.c (.int .i64 1))), (some 16), none⟩, ⟨.op (.mv (.t 16)), (some 8), none⟩])))
theorem u102_0 (call : DCall) (T : Tm) (st : Dv.St) : dCw Try.prog call l102_0 T st = dCw Try.prog call
 (.seq (.reg [⟨.op (.bin .lss 0 (.t 8) (.t 7)), (some 9), none⟩])
 [3, 6, 7, 8, 9]
 (.seq (.cond (.t 9) (.skip) (.exit 0))
 [3, 6, 7, 8]
 (.seq (.block 1 (.seq (.reg [⟨.op (.ia 1 none (.t 6) (.t 8)), (some 10), none⟩, ⟨.op (.ld1 (.t 10)), (some 11), none⟩, ⟨.op (.mv (.t 11)), (some 5), none⟩])
 [3, 5, 6, 7, 8]
 (.seq (.reg [⟨.op (.mv (.t 5)), (some 12), none⟩, ⟨.op (.mv (.t 3)), (some 13), none⟩, ⟨.op (.bin .neq 0 (.t 12) (.t 13)), (some 14), none⟩])
 [3, 5, 6, 7, 8, 14]
 (.cond (.t 14) (.seq (.reg [⟨.op (.mv (.t 5)), (some 15), none⟩, ⟨.op (.mv (.t 15)), (some 2), none⟩])
 [2]
 (.ret)) (.skip)))))
 [3, 6, 7, 8]
 (.reg [⟨.op (.bin .add 0 (.t 8) (.c (.int .i64 1))), (some 16), none⟩, ⟨.op (.mv (.t 16)), (some 8), none⟩])))) T st := rfl
/-- cmp.Or[int] -/
noncomputable def c102 : DFn := ⟨18, .pure,
 .seq (.reg [⟨.op (.mv (.c (.int .i64 0))), (some 2), none⟩])
 [0]
 (.seq (.reg [⟨.op (.mv (.c (.int .i64 0))), (some 3), none⟩])
 [0, 3]
 (.seq (.seq (.reg [⟨.op (.mv (.t 0)), (some 6), none⟩, ⟨.op (.len (.t 6)), (some 7), none⟩, ⟨.op (.mv (.c (.int .i64 0))), (some 8), none⟩])
 [3, 6, 7, 8]
 (.block 0 (.loop [3, 6, 7, 8] (l102_0))))
 [3]
 (.seq (.reg [⟨.op (.mv (.t 3)), (some 17), none⟩, ⟨.op (.mv (.t 17)), (some 2), none⟩])
 [2]
 (.ret)))),
 [.tmp 2]⟩
theorem k102 : cFn Try.prog 102 = some c102.toE := by kernel_rfl
theorem w102 : c102.body.wf = true := by kernel_rfl
/-- cmp.isNaN[int] -/
noncomputable def c108 : DFn := ⟨6, .pure,
 .seq (.reg [⟨.op (.mv (.c (.bool false))), (some 2), none⟩])
 [0]
 (.seq (.reg [⟨.op (.mv (.t 0)), (some 3), none⟩, ⟨.op (.mv (.t 0)), (some 4), none⟩, ⟨.op (.bin .neq 0 (.t 3) (.t 4)), (some 5), none⟩, ⟨.op (.mv (.t 5)), (some 2), none⟩])
 [2]
 (.ret)),
 [.tmp 2]⟩
theorem k108 : cFn Try.prog 108 = some c108.toE := by kernel_rfl
theorem w108 : c108.body.wf = true := by kernel_rfl
/-- cardamom/stamp.May -/
noncomputable def c98 : DFn := ⟨9, .pure,
 .seq (.reg [⟨.op (.box (.t 0)), (some 1), none⟩, ⟨.op (.mv (.c (.bool false))), (some 2), none⟩])
 [1]
 (.seq (.reg [⟨.op (.ldn 3 (.t 1)), (some 3), none⟩, ⟨.call 114 [(.t 3)], (some 4), none⟩, ⟨.op (.build [] []), (some 5), none⟩, ⟨.op (.ifc 147 (.t 5)), (some 6), none⟩, ⟨.call 70 [(.t 4), (.t 6)], (some 7), none⟩, ⟨.op (.not (.t 7)), (some 8), none⟩, ⟨.op (.mv (.t 8)), (some 2), none⟩])
 [2]
 (.ret)),
 [.tmp 2]⟩
theorem k98 : cFn Try.prog 98 = some c98.toE := by kernel_rfl
theorem w98 : c98.body.wf = true := by kernel_rfl
/-- cardamom/stamp.check -/
noncomputable def c114 : DFn := ⟨17, .pure,
 .seq (.reg [⟨.op (.box (.t 0)), (some 1), none⟩, ⟨.op (.mv (.c .nilifc)), (some 2), none⟩])
 [1]
 (.seq (.drw [⟨⟨.op (.fa 0 (.t 1)), (some 3), none⟩, .n, []⟩, ⟨⟨.op (.ld1 (.t 3)), (some 4), none⟩, .n, []⟩, ⟨⟨.op (.fa 1 (.t 1)), (some 6), none⟩, .n, []⟩, ⟨⟨.op (.ld1 (.t 6)), (some 7), none⟩, .n, []⟩, ⟨⟨.op (.fa 2 (.t 1)), (some 9), none⟩, .n, []⟩, ⟨⟨.op (.ld1 (.t 9)), (some 10), none⟩, .n, []⟩, ⟨⟨.op (.fa 0 (.t 1)), (some 11), none⟩, .n, []⟩, ⟨⟨.op (.ld1 (.t 11)), (some 12), none⟩, .n, []⟩, ⟨⟨.op (.slow (operAt Try.prog 114 12)), (some 13), none⟩, .n, []⟩, ⟨⟨.call 119 [(.c (.str [116, 105, 109, 101])), (.t 4), (.c (.int .i64 5000))], (some 5), none⟩, .x, [(true, 7), (true, 5), (true, 3)]⟩, ⟨⟨.call 119 [(.c (.str [114, 101, 112, 108, 105, 99, 97])), (.t 7), (.c (.int .i64 5))], (some 8), none⟩, .x, [(true, 7), (true, 5)]⟩, ⟨⟨.call 119 [(.c (.str [110, 117, 109, 98, 101, 114])), (.t 10), (.t 13)], (some 14), none⟩, .x, []⟩, ⟨⟨.op (.bslice 1 3 [.nilifc, .nilifc, .nilifc] [(0, 1, (.t 5)), (1, 1, (.t 8)), (2, 1, (.t 14))]), (some 15), none⟩, .a, [(true, 7), (true, 5), (true, 3), (true, 1)]⟩, ⟨⟨.call 118 [(.t 15)], (some 16), none⟩, .x, []⟩, ⟨⟨.op (.mv (.t 16)), (some 2), none⟩, .x, []⟩])
 [2]
 (.ret)),
 [.tmp 2]⟩
theorem k114 : cFn Try.prog 114 = some c114.toE := by kernel_rfl
theorem w114 : c114.body.wf = true := by kernel_rfl
/-- cardamom/stamp.within -/
noncomputable def c119 : DFn := ⟨19, .pure,
 .seq (.reg [⟨.op (.mv (.c .nilifc)), (some 6), none⟩])
 [0, 1, 2]
 (.seq (.seq (.reg [⟨.op (.mv (.t 1)), (some 7), none⟩, ⟨.op (.bin .lss 0 (.t 7) (.c (.int .i64 1))), (some 8), none⟩, ⟨.op (.mv (.t 8)), (some 9), none⟩, ⟨.op (.mv (.t 1)), (some 10), (some (9, false))⟩, ⟨.op (.mv (.t 2)), (some 11), (some (9, false))⟩, ⟨.op (.bin .gtr 0 (.t 10) (.t 11)), (some 12), (some (9, false))⟩, ⟨.op (.pick (.t 9) (.c (.bool true)) (.t 12)), (some 13), none⟩])
 [0, 13]
 (.cond (.t 13) (.seq (.reg [⟨.op (.mv (.t 0)), (some 14), none⟩, ⟨.op (.build [] []), (some 15), none⟩, ⟨.op (.ifc 147 (.t 15)), (some 16), none⟩, ⟨.op (.build [(.str []), .nilifc] [(0, 1, (.t 14)), (1, 1, (.t 16))]), (some 17), none⟩, ⟨.op (.ifc 164 (.t 17)), (some 18), none⟩, ⟨.op (.mv (.t 18)), (some 6), none⟩])
 [6]
 (.ret)) (.skip)))
 []
 (.seq (.reg [⟨.op (.mv (.c .nilifc)), (some 6), none⟩])
 [6]
 (.ret))),
 [.tmp 6]⟩
theorem k119 : cFn Try.prog 119 = some c119.toE := by kernel_rfl
theorem w119 : c119.body.wf = true := by kernel_rfl
/-- errors.Is -/
noncomputable def c70 : DFn := ⟨22, .pure,
 .seq (.reg [⟨.op (.mv (.c (.bool false))), (some 4), none⟩])
 [0, 1]
 (.seq (.seq (.reg [⟨.op (.mv (.t 0)), (some 6), none⟩, ⟨.op (.bin .eql 4 (.t 6) (.c .nilifc)), (some 7), none⟩, ⟨.op (.mv (.t 7)), (some 8), none⟩, ⟨.op (.mv (.t 1)), (some 9), (some (8, false))⟩, ⟨.op (.bin .eql 4 (.t 9) (.c .nilifc)), (some 10), (some (8, false))⟩, ⟨.op (.pick (.t 8) (.c (.bool true)) (.t 10)), (some 11), none⟩])
 [0, 1, 11]
 (.cond (.t 11) (.seq (.reg [⟨.op (.mv (.t 0)), (some 12), none⟩, ⟨.op (.mv (.t 1)), (some 13), none⟩, ⟨.op (.slow (operAt Try.prog 70 9)), (some 14), none⟩, ⟨.op (.mv (.t 14)), (some 4), none⟩])
 [4]
 (.ret)) (.skip)))
 [0, 1]
 (.seq (.reg [⟨.op (.mv (.t 1)), (some 15), none⟩, ⟨.ext (operAt Try.prog 70 12), (some 16), none⟩, ⟨.inv (.t 16) "Comparable" [] (operAt Try.prog 70 13), (some 17), none⟩, ⟨.op (.mv (.t 17)), (some 5), none⟩])
 [0, 1, 5]
 (.seq (.reg [⟨.op (.mv (.t 0)), (some 18), none⟩, ⟨.op (.mv (.t 1)), (some 19), none⟩, ⟨.op (.mv (.t 5)), (some 20), none⟩, ⟨.call 97 [(.t 18), (.t 19), (.t 20)], (some 21), none⟩, ⟨.op (.mv (.t 21)), (some 4), none⟩])
 [4]
 (.ret)))),
 [.tmp 4]⟩
theorem k70 : cFn Try.prog 70 = some c70.toE := by kernel_rfl
theorem w70 : c70.body.wf = true := by kernel_rfl
noncomputable def l97_0 : DC :=
 .seq (.reg [⟨.op (.bin .lss 0 (.t 45) (.t 44)), (some 46), none⟩])
 [1, 2, 43, 44, 45, 46]
 (.seq (.cond (.t 46) (.skip) (.exit 3))
 [1, 2, 43, 44, 45]
 (.seq (.block 4 (.seq (.reg [⟨.op (.ia 1 none (.t 43) (.t 45)), (some 47), none⟩, ⟨.op (.ld1 (.t 47)), (some 48), none⟩, ⟨.op (.mv (.t 48)), (some 12), none⟩])
 [1, 2, 12, 43, 44, 45]
 (.seq (.reg [⟨.op (.mv (.t 12)), (some 49), none⟩, ⟨.op (.mv (.t 1)), (some 50), none⟩, ⟨.op (.mv (.t 2)), (some 51), none⟩, ⟨.call 97 [(.t 49), (.t 50), (.t 51)], (some 52), none⟩])
 [1, 2, 43, 44, 45, 52]
 (.cond (.t 52) (.seq (.reg [⟨.op (.mv (.c (.bool true))), (some 6), none⟩])
 [6]
 (.ret)) (.skip)))))
 [1, 2, 43, 44, 45]
 (.reg [⟨.op (.bin .add 0 (.t 45) (.c (.int .i64 1))), (some 53), none⟩, ⟨.op (.mv (.t 53)), (some 45), none⟩])))
theorem u97_0 (call : DCall) (T : Tm) (st : Dv.St) : dCw Try.prog call l97_0 T st = dCw Try.prog call
 (.seq (.reg [⟨.op (.bin .lss 0 (.t 45) (.t 44)), (some 46), none⟩])
 [1, 2, 43, 44, 45, 46]
 (.seq (.cond (.t 46) (.skip) (.exit 3))
 [1, 2, 43, 44, 45]
 (.seq (.block 4 (.seq (.reg [⟨.op (.ia 1 none (.t 43) (.t 45)), (some 47), none⟩, ⟨.op (.ld1 (.t 47)), (some 48), none⟩, ⟨.op (.mv (.t 48)), (some 12), none⟩])
 [1, 2, 12, 43, 44, 45]
 (.seq (.reg [⟨.op (.mv (.t 12)), (some 49), none⟩, ⟨.op (.mv (.t 1)), (some 50), none⟩, ⟨.op (.mv (.t 2)), (some 51), none⟩, ⟨.call 97 [(.t 49), (.t 50), (.t 51)], (some 52), none⟩])
 [1, 2, 43, 44, 45, 52]
 (.cond (.t 52) (.seq (.reg [⟨.op (.mv (.c (.bool true))), (some 6), none⟩])
 [6]
 (.ret)) (.skip)))))
 [1, 2, 43, 44, 45]
 (.reg [⟨.op (.bin .add 0 (.t 45) (.c (.int .i64 1))), (some 53), none⟩, ⟨.op (.mv (.t 53)), (some 45), none⟩])))) T st := rfl
noncomputable def l97_1 : DC :=
 .block 1 (.seq (.seq (.reg [⟨.op (.mv (.t 2)), (some 14), none⟩, ⟨.op (.mv (.t 14)), (some 15), none⟩, ⟨.op (.mv (.t 0)), (some 16), (some (15, true))⟩, ⟨.op (.mv (.t 1)), (some 17), (some (15, true))⟩, ⟨.op (.slow (operAt Try.prog 97 5)), (some 18), (some (15, true))⟩, ⟨.op (.pick (.t 15) (.t 18) (.c (.bool false))), (some 19), none⟩])
 [0, 1, 2, 19]
 (.cond (.t 19) (.seq (.reg [⟨.op (.mv (.c (.bool true))), (some 6), none⟩])
 [6]
 (.ret)) (.skip)))
 [0, 1, 2]
 (.seq (.seq (.reg [⟨.op (.mv (.t 0)), (some 21), none⟩, ⟨.op (.slow (operAt Try.prog 97 9)), (some 22), none⟩, ⟨.op (.mv (.t 22)), (some 20), none⟩, ⟨.op (.ext (.t 20) 0), (some 23), none⟩, ⟨.op (.ext (.t 20) 1), (some 24), none⟩, ⟨.op (.mv (.t 23)), (some 7), none⟩, ⟨.op (.mv (.t 24)), (some 8), none⟩])
 [0, 1, 2, 7, 8]
 (.seq (.reg [⟨.op (.mv (.t 8)), (some 25), none⟩, ⟨.op (.mv (.t 25)), (some 26), none⟩, ⟨.op (.mv (.t 7)), (some 27), (some (26, true))⟩, ⟨.op (.mv (.t 1)), (some 28), (some (26, true))⟩, ⟨.inv (.t 27) "Is" [(.t 28)] (operAt Try.prog 97 19), (some 29), (some (26, true))⟩, ⟨.op (.pick (.t 26) (.t 29) (.c (.bool false))), (some 30), none⟩])
 [0, 1, 2, 30]
 (.cond (.t 30) (.seq (.reg [⟨.op (.mv (.c (.bool true))), (some 6), none⟩])
 [6]
 (.ret)) (.skip))))
 [0, 1, 2]
 (.seq (.reg [⟨.op (.mv (.t 0)), (some 31), none⟩])
 [1, 2, 31]
 (.block 2 (.seq (.reg [⟨.op (.slow (operAt Try.prog 97 23)), (some 32), none⟩, ⟨.op (.ext (.t 32) 1), (some 33), none⟩, ⟨.op (.ext (.t 32) 0), (some 34), none⟩])
 [1, 2, 31, 33, 34]
 (.cond (.t 33) (.seq (.reg [⟨.op (.mv (.t 34)), (some 9), none⟩])
 [1, 2, 9]
 (.seq (.reg [⟨.op (.mv (.t 9)), (some 35), none⟩, ⟨.inv (.t 35) "Unwrap" [] (operAt Try.prog 97 28), (some 36), none⟩, ⟨.op (.mv (.t 36)), (some 0), none⟩])
 [0, 1, 2]
 (.seq (.reg [⟨.op (.mv (.t 0)), (some 37), none⟩, ⟨.op (.bin .eql 4 (.t 37) (.c .nilifc)), (some 38), none⟩])
 [0, 1, 2, 38]
 (.cond (.t 38) (.seq (.reg [⟨.op (.mv (.c (.bool false))), (some 6), none⟩])
 [6]
 (.ret)) (.skip))))) (.seq (.reg [⟨.op (.slow (operAt Try.prog 97 33)), (some 39), none⟩, ⟨.op (.ext (.t 39) 1), (some 40), none⟩, ⟨.op (.ext (.t 39) 0), (some 41), none⟩])
 [1, 2, 31, 40, 41]
 (.cond (.t 40) (.seq (.reg [⟨.op (.mv (.t 41)), (some 10), none⟩])
 [1, 2, 10]
 (.seq (.seq (.reg [⟨.op (.mv (.t 10)), (some 42), none⟩, ⟨.inv (.t 42) "Unwrap" [] (operAt Try.prog 97 38), (some 43), none⟩, ⟨.op (.len (.t 43)), (some 44), none⟩, ⟨.op (.mv (.c (.int .i64 0))), (some 45), none⟩])
 [1, 2, 43, 44, 45]
 (.block 3 (.loop [1, 2, 43, 44, 45] (l97_0))))
 []
 (.seq (.reg [⟨.op (.mv (.c (.bool false))), (some 6), none⟩])
 [6]
 (.ret)))) (.seq (.reg [⟨.op (.mv (.t 31)), (some 13), none⟩])
 []
 (.seq (.reg [⟨.op (.mv (.c (.bool false))), (some 6), none⟩])
 [6]
 (.ret)))))))))))
theorem u97_1 (call : DCall) (T : Tm) (st : Dv.St) : dCw Try.prog call l97_1 T st = dCw Try.prog call
 (.block 1 (.seq (.seq (.reg [⟨.op (.mv (.t 2)), (some 14), none⟩, ⟨.op (.mv (.t 14)), (some 15), none⟩, ⟨.op (.mv (.t 0)), (some 16), (some (15, true))⟩, ⟨.op (.mv (.t 1)), (some 17), (some (15, true))⟩, ⟨.op (.slow (operAt Try.prog 97 5)), (some 18), (some (15, true))⟩, ⟨.op (.pick (.t 15) (.t 18) (.c (.bool false))), (some 19), none⟩])
 [0, 1, 2, 19]
 (.cond (.t 19) (.seq (.reg [⟨.op (.mv (.c (.bool true))), (some 6), none⟩])
 [6]
 (.ret)) (.skip)))
 [0, 1, 2]
 (.seq (.seq (.reg [⟨.op (.mv (.t 0)), (some 21), none⟩, ⟨.op (.slow (operAt Try.prog 97 9)), (some 22), none⟩, ⟨.op (.mv (.t 22)), (some 20), none⟩, ⟨.op (.ext (.t 20) 0), (some 23), none⟩, ⟨.op (.ext (.t 20) 1), (some 24), none⟩, ⟨.op (.mv (.t 23)), (some 7), none⟩, ⟨.op (.mv (.t 24)), (some 8), none⟩])
 [0, 1, 2, 7, 8]
 (.seq (.reg [⟨.op (.mv (.t 8)), (some 25), none⟩, ⟨.op (.mv (.t 25)), (some 26), none⟩, ⟨.op (.mv (.t 7)), (some 27), (some (26, true))⟩, ⟨.op (.mv (.t 1)), (some 28), (some (26, true))⟩, ⟨.inv (.t 27) "Is" [(.t 28)] (operAt Try.prog 97 19), (some 29), (some (26, true))⟩, ⟨.op (.pick (.t 26) (.t 29) (.c (.bool false))), (some 30), none⟩])
 [0, 1, 2, 30]
 (.cond (.t 30) (.seq (.reg [⟨.op (.mv (.c (.bool true))), (some 6), none⟩])
 [6]
 (.ret)) (.skip))))
 [0, 1, 2]
 (.seq (.reg [⟨.op (.mv (.t 0)), (some 31), none⟩])
 [1, 2, 31]
 (.block 2 (.seq (.reg [⟨.op (.slow (operAt Try.prog 97 23)), (some 32), none⟩, ⟨.op (.ext (.t 32) 1), (some 33), none⟩, ⟨.op (.ext (.t 32) 0), (some 34), none⟩])
 [1, 2, 31, 33, 34]
 (.cond (.t 33) (.seq (.reg [⟨.op (.mv (.t 34)), (some 9), none⟩])
 [1, 2, 9]
 (.seq (.reg [⟨.op (.mv (.t 9)), (some 35), none⟩, ⟨.inv (.t 35) "Unwrap" [] (operAt Try.prog 97 28), (some 36), none⟩, ⟨.op (.mv (.t 36)), (some 0), none⟩])
 [0, 1, 2]
 (.seq (.reg [⟨.op (.mv (.t 0)), (some 37), none⟩, ⟨.op (.bin .eql 4 (.t 37) (.c .nilifc)), (some 38), none⟩])
 [0, 1, 2, 38]
 (.cond (.t 38) (.seq (.reg [⟨.op (.mv (.c (.bool false))), (some 6), none⟩])
 [6]
 (.ret)) (.skip))))) (.seq (.reg [⟨.op (.slow (operAt Try.prog 97 33)), (some 39), none⟩, ⟨.op (.ext (.t 39) 1), (some 40), none⟩, ⟨.op (.ext (.t 39) 0), (some 41), none⟩])
 [1, 2, 31, 40, 41]
 (.cond (.t 40) (.seq (.reg [⟨.op (.mv (.t 41)), (some 10), none⟩])
 [1, 2, 10]
 (.seq (.seq (.reg [⟨.op (.mv (.t 10)), (some 42), none⟩, ⟨.inv (.t 42) "Unwrap" [] (operAt Try.prog 97 38), (some 43), none⟩, ⟨.op (.len (.t 43)), (some 44), none⟩, ⟨.op (.mv (.c (.int .i64 0))), (some 45), none⟩])
 [1, 2, 43, 44, 45]
 (.block 3 (.loop [1, 2, 43, 44, 45] (l97_0))))
 []
 (.seq (.reg [⟨.op (.mv (.c (.bool false))), (some 6), none⟩])
 [6]
 (.ret)))) (.seq (.reg [⟨.op (.mv (.t 31)), (some 13), none⟩])
 []
 (.seq (.reg [⟨.op (.mv (.c (.bool false))), (some 6), none⟩])
 [6]
 (.ret)))))))))))) T st := rfl
/-- errors.is -/
noncomputable def c97 : DFn := ⟨54, .pure,
 .seq (.reg [⟨.op (.mv (.c (.bool false))), (some 6), none⟩])
 [0, 1, 2]
 (.block 0 (.loop [0, 1, 2] (l97_1))),
 [.tmp 6]⟩
theorem k97 : cFn Try.prog 97 = some c97.toE := by kernel_rfl
theorem w97 : c97.body.wf = true := by kernel_rfl
noncomputable def l118_0 : DC :=
 .seq (.reg [⟨.op (.bin .lss 0 (.t 11) (.t 10)), (some 12), none⟩])
 [0, 3, 9, 10, 11, 12]
 (.seq (.cond (.t 12) (.skip) (.exit 0))
 [0, 3, 9, 10, 11]
 (.seq (.block 1 (.seq (.reg [⟨.op (.ia 1 none (.t 9) (.t 11)), (some 13), none⟩, ⟨.op (.ld1 (.t 13)), (some 14), none⟩, ⟨.op (.mv (.t 14)), (some 5), none⟩])
 [0, 3, 5, 9, 10, 11]
 (.seq (.reg [⟨.op (.mv (.t 5)), (some 15), none⟩, ⟨.op (.bin .neq 4 (.t 15) (.c .nilifc)), (some 16), none⟩])
 [0, 3, 9, 10, 11, 16]
 (.cond (.t 16) (.reg [⟨.op (.mv (.t 3)), (some 17), none⟩, ⟨.op (.bin .add 0 (.t 17) (.c (.int .i64 1))), (some 18), none⟩, ⟨.op (.mv (.t 18)), (some 3), none⟩]) (.skip)))))
 [0, 3, 9, 10, 11]
 (.reg [⟨.op (.bin .add 0 (.t 11) (.c (.int .i64 1))), (some 19), none⟩, ⟨.op (.mv (.t 19)), (some 11), none⟩])))
theorem u118_0 (call : DCall) (T : Tm) (st : Dv.St) : dCw Try.prog call l118_0 T st = dCw Try.prog call
 (.seq (.reg [⟨.op (.bin .lss 0 (.t 11) (.t 10)), (some 12), none⟩])
 [0, 3, 9, 10, 11, 12]
 (.seq (.cond (.t 12) (.skip) (.exit 0))
 [0, 3, 9, 10, 11]
 (.seq (.block 1 (.seq (.reg [⟨.op (.ia 1 none (.t 9) (.t 11)), (some 13), none⟩, ⟨.op (.ld1 (.t 13)), (some 14), none⟩, ⟨.op (.mv (.t 14)), (some 5), none⟩])
 [0, 3, 5, 9, 10, 11]
 (.seq (.reg [⟨.op (.mv (.t 5)), (some 15), none⟩, ⟨.op (.bin .neq 4 (.t 15) (.c .nilifc)), (some 16), none⟩])
 [0, 3, 9, 10, 11, 16]
 (.cond (.t 16) (.reg [⟨.op (.mv (.t 3)), (some 17), none⟩, ⟨.op (.bin .add 0 (.t 17) (.c (.int .i64 1))), (some 18), none⟩, ⟨.op (.mv (.t 18)), (some 3), none⟩]) (.skip)))))
 [0, 3, 9, 10, 11]
 (.reg [⟨.op (.bin .add 0 (.t 11) (.c (.int .i64 1))), (some 19), none⟩, ⟨.op (.mv (.t 19)), (some 11), none⟩])))) T st := rfl
noncomputable def l118_1 : DC :=
 .seq (.reg [⟨.op (.bin .lss 0 (.t 28) (.t 27)), (some 29), none⟩])
 [6, 26, 27, 28, 29]
 (.seq (.cond (.t 29) (.skip) (.exit 2))
 [6, 26, 27, 28]
 (.seq (.block 3 (.seq (.reg [⟨.op (.ia 1 none (.t 26) (.t 28)), (some 30), none⟩, ⟨.op (.ld1 (.t 30)), (some 31), none⟩, ⟨.op (.mv (.t 31)), (some 8), none⟩])
 [6, 8, 26, 27, 28]
 (.seq (.reg [⟨.op (.mv (.t 8)), (some 32), none⟩, ⟨.op (.bin .neq 4 (.t 32) (.c .nilifc)), (some 33), none⟩])
 [6, 8, 26, 27, 28, 33]
 (.cond (.t 33) (.reg [⟨.op (.mv (.t 6)), (some 34), none⟩, ⟨.op (.mv (.t 6)), (some 35), none⟩, ⟨.op (.nilchk (.t 35)), (some 36), none⟩, ⟨.op (.fa 0 (.t 36)), (some 37), none⟩, ⟨.op (.ld1 (.t 37)), (some 38), none⟩, ⟨.op (.mv (.t 8)), (some 39), none⟩, ⟨.op (.bslice 1 1 [.nilifc] [(0, 1, (.t 39))]), (some 40), none⟩, ⟨.op (.app 1 16 false (.t 38) (.t 40)), (some 41), none⟩, ⟨.op (.nilchk (.t 34)), (some 42), none⟩, ⟨.op (.fa 0 (.t 42)), (some 43), none⟩, ⟨.op (.st 1 (.t 43) (.t 41)), none, none⟩]) (.skip)))))
 [6, 26, 27, 28]
 (.reg [⟨.op (.bin .add 0 (.t 28) (.c (.int .i64 1))), (some 44), none⟩, ⟨.op (.mv (.t 44)), (some 28), none⟩])))
theorem u118_1 (call : DCall) (T : Tm) (st : Dv.St) : dCw Try.prog call l118_1 T st = dCw Try.prog call
 (.seq (.reg [⟨.op (.bin .lss 0 (.t 28) (.t 27)), (some 29), none⟩])
 [6, 26, 27, 28, 29]
 (.seq (.cond (.t 29) (.skip) (.exit 2))
 [6, 26, 27, 28]
 (.seq (.block 3 (.seq (.reg [⟨.op (.ia 1 none (.t 26) (.t 28)), (some 30), none⟩, ⟨.op (.ld1 (.t 30)), (some 31), none⟩, ⟨.op (.mv (.t 31)), (some 8), none⟩])
 [6, 8, 26, 27, 28]
 (.seq (.reg [⟨.op (.mv (.t 8)), (some 32), none⟩, ⟨.op (.bin .neq 4 (.t 32) (.c .nilifc)), (some 33), none⟩])
 [6, 8, 26, 27, 28, 33]
 (.cond (.t 33) (.reg [⟨.op (.mv (.t 6)), (some 34), none⟩, ⟨.op (.mv (.t 6)), (some 35), none⟩, ⟨.op (.nilchk (.t 35)), (some 36), none⟩, ⟨.op (.fa 0 (.t 36)), (some 37), none⟩, ⟨.op (.ld1 (.t 37)), (some 38), none⟩, ⟨.op (.mv (.t 8)), (some 39), none⟩, ⟨.op (.bslice 1 1 [.nilifc] [(0, 1, (.t 39))]), (some 40), none⟩, ⟨.op (.app 1 16 false (.t 38) (.t 40)), (some 41), none⟩, ⟨.op (.nilchk (.t 34)), (some 42), none⟩, ⟨.op (.fa 0 (.t 42)), (some 43), none⟩, ⟨.op (.st 1 (.t 43) (.t 41)), none, none⟩]) (.skip)))))
 [6, 26, 27, 28]
 (.reg [⟨.op (.bin .add 0 (.t 28) (.c (.int .i64 1))), (some 44), none⟩, ⟨.op (.mv (.t 44)), (some 28), none⟩])))) T st := rfl
/-- errors.Join -/
noncomputable def c118 : DFn := ⟨47, .pure,
 .seq (.reg [⟨.op (.mv (.c .nilifc)), (some 2), none⟩])
 [0]
 (.seq (.reg [⟨.op (.mv (.c (.int .i64 0))), (some 3), none⟩])
 [0, 3]
 (.seq (.seq (.reg [⟨.op (.mv (.t 0)), (some 9), none⟩, ⟨.op (.len (.t 9)), (some 10), none⟩, ⟨.op (.mv (.c (.int .i64 0))), (some 11), none⟩])
 [0, 3, 9, 10, 11]
 (.block 0 (.loop [0, 3, 9, 10, 11] (l118_0))))
 [0, 3]
 (.seq (.seq (.reg [⟨.op (.mv (.t 3)), (some 20), none⟩, ⟨.op (.bin .eql 0 (.t 20) (.c (.int .i64 0))), (some 21), none⟩])
 [0, 3, 21]
 (.cond (.t 21) (.seq (.reg [⟨.op (.mv (.c .nilifc)), (some 2), none⟩])
 [2]
 (.ret)) (.skip)))
 [0, 3]
 (.seq (.reg [⟨.op (.mv (.t 3)), (some 22), none⟩, ⟨.op (.mks 1 16 [.nilifc] (.c (.int .i64 0)) (.t 22)), (some 23), none⟩, ⟨.op (.build [(.sl none 0)] [(0, 1, (.t 23))]), (some 24), none⟩, ⟨.op (.box (.t 24)), (some 25), none⟩, ⟨.op (.mv (.t 25)), (some 6), none⟩])
 [0, 6]
 (.seq (.seq (.reg [⟨.op (.mv (.t 0)), (some 26), none⟩, ⟨.op (.len (.t 26)), (some 27), none⟩, ⟨.op (.mv (.c (.int .i64 0))), (some 28), none⟩])
 [6, 26, 27, 28]
 (.block 2 (.loop [6, 26, 27, 28] (l118_1))))
 [6]
 (.seq (.reg [⟨.op (.mv (.t 6)), (some 45), none⟩, ⟨.op (.ifc 160 (.t 45)), (some 46), none⟩, ⟨.op (.mv (.t 46)), (some 2), none⟩])
 [2]
 (.ret))))))),
 [.tmp 2]⟩
theorem k118 : cFn Try.prog 118 = some c118.toE := by kernel_rfl
theorem w118 : c118.body.wf = true := by kernel_rfl
/-- (cardamom/stamp.part).Unwrap -/
noncomputable def c157 : DFn := ⟨5, .pure,
 .seq (.reg [⟨.op (.box (.t 0)), (some 1), none⟩, ⟨.op (.mv (.c .nilifc)), (some 2), none⟩])
 [1]
 (.seq (.reg [⟨.op (.fa 1 (.t 1)), (some 3), none⟩, ⟨.op (.ld1 (.t 3)), (some 4), none⟩, ⟨.op (.mv (.t 4)), (some 2), none⟩])
 [2]
 (.ret)),
 [.tmp 2]⟩
theorem k157 : cFn Try.prog 157 = some c157.toE := by kernel_rfl
theorem w157 : c157.body.wf = true := by kernel_rfl
/-- (*errors.joinError).Unwrap -/
noncomputable def c155 : DFn := ⟨7, .pure,
 .seq (.reg [⟨.op (.mv (.c (.sl none 0))), (some 2), none⟩])
 [0]
 (.seq (.reg [⟨.op (.mv (.t 0)), (some 3), none⟩, ⟨.op (.nilchk (.t 3)), (some 4), none⟩, ⟨.op (.fa 0 (.t 4)), (some 5), none⟩, ⟨.op (.ld1 (.t 5)), (some 6), none⟩, ⟨.op (.mv (.t 6)), (some 2), none⟩])
 [2]
 (.ret)),
 [.tmp 2]⟩
theorem k155 : cFn Try.prog 155 = some c155.toE := by kernel_rfl
theorem w155 : c155.body.wf = true := by kernel_rfl
noncomputable def l99_0 : DC :=
 .seq (.seq (.reg [⟨.op (.mv (.t 9)), (some 15), none⟩, ⟨.op (.mv (.t 10)), (some 16), none⟩, ⟨.op (.bin .lss 0 (.t 15) (.t 16)), (some 17), none⟩])
 [0, 1, 2, 8, 9, 10, 17]
 (.cond (.t 17) (.skip) (.exit 0)))
 [0, 1, 2, 8, 9, 10]
 (.block 1 (.seq (.reg [⟨.op (.mv (.t 9)), (some 18), none⟩, ⟨.op (.mv (.t 10)), (some 19), none⟩, ⟨.op (.bin .add 0 (.t 18) (.t 19)), (some 20), none⟩, ⟨.op (.conv .u64 (.t 20)), (some 21), none⟩, ⟨.op (.slow (operAt Try.prog 99 15)), (some 22), none⟩, ⟨.op (.conv .i64 (.t 22)), (some 23), none⟩, ⟨.op (.mv (.t 23)), (some 11), none⟩])
 [0, 1, 2, 8, 9, 10, 11]
 (.seq (.reg [⟨.op (.mv (.t 2)), (some 24), none⟩, ⟨.op (.mv (.t 0)), (some 25), none⟩, ⟨.op (.mv (.t 11)), (some 26), none⟩, ⟨.op (.ia 4 none (.t 25) (.t 26)), (some 27), none⟩, ⟨.op (.ldn 4 (.t 27)), (some 28), none⟩, ⟨.op (.mv (.t 1)), (some 29), none⟩, ⟨.callv (.t 24) [(.t 28), (.t 29)], (some 30), none⟩, ⟨.op (.bin .lss 0 (.t 30) (.c (.int .i64 0))), (some 31), none⟩])
 [0, 1, 2, 8, 9, 10, 11, 31]
 (.cond (.t 31) (.reg [⟨.op (.mv (.t 11)), (some 32), none⟩, ⟨.op (.bin .add 0 (.t 32) (.c (.int .i64 1))), (some 33), none⟩, ⟨.op (.mv (.t 33)), (some 9), none⟩]) (.reg [⟨.op (.mv (.t 11)), (some 34), none⟩, ⟨.op (.mv (.t 34)), (some 10), none⟩])))))
theorem u99_0 (call : DCall) (T : Tm) (st : Dv.St) : dCw Try.prog call l99_0 T st = dCw Try.prog call
 (.seq (.seq (.reg [⟨.op (.mv (.t 9)), (some 15), none⟩, ⟨.op (.mv (.t 10)), (some 16), none⟩, ⟨.op (.bin .lss 0 (.t 15) (.t 16)), (some 17), none⟩])
 [0, 1, 2, 8, 9, 10, 17]
 (.cond (.t 17) (.skip) (.exit 0)))
 [0, 1, 2, 8, 9, 10]
 (.block 1 (.seq (.reg [⟨.op (.mv (.t 9)), (some 18), none⟩, ⟨.op (.mv (.t 10)), (some 19), none⟩, ⟨.op (.bin .add 0 (.t 18) (.t 19)), (some 20), none⟩, ⟨.op (.conv .u64 (.t 20)), (some 21), none⟩, ⟨.op (.slow (operAt Try.prog 99 15)), (some 22), none⟩, ⟨.op (.conv .i64 (.t 22)), (some 23), none⟩, ⟨.op (.mv (.t 23)), (some 11), none⟩])
 [0, 1, 2, 8, 9, 10, 11]
 (.seq (.reg [⟨.op (.mv (.t 2)), (some 24), none⟩, ⟨.op (.mv (.t 0)), (some 25), none⟩, ⟨.op (.mv (.t 11)), (some 26), none⟩, ⟨.op (.ia 4 none (.t 25) (.t 26)), (some 27), none⟩, ⟨.op (.ldn 4 (.t 27)), (some 28), none⟩, ⟨.op (.mv (.t 1)), (some 29), none⟩, ⟨.callv (.t 24) [(.t 28), (.t 29)], (some 30), none⟩, ⟨.op (.bin .lss 0 (.t 30) (.c (.int .i64 0))), (some 31), none⟩])
 [0, 1, 2, 8, 9, 10, 11, 31]
 (.cond (.t 31) (.reg [⟨.op (.mv (.t 11)), (some 32), none⟩, ⟨.op (.bin .add 0 (.t 32) (.c (.int .i64 1))), (some 33), none⟩, ⟨.op (.mv (.t 33)), (some 9), none⟩]) (.reg [⟨.op (.mv (.t 11)), (some 34), none⟩, ⟨.op (.mv (.t 34)), (some 10), none⟩])))))) T st := rfl
/-- slices.BinarySearchFunc[[]cardamom/api.Head,cardamom/api.Head,int] -/
noncomputable def c99 : DFn := ⟨49, .pure,
 .seq (.reg [⟨.op (.mv (.c (.int .i64 0))), (some 6), none⟩, ⟨.op (.mv (.c (.bool false))), (some 7), none⟩])
 [0, 1, 2]
 (.seq (.reg [⟨.op (.mv (.t 0)), (some 12), none⟩, ⟨.op (.len (.t 12)), (some 13), none⟩, ⟨.op (.mv (.t 13)), (some 8), none⟩])
 [0, 1, 2, 8]
 (.seq (.reg [⟨.op (.mv (.t 8)), (some 14), none⟩, ⟨.op (.mv (.c (.int .i64 0))), (some 9), none⟩, ⟨.op (.mv (.t 14)), (some 10), none⟩])
 [0, 1, 2, 8, 9, 10]
 (.seq (.block 0 (.loop [0, 1, 2, 8, 9, 10] (l99_0)))
 [0, 1, 2, 8, 9]
 (.seq (.reg [⟨.op (.mv (.t 9)), (some 35), none⟩, ⟨.op (.mv (.t 9)), (some 36), none⟩, ⟨.op (.mv (.t 8)), (some 37), none⟩, ⟨.op (.bin .lss 0 (.t 36) (.t 37)), (some 38), none⟩, ⟨.op (.mv (.t 38)), (some 39), none⟩, ⟨.op (.mv (.t 2)), (some 40), (some (39, true))⟩, ⟨.op (.mv (.t 0)), (some 41), (some (39, true))⟩, ⟨.op (.mv (.t 9)), (some 42), (some (39, true))⟩, ⟨.op (.ia 4 none (.t 41) (.t 42)), (some 43), (some (39, true))⟩, ⟨.op (.ldn 4 (.t 43)), (some 44), (some (39, true))⟩, ⟨.op (.mv (.t 1)), (some 45), (some (39, true))⟩, ⟨.callv (.t 40) [(.t 44), (.t 45)], (some 46), (some (39, true))⟩, ⟨.op (.bin .eql 0 (.t 46) (.c (.int .i64 0))), (some 47), (some (39, true))⟩, ⟨.op (.pick (.t 39) (.t 47) (.c (.bool false))), (some 48), none⟩, ⟨.op (.mv (.t 35)), (some 6), none⟩, ⟨.op (.mv (.t 48)), (some 7), none⟩])
 [6, 7]
 (.ret))))),
 [.tmp 6, .tmp 7]⟩
theorem k99 : cFn Try.prog 99 = some c99.toE := by kernel_rfl
theorem w99 : c99.body.wf = true := by kernel_rfl
/-- slices.Clone[[]cardamom/api.Head,cardamom/api.Head] -/
noncomputable def c76 : DFn := ⟨8, .pure,
 .seq (.reg [⟨.op (.mv (.c (.sl none 0))), (some 2), none⟩])
 [0]
 (.seq (.seq (.reg [⟨.op (.mv (.t 0)), (some 3), none⟩, ⟨.op (.bin .eql 1 (.t 3) (.c (.sl none 0))), (some 4), none⟩])
 [0, 4]
 (.cond (.t 4) (.seq (.reg [⟨.op (.mv (.c (.sl none 0))), (some 2), none⟩])
 [2]
 (.ret)) (.skip)))
 [0]
 (.seq (.reg [⟨.op (.bslice 4 0 [] []), (some 5), none⟩, ⟨.op (.mv (.t 0)), (some 6), none⟩, ⟨.op (.app 4 32 false (.t 5) (.t 6)), (some 7), none⟩, ⟨.op (.mv (.t 7)), (some 2), none⟩])
 [2]
 (.ret))),
 [.tmp 2]⟩
theorem k76 : cFn Try.prog 76 = some c76.toE := by kernel_rfl
theorem w76 : c76.body.wf = true := by kernel_rfl
/-- slices.ContainsFunc[[]cardamom/api.Head,cardamom/api.Head] -/
noncomputable def c73 : DFn := ⟨9, .pure,
 .seq (.reg [⟨.op (.mv (.c (.bool false))), (some 4), none⟩])
 [0, 1]
 (.seq (.reg [⟨.op (.mv (.t 0)), (some 5), none⟩, ⟨.op (.mv (.t 1)), (some 6), none⟩, ⟨.call 101 [(.t 5), (.t 6)], (some 7), none⟩, ⟨.op (.bin .geq 0 (.t 7) (.c (.int .i64 0))), (some 8), none⟩, ⟨.op (.mv (.t 8)), (some 4), none⟩])
 [4]
 (.ret)),
 [.tmp 4]⟩
theorem k73 : cFn Try.prog 73 = some c73.toE := by kernel_rfl
theorem w73 : c73.body.wf = true := by kernel_rfl
noncomputable def l101_0 : DC :=
 .seq (.reg [⟨.op (.bin .lss 0 (.t 8) (.t 7)), (some 9), none⟩])
 [0, 1, 7, 8, 9]
 (.seq (.cond (.t 9) (.skip) (.exit 0))
 [0, 1, 7, 8]
 (.seq (.block 1 (.seq (.reg [⟨.op (.mv (.t 8)), (some 10), none⟩, ⟨.op (.mv (.t 10)), (some 5), none⟩])
 [0, 1, 5, 7, 8]
 (.seq (.reg [⟨.op (.mv (.t 1)), (some 11), none⟩, ⟨.op (.mv (.t 0)), (some 12), none⟩, ⟨.op (.mv (.t 5)), (some 13), none⟩, ⟨.op (.ia 4 none (.t 12) (.t 13)), (some 14), none⟩, ⟨.op (.ldn 4 (.t 14)), (some 15), none⟩, ⟨.callv (.t 11) [(.t 15)], (some 16), none⟩])
 [0, 1, 5, 7, 8, 16]
 (.cond (.t 16) (.seq (.reg [⟨.op (.mv (.t 5)), (some 17), none⟩, ⟨.op (.mv (.t 17)), (some 4), none⟩])
 [4]
 (.ret)) (.skip)))))
 [0, 1, 7, 8]
 (.reg [⟨.op (.bin .add 0 (.t 8) (.c (.int .i64 1))), (some 18), none⟩, ⟨.op (.mv (.t 18)), (some 8), none⟩])))
theorem u101_0 (call : DCall) (T : Tm) (st : Dv.St) : dCw Try.prog call l101_0 T st = dCw Try.prog call
 (.seq (.reg [⟨.op (.bin .lss 0 (.t 8) (.t 7)), (some 9), none⟩])
 [0, 1, 7, 8, 9]
 (.seq (.cond (.t 9) (.skip) (.exit 0))
 [0, 1, 7, 8]
 (.seq (.block 1 (.seq (.reg [⟨.op (.mv (.t 8)), (some 10), none⟩, ⟨.op (.mv (.t 10)), (some 5), none⟩])
 [0, 1, 5, 7, 8]
 (.seq (.reg [⟨.op (.mv (.t 1)), (some 11), none⟩, ⟨.op (.mv (.t 0)), (some 12), none⟩, ⟨.op (.mv (.t 5)), (some 13), none⟩, ⟨.op (.ia 4 none (.t 12) (.t 13)), (some 14), none⟩, ⟨.op (.ldn 4 (.t 14)), (some 15), none⟩, ⟨.callv (.t 11) [(.t 15)], (some 16), none⟩])
 [0, 1, 5, 7, 8, 16]
 (.cond (.t 16) (.seq (.reg [⟨.op (.mv (.t 5)), (some 17), none⟩, ⟨.op (.mv (.t 17)), (some 4), none⟩])
 [4]
 (.ret)) (.skip)))))
 [0, 1, 7, 8]
 (.reg [⟨.op (.bin .add 0 (.t 8) (.c (.int .i64 1))), (some 18), none⟩, ⟨.op (.mv (.t 18)), (some 8), none⟩])))) T st := rfl
/-- slices.IndexFunc[[]cardamom/api.Head,cardamom/api.Head] -/
noncomputable def c101 : DFn := ⟨19, .pure,
 .seq (.reg [⟨.op (.mv (.c (.int .i64 0))), (some 4), none⟩])
 [0, 1]
 (.seq (.seq (.reg [⟨.op (.mv (.t 0)), (some 6), none⟩, ⟨.op (.len (.t 6)), (some 7), none⟩, ⟨.op (.mv (.c (.int .i64 0))), (some 8), none⟩])
 [0, 1, 7, 8]
 (.block 0 (.loop [0, 1, 7, 8] (l101_0))))
 []
 (.seq (.reg [⟨.op (.mv (.c (.int .i64 (-1)))), (some 4), none⟩])
 [4]
 (.ret))),
 [.tmp 4]⟩
theorem k101 : cFn Try.prog 101 = some c101.toE := by kernel_rfl
theorem w101 : c101.body.wf = true := by kernel_rfl
/-- cardamom/seen.May -/
noncomputable def c41 : DFn := ⟨9, .pure,
 .seq (.reg [⟨.op (.mv (.c (.bool false))), (some 2), none⟩])
 [0]
 (.seq (.reg [⟨.op (.mv (.t 0)), (some 3), none⟩, ⟨.call 71 [(.t 3)], (some 4), none⟩, ⟨.op (.build [] []), (some 5), none⟩, ⟨.op (.ifc 99 (.t 5)), (some 6), none⟩, ⟨.call 70 [(.t 4), (.t 6)], (some 7), none⟩, ⟨.op (.not (.t 7)), (some 8), none⟩, ⟨.op (.mv (.t 8)), (some 2), none⟩])
 [2]
 (.ret)),
 [.tmp 2]⟩
theorem k41 : cFn Try.prog 41 = some c41.toE := by kernel_rfl
theorem w41 : c41.body.wf = true := by kernel_rfl
/-- cardamom/seen.At -/
noncomputable def c42 : DFn := ⟨21, .pure,
 .seq (.reg [⟨.op (.new [(.int .i64 0), (.int .i64 0), (.int .i64 0)]), (some 4), none⟩])
 [0, 1, 4]
 (.seq (.reg [⟨.op (.mv (.t 0)), (some 8), none⟩, ⟨.op (.mv (.t 1)), (some 9), none⟩, ⟨.call 72 [(.t 8), (.t 9)], (some 10), none⟩, ⟨.op (.mv (.t 10)), (some 7), none⟩, ⟨.op (.ext (.t 7) 0), (some 11), none⟩, ⟨.op (.ext (.t 7) 1), (some 12), none⟩, ⟨.op (.mv (.t 11)), (some 5), none⟩, ⟨.op (.mv (.t 12)), (some 6), none⟩])
 [0, 4, 5, 6]
 (.seq (.seq (.reg [⟨.op (.mv (.t 6)), (some 13), none⟩, ⟨.op (.not (.t 13)), (some 14), none⟩])
 [0, 4, 5, 14]
 (.cond (.t 14) (.seq (.reg [⟨.op (.build [(.int .i64 0), (.int .i64 0), (.int .i64 0)] []), (some 15), none⟩, ⟨.op (.st 3 (.t 4) (.t 15)), none, none⟩])
 [4]
 (.ret)) (.skip)))
 [0, 4, 5]
 (.seq (.reg [⟨.op (.mv (.t 0)), (some 16), none⟩, ⟨.op (.mv (.t 5)), (some 17), none⟩, ⟨.op (.ia 4 none (.t 16) (.t 17)), (some 18), none⟩, ⟨.op (.fa 1 (.t 18)), (some 19), none⟩, ⟨.op (.ldn 3 (.t 19)), (some 20), none⟩, ⟨.op (.st 3 (.t 4) (.t 20)), none, none⟩])
 [4]
 (.ret)))),
 [.celln 3 4]⟩
theorem k42 : cFn Try.prog 42 = some c42.toE := by kernel_rfl
theorem w42 : c42.body.wf = true := by kernel_rfl
/-- cardamom/seen.Within -/
noncomputable def c44 : DFn := ⟨9, .pure,
 .seq (.reg [⟨.op (.box (.t 1)), (some 3), none⟩, ⟨.op (.mv (.c (.bool false))), (some 4), none⟩])
 [0, 3]
 (.seq (.reg [⟨.op (.mv (.t 0)), (some 5), none⟩, ⟨.op (.fn 74 [(.t 3)]), (some 6), none⟩, ⟨.call 73 [(.t 5), (.t 6)], (some 7), none⟩, ⟨.op (.not (.t 7)), (some 8), none⟩, ⟨.op (.mv (.t 8)), (some 4), none⟩])
 [4]
 (.ret)),
 [.tmp 4]⟩
theorem k44 : cFn Try.prog 44 = some c44.toE := by kernel_rfl
theorem w44 : c44.body.wf = true := by kernel_rfl
/-- cardamom/seen.Within$1 -/
noncomputable def c74 : DFn := ⟨12, .pure,
 .seq (.reg [⟨.op (.box (.t 0)), (some 2), none⟩, ⟨.op (.mv (.c (.bool false))), (some 3), none⟩])
 [1, 2]
 (.seq (.drw [⟨⟨.op (.ld1 (.t 1)), (some 4), none⟩, .n, []⟩, ⟨⟨.op (.fa 0 (.t 2)), (some 5), none⟩, .n, []⟩, ⟨⟨.op (.ld1 (.t 5)), (some 6), none⟩, .n, []⟩, ⟨⟨.op (.fa 1 (.t 2)), (some 8), none⟩, .n, []⟩, ⟨⟨.op (.ldn 3 (.t 8)), (some 9), none⟩, .n, []⟩, ⟨⟨.call 42 [(.t 4), (.t 6)], (some 7), none⟩, .x, [(true, 4)]⟩, ⟨⟨.call 75 [(.t 7), (.t 9)], (some 10), none⟩, .x, []⟩, ⟨⟨.op (.bin .lss 0 (.t 10) (.c (.int .i64 0))), (some 11), none⟩, .n, []⟩, ⟨⟨.op (.mv (.t 11)), (some 3), none⟩, .x, []⟩])
 [3]
 (.ret)),
 [.tmp 3]⟩
theorem k74 : cFn Try.prog 74 = some c74.toE := by kernel_rfl
theorem w74 : c74.body.wf = true := by kernel_rfl
/-- cardamom/seen.Put -/
noncomputable def c45 : DFn := ⟨36, .pure,
 .seq (.reg [⟨.op (.box (.t 1)), (some 3), none⟩, ⟨.op (.mv (.c (.sl none 0))), (some 4), none⟩])
 [0, 3]
 (.seq (.reg [⟨.op (.mv (.t 0)), (some 7), none⟩, ⟨.call 76 [(.t 7)], (some 8), none⟩, ⟨.op (.mv (.t 8)), (some 0), none⟩])
 [0, 3]
 (.seq (.seq (.drw [⟨⟨.op (.fa 1 (.t 3)), (some 9), none⟩, .n, []⟩, ⟨⟨.op (.ldn 3 (.t 9)), (some 10), none⟩, .n, []⟩, ⟨⟨.op (.mv (.t 0)), (some 11), none⟩, .n, []⟩, ⟨⟨.op (.fa 0 (.t 3)), (some 12), none⟩, .n, []⟩, ⟨⟨.op (.ld1 (.t 12)), (some 13), none⟩, .n, []⟩, ⟨⟨.call 42 [(.t 11), (.t 13)], (some 14), none⟩, .x, [(true, 1)]⟩, ⟨⟨.call 75 [(.t 10), (.t 14)], (some 15), none⟩, .x, []⟩, ⟨⟨.op (.bin .leq 0 (.t 15) (.c (.int .i64 0))), (some 16), none⟩, .n, []⟩])
 [0, 3, 16]
 (.cond (.t 16) (.seq (.reg [⟨.op (.mv (.t 0)), (some 17), none⟩, ⟨.op (.mv (.t 17)), (some 4), none⟩])
 [4]
 (.ret)) (.skip)))
 [0, 3]
 (.seq (.reg [⟨.op (.mv (.t 0)), (some 19), none⟩, ⟨.op (.fa 0 (.t 3)), (some 20), none⟩, ⟨.op (.ld1 (.t 20)), (some 21), none⟩, ⟨.call 72 [(.t 19), (.t 21)], (some 22), none⟩, ⟨.op (.mv (.t 22)), (some 18), none⟩, ⟨.op (.ext (.t 18) 0), (some 23), none⟩, ⟨.op (.ext (.t 18) 1), (some 24), none⟩, ⟨.op (.mv (.t 23)), (some 5), none⟩, ⟨.op (.mv (.t 24)), (some 6), none⟩])
 [0, 3, 5, 6]
 (.seq (.seq (.reg [⟨.op (.mv (.t 6)), (some 25), none⟩])
 [0, 3, 5, 25]
 (.cond (.t 25) (.seq (.reg [⟨.op (.mv (.t 0)), (some 26), none⟩, ⟨.op (.mv (.t 5)), (some 27), none⟩, ⟨.op (.ldn 4 (.t 3)), (some 28), none⟩, ⟨.op (.ia 4 none (.t 26) (.t 27)), (some 29), none⟩, ⟨.op (.st 4 (.t 29) (.t 28)), none, none⟩])
 [0]
 (.seq (.reg [⟨.op (.mv (.t 0)), (some 30), none⟩, ⟨.op (.mv (.t 30)), (some 4), none⟩])
 [4]
 (.ret))) (.skip)))
 [0, 3, 5]
 (.seq (.reg [⟨.op (.mv (.t 0)), (some 31), none⟩, ⟨.op (.mv (.t 5)), (some 32), none⟩, ⟨.op (.ldn 4 (.t 3)), (some 33), none⟩, ⟨.op (.bslice 4 1 [(.int .i64 0), (.int .i64 0), (.int .i64 0), (.int .i64 0)] [(0, 4, (.t 33))]), (some 34), none⟩, ⟨.call 77 [(.t 31), (.t 32), (.t 34)], (some 35), none⟩, ⟨.op (.mv (.t 35)), (some 4), none⟩])
 [4]
 (.ret)))))),
 [.tmp 4]⟩
theorem k45 : cFn Try.prog 45 = some c45.toE := by kernel_rfl
theorem w45 : c45.body.wf = true := by kernel_rfl
noncomputable def l47_0 : DC :=
 .seq (.reg [⟨.op (.bin .lss 0 (.t 11) (.t 10)), (some 12), none⟩])
 [0, 9, 10, 11, 12]
 (.seq (.cond (.t 12) (.skip) (.exit 0))
 [0, 9, 10, 11]
 (.seq (.block 1 (.seq (.reg [⟨.op (.ia 4 none (.t 9) (.t 11)), (some 13), none⟩, ⟨.op (.ldn 4 (.t 13)), (some 14), none⟩, ⟨.op (.new [(.int .i64 0), (.int .i64 0), (.int .i64 0), (.int .i64 0)]), (some 6), none⟩, ⟨.op (.st 4 (.t 6) (.t 14)), none, none⟩])
 [0, 6, 9, 10, 11]
 (.reg [⟨.op (.mv (.t 0)), (some 15), none⟩, ⟨.op (.ldn 4 (.t 6)), (some 16), none⟩, ⟨.call 45 [(.t 15), (.t 16)], (some 17), none⟩, ⟨.op (.mv (.t 17)), (some 0), none⟩])))
 [0, 9, 10, 11]
 (.reg [⟨.op (.bin .add 0 (.t 11) (.c (.int .i64 1))), (some 18), none⟩, ⟨.op (.mv (.t 18)), (some 11), none⟩])))
theorem u47_0 (call : DCall) (T : Tm) (st : Dv.St) : dCw Try.prog call l47_0 T st = dCw Try.prog call
 (.seq (.reg [⟨.op (.bin .lss 0 (.t 11) (.t 10)), (some 12), none⟩])
 [0, 9, 10, 11, 12]
 (.seq (.cond (.t 12) (.skip) (.exit 0))
 [0, 9, 10, 11]
 (.seq (.block 1 (.seq (.reg [⟨.op (.ia 4 none (.t 9) (.t 11)), (some 13), none⟩, ⟨.op (.ldn 4 (.t 13)), (some 14), none⟩, ⟨.op (.new [(.int .i64 0), (.int .i64 0), (.int .i64 0), (.int .i64 0)]), (some 6), none⟩, ⟨.op (.st 4 (.t 6) (.t 14)), none, none⟩])
 [0, 6, 9, 10, 11]
 (.reg [⟨.op (.mv (.t 0)), (some 15), none⟩, ⟨.op (.ldn 4 (.t 6)), (some 16), none⟩, ⟨.call 45 [(.t 15), (.t 16)], (some 17), none⟩, ⟨.op (.mv (.t 17)), (some 0), none⟩])))
 [0, 9, 10, 11]
 (.reg [⟨.op (.bin .add 0 (.t 11) (.c (.int .i64 1))), (some 18), none⟩, ⟨.op (.mv (.t 18)), (some 11), none⟩])))) T st := rfl
/-- cardamom/seen.Most -/
noncomputable def c47 : DFn := ⟨20, .pure,
 .seq (.reg [⟨.op (.mv (.c (.sl none 0))), (some 4), none⟩])
 [0, 1]
 (.seq (.reg [⟨.op (.mv (.t 0)), (some 7), none⟩, ⟨.call 76 [(.t 7)], (some 8), none⟩, ⟨.op (.mv (.t 8)), (some 0), none⟩])
 [0, 1]
 (.seq (.seq (.reg [⟨.op (.mv (.t 1)), (some 9), none⟩, ⟨.op (.len (.t 9)), (some 10), none⟩, ⟨.op (.mv (.c (.int .i64 0))), (some 11), none⟩])
 [0, 9, 10, 11]
 (.block 0 (.loop [0, 9, 10, 11] (l47_0))))
 [0]
 (.seq (.reg [⟨.op (.mv (.t 0)), (some 19), none⟩, ⟨.op (.mv (.t 19)), (some 4), none⟩])
 [4]
 (.ret)))),
 [.tmp 4]⟩
theorem k47 : cFn Try.prog 47 = some c47.toE := by kernel_rfl
theorem w47 : c47.body.wf = true := by kernel_rfl
noncomputable def l71_0 : DC :=
 .seq (.reg [⟨.op (.bin .lss 0 (.t 8) (.t 7)), (some 9), none⟩])
 [3, 6, 7, 8, 9]
 (.seq (.cond (.t 9) (.skip) (.exit 0))
 [3, 6, 7, 8]
 (.seq (.block 1 (.seq (.reg [⟨.op (.ia 4 none (.t 6) (.t 8)), (some 10), none⟩, ⟨.op (.ldn 4 (.t 10)), (some 11), none⟩, ⟨.op (.new [(.int .i64 0), (.int .i64 0), (.int .i64 0), (.int .i64 0)]), (some 5), none⟩, ⟨.op (.st 4 (.t 5) (.t 11)), none, none⟩])
 [3, 5, 6, 7, 8]
 (.seq (.seq (.reg [⟨.op (.fa 0 (.t 5)), (some 12), none⟩, ⟨.op (.ld1 (.t 12)), (some 13), none⟩, ⟨.op (.mv (.t 3)), (some 14), none⟩, ⟨.op (.bin .leq 0 (.t 13) (.t 14)), (some 15), none⟩, ⟨.op (.mv (.t 15)), (some 16), none⟩, ⟨.op (.fa 0 (.t 5)), (some 17), (some (16, false))⟩, ⟨.op (.ld1 (.t 17)), (some 18), (some (16, false))⟩, ⟨.op (.bin .gtr 0 (.t 18) (.c (.int .i64 6))), (some 19), (some (16, false))⟩, ⟨.op (.pick (.t 16) (.c (.bool true)) (.t 19)), (some 20), none⟩, ⟨.op (.mv (.t 20)), (some 21), none⟩, ⟨.op (.fa 1 (.t 5)), (some 22), (some (21, false))⟩, ⟨.op (.ldn 3 (.t 22)), (some 23), (some (21, false))⟩, ⟨.call 98 [(.t 23)], (some 24), (some (21, false))⟩, ⟨.op (.not (.t 24)), (some 25), (some (21, false))⟩, ⟨.op (.pick (.t 21) (.c (.bool true)) (.t 25)), (some 26), none⟩])
 [5, 6, 7, 8, 26]
 (.cond (.t 26) (.seq (.reg [⟨.op (.build [] []), (some 27), none⟩, ⟨.op (.ifc 99 (.t 27)), (some 28), none⟩, ⟨.op (.build [.nilifc] [(0, 1, (.t 28))]), (some 29), none⟩, ⟨.op (.ifc 121 (.t 29)), (some 30), none⟩, ⟨.op (.mv (.t 30)), (some 2), none⟩])
 [2]
 (.ret)) (.skip)))
 [5, 6, 7, 8]
 (.reg [⟨.op (.fa 0 (.t 5)), (some 31), none⟩, ⟨.op (.ld1 (.t 31)), (some 32), none⟩, ⟨.op (.mv (.t 32)), (some 3), none⟩]))))
 [3, 6, 7, 8]
 (.reg [⟨.op (.bin .add 0 (.t 8) (.c (.int .i64 1))), (some 33), none⟩, ⟨.op (.mv (.t 33)), (some 8), none⟩])))
theorem u71_0 (call : DCall) (T : Tm) (st : Dv.St) : dCw Try.prog call l71_0 T st = dCw Try.prog call
 (.seq (.reg [⟨.op (.bin .lss 0 (.t 8) (.t 7)), (some 9), none⟩])
 [3, 6, 7, 8, 9]
 (.seq (.cond (.t 9) (.skip) (.exit 0))
 [3, 6, 7, 8]
 (.seq (.block 1 (.seq (.reg [⟨.op (.ia 4 none (.t 6) (.t 8)), (some 10), none⟩, ⟨.op (.ldn 4 (.t 10)), (some 11), none⟩, ⟨.op (.new [(.int .i64 0), (.int .i64 0), (.int .i64 0), (.int .i64 0)]), (some 5), none⟩, ⟨.op (.st 4 (.t 5) (.t 11)), none, none⟩])
 [3, 5, 6, 7, 8]
 (.seq (.seq (.reg [⟨.op (.fa 0 (.t 5)), (some 12), none⟩, ⟨.op (.ld1 (.t 12)), (some 13), none⟩, ⟨.op (.mv (.t 3)), (some 14), none⟩, ⟨.op (.bin .leq 0 (.t 13) (.t 14)), (some 15), none⟩, ⟨.op (.mv (.t 15)), (some 16), none⟩, ⟨.op (.fa 0 (.t 5)), (some 17), (some (16, false))⟩, ⟨.op (.ld1 (.t 17)), (some 18), (some (16, false))⟩, ⟨.op (.bin .gtr 0 (.t 18) (.c (.int .i64 6))), (some 19), (some (16, false))⟩, ⟨.op (.pick (.t 16) (.c (.bool true)) (.t 19)), (some 20), none⟩, ⟨.op (.mv (.t 20)), (some 21), none⟩, ⟨.op (.fa 1 (.t 5)), (some 22), (some (21, false))⟩, ⟨.op (.ldn 3 (.t 22)), (some 23), (some (21, false))⟩, ⟨.call 98 [(.t 23)], (some 24), (some (21, false))⟩, ⟨.op (.not (.t 24)), (some 25), (some (21, false))⟩, ⟨.op (.pick (.t 21) (.c (.bool true)) (.t 25)), (some 26), none⟩])
 [5, 6, 7, 8, 26]
 (.cond (.t 26) (.seq (.reg [⟨.op (.build [] []), (some 27), none⟩, ⟨.op (.ifc 99 (.t 27)), (some 28), none⟩, ⟨.op (.build [.nilifc] [(0, 1, (.t 28))]), (some 29), none⟩, ⟨.op (.ifc 121 (.t 29)), (some 30), none⟩, ⟨.op (.mv (.t 30)), (some 2), none⟩])
 [2]
 (.ret)) (.skip)))
 [5, 6, 7, 8]
 (.reg [⟨.op (.fa 0 (.t 5)), (some 31), none⟩, ⟨.op (.ld1 (.t 31)), (some 32), none⟩, ⟨.op (.mv (.t 32)), (some 3), none⟩]))))
 [3, 6, 7, 8]
 (.reg [⟨.op (.bin .add 0 (.t 8) (.c (.int .i64 1))), (some 33), none⟩, ⟨.op (.mv (.t 33)), (some 8), none⟩])))) T st := rfl
/-- cardamom/seen.check -/
noncomputable def c71 : DFn := ⟨34, .pure,
 .seq (.reg [⟨.op (.mv (.c .nilifc)), (some 2), none⟩])
 [0]
 (.seq (.reg [⟨.op (.mv (.c (.int .i64 0))), (some 3), none⟩])
 [0, 3]
 (.seq (.seq (.reg [⟨.op (.mv (.t 0)), (some 6), none⟩, ⟨.op (.len (.t 6)), (some 7), none⟩, ⟨.op (.mv (.c (.int .i64 0))), (some 8), none⟩])
 [3, 6, 7, 8]
 (.block 0 (.loop [3, 6, 7, 8] (l71_0))))
 []
 (.seq (.reg [⟨.op (.mv (.c .nilifc)), (some 2), none⟩])
 [2]
 (.ret)))),
 [.tmp 2]⟩
theorem k71 : cFn Try.prog 71 = some c71.toE := by kernel_rfl
theorem w71 : c71.body.wf = true := by kernel_rfl
/-- cardamom/seen.place -/
noncomputable def c72 : DFn := ⟨11, .pure,
 .seq (.reg [⟨.op (.mv (.c (.int .i64 0))), (some 4), none⟩, ⟨.op (.mv (.c (.bool false))), (some 5), none⟩])
 [0, 1]
 (.seq (.reg [⟨.op (.mv (.t 0)), (some 6), none⟩, ⟨.op (.mv (.t 1)), (some 7), none⟩, ⟨.call 99 [(.t 6), (.t 7), (.c (.fn 100 []))], (some 8), none⟩, ⟨.op (.ext (.t 8) 0), (some 9), none⟩, ⟨.op (.ext (.t 8) 1), (some 10), none⟩, ⟨.op (.mv (.t 9)), (some 4), none⟩, ⟨.op (.mv (.t 10)), (some 5), none⟩])
 [4, 5]
 (.ret)),
 [.tmp 4, .tmp 5]⟩
theorem k72 : cFn Try.prog 72 = some c72.toE := by kernel_rfl
theorem w72 : c72.body.wf = true := by kernel_rfl
/-- cardamom/seen.place$1 -/
noncomputable def c100 : DFn := ⟨9, .pure,
 .seq (.reg [⟨.op (.box (.t 0)), (some 2), none⟩, ⟨.op (.mv (.c (.int .i64 0))), (some 4), none⟩])
 [1, 2]
 (.seq (.reg [⟨.op (.fa 0 (.t 2)), (some 5), none⟩, ⟨.op (.ld1 (.t 5)), (some 6), none⟩, ⟨.op (.mv (.t 1)), (some 7), none⟩, ⟨.call 86 [(.t 6), (.t 7)], (some 8), none⟩, ⟨.op (.mv (.t 8)), (some 4), none⟩])
 [4]
 (.ret)),
 [.tmp 4]⟩
theorem k100 : cFn Try.prog 100 = some c100.toE := by kernel_rfl
theorem w100 : c100.body.wf = true := by kernel_rfl
/-- (cardamom/seen.head).Unwrap -/
noncomputable def c140 : DFn := ⟨5, .pure,
 .seq (.reg [⟨.op (.box (.t 0)), (some 1), none⟩, ⟨.op (.mv (.c .nilifc)), (some 2), none⟩])
 [1]
 (.seq (.reg [⟨.op (.fa 0 (.t 1)), (some 3), none⟩, ⟨.op (.ld1 (.t 3)), (some 4), none⟩, ⟨.op (.mv (.t 4)), (some 2), none⟩])
 [2]
 (.ret)),
 [.tmp 2]⟩
theorem k140 : cFn Try.prog 140 = some c140.toE := by kernel_rfl
theorem w140 : c140.body.wf = true := by kernel_rfl
def tbl : Nat → Option DFn := fun f => bif Nat.beq f 3 then some c3 else bif Nat.beq f 4 then some c4 else bif Nat.beq f 5 then some c5 else bif Nat.beq f 14 then some c14 else bif Nat.beq f 15 then some c15 else bif Nat.beq f 33 then some c33 else bif Nat.beq f 16 then some c16 else bif Nat.beq f 17 then some c17 else bif Nat.beq f 18 then some c18 else bif Nat.beq f 39 then some c39 else bif Nat.beq f 40 then some c40 else bif Nat.beq f 54 then some c54 else bif Nat.beq f 55 then some c55 else bif Nat.beq f 68 then some c68 else bif Nat.beq f 20 then some c20 else bif Nat.beq f 21 then some c21 else bif Nat.beq f 22 then some c22 else bif Nat.beq f 24 then some c24 else bif Nat.beq f 26 then some c26 else bif Nat.beq f 27 then some c27 else bif Nat.beq f 29 then some c29 else bif Nat.beq f 34 then some c34 else bif Nat.beq f 69 then some c69 else bif Nat.beq f 35 then some c35 else bif Nat.beq f 36 then some c36 else bif Nat.beq f 43 then some c43 else bif Nat.beq f 46 then some c46 else bif Nat.beq f 63 then some c63 else bif Nat.beq f 30 then some c30 else bif Nat.beq f 64 then some c64 else bif Nat.beq f 19 then some c19 else bif Nat.beq f 23 then some c23 else bif Nat.beq f 25 then some c25 else bif Nat.beq f 28 then some c28 else bif Nat.beq f 31 then some c31 else bif Nat.beq f 32 then some c32 else bif Nat.beq f 56 then some c56 else bif Nat.beq f 57 then some c57 else bif Nat.beq f 58 then some c58 else bif Nat.beq f 61 then some c61 else bif Nat.beq f 62 then some c62 else bif Nat.beq f 65 then some c65 else bif Nat.beq f 67 then some c67 else bif Nat.beq f 88 then some c88 else bif Nat.beq f 85 then some c85 else bif Nat.beq f 60 then some c60 else bif Nat.beq f 92 then some c92 else bif Nat.beq f 111 then some c111 else bif Nat.beq f 66 then some c66 else bif Nat.beq f 91 then some c91 else bif Nat.beq f 95 then some c95 else bif Nat.beq f 93 then some c93 else bif Nat.beq f 112 then some c112 else bif Nat.beq f 94 then some c94 else bif Nat.beq f 113 then some c113 else bif Nat.beq f 110 then some c110 else bif Nat.beq f 84 then some c84 else bif Nat.beq f 75 then some c75 else bif Nat.beq f 86 then some c86 else bif Nat.beq f 102 then some c102 else bif Nat.beq f 108 then some c108 else bif Nat.beq f 98 then some c98 else bif Nat.beq f 114 then some c114 else bif Nat.beq f 119 then some c119 else bif Nat.beq f 70 then some c70 else bif Nat.beq f 97 then some c97 else bif Nat.beq f 118 then some c118 else bif Nat.beq f 157 then some c157 else bif Nat.beq f 155 then some c155 else bif Nat.beq f 99 then some c99 else bif Nat.beq f 73 then some c73 else bif Nat.beq f 101 then some c101 else bif Nat.beq f 41 then some c41 else bif Nat.beq f 42 then some c42 else bif Nat.beq f 44 then some c44 else bif Nat.beq f 74 then some c74 else bif Nat.beq f 45 then some c45 else bif Nat.beq f 47 then some c47 else bif Nat.beq f 71 then some c71 else bif Nat.beq f 72 then some c72 else bif Nat.beq f 100 then some c100 else bif Nat.beq f 140 then some c140 else none
def dx : DX := fun f => bif Nat.beq f 87 then some (dClone 2 16) else bif Nat.beq f 76 then some (dClone 4 32) else none
def ren59 : Go.Shelf.Ren := ⟨fun n => if n = 29 then 89 else if n = 30 then 90 else n, fun n => if n = 24 then 24 else if n = 9 then 30 else if n = 3 then 3 else if n = 4 then 4 else 0, fun n => n⟩
theorem lay59 : Go.Proofs.Ev.InsLay Try.prog ren59 59 ((Try.prog.info? 30).getD default).size ((Try.prog.info? 30).getD default) (((Try.prog.info? 30).getD default).zero.getD .nilFunc) where
  mixed := Try.checked.mixed
  hf := ⟨Try.f59.name, by rw [Try.func59]; exact congrArg some (show Try.f59 = { Go.Proofs.Body2.n22 ren59 with name := Try.f59.name } from by kernel_rfl)⟩
  hov := fun args w => run_callFunc_extern (fn := Try.f89) Try.func89 (by kernel_rfl) (by kernel_rfl) (by kernel_rfl) (e := Extern.SlicesOverlaps.overlaps #[24, 24] #[4]) (by kernel_rfl) args w
  t3 := by kernel_rfl
  a3 := fun w => Go.Proofs.Ev.tagg_run (by kernel_rfl) w
  z3 := fun w => Go.Proofs.Ev.tsize_run (by kernel_rfl) w
  v3 := fun w => Go.Proofs.Ev.zero_run (by kernel_rfl) w
  t4 := by kernel_rfl
  a4 := fun w => Go.Proofs.Ev.tagg_run (by kernel_rfl) w
  z4 := fun w => Go.Proofs.Ev.tsize_run (by kernel_rfl) w
  v4 := fun w => Go.Proofs.Ev.zero_run (by kernel_rfl) w
  t24 := by kernel_rfl
  a24 := fun w => Go.Proofs.Ev.tagg_run (by kernel_rfl) w
  z24 := fun w => Go.Proofs.Ev.tsize_run (by kernel_rfl) w
  v24 := fun w => Go.Proofs.Ev.zero_run (by kernel_rfl) w
  i9 := by kernel_rfl
  iz := rfl
  ib := Nat.le_of_ble_eq_true (by kernel_rfl)
  izv := by kernel_rfl
  hzv := by kernel_rfl
  hz0 := Nat.le_of_ble_eq_true (by kernel_rfl)
theorem siz59 : Prim.ins 8 96 = .ins ((Try.prog.info? 30).getD default).size ((Try.prog.info? 30).getD default).bytes := by kernel_rfl
def ren77 : Go.Shelf.Ren := ⟨fun n => if n = 29 then 103 else if n = 30 then 104 else n, fun n => if n = 24 then 45 else if n = 9 then 59 else if n = 3 then 3 else if n = 4 then 4 else 0, fun n => n⟩
theorem lay77 : Go.Proofs.Ev.InsLay Try.prog ren77 77 ((Try.prog.info? 59).getD default).size ((Try.prog.info? 59).getD default) (((Try.prog.info? 59).getD default).zero.getD .nilFunc) where
  mixed := Try.checked.mixed
  hf := ⟨Try.f77.name, by rw [Try.func77]; exact congrArg some (show Try.f77 = { Go.Proofs.Body2.n22 ren77 with name := Try.f77.name } from by kernel_rfl)⟩
  hov := fun args w => run_callFunc_extern (fn := Try.f103) Try.func103 (by kernel_rfl) (by kernel_rfl) (by kernel_rfl) (e := Extern.SlicesOverlaps.overlaps #[45, 45] #[4]) (by kernel_rfl) args w
  t3 := by kernel_rfl
  a3 := fun w => Go.Proofs.Ev.tagg_run (by kernel_rfl) w
  z3 := fun w => Go.Proofs.Ev.tsize_run (by kernel_rfl) w
  v3 := fun w => Go.Proofs.Ev.zero_run (by kernel_rfl) w
  t4 := by kernel_rfl
  a4 := fun w => Go.Proofs.Ev.tagg_run (by kernel_rfl) w
  z4 := fun w => Go.Proofs.Ev.tsize_run (by kernel_rfl) w
  v4 := fun w => Go.Proofs.Ev.zero_run (by kernel_rfl) w
  t24 := by kernel_rfl
  a24 := fun w => Go.Proofs.Ev.tagg_run (by kernel_rfl) w
  z24 := fun w => Go.Proofs.Ev.tsize_run (by kernel_rfl) w
  v24 := fun w => Go.Proofs.Ev.zero_run (by kernel_rfl) w
  i9 := by kernel_rfl
  iz := rfl
  ib := Nat.le_of_ble_eq_true (by kernel_rfl)
  izv := by kernel_rfl
  hzv := by kernel_rfl
  hz0 := Nat.le_of_ble_eq_true (by kernel_rfl)
theorem siz77 : Prim.ins 4 32 = .ins ((Try.prog.info? 59).getD default).size ((Try.prog.info? 59).getD default).bytes := by kernel_rfl
def prims : Prims := fun f => bif Nat.beq f 59 then some (.ins 8 96) else bif Nat.beq f 77 then some (.ins 4 32) else none
theorem code_ok : ∀ f df, tbl f = some df → cFn Try.prog f = some df.toE ∧ df.body.wf = true := by
  intro f df h
  unfold tbl at h
  by_cases h3 : f = 3
  · subst h3; rw [Nat.beq_refl, cond_true] at h; rw [← Option.some.inj h]; exact ⟨k3, w3⟩
  rw [Ev.beq_false _ _ h3, cond_false] at h
  by_cases h4 : f = 4
  · subst h4; rw [Nat.beq_refl, cond_true] at h; rw [← Option.some.inj h]; exact ⟨k4, w4⟩
  rw [Ev.beq_false _ _ h4, cond_false] at h
  by_cases h5 : f = 5
  · subst h5; rw [Nat.beq_refl, cond_true] at h; rw [← Option.some.inj h]; exact ⟨k5, w5⟩
  rw [Ev.beq_false _ _ h5, cond_false] at h
  by_cases h14 : f = 14
  · subst h14; rw [Nat.beq_refl, cond_true] at h; rw [← Option.some.inj h]; exact ⟨k14, w14⟩
  rw [Ev.beq_false _ _ h14, cond_false] at h
  by_cases h15 : f = 15
  · subst h15; rw [Nat.beq_refl, cond_true] at h; rw [← Option.some.inj h]; exact ⟨k15, w15⟩
  rw [Ev.beq_false _ _ h15, cond_false] at h
  by_cases h33 : f = 33
  · subst h33; rw [Nat.beq_refl, cond_true] at h; rw [← Option.some.inj h]; exact ⟨k33, w33⟩
  rw [Ev.beq_false _ _ h33, cond_false] at h
  by_cases h16 : f = 16
  · subst h16; rw [Nat.beq_refl, cond_true] at h; rw [← Option.some.inj h]; exact ⟨k16, w16⟩
  rw [Ev.beq_false _ _ h16, cond_false] at h
  by_cases h17 : f = 17
  · subst h17; rw [Nat.beq_refl, cond_true] at h; rw [← Option.some.inj h]; exact ⟨k17, w17⟩
  rw [Ev.beq_false _ _ h17, cond_false] at h
  by_cases h18 : f = 18
  · subst h18; rw [Nat.beq_refl, cond_true] at h; rw [← Option.some.inj h]; exact ⟨k18, w18⟩
  rw [Ev.beq_false _ _ h18, cond_false] at h
  by_cases h39 : f = 39
  · subst h39; rw [Nat.beq_refl, cond_true] at h; rw [← Option.some.inj h]; exact ⟨k39, w39⟩
  rw [Ev.beq_false _ _ h39, cond_false] at h
  by_cases h40 : f = 40
  · subst h40; rw [Nat.beq_refl, cond_true] at h; rw [← Option.some.inj h]; exact ⟨k40, w40⟩
  rw [Ev.beq_false _ _ h40, cond_false] at h
  by_cases h54 : f = 54
  · subst h54; rw [Nat.beq_refl, cond_true] at h; rw [← Option.some.inj h]; exact ⟨k54, w54⟩
  rw [Ev.beq_false _ _ h54, cond_false] at h
  by_cases h55 : f = 55
  · subst h55; rw [Nat.beq_refl, cond_true] at h; rw [← Option.some.inj h]; exact ⟨k55, w55⟩
  rw [Ev.beq_false _ _ h55, cond_false] at h
  by_cases h68 : f = 68
  · subst h68; rw [Nat.beq_refl, cond_true] at h; rw [← Option.some.inj h]; exact ⟨k68, w68⟩
  rw [Ev.beq_false _ _ h68, cond_false] at h
  by_cases h20 : f = 20
  · subst h20; rw [Nat.beq_refl, cond_true] at h; rw [← Option.some.inj h]; exact ⟨k20, w20⟩
  rw [Ev.beq_false _ _ h20, cond_false] at h
  by_cases h21 : f = 21
  · subst h21; rw [Nat.beq_refl, cond_true] at h; rw [← Option.some.inj h]; exact ⟨k21, w21⟩
  rw [Ev.beq_false _ _ h21, cond_false] at h
  by_cases h22 : f = 22
  · subst h22; rw [Nat.beq_refl, cond_true] at h; rw [← Option.some.inj h]; exact ⟨k22, w22⟩
  rw [Ev.beq_false _ _ h22, cond_false] at h
  by_cases h24 : f = 24
  · subst h24; rw [Nat.beq_refl, cond_true] at h; rw [← Option.some.inj h]; exact ⟨k24, w24⟩
  rw [Ev.beq_false _ _ h24, cond_false] at h
  by_cases h26 : f = 26
  · subst h26; rw [Nat.beq_refl, cond_true] at h; rw [← Option.some.inj h]; exact ⟨k26, w26⟩
  rw [Ev.beq_false _ _ h26, cond_false] at h
  by_cases h27 : f = 27
  · subst h27; rw [Nat.beq_refl, cond_true] at h; rw [← Option.some.inj h]; exact ⟨k27, w27⟩
  rw [Ev.beq_false _ _ h27, cond_false] at h
  by_cases h29 : f = 29
  · subst h29; rw [Nat.beq_refl, cond_true] at h; rw [← Option.some.inj h]; exact ⟨k29, w29⟩
  rw [Ev.beq_false _ _ h29, cond_false] at h
  by_cases h34 : f = 34
  · subst h34; rw [Nat.beq_refl, cond_true] at h; rw [← Option.some.inj h]; exact ⟨k34, w34⟩
  rw [Ev.beq_false _ _ h34, cond_false] at h
  by_cases h69 : f = 69
  · subst h69; rw [Nat.beq_refl, cond_true] at h; rw [← Option.some.inj h]; exact ⟨k69, w69⟩
  rw [Ev.beq_false _ _ h69, cond_false] at h
  by_cases h35 : f = 35
  · subst h35; rw [Nat.beq_refl, cond_true] at h; rw [← Option.some.inj h]; exact ⟨k35, w35⟩
  rw [Ev.beq_false _ _ h35, cond_false] at h
  by_cases h36 : f = 36
  · subst h36; rw [Nat.beq_refl, cond_true] at h; rw [← Option.some.inj h]; exact ⟨k36, w36⟩
  rw [Ev.beq_false _ _ h36, cond_false] at h
  by_cases h43 : f = 43
  · subst h43; rw [Nat.beq_refl, cond_true] at h; rw [← Option.some.inj h]; exact ⟨k43, w43⟩
  rw [Ev.beq_false _ _ h43, cond_false] at h
  by_cases h46 : f = 46
  · subst h46; rw [Nat.beq_refl, cond_true] at h; rw [← Option.some.inj h]; exact ⟨k46, w46⟩
  rw [Ev.beq_false _ _ h46, cond_false] at h
  by_cases h63 : f = 63
  · subst h63; rw [Nat.beq_refl, cond_true] at h; rw [← Option.some.inj h]; exact ⟨k63, w63⟩
  rw [Ev.beq_false _ _ h63, cond_false] at h
  by_cases h30 : f = 30
  · subst h30; rw [Nat.beq_refl, cond_true] at h; rw [← Option.some.inj h]; exact ⟨k30, w30⟩
  rw [Ev.beq_false _ _ h30, cond_false] at h
  by_cases h64 : f = 64
  · subst h64; rw [Nat.beq_refl, cond_true] at h; rw [← Option.some.inj h]; exact ⟨k64, w64⟩
  rw [Ev.beq_false _ _ h64, cond_false] at h
  by_cases h19 : f = 19
  · subst h19; rw [Nat.beq_refl, cond_true] at h; rw [← Option.some.inj h]; exact ⟨k19, w19⟩
  rw [Ev.beq_false _ _ h19, cond_false] at h
  by_cases h23 : f = 23
  · subst h23; rw [Nat.beq_refl, cond_true] at h; rw [← Option.some.inj h]; exact ⟨k23, w23⟩
  rw [Ev.beq_false _ _ h23, cond_false] at h
  by_cases h25 : f = 25
  · subst h25; rw [Nat.beq_refl, cond_true] at h; rw [← Option.some.inj h]; exact ⟨k25, w25⟩
  rw [Ev.beq_false _ _ h25, cond_false] at h
  by_cases h28 : f = 28
  · subst h28; rw [Nat.beq_refl, cond_true] at h; rw [← Option.some.inj h]; exact ⟨k28, w28⟩
  rw [Ev.beq_false _ _ h28, cond_false] at h
  by_cases h31 : f = 31
  · subst h31; rw [Nat.beq_refl, cond_true] at h; rw [← Option.some.inj h]; exact ⟨k31, w31⟩
  rw [Ev.beq_false _ _ h31, cond_false] at h
  by_cases h32 : f = 32
  · subst h32; rw [Nat.beq_refl, cond_true] at h; rw [← Option.some.inj h]; exact ⟨k32, w32⟩
  rw [Ev.beq_false _ _ h32, cond_false] at h
  by_cases h56 : f = 56
  · subst h56; rw [Nat.beq_refl, cond_true] at h; rw [← Option.some.inj h]; exact ⟨k56, w56⟩
  rw [Ev.beq_false _ _ h56, cond_false] at h
  by_cases h57 : f = 57
  · subst h57; rw [Nat.beq_refl, cond_true] at h; rw [← Option.some.inj h]; exact ⟨k57, w57⟩
  rw [Ev.beq_false _ _ h57, cond_false] at h
  by_cases h58 : f = 58
  · subst h58; rw [Nat.beq_refl, cond_true] at h; rw [← Option.some.inj h]; exact ⟨k58, w58⟩
  rw [Ev.beq_false _ _ h58, cond_false] at h
  by_cases h61 : f = 61
  · subst h61; rw [Nat.beq_refl, cond_true] at h; rw [← Option.some.inj h]; exact ⟨k61, w61⟩
  rw [Ev.beq_false _ _ h61, cond_false] at h
  by_cases h62 : f = 62
  · subst h62; rw [Nat.beq_refl, cond_true] at h; rw [← Option.some.inj h]; exact ⟨k62, w62⟩
  rw [Ev.beq_false _ _ h62, cond_false] at h
  by_cases h65 : f = 65
  · subst h65; rw [Nat.beq_refl, cond_true] at h; rw [← Option.some.inj h]; exact ⟨k65, w65⟩
  rw [Ev.beq_false _ _ h65, cond_false] at h
  by_cases h67 : f = 67
  · subst h67; rw [Nat.beq_refl, cond_true] at h; rw [← Option.some.inj h]; exact ⟨k67, w67⟩
  rw [Ev.beq_false _ _ h67, cond_false] at h
  by_cases h88 : f = 88
  · subst h88; rw [Nat.beq_refl, cond_true] at h; rw [← Option.some.inj h]; exact ⟨k88, w88⟩
  rw [Ev.beq_false _ _ h88, cond_false] at h
  by_cases h85 : f = 85
  · subst h85; rw [Nat.beq_refl, cond_true] at h; rw [← Option.some.inj h]; exact ⟨k85, w85⟩
  rw [Ev.beq_false _ _ h85, cond_false] at h
  by_cases h60 : f = 60
  · subst h60; rw [Nat.beq_refl, cond_true] at h; rw [← Option.some.inj h]; exact ⟨k60, w60⟩
  rw [Ev.beq_false _ _ h60, cond_false] at h
  by_cases h92 : f = 92
  · subst h92; rw [Nat.beq_refl, cond_true] at h; rw [← Option.some.inj h]; exact ⟨k92, w92⟩
  rw [Ev.beq_false _ _ h92, cond_false] at h
  by_cases h111 : f = 111
  · subst h111; rw [Nat.beq_refl, cond_true] at h; rw [← Option.some.inj h]; exact ⟨k111, w111⟩
  rw [Ev.beq_false _ _ h111, cond_false] at h
  by_cases h66 : f = 66
  · subst h66; rw [Nat.beq_refl, cond_true] at h; rw [← Option.some.inj h]; exact ⟨k66, w66⟩
  rw [Ev.beq_false _ _ h66, cond_false] at h
  by_cases h91 : f = 91
  · subst h91; rw [Nat.beq_refl, cond_true] at h; rw [← Option.some.inj h]; exact ⟨k91, w91⟩
  rw [Ev.beq_false _ _ h91, cond_false] at h
  by_cases h95 : f = 95
  · subst h95; rw [Nat.beq_refl, cond_true] at h; rw [← Option.some.inj h]; exact ⟨k95, w95⟩
  rw [Ev.beq_false _ _ h95, cond_false] at h
  by_cases h93 : f = 93
  · subst h93; rw [Nat.beq_refl, cond_true] at h; rw [← Option.some.inj h]; exact ⟨k93, w93⟩
  rw [Ev.beq_false _ _ h93, cond_false] at h
  by_cases h112 : f = 112
  · subst h112; rw [Nat.beq_refl, cond_true] at h; rw [← Option.some.inj h]; exact ⟨k112, w112⟩
  rw [Ev.beq_false _ _ h112, cond_false] at h
  by_cases h94 : f = 94
  · subst h94; rw [Nat.beq_refl, cond_true] at h; rw [← Option.some.inj h]; exact ⟨k94, w94⟩
  rw [Ev.beq_false _ _ h94, cond_false] at h
  by_cases h113 : f = 113
  · subst h113; rw [Nat.beq_refl, cond_true] at h; rw [← Option.some.inj h]; exact ⟨k113, w113⟩
  rw [Ev.beq_false _ _ h113, cond_false] at h
  by_cases h110 : f = 110
  · subst h110; rw [Nat.beq_refl, cond_true] at h; rw [← Option.some.inj h]; exact ⟨k110, w110⟩
  rw [Ev.beq_false _ _ h110, cond_false] at h
  by_cases h84 : f = 84
  · subst h84; rw [Nat.beq_refl, cond_true] at h; rw [← Option.some.inj h]; exact ⟨k84, w84⟩
  rw [Ev.beq_false _ _ h84, cond_false] at h
  by_cases h75 : f = 75
  · subst h75; rw [Nat.beq_refl, cond_true] at h; rw [← Option.some.inj h]; exact ⟨k75, w75⟩
  rw [Ev.beq_false _ _ h75, cond_false] at h
  by_cases h86 : f = 86
  · subst h86; rw [Nat.beq_refl, cond_true] at h; rw [← Option.some.inj h]; exact ⟨k86, w86⟩
  rw [Ev.beq_false _ _ h86, cond_false] at h
  by_cases h102 : f = 102
  · subst h102; rw [Nat.beq_refl, cond_true] at h; rw [← Option.some.inj h]; exact ⟨k102, w102⟩
  rw [Ev.beq_false _ _ h102, cond_false] at h
  by_cases h108 : f = 108
  · subst h108; rw [Nat.beq_refl, cond_true] at h; rw [← Option.some.inj h]; exact ⟨k108, w108⟩
  rw [Ev.beq_false _ _ h108, cond_false] at h
  by_cases h98 : f = 98
  · subst h98; rw [Nat.beq_refl, cond_true] at h; rw [← Option.some.inj h]; exact ⟨k98, w98⟩
  rw [Ev.beq_false _ _ h98, cond_false] at h
  by_cases h114 : f = 114
  · subst h114; rw [Nat.beq_refl, cond_true] at h; rw [← Option.some.inj h]; exact ⟨k114, w114⟩
  rw [Ev.beq_false _ _ h114, cond_false] at h
  by_cases h119 : f = 119
  · subst h119; rw [Nat.beq_refl, cond_true] at h; rw [← Option.some.inj h]; exact ⟨k119, w119⟩
  rw [Ev.beq_false _ _ h119, cond_false] at h
  by_cases h70 : f = 70
  · subst h70; rw [Nat.beq_refl, cond_true] at h; rw [← Option.some.inj h]; exact ⟨k70, w70⟩
  rw [Ev.beq_false _ _ h70, cond_false] at h
  by_cases h97 : f = 97
  · subst h97; rw [Nat.beq_refl, cond_true] at h; rw [← Option.some.inj h]; exact ⟨k97, w97⟩
  rw [Ev.beq_false _ _ h97, cond_false] at h
  by_cases h118 : f = 118
  · subst h118; rw [Nat.beq_refl, cond_true] at h; rw [← Option.some.inj h]; exact ⟨k118, w118⟩
  rw [Ev.beq_false _ _ h118, cond_false] at h
  by_cases h157 : f = 157
  · subst h157; rw [Nat.beq_refl, cond_true] at h; rw [← Option.some.inj h]; exact ⟨k157, w157⟩
  rw [Ev.beq_false _ _ h157, cond_false] at h
  by_cases h155 : f = 155
  · subst h155; rw [Nat.beq_refl, cond_true] at h; rw [← Option.some.inj h]; exact ⟨k155, w155⟩
  rw [Ev.beq_false _ _ h155, cond_false] at h
  by_cases h99 : f = 99
  · subst h99; rw [Nat.beq_refl, cond_true] at h; rw [← Option.some.inj h]; exact ⟨k99, w99⟩
  rw [Ev.beq_false _ _ h99, cond_false] at h
  by_cases h73 : f = 73
  · subst h73; rw [Nat.beq_refl, cond_true] at h; rw [← Option.some.inj h]; exact ⟨k73, w73⟩
  rw [Ev.beq_false _ _ h73, cond_false] at h
  by_cases h101 : f = 101
  · subst h101; rw [Nat.beq_refl, cond_true] at h; rw [← Option.some.inj h]; exact ⟨k101, w101⟩
  rw [Ev.beq_false _ _ h101, cond_false] at h
  by_cases h41 : f = 41
  · subst h41; rw [Nat.beq_refl, cond_true] at h; rw [← Option.some.inj h]; exact ⟨k41, w41⟩
  rw [Ev.beq_false _ _ h41, cond_false] at h
  by_cases h42 : f = 42
  · subst h42; rw [Nat.beq_refl, cond_true] at h; rw [← Option.some.inj h]; exact ⟨k42, w42⟩
  rw [Ev.beq_false _ _ h42, cond_false] at h
  by_cases h44 : f = 44
  · subst h44; rw [Nat.beq_refl, cond_true] at h; rw [← Option.some.inj h]; exact ⟨k44, w44⟩
  rw [Ev.beq_false _ _ h44, cond_false] at h
  by_cases h74 : f = 74
  · subst h74; rw [Nat.beq_refl, cond_true] at h; rw [← Option.some.inj h]; exact ⟨k74, w74⟩
  rw [Ev.beq_false _ _ h74, cond_false] at h
  by_cases h45 : f = 45
  · subst h45; rw [Nat.beq_refl, cond_true] at h; rw [← Option.some.inj h]; exact ⟨k45, w45⟩
  rw [Ev.beq_false _ _ h45, cond_false] at h
  by_cases h47 : f = 47
  · subst h47; rw [Nat.beq_refl, cond_true] at h; rw [← Option.some.inj h]; exact ⟨k47, w47⟩
  rw [Ev.beq_false _ _ h47, cond_false] at h
  by_cases h71 : f = 71
  · subst h71; rw [Nat.beq_refl, cond_true] at h; rw [← Option.some.inj h]; exact ⟨k71, w71⟩
  rw [Ev.beq_false _ _ h71, cond_false] at h
  by_cases h72 : f = 72
  · subst h72; rw [Nat.beq_refl, cond_true] at h; rw [← Option.some.inj h]; exact ⟨k72, w72⟩
  rw [Ev.beq_false _ _ h72, cond_false] at h
  by_cases h100 : f = 100
  · subst h100; rw [Nat.beq_refl, cond_true] at h; rw [← Option.some.inj h]; exact ⟨k100, w100⟩
  rw [Ev.beq_false _ _ h100, cond_false] at h
  by_cases h140 : f = 140
  · subst h140; rw [Nat.beq_refl, cond_true] at h; rw [← Option.some.inj h]; exact ⟨k140, w140⟩
  rw [Ev.beq_false _ _ h140, cond_false] at h
  cases h
theorem ext_ok : ∀ f g, prims f = none → dx f = some g → ∀ (k : Nat) (ds : List D) (st : Dv.St) (r : D × Dv.St × List Nat) (c : Ct) (H : Heap) (vs : List V), g ds st = some r → SR c st H → Row (DR c H) ds vs → Fol c st H r (eFn Try.prog prims (cFn Try.prog) listHP (k + 1) f vs H) := by
  intro f g _ h
  unfold dx at h
  by_cases h87 : f = 87
  · subst h87; rw [Nat.beq_refl, cond_true] at h; rw [← Option.some.inj h]; exact clone_ok (z := 2) (bytes := 16) (by kernel_rfl) k87
  rw [Ev.beq_false _ _ h87, cond_false] at h
  by_cases h76 : f = 76
  · subst h76; rw [Nat.beq_refl, cond_true] at h; rw [← Option.some.inj h]; exact clone_ok (z := 4) (bytes := 32) (by kernel_rfl) k76
  rw [Ev.beq_false _ _ h76, cond_false] at h
  cases h
theorem tbl_ok : TblOK Try.prog prims (cFn Try.prog) dx tbl := ⟨fun f df _ _ h => code_ok f df h, ext_ok⟩
theorem prims_ok : PrimsOK Try.prog prims := by
  intro f p h
  unfold prims at h
  by_cases h59 : f = 59
  · subst h59
    rw [Nat.beq_refl, cond_true] at h
    rw [← Option.some.inj h, siz59]
    exact ⟨by kernel_rfl, fun vs H v H' he β cs w hr s => Go.Proofs.Ev.evIns_ok lay59 (by intro hz; have : (Go.Proofs.Ev.zeroV Try.prog 30).isSome = true := by kernel_rfl
                                                                                          rw [show ren59.t 9 = 30 from rfl] at hz; rw [hz] at this; cases this) vs H v H' he β cs w hr s⟩
  rw [Go.Proofs.Ev.beq_false _ _ h59, cond_false] at h
  by_cases h77 : f = 77
  · subst h77
    rw [Nat.beq_refl, cond_true] at h
    rw [← Option.some.inj h, siz77]
    exact ⟨by kernel_rfl, fun vs H v H' he β cs w hr s => Go.Proofs.Ev.evIns_ok lay77 (by intro hz; have : (Go.Proofs.Ev.zeroV Try.prog 59).isSome = true := by kernel_rfl
                                                                                          rw [show ren77.t 9 = 59 from rfl] at hz; rw [hz] at this; cases this) vs H v H' he β cs w hr s⟩
  rw [Go.Proofs.Ev.beq_false _ _ h77, cond_false] at h
  cases h
end
end Go.Proofs.Ytmbboljcgpccfaa.Cd
