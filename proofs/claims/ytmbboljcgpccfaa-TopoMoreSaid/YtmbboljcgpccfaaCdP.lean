/-
  What is proved here: the texts of the functions, looked up.
  Conditions: none.
-/
import Derived.Test.YtmbboljcgpccfaaRows
import Derived.Test.YtmbboljcgpccfaaDv3
import Derived.KernelRfl
set_option linter.unusedVariables false
set_option linter.unusedSimpArgs false
set_option maxRecDepth 100000
namespace Go.Proofs.Ytmbboljcgpccfaa.Cd
open Go Go.Proofs Go.Proofs.Ev Go.Proofs.Dv
noncomputable section
noncomputable def l12_0 : DC :=
 .seq (.seq (.reg [⟨.op (.mv (.t 8)), (some 27), none⟩, ⟨.op (.mv (.t 5)), (some 28), none⟩, ⟨.op (.bin .leq 0 (.t 27) (.t 28)), (some 29), none⟩])
 [5, 6, 7, 8, 29]
 (.cond (.t 29) (.skip) (.exit 0)))
 [5, 6, 7, 8]
 (.seq (.block 1 (.seq (.reg [⟨.op (.mv (.t 5)), (some 32), none⟩, ⟨.op (.mv (.t 6)), (some 33), none⟩, ⟨.op (.mv (.t 8)), (some 34), none⟩, ⟨.call 50 [(.t 32), (.t 33), (.t 34)], (some 35), none⟩, ⟨.op (.mv (.t 35)), (some 9), none⟩])
 [5, 6, 7, 8, 9]
 (.seq (.seq (.reg [⟨.op (.mv (.t 9)), (some 36), none⟩, ⟨.op (.len (.t 36)), (some 37), none⟩, ⟨.op (.mv (.t 5)), (some 38), none⟩, ⟨.op (.bin .neq 0 (.t 37) (.t 38)), (some 39), none⟩, ⟨.op (.mv (.t 39)), (some 40), none⟩, ⟨.op (.mv (.t 9)), (some 41), (some (40, false))⟩, ⟨.op (.mv (.t 8)), (some 42), (some (40, false))⟩, ⟨.op (.bin .sub 0 (.t 42) (.c (.int .i64 1))), (some 43), (some (40, false))⟩, ⟨.op (.ia 1 none (.t 41) (.t 43)), (some 44), (some (40, false))⟩, ⟨.op (.ld1 (.t 44)), (some 45), (some (40, false))⟩, ⟨.op (.bin .neq 0 (.t 45) (.c (.int .i64 0))), (some 46), (some (40, false))⟩, ⟨.op (.pick (.t 40) (.c (.bool true)) (.t 46)), (some 47), none⟩])
 [5, 6, 7, 8, 9, 47]
 (.cond (.t 47) (.seq (.reg [⟨.op (.mv (.c (.bool false))), (some 4), none⟩])
 [4]
 (.ret)) (.skip)))
 [5, 6, 7, 8, 9]
 (.reg [⟨.op (.mv (.t 7)), (some 48), none⟩, ⟨.op (.mv (.t 9)), (some 49), none⟩, ⟨.op (.bslice 1 1 [(.sl none 0)] [(0, 1, (.t 49))]), (some 50), none⟩, ⟨.op (.app 1 24 false (.t 48) (.t 50)), (some 51), none⟩, ⟨.op (.mv (.t 51)), (some 7), none⟩]))))
 [5, 6, 7, 8]
 (.reg [⟨.op (.mv (.t 8)), (some 30), none⟩, ⟨.op (.bin .add 0 (.t 30) (.c (.int .i64 1))), (some 31), none⟩, ⟨.op (.mv (.t 31)), (some 8), none⟩]))
theorem u12_0 (call : DCall) (T : Tm) (st : Dv.St) : dCw Try.prog call l12_0 T st = dCw Try.prog call
 (.seq (.seq (.reg [⟨.op (.mv (.t 8)), (some 27), none⟩, ⟨.op (.mv (.t 5)), (some 28), none⟩, ⟨.op (.bin .leq 0 (.t 27) (.t 28)), (some 29), none⟩])
 [5, 6, 7, 8, 29]
 (.cond (.t 29) (.skip) (.exit 0)))
 [5, 6, 7, 8]
 (.seq (.block 1 (.seq (.reg [⟨.op (.mv (.t 5)), (some 32), none⟩, ⟨.op (.mv (.t 6)), (some 33), none⟩, ⟨.op (.mv (.t 8)), (some 34), none⟩, ⟨.call 50 [(.t 32), (.t 33), (.t 34)], (some 35), none⟩, ⟨.op (.mv (.t 35)), (some 9), none⟩])
 [5, 6, 7, 8, 9]
 (.seq (.seq (.reg [⟨.op (.mv (.t 9)), (some 36), none⟩, ⟨.op (.len (.t 36)), (some 37), none⟩, ⟨.op (.mv (.t 5)), (some 38), none⟩, ⟨.op (.bin .neq 0 (.t 37) (.t 38)), (some 39), none⟩, ⟨.op (.mv (.t 39)), (some 40), none⟩, ⟨.op (.mv (.t 9)), (some 41), (some (40, false))⟩, ⟨.op (.mv (.t 8)), (some 42), (some (40, false))⟩, ⟨.op (.bin .sub 0 (.t 42) (.c (.int .i64 1))), (some 43), (some (40, false))⟩, ⟨.op (.ia 1 none (.t 41) (.t 43)), (some 44), (some (40, false))⟩, ⟨.op (.ld1 (.t 44)), (some 45), (some (40, false))⟩, ⟨.op (.bin .neq 0 (.t 45) (.c (.int .i64 0))), (some 46), (some (40, false))⟩, ⟨.op (.pick (.t 40) (.c (.bool true)) (.t 46)), (some 47), none⟩])
 [5, 6, 7, 8, 9, 47]
 (.cond (.t 47) (.seq (.reg [⟨.op (.mv (.c (.bool false))), (some 4), none⟩])
 [4]
 (.ret)) (.skip)))
 [5, 6, 7, 8, 9]
 (.reg [⟨.op (.mv (.t 7)), (some 48), none⟩, ⟨.op (.mv (.t 9)), (some 49), none⟩, ⟨.op (.bslice 1 1 [(.sl none 0)] [(0, 1, (.t 49))]), (some 50), none⟩, ⟨.op (.app 1 24 false (.t 48) (.t 50)), (some 51), none⟩, ⟨.op (.mv (.t 51)), (some 7), none⟩]))))
 [5, 6, 7, 8]
 (.reg [⟨.op (.mv (.t 8)), (some 30), none⟩, ⟨.op (.bin .add 0 (.t 30) (.c (.int .i64 1))), (some 31), none⟩, ⟨.op (.mv (.t 31)), (some 8), none⟩]))) T st := rfl
noncomputable def l12_1 : DC :=
 .seq (.seq (.reg [⟨.op (.mv (.t 13)), (some 118), none⟩, ⟨.op (.mv (.t 5)), (some 119), none⟩, ⟨.op (.bin .lss 0 (.t 118) (.t 119)), (some 120), none⟩])
 [5, 6, 7, 10, 11, 12, 13, 120]
 (.cond (.t 120) (.skip) (.exit 6)))
 [5, 6, 7, 10, 11, 12, 13]
 (.seq (.block 7 (.seq (.drw [⟨⟨.op (.mv (.t 7)), (some 123), none⟩, .n, []⟩, ⟨⟨.op (.mv (.t 11)), (some 124), none⟩, .n, []⟩, ⟨⟨.op (.ia 1 none (.t 123) (.t 124)), (some 125), none⟩, .n, []⟩, ⟨⟨.op (.ld1 (.t 125)), (some 126), none⟩, .n, []⟩, ⟨⟨.op (.mv (.t 12)), (some 127), none⟩, .n, []⟩, ⟨⟨.op (.ia 1 none (.t 126) (.t 127)), (some 128), none⟩, .n, []⟩, ⟨⟨.op (.ld1 (.t 128)), (some 129), none⟩, .n, []⟩, ⟨⟨.op (.mv (.t 7)), (some 130), none⟩, .n, []⟩, ⟨⟨.op (.mv (.t 11)), (some 131), none⟩, .n, []⟩, ⟨⟨.op (.ia 1 none (.t 130) (.t 131)), (some 132), none⟩, .n, []⟩, ⟨⟨.op (.ld1 (.t 132)), (some 133), none⟩, .n, []⟩, ⟨⟨.op (.mv (.t 13)), (some 134), none⟩, .n, []⟩, ⟨⟨.op (.ia 1 none (.t 133) (.t 134)), (some 135), none⟩, .n, []⟩, ⟨⟨.op (.ld1 (.t 135)), (some 136), none⟩, .n, []⟩, ⟨⟨.op (.mv (.t 7)), (some 137), none⟩, .n, []⟩, ⟨⟨.op (.mv (.t 13)), (some 138), none⟩, .n, []⟩, ⟨⟨.op (.ia 1 none (.t 137) (.t 138)), (some 139), none⟩, .n, []⟩, ⟨⟨.op (.ld1 (.t 139)), (some 140), none⟩, .n, []⟩, ⟨⟨.op (.mv (.t 12)), (some 141), none⟩, .n, []⟩, ⟨⟨.op (.ia 1 none (.t 140) (.t 141)), (some 142), none⟩, .n, []⟩, ⟨⟨.op (.ld1 (.t 142)), (some 143), none⟩, .n, []⟩, ⟨⟨.op (.bin .add 0 (.t 136) (.t 143)), (some 144), none⟩, .n, []⟩, ⟨⟨.op (.bin .gtr 0 (.t 129) (.t 144)), (some 145), none⟩, .n, []⟩])
 [5, 6, 7, 10, 11, 12, 13, 145]
 (.cond (.t 145) (.seq (.reg [⟨.op (.mv (.c (.bool false))), (some 4), none⟩])
 [4]
 (.ret)) (.skip))))
 [5, 6, 7, 10, 11, 12, 13]
 (.reg [⟨.op (.mv (.t 13)), (some 121), none⟩, ⟨.op (.bin .add 0 (.t 121) (.c (.int .i64 1))), (some 122), none⟩, ⟨.op (.mv (.t 122)), (some 13), none⟩]))
theorem u12_1 (call : DCall) (T : Tm) (st : Dv.St) : dCw Try.prog call l12_1 T st = dCw Try.prog call
 (.seq (.seq (.reg [⟨.op (.mv (.t 13)), (some 118), none⟩, ⟨.op (.mv (.t 5)), (some 119), none⟩, ⟨.op (.bin .lss 0 (.t 118) (.t 119)), (some 120), none⟩])
 [5, 6, 7, 10, 11, 12, 13, 120]
 (.cond (.t 120) (.skip) (.exit 6)))
 [5, 6, 7, 10, 11, 12, 13]
 (.seq (.block 7 (.seq (.drw [⟨⟨.op (.mv (.t 7)), (some 123), none⟩, .n, []⟩, ⟨⟨.op (.mv (.t 11)), (some 124), none⟩, .n, []⟩, ⟨⟨.op (.ia 1 none (.t 123) (.t 124)), (some 125), none⟩, .n, []⟩, ⟨⟨.op (.ld1 (.t 125)), (some 126), none⟩, .n, []⟩, ⟨⟨.op (.mv (.t 12)), (some 127), none⟩, .n, []⟩, ⟨⟨.op (.ia 1 none (.t 126) (.t 127)), (some 128), none⟩, .n, []⟩, ⟨⟨.op (.ld1 (.t 128)), (some 129), none⟩, .n, []⟩, ⟨⟨.op (.mv (.t 7)), (some 130), none⟩, .n, []⟩, ⟨⟨.op (.mv (.t 11)), (some 131), none⟩, .n, []⟩, ⟨⟨.op (.ia 1 none (.t 130) (.t 131)), (some 132), none⟩, .n, []⟩, ⟨⟨.op (.ld1 (.t 132)), (some 133), none⟩, .n, []⟩, ⟨⟨.op (.mv (.t 13)), (some 134), none⟩, .n, []⟩, ⟨⟨.op (.ia 1 none (.t 133) (.t 134)), (some 135), none⟩, .n, []⟩, ⟨⟨.op (.ld1 (.t 135)), (some 136), none⟩, .n, []⟩, ⟨⟨.op (.mv (.t 7)), (some 137), none⟩, .n, []⟩, ⟨⟨.op (.mv (.t 13)), (some 138), none⟩, .n, []⟩, ⟨⟨.op (.ia 1 none (.t 137) (.t 138)), (some 139), none⟩, .n, []⟩, ⟨⟨.op (.ld1 (.t 139)), (some 140), none⟩, .n, []⟩, ⟨⟨.op (.mv (.t 12)), (some 141), none⟩, .n, []⟩, ⟨⟨.op (.ia 1 none (.t 140) (.t 141)), (some 142), none⟩, .n, []⟩, ⟨⟨.op (.ld1 (.t 142)), (some 143), none⟩, .n, []⟩, ⟨⟨.op (.bin .add 0 (.t 136) (.t 143)), (some 144), none⟩, .n, []⟩, ⟨⟨.op (.bin .gtr 0 (.t 129) (.t 144)), (some 145), none⟩, .n, []⟩])
 [5, 6, 7, 10, 11, 12, 13, 145]
 (.cond (.t 145) (.seq (.reg [⟨.op (.mv (.c (.bool false))), (some 4), none⟩])
 [4]
 (.ret)) (.skip))))
 [5, 6, 7, 10, 11, 12, 13]
 (.reg [⟨.op (.mv (.t 13)), (some 121), none⟩, ⟨.op (.bin .add 0 (.t 121) (.c (.int .i64 1))), (some 122), none⟩, ⟨.op (.mv (.t 122)), (some 13), none⟩]))) T st := rfl
noncomputable def l12_2 : DC :=
 .seq (.seq (.reg [⟨.op (.mv (.t 12)), (some 57), none⟩, ⟨.op (.mv (.t 5)), (some 58), none⟩, ⟨.op (.bin .lss 0 (.t 57) (.t 58)), (some 59), none⟩])
 [5, 6, 7, 10, 11, 12, 59]
 (.cond (.t 59) (.skip) (.exit 4)))
 [5, 6, 7, 10, 11, 12]
 (.seq (.block 5 (.seq (.seq (.drw [⟨⟨.op (.mv (.t 7)), (some 62), none⟩, .n, []⟩, ⟨⟨.op (.mv (.t 11)), (some 63), none⟩, .n, []⟩, ⟨⟨.op (.ia 1 none (.t 62) (.t 63)), (some 64), none⟩, .n, []⟩, ⟨⟨.op (.ld1 (.t 64)), (some 65), none⟩, .n, []⟩, ⟨⟨.op (.mv (.t 12)), (some 66), none⟩, .n, []⟩, ⟨⟨.op (.ia 1 none (.t 65) (.t 66)), (some 67), none⟩, .n, []⟩, ⟨⟨.op (.ld1 (.t 67)), (some 68), none⟩, .n, []⟩, ⟨⟨.op (.mv (.t 7)), (some 69), none⟩, .n, []⟩, ⟨⟨.op (.mv (.t 12)), (some 70), none⟩, .n, []⟩, ⟨⟨.op (.ia 1 none (.t 69) (.t 70)), (some 71), none⟩, .n, []⟩, ⟨⟨.op (.ld1 (.t 71)), (some 72), none⟩, .n, []⟩, ⟨⟨.op (.mv (.t 11)), (some 73), none⟩, .n, []⟩, ⟨⟨.op (.ia 1 none (.t 72) (.t 73)), (some 74), none⟩, .n, []⟩, ⟨⟨.op (.ld1 (.t 74)), (some 75), none⟩, .n, []⟩, ⟨⟨.op (.bin .neq 0 (.t 68) (.t 75)), (some 76), none⟩, .n, []⟩, ⟨⟨.op (.mv (.t 76)), (some 77), none⟩, .n, []⟩, ⟨⟨.op (.mv (.t 7)), (some 78), (some (77, false))⟩, .n, []⟩, ⟨⟨.op (.mv (.t 11)), (some 79), (some (77, false))⟩, .n, []⟩, ⟨⟨.op (.ia 1 none (.t 78) (.t 79)), (some 80), (some (77, false))⟩, .n, []⟩, ⟨⟨.op (.ld1 (.t 80)), (some 81), (some (77, false))⟩, .n, []⟩, ⟨⟨.op (.mv (.t 12)), (some 82), (some (77, false))⟩, .n, []⟩, ⟨⟨.op (.ia 1 none (.t 81) (.t 82)), (some 83), (some (77, false))⟩, .n, []⟩, ⟨⟨.op (.ld1 (.t 83)), (some 84), (some (77, false))⟩, .n, []⟩, ⟨⟨.op (.bin .lss 0 (.t 84) (.c (.int .i64 0))), (some 85), (some (77, false))⟩, .n, []⟩, ⟨⟨.op (.pick (.t 77) (.c (.bool true)) (.t 85)), (some 86), none⟩, .n, []⟩, ⟨⟨.op (.mv (.t 86)), (some 87), none⟩, .n, []⟩, ⟨⟨.op (.mv (.t 7)), (some 88), (some (87, false))⟩, .n, []⟩, ⟨⟨.op (.mv (.t 11)), (some 89), (some (87, false))⟩, .n, []⟩, ⟨⟨.op (.ia 1 none (.t 88) (.t 89)), (some 90), (some (87, false))⟩, .n, []⟩, ⟨⟨.op (.ld1 (.t 90)), (some 91), (some (87, false))⟩, .n, []⟩, ⟨⟨.op (.mv (.t 12)), (some 92), (some (87, false))⟩, .n, []⟩, ⟨⟨.op (.ia 1 none (.t 91) (.t 92)), (some 93), (some (87, false))⟩, .n, []⟩, ⟨⟨.op (.ld1 (.t 93)), (some 94), (some (87, false))⟩, .n, []⟩, ⟨⟨.op (.bin .eql 0 (.t 94) (.c (.int .i64 1))), (some 95), (some (87, false))⟩, .n, []⟩, ⟨⟨.op (.mv (.t 6)), (some 96), (some (87, false))⟩, .n, []⟩, ⟨⟨.op (.mv (.t 11)), (some 97), (some (87, false))⟩, .n, []⟩, ⟨⟨.op (.bin .add 0 (.t 97) (.c (.int .i64 1))), (some 98), (some (87, false))⟩, .n, []⟩, ⟨⟨.op (.mv (.t 12)), (some 99), (some (87, false))⟩, .n, []⟩, ⟨⟨.op (.bin .add 0 (.t 99) (.c (.int .i64 1))), (some 100), (some (87, false))⟩, .n, []⟩, ⟨⟨.call 51 [(.t 96), (.t 98), (.t 100)], (some 101), (some (87, false))⟩, .x, [(true, 32), (true, 29)]⟩, ⟨⟨.op (.bin .neq 5 (.t 95) (.t 101)), (some 102), (some (87, false))⟩, .n, []⟩, ⟨⟨.op (.pick (.t 87) (.c (.bool true)) (.t 102)), (some 103), none⟩, .n, []⟩, ⟨⟨.op (.mv (.t 103)), (some 104), none⟩, .n, []⟩, ⟨⟨.op (.mv (.t 7)), (some 105), (some (104, false))⟩, .n, []⟩, ⟨⟨.op (.mv (.t 11)), (some 106), (some (104, false))⟩, .n, []⟩, ⟨⟨.op (.ia 1 none (.t 105) (.t 106)), (some 107), (some (104, false))⟩, .n, []⟩, ⟨⟨.op (.ld1 (.t 107)), (some 108), (some (104, false))⟩, .n, []⟩, ⟨⟨.op (.mv (.t 12)), (some 109), (some (104, false))⟩, .n, []⟩, ⟨⟨.op (.ia 1 none (.t 108) (.t 109)), (some 110), (some (104, false))⟩, .n, []⟩, ⟨⟨.op (.ld1 (.t 110)), (some 111), (some (104, false))⟩, .n, []⟩, ⟨⟨.op (.bin .eql 0 (.t 111) (.c (.int .i64 0))), (some 112), (some (104, false))⟩, .n, []⟩, ⟨⟨.op (.mv (.t 11)), (some 113), (some (104, false))⟩, .n, []⟩, ⟨⟨.op (.mv (.t 12)), (some 114), (some (104, false))⟩, .n, []⟩, ⟨⟨.op (.bin .eql 0 (.t 113) (.t 114)), (some 115), (some (104, false))⟩, .n, []⟩, ⟨⟨.op (.bin .neq 5 (.t 112) (.t 115)), (some 116), (some (104, false))⟩, .n, []⟩, ⟨⟨.op (.pick (.t 104) (.c (.bool true)) (.t 116)), (some 117), none⟩, .n, []⟩])
 [5, 6, 7, 10, 11, 12, 117]
 (.cond (.t 117) (.seq (.reg [⟨.op (.mv (.c (.bool false))), (some 4), none⟩])
 [4]
 (.ret)) (.skip)))
 [5, 6, 7, 10, 11, 12]
 (.seq (.seq (.reg [⟨.op (.mv (.c (.int .i64 0))), (some 13), none⟩])
 [5, 6, 7, 10, 11, 12, 13]
 (.block 6 (.loop [5, 6, 7, 10, 11, 12, 13] (l12_1))))
 [5, 6, 7, 10, 11, 12]
 (.reg [⟨.op (.mv (.t 10)), (some 146), none⟩, ⟨.op (.mv (.t 7)), (some 147), none⟩, ⟨.op (.mv (.t 11)), (some 148), none⟩, ⟨.op (.ia 1 none (.t 147) (.t 148)), (some 149), none⟩, ⟨.op (.ld1 (.t 149)), (some 150), none⟩, ⟨.op (.mv (.t 12)), (some 151), none⟩, ⟨.op (.ia 1 none (.t 150) (.t 151)), (some 152), none⟩, ⟨.op (.ld1 (.t 152)), (some 153), none⟩, ⟨.op (.slow (operAt Try.prog 12 154)), (some 154), none⟩, ⟨.op (.mv (.t 154)), (some 10), none⟩]))))
 [5, 6, 7, 10, 11, 12]
 (.reg [⟨.op (.mv (.t 12)), (some 60), none⟩, ⟨.op (.bin .add 0 (.t 60) (.c (.int .i64 1))), (some 61), none⟩, ⟨.op (.mv (.t 61)), (some 12), none⟩]))
theorem u12_2 (call : DCall) (T : Tm) (st : Dv.St) : dCw Try.prog call l12_2 T st = dCw Try.prog call
 (.seq (.seq (.reg [⟨.op (.mv (.t 12)), (some 57), none⟩, ⟨.op (.mv (.t 5)), (some 58), none⟩, ⟨.op (.bin .lss 0 (.t 57) (.t 58)), (some 59), none⟩])
 [5, 6, 7, 10, 11, 12, 59]
 (.cond (.t 59) (.skip) (.exit 4)))
 [5, 6, 7, 10, 11, 12]
 (.seq (.block 5 (.seq (.seq (.drw [⟨⟨.op (.mv (.t 7)), (some 62), none⟩, .n, []⟩, ⟨⟨.op (.mv (.t 11)), (some 63), none⟩, .n, []⟩, ⟨⟨.op (.ia 1 none (.t 62) (.t 63)), (some 64), none⟩, .n, []⟩, ⟨⟨.op (.ld1 (.t 64)), (some 65), none⟩, .n, []⟩, ⟨⟨.op (.mv (.t 12)), (some 66), none⟩, .n, []⟩, ⟨⟨.op (.ia 1 none (.t 65) (.t 66)), (some 67), none⟩, .n, []⟩, ⟨⟨.op (.ld1 (.t 67)), (some 68), none⟩, .n, []⟩, ⟨⟨.op (.mv (.t 7)), (some 69), none⟩, .n, []⟩, ⟨⟨.op (.mv (.t 12)), (some 70), none⟩, .n, []⟩, ⟨⟨.op (.ia 1 none (.t 69) (.t 70)), (some 71), none⟩, .n, []⟩, ⟨⟨.op (.ld1 (.t 71)), (some 72), none⟩, .n, []⟩, ⟨⟨.op (.mv (.t 11)), (some 73), none⟩, .n, []⟩, ⟨⟨.op (.ia 1 none (.t 72) (.t 73)), (some 74), none⟩, .n, []⟩, ⟨⟨.op (.ld1 (.t 74)), (some 75), none⟩, .n, []⟩, ⟨⟨.op (.bin .neq 0 (.t 68) (.t 75)), (some 76), none⟩, .n, []⟩, ⟨⟨.op (.mv (.t 76)), (some 77), none⟩, .n, []⟩, ⟨⟨.op (.mv (.t 7)), (some 78), (some (77, false))⟩, .n, []⟩, ⟨⟨.op (.mv (.t 11)), (some 79), (some (77, false))⟩, .n, []⟩, ⟨⟨.op (.ia 1 none (.t 78) (.t 79)), (some 80), (some (77, false))⟩, .n, []⟩, ⟨⟨.op (.ld1 (.t 80)), (some 81), (some (77, false))⟩, .n, []⟩, ⟨⟨.op (.mv (.t 12)), (some 82), (some (77, false))⟩, .n, []⟩, ⟨⟨.op (.ia 1 none (.t 81) (.t 82)), (some 83), (some (77, false))⟩, .n, []⟩, ⟨⟨.op (.ld1 (.t 83)), (some 84), (some (77, false))⟩, .n, []⟩, ⟨⟨.op (.bin .lss 0 (.t 84) (.c (.int .i64 0))), (some 85), (some (77, false))⟩, .n, []⟩, ⟨⟨.op (.pick (.t 77) (.c (.bool true)) (.t 85)), (some 86), none⟩, .n, []⟩, ⟨⟨.op (.mv (.t 86)), (some 87), none⟩, .n, []⟩, ⟨⟨.op (.mv (.t 7)), (some 88), (some (87, false))⟩, .n, []⟩, ⟨⟨.op (.mv (.t 11)), (some 89), (some (87, false))⟩, .n, []⟩, ⟨⟨.op (.ia 1 none (.t 88) (.t 89)), (some 90), (some (87, false))⟩, .n, []⟩, ⟨⟨.op (.ld1 (.t 90)), (some 91), (some (87, false))⟩, .n, []⟩, ⟨⟨.op (.mv (.t 12)), (some 92), (some (87, false))⟩, .n, []⟩, ⟨⟨.op (.ia 1 none (.t 91) (.t 92)), (some 93), (some (87, false))⟩, .n, []⟩, ⟨⟨.op (.ld1 (.t 93)), (some 94), (some (87, false))⟩, .n, []⟩, ⟨⟨.op (.bin .eql 0 (.t 94) (.c (.int .i64 1))), (some 95), (some (87, false))⟩, .n, []⟩, ⟨⟨.op (.mv (.t 6)), (some 96), (some (87, false))⟩, .n, []⟩, ⟨⟨.op (.mv (.t 11)), (some 97), (some (87, false))⟩, .n, []⟩, ⟨⟨.op (.bin .add 0 (.t 97) (.c (.int .i64 1))), (some 98), (some (87, false))⟩, .n, []⟩, ⟨⟨.op (.mv (.t 12)), (some 99), (some (87, false))⟩, .n, []⟩, ⟨⟨.op (.bin .add 0 (.t 99) (.c (.int .i64 1))), (some 100), (some (87, false))⟩, .n, []⟩, ⟨⟨.call 51 [(.t 96), (.t 98), (.t 100)], (some 101), (some (87, false))⟩, .x, [(true, 32), (true, 29)]⟩, ⟨⟨.op (.bin .neq 5 (.t 95) (.t 101)), (some 102), (some (87, false))⟩, .n, []⟩, ⟨⟨.op (.pick (.t 87) (.c (.bool true)) (.t 102)), (some 103), none⟩, .n, []⟩, ⟨⟨.op (.mv (.t 103)), (some 104), none⟩, .n, []⟩, ⟨⟨.op (.mv (.t 7)), (some 105), (some (104, false))⟩, .n, []⟩, ⟨⟨.op (.mv (.t 11)), (some 106), (some (104, false))⟩, .n, []⟩, ⟨⟨.op (.ia 1 none (.t 105) (.t 106)), (some 107), (some (104, false))⟩, .n, []⟩, ⟨⟨.op (.ld1 (.t 107)), (some 108), (some (104, false))⟩, .n, []⟩, ⟨⟨.op (.mv (.t 12)), (some 109), (some (104, false))⟩, .n, []⟩, ⟨⟨.op (.ia 1 none (.t 108) (.t 109)), (some 110), (some (104, false))⟩, .n, []⟩, ⟨⟨.op (.ld1 (.t 110)), (some 111), (some (104, false))⟩, .n, []⟩, ⟨⟨.op (.bin .eql 0 (.t 111) (.c (.int .i64 0))), (some 112), (some (104, false))⟩, .n, []⟩, ⟨⟨.op (.mv (.t 11)), (some 113), (some (104, false))⟩, .n, []⟩, ⟨⟨.op (.mv (.t 12)), (some 114), (some (104, false))⟩, .n, []⟩, ⟨⟨.op (.bin .eql 0 (.t 113) (.t 114)), (some 115), (some (104, false))⟩, .n, []⟩, ⟨⟨.op (.bin .neq 5 (.t 112) (.t 115)), (some 116), (some (104, false))⟩, .n, []⟩, ⟨⟨.op (.pick (.t 104) (.c (.bool true)) (.t 116)), (some 117), none⟩, .n, []⟩])
 [5, 6, 7, 10, 11, 12, 117]
 (.cond (.t 117) (.seq (.reg [⟨.op (.mv (.c (.bool false))), (some 4), none⟩])
 [4]
 (.ret)) (.skip)))
 [5, 6, 7, 10, 11, 12]
 (.seq (.seq (.reg [⟨.op (.mv (.c (.int .i64 0))), (some 13), none⟩])
 [5, 6, 7, 10, 11, 12, 13]
 (.block 6 (.loop [5, 6, 7, 10, 11, 12, 13] (l12_1))))
 [5, 6, 7, 10, 11, 12]
 (.reg [⟨.op (.mv (.t 10)), (some 146), none⟩, ⟨.op (.mv (.t 7)), (some 147), none⟩, ⟨.op (.mv (.t 11)), (some 148), none⟩, ⟨.op (.ia 1 none (.t 147) (.t 148)), (some 149), none⟩, ⟨.op (.ld1 (.t 149)), (some 150), none⟩, ⟨.op (.mv (.t 12)), (some 151), none⟩, ⟨.op (.ia 1 none (.t 150) (.t 151)), (some 152), none⟩, ⟨.op (.ld1 (.t 152)), (some 153), none⟩, ⟨.op (.slow (operAt Try.prog 12 154)), (some 154), none⟩, ⟨.op (.mv (.t 154)), (some 10), none⟩]))))
 [5, 6, 7, 10, 11, 12]
 (.reg [⟨.op (.mv (.t 12)), (some 60), none⟩, ⟨.op (.bin .add 0 (.t 60) (.c (.int .i64 1))), (some 61), none⟩, ⟨.op (.mv (.t 61)), (some 12), none⟩]))) T st := rfl
noncomputable def l12_3 : DC :=
 .seq (.seq (.reg [⟨.op (.mv (.t 11)), (some 52), none⟩, ⟨.op (.mv (.t 5)), (some 53), none⟩, ⟨.op (.bin .lss 0 (.t 52) (.t 53)), (some 54), none⟩])
 [5, 6, 7, 10, 11, 54]
 (.cond (.t 54) (.skip) (.exit 2)))
 [5, 6, 7, 10, 11]
 (.seq (.block 3 (.seq (.reg [⟨.op (.mv (.c (.int .i64 0))), (some 12), none⟩])
 [5, 6, 7, 10, 11, 12]
 (.block 4 (.loop [5, 6, 7, 10, 11, 12] (l12_2)))))
 [5, 6, 7, 10, 11]
 (.reg [⟨.op (.mv (.t 11)), (some 55), none⟩, ⟨.op (.bin .add 0 (.t 55) (.c (.int .i64 1))), (some 56), none⟩, ⟨.op (.mv (.t 56)), (some 11), none⟩]))
theorem u12_3 (call : DCall) (T : Tm) (st : Dv.St) : dCw Try.prog call l12_3 T st = dCw Try.prog call
 (.seq (.seq (.reg [⟨.op (.mv (.t 11)), (some 52), none⟩, ⟨.op (.mv (.t 5)), (some 53), none⟩, ⟨.op (.bin .lss 0 (.t 52) (.t 53)), (some 54), none⟩])
 [5, 6, 7, 10, 11, 54]
 (.cond (.t 54) (.skip) (.exit 2)))
 [5, 6, 7, 10, 11]
 (.seq (.block 3 (.seq (.reg [⟨.op (.mv (.c (.int .i64 0))), (some 12), none⟩])
 [5, 6, 7, 10, 11, 12]
 (.block 4 (.loop [5, 6, 7, 10, 11, 12] (l12_2)))))
 [5, 6, 7, 10, 11]
 (.reg [⟨.op (.mv (.t 11)), (some 55), none⟩, ⟨.op (.bin .add 0 (.t 55) (.c (.int .i64 1))), (some 56), none⟩, ⟨.op (.mv (.t 56)), (some 11), none⟩]))) T st := rfl
/-- cardamom/cardamomlaw24.TopoSteps -/
noncomputable def c12 : DFn := ⟨169, .pure,
 .seq (.reg [⟨.op (.mv (.c (.bool false))), (some 4), none⟩])
 [0, 1]
 (.seq (.seq (.reg [⟨.call 48 [], (some 14), none⟩, ⟨.op (.not (.t 14)), (some 15), none⟩])
 [0, 1, 15]
 (.cond (.t 15) (.seq (.reg [⟨.op (.mv (.c (.bool false))), (some 4), none⟩])
 [4]
 (.ret)) (.skip)))
 [0, 1]
 (.seq (.seq (.reg [⟨.op (.mv (.t 0)), (some 16), none⟩, ⟨.op (.len (.t 16)), (some 17), none⟩, ⟨.op (.bin .gtr 0 (.t 17) (.c (.int .i64 20))), (some 18), none⟩])
 [0, 1, 18]
 (.cond (.t 18) (.seq (.reg [⟨.op (.mv (.c (.bool true))), (some 4), none⟩])
 [4]
 (.ret)) (.skip)))
 [0, 1]
 (.seq (.reg [⟨.op (.mv (.t 1)), (some 19), none⟩, ⟨.op (.bin .rem 0 (.t 19) (.c (.int .u8 5))), (some 20), none⟩, ⟨.op (.conv .i64 (.t 20)), (some 21), none⟩, ⟨.op (.bin .add 0 (.c (.int .i64 1)) (.t 21)), (some 22), none⟩, ⟨.op (.mv (.t 22)), (some 5), none⟩])
 [0, 5]
 (.seq (.reg [⟨.op (.mv (.t 0)), (some 23), none⟩, ⟨.call 16 [(.t 23)], (some 24), none⟩, ⟨.op (.mv (.t 5)), (some 25), none⟩, ⟨.call 49 [(.t 24), (.t 25)], (some 26), none⟩, ⟨.op (.mv (.t 26)), (some 6), none⟩])
 [5, 6]
 (.seq (.reg [⟨.op (.mv (.c (.sl none 0))), (some 7), none⟩])
 [5, 6, 7]
 (.seq (.seq (.reg [⟨.op (.mv (.c (.int .i64 1))), (some 8), none⟩])
 [5, 6, 7, 8]
 (.block 0 (.loop [5, 6, 7, 8] (l12_0))))
 [5, 6, 7]
 (.seq (.reg [⟨.op (.mv (.c (.int .i64 0))), (some 10), none⟩])
 [5, 6, 7, 10]
 (.seq (.seq (.reg [⟨.op (.mv (.c (.int .i64 0))), (some 11), none⟩])
 [5, 6, 7, 10, 11]
 (.block 2 (.loop [5, 6, 7, 10, 11] (l12_3))))
 [5, 6, 10]
 (.seq (.reg [⟨.op (.mv (.t 5)), (some 155), none⟩, ⟨.op (.mv (.t 6)), (some 156), none⟩, ⟨.call 52 [(.t 155), (.t 156)], (some 157), none⟩, ⟨.op (.mv (.t 10)), (some 158), none⟩, ⟨.op (.bin .eql 0 (.t 157) (.t 158)), (some 159), none⟩, ⟨.op (.mv (.t 159)), (some 160), none⟩, ⟨.op (.mv (.t 10)), (some 161), (some (160, true))⟩, ⟨.op (.mv (.t 5)), (some 162), (some (160, true))⟩, ⟨.op (.bin .lss 0 (.t 161) (.t 162)), (some 163), (some (160, true))⟩, ⟨.op (.pick (.t 160) (.t 163) (.c (.bool false))), (some 164), none⟩, ⟨.op (.mv (.t 164)), (some 165), none⟩, ⟨.op (.mv (.t 10)), (some 166), (some (165, true))⟩, ⟨.op (.bin .leq 0 (.t 166) (.c (.int .i64 5))), (some 167), (some (165, true))⟩, ⟨.op (.pick (.t 165) (.t 167) (.c (.bool false))), (some 168), none⟩, ⟨.op (.mv (.t 168)), (some 4), none⟩])
 [4]
 (.ret)))))))))),
 [.tmp 4]⟩
theorem k12 : cFn Try.prog 12 = some c12.toE := by kernel_rfl
theorem w12 : c12.body.wf = true := by kernel_rfl
noncomputable def l13_0 : DC :=
 .seq (.seq (.reg [⟨.op (.mv (.t 15)), (some 52), none⟩, ⟨.op (.mv (.t 10)), (some 53), none⟩, ⟨.op (.len (.t 53)), (some 54), none⟩, ⟨.op (.bin .lss 0 (.t 52) (.t 54)), (some 55), none⟩])
 [9, 10, 11, 12, 13, 14, 15, 55]
 (.cond (.t 55) (.skip) (.exit 0)))
 [9, 10, 11, 12, 13, 14, 15]
 (.seq (.block 1 (.seq (.seq (.reg [⟨.op (.mv (.t 14)), (some 58), none⟩, ⟨.op (.not (.t 58)), (some 59), none⟩, ⟨.op (.mv (.t 59)), (some 60), none⟩, ⟨.op (.mv (.t 10)), (some 61), (some (60, true))⟩, ⟨.op (.mv (.t 15)), (some 62), (some (60, true))⟩, ⟨.op (.ia 2 none (.t 61) (.t 62)), (some 63), (some (60, true))⟩, ⟨.op (.ia 1 (some 2) (.t 63) (.c (.int .i64 0))), (some 64), (some (60, true))⟩, ⟨.op (.ld1 (.t 64)), (some 65), (some (60, true))⟩, ⟨.op (.mv (.t 11)), (some 66), (some (60, true))⟩, ⟨.op (.bin .gtr 0 (.t 65) (.t 66)), (some 67), (some (60, true))⟩, ⟨.op (.mv (.t 67)), (some 68), (some (60, true))⟩, ⟨.op (.mv (.t 10)), (some 69), (some (68, false))⟩, ⟨.op (.mv (.t 15)), (some 70), (some (68, false))⟩, ⟨.op (.ia 2 none (.t 69) (.t 70)), (some 71), (some (68, false))⟩, ⟨.op (.ia 1 (some 2) (.t 71) (.c (.int .i64 0))), (some 72), (some (68, false))⟩, ⟨.op (.ld1 (.t 72)), (some 73), (some (68, false))⟩, ⟨.op (.mv (.t 11)), (some 74), (some (68, false))⟩, ⟨.op (.bin .eql 0 (.t 73) (.t 74)), (some 75), (some (68, false))⟩, ⟨.op (.mv (.t 75)), (some 76), (some (68, false))⟩, ⟨.op (.mv (.t 10)), (some 77), (some (76, true))⟩, ⟨.op (.mv (.t 15)), (some 78), (some (76, true))⟩, ⟨.op (.ia 2 none (.t 77) (.t 78)), (some 79), (some (76, true))⟩, ⟨.op (.ia 1 (some 2) (.t 79) (.c (.int .i64 1))), (some 80), (some (76, true))⟩, ⟨.op (.ld1 (.t 80)), (some 81), (some (76, true))⟩, ⟨.op (.mv (.t 12)), (some 82), (some (76, true))⟩, ⟨.op (.bin .gtr 0 (.t 81) (.t 82)), (some 83), (some (76, true))⟩, ⟨.op (.pick (.t 76) (.t 83) (.c (.bool false))), (some 84), (some (68, false))⟩, ⟨.op (.pick (.t 68) (.c (.bool true)) (.t 84)), (some 85), (some (60, true))⟩, ⟨.op (.pick (.t 60) (.t 85) (.c (.bool false))), (some 86), none⟩])
 [9, 10, 11, 12, 13, 14, 15, 86]
 (.cond (.t 86) (.reg [⟨.op (.mv (.t 13)), (some 87), none⟩, ⟨.op (.mv (.t 11)), (some 88), none⟩, ⟨.op (.mv (.t 12)), (some 89), none⟩, ⟨.op (.build [(.int .i64 0), (.int .i64 0)] [(0, 1, (.t 88)), (1, 1, (.t 89))]), (some 90), none⟩, ⟨.op (.bslice 2 1 [(.int .i64 0), (.int .i64 0)] [(0, 2, (.t 90))]), (some 91), none⟩, ⟨.op (.app 2 16 false (.t 87) (.t 91)), (some 92), none⟩, ⟨.op (.mv (.t 92)), (some 13), none⟩, ⟨.op (.mv (.c (.bool true))), (some 14), none⟩]) (.skip)))
 [9, 10, 11, 12, 13, 14, 15]
 (.reg [⟨.op (.mv (.t 13)), (some 93), none⟩, ⟨.op (.mv (.t 10)), (some 94), none⟩, ⟨.op (.mv (.t 15)), (some 95), none⟩, ⟨.op (.ia 2 none (.t 94) (.t 95)), (some 96), none⟩, ⟨.op (.ldn 2 (.t 96)), (some 97), none⟩, ⟨.op (.bslice 2 1 [(.int .i64 0), (.int .i64 0)] [(0, 2, (.t 97))]), (some 98), none⟩, ⟨.op (.app 2 16 false (.t 93) (.t 98)), (some 99), none⟩, ⟨.op (.mv (.t 99)), (some 13), none⟩])))
 [9, 10, 11, 12, 13, 14, 15]
 (.reg [⟨.op (.mv (.t 15)), (some 56), none⟩, ⟨.op (.bin .add 0 (.t 56) (.c (.int .i64 1))), (some 57), none⟩, ⟨.op (.mv (.t 57)), (some 15), none⟩]))
theorem u13_0 (call : DCall) (T : Tm) (st : Dv.St) : dCw Try.prog call l13_0 T st = dCw Try.prog call
 (.seq (.seq (.reg [⟨.op (.mv (.t 15)), (some 52), none⟩, ⟨.op (.mv (.t 10)), (some 53), none⟩, ⟨.op (.len (.t 53)), (some 54), none⟩, ⟨.op (.bin .lss 0 (.t 52) (.t 54)), (some 55), none⟩])
 [9, 10, 11, 12, 13, 14, 15, 55]
 (.cond (.t 55) (.skip) (.exit 0)))
 [9, 10, 11, 12, 13, 14, 15]
 (.seq (.block 1 (.seq (.seq (.reg [⟨.op (.mv (.t 14)), (some 58), none⟩, ⟨.op (.not (.t 58)), (some 59), none⟩, ⟨.op (.mv (.t 59)), (some 60), none⟩, ⟨.op (.mv (.t 10)), (some 61), (some (60, true))⟩, ⟨.op (.mv (.t 15)), (some 62), (some (60, true))⟩, ⟨.op (.ia 2 none (.t 61) (.t 62)), (some 63), (some (60, true))⟩, ⟨.op (.ia 1 (some 2) (.t 63) (.c (.int .i64 0))), (some 64), (some (60, true))⟩, ⟨.op (.ld1 (.t 64)), (some 65), (some (60, true))⟩, ⟨.op (.mv (.t 11)), (some 66), (some (60, true))⟩, ⟨.op (.bin .gtr 0 (.t 65) (.t 66)), (some 67), (some (60, true))⟩, ⟨.op (.mv (.t 67)), (some 68), (some (60, true))⟩, ⟨.op (.mv (.t 10)), (some 69), (some (68, false))⟩, ⟨.op (.mv (.t 15)), (some 70), (some (68, false))⟩, ⟨.op (.ia 2 none (.t 69) (.t 70)), (some 71), (some (68, false))⟩, ⟨.op (.ia 1 (some 2) (.t 71) (.c (.int .i64 0))), (some 72), (some (68, false))⟩, ⟨.op (.ld1 (.t 72)), (some 73), (some (68, false))⟩, ⟨.op (.mv (.t 11)), (some 74), (some (68, false))⟩, ⟨.op (.bin .eql 0 (.t 73) (.t 74)), (some 75), (some (68, false))⟩, ⟨.op (.mv (.t 75)), (some 76), (some (68, false))⟩, ⟨.op (.mv (.t 10)), (some 77), (some (76, true))⟩, ⟨.op (.mv (.t 15)), (some 78), (some (76, true))⟩, ⟨.op (.ia 2 none (.t 77) (.t 78)), (some 79), (some (76, true))⟩, ⟨.op (.ia 1 (some 2) (.t 79) (.c (.int .i64 1))), (some 80), (some (76, true))⟩, ⟨.op (.ld1 (.t 80)), (some 81), (some (76, true))⟩, ⟨.op (.mv (.t 12)), (some 82), (some (76, true))⟩, ⟨.op (.bin .gtr 0 (.t 81) (.t 82)), (some 83), (some (76, true))⟩, ⟨.op (.pick (.t 76) (.t 83) (.c (.bool false))), (some 84), (some (68, false))⟩, ⟨.op (.pick (.t 68) (.c (.bool true)) (.t 84)), (some 85), (some (60, true))⟩, ⟨.op (.pick (.t 60) (.t 85) (.c (.bool false))), (some 86), none⟩])
 [9, 10, 11, 12, 13, 14, 15, 86]
 (.cond (.t 86) (.reg [⟨.op (.mv (.t 13)), (some 87), none⟩, ⟨.op (.mv (.t 11)), (some 88), none⟩, ⟨.op (.mv (.t 12)), (some 89), none⟩, ⟨.op (.build [(.int .i64 0), (.int .i64 0)] [(0, 1, (.t 88)), (1, 1, (.t 89))]), (some 90), none⟩, ⟨.op (.bslice 2 1 [(.int .i64 0), (.int .i64 0)] [(0, 2, (.t 90))]), (some 91), none⟩, ⟨.op (.app 2 16 false (.t 87) (.t 91)), (some 92), none⟩, ⟨.op (.mv (.t 92)), (some 13), none⟩, ⟨.op (.mv (.c (.bool true))), (some 14), none⟩]) (.skip)))
 [9, 10, 11, 12, 13, 14, 15]
 (.reg [⟨.op (.mv (.t 13)), (some 93), none⟩, ⟨.op (.mv (.t 10)), (some 94), none⟩, ⟨.op (.mv (.t 15)), (some 95), none⟩, ⟨.op (.ia 2 none (.t 94) (.t 95)), (some 96), none⟩, ⟨.op (.ldn 2 (.t 96)), (some 97), none⟩, ⟨.op (.bslice 2 1 [(.int .i64 0), (.int .i64 0)] [(0, 2, (.t 97))]), (some 98), none⟩, ⟨.op (.app 2 16 false (.t 93) (.t 98)), (some 99), none⟩, ⟨.op (.mv (.t 99)), (some 13), none⟩])))
 [9, 10, 11, 12, 13, 14, 15]
 (.reg [⟨.op (.mv (.t 15)), (some 56), none⟩, ⟨.op (.bin .add 0 (.t 56) (.c (.int .i64 1))), (some 57), none⟩, ⟨.op (.mv (.t 57)), (some 15), none⟩]))) T st := rfl
noncomputable def l13_1 : DC :=
 .seq (.seq (.reg [⟨.op (.mv (.t 19)), (some 131), none⟩, ⟨.op (.mv (.t 9)), (some 132), none⟩, ⟨.op (.bin .lss 0 (.t 131) (.t 132)), (some 133), none⟩])
 [9, 10, 11, 12, 13, 16, 17, 18, 19, 133]
 (.cond (.t 133) (.skip) (.exit 4)))
 [9, 10, 11, 12, 13, 16, 17, 18, 19]
 (.seq (.block 5 (.seq (.drw [⟨⟨.op (.mv (.t 18)), (some 136), none⟩, .n, []⟩, ⟨⟨.op (.mv (.t 19)), (some 137), none⟩, .n, []⟩, ⟨⟨.op (.ia 1 none (.t 136) (.t 137)), (some 138), none⟩, .n, []⟩, ⟨⟨.op (.ld1 (.t 138)), (some 139), none⟩, .n, []⟩, ⟨⟨.op (.mv (.t 17)), (some 140), none⟩, .n, []⟩, ⟨⟨.op (.mv (.t 19)), (some 141), none⟩, .n, []⟩, ⟨⟨.op (.ia 1 none (.t 140) (.t 141)), (some 142), none⟩, .n, []⟩, ⟨⟨.op (.ld1 (.t 142)), (some 143), none⟩, .n, []⟩, ⟨⟨.op (.bin .gtr 0 (.t 139) (.t 143)), (some 144), none⟩, .n, []⟩, ⟨⟨.op (.mv (.t 144)), (some 145), none⟩, .n, []⟩, ⟨⟨.op (.mv (.t 18)), (some 146), (some (145, false))⟩, .n, []⟩, ⟨⟨.op (.mv (.t 19)), (some 147), (some (145, false))⟩, .n, []⟩, ⟨⟨.op (.ia 1 none (.t 146) (.t 147)), (some 148), (some (145, false))⟩, .n, []⟩, ⟨⟨.op (.ld1 (.t 148)), (some 149), (some (145, false))⟩, .n, []⟩, ⟨⟨.op (.bin .lss 0 (.t 149) (.c (.int .i64 0))), (some 150), (some (145, false))⟩, .n, []⟩, ⟨⟨.op (.pick (.t 145) (.c (.bool true)) (.t 150)), (some 151), none⟩, .n, []⟩])
 [9, 10, 11, 12, 13, 16, 17, 18, 19, 151]
 (.cond (.t 151) (.seq (.reg [⟨.op (.mv (.c (.bool false))), (some 8), none⟩])
 [8]
 (.ret)) (.skip))))
 [9, 10, 11, 12, 13, 16, 17, 18, 19]
 (.reg [⟨.op (.mv (.t 19)), (some 134), none⟩, ⟨.op (.bin .add 0 (.t 134) (.c (.int .i64 1))), (some 135), none⟩, ⟨.op (.mv (.t 135)), (some 19), none⟩]))
theorem u13_1 (call : DCall) (T : Tm) (st : Dv.St) : dCw Try.prog call l13_1 T st = dCw Try.prog call
 (.seq (.seq (.reg [⟨.op (.mv (.t 19)), (some 131), none⟩, ⟨.op (.mv (.t 9)), (some 132), none⟩, ⟨.op (.bin .lss 0 (.t 131) (.t 132)), (some 133), none⟩])
 [9, 10, 11, 12, 13, 16, 17, 18, 19, 133]
 (.cond (.t 133) (.skip) (.exit 4)))
 [9, 10, 11, 12, 13, 16, 17, 18, 19]
 (.seq (.block 5 (.seq (.drw [⟨⟨.op (.mv (.t 18)), (some 136), none⟩, .n, []⟩, ⟨⟨.op (.mv (.t 19)), (some 137), none⟩, .n, []⟩, ⟨⟨.op (.ia 1 none (.t 136) (.t 137)), (some 138), none⟩, .n, []⟩, ⟨⟨.op (.ld1 (.t 138)), (some 139), none⟩, .n, []⟩, ⟨⟨.op (.mv (.t 17)), (some 140), none⟩, .n, []⟩, ⟨⟨.op (.mv (.t 19)), (some 141), none⟩, .n, []⟩, ⟨⟨.op (.ia 1 none (.t 140) (.t 141)), (some 142), none⟩, .n, []⟩, ⟨⟨.op (.ld1 (.t 142)), (some 143), none⟩, .n, []⟩, ⟨⟨.op (.bin .gtr 0 (.t 139) (.t 143)), (some 144), none⟩, .n, []⟩, ⟨⟨.op (.mv (.t 144)), (some 145), none⟩, .n, []⟩, ⟨⟨.op (.mv (.t 18)), (some 146), (some (145, false))⟩, .n, []⟩, ⟨⟨.op (.mv (.t 19)), (some 147), (some (145, false))⟩, .n, []⟩, ⟨⟨.op (.ia 1 none (.t 146) (.t 147)), (some 148), (some (145, false))⟩, .n, []⟩, ⟨⟨.op (.ld1 (.t 148)), (some 149), (some (145, false))⟩, .n, []⟩, ⟨⟨.op (.bin .lss 0 (.t 149) (.c (.int .i64 0))), (some 150), (some (145, false))⟩, .n, []⟩, ⟨⟨.op (.pick (.t 145) (.c (.bool true)) (.t 150)), (some 151), none⟩, .n, []⟩])
 [9, 10, 11, 12, 13, 16, 17, 18, 19, 151]
 (.cond (.t 151) (.seq (.reg [⟨.op (.mv (.c (.bool false))), (some 8), none⟩])
 [8]
 (.ret)) (.skip))))
 [9, 10, 11, 12, 13, 16, 17, 18, 19]
 (.reg [⟨.op (.mv (.t 19)), (some 134), none⟩, ⟨.op (.bin .add 0 (.t 134) (.c (.int .i64 1))), (some 135), none⟩, ⟨.op (.mv (.t 135)), (some 19), none⟩]))) T st := rfl
noncomputable def l13_2 : DC :=
 .seq (.seq (.reg [⟨.op (.mv (.t 16)), (some 108), none⟩, ⟨.op (.mv (.t 9)), (some 109), none⟩, ⟨.op (.bin .leq 0 (.t 108) (.t 109)), (some 110), none⟩])
 [9, 10, 11, 12, 13, 16, 110]
 (.cond (.t 110) (.skip) (.exit 2)))
 [9, 10, 11, 12, 13, 16]
 (.seq (.block 3 (.seq (.reg [⟨.op (.mv (.t 9)), (some 113), none⟩, ⟨.op (.mv (.t 10)), (some 114), none⟩, ⟨.op (.mv (.t 16)), (some 115), none⟩, ⟨.call 50 [(.t 113), (.t 114), (.t 115)], (some 116), none⟩, ⟨.op (.mv (.t 9)), (some 117), none⟩, ⟨.op (.mv (.t 13)), (some 118), none⟩, ⟨.op (.mv (.t 16)), (some 119), none⟩, ⟨.call 50 [(.t 117), (.t 118), (.t 119)], (some 120), none⟩, ⟨.op (.mv (.t 116)), (some 17), none⟩, ⟨.op (.mv (.t 120)), (some 18), none⟩])
 [9, 10, 11, 12, 13, 16, 17, 18]
 (.seq (.seq (.reg [⟨.op (.mv (.t 17)), (some 121), none⟩, ⟨.op (.len (.t 121)), (some 122), none⟩, ⟨.op (.mv (.t 9)), (some 123), none⟩, ⟨.op (.bin .neq 0 (.t 122) (.t 123)), (some 124), none⟩, ⟨.op (.mv (.t 124)), (some 125), none⟩, ⟨.op (.mv (.t 18)), (some 126), (some (125, false))⟩, ⟨.op (.len (.t 126)), (some 127), (some (125, false))⟩, ⟨.op (.mv (.t 9)), (some 128), (some (125, false))⟩, ⟨.op (.bin .neq 0 (.t 127) (.t 128)), (some 129), (some (125, false))⟩, ⟨.op (.pick (.t 125) (.c (.bool true)) (.t 129)), (some 130), none⟩])
 [9, 10, 11, 12, 13, 16, 17, 18, 130]
 (.cond (.t 130) (.seq (.reg [⟨.op (.mv (.c (.bool false))), (some 8), none⟩])
 [8]
 (.ret)) (.skip)))
 [9, 10, 11, 12, 13, 16, 17, 18]
 (.seq (.reg [⟨.op (.mv (.c (.int .i64 0))), (some 19), none⟩])
 [9, 10, 11, 12, 13, 16, 17, 18, 19]
 (.block 4 (.loop [9, 10, 11, 12, 13, 16, 17, 18, 19] (l13_1)))))))
 [9, 10, 11, 12, 13, 16]
 (.reg [⟨.op (.mv (.t 16)), (some 111), none⟩, ⟨.op (.bin .add 0 (.t 111) (.c (.int .i64 1))), (some 112), none⟩, ⟨.op (.mv (.t 112)), (some 16), none⟩]))
theorem u13_2 (call : DCall) (T : Tm) (st : Dv.St) : dCw Try.prog call l13_2 T st = dCw Try.prog call
 (.seq (.seq (.reg [⟨.op (.mv (.t 16)), (some 108), none⟩, ⟨.op (.mv (.t 9)), (some 109), none⟩, ⟨.op (.bin .leq 0 (.t 108) (.t 109)), (some 110), none⟩])
 [9, 10, 11, 12, 13, 16, 110]
 (.cond (.t 110) (.skip) (.exit 2)))
 [9, 10, 11, 12, 13, 16]
 (.seq (.block 3 (.seq (.reg [⟨.op (.mv (.t 9)), (some 113), none⟩, ⟨.op (.mv (.t 10)), (some 114), none⟩, ⟨.op (.mv (.t 16)), (some 115), none⟩, ⟨.call 50 [(.t 113), (.t 114), (.t 115)], (some 116), none⟩, ⟨.op (.mv (.t 9)), (some 117), none⟩, ⟨.op (.mv (.t 13)), (some 118), none⟩, ⟨.op (.mv (.t 16)), (some 119), none⟩, ⟨.call 50 [(.t 117), (.t 118), (.t 119)], (some 120), none⟩, ⟨.op (.mv (.t 116)), (some 17), none⟩, ⟨.op (.mv (.t 120)), (some 18), none⟩])
 [9, 10, 11, 12, 13, 16, 17, 18]
 (.seq (.seq (.reg [⟨.op (.mv (.t 17)), (some 121), none⟩, ⟨.op (.len (.t 121)), (some 122), none⟩, ⟨.op (.mv (.t 9)), (some 123), none⟩, ⟨.op (.bin .neq 0 (.t 122) (.t 123)), (some 124), none⟩, ⟨.op (.mv (.t 124)), (some 125), none⟩, ⟨.op (.mv (.t 18)), (some 126), (some (125, false))⟩, ⟨.op (.len (.t 126)), (some 127), (some (125, false))⟩, ⟨.op (.mv (.t 9)), (some 128), (some (125, false))⟩, ⟨.op (.bin .neq 0 (.t 127) (.t 128)), (some 129), (some (125, false))⟩, ⟨.op (.pick (.t 125) (.c (.bool true)) (.t 129)), (some 130), none⟩])
 [9, 10, 11, 12, 13, 16, 17, 18, 130]
 (.cond (.t 130) (.seq (.reg [⟨.op (.mv (.c (.bool false))), (some 8), none⟩])
 [8]
 (.ret)) (.skip)))
 [9, 10, 11, 12, 13, 16, 17, 18]
 (.seq (.reg [⟨.op (.mv (.c (.int .i64 0))), (some 19), none⟩])
 [9, 10, 11, 12, 13, 16, 17, 18, 19]
 (.block 4 (.loop [9, 10, 11, 12, 13, 16, 17, 18, 19] (l13_1)))))))
 [9, 10, 11, 12, 13, 16]
 (.reg [⟨.op (.mv (.t 16)), (some 111), none⟩, ⟨.op (.bin .add 0 (.t 111) (.c (.int .i64 1))), (some 112), none⟩, ⟨.op (.mv (.t 112)), (some 16), none⟩]))) T st := rfl
/-- cardamom/cardamomlaw24.TopoMore -/
noncomputable def c13 : DFn := ⟨170, .pure,
 .seq (.reg [⟨.op (.mv (.c (.bool false))), (some 8), none⟩])
 [0, 1, 2, 3]
 (.seq (.seq (.reg [⟨.call 48 [], (some 20), none⟩, ⟨.op (.not (.t 20)), (some 21), none⟩])
 [0, 1, 2, 3, 21]
 (.cond (.t 21) (.seq (.reg [⟨.op (.mv (.c (.bool false))), (some 8), none⟩])
 [8]
 (.ret)) (.skip)))
 [0, 1, 2, 3]
 (.seq (.seq (.reg [⟨.op (.mv (.t 0)), (some 22), none⟩, ⟨.op (.len (.t 22)), (some 23), none⟩, ⟨.op (.bin .gtr 0 (.t 23) (.c (.int .i64 20))), (some 24), none⟩])
 [0, 1, 2, 3, 24]
 (.cond (.t 24) (.seq (.reg [⟨.op (.mv (.c (.bool true))), (some 8), none⟩])
 [8]
 (.ret)) (.skip)))
 [0, 1, 2, 3]
 (.seq (.reg [⟨.op (.mv (.t 1)), (some 25), none⟩, ⟨.op (.bin .rem 0 (.t 25) (.c (.int .u8 4))), (some 26), none⟩, ⟨.op (.conv .i64 (.t 26)), (some 27), none⟩, ⟨.op (.bin .add 0 (.c (.int .i64 2)) (.t 27)), (some 28), none⟩, ⟨.op (.mv (.t 28)), (some 9), none⟩])
 [0, 2, 3, 9]
 (.seq (.reg [⟨.op (.mv (.t 0)), (some 29), none⟩, ⟨.call 16 [(.t 29)], (some 30), none⟩, ⟨.op (.mv (.t 9)), (some 31), none⟩, ⟨.call 49 [(.t 30), (.t 31)], (some 32), none⟩, ⟨.op (.mv (.t 32)), (some 10), none⟩])
 [2, 3, 9, 10]
 (.seq (.drw [⟨⟨.op (.mv (.t 2)), (some 33), none⟩, .n, []⟩, ⟨⟨.op (.conv .i64 (.t 33)), (some 34), none⟩, .n, []⟩, ⟨⟨.op (.mv (.t 9)), (some 35), none⟩, .n, []⟩, ⟨⟨.op (.bin .rem 0 (.t 34) (.t 35)), (some 36), none⟩, .n, []⟩, ⟨⟨.op (.bin .add 0 (.c (.int .i64 1)) (.t 36)), (some 37), none⟩, .n, []⟩, ⟨⟨.op (.mv (.t 3)), (some 38), none⟩, .n, []⟩, ⟨⟨.op (.conv .i64 (.t 38)), (some 39), none⟩, .n, []⟩, ⟨⟨.op (.mv (.t 9)), (some 40), none⟩, .n, []⟩, ⟨⟨.op (.bin .rem 0 (.t 39) (.t 40)), (some 41), none⟩, .n, []⟩, ⟨⟨.op (.bin .add 0 (.c (.int .i64 1)) (.t 41)), (some 42), none⟩, .n, []⟩, ⟨⟨.op (.mv (.t 37)), (some 11), none⟩, .x, [(true, 6)]⟩, ⟨⟨.op (.mv (.t 42)), (some 12), none⟩, .x, []⟩])
 [9, 10, 11, 12]
 (.seq (.seq (.reg [⟨.op (.mv (.t 11)), (some 43), none⟩, ⟨.op (.mv (.t 12)), (some 44), none⟩, ⟨.op (.bin .geq 0 (.t 43) (.t 44)), (some 45), none⟩, ⟨.op (.mv (.t 45)), (some 46), none⟩, ⟨.op (.mv (.t 10)), (some 47), (some (46, false))⟩, ⟨.op (.mv (.t 11)), (some 48), (some (46, false))⟩, ⟨.op (.mv (.t 12)), (some 49), (some (46, false))⟩, ⟨.call 51 [(.t 47), (.t 48), (.t 49)], (some 50), (some (46, false))⟩, ⟨.op (.pick (.t 46) (.c (.bool true)) (.t 50)), (some 51), none⟩])
 [9, 10, 11, 12, 51]
 (.cond (.t 51) (.seq (.reg [⟨.op (.mv (.c (.bool true))), (some 8), none⟩])
 [8]
 (.ret)) (.skip)))
 [9, 10, 11, 12]
 (.seq (.reg [⟨.op (.mv (.c (.sl none 0))), (some 13), none⟩])
 [9, 10, 11, 12, 13]
 (.seq (.reg [⟨.op (.mv (.c (.bool false))), (some 14), none⟩])
 [9, 10, 11, 12, 13, 14]
 (.seq (.seq (.reg [⟨.op (.mv (.c (.int .i64 0))), (some 15), none⟩])
 [9, 10, 11, 12, 13, 14, 15]
 (.block 0 (.loop [9, 10, 11, 12, 13, 14, 15] (l13_0))))
 [9, 10, 11, 12, 13, 14]
 (.seq (.seq (.reg [⟨.op (.mv (.t 14)), (some 100), none⟩, ⟨.op (.not (.t 100)), (some 101), none⟩])
 [9, 10, 11, 12, 13, 101]
 (.cond (.t 101) (.reg [⟨.op (.mv (.t 13)), (some 102), none⟩, ⟨.op (.mv (.t 11)), (some 103), none⟩, ⟨.op (.mv (.t 12)), (some 104), none⟩, ⟨.op (.build [(.int .i64 0), (.int .i64 0)] [(0, 1, (.t 103)), (1, 1, (.t 104))]), (some 105), none⟩, ⟨.op (.bslice 2 1 [(.int .i64 0), (.int .i64 0)] [(0, 2, (.t 105))]), (some 106), none⟩, ⟨.op (.app 2 16 false (.t 102) (.t 106)), (some 107), none⟩, ⟨.op (.mv (.t 107)), (some 13), none⟩]) (.skip)))
 [9, 10, 11, 12, 13]
 (.seq (.seq (.reg [⟨.op (.mv (.c (.int .i64 1))), (some 16), none⟩])
 [9, 10, 11, 12, 13, 16]
 (.block 2 (.frz 13 (.loop [9, 10, 11, 12, 13, 16] (l13_2)))))
 [9, 10, 11, 12, 13]
 (.seq (.reg [⟨.op (.mv (.t 9)), (some 152), none⟩, ⟨.op (.mv (.t 13)), (some 153), none⟩, ⟨.call 53 [(.t 152), (.t 153)], (some 154), none⟩, ⟨.op (.mv (.t 154)), (some 155), none⟩, ⟨.op (.mv (.t 13)), (some 156), (some (155, true))⟩, ⟨.op (.mv (.t 12)), (some 157), (some (155, true))⟩, ⟨.op (.mv (.t 11)), (some 158), (some (155, true))⟩, ⟨.call 51 [(.t 156), (.t 157), (.t 158)], (some 159), (some (155, true))⟩, ⟨.op (.pick (.t 155) (.t 159) (.c (.bool false))), (some 160), none⟩, ⟨.op (.mv (.t 160)), (some 161), none⟩, ⟨.op (.mv (.t 9)), (some 162), (some (161, true))⟩, ⟨.op (.mv (.t 13)), (some 163), (some (161, true))⟩, ⟨.call 52 [(.t 162), (.t 163)], (some 164), (some (161, true))⟩, ⟨.op (.mv (.t 9)), (some 165), (some (161, true))⟩, ⟨.op (.mv (.t 10)), (some 166), (some (161, true))⟩, ⟨.call 52 [(.t 165), (.t 166)], (some 167), (some (161, true))⟩, ⟨.op (.bin .leq 0 (.t 164) (.t 167)), (some 168), (some (161, true))⟩, ⟨.op (.pick (.t 161) (.t 168) (.c (.bool false))), (some 169), none⟩, ⟨.op (.mv (.t 169)), (some 8), none⟩])
 [8]
 (.ret))))))))))))),
 [.tmp 8]⟩
theorem k13 : cFn Try.prog 13 = some c13.toE := by kernel_rfl
theorem w13 : c13.body.wf = true := by kernel_rfl
/-- cardamom/cardamomplay.Made -/
noncomputable def c16 : DFn := ⟨6, .vars,
 .seq (.reg [⟨.op (.mv (.c (.ptr none))), (some 2), none⟩])
 [0]
 (.seq (.reg [⟨.op (.mv (.t 0)), (some 3), none⟩, ⟨.op (.build [(.sl none 0), (.int .i64 0)] [(0, 1, (.t 3))]), (some 4), none⟩, ⟨.op (.box (.t 4)), (some 5), none⟩, ⟨.op (.mv (.t 5)), (some 2), none⟩])
 [2]
 (.ret)),
 [.tmp 2]⟩
theorem k16 : cFn Try.prog 16 = some c16.toE := by kernel_rfl
theorem w16 : c16.body.wf = true := by kernel_rfl
/-- (*cardamom/cardamomplay.Picks).Num -/
noncomputable def c39 : DFn := ⟨40, .vars,
 .seq (.reg [⟨.op (.mv (.c (.int .i64 0))), (some 4), none⟩])
 [0, 1]
 (.seq (.seq (.drw [⟨⟨.op (.mv (.t 0)), (some 5), none⟩, .n, []⟩, ⟨⟨.op (.nilchk (.t 5)), (some 6), none⟩, .n, []⟩, ⟨⟨.op (.fa 1 (.t 6)), (some 7), none⟩, .n, []⟩, ⟨⟨.op (.ld1 (.t 7)), (some 8), none⟩, .n, []⟩, ⟨⟨.op (.mv (.t 0)), (some 9), none⟩, .n, []⟩, ⟨⟨.op (.nilchk (.t 9)), (some 10), none⟩, .n, []⟩, ⟨⟨.op (.fa 0 (.t 10)), (some 11), none⟩, .n, []⟩, ⟨⟨.op (.ld1 (.t 11)), (some 12), none⟩, .n, []⟩, ⟨⟨.op (.len (.t 12)), (some 13), none⟩, .n, []⟩, ⟨⟨.op (.bin .geq 0 (.t 8) (.t 13)), (some 14), none⟩, .n, []⟩, ⟨⟨.op (.mv (.t 14)), (some 15), none⟩, .n, []⟩, ⟨⟨.op (.mv (.t 1)), (some 16), (some (15, false))⟩, .n, []⟩, ⟨⟨.op (.bin .lss 0 (.t 16) (.c (.int .i64 1))), (some 17), (some (15, false))⟩, .n, []⟩, ⟨⟨.op (.pick (.t 15) (.c (.bool true)) (.t 17)), (some 18), none⟩, .n, []⟩])
 [0, 1, 18]
 (.cond (.t 18) (.seq (.reg [⟨.op (.mv (.c (.int .i64 0))), (some 4), none⟩])
 [4]
 (.ret)) (.skip)))
 [0, 1]
 (.seq (.reg [⟨.op (.mv (.t 0)), (some 19), none⟩, ⟨.op (.nilchk (.t 19)), (some 20), none⟩, ⟨.op (.fa 1 (.t 20)), (some 21), none⟩, ⟨.op (.ld1 (.t 21)), (some 22), none⟩, ⟨.op (.bin .add 0 (.t 22) (.c (.int .i64 1))), (some 23), none⟩, ⟨.op (.nilchk (.t 19)), (some 24), none⟩, ⟨.op (.fa 1 (.t 24)), (some 25), none⟩, ⟨.op (.st 1 (.t 25) (.t 23)), none, none⟩])
 [0, 1]
 (.seq (.drw [⟨⟨.op (.mv (.t 0)), (some 26), none⟩, .n, []⟩, ⟨⟨.op (.nilchk (.t 26)), (some 27), none⟩, .n, []⟩, ⟨⟨.op (.fa 0 (.t 27)), (some 28), none⟩, .n, []⟩, ⟨⟨.op (.ld1 (.t 28)), (some 29), none⟩, .n, []⟩, ⟨⟨.op (.mv (.t 0)), (some 30), none⟩, .n, []⟩, ⟨⟨.op (.nilchk (.t 30)), (some 31), none⟩, .n, []⟩, ⟨⟨.op (.fa 1 (.t 31)), (some 32), none⟩, .n, []⟩, ⟨⟨.op (.ld1 (.t 32)), (some 33), none⟩, .n, []⟩, ⟨⟨.op (.bin .sub 0 (.t 33) (.c (.int .i64 1))), (some 34), none⟩, .n, []⟩, ⟨⟨.op (.ia 1 none (.t 29) (.t 34)), (some 35), none⟩, .n, []⟩, ⟨⟨.op (.ld1 (.t 35)), (some 36), none⟩, .n, []⟩, ⟨⟨.op (.conv .i64 (.t 36)), (some 37), none⟩, .n, []⟩, ⟨⟨.op (.mv (.t 1)), (some 38), none⟩, .n, []⟩, ⟨⟨.op (.bin .rem 0 (.t 37) (.t 38)), (some 39), none⟩, .n, []⟩, ⟨⟨.op (.mv (.t 39)), (some 4), none⟩, .x, []⟩])
 [4]
 (.ret)))),
 [.tmp 4]⟩
theorem k39 : cFn Try.prog 39 = some c39.toE := by kernel_rfl
theorem w39 : c39.body.wf = true := by kernel_rfl
noncomputable def l49_0 : DC :=
 .seq (.seq (.reg [⟨.op (.mv (.t 6)), (some 10), none⟩, ⟨.op (.mv (.t 1)), (some 11), none⟩, ⟨.op (.bin .leq 0 (.t 10) (.t 11)), (some 12), none⟩])
 [0, 1, 5, 6, 12]
 (.cond (.t 12) (.skip) (.exit 0)))
 [0, 1, 5, 6]
 (.seq (.block 1 (.reg [⟨.op (.mv (.t 5)), (some 15), none⟩, ⟨.op (.mv (.t 0)), (some 16), none⟩, ⟨.op (.mv (.t 6)), (some 17), none⟩, ⟨.op (.bin .sub 0 (.t 17) (.c (.int .i64 1))), (some 18), none⟩, ⟨.call 39 [(.t 16), (.t 18)], (some 19), none⟩, ⟨.op (.bin .add 0 (.c (.int .i64 1)) (.t 19)), (some 20), none⟩, ⟨.op (.mv (.t 6)), (some 21), none⟩, ⟨.op (.build [(.int .i64 0), (.int .i64 0)] [(0, 1, (.t 20)), (1, 1, (.t 21))]), (some 22), none⟩, ⟨.call 78 [(.t 15), (.t 22)], (some 23), none⟩, ⟨.op (.mv (.t 23)), (some 5), none⟩]))
 [0, 1, 5, 6]
 (.reg [⟨.op (.mv (.t 6)), (some 13), none⟩, ⟨.op (.bin .add 0 (.t 13) (.c (.int .i64 1))), (some 14), none⟩, ⟨.op (.mv (.t 14)), (some 6), none⟩]))
theorem u49_0 (call : DCall) (T : Tm) (st : Dv.St) : dCw Try.prog call l49_0 T st = dCw Try.prog call
 (.seq (.seq (.reg [⟨.op (.mv (.t 6)), (some 10), none⟩, ⟨.op (.mv (.t 1)), (some 11), none⟩, ⟨.op (.bin .leq 0 (.t 10) (.t 11)), (some 12), none⟩])
 [0, 1, 5, 6, 12]
 (.cond (.t 12) (.skip) (.exit 0)))
 [0, 1, 5, 6]
 (.seq (.block 1 (.reg [⟨.op (.mv (.t 5)), (some 15), none⟩, ⟨.op (.mv (.t 0)), (some 16), none⟩, ⟨.op (.mv (.t 6)), (some 17), none⟩, ⟨.op (.bin .sub 0 (.t 17) (.c (.int .i64 1))), (some 18), none⟩, ⟨.call 39 [(.t 16), (.t 18)], (some 19), none⟩, ⟨.op (.bin .add 0 (.c (.int .i64 1)) (.t 19)), (some 20), none⟩, ⟨.op (.mv (.t 6)), (some 21), none⟩, ⟨.op (.build [(.int .i64 0), (.int .i64 0)] [(0, 1, (.t 20)), (1, 1, (.t 21))]), (some 22), none⟩, ⟨.call 78 [(.t 15), (.t 22)], (some 23), none⟩, ⟨.op (.mv (.t 23)), (some 5), none⟩]))
 [0, 1, 5, 6]
 (.reg [⟨.op (.mv (.t 6)), (some 13), none⟩, ⟨.op (.bin .add 0 (.t 13) (.c (.int .i64 1))), (some 14), none⟩, ⟨.op (.mv (.t 14)), (some 6), none⟩]))) T st := rfl
noncomputable def l49_1 : DC :=
 .seq (.seq (.reg [⟨.op (.mv (.t 7)), (some 26), none⟩, ⟨.op (.bin .gtr 0 (.t 26) (.c (.int .i64 0))), (some 27), none⟩, ⟨.op (.mv (.t 27)), (some 28), none⟩, ⟨.op (.mv (.t 1)), (some 29), (some (28, true))⟩, ⟨.op (.bin .gtr 0 (.t 29) (.c (.int .i64 2))), (some 30), (some (28, true))⟩, ⟨.op (.pick (.t 28) (.t 30) (.c (.bool false))), (some 31), none⟩])
 [0, 1, 5, 7, 31]
 (.cond (.t 31) (.skip) (.exit 2)))
 [0, 1, 5, 7]
 (.seq (.block 3 (.seq (.reg [⟨.op (.mv (.t 0)), (some 34), none⟩, ⟨.op (.mv (.t 1)), (some 35), none⟩, ⟨.call 39 [(.t 34), (.t 35)], (some 36), none⟩, ⟨.op (.bin .add 0 (.c (.int .i64 1)) (.t 36)), (some 37), none⟩, ⟨.op (.mv (.t 0)), (some 38), none⟩, ⟨.op (.mv (.t 1)), (some 39), none⟩, ⟨.call 39 [(.t 38), (.t 39)], (some 40), none⟩, ⟨.op (.bin .add 0 (.c (.int .i64 1)) (.t 40)), (some 41), none⟩, ⟨.op (.mv (.t 37)), (some 8), none⟩, ⟨.op (.mv (.t 41)), (some 9), none⟩])
 [0, 1, 5, 7, 8, 9]
 (.seq (.reg [⟨.op (.mv (.t 8)), (some 42), none⟩, ⟨.op (.mv (.t 9)), (some 43), none⟩, ⟨.op (.bin .neq 0 (.t 42) (.t 43)), (some 44), none⟩])
 [0, 1, 5, 7, 8, 9, 44]
 (.cond (.t 44) (.reg [⟨.op (.mv (.t 5)), (some 45), none⟩, ⟨.op (.mv (.t 8)), (some 46), none⟩, ⟨.op (.mv (.t 9)), (some 47), none⟩, ⟨.op (.slow (operAt Try.prog 49 44)), (some 48), none⟩, ⟨.op (.mv (.t 8)), (some 49), none⟩, ⟨.op (.mv (.t 9)), (some 50), none⟩, ⟨.op (.slow (operAt Try.prog 49 47)), (some 51), none⟩, ⟨.op (.build [(.int .i64 0), (.int .i64 0)] [(0, 1, (.t 48)), (1, 1, (.t 51))]), (some 52), none⟩, ⟨.call 78 [(.t 45), (.t 52)], (some 53), none⟩, ⟨.op (.mv (.t 53)), (some 5), none⟩]) (.skip)))))
 [0, 1, 5, 7]
 (.reg [⟨.op (.mv (.t 7)), (some 32), none⟩, ⟨.op (.bin .sub 0 (.t 32) (.c (.int .i64 1))), (some 33), none⟩, ⟨.op (.mv (.t 33)), (some 7), none⟩]))
theorem u49_1 (call : DCall) (T : Tm) (st : Dv.St) : dCw Try.prog call l49_1 T st = dCw Try.prog call
 (.seq (.seq (.reg [⟨.op (.mv (.t 7)), (some 26), none⟩, ⟨.op (.bin .gtr 0 (.t 26) (.c (.int .i64 0))), (some 27), none⟩, ⟨.op (.mv (.t 27)), (some 28), none⟩, ⟨.op (.mv (.t 1)), (some 29), (some (28, true))⟩, ⟨.op (.bin .gtr 0 (.t 29) (.c (.int .i64 2))), (some 30), (some (28, true))⟩, ⟨.op (.pick (.t 28) (.t 30) (.c (.bool false))), (some 31), none⟩])
 [0, 1, 5, 7, 31]
 (.cond (.t 31) (.skip) (.exit 2)))
 [0, 1, 5, 7]
 (.seq (.block 3 (.seq (.reg [⟨.op (.mv (.t 0)), (some 34), none⟩, ⟨.op (.mv (.t 1)), (some 35), none⟩, ⟨.call 39 [(.t 34), (.t 35)], (some 36), none⟩, ⟨.op (.bin .add 0 (.c (.int .i64 1)) (.t 36)), (some 37), none⟩, ⟨.op (.mv (.t 0)), (some 38), none⟩, ⟨.op (.mv (.t 1)), (some 39), none⟩, ⟨.call 39 [(.t 38), (.t 39)], (some 40), none⟩, ⟨.op (.bin .add 0 (.c (.int .i64 1)) (.t 40)), (some 41), none⟩, ⟨.op (.mv (.t 37)), (some 8), none⟩, ⟨.op (.mv (.t 41)), (some 9), none⟩])
 [0, 1, 5, 7, 8, 9]
 (.seq (.reg [⟨.op (.mv (.t 8)), (some 42), none⟩, ⟨.op (.mv (.t 9)), (some 43), none⟩, ⟨.op (.bin .neq 0 (.t 42) (.t 43)), (some 44), none⟩])
 [0, 1, 5, 7, 8, 9, 44]
 (.cond (.t 44) (.reg [⟨.op (.mv (.t 5)), (some 45), none⟩, ⟨.op (.mv (.t 8)), (some 46), none⟩, ⟨.op (.mv (.t 9)), (some 47), none⟩, ⟨.op (.slow (operAt Try.prog 49 44)), (some 48), none⟩, ⟨.op (.mv (.t 8)), (some 49), none⟩, ⟨.op (.mv (.t 9)), (some 50), none⟩, ⟨.op (.slow (operAt Try.prog 49 47)), (some 51), none⟩, ⟨.op (.build [(.int .i64 0), (.int .i64 0)] [(0, 1, (.t 48)), (1, 1, (.t 51))]), (some 52), none⟩, ⟨.call 78 [(.t 45), (.t 52)], (some 53), none⟩, ⟨.op (.mv (.t 53)), (some 5), none⟩]) (.skip)))))
 [0, 1, 5, 7]
 (.reg [⟨.op (.mv (.t 7)), (some 32), none⟩, ⟨.op (.bin .sub 0 (.t 32) (.c (.int .i64 1))), (some 33), none⟩, ⟨.op (.mv (.t 33)), (some 7), none⟩]))) T st := rfl
/-- (*cardamom/cardamomplay.Picks).Edges -/
noncomputable def c49 : DFn := ⟨55, .vars,
 .seq (.reg [⟨.op (.mv (.c (.sl none 0))), (some 4), none⟩])
 [0, 1]
 (.seq (.reg [⟨.op (.mv (.c (.sl none 0))), (some 5), none⟩])
 [0, 1, 5]
 (.seq (.seq (.reg [⟨.op (.mv (.c (.int .i64 2))), (some 6), none⟩])
 [0, 1, 5, 6]
 (.block 0 (.loop [0, 1, 5, 6] (l49_0))))
 [0, 1, 5]
 (.seq (.seq (.reg [⟨.op (.mv (.t 0)), (some 24), none⟩, ⟨.call 39 [(.t 24), (.c (.int .i64 3))], (some 25), none⟩, ⟨.op (.mv (.t 25)), (some 7), none⟩])
 [0, 1, 5, 7]
 (.block 2 (.loop [0, 1, 5, 7] (l49_1))))
 [5]
 (.seq (.reg [⟨.op (.mv (.t 5)), (some 54), none⟩, ⟨.op (.mv (.t 54)), (some 4), none⟩])
 [4]
 (.ret))))),
 [.tmp 4]⟩
theorem k49 : cFn Try.prog 49 = some c49.toE := by kernel_rfl
theorem w49 : c49.body.wf = true := by kernel_rfl
noncomputable def l78_0 : DC :=
 .seq (.seq (.reg [⟨.op (.mv (.t 7)), (some 8), none⟩, ⟨.op (.mv (.t 0)), (some 9), none⟩, ⟨.op (.len (.t 9)), (some 10), none⟩, ⟨.op (.bin .lss 0 (.t 8) (.t 10)), (some 11), none⟩])
 [0, 3, 5, 6, 7, 11]
 (.cond (.t 11) (.skip) (.exit 0)))
 [0, 3, 5, 6, 7]
 (.seq (.block 1 (.seq (.seq (.drw [⟨⟨.op (.mv (.t 0)), (some 14), none⟩, .n, []⟩, ⟨⟨.op (.mv (.t 7)), (some 15), none⟩, .n, []⟩, ⟨⟨.op (.ia 2 none (.t 14) (.t 15)), (some 16), none⟩, .n, []⟩, ⟨⟨.op (.ldn 2 (.t 16)), (some 17), none⟩, .n, []⟩, ⟨⟨.op (.ldn 2 (.t 3)), (some 18), none⟩, .n, []⟩, ⟨⟨.op (.slow (operAt Try.prog 78 14)), (some 19), none⟩, .n, []⟩])
 [0, 3, 5, 6, 7, 19]
 (.cond (.t 19) (.seq (.reg [⟨.op (.mv (.t 0)), (some 20), none⟩, ⟨.op (.mv (.t 20)), (some 4), none⟩])
 [4]
 (.ret)) (.skip)))
 [0, 3, 5, 6, 7]
 (.seq (.seq (.drw [⟨⟨.op (.mv (.t 6)), (some 21), none⟩, .n, []⟩, ⟨⟨.op (.not (.t 21)), (some 22), none⟩, .n, []⟩, ⟨⟨.op (.mv (.t 22)), (some 23), none⟩, .n, []⟩, ⟨⟨.op (.mv (.t 0)), (some 24), (some (23, true))⟩, .n, []⟩, ⟨⟨.op (.mv (.t 7)), (some 25), (some (23, true))⟩, .n, []⟩, ⟨⟨.op (.ia 2 none (.t 24) (.t 25)), (some 26), (some (23, true))⟩, .n, []⟩, ⟨⟨.op (.ia 1 (some 2) (.t 26) (.c (.int .i64 0))), (some 27), (some (23, true))⟩, .n, []⟩, ⟨⟨.op (.ld1 (.t 27)), (some 28), (some (23, true))⟩, .n, []⟩, ⟨⟨.op (.ia 1 (some 2) (.t 3) (.c (.int .i64 0))), (some 29), (some (23, true))⟩, .n, []⟩, ⟨⟨.op (.ld1 (.t 29)), (some 30), (some (23, true))⟩, .n, []⟩, ⟨⟨.op (.bin .gtr 0 (.t 28) (.t 30)), (some 31), (some (23, true))⟩, .n, []⟩, ⟨⟨.op (.mv (.t 31)), (some 32), (some (23, true))⟩, .n, []⟩, ⟨⟨.op (.mv (.t 0)), (some 33), (some (32, false))⟩, .n, []⟩, ⟨⟨.op (.mv (.t 7)), (some 34), (some (32, false))⟩, .n, []⟩, ⟨⟨.op (.ia 2 none (.t 33) (.t 34)), (some 35), (some (32, false))⟩, .n, []⟩, ⟨⟨.op (.ia 1 (some 2) (.t 35) (.c (.int .i64 0))), (some 36), (some (32, false))⟩, .n, []⟩, ⟨⟨.op (.ld1 (.t 36)), (some 37), (some (32, false))⟩, .n, []⟩, ⟨⟨.op (.ia 1 (some 2) (.t 3) (.c (.int .i64 0))), (some 38), (some (32, false))⟩, .n, []⟩, ⟨⟨.op (.ld1 (.t 38)), (some 39), (some (32, false))⟩, .n, []⟩, ⟨⟨.op (.bin .eql 0 (.t 37) (.t 39)), (some 40), (some (32, false))⟩, .n, []⟩, ⟨⟨.op (.mv (.t 40)), (some 41), (some (32, false))⟩, .n, []⟩, ⟨⟨.op (.mv (.t 0)), (some 42), (some (41, true))⟩, .n, []⟩, ⟨⟨.op (.mv (.t 7)), (some 43), (some (41, true))⟩, .n, []⟩, ⟨⟨.op (.ia 2 none (.t 42) (.t 43)), (some 44), (some (41, true))⟩, .n, []⟩, ⟨⟨.op (.ia 1 (some 2) (.t 44) (.c (.int .i64 1))), (some 45), (some (41, true))⟩, .n, []⟩, ⟨⟨.op (.ld1 (.t 45)), (some 46), (some (41, true))⟩, .n, []⟩, ⟨⟨.op (.ia 1 (some 2) (.t 3) (.c (.int .i64 1))), (some 47), (some (41, true))⟩, .n, []⟩, ⟨⟨.op (.ld1 (.t 47)), (some 48), (some (41, true))⟩, .n, []⟩, ⟨⟨.op (.bin .gtr 0 (.t 46) (.t 48)), (some 49), (some (41, true))⟩, .n, []⟩, ⟨⟨.op (.pick (.t 41) (.t 49) (.c (.bool false))), (some 50), (some (32, false))⟩, .n, []⟩, ⟨⟨.op (.pick (.t 32) (.c (.bool true)) (.t 50)), (some 51), (some (23, true))⟩, .n, []⟩, ⟨⟨.op (.pick (.t 23) (.t 51) (.c (.bool false))), (some 52), none⟩, .n, []⟩])
 [0, 3, 5, 6, 7, 52]
 (.cond (.t 52) (.reg [⟨.op (.mv (.t 5)), (some 53), none⟩, ⟨.op (.ldn 2 (.t 3)), (some 54), none⟩, ⟨.op (.bslice 2 1 [(.int .i64 0), (.int .i64 0)] [(0, 2, (.t 54))]), (some 55), none⟩, ⟨.op (.app 2 16 false (.t 53) (.t 55)), (some 56), none⟩, ⟨.op (.mv (.t 56)), (some 5), none⟩, ⟨.op (.mv (.c (.bool true))), (some 6), none⟩]) (.skip)))
 [0, 3, 5, 6, 7]
 (.reg [⟨.op (.mv (.t 5)), (some 57), none⟩, ⟨.op (.mv (.t 0)), (some 58), none⟩, ⟨.op (.mv (.t 7)), (some 59), none⟩, ⟨.op (.ia 2 none (.t 58) (.t 59)), (some 60), none⟩, ⟨.op (.ldn 2 (.t 60)), (some 61), none⟩, ⟨.op (.bslice 2 1 [(.int .i64 0), (.int .i64 0)] [(0, 2, (.t 61))]), (some 62), none⟩, ⟨.op (.app 2 16 false (.t 57) (.t 62)), (some 63), none⟩, ⟨.op (.mv (.t 63)), (some 5), none⟩]))))
 [0, 3, 5, 6, 7]
 (.reg [⟨.op (.mv (.t 7)), (some 12), none⟩, ⟨.op (.bin .add 0 (.t 12) (.c (.int .i64 1))), (some 13), none⟩, ⟨.op (.mv (.t 13)), (some 7), none⟩]))
theorem u78_0 (call : DCall) (T : Tm) (st : Dv.St) : dCw Try.prog call l78_0 T st = dCw Try.prog call
 (.seq (.seq (.reg [⟨.op (.mv (.t 7)), (some 8), none⟩, ⟨.op (.mv (.t 0)), (some 9), none⟩, ⟨.op (.len (.t 9)), (some 10), none⟩, ⟨.op (.bin .lss 0 (.t 8) (.t 10)), (some 11), none⟩])
 [0, 3, 5, 6, 7, 11]
 (.cond (.t 11) (.skip) (.exit 0)))
 [0, 3, 5, 6, 7]
 (.seq (.block 1 (.seq (.seq (.drw [⟨⟨.op (.mv (.t 0)), (some 14), none⟩, .n, []⟩, ⟨⟨.op (.mv (.t 7)), (some 15), none⟩, .n, []⟩, ⟨⟨.op (.ia 2 none (.t 14) (.t 15)), (some 16), none⟩, .n, []⟩, ⟨⟨.op (.ldn 2 (.t 16)), (some 17), none⟩, .n, []⟩, ⟨⟨.op (.ldn 2 (.t 3)), (some 18), none⟩, .n, []⟩, ⟨⟨.op (.slow (operAt Try.prog 78 14)), (some 19), none⟩, .n, []⟩])
 [0, 3, 5, 6, 7, 19]
 (.cond (.t 19) (.seq (.reg [⟨.op (.mv (.t 0)), (some 20), none⟩, ⟨.op (.mv (.t 20)), (some 4), none⟩])
 [4]
 (.ret)) (.skip)))
 [0, 3, 5, 6, 7]
 (.seq (.seq (.drw [⟨⟨.op (.mv (.t 6)), (some 21), none⟩, .n, []⟩, ⟨⟨.op (.not (.t 21)), (some 22), none⟩, .n, []⟩, ⟨⟨.op (.mv (.t 22)), (some 23), none⟩, .n, []⟩, ⟨⟨.op (.mv (.t 0)), (some 24), (some (23, true))⟩, .n, []⟩, ⟨⟨.op (.mv (.t 7)), (some 25), (some (23, true))⟩, .n, []⟩, ⟨⟨.op (.ia 2 none (.t 24) (.t 25)), (some 26), (some (23, true))⟩, .n, []⟩, ⟨⟨.op (.ia 1 (some 2) (.t 26) (.c (.int .i64 0))), (some 27), (some (23, true))⟩, .n, []⟩, ⟨⟨.op (.ld1 (.t 27)), (some 28), (some (23, true))⟩, .n, []⟩, ⟨⟨.op (.ia 1 (some 2) (.t 3) (.c (.int .i64 0))), (some 29), (some (23, true))⟩, .n, []⟩, ⟨⟨.op (.ld1 (.t 29)), (some 30), (some (23, true))⟩, .n, []⟩, ⟨⟨.op (.bin .gtr 0 (.t 28) (.t 30)), (some 31), (some (23, true))⟩, .n, []⟩, ⟨⟨.op (.mv (.t 31)), (some 32), (some (23, true))⟩, .n, []⟩, ⟨⟨.op (.mv (.t 0)), (some 33), (some (32, false))⟩, .n, []⟩, ⟨⟨.op (.mv (.t 7)), (some 34), (some (32, false))⟩, .n, []⟩, ⟨⟨.op (.ia 2 none (.t 33) (.t 34)), (some 35), (some (32, false))⟩, .n, []⟩, ⟨⟨.op (.ia 1 (some 2) (.t 35) (.c (.int .i64 0))), (some 36), (some (32, false))⟩, .n, []⟩, ⟨⟨.op (.ld1 (.t 36)), (some 37), (some (32, false))⟩, .n, []⟩, ⟨⟨.op (.ia 1 (some 2) (.t 3) (.c (.int .i64 0))), (some 38), (some (32, false))⟩, .n, []⟩, ⟨⟨.op (.ld1 (.t 38)), (some 39), (some (32, false))⟩, .n, []⟩, ⟨⟨.op (.bin .eql 0 (.t 37) (.t 39)), (some 40), (some (32, false))⟩, .n, []⟩, ⟨⟨.op (.mv (.t 40)), (some 41), (some (32, false))⟩, .n, []⟩, ⟨⟨.op (.mv (.t 0)), (some 42), (some (41, true))⟩, .n, []⟩, ⟨⟨.op (.mv (.t 7)), (some 43), (some (41, true))⟩, .n, []⟩, ⟨⟨.op (.ia 2 none (.t 42) (.t 43)), (some 44), (some (41, true))⟩, .n, []⟩, ⟨⟨.op (.ia 1 (some 2) (.t 44) (.c (.int .i64 1))), (some 45), (some (41, true))⟩, .n, []⟩, ⟨⟨.op (.ld1 (.t 45)), (some 46), (some (41, true))⟩, .n, []⟩, ⟨⟨.op (.ia 1 (some 2) (.t 3) (.c (.int .i64 1))), (some 47), (some (41, true))⟩, .n, []⟩, ⟨⟨.op (.ld1 (.t 47)), (some 48), (some (41, true))⟩, .n, []⟩, ⟨⟨.op (.bin .gtr 0 (.t 46) (.t 48)), (some 49), (some (41, true))⟩, .n, []⟩, ⟨⟨.op (.pick (.t 41) (.t 49) (.c (.bool false))), (some 50), (some (32, false))⟩, .n, []⟩, ⟨⟨.op (.pick (.t 32) (.c (.bool true)) (.t 50)), (some 51), (some (23, true))⟩, .n, []⟩, ⟨⟨.op (.pick (.t 23) (.t 51) (.c (.bool false))), (some 52), none⟩, .n, []⟩])
 [0, 3, 5, 6, 7, 52]
 (.cond (.t 52) (.reg [⟨.op (.mv (.t 5)), (some 53), none⟩, ⟨.op (.ldn 2 (.t 3)), (some 54), none⟩, ⟨.op (.bslice 2 1 [(.int .i64 0), (.int .i64 0)] [(0, 2, (.t 54))]), (some 55), none⟩, ⟨.op (.app 2 16 false (.t 53) (.t 55)), (some 56), none⟩, ⟨.op (.mv (.t 56)), (some 5), none⟩, ⟨.op (.mv (.c (.bool true))), (some 6), none⟩]) (.skip)))
 [0, 3, 5, 6, 7]
 (.reg [⟨.op (.mv (.t 5)), (some 57), none⟩, ⟨.op (.mv (.t 0)), (some 58), none⟩, ⟨.op (.mv (.t 7)), (some 59), none⟩, ⟨.op (.ia 2 none (.t 58) (.t 59)), (some 60), none⟩, ⟨.op (.ldn 2 (.t 60)), (some 61), none⟩, ⟨.op (.bslice 2 1 [(.int .i64 0), (.int .i64 0)] [(0, 2, (.t 61))]), (some 62), none⟩, ⟨.op (.app 2 16 false (.t 57) (.t 62)), (some 63), none⟩, ⟨.op (.mv (.t 63)), (some 5), none⟩]))))
 [0, 3, 5, 6, 7]
 (.reg [⟨.op (.mv (.t 7)), (some 12), none⟩, ⟨.op (.bin .add 0 (.t 12) (.c (.int .i64 1))), (some 13), none⟩, ⟨.op (.mv (.t 13)), (some 7), none⟩]))) T st := rfl
/-- cardamom/cardamomplay.joined -/
noncomputable def c78 : DFn := ⟨71, .pure,
 .seq (.reg [⟨.op (.box (.t 1)), (some 3), none⟩, ⟨.op (.mv (.c (.sl none 0))), (some 4), none⟩])
 [0, 3]
 (.seq (.reg [⟨.op (.mv (.c (.sl none 0))), (some 5), none⟩])
 [0, 3, 5]
 (.seq (.reg [⟨.op (.mv (.c (.bool false))), (some 6), none⟩])
 [0, 3, 5, 6]
 (.seq (.seq (.reg [⟨.op (.mv (.c (.int .i64 0))), (some 7), none⟩])
 [0, 3, 5, 6, 7]
 (.block 0 (.loop [0, 3, 5, 6, 7] (l78_0))))
 [3, 5, 6]
 (.seq (.seq (.reg [⟨.op (.mv (.t 6)), (some 64), none⟩, ⟨.op (.not (.t 64)), (some 65), none⟩])
 [3, 5, 65]
 (.cond (.t 65) (.reg [⟨.op (.mv (.t 5)), (some 66), none⟩, ⟨.op (.ldn 2 (.t 3)), (some 67), none⟩, ⟨.op (.bslice 2 1 [(.int .i64 0), (.int .i64 0)] [(0, 2, (.t 67))]), (some 68), none⟩, ⟨.op (.app 2 16 false (.t 66) (.t 68)), (some 69), none⟩, ⟨.op (.mv (.t 69)), (some 5), none⟩]) (.skip)))
 [5]
 (.seq (.reg [⟨.op (.mv (.t 5)), (some 70), none⟩, ⟨.op (.mv (.t 70)), (some 4), none⟩])
 [4]
 (.ret)))))),
 [.tmp 4]⟩
theorem k78 : cFn Try.prog 78 = some c78.toE := by kernel_rfl
theorem w78 : c78.body.wf = true := by kernel_rfl
/-- cardamom/topo.Steps -/
noncomputable def c50 : DFn := ⟨24, .pure,
 .seq (.reg [⟨.op (.mv (.c (.sl none 0))), (some 6), none⟩])
 [0, 1, 2]
 (.seq (.seq (.reg [⟨.op (.mv (.t 0)), (some 7), none⟩, ⟨.op (.mv (.t 1)), (some 8), none⟩, ⟨.call 53 [(.t 7), (.t 8)], (some 9), none⟩, ⟨.op (.not (.t 9)), (some 10), none⟩, ⟨.op (.mv (.t 10)), (some 11), none⟩, ⟨.op (.mv (.t 2)), (some 12), (some (11, false))⟩, ⟨.op (.bin .lss 0 (.t 12) (.c (.int .i64 1))), (some 13), (some (11, false))⟩, ⟨.op (.pick (.t 11) (.c (.bool true)) (.t 13)), (some 14), none⟩, ⟨.op (.mv (.t 14)), (some 15), none⟩, ⟨.op (.mv (.t 2)), (some 16), (some (15, false))⟩, ⟨.op (.mv (.t 0)), (some 17), (some (15, false))⟩, ⟨.op (.bin .gtr 0 (.t 16) (.t 17)), (some 18), (some (15, false))⟩, ⟨.op (.pick (.t 15) (.c (.bool true)) (.t 18)), (some 19), none⟩])
 [0, 1, 2, 19]
 (.cond (.t 19) (.seq (.reg [⟨.op (.mv (.c (.sl none 0))), (some 6), none⟩])
 [6]
 (.ret)) (.skip)))
 [0, 1, 2]
 (.seq (.reg [⟨.op (.mv (.t 0)), (some 20), none⟩, ⟨.op (.mv (.t 1)), (some 21), none⟩, ⟨.op (.mv (.t 2)), (some 22), none⟩, ⟨.call 79 [(.t 20), (.t 21), (.t 22)], (some 23), none⟩, ⟨.op (.mv (.t 23)), (some 6), none⟩])
 [6]
 (.ret))),
 [.tmp 6]⟩
theorem k50 : cFn Try.prog 50 = some c50.toE := by kernel_rfl
theorem w50 : c50.body.wf = true := by kernel_rfl
/-- cardamom/topo.Beside -/
noncomputable def c51 : DFn := ⟨19, .pure,
 .seq (.reg [⟨.op (.mv (.c (.bool false))), (some 6), none⟩])
 [0, 1, 2]
 (.seq (.reg [⟨.op (.mv (.t 0)), (some 7), none⟩, ⟨.op (.mv (.t 1)), (some 8), none⟩, ⟨.op (.mv (.t 2)), (some 9), none⟩, ⟨.op (.build [(.int .i64 0), (.int .i64 0)] [(0, 1, (.t 8)), (1, 1, (.t 9))]), (some 10), none⟩, ⟨.call 80 [(.t 7), (.t 10)], (some 11), none⟩, ⟨.op (.mv (.t 11)), (some 12), none⟩, ⟨.op (.mv (.t 0)), (some 13), (some (12, false))⟩, ⟨.op (.mv (.t 2)), (some 14), (some (12, false))⟩, ⟨.op (.mv (.t 1)), (some 15), (some (12, false))⟩, ⟨.op (.build [(.int .i64 0), (.int .i64 0)] [(0, 1, (.t 14)), (1, 1, (.t 15))]), (some 16), (some (12, false))⟩, ⟨.call 80 [(.t 13), (.t 16)], (some 17), (some (12, false))⟩, ⟨.op (.pick (.t 12) (.c (.bool true)) (.t 17)), (some 18), none⟩, ⟨.op (.mv (.t 18)), (some 6), none⟩])
 [6]
 (.ret)),
 [.tmp 6]⟩
theorem k51 : cFn Try.prog 51 = some c51.toE := by kernel_rfl
theorem w51 : c51.body.wf = true := by kernel_rfl
noncomputable def l52_0 : DC :=
 .seq (.reg [⟨.op (.bin .lss 0 (.t 11) (.t 10)), (some 12), none⟩])
 [0, 1, 4, 10, 11, 12]
 (.seq (.cond (.t 12) (.skip) (.exit 0))
 [0, 1, 4, 10, 11]
 (.seq (.block 1 (.seq (.reg [⟨.op (.mv (.t 11)), (some 13), none⟩, ⟨.op (.mv (.t 13)), (some 5), none⟩])
 [0, 1, 4, 5, 10, 11]
 (.reg [⟨.op (.mv (.t 4)), (some 14), none⟩, ⟨.op (.mv (.t 0)), (some 15), none⟩, ⟨.op (.mv (.t 1)), (some 16), none⟩, ⟨.op (.mv (.t 5)), (some 17), none⟩, ⟨.op (.bin .add 0 (.t 17) (.c (.int .i64 1))), (some 18), none⟩, ⟨.call 79 [(.t 15), (.t 16), (.t 18)], (some 19), none⟩, ⟨.call 81 [(.t 19)], (some 20), none⟩, ⟨.op (.slow (operAt Try.prog 52 18)), (some 21), none⟩, ⟨.op (.mv (.t 21)), (some 4), none⟩])))
 [0, 1, 4, 10, 11]
 (.reg [⟨.op (.bin .add 0 (.t 11) (.c (.int .i64 1))), (some 22), none⟩, ⟨.op (.mv (.t 22)), (some 11), none⟩])))
theorem u52_0 (call : DCall) (T : Tm) (st : Dv.St) : dCw Try.prog call l52_0 T st = dCw Try.prog call
 (.seq (.reg [⟨.op (.bin .lss 0 (.t 11) (.t 10)), (some 12), none⟩])
 [0, 1, 4, 10, 11, 12]
 (.seq (.cond (.t 12) (.skip) (.exit 0))
 [0, 1, 4, 10, 11]
 (.seq (.block 1 (.seq (.reg [⟨.op (.mv (.t 11)), (some 13), none⟩, ⟨.op (.mv (.t 13)), (some 5), none⟩])
 [0, 1, 4, 5, 10, 11]
 (.reg [⟨.op (.mv (.t 4)), (some 14), none⟩, ⟨.op (.mv (.t 0)), (some 15), none⟩, ⟨.op (.mv (.t 1)), (some 16), none⟩, ⟨.op (.mv (.t 5)), (some 17), none⟩, ⟨.op (.bin .add 0 (.t 17) (.c (.int .i64 1))), (some 18), none⟩, ⟨.call 79 [(.t 15), (.t 16), (.t 18)], (some 19), none⟩, ⟨.call 81 [(.t 19)], (some 20), none⟩, ⟨.op (.slow (operAt Try.prog 52 18)), (some 21), none⟩, ⟨.op (.mv (.t 21)), (some 4), none⟩])))
 [0, 1, 4, 10, 11]
 (.reg [⟨.op (.bin .add 0 (.t 11) (.c (.int .i64 1))), (some 22), none⟩, ⟨.op (.mv (.t 22)), (some 11), none⟩])))) T st := rfl
/-- cardamom/topo.Wide -/
noncomputable def c52 : DFn := ⟨24, .pure,
 .seq (.reg [⟨.op (.mv (.c (.int .i64 0))), (some 4), none⟩])
 [0, 1, 4]
 (.seq (.seq (.reg [⟨.op (.mv (.t 0)), (some 6), none⟩, ⟨.op (.mv (.t 1)), (some 7), none⟩, ⟨.call 53 [(.t 6), (.t 7)], (some 8), none⟩, ⟨.op (.not (.t 8)), (some 9), none⟩])
 [0, 1, 4, 9]
 (.cond (.t 9) (.seq (.reg [⟨.op (.mv (.c (.int .i64 0))), (some 4), none⟩])
 [4]
 (.ret)) (.skip)))
 [0, 1, 4]
 (.seq (.seq (.reg [⟨.op (.mv (.t 0)), (some 10), none⟩, ⟨.op (.mv (.c (.int .i64 0))), (some 11), none⟩])
 [0, 1, 4, 10, 11]
 (.block 0 (.loop [0, 1, 4, 10, 11] (l52_0))))
 [4]
 (.seq (.reg [⟨.op (.mv (.t 4)), (some 23), none⟩, ⟨.op (.mv (.t 23)), (some 4), none⟩])
 [4]
 (.ret)))),
 [.tmp 4]⟩
theorem k52 : cFn Try.prog 52 = some c52.toE := by kernel_rfl
theorem w52 : c52.body.wf = true := by kernel_rfl
/-- cardamom/topo.May -/
noncomputable def c53 : DFn := ⟨15, .pure,
 .seq (.reg [⟨.op (.mv (.c (.bool false))), (some 4), none⟩])
 [0, 1]
 (.seq (.reg [⟨.op (.mv (.t 0)), (some 5), none⟩, ⟨.op (.mv (.t 1)), (some 6), none⟩, ⟨.call 82 [(.t 5), (.t 6)], (some 7), none⟩, ⟨.op (.mv (.t 7)), (some 8), none⟩, ⟨.op (.mv (.t 0)), (some 9), (some (8, true))⟩, ⟨.op (.mv (.t 1)), (some 10), (some (8, true))⟩, ⟨.call 79 [(.t 9), (.t 10), (.c (.int .i64 1))], (some 11), (some (8, true))⟩, ⟨.call 83 [(.t 11), (.c (.int .i64 (-1)))], (some 12), (some (8, true))⟩, ⟨.op (.not (.t 12)), (some 13), (some (8, true))⟩, ⟨.op (.pick (.t 8) (.t 13) (.c (.bool false))), (some 14), none⟩, ⟨.op (.mv (.t 14)), (some 4), none⟩])
 [4]
 (.ret)),
 [.tmp 4]⟩
theorem k53 : cFn Try.prog 53 = some c53.toE := by kernel_rfl
theorem w53 : c53.body.wf = true := by kernel_rfl
noncomputable def l82_0 : DC :=
 .seq (.reg [⟨.op (.bin .lss 0 (.t 9) (.t 8)), (some 10), none⟩])
 [0, 1, 7, 8, 9, 10]
 (.seq (.cond (.t 10) (.skip) (.exit 0))
 [0, 1, 7, 8, 9]
 (.seq (.block 1 (.seq (.reg [⟨.op (.mv (.t 9)), (some 11), none⟩, ⟨.op (.ia 2 none (.t 7) (.t 9)), (some 12), none⟩, ⟨.op (.ldn 2 (.t 12)), (some 13), none⟩, ⟨.op (.new [(.int .i64 0), (.int .i64 0)]), (some 6), none⟩, ⟨.op (.mv (.t 11)), (some 5), none⟩, ⟨.op (.st 2 (.t 6) (.t 13)), none, none⟩])
 [0, 1, 5, 6, 7, 8, 9]
 (.seq (.seq (.reg [⟨.op (.ia 1 (some 2) (.t 6) (.c (.int .i64 0))), (some 14), none⟩, ⟨.op (.ld1 (.t 14)), (some 15), none⟩, ⟨.op (.bin .lss 0 (.t 15) (.c (.int .i64 1))), (some 16), none⟩, ⟨.op (.mv (.t 16)), (some 17), none⟩, ⟨.op (.ia 1 (some 2) (.t 6) (.c (.int .i64 0))), (some 18), (some (17, false))⟩, ⟨.op (.ld1 (.t 18)), (some 19), (some (17, false))⟩, ⟨.op (.ia 1 (some 2) (.t 6) (.c (.int .i64 1))), (some 20), (some (17, false))⟩, ⟨.op (.ld1 (.t 20)), (some 21), (some (17, false))⟩, ⟨.op (.bin .geq 0 (.t 19) (.t 21)), (some 22), (some (17, false))⟩, ⟨.op (.pick (.t 17) (.c (.bool true)) (.t 22)), (some 23), none⟩, ⟨.op (.mv (.t 23)), (some 24), none⟩, ⟨.op (.ia 1 (some 2) (.t 6) (.c (.int .i64 1))), (some 25), (some (24, false))⟩, ⟨.op (.ld1 (.t 25)), (some 26), (some (24, false))⟩, ⟨.op (.mv (.t 0)), (some 27), (some (24, false))⟩, ⟨.op (.bin .gtr 0 (.t 26) (.t 27)), (some 28), (some (24, false))⟩, ⟨.op (.pick (.t 24) (.c (.bool true)) (.t 28)), (some 29), none⟩])
 [0, 1, 5, 6, 7, 8, 9, 29]
 (.cond (.t 29) (.seq (.reg [⟨.op (.mv (.c (.bool false))), (some 4), none⟩])
 [4]
 (.ret)) (.skip)))
 [0, 1, 5, 6, 7, 8, 9]
 (.seq (.drw [⟨⟨.op (.mv (.t 5)), (some 30), none⟩, .n, []⟩, ⟨⟨.op (.bin .gtr 0 (.t 30) (.c (.int .i64 0))), (some 31), none⟩, .n, []⟩, ⟨⟨.op (.mv (.t 31)), (some 32), none⟩, .n, []⟩, ⟨⟨.op (.mv (.t 1)), (some 33), (some (32, true))⟩, .n, []⟩, ⟨⟨.op (.mv (.t 5)), (some 34), (some (32, true))⟩, .n, []⟩, ⟨⟨.op (.bin .sub 0 (.t 34) (.c (.int .i64 1))), (some 35), (some (32, true))⟩, .n, []⟩, ⟨⟨.op (.ia 2 none (.t 33) (.t 35)), (some 36), (some (32, true))⟩, .n, []⟩, ⟨⟨.op (.ia 1 (some 2) (.t 36) (.c (.int .i64 0))), (some 37), (some (32, true))⟩, .n, []⟩, ⟨⟨.op (.ld1 (.t 37)), (some 38), (some (32, true))⟩, .n, []⟩, ⟨⟨.op (.ia 1 (some 2) (.t 6) (.c (.int .i64 0))), (some 39), (some (32, true))⟩, .n, []⟩, ⟨⟨.op (.ld1 (.t 39)), (some 40), (some (32, true))⟩, .n, []⟩, ⟨⟨.op (.mv (.t 1)), (some 42), (some (32, true))⟩, .n, []⟩, ⟨⟨.op (.mv (.t 5)), (some 43), (some (32, true))⟩, .n, []⟩, ⟨⟨.op (.bin .sub 0 (.t 43) (.c (.int .i64 1))), (some 44), (some (32, true))⟩, .n, []⟩, ⟨⟨.op (.ia 2 none (.t 42) (.t 44)), (some 45), (some (32, true))⟩, .n, []⟩, ⟨⟨.op (.ia 1 (some 2) (.t 45) (.c (.int .i64 1))), (some 46), (some (32, true))⟩, .n, []⟩, ⟨⟨.op (.ld1 (.t 46)), (some 47), (some (32, true))⟩, .n, []⟩, ⟨⟨.op (.ia 1 (some 2) (.t 6) (.c (.int .i64 1))), (some 48), (some (32, true))⟩, .n, []⟩, ⟨⟨.op (.ld1 (.t 48)), (some 49), (some (32, true))⟩, .n, []⟩, ⟨⟨.call 86 [(.t 38), (.t 40)], (some 41), (some (32, true))⟩, .x, [(true, 18), (true, 16)]⟩, ⟨⟨.call 86 [(.t 47), (.t 49)], (some 50), (some (32, true))⟩, .x, []⟩, ⟨⟨.op (.bslice 1 2 [(.int .i64 0), (.int .i64 0)] [(0, 1, (.t 41)), (1, 1, (.t 50))]), (some 51), (some (32, true))⟩, .a, [(true, 18), (true, 16), (true, 10), (true, 8)]⟩, ⟨⟨.call 102 [(.t 51)], (some 52), (some (32, true))⟩, .x, []⟩, ⟨⟨.op (.bin .geq 0 (.t 52) (.c (.int .i64 0))), (some 53), (some (32, true))⟩, .n, []⟩, ⟨⟨.op (.pick (.t 32) (.t 53) (.c (.bool false))), (some 54), none⟩, .n, []⟩])
 [0, 1, 7, 8, 9, 54]
 (.cond (.t 54) (.seq (.reg [⟨.op (.mv (.c (.bool false))), (some 4), none⟩])
 [4]
 (.ret)) (.skip))))))
 [0, 1, 7, 8, 9]
 (.reg [⟨.op (.bin .add 0 (.t 9) (.c (.int .i64 1))), (some 55), none⟩, ⟨.op (.mv (.t 55)), (some 9), none⟩])))
theorem u82_0 (call : DCall) (T : Tm) (st : Dv.St) : dCw Try.prog call l82_0 T st = dCw Try.prog call
 (.seq (.reg [⟨.op (.bin .lss 0 (.t 9) (.t 8)), (some 10), none⟩])
 [0, 1, 7, 8, 9, 10]
 (.seq (.cond (.t 10) (.skip) (.exit 0))
 [0, 1, 7, 8, 9]
 (.seq (.block 1 (.seq (.reg [⟨.op (.mv (.t 9)), (some 11), none⟩, ⟨.op (.ia 2 none (.t 7) (.t 9)), (some 12), none⟩, ⟨.op (.ldn 2 (.t 12)), (some 13), none⟩, ⟨.op (.new [(.int .i64 0), (.int .i64 0)]), (some 6), none⟩, ⟨.op (.mv (.t 11)), (some 5), none⟩, ⟨.op (.st 2 (.t 6) (.t 13)), none, none⟩])
 [0, 1, 5, 6, 7, 8, 9]
 (.seq (.seq (.reg [⟨.op (.ia 1 (some 2) (.t 6) (.c (.int .i64 0))), (some 14), none⟩, ⟨.op (.ld1 (.t 14)), (some 15), none⟩, ⟨.op (.bin .lss 0 (.t 15) (.c (.int .i64 1))), (some 16), none⟩, ⟨.op (.mv (.t 16)), (some 17), none⟩, ⟨.op (.ia 1 (some 2) (.t 6) (.c (.int .i64 0))), (some 18), (some (17, false))⟩, ⟨.op (.ld1 (.t 18)), (some 19), (some (17, false))⟩, ⟨.op (.ia 1 (some 2) (.t 6) (.c (.int .i64 1))), (some 20), (some (17, false))⟩, ⟨.op (.ld1 (.t 20)), (some 21), (some (17, false))⟩, ⟨.op (.bin .geq 0 (.t 19) (.t 21)), (some 22), (some (17, false))⟩, ⟨.op (.pick (.t 17) (.c (.bool true)) (.t 22)), (some 23), none⟩, ⟨.op (.mv (.t 23)), (some 24), none⟩, ⟨.op (.ia 1 (some 2) (.t 6) (.c (.int .i64 1))), (some 25), (some (24, false))⟩, ⟨.op (.ld1 (.t 25)), (some 26), (some (24, false))⟩, ⟨.op (.mv (.t 0)), (some 27), (some (24, false))⟩, ⟨.op (.bin .gtr 0 (.t 26) (.t 27)), (some 28), (some (24, false))⟩, ⟨.op (.pick (.t 24) (.c (.bool true)) (.t 28)), (some 29), none⟩])
 [0, 1, 5, 6, 7, 8, 9, 29]
 (.cond (.t 29) (.seq (.reg [⟨.op (.mv (.c (.bool false))), (some 4), none⟩])
 [4]
 (.ret)) (.skip)))
 [0, 1, 5, 6, 7, 8, 9]
 (.seq (.drw [⟨⟨.op (.mv (.t 5)), (some 30), none⟩, .n, []⟩, ⟨⟨.op (.bin .gtr 0 (.t 30) (.c (.int .i64 0))), (some 31), none⟩, .n, []⟩, ⟨⟨.op (.mv (.t 31)), (some 32), none⟩, .n, []⟩, ⟨⟨.op (.mv (.t 1)), (some 33), (some (32, true))⟩, .n, []⟩, ⟨⟨.op (.mv (.t 5)), (some 34), (some (32, true))⟩, .n, []⟩, ⟨⟨.op (.bin .sub 0 (.t 34) (.c (.int .i64 1))), (some 35), (some (32, true))⟩, .n, []⟩, ⟨⟨.op (.ia 2 none (.t 33) (.t 35)), (some 36), (some (32, true))⟩, .n, []⟩, ⟨⟨.op (.ia 1 (some 2) (.t 36) (.c (.int .i64 0))), (some 37), (some (32, true))⟩, .n, []⟩, ⟨⟨.op (.ld1 (.t 37)), (some 38), (some (32, true))⟩, .n, []⟩, ⟨⟨.op (.ia 1 (some 2) (.t 6) (.c (.int .i64 0))), (some 39), (some (32, true))⟩, .n, []⟩, ⟨⟨.op (.ld1 (.t 39)), (some 40), (some (32, true))⟩, .n, []⟩, ⟨⟨.op (.mv (.t 1)), (some 42), (some (32, true))⟩, .n, []⟩, ⟨⟨.op (.mv (.t 5)), (some 43), (some (32, true))⟩, .n, []⟩, ⟨⟨.op (.bin .sub 0 (.t 43) (.c (.int .i64 1))), (some 44), (some (32, true))⟩, .n, []⟩, ⟨⟨.op (.ia 2 none (.t 42) (.t 44)), (some 45), (some (32, true))⟩, .n, []⟩, ⟨⟨.op (.ia 1 (some 2) (.t 45) (.c (.int .i64 1))), (some 46), (some (32, true))⟩, .n, []⟩, ⟨⟨.op (.ld1 (.t 46)), (some 47), (some (32, true))⟩, .n, []⟩, ⟨⟨.op (.ia 1 (some 2) (.t 6) (.c (.int .i64 1))), (some 48), (some (32, true))⟩, .n, []⟩, ⟨⟨.op (.ld1 (.t 48)), (some 49), (some (32, true))⟩, .n, []⟩, ⟨⟨.call 86 [(.t 38), (.t 40)], (some 41), (some (32, true))⟩, .x, [(true, 18), (true, 16)]⟩, ⟨⟨.call 86 [(.t 47), (.t 49)], (some 50), (some (32, true))⟩, .x, []⟩, ⟨⟨.op (.bslice 1 2 [(.int .i64 0), (.int .i64 0)] [(0, 1, (.t 41)), (1, 1, (.t 50))]), (some 51), (some (32, true))⟩, .a, [(true, 18), (true, 16), (true, 10), (true, 8)]⟩, ⟨⟨.call 102 [(.t 51)], (some 52), (some (32, true))⟩, .x, []⟩, ⟨⟨.op (.bin .geq 0 (.t 52) (.c (.int .i64 0))), (some 53), (some (32, true))⟩, .n, []⟩, ⟨⟨.op (.pick (.t 32) (.t 53) (.c (.bool false))), (some 54), none⟩, .n, []⟩])
 [0, 1, 7, 8, 9, 54]
 (.cond (.t 54) (.seq (.reg [⟨.op (.mv (.c (.bool false))), (some 4), none⟩])
 [4]
 (.ret)) (.skip))))))
 [0, 1, 7, 8, 9]
 (.reg [⟨.op (.bin .add 0 (.t 9) (.c (.int .i64 1))), (some 55), none⟩, ⟨.op (.mv (.t 55)), (some 9), none⟩])))) T st := rfl
/-- cardamom/topo.form -/
noncomputable def c82 : DFn := ⟨62, .pure,
 .seq (.reg [⟨.op (.mv (.c (.bool false))), (some 4), none⟩])
 [0, 1]
 (.seq (.seq (.reg [⟨.op (.mv (.t 1)), (some 7), none⟩, ⟨.op (.len (.t 7)), (some 8), none⟩, ⟨.op (.mv (.c (.int .i64 0))), (some 9), none⟩])
 [0, 1, 7, 8, 9]
 (.block 0 (.loop [0, 1, 7, 8, 9] (l82_0))))
 [0]
 (.seq (.reg [⟨.op (.mv (.t 0)), (some 56), none⟩, ⟨.op (.bin .geq 0 (.t 56) (.c (.int .i64 1))), (some 57), none⟩, ⟨.op (.mv (.t 57)), (some 58), none⟩, ⟨.op (.mv (.t 0)), (some 59), (some (58, true))⟩, ⟨.op (.bin .leq 0 (.t 59) (.c (.int .i64 5))), (some 60), (some (58, true))⟩, ⟨.op (.pick (.t 58) (.t 60) (.c (.bool false))), (some 61), none⟩, ⟨.op (.mv (.t 61)), (some 4), none⟩])
 [4]
 (.ret))),
 [.tmp 4]⟩
theorem k82 : cFn Try.prog 82 = some c82.toE := by kernel_rfl
theorem w82 : c82.body.wf = true := by kernel_rfl
noncomputable def l79_0 : DC :=
 .seq (.reg [⟨.op (.bin .lss 0 (.t 34) (.t 33)), (some 35), none⟩])
 [1, 7, 8, 33, 34, 35]
 (.seq (.cond (.t 35) (.skip) (.exit 2))
 [1, 7, 8, 33, 34]
 (.seq (.block 3 (.seq (.reg [⟨.op (.mv (.t 34)), (some 36), none⟩, ⟨.op (.mv (.t 36)), (some 9), none⟩])
 [1, 7, 8, 9, 33, 34]
 (.seq (.reg [⟨.op (.mv (.t 7)), (some 37), none⟩, ⟨.op (.mv (.t 9)), (some 38), none⟩, ⟨.op (.ia 1 none (.t 37) (.t 38)), (some 39), none⟩, ⟨.op (.ld1 (.t 39)), (some 40), none⟩, ⟨.op (.bin .lss 0 (.t 40) (.c (.int .i64 0))), (some 41), none⟩, ⟨.op (.mv (.t 41)), (some 42), none⟩, ⟨.op (.mv (.t 1)), (some 43), (some (42, true))⟩, ⟨.op (.mv (.t 8)), (some 44), (some (42, true))⟩, ⟨.op (.ia 1 none (.t 44) (.c (.int .i64 0))), (some 45), (some (42, true))⟩, ⟨.op (.ld1 (.t 45)), (some 46), (some (42, true))⟩, ⟨.op (.mv (.t 9)), (some 47), (some (42, true))⟩, ⟨.op (.bin .add 0 (.t 47) (.c (.int .i64 1))), (some 48), (some (42, true))⟩, ⟨.call 51 [(.t 43), (.t 46), (.t 48)], (some 49), (some (42, true))⟩, ⟨.op (.pick (.t 42) (.t 49) (.c (.bool false))), (some 50), none⟩])
 [1, 7, 8, 9, 33, 34, 50]
 (.cond (.t 50) (.seq (.reg [⟨.op (.mv (.t 7)), (some 51), none⟩, ⟨.op (.mv (.t 9)), (some 52), none⟩, ⟨.op (.mv (.t 7)), (some 53), none⟩, ⟨.op (.mv (.t 8)), (some 54), none⟩, ⟨.op (.ia 1 none (.t 54) (.c (.int .i64 0))), (some 55), none⟩, ⟨.op (.ld1 (.t 55)), (some 56), none⟩, ⟨.op (.bin .sub 0 (.t 56) (.c (.int .i64 1))), (some 57), none⟩, ⟨.op (.ia 1 none (.t 53) (.t 57)), (some 58), none⟩, ⟨.op (.ld1 (.t 58)), (some 59), none⟩, ⟨.op (.bin .add 0 (.t 59) (.c (.int .i64 1))), (some 60), none⟩, ⟨.op (.ia 1 none (.t 51) (.t 52)), (some 61), none⟩, ⟨.op (.st 1 (.t 61) (.t 60)), none, none⟩])
 [1, 7, 8, 9, 33, 34]
 (.reg [⟨.op (.mv (.t 8)), (some 62), none⟩, ⟨.op (.mv (.t 9)), (some 63), none⟩, ⟨.op (.bin .add 0 (.t 63) (.c (.int .i64 1))), (some 64), none⟩, ⟨.op (.bslice 1 1 [(.int .i64 0)] [(0, 1, (.t 64))]), (some 65), none⟩, ⟨.op (.app 1 8 false (.t 62) (.t 65)), (some 66), none⟩, ⟨.op (.mv (.t 66)), (some 8), none⟩])) (.skip)))))
 [1, 7, 8, 33, 34]
 (.reg [⟨.op (.bin .add 0 (.t 34) (.c (.int .i64 1))), (some 67), none⟩, ⟨.op (.mv (.t 67)), (some 34), none⟩])))
theorem u79_0 (call : DCall) (T : Tm) (st : Dv.St) : dCw Try.prog call l79_0 T st = dCw Try.prog call
 (.seq (.reg [⟨.op (.bin .lss 0 (.t 34) (.t 33)), (some 35), none⟩])
 [1, 7, 8, 33, 34, 35]
 (.seq (.cond (.t 35) (.skip) (.exit 2))
 [1, 7, 8, 33, 34]
 (.seq (.block 3 (.seq (.reg [⟨.op (.mv (.t 34)), (some 36), none⟩, ⟨.op (.mv (.t 36)), (some 9), none⟩])
 [1, 7, 8, 9, 33, 34]
 (.seq (.reg [⟨.op (.mv (.t 7)), (some 37), none⟩, ⟨.op (.mv (.t 9)), (some 38), none⟩, ⟨.op (.ia 1 none (.t 37) (.t 38)), (some 39), none⟩, ⟨.op (.ld1 (.t 39)), (some 40), none⟩, ⟨.op (.bin .lss 0 (.t 40) (.c (.int .i64 0))), (some 41), none⟩, ⟨.op (.mv (.t 41)), (some 42), none⟩, ⟨.op (.mv (.t 1)), (some 43), (some (42, true))⟩, ⟨.op (.mv (.t 8)), (some 44), (some (42, true))⟩, ⟨.op (.ia 1 none (.t 44) (.c (.int .i64 0))), (some 45), (some (42, true))⟩, ⟨.op (.ld1 (.t 45)), (some 46), (some (42, true))⟩, ⟨.op (.mv (.t 9)), (some 47), (some (42, true))⟩, ⟨.op (.bin .add 0 (.t 47) (.c (.int .i64 1))), (some 48), (some (42, true))⟩, ⟨.call 51 [(.t 43), (.t 46), (.t 48)], (some 49), (some (42, true))⟩, ⟨.op (.pick (.t 42) (.t 49) (.c (.bool false))), (some 50), none⟩])
 [1, 7, 8, 9, 33, 34, 50]
 (.cond (.t 50) (.seq (.reg [⟨.op (.mv (.t 7)), (some 51), none⟩, ⟨.op (.mv (.t 9)), (some 52), none⟩, ⟨.op (.mv (.t 7)), (some 53), none⟩, ⟨.op (.mv (.t 8)), (some 54), none⟩, ⟨.op (.ia 1 none (.t 54) (.c (.int .i64 0))), (some 55), none⟩, ⟨.op (.ld1 (.t 55)), (some 56), none⟩, ⟨.op (.bin .sub 0 (.t 56) (.c (.int .i64 1))), (some 57), none⟩, ⟨.op (.ia 1 none (.t 53) (.t 57)), (some 58), none⟩, ⟨.op (.ld1 (.t 58)), (some 59), none⟩, ⟨.op (.bin .add 0 (.t 59) (.c (.int .i64 1))), (some 60), none⟩, ⟨.op (.ia 1 none (.t 51) (.t 52)), (some 61), none⟩, ⟨.op (.st 1 (.t 61) (.t 60)), none, none⟩])
 [1, 7, 8, 9, 33, 34]
 (.reg [⟨.op (.mv (.t 8)), (some 62), none⟩, ⟨.op (.mv (.t 9)), (some 63), none⟩, ⟨.op (.bin .add 0 (.t 63) (.c (.int .i64 1))), (some 64), none⟩, ⟨.op (.bslice 1 1 [(.int .i64 0)] [(0, 1, (.t 64))]), (some 65), none⟩, ⟨.op (.app 1 8 false (.t 62) (.t 65)), (some 66), none⟩, ⟨.op (.mv (.t 66)), (some 8), none⟩])) (.skip)))))
 [1, 7, 8, 33, 34]
 (.reg [⟨.op (.bin .add 0 (.t 34) (.c (.int .i64 1))), (some 67), none⟩, ⟨.op (.mv (.t 67)), (some 34), none⟩])))) T st := rfl
noncomputable def l79_1 : DC :=
 .seq (.seq (.reg [⟨.op (.mv (.t 8)), (some 27), none⟩, ⟨.op (.len (.t 27)), (some 28), none⟩, ⟨.op (.bin .gtr 0 (.t 28) (.c (.int .i64 0))), (some 29), none⟩])
 [1, 7, 8, 29]
 (.cond (.t 29) (.skip) (.exit 0)))
 [1, 7, 8]
 (.seq (.block 1 (.seq (.reg [⟨.op (.mv (.t 7)), (some 32), none⟩, ⟨.op (.len (.t 32)), (some 33), none⟩, ⟨.op (.mv (.c (.int .i64 0))), (some 34), none⟩])
 [1, 7, 8, 33, 34]
 (.block 2 (.loop [1, 7, 8, 33, 34] (l79_0)))))
 [1, 7, 8]
 (.reg [⟨.op (.mv (.t 8)), (some 30), none⟩, ⟨.op (.cut 1 none (.t 30) (some (.c (.int .i64 1))) none), (some 31), none⟩, ⟨.op (.mv (.t 31)), (some 8), none⟩]))
theorem u79_1 (call : DCall) (T : Tm) (st : Dv.St) : dCw Try.prog call l79_1 T st = dCw Try.prog call
 (.seq (.seq (.reg [⟨.op (.mv (.t 8)), (some 27), none⟩, ⟨.op (.len (.t 27)), (some 28), none⟩, ⟨.op (.bin .gtr 0 (.t 28) (.c (.int .i64 0))), (some 29), none⟩])
 [1, 7, 8, 29]
 (.cond (.t 29) (.skip) (.exit 0)))
 [1, 7, 8]
 (.seq (.block 1 (.seq (.reg [⟨.op (.mv (.t 7)), (some 32), none⟩, ⟨.op (.len (.t 32)), (some 33), none⟩, ⟨.op (.mv (.c (.int .i64 0))), (some 34), none⟩])
 [1, 7, 8, 33, 34]
 (.block 2 (.loop [1, 7, 8, 33, 34] (l79_0)))))
 [1, 7, 8]
 (.reg [⟨.op (.mv (.t 8)), (some 30), none⟩, ⟨.op (.cut 1 none (.t 30) (some (.c (.int .i64 1))) none), (some 31), none⟩, ⟨.op (.mv (.t 31)), (some 8), none⟩]))) T st := rfl
/-- cardamom/topo.steps -/
noncomputable def c79 : DFn := ⟨69, .pure,
 .seq (.reg [⟨.op (.mv (.c (.sl none 0))), (some 6), none⟩])
 [0, 1, 2]
 (.seq (.reg [⟨.op (.bslice 1 1 [(.int .i64 0)] [(0, 1, (.c (.int .i64 (-1))))]), (some 10), none⟩, ⟨.op (.mv (.t 0)), (some 11), none⟩, ⟨.call 105 [(.t 10), (.t 11)], (some 12), none⟩, ⟨.op (.mv (.t 12)), (some 7), none⟩])
 [0, 1, 2, 7]
 (.seq (.seq (.reg [⟨.op (.mv (.t 2)), (some 13), none⟩, ⟨.op (.bin .lss 0 (.t 13) (.c (.int .i64 1))), (some 14), none⟩, ⟨.op (.mv (.t 14)), (some 15), none⟩, ⟨.op (.mv (.t 2)), (some 16), (some (15, false))⟩, ⟨.op (.mv (.t 0)), (some 17), (some (15, false))⟩, ⟨.op (.bin .gtr 0 (.t 16) (.t 17)), (some 18), (some (15, false))⟩, ⟨.op (.pick (.t 15) (.c (.bool true)) (.t 18)), (some 19), none⟩])
 [1, 2, 7, 19]
 (.cond (.t 19) (.seq (.reg [⟨.op (.mv (.t 7)), (some 20), none⟩, ⟨.op (.mv (.t 20)), (some 6), none⟩])
 [6]
 (.ret)) (.skip)))
 [1, 2, 7]
 (.seq (.reg [⟨.op (.mv (.t 7)), (some 21), none⟩, ⟨.op (.mv (.t 2)), (some 22), none⟩, ⟨.op (.bin .sub 0 (.t 22) (.c (.int .i64 1))), (some 23), none⟩, ⟨.op (.ia 1 none (.t 21) (.t 23)), (some 24), none⟩, ⟨.op (.st 1 (.t 24) (.c (.int .i64 0))), none, none⟩])
 [1, 2, 7]
 (.seq (.seq (.reg [⟨.op (.mv (.t 2)), (some 25), none⟩, ⟨.op (.bslice 1 1 [(.int .i64 0)] [(0, 1, (.t 25))]), (some 26), none⟩, ⟨.op (.mv (.t 26)), (some 8), none⟩])
 [1, 7, 8]
 (.block 0 (.loop [1, 7, 8] (l79_1))))
 [7]
 (.seq (.reg [⟨.op (.mv (.t 7)), (some 68), none⟩, ⟨.op (.mv (.t 68)), (some 6), none⟩])
 [6]
 (.ret)))))),
 [.tmp 6]⟩
theorem k79 : cFn Try.prog 79 = some c79.toE := by kernel_rfl
theorem w79 : c79.body.wf = true := by kernel_rfl
/-- slices.Contains[[][2]int,[2]int] -/
noncomputable def c80 : DFn := ⟨9, .pure,
 .seq (.reg [⟨.op (.box (.t 1)), (some 3), none⟩, ⟨.op (.mv (.c (.bool false))), (some 4), none⟩])
 [0, 3]
 (.seq (.reg [⟨.op (.mv (.t 0)), (some 5), none⟩, ⟨.op (.ldn 2 (.t 3)), (some 6), none⟩, ⟨.call 106 [(.t 5), (.t 6)], (some 7), none⟩, ⟨.op (.bin .geq 0 (.t 7) (.c (.int .i64 0))), (some 8), none⟩, ⟨.op (.mv (.t 8)), (some 4), none⟩])
 [4]
 (.ret)),
 [.tmp 4]⟩
theorem k80 : cFn Try.prog 80 = some c80.toE := by kernel_rfl
theorem w80 : c80.body.wf = true := by kernel_rfl
noncomputable def l106_0 : DC :=
 .seq (.reg [⟨.op (.bin .lss 0 (.t 8) (.t 7)), (some 9), none⟩])
 [0, 3, 7, 8, 9]
 (.seq (.cond (.t 9) (.skip) (.exit 0))
 [0, 3, 7, 8]
 (.seq (.block 1 (.seq (.reg [⟨.op (.mv (.t 8)), (some 10), none⟩, ⟨.op (.mv (.t 10)), (some 5), none⟩])
 [0, 3, 5, 7, 8]
 (.seq (.drw [⟨⟨.op (.ldn 2 (.t 3)), (some 11), none⟩, .n, []⟩, ⟨⟨.op (.mv (.t 0)), (some 12), none⟩, .n, []⟩, ⟨⟨.op (.mv (.t 5)), (some 13), none⟩, .n, []⟩, ⟨⟨.op (.ia 2 none (.t 12) (.t 13)), (some 14), none⟩, .n, []⟩, ⟨⟨.op (.ldn 2 (.t 14)), (some 15), none⟩, .n, []⟩, ⟨⟨.op (.slow (operAt Try.prog 106 13)), (some 16), none⟩, .n, []⟩])
 [0, 3, 5, 7, 8, 16]
 (.cond (.t 16) (.seq (.reg [⟨.op (.mv (.t 5)), (some 17), none⟩, ⟨.op (.mv (.t 17)), (some 4), none⟩])
 [4]
 (.ret)) (.skip)))))
 [0, 3, 7, 8]
 (.reg [⟨.op (.bin .add 0 (.t 8) (.c (.int .i64 1))), (some 18), none⟩, ⟨.op (.mv (.t 18)), (some 8), none⟩])))
theorem u106_0 (call : DCall) (T : Tm) (st : Dv.St) : dCw Try.prog call l106_0 T st = dCw Try.prog call
 (.seq (.reg [⟨.op (.bin .lss 0 (.t 8) (.t 7)), (some 9), none⟩])
 [0, 3, 7, 8, 9]
 (.seq (.cond (.t 9) (.skip) (.exit 0))
 [0, 3, 7, 8]
 (.seq (.block 1 (.seq (.reg [⟨.op (.mv (.t 8)), (some 10), none⟩, ⟨.op (.mv (.t 10)), (some 5), none⟩])
 [0, 3, 5, 7, 8]
 (.seq (.drw [⟨⟨.op (.ldn 2 (.t 3)), (some 11), none⟩, .n, []⟩, ⟨⟨.op (.mv (.t 0)), (some 12), none⟩, .n, []⟩, ⟨⟨.op (.mv (.t 5)), (some 13), none⟩, .n, []⟩, ⟨⟨.op (.ia 2 none (.t 12) (.t 13)), (some 14), none⟩, .n, []⟩, ⟨⟨.op (.ldn 2 (.t 14)), (some 15), none⟩, .n, []⟩, ⟨⟨.op (.slow (operAt Try.prog 106 13)), (some 16), none⟩, .n, []⟩])
 [0, 3, 5, 7, 8, 16]
 (.cond (.t 16) (.seq (.reg [⟨.op (.mv (.t 5)), (some 17), none⟩, ⟨.op (.mv (.t 17)), (some 4), none⟩])
 [4]
 (.ret)) (.skip)))))
 [0, 3, 7, 8]
 (.reg [⟨.op (.bin .add 0 (.t 8) (.c (.int .i64 1))), (some 18), none⟩, ⟨.op (.mv (.t 18)), (some 8), none⟩])))) T st := rfl
/-- slices.Index[[][2]int,[2]int] -/
noncomputable def c106 : DFn := ⟨19, .pure,
 .seq (.reg [⟨.op (.box (.t 1)), (some 3), none⟩, ⟨.op (.mv (.c (.int .i64 0))), (some 4), none⟩])
 [0, 3]
 (.seq (.seq (.reg [⟨.op (.mv (.t 0)), (some 6), none⟩, ⟨.op (.len (.t 6)), (some 7), none⟩, ⟨.op (.mv (.c (.int .i64 0))), (some 8), none⟩])
 [0, 3, 7, 8]
 (.block 0 (.loop [0, 3, 7, 8] (l106_0))))
 []
 (.seq (.reg [⟨.op (.mv (.c (.int .i64 (-1)))), (some 4), none⟩])
 [4]
 (.ret))),
 [.tmp 4]⟩
theorem k106 : cFn Try.prog 106 = some c106.toE := by kernel_rfl
theorem w106 : c106.body.wf = true := by kernel_rfl
/-- slices.Contains[[]int,int] -/
noncomputable def c83 : DFn := ⟨9, .pure,
 .seq (.reg [⟨.op (.mv (.c (.bool false))), (some 4), none⟩])
 [0, 1]
 (.seq (.reg [⟨.op (.mv (.t 0)), (some 5), none⟩, ⟨.op (.mv (.t 1)), (some 6), none⟩, ⟨.call 107 [(.t 5), (.t 6)], (some 7), none⟩, ⟨.op (.bin .geq 0 (.t 7) (.c (.int .i64 0))), (some 8), none⟩, ⟨.op (.mv (.t 8)), (some 4), none⟩])
 [4]
 (.ret)),
 [.tmp 4]⟩
theorem k83 : cFn Try.prog 83 = some c83.toE := by kernel_rfl
theorem w83 : c83.body.wf = true := by kernel_rfl
noncomputable def l107_0 : DC :=
 .seq (.reg [⟨.op (.bin .lss 0 (.t 8) (.t 7)), (some 9), none⟩])
 [0, 1, 7, 8, 9]
 (.seq (.cond (.t 9) (.skip) (.exit 0))
 [0, 1, 7, 8]
 (.seq (.block 1 (.seq (.reg [⟨.op (.mv (.t 8)), (some 10), none⟩, ⟨.op (.mv (.t 10)), (some 5), none⟩])
 [0, 1, 5, 7, 8]
 (.seq (.reg [⟨.op (.mv (.t 1)), (some 11), none⟩, ⟨.op (.mv (.t 0)), (some 12), none⟩, ⟨.op (.mv (.t 5)), (some 13), none⟩, ⟨.op (.ia 1 none (.t 12) (.t 13)), (some 14), none⟩, ⟨.op (.ld1 (.t 14)), (some 15), none⟩, ⟨.op (.bin .eql 0 (.t 11) (.t 15)), (some 16), none⟩])
 [0, 1, 5, 7, 8, 16]
 (.cond (.t 16) (.seq (.reg [⟨.op (.mv (.t 5)), (some 17), none⟩, ⟨.op (.mv (.t 17)), (some 4), none⟩])
 [4]
 (.ret)) (.skip)))))
 [0, 1, 7, 8]
 (.reg [⟨.op (.bin .add 0 (.t 8) (.c (.int .i64 1))), (some 18), none⟩, ⟨.op (.mv (.t 18)), (some 8), none⟩])))
theorem u107_0 (call : DCall) (T : Tm) (st : Dv.St) : dCw Try.prog call l107_0 T st = dCw Try.prog call
 (.seq (.reg [⟨.op (.bin .lss 0 (.t 8) (.t 7)), (some 9), none⟩])
 [0, 1, 7, 8, 9]
 (.seq (.cond (.t 9) (.skip) (.exit 0))
 [0, 1, 7, 8]
 (.seq (.block 1 (.seq (.reg [⟨.op (.mv (.t 8)), (some 10), none⟩, ⟨.op (.mv (.t 10)), (some 5), none⟩])
 [0, 1, 5, 7, 8]
 (.seq (.reg [⟨.op (.mv (.t 1)), (some 11), none⟩, ⟨.op (.mv (.t 0)), (some 12), none⟩, ⟨.op (.mv (.t 5)), (some 13), none⟩, ⟨.op (.ia 1 none (.t 12) (.t 13)), (some 14), none⟩, ⟨.op (.ld1 (.t 14)), (some 15), none⟩, ⟨.op (.bin .eql 0 (.t 11) (.t 15)), (some 16), none⟩])
 [0, 1, 5, 7, 8, 16]
 (.cond (.t 16) (.seq (.reg [⟨.op (.mv (.t 5)), (some 17), none⟩, ⟨.op (.mv (.t 17)), (some 4), none⟩])
 [4]
 (.ret)) (.skip)))))
 [0, 1, 7, 8]
 (.reg [⟨.op (.bin .add 0 (.t 8) (.c (.int .i64 1))), (some 18), none⟩, ⟨.op (.mv (.t 18)), (some 8), none⟩])))) T st := rfl
/-- slices.Index[[]int,int] -/
noncomputable def c107 : DFn := ⟨19, .pure,
 .seq (.reg [⟨.op (.mv (.c (.int .i64 0))), (some 4), none⟩])
 [0, 1]
 (.seq (.seq (.reg [⟨.op (.mv (.t 0)), (some 6), none⟩, ⟨.op (.len (.t 6)), (some 7), none⟩, ⟨.op (.mv (.c (.int .i64 0))), (some 8), none⟩])
 [0, 1, 7, 8]
 (.block 0 (.loop [0, 1, 7, 8] (l107_0))))
 []
 (.seq (.reg [⟨.op (.mv (.c (.int .i64 (-1)))), (some 4), none⟩])
 [4]
 (.ret))),
 [.tmp 4]⟩
theorem k107 : cFn Try.prog 107 = some c107.toE := by kernel_rfl
theorem w107 : c107.body.wf = true := by kernel_rfl
noncomputable def l81_0 : DC :=
 .seq (.seq (.reg [⟨.op (.mv (.t 4)), (some 12), none⟩, ⟨.op (.mv (.t 0)), (some 13), none⟩, ⟨.op (.len (.t 13)), (some 14), none⟩, ⟨.op (.bin .lss 0 (.t 12) (.t 14)), (some 15), none⟩])
 [0, 3, 4, 15]
 (.cond (.t 15) (.skip) (.exit 0)))
 [0, 3, 4]
 (.seq (.block 1 (.reg [⟨.op (.mv (.t 3)), (some 18), none⟩, ⟨.op (.mv (.t 0)), (some 19), none⟩, ⟨.op (.mv (.t 4)), (some 20), none⟩, ⟨.op (.ia 1 none (.t 19) (.t 20)), (some 21), none⟩, ⟨.op (.ld1 (.t 21)), (some 22), none⟩, ⟨.op (.slow (operAt Try.prog 81 20)), (some 23), none⟩, ⟨.op (.mv (.t 23)), (some 3), none⟩]))
 [0, 3, 4]
 (.reg [⟨.op (.mv (.t 4)), (some 16), none⟩, ⟨.op (.bin .add 0 (.t 16) (.c (.int .i64 1))), (some 17), none⟩, ⟨.op (.mv (.t 17)), (some 4), none⟩]))
theorem u81_0 (call : DCall) (T : Tm) (st : Dv.St) : dCw Try.prog call l81_0 T st = dCw Try.prog call
 (.seq (.seq (.reg [⟨.op (.mv (.t 4)), (some 12), none⟩, ⟨.op (.mv (.t 0)), (some 13), none⟩, ⟨.op (.len (.t 13)), (some 14), none⟩, ⟨.op (.bin .lss 0 (.t 12) (.t 14)), (some 15), none⟩])
 [0, 3, 4, 15]
 (.cond (.t 15) (.skip) (.exit 0)))
 [0, 3, 4]
 (.seq (.block 1 (.reg [⟨.op (.mv (.t 3)), (some 18), none⟩, ⟨.op (.mv (.t 0)), (some 19), none⟩, ⟨.op (.mv (.t 4)), (some 20), none⟩, ⟨.op (.ia 1 none (.t 19) (.t 20)), (some 21), none⟩, ⟨.op (.ld1 (.t 21)), (some 22), none⟩, ⟨.op (.slow (operAt Try.prog 81 20)), (some 23), none⟩, ⟨.op (.mv (.t 23)), (some 3), none⟩]))
 [0, 3, 4]
 (.reg [⟨.op (.mv (.t 4)), (some 16), none⟩, ⟨.op (.bin .add 0 (.t 16) (.c (.int .i64 1))), (some 17), none⟩, ⟨.op (.mv (.t 17)), (some 4), none⟩]))) T st := rfl
/-- slices.Max[[]int,int] -/
noncomputable def c81 : DFn := ⟨25, .pure,
 .seq (.reg [⟨.op (.mv (.c (.int .i64 0))), (some 2), none⟩])
 [0]
 (.seq (.seq (.reg [⟨.op (.mv (.t 0)), (some 5), none⟩, ⟨.op (.len (.t 5)), (some 6), none⟩, ⟨.op (.bin .lss 0 (.t 6) (.c (.int .i64 1))), (some 7), none⟩])
 [0, 7]
 (.cond (.t 7) (.reg [⟨.op (.ifc 9 (.c (.str [115, 108, 105, 99, 101, 115, 46, 77, 97, 120, 58, 32, 101, 109, 112, 116, 121, 32, 108, 105, 115, 116]))), (some 8), none⟩, ⟨.op (.slow (operAt Try.prog 81 5)), none, none⟩]) (.skip)))
 [0]
 (.seq (.reg [⟨.op (.mv (.t 0)), (some 9), none⟩, ⟨.op (.ia 1 none (.t 9) (.c (.int .i64 0))), (some 10), none⟩, ⟨.op (.ld1 (.t 10)), (some 11), none⟩, ⟨.op (.mv (.t 11)), (some 3), none⟩])
 [0, 3]
 (.seq (.seq (.reg [⟨.op (.mv (.c (.int .i64 1))), (some 4), none⟩])
 [0, 3, 4]
 (.block 0 (.loop [0, 3, 4] (l81_0))))
 [3]
 (.seq (.reg [⟨.op (.mv (.t 3)), (some 24), none⟩, ⟨.op (.mv (.t 24)), (some 2), none⟩])
 [2]
 (.ret))))),
 [.tmp 2]⟩
theorem k81 : cFn Try.prog 81 = some c81.toE := by kernel_rfl
theorem w81 : c81.body.wf = true := by kernel_rfl
noncomputable def l105_0 : DC :=
 .seq (.seq (.reg [⟨.op (.mv (.t 8)), (some 34), none⟩, ⟨.op (.mv (.t 7)), (some 35), none⟩, ⟨.op (.len (.t 35)), (some 36), none⟩, ⟨.op (.bin .lss 0 (.t 34) (.t 36)), (some 37), none⟩])
 [7, 8, 37]
 (.cond (.t 37) (.skip) (.exit 0)))
 [7, 8]
 (.block 1 (.drw [⟨⟨.op (.mv (.t 8)), (some 38), none⟩, .n, []⟩, ⟨⟨.op (.mv (.t 7)), (some 39), none⟩, .n, []⟩, ⟨⟨.op (.mv (.t 8)), (some 40), none⟩, .n, []⟩, ⟨⟨.op (.cut 1 none (.t 39) (some (.t 40)) none), (some 41), none⟩, .n, []⟩, ⟨⟨.op (.mv (.t 7)), (some 42), none⟩, .n, []⟩, ⟨⟨.op (.mv (.t 8)), (some 43), none⟩, .n, []⟩, ⟨⟨.op (.cut 1 none (.t 42) none (some (.t 43))), (some 44), none⟩, .n, []⟩, ⟨⟨.op (.cpy 1 (.t 41) (.t 44)), (some 45), none⟩, .x, []⟩, ⟨⟨.op (.bin .add 0 (.t 38) (.t 45)), (some 46), none⟩, .n, []⟩, ⟨⟨.op (.mv (.t 46)), (some 8), none⟩, .x, []⟩]))
theorem u105_0 (call : DCall) (T : Tm) (st : Dv.St) : dCw Try.prog call l105_0 T st = dCw Try.prog call
 (.seq (.seq (.reg [⟨.op (.mv (.t 8)), (some 34), none⟩, ⟨.op (.mv (.t 7)), (some 35), none⟩, ⟨.op (.len (.t 35)), (some 36), none⟩, ⟨.op (.bin .lss 0 (.t 34) (.t 36)), (some 37), none⟩])
 [7, 8, 37]
 (.cond (.t 37) (.skip) (.exit 0)))
 [7, 8]
 (.block 1 (.drw [⟨⟨.op (.mv (.t 8)), (some 38), none⟩, .n, []⟩, ⟨⟨.op (.mv (.t 7)), (some 39), none⟩, .n, []⟩, ⟨⟨.op (.mv (.t 8)), (some 40), none⟩, .n, []⟩, ⟨⟨.op (.cut 1 none (.t 39) (some (.t 40)) none), (some 41), none⟩, .n, []⟩, ⟨⟨.op (.mv (.t 7)), (some 42), none⟩, .n, []⟩, ⟨⟨.op (.mv (.t 8)), (some 43), none⟩, .n, []⟩, ⟨⟨.op (.cut 1 none (.t 42) none (some (.t 43))), (some 44), none⟩, .n, []⟩, ⟨⟨.op (.cpy 1 (.t 41) (.t 44)), (some 45), none⟩, .x, []⟩, ⟨⟨.op (.bin .add 0 (.t 38) (.t 45)), (some 46), none⟩, .n, []⟩, ⟨⟨.op (.mv (.t 46)), (some 8), none⟩, .x, []⟩]))) T st := rfl
/-- slices.Repeat[[]int,int] -/
noncomputable def c105 : DFn := ⟨48, .own,
 .seq (.reg [⟨.op (.mv (.c (.sl none 0))), (some 4), none⟩])
 [0, 1]
 (.seq (.seq (.reg [⟨.op (.mv (.t 1)), (some 9), none⟩, ⟨.op (.bin .lss 0 (.t 9) (.c (.int .i64 0))), (some 10), none⟩])
 [0, 1, 10]
 (.cond (.t 10) (.reg [⟨.op (.ifc 9 (.c (.str [99, 97, 110, 110, 111, 116, 32, 98, 101, 32, 110, 101, 103, 97, 116, 105, 118, 101]))), (some 11), none⟩, ⟨.op (.slow (operAt Try.prog 105 4)), none, none⟩]) (.skip)))
 [0, 1]
 (.seq (.reg [⟨.op (.mv (.t 0)), (some 13), none⟩, ⟨.op (.len (.t 13)), (some 14), none⟩, ⟨.op (.conv .u64 (.t 14)), (some 15), none⟩, ⟨.op (.mv (.t 1)), (some 16), none⟩, ⟨.op (.conv .u64 (.t 16)), (some 17), none⟩, ⟨.call 116 [(.t 15), (.t 17)], (some 18), none⟩, ⟨.op (.mv (.t 18)), (some 12), none⟩, ⟨.op (.ext (.t 12) 0), (some 19), none⟩, ⟨.op (.ext (.t 12) 1), (some 20), none⟩, ⟨.op (.mv (.t 19)), (some 5), none⟩, ⟨.op (.mv (.t 20)), (some 6), none⟩])
 [0, 5, 6]
 (.seq (.seq (.reg [⟨.op (.mv (.t 5)), (some 21), none⟩, ⟨.op (.bin .gtr 0 (.t 21) (.c (.int .u64 0))), (some 22), none⟩, ⟨.op (.mv (.t 22)), (some 23), none⟩, ⟨.op (.mv (.t 6)), (some 24), (some (23, false))⟩, ⟨.op (.bin .gtr 0 (.t 24) (.c (.int .u64 9223372036854775807))), (some 25), (some (23, false))⟩, ⟨.op (.pick (.t 23) (.c (.bool true)) (.t 25)), (some 26), none⟩])
 [0, 6, 26]
 (.cond (.t 26) (.reg [⟨.op (.ifc 9 (.c (.str [116, 104, 101, 32, 114, 101, 115, 117, 108, 116, 32, 111, 102, 32, 40, 108, 101, 110, 40, 120, 41, 32, 42, 32, 99, 111, 117, 110, 116, 41, 32, 111, 118, 101, 114, 102, 108, 111, 119, 115]))), (some 27), none⟩, ⟨.op (.slow (operAt Try.prog 105 23)), none, none⟩]) (.skip)))
 [0, 6]
 (.seq (.reg [⟨.op (.mv (.t 6)), (some 28), none⟩, ⟨.op (.conv .i64 (.t 28)), (some 29), none⟩, ⟨.op (.mks 1 8 [(.int .i64 0)] (.t 29) (.t 29)), (some 30), none⟩, ⟨.op (.mv (.t 30)), (some 7), none⟩])
 [0, 7]
 (.seq (.reg [⟨.op (.mv (.t 7)), (some 31), none⟩, ⟨.op (.mv (.t 0)), (some 32), none⟩, ⟨.op (.cpy 1 (.t 31) (.t 32)), (some 33), none⟩, ⟨.op (.mv (.t 33)), (some 8), none⟩])
 [7, 8]
 (.seq (.block 0 (.loop [7, 8] (l105_0)))
 [7]
 (.seq (.reg [⟨.op (.mv (.t 7)), (some 47), none⟩, ⟨.op (.mv (.t 47)), (some 4), none⟩])
 [4]
 (.ret)))))))),
 [.tmp 4]⟩
theorem k105 : cFn Try.prog 105 = some c105.toE := by kernel_rfl
theorem w105 : c105.body.wf = true := by kernel_rfl
/-- cmp.Compare[int] -/
noncomputable def c86 : DFn := ⟨20, .pure,
 .seq (.reg [⟨.op (.mv (.c (.int .i64 0))), (some 4), none⟩])
 [0, 1]
 (.seq (.reg [⟨.op (.mv (.t 0)), (some 7), none⟩, ⟨.call 108 [(.t 7)], (some 8), none⟩, ⟨.op (.mv (.t 8)), (some 5), none⟩])
 [0, 1, 5]
 (.seq (.reg [⟨.op (.mv (.t 1)), (some 9), none⟩, ⟨.call 108 [(.t 9)], (some 10), none⟩, ⟨.op (.mv (.t 10)), (some 6), none⟩])
 [0, 1, 5, 6]
 (.seq (.seq (.reg [⟨.op (.mv (.t 5)), (some 11), none⟩])
 [0, 1, 6, 11]
 (.cond (.t 11) (.seq (.seq (.reg [⟨.op (.mv (.t 6)), (some 12), none⟩])
 [12]
 (.cond (.t 12) (.seq (.reg [⟨.op (.mv (.c (.int .i64 0))), (some 4), none⟩])
 [4]
 (.ret)) (.skip)))
 []
 (.seq (.reg [⟨.op (.mv (.c (.int .i64 (-1)))), (some 4), none⟩])
 [4]
 (.ret))) (.skip)))
 [0, 1, 6]
 (.seq (.seq (.reg [⟨.op (.mv (.t 6)), (some 13), none⟩])
 [0, 1, 13]
 (.cond (.t 13) (.seq (.reg [⟨.op (.mv (.c (.int .i64 1))), (some 4), none⟩])
 [4]
 (.ret)) (.skip)))
 [0, 1]
 (.seq (.seq (.reg [⟨.op (.mv (.t 0)), (some 14), none⟩, ⟨.op (.mv (.t 1)), (some 15), none⟩, ⟨.op (.bin .lss 0 (.t 14) (.t 15)), (some 16), none⟩])
 [0, 1, 16]
 (.cond (.t 16) (.seq (.reg [⟨.op (.mv (.c (.int .i64 (-1)))), (some 4), none⟩])
 [4]
 (.ret)) (.skip)))
 [0, 1]
 (.seq (.seq (.reg [⟨.op (.mv (.t 0)), (some 17), none⟩, ⟨.op (.mv (.t 1)), (some 18), none⟩, ⟨.op (.bin .gtr 0 (.t 17) (.t 18)), (some 19), none⟩])
 [19]
 (.cond (.t 19) (.seq (.reg [⟨.op (.mv (.c (.int .i64 1))), (some 4), none⟩])
 [4]
 (.ret)) (.skip)))
 []
 (.seq (.reg [⟨.op (.mv (.c (.int .i64 0))), (some 4), none⟩])
 [4]
 (.ret)))))))),
 [.tmp 4]⟩
theorem k86 : cFn Try.prog 86 = some c86.toE := by kernel_rfl
theorem w86 : c86.body.wf = true := by kernel_rfl
noncomputable def l102_0 : DC :=
 .seq (.reg [⟨.op (.bin .lss 0 (.t 8) (.t 7)), (some 9), none⟩])
 [3, 6, 7, 8, 9]
 (.seq (.cond (.t 9) (.skip) (.exit 0))
 [3, 6, 7, 8]
 (.seq (.block 1 (.seq (.reg [⟨.op (.ia 1 none (.t 6) (.t 8)), (some 10), none⟩, ⟨.op (.ld1 (.t 10)), (some 11), none⟩, ⟨.op (.mv (.t 11)), (some 5), none⟩])
 [3, 5, 6, 7, 8]
 (.seq (.reg [⟨.op (.mv (.t 5)), (some 12), none⟩, ⟨.op (.mv (.t 3)), (some 13), none⟩, ⟨.op (.bin .neq 0 (.t 12) (.t 13)), (some 14), none⟩])
 [3, 5, 6, 7, 8, 14]
 (.cond (.t 14) (.seq (.reg [⟨.op (.mv (.t 5)), (some 15), none⟩, ⟨.op (.mv (.t 15)), (some 2), none⟩])
 [2]
 (.ret)) (.skip)))))
 [3, 6, 7, 8]
 (.reg [⟨.op (.bin .add 0 (.t 8) (.c (.int .i64 1))), (some 16), none⟩, ⟨.op (.mv (.t 16)), (some 8), none⟩])))
theorem u102_0 (call : DCall) (T : Tm) (st : Dv.St) : dCw Try.prog call l102_0 T st = dCw Try.prog call
 (.seq (.reg [⟨.op (.bin .lss 0 (.t 8) (.t 7)), (some 9), none⟩])
 [3, 6, 7, 8, 9]
 (.seq (.cond (.t 9) (.skip) (.exit 0))
 [3, 6, 7, 8]
 (.seq (.block 1 (.seq (.reg [⟨.op (.ia 1 none (.t 6) (.t 8)), (some 10), none⟩, ⟨.op (.ld1 (.t 10)), (some 11), none⟩, ⟨.op (.mv (.t 11)), (some 5), none⟩])
 [3, 5, 6, 7, 8]
 (.seq (.reg [⟨.op (.mv (.t 5)), (some 12), none⟩, ⟨.op (.mv (.t 3)), (some 13), none⟩, ⟨.op (.bin .neq 0 (.t 12) (.t 13)), (some 14), none⟩])
 [3, 5, 6, 7, 8, 14]
 (.cond (.t 14) (.seq (.reg [⟨.op (.mv (.t 5)), (some 15), none⟩, ⟨.op (.mv (.t 15)), (some 2), none⟩])
 [2]
 (.ret)) (.skip)))))
 [3, 6, 7, 8]
 (.reg [⟨.op (.bin .add 0 (.t 8) (.c (.int .i64 1))), (some 16), none⟩, ⟨.op (.mv (.t 16)), (some 8), none⟩])))) T st := rfl
/-- cmp.Or[int] -/
noncomputable def c102 : DFn := ⟨18, .pure,
 .seq (.reg [⟨.op (.mv (.c (.int .i64 0))), (some 2), none⟩])
 [0]
 (.seq (.reg [⟨.op (.mv (.c (.int .i64 0))), (some 3), none⟩])
 [0, 3]
 (.seq (.seq (.reg [⟨.op (.mv (.t 0)), (some 6), none⟩, ⟨.op (.len (.t 6)), (some 7), none⟩, ⟨.op (.mv (.c (.int .i64 0))), (some 8), none⟩])
 [3, 6, 7, 8]
 (.block 0 (.loop [3, 6, 7, 8] (l102_0))))
 [3]
 (.seq (.reg [⟨.op (.mv (.t 3)), (some 17), none⟩, ⟨.op (.mv (.t 17)), (some 2), none⟩])
 [2]
 (.ret)))),
 [.tmp 2]⟩
theorem k102 : cFn Try.prog 102 = some c102.toE := by kernel_rfl
theorem w102 : c102.body.wf = true := by kernel_rfl
/-- cmp.isNaN[int] -/
noncomputable def c108 : DFn := ⟨6, .pure,
 .seq (.reg [⟨.op (.mv (.c (.bool false))), (some 2), none⟩])
 [0]
 (.seq (.reg [⟨.op (.mv (.t 0)), (some 3), none⟩, ⟨.op (.mv (.t 0)), (some 4), none⟩, ⟨.op (.bin .neq 0 (.t 3) (.t 4)), (some 5), none⟩, ⟨.op (.mv (.t 5)), (some 2), none⟩])
 [2]
 (.ret)),
 [.tmp 2]⟩
theorem k108 : cFn Try.prog 108 = some c108.toE := by kernel_rfl
theorem w108 : c108.body.wf = true := by kernel_rfl
/-- math/bits.Mul -/
noncomputable def c116 : DFn := ⟨30, .pure,
 .seq (.reg [⟨.op (.mv (.c (.int .u64 0))), (some 4), none⟩, ⟨.op (.mv (.c (.int .u64 0))), (some 5), none⟩])
 [0, 1]
 (.seq (.cond (.c (.bool false)) (.seq (.reg [⟨.op (.mv (.t 0)), (some 11), none⟩, ⟨.op (.conv .u32 (.t 11)), (some 12), none⟩, ⟨.op (.mv (.t 1)), (some 13), none⟩, ⟨.op (.conv .u32 (.t 13)), (some 14), none⟩, ⟨.call 121 [(.t 12), (.t 14)], (some 15), none⟩, ⟨.op (.mv (.t 15)), (some 10), none⟩, ⟨.op (.ext (.t 10) 0), (some 16), none⟩, ⟨.op (.ext (.t 10) 1), (some 17), none⟩, ⟨.op (.mv (.t 16)), (some 6), none⟩, ⟨.op (.mv (.t 17)), (some 7), none⟩])
 [6, 7]
 (.seq (.reg [⟨.op (.mv (.t 6)), (some 18), none⟩, ⟨.op (.conv .u64 (.t 18)), (some 19), none⟩, ⟨.op (.mv (.t 7)), (some 20), none⟩, ⟨.op (.conv .u64 (.t 20)), (some 21), none⟩, ⟨.op (.mv (.t 19)), (some 4), none⟩, ⟨.op (.mv (.t 21)), (some 5), none⟩])
 [4, 5]
 (.ret))) (.skip))
 [0, 1]
 (.seq (.reg [⟨.op (.mv (.t 0)), (some 23), none⟩, ⟨.op (.mv (.t 1)), (some 24), none⟩, ⟨.call 122 [(.t 23), (.t 24)], (some 25), none⟩, ⟨.op (.mv (.t 25)), (some 22), none⟩, ⟨.op (.ext (.t 22) 0), (some 26), none⟩, ⟨.op (.ext (.t 22) 1), (some 27), none⟩, ⟨.op (.mv (.t 26)), (some 8), none⟩, ⟨.op (.mv (.t 27)), (some 9), none⟩])
 [8, 9]
 (.seq (.reg [⟨.op (.mv (.t 8)), (some 28), none⟩, ⟨.op (.mv (.t 9)), (some 29), none⟩, ⟨.op (.mv (.t 28)), (some 4), none⟩, ⟨.op (.mv (.t 29)), (some 5), none⟩])
 [4, 5]
 (.ret)))),
 [.tmp 4, .tmp 5]⟩
theorem k116 : cFn Try.prog 116 = some c116.toE := by kernel_rfl
theorem w116 : c116.body.wf = true := by kernel_rfl
/-- math/bits.Mul64 -/
noncomputable def c122 : DFn := ⟨51, .pure,
 .seq (.reg [⟨.op (.mv (.c (.int .u64 0))), (some 4), none⟩, ⟨.op (.mv (.c (.int .u64 0))), (some 5), none⟩])
 [0, 1]
 (.seq (.reg [⟨.op (.mv (.t 0)), (some 14), none⟩, ⟨.op (.slow (operAt Try.prog 122 3)), (some 15), none⟩, ⟨.op (.mv (.t 15)), (some 6), none⟩])
 [0, 1, 6]
 (.seq (.reg [⟨.op (.mv (.t 0)), (some 16), none⟩, ⟨.op (.slow (operAt Try.prog 122 6)), (some 17), none⟩, ⟨.op (.mv (.t 17)), (some 7), none⟩])
 [0, 1, 6, 7]
 (.seq (.reg [⟨.op (.mv (.t 1)), (some 18), none⟩, ⟨.op (.slow (operAt Try.prog 122 9)), (some 19), none⟩, ⟨.op (.mv (.t 19)), (some 8), none⟩])
 [0, 1, 6, 7, 8]
 (.seq (.reg [⟨.op (.mv (.t 1)), (some 20), none⟩, ⟨.op (.slow (operAt Try.prog 122 12)), (some 21), none⟩, ⟨.op (.mv (.t 21)), (some 9), none⟩])
 [0, 1, 6, 7, 8, 9]
 (.seq (.reg [⟨.op (.mv (.t 6)), (some 22), none⟩, ⟨.op (.mv (.t 8)), (some 23), none⟩, ⟨.op (.bin .mul 0 (.t 22) (.t 23)), (some 24), none⟩, ⟨.op (.mv (.t 24)), (some 10), none⟩])
 [0, 1, 6, 7, 8, 9, 10]
 (.seq (.reg [⟨.op (.mv (.t 7)), (some 25), none⟩, ⟨.op (.mv (.t 8)), (some 26), none⟩, ⟨.op (.bin .mul 0 (.t 25) (.t 26)), (some 27), none⟩, ⟨.op (.mv (.t 10)), (some 28), none⟩, ⟨.op (.slow (operAt Try.prog 122 22)), (some 29), none⟩, ⟨.op (.bin .add 0 (.t 27) (.t 29)), (some 30), none⟩, ⟨.op (.mv (.t 30)), (some 11), none⟩])
 [0, 1, 6, 7, 9, 11]
 (.seq (.reg [⟨.op (.mv (.t 11)), (some 31), none⟩, ⟨.op (.slow (operAt Try.prog 122 26)), (some 32), none⟩, ⟨.op (.mv (.t 32)), (some 12), none⟩])
 [0, 1, 6, 7, 9, 11, 12]
 (.seq (.reg [⟨.op (.mv (.t 11)), (some 33), none⟩, ⟨.op (.slow (operAt Try.prog 122 29)), (some 34), none⟩, ⟨.op (.mv (.t 34)), (some 13), none⟩])
 [0, 1, 6, 7, 9, 12, 13]
 (.seq (.reg [⟨.op (.mv (.t 12)), (some 35), none⟩, ⟨.op (.mv (.t 6)), (some 36), none⟩, ⟨.op (.mv (.t 9)), (some 37), none⟩, ⟨.op (.bin .mul 0 (.t 36) (.t 37)), (some 38), none⟩, ⟨.op (.bin .add 0 (.t 35) (.t 38)), (some 39), none⟩, ⟨.op (.mv (.t 39)), (some 12), none⟩])
 [0, 1, 7, 9, 12, 13]
 (.seq (.reg [⟨.op (.mv (.t 7)), (some 40), none⟩, ⟨.op (.mv (.t 9)), (some 41), none⟩, ⟨.op (.bin .mul 0 (.t 40) (.t 41)), (some 42), none⟩, ⟨.op (.mv (.t 13)), (some 43), none⟩, ⟨.op (.bin .add 0 (.t 42) (.t 43)), (some 44), none⟩, ⟨.op (.mv (.t 12)), (some 45), none⟩, ⟨.op (.slow (operAt Try.prog 122 43)), (some 46), none⟩, ⟨.op (.bin .add 0 (.t 44) (.t 46)), (some 47), none⟩, ⟨.op (.mv (.t 47)), (some 4), none⟩])
 [0, 1, 4]
 (.seq (.reg [⟨.op (.mv (.t 0)), (some 48), none⟩, ⟨.op (.mv (.t 1)), (some 49), none⟩, ⟨.op (.bin .mul 0 (.t 48) (.t 49)), (some 50), none⟩, ⟨.op (.mv (.t 50)), (some 5), none⟩])
 [4, 5]
 (.ret)))))))))))),
 [.tmp 4, .tmp 5]⟩
theorem k122 : cFn Try.prog 122 = some c122.toE := by kernel_rfl
theorem w122 : c122.body.wf = true := by kernel_rfl
def tbl : Nat → Option DFn := fun f => bif Nat.beq f 12 then some c12 else bif Nat.beq f 13 then some c13 else bif Nat.beq f 16 then some c16 else bif Nat.beq f 39 then some c39 else bif Nat.beq f 49 then some c49 else bif Nat.beq f 78 then some c78 else bif Nat.beq f 50 then some c50 else bif Nat.beq f 51 then some c51 else bif Nat.beq f 52 then some c52 else bif Nat.beq f 53 then some c53 else bif Nat.beq f 82 then some c82 else bif Nat.beq f 79 then some c79 else bif Nat.beq f 80 then some c80 else bif Nat.beq f 106 then some c106 else bif Nat.beq f 83 then some c83 else bif Nat.beq f 107 then some c107 else bif Nat.beq f 81 then some c81 else bif Nat.beq f 105 then some c105 else bif Nat.beq f 86 then some c86 else bif Nat.beq f 102 then some c102 else bif Nat.beq f 108 then some c108 else bif Nat.beq f 116 then some c116 else bif Nat.beq f 122 then some c122 else none
def dx : DX := fun f => none
def prims : Prims := fun f => bif Nat.beq f 48 then some .yes else none
theorem code_ok : ∀ f df, tbl f = some df → cFn Try.prog f = some df.toE ∧ df.body.wf = true := by
  intro f df h
  unfold tbl at h
  by_cases h12 : f = 12
  · subst h12; rw [Nat.beq_refl, cond_true] at h; rw [← Option.some.inj h]; exact ⟨k12, w12⟩
  rw [Ev.beq_false _ _ h12, cond_false] at h
  by_cases h13 : f = 13
  · subst h13; rw [Nat.beq_refl, cond_true] at h; rw [← Option.some.inj h]; exact ⟨k13, w13⟩
  rw [Ev.beq_false _ _ h13, cond_false] at h
  by_cases h16 : f = 16
  · subst h16; rw [Nat.beq_refl, cond_true] at h; rw [← Option.some.inj h]; exact ⟨k16, w16⟩
  rw [Ev.beq_false _ _ h16, cond_false] at h
  by_cases h39 : f = 39
  · subst h39; rw [Nat.beq_refl, cond_true] at h; rw [← Option.some.inj h]; exact ⟨k39, w39⟩
  rw [Ev.beq_false _ _ h39, cond_false] at h
  by_cases h49 : f = 49
  · subst h49; rw [Nat.beq_refl, cond_true] at h; rw [← Option.some.inj h]; exact ⟨k49, w49⟩
  rw [Ev.beq_false _ _ h49, cond_false] at h
  by_cases h78 : f = 78
  · subst h78; rw [Nat.beq_refl, cond_true] at h; rw [← Option.some.inj h]; exact ⟨k78, w78⟩
  rw [Ev.beq_false _ _ h78, cond_false] at h
  by_cases h50 : f = 50
  · subst h50; rw [Nat.beq_refl, cond_true] at h; rw [← Option.some.inj h]; exact ⟨k50, w50⟩
  rw [Ev.beq_false _ _ h50, cond_false] at h
  by_cases h51 : f = 51
  · subst h51; rw [Nat.beq_refl, cond_true] at h; rw [← Option.some.inj h]; exact ⟨k51, w51⟩
  rw [Ev.beq_false _ _ h51, cond_false] at h
  by_cases h52 : f = 52
  · subst h52; rw [Nat.beq_refl, cond_true] at h; rw [← Option.some.inj h]; exact ⟨k52, w52⟩
  rw [Ev.beq_false _ _ h52, cond_false] at h
  by_cases h53 : f = 53
  · subst h53; rw [Nat.beq_refl, cond_true] at h; rw [← Option.some.inj h]; exact ⟨k53, w53⟩
  rw [Ev.beq_false _ _ h53, cond_false] at h
  by_cases h82 : f = 82
  · subst h82; rw [Nat.beq_refl, cond_true] at h; rw [← Option.some.inj h]; exact ⟨k82, w82⟩
  rw [Ev.beq_false _ _ h82, cond_false] at h
  by_cases h79 : f = 79
  · subst h79; rw [Nat.beq_refl, cond_true] at h; rw [← Option.some.inj h]; exact ⟨k79, w79⟩
  rw [Ev.beq_false _ _ h79, cond_false] at h
  by_cases h80 : f = 80
  · subst h80; rw [Nat.beq_refl, cond_true] at h; rw [← Option.some.inj h]; exact ⟨k80, w80⟩
  rw [Ev.beq_false _ _ h80, cond_false] at h
  by_cases h106 : f = 106
  · subst h106; rw [Nat.beq_refl, cond_true] at h; rw [← Option.some.inj h]; exact ⟨k106, w106⟩
  rw [Ev.beq_false _ _ h106, cond_false] at h
  by_cases h83 : f = 83
  · subst h83; rw [Nat.beq_refl, cond_true] at h; rw [← Option.some.inj h]; exact ⟨k83, w83⟩
  rw [Ev.beq_false _ _ h83, cond_false] at h
  by_cases h107 : f = 107
  · subst h107; rw [Nat.beq_refl, cond_true] at h; rw [← Option.some.inj h]; exact ⟨k107, w107⟩
  rw [Ev.beq_false _ _ h107, cond_false] at h
  by_cases h81 : f = 81
  · subst h81; rw [Nat.beq_refl, cond_true] at h; rw [← Option.some.inj h]; exact ⟨k81, w81⟩
  rw [Ev.beq_false _ _ h81, cond_false] at h
  by_cases h105 : f = 105
  · subst h105; rw [Nat.beq_refl, cond_true] at h; rw [← Option.some.inj h]; exact ⟨k105, w105⟩
  rw [Ev.beq_false _ _ h105, cond_false] at h
  by_cases h86 : f = 86
  · subst h86; rw [Nat.beq_refl, cond_true] at h; rw [← Option.some.inj h]; exact ⟨k86, w86⟩
  rw [Ev.beq_false _ _ h86, cond_false] at h
  by_cases h102 : f = 102
  · subst h102; rw [Nat.beq_refl, cond_true] at h; rw [← Option.some.inj h]; exact ⟨k102, w102⟩
  rw [Ev.beq_false _ _ h102, cond_false] at h
  by_cases h108 : f = 108
  · subst h108; rw [Nat.beq_refl, cond_true] at h; rw [← Option.some.inj h]; exact ⟨k108, w108⟩
  rw [Ev.beq_false _ _ h108, cond_false] at h
  by_cases h116 : f = 116
  · subst h116; rw [Nat.beq_refl, cond_true] at h; rw [← Option.some.inj h]; exact ⟨k116, w116⟩
  rw [Ev.beq_false _ _ h116, cond_false] at h
  by_cases h122 : f = 122
  · subst h122; rw [Nat.beq_refl, cond_true] at h; rw [← Option.some.inj h]; exact ⟨k122, w122⟩
  rw [Ev.beq_false _ _ h122, cond_false] at h
  cases h
theorem ext_ok : ∀ f g, prims f = none → dx f = some g → ∀ (k : Nat) (ds : List D) (st : Dv.St) (r : D × Dv.St × List Nat) (c : Ct) (H : Heap) (vs : List V), g ds st = some r → SR c st H → Row (DR c H) ds vs → Fol c st H r (eFn Try.prog prims (cFn Try.prog) listHP (k + 1) f vs H) := by
  intro f g _ h
  unfold dx at h
  cases h
theorem tbl_ok : TblOK Try.prog prims (cFn Try.prog) dx tbl := ⟨fun f df _ _ h => code_ok f df h, ext_ok⟩
theorem prims_ok : PrimsOK Try.prog prims := by
  intro f p h
  unfold prims at h
  by_cases h48 : f = 48
  · subst h48
    rw [Nat.beq_refl, cond_true] at h
    rw [← Option.some.inj h]
    exact ⟨by kernel_rfl, fun vs H v H' he β cs w hr s => Go.Proofs.Ev.yes_ok Try.checked.mixed (k := 60) (by kernel_rfl) vs H v H' he β cs w hr s⟩
  rw [Go.Proofs.Ev.beq_false _ _ h48, cond_false] at h
  cases h
end
end Go.Proofs.Ytmbboljcgpccfaa.Cd
