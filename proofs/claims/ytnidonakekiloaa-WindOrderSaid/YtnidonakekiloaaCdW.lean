/-
  What is proved here: the texts of the functions, looked up.
  Conditions: none.
-/
import Derived.Test.YtnidonakekiloaaRows
import Derived.Test.YtnidonakekiloaaDv3
import Derived.KernelRfl
set_option linter.unusedVariables false
set_option linter.unusedSimpArgs false
set_option maxRecDepth 100000
namespace Go.Proofs.Ytnidonakekiloaa.Cd
open Go Go.Proofs Go.Proofs.Ev Go.Proofs.Dv
noncomputable section
noncomputable def l4_0 : DC :=
 .seq (.seq (.reg [⟨.op (.mv (.t 7)), (some 99), none⟩, ⟨.op (.fa 2 (.t 3)), (some 100), none⟩, ⟨.op (.ld1 (.t 100)), (some 101), none⟩, ⟨.op (.len (.t 101)), (some 102), none⟩, ⟨.op (.bin .lss 0 (.t 99) (.t 102)), (some 103), none⟩])
 [0, 3, 4, 5, 7, 103]
 (.cond (.t 103) (.skip) (.exit 2)))
 [0, 3, 4, 5, 7]
 (.seq (.block 3 (.seq (.reg [⟨.op (.fa 2 (.t 3)), (some 106), none⟩, ⟨.op (.ld1 (.t 106)), (some 107), none⟩, ⟨.op (.mv (.t 7)), (some 108), none⟩, ⟨.op (.ia 2 none (.t 107) (.t 108)), (some 109), none⟩, ⟨.op (.fa 0 (.t 109)), (some 110), none⟩, ⟨.op (.ld1 (.t 110)), (some 111), none⟩, ⟨.op (.mv (.t 111)), (some 8), none⟩])
 [0, 3, 4, 5, 7, 8]
 (.seq (.drw [⟨⟨.op (.mv (.t 8)), (some 112), none⟩, .n, []⟩, ⟨⟨.op (.fa 0 (.t 3)), (some 113), none⟩, .n, []⟩, ⟨⟨.op (.ld1 (.t 113)), (some 114), none⟩, .n, []⟩, ⟨⟨.op (.mv (.t 7)), (some 115), none⟩, .n, []⟩, ⟨⟨.op (.bin .add 0 (.t 114) (.t 115)), (some 116), none⟩, .n, []⟩, ⟨⟨.op (.bin .neq 0 (.t 112) (.t 116)), (some 117), none⟩, .n, []⟩, ⟨⟨.op (.mv (.t 117)), (some 118), none⟩, .n, []⟩, ⟨⟨.op (.mv (.t 8)), (some 119), (some (118, false))⟩, .n, []⟩, ⟨⟨.op (.bin .lss 0 (.t 119) (.c (.int .i64 1))), (some 120), (some (118, false))⟩, .n, []⟩, ⟨⟨.op (.pick (.t 118) (.c (.bool true)) (.t 120)), (some 121), none⟩, .n, []⟩, ⟨⟨.op (.mv (.t 121)), (some 122), none⟩, .n, []⟩, ⟨⟨.op (.mv (.t 8)), (some 123), (some (122, false))⟩, .n, []⟩, ⟨⟨.op (.mv (.t 4)), (some 124), (some (122, false))⟩, .n, []⟩, ⟨⟨.op (.len (.t 124)), (some 125), (some (122, false))⟩, .n, []⟩, ⟨⟨.op (.bin .gtr 0 (.t 123) (.t 125)), (some 126), (some (122, false))⟩, .n, []⟩, ⟨⟨.op (.pick (.t 122) (.c (.bool true)) (.t 126)), (some 127), none⟩, .n, []⟩, ⟨⟨.op (.mv (.t 127)), (some 128), none⟩, .n, []⟩, ⟨⟨.op (.fa 2 (.t 3)), (some 129), (some (128, false))⟩, .n, []⟩, ⟨⟨.op (.ld1 (.t 129)), (some 130), (some (128, false))⟩, .n, []⟩, ⟨⟨.op (.mv (.t 7)), (some 131), (some (128, false))⟩, .n, []⟩, ⟨⟨.op (.ia 2 none (.t 130) (.t 131)), (some 132), (some (128, false))⟩, .n, []⟩, ⟨⟨.op (.fa 1 (.t 132)), (some 133), (some (128, false))⟩, .n, []⟩, ⟨⟨.op (.ld1 (.t 133)), (some 134), (some (128, false))⟩, .n, []⟩, ⟨⟨.op (.mv (.t 4)), (some 135), (some (128, false))⟩, .n, []⟩, ⟨⟨.op (.mv (.t 8)), (some 136), (some (128, false))⟩, .n, []⟩, ⟨⟨.op (.bin .sub 0 (.t 136) (.c (.int .i64 1))), (some 137), (some (128, false))⟩, .n, []⟩, ⟨⟨.op (.ia 1 none (.t 135) (.t 137)), (some 138), (some (128, false))⟩, .n, []⟩, ⟨⟨.op (.ld1 (.t 138)), (some 139), (some (128, false))⟩, .n, []⟩, ⟨⟨.op (.bin .neq 0 (.t 134) (.t 139)), (some 140), (some (128, false))⟩, .n, []⟩, ⟨⟨.op (.pick (.t 128) (.c (.bool true)) (.t 140)), (some 141), none⟩, .n, []⟩])
 [0, 3, 4, 5, 7, 141]
 (.cond (.t 141) (.seq (.reg [⟨.op (.mv (.c (.bool false))), (some 2), none⟩])
 [2]
 (.ret)) (.skip)))))
 [0, 3, 4, 5, 7]
 (.reg [⟨.op (.mv (.t 7)), (some 104), none⟩, ⟨.op (.bin .add 0 (.t 104) (.c (.int .i64 1))), (some 105), none⟩, ⟨.op (.mv (.t 105)), (some 7), none⟩]))
theorem u4_0 (call : DCall) (T : Tm) (st : Dv.St) : dCw Try.prog call l4_0 T st = dCw Try.prog call
 (.seq (.seq (.reg [⟨.op (.mv (.t 7)), (some 99), none⟩, ⟨.op (.fa 2 (.t 3)), (some 100), none⟩, ⟨.op (.ld1 (.t 100)), (some 101), none⟩, ⟨.op (.len (.t 101)), (some 102), none⟩, ⟨.op (.bin .lss 0 (.t 99) (.t 102)), (some 103), none⟩])
 [0, 3, 4, 5, 7, 103]
 (.cond (.t 103) (.skip) (.exit 2)))
 [0, 3, 4, 5, 7]
 (.seq (.block 3 (.seq (.reg [⟨.op (.fa 2 (.t 3)), (some 106), none⟩, ⟨.op (.ld1 (.t 106)), (some 107), none⟩, ⟨.op (.mv (.t 7)), (some 108), none⟩, ⟨.op (.ia 2 none (.t 107) (.t 108)), (some 109), none⟩, ⟨.op (.fa 0 (.t 109)), (some 110), none⟩, ⟨.op (.ld1 (.t 110)), (some 111), none⟩, ⟨.op (.mv (.t 111)), (some 8), none⟩])
 [0, 3, 4, 5, 7, 8]
 (.seq (.drw [⟨⟨.op (.mv (.t 8)), (some 112), none⟩, .n, []⟩, ⟨⟨.op (.fa 0 (.t 3)), (some 113), none⟩, .n, []⟩, ⟨⟨.op (.ld1 (.t 113)), (some 114), none⟩, .n, []⟩, ⟨⟨.op (.mv (.t 7)), (some 115), none⟩, .n, []⟩, ⟨⟨.op (.bin .add 0 (.t 114) (.t 115)), (some 116), none⟩, .n, []⟩, ⟨⟨.op (.bin .neq 0 (.t 112) (.t 116)), (some 117), none⟩, .n, []⟩, ⟨⟨.op (.mv (.t 117)), (some 118), none⟩, .n, []⟩, ⟨⟨.op (.mv (.t 8)), (some 119), (some (118, false))⟩, .n, []⟩, ⟨⟨.op (.bin .lss 0 (.t 119) (.c (.int .i64 1))), (some 120), (some (118, false))⟩, .n, []⟩, ⟨⟨.op (.pick (.t 118) (.c (.bool true)) (.t 120)), (some 121), none⟩, .n, []⟩, ⟨⟨.op (.mv (.t 121)), (some 122), none⟩, .n, []⟩, ⟨⟨.op (.mv (.t 8)), (some 123), (some (122, false))⟩, .n, []⟩, ⟨⟨.op (.mv (.t 4)), (some 124), (some (122, false))⟩, .n, []⟩, ⟨⟨.op (.len (.t 124)), (some 125), (some (122, false))⟩, .n, []⟩, ⟨⟨.op (.bin .gtr 0 (.t 123) (.t 125)), (some 126), (some (122, false))⟩, .n, []⟩, ⟨⟨.op (.pick (.t 122) (.c (.bool true)) (.t 126)), (some 127), none⟩, .n, []⟩, ⟨⟨.op (.mv (.t 127)), (some 128), none⟩, .n, []⟩, ⟨⟨.op (.fa 2 (.t 3)), (some 129), (some (128, false))⟩, .n, []⟩, ⟨⟨.op (.ld1 (.t 129)), (some 130), (some (128, false))⟩, .n, []⟩, ⟨⟨.op (.mv (.t 7)), (some 131), (some (128, false))⟩, .n, []⟩, ⟨⟨.op (.ia 2 none (.t 130) (.t 131)), (some 132), (some (128, false))⟩, .n, []⟩, ⟨⟨.op (.fa 1 (.t 132)), (some 133), (some (128, false))⟩, .n, []⟩, ⟨⟨.op (.ld1 (.t 133)), (some 134), (some (128, false))⟩, .n, []⟩, ⟨⟨.op (.mv (.t 4)), (some 135), (some (128, false))⟩, .n, []⟩, ⟨⟨.op (.mv (.t 8)), (some 136), (some (128, false))⟩, .n, []⟩, ⟨⟨.op (.bin .sub 0 (.t 136) (.c (.int .i64 1))), (some 137), (some (128, false))⟩, .n, []⟩, ⟨⟨.op (.ia 1 none (.t 135) (.t 137)), (some 138), (some (128, false))⟩, .n, []⟩, ⟨⟨.op (.ld1 (.t 138)), (some 139), (some (128, false))⟩, .n, []⟩, ⟨⟨.op (.bin .neq 0 (.t 134) (.t 139)), (some 140), (some (128, false))⟩, .n, []⟩, ⟨⟨.op (.pick (.t 128) (.c (.bool true)) (.t 140)), (some 141), none⟩, .n, []⟩])
 [0, 3, 4, 5, 7, 141]
 (.cond (.t 141) (.seq (.reg [⟨.op (.mv (.c (.bool false))), (some 2), none⟩])
 [2]
 (.ret)) (.skip)))))
 [0, 3, 4, 5, 7]
 (.reg [⟨.op (.mv (.t 7)), (some 104), none⟩, ⟨.op (.bin .add 0 (.t 104) (.c (.int .i64 1))), (some 105), none⟩, ⟨.op (.mv (.t 105)), (some 7), none⟩]))) T st := rfl
noncomputable def l4_1 : DC :=
 .seq (.seq (.reg [⟨.op (.mv (.t 9)), (some 142), none⟩, ⟨.op (.fa 3 (.t 3)), (some 143), none⟩, ⟨.op (.ld1 (.t 143)), (some 144), none⟩, ⟨.op (.len (.t 144)), (some 145), none⟩, ⟨.op (.bin .lss 0 (.t 142) (.t 145)), (some 146), none⟩])
 [0, 3, 4, 5, 9, 146]
 (.cond (.t 146) (.skip) (.exit 4)))
 [0, 3, 4, 5, 9]
 (.seq (.block 5 (.seq (.drw [⟨⟨.op (.fa 3 (.t 3)), (some 149), none⟩, .n, []⟩, ⟨⟨.op (.ld1 (.t 149)), (some 150), none⟩, .n, []⟩, ⟨⟨.op (.mv (.t 9)), (some 151), none⟩, .n, []⟩, ⟨⟨.op (.ia 1 none (.t 150) (.t 151)), (some 152), none⟩, .n, []⟩, ⟨⟨.op (.ld1 (.t 152)), (some 153), none⟩, .n, []⟩, ⟨⟨.op (.mv (.t 4)), (some 154), none⟩, .n, []⟩, ⟨⟨.op (.fa 1 (.t 3)), (some 155), none⟩, .n, []⟩, ⟨⟨.op (.ld1 (.t 155)), (some 156), none⟩, .n, []⟩, ⟨⟨.op (.bin .sub 0 (.t 156) (.c (.int .i64 1))), (some 157), none⟩, .n, []⟩, ⟨⟨.op (.mv (.t 9)), (some 158), none⟩, .n, []⟩, ⟨⟨.op (.bin .add 0 (.t 157) (.t 158)), (some 159), none⟩, .n, []⟩, ⟨⟨.op (.ia 1 none (.t 154) (.t 159)), (some 160), none⟩, .n, []⟩, ⟨⟨.op (.ld1 (.t 160)), (some 161), none⟩, .n, []⟩, ⟨⟨.op (.bin .neq 0 (.t 153) (.t 161)), (some 162), none⟩, .n, []⟩])
 [0, 3, 4, 5, 9, 162]
 (.cond (.t 162) (.seq (.reg [⟨.op (.mv (.c (.bool false))), (some 2), none⟩])
 [2]
 (.ret)) (.skip))))
 [0, 3, 4, 5, 9]
 (.reg [⟨.op (.mv (.t 9)), (some 147), none⟩, ⟨.op (.bin .add 0 (.t 147) (.c (.int .i64 1))), (some 148), none⟩, ⟨.op (.mv (.t 148)), (some 9), none⟩]))
theorem u4_1 (call : DCall) (T : Tm) (st : Dv.St) : dCw Try.prog call l4_1 T st = dCw Try.prog call
 (.seq (.seq (.reg [⟨.op (.mv (.t 9)), (some 142), none⟩, ⟨.op (.fa 3 (.t 3)), (some 143), none⟩, ⟨.op (.ld1 (.t 143)), (some 144), none⟩, ⟨.op (.len (.t 144)), (some 145), none⟩, ⟨.op (.bin .lss 0 (.t 142) (.t 145)), (some 146), none⟩])
 [0, 3, 4, 5, 9, 146]
 (.cond (.t 146) (.skip) (.exit 4)))
 [0, 3, 4, 5, 9]
 (.seq (.block 5 (.seq (.drw [⟨⟨.op (.fa 3 (.t 3)), (some 149), none⟩, .n, []⟩, ⟨⟨.op (.ld1 (.t 149)), (some 150), none⟩, .n, []⟩, ⟨⟨.op (.mv (.t 9)), (some 151), none⟩, .n, []⟩, ⟨⟨.op (.ia 1 none (.t 150) (.t 151)), (some 152), none⟩, .n, []⟩, ⟨⟨.op (.ld1 (.t 152)), (some 153), none⟩, .n, []⟩, ⟨⟨.op (.mv (.t 4)), (some 154), none⟩, .n, []⟩, ⟨⟨.op (.fa 1 (.t 3)), (some 155), none⟩, .n, []⟩, ⟨⟨.op (.ld1 (.t 155)), (some 156), none⟩, .n, []⟩, ⟨⟨.op (.bin .sub 0 (.t 156) (.c (.int .i64 1))), (some 157), none⟩, .n, []⟩, ⟨⟨.op (.mv (.t 9)), (some 158), none⟩, .n, []⟩, ⟨⟨.op (.bin .add 0 (.t 157) (.t 158)), (some 159), none⟩, .n, []⟩, ⟨⟨.op (.ia 1 none (.t 154) (.t 159)), (some 160), none⟩, .n, []⟩, ⟨⟨.op (.ld1 (.t 160)), (some 161), none⟩, .n, []⟩, ⟨⟨.op (.bin .neq 0 (.t 153) (.t 161)), (some 162), none⟩, .n, []⟩])
 [0, 3, 4, 5, 9, 162]
 (.cond (.t 162) (.seq (.reg [⟨.op (.mv (.c (.bool false))), (some 2), none⟩])
 [2]
 (.ret)) (.skip))))
 [0, 3, 4, 5, 9]
 (.reg [⟨.op (.mv (.t 9)), (some 147), none⟩, ⟨.op (.bin .add 0 (.t 147) (.c (.int .i64 1))), (some 148), none⟩, ⟨.op (.mv (.t 148)), (some 9), none⟩]))) T st := rfl
noncomputable def l4_2 : DC :=
 .seq (.seq (.reg [⟨.op (.mv (.t 5)), (some 16), none⟩, ⟨.op (.mv (.t 0)), (some 17), none⟩, ⟨.op (.len (.t 17)), (some 18), none⟩, ⟨.op (.bin .lss 0 (.t 16) (.t 18)), (some 19), none⟩])
 [0, 3, 4, 5, 19]
 (.cond (.t 19) (.skip) (.exit 0)))
 [0, 3, 4, 5]
 (.seq (.block 1 (.seq (.seq (.reg [⟨.op (.mv (.t 0)), (some 22), none⟩, ⟨.op (.mv (.t 5)), (some 23), none⟩, ⟨.op (.ia 1 none (.t 22) (.t 23)), (some 24), none⟩, ⟨.op (.ld1 (.t 24)), (some 25), none⟩, ⟨.op (.bin .rem 0 (.t 25) (.c (.int .u8 3))), (some 26), none⟩, ⟨.op (.bin .gtr 0 (.t 26) (.c (.int .u8 0))), (some 27), none⟩])
 [0, 3, 4, 5, 27]
 (.cond (.t 27) (.seq (.reg [⟨.op (.mv (.t 0)), (some 28), none⟩, ⟨.op (.mv (.t 5)), (some 29), none⟩, ⟨.op (.ia 1 none (.t 28) (.t 29)), (some 30), none⟩, ⟨.op (.ld1 (.t 30)), (some 31), none⟩, ⟨.op (.bin .rem 0 (.t 31) (.c (.int .u8 26))), (some 32), none⟩, ⟨.op (.bin .add 0 (.c (.int .u8 97)) (.t 32)), (some 33), none⟩, ⟨.op (.mv (.t 5)), (some 34), none⟩, ⟨.op (.bin .rem 0 (.t 34) (.c (.int .i64 26))), (some 35), none⟩, ⟨.op (.bin .add 0 (.c (.int .i64 97)) (.t 35)), (some 36), none⟩, ⟨.op (.conv .u8 (.t 36)), (some 37), none⟩, ⟨.op (.bslice 1 2 [(.int .u8 0), (.int .u8 0)] [(0, 1, (.t 33)), (1, 1, (.t 37))]), (some 38), none⟩, ⟨.op (.string (.t 38)), (some 39), none⟩, ⟨.op (.mv (.t 39)), (some 6), none⟩])
 [0, 3, 4, 5, 6]
 (.seq (.reg [⟨.op (.mv (.t 4)), (some 40), none⟩, ⟨.op (.mv (.t 6)), (some 41), none⟩, ⟨.op (.bslice 1 1 [(.str [])] [(0, 1, (.t 41))]), (some 42), none⟩, ⟨.op (.app 1 16 false (.t 40) (.t 42)), (some 43), none⟩, ⟨.op (.mv (.t 43)), (some 4), none⟩])
 [0, 3, 4, 5, 6]
 (.reg [⟨.op (.ldn 4 (.t 3)), (some 44), none⟩, ⟨.op (.mv (.t 6)), (some 45), none⟩, ⟨.call 16 [(.t 44), (.t 45)], (some 46), none⟩, ⟨.op (.st 4 (.t 3) (.t 46)), none, none⟩]))) (.drw [⟨⟨.op (.ldn 4 (.t 3)), (some 47), none⟩, .n, []⟩, ⟨⟨.op (.fa 0 (.t 3)), (some 48), none⟩, .n, []⟩, ⟨⟨.op (.ld1 (.t 48)), (some 49), none⟩, .n, []⟩, ⟨⟨.op (.bin .sub 0 (.t 49) (.c (.int .i64 1))), (some 50), none⟩, .n, []⟩, ⟨⟨.op (.mv (.t 0)), (some 51), none⟩, .n, []⟩, ⟨⟨.op (.mv (.t 5)), (some 52), none⟩, .n, []⟩, ⟨⟨.op (.ia 1 none (.t 51) (.t 52)), (some 53), none⟩, .n, []⟩, ⟨⟨.op (.ld1 (.t 53)), (some 54), none⟩, .n, []⟩, ⟨⟨.op (.bin .quo 0 (.t 54) (.c (.int .u8 3))), (some 55), none⟩, .n, []⟩, ⟨⟨.op (.bin .rem 0 (.t 55) (.c (.int .u8 5))), (some 56), none⟩, .n, []⟩, ⟨⟨.op (.conv .i64 (.t 56)), (some 57), none⟩, .n, []⟩, ⟨⟨.op (.bin .add 0 (.t 50) (.t 57)), (some 58), none⟩, .n, []⟩, ⟨⟨.call 18 [(.t 47), (.t 58)], (some 59), none⟩, .x, []⟩, ⟨⟨.op (.st 4 (.t 3) (.t 59)), none, none⟩, .x, []⟩])))
 [0, 3, 4, 5]
 (.seq (.seq (.reg [⟨.op (.fa 1 (.t 3)), (some 60), none⟩, ⟨.op (.ld1 (.t 60)), (some 61), none⟩, ⟨.op (.fa 0 (.t 3)), (some 62), none⟩, ⟨.op (.ld1 (.t 62)), (some 63), none⟩, ⟨.op (.bin .sub 0 (.t 61) (.t 63)), (some 64), none⟩, ⟨.op (.fa 2 (.t 3)), (some 65), none⟩, ⟨.op (.ld1 (.t 65)), (some 66), none⟩, ⟨.op (.len (.t 66)), (some 67), none⟩, ⟨.op (.bin .neq 0 (.t 64) (.t 67)), (some 68), none⟩, ⟨.op (.mv (.t 68)), (some 69), none⟩, ⟨.op (.fa 2 (.t 3)), (some 70), (some (69, false))⟩, ⟨.op (.ld1 (.t 70)), (some 71), (some (69, false))⟩, ⟨.op (.len (.t 71)), (some 72), (some (69, false))⟩, ⟨.op (.bin .gtr 0 (.t 72) (.c (.int .i64 4))), (some 73), (some (69, false))⟩, ⟨.op (.pick (.t 69) (.c (.bool true)) (.t 73)), (some 74), none⟩, ⟨.op (.mv (.t 74)), (some 75), none⟩, ⟨.op (.fa 1 (.t 3)), (some 76), (some (75, false))⟩, ⟨.op (.ld1 (.t 76)), (some 77), (some (75, false))⟩, ⟨.op (.bin .sub 0 (.t 77) (.c (.int .i64 1))), (some 78), (some (75, false))⟩, ⟨.op (.fa 3 (.t 3)), (some 79), (some (75, false))⟩, ⟨.op (.ld1 (.t 79)), (some 80), (some (75, false))⟩, ⟨.op (.len (.t 80)), (some 81), (some (75, false))⟩, ⟨.op (.bin .add 0 (.t 78) (.t 81)), (some 82), (some (75, false))⟩, ⟨.op (.mv (.t 4)), (some 83), (some (75, false))⟩, ⟨.op (.len (.t 83)), (some 84), (some (75, false))⟩, ⟨.op (.bin .neq 0 (.t 82) (.t 84)), (some 85), (some (75, false))⟩, ⟨.op (.pick (.t 75) (.c (.bool true)) (.t 85)), (some 86), none⟩, ⟨.op (.mv (.t 86)), (some 87), none⟩, ⟨.op (.fa 3 (.t 3)), (some 88), (some (87, false))⟩, ⟨.op (.ld1 (.t 88)), (some 89), (some (87, false))⟩, ⟨.op (.len (.t 89)), (some 90), (some (87, false))⟩, ⟨.op (.bin .gtr 0 (.t 90) (.c (.int .i64 0))), (some 91), (some (87, false))⟩, ⟨.op (.mv (.t 91)), (some 92), (some (87, false))⟩, ⟨.op (.fa 2 (.t 3)), (some 93), (some (92, true))⟩, ⟨.op (.ld1 (.t 93)), (some 94), (some (92, true))⟩, ⟨.op (.len (.t 94)), (some 95), (some (92, true))⟩, ⟨.op (.bin .lss 0 (.t 95) (.c (.int .i64 4))), (some 96), (some (92, true))⟩, ⟨.op (.pick (.t 92) (.t 96) (.c (.bool false))), (some 97), (some (87, false))⟩, ⟨.op (.pick (.t 87) (.c (.bool true)) (.t 97)), (some 98), none⟩])
 [0, 3, 4, 5, 98]
 (.cond (.t 98) (.seq (.reg [⟨.op (.mv (.c (.bool false))), (some 2), none⟩])
 [2]
 (.ret)) (.skip)))
 [0, 3, 4, 5]
 (.seq (.seq (.reg [⟨.op (.mv (.c (.int .i64 0))), (some 7), none⟩])
 [0, 3, 4, 5, 7]
 (.block 2 (.loop [0, 3, 4, 5, 7] (l4_0))))
 [0, 3, 4, 5]
 (.seq (.reg [⟨.op (.mv (.c (.int .i64 0))), (some 9), none⟩])
 [0, 3, 4, 5, 9]
 (.block 4 (.loop [0, 3, 4, 5, 9] (l4_1))))))))
 [0, 3, 4, 5]
 (.reg [⟨.op (.mv (.t 5)), (some 20), none⟩, ⟨.op (.bin .add 0 (.t 20) (.c (.int .i64 1))), (some 21), none⟩, ⟨.op (.mv (.t 21)), (some 5), none⟩]))
theorem u4_2 (call : DCall) (T : Tm) (st : Dv.St) : dCw Try.prog call l4_2 T st = dCw Try.prog call
 (.seq (.seq (.reg [⟨.op (.mv (.t 5)), (some 16), none⟩, ⟨.op (.mv (.t 0)), (some 17), none⟩, ⟨.op (.len (.t 17)), (some 18), none⟩, ⟨.op (.bin .lss 0 (.t 16) (.t 18)), (some 19), none⟩])
 [0, 3, 4, 5, 19]
 (.cond (.t 19) (.skip) (.exit 0)))
 [0, 3, 4, 5]
 (.seq (.block 1 (.seq (.seq (.reg [⟨.op (.mv (.t 0)), (some 22), none⟩, ⟨.op (.mv (.t 5)), (some 23), none⟩, ⟨.op (.ia 1 none (.t 22) (.t 23)), (some 24), none⟩, ⟨.op (.ld1 (.t 24)), (some 25), none⟩, ⟨.op (.bin .rem 0 (.t 25) (.c (.int .u8 3))), (some 26), none⟩, ⟨.op (.bin .gtr 0 (.t 26) (.c (.int .u8 0))), (some 27), none⟩])
 [0, 3, 4, 5, 27]
 (.cond (.t 27) (.seq (.reg [⟨.op (.mv (.t 0)), (some 28), none⟩, ⟨.op (.mv (.t 5)), (some 29), none⟩, ⟨.op (.ia 1 none (.t 28) (.t 29)), (some 30), none⟩, ⟨.op (.ld1 (.t 30)), (some 31), none⟩, ⟨.op (.bin .rem 0 (.t 31) (.c (.int .u8 26))), (some 32), none⟩, ⟨.op (.bin .add 0 (.c (.int .u8 97)) (.t 32)), (some 33), none⟩, ⟨.op (.mv (.t 5)), (some 34), none⟩, ⟨.op (.bin .rem 0 (.t 34) (.c (.int .i64 26))), (some 35), none⟩, ⟨.op (.bin .add 0 (.c (.int .i64 97)) (.t 35)), (some 36), none⟩, ⟨.op (.conv .u8 (.t 36)), (some 37), none⟩, ⟨.op (.bslice 1 2 [(.int .u8 0), (.int .u8 0)] [(0, 1, (.t 33)), (1, 1, (.t 37))]), (some 38), none⟩, ⟨.op (.string (.t 38)), (some 39), none⟩, ⟨.op (.mv (.t 39)), (some 6), none⟩])
 [0, 3, 4, 5, 6]
 (.seq (.reg [⟨.op (.mv (.t 4)), (some 40), none⟩, ⟨.op (.mv (.t 6)), (some 41), none⟩, ⟨.op (.bslice 1 1 [(.str [])] [(0, 1, (.t 41))]), (some 42), none⟩, ⟨.op (.app 1 16 false (.t 40) (.t 42)), (some 43), none⟩, ⟨.op (.mv (.t 43)), (some 4), none⟩])
 [0, 3, 4, 5, 6]
 (.reg [⟨.op (.ldn 4 (.t 3)), (some 44), none⟩, ⟨.op (.mv (.t 6)), (some 45), none⟩, ⟨.call 16 [(.t 44), (.t 45)], (some 46), none⟩, ⟨.op (.st 4 (.t 3) (.t 46)), none, none⟩]))) (.drw [⟨⟨.op (.ldn 4 (.t 3)), (some 47), none⟩, .n, []⟩, ⟨⟨.op (.fa 0 (.t 3)), (some 48), none⟩, .n, []⟩, ⟨⟨.op (.ld1 (.t 48)), (some 49), none⟩, .n, []⟩, ⟨⟨.op (.bin .sub 0 (.t 49) (.c (.int .i64 1))), (some 50), none⟩, .n, []⟩, ⟨⟨.op (.mv (.t 0)), (some 51), none⟩, .n, []⟩, ⟨⟨.op (.mv (.t 5)), (some 52), none⟩, .n, []⟩, ⟨⟨.op (.ia 1 none (.t 51) (.t 52)), (some 53), none⟩, .n, []⟩, ⟨⟨.op (.ld1 (.t 53)), (some 54), none⟩, .n, []⟩, ⟨⟨.op (.bin .quo 0 (.t 54) (.c (.int .u8 3))), (some 55), none⟩, .n, []⟩, ⟨⟨.op (.bin .rem 0 (.t 55) (.c (.int .u8 5))), (some 56), none⟩, .n, []⟩, ⟨⟨.op (.conv .i64 (.t 56)), (some 57), none⟩, .n, []⟩, ⟨⟨.op (.bin .add 0 (.t 50) (.t 57)), (some 58), none⟩, .n, []⟩, ⟨⟨.call 18 [(.t 47), (.t 58)], (some 59), none⟩, .x, []⟩, ⟨⟨.op (.st 4 (.t 3) (.t 59)), none, none⟩, .x, []⟩])))
 [0, 3, 4, 5]
 (.seq (.seq (.reg [⟨.op (.fa 1 (.t 3)), (some 60), none⟩, ⟨.op (.ld1 (.t 60)), (some 61), none⟩, ⟨.op (.fa 0 (.t 3)), (some 62), none⟩, ⟨.op (.ld1 (.t 62)), (some 63), none⟩, ⟨.op (.bin .sub 0 (.t 61) (.t 63)), (some 64), none⟩, ⟨.op (.fa 2 (.t 3)), (some 65), none⟩, ⟨.op (.ld1 (.t 65)), (some 66), none⟩, ⟨.op (.len (.t 66)), (some 67), none⟩, ⟨.op (.bin .neq 0 (.t 64) (.t 67)), (some 68), none⟩, ⟨.op (.mv (.t 68)), (some 69), none⟩, ⟨.op (.fa 2 (.t 3)), (some 70), (some (69, false))⟩, ⟨.op (.ld1 (.t 70)), (some 71), (some (69, false))⟩, ⟨.op (.len (.t 71)), (some 72), (some (69, false))⟩, ⟨.op (.bin .gtr 0 (.t 72) (.c (.int .i64 4))), (some 73), (some (69, false))⟩, ⟨.op (.pick (.t 69) (.c (.bool true)) (.t 73)), (some 74), none⟩, ⟨.op (.mv (.t 74)), (some 75), none⟩, ⟨.op (.fa 1 (.t 3)), (some 76), (some (75, false))⟩, ⟨.op (.ld1 (.t 76)), (some 77), (some (75, false))⟩, ⟨.op (.bin .sub 0 (.t 77) (.c (.int .i64 1))), (some 78), (some (75, false))⟩, ⟨.op (.fa 3 (.t 3)), (some 79), (some (75, false))⟩, ⟨.op (.ld1 (.t 79)), (some 80), (some (75, false))⟩, ⟨.op (.len (.t 80)), (some 81), (some (75, false))⟩, ⟨.op (.bin .add 0 (.t 78) (.t 81)), (some 82), (some (75, false))⟩, ⟨.op (.mv (.t 4)), (some 83), (some (75, false))⟩, ⟨.op (.len (.t 83)), (some 84), (some (75, false))⟩, ⟨.op (.bin .neq 0 (.t 82) (.t 84)), (some 85), (some (75, false))⟩, ⟨.op (.pick (.t 75) (.c (.bool true)) (.t 85)), (some 86), none⟩, ⟨.op (.mv (.t 86)), (some 87), none⟩, ⟨.op (.fa 3 (.t 3)), (some 88), (some (87, false))⟩, ⟨.op (.ld1 (.t 88)), (some 89), (some (87, false))⟩, ⟨.op (.len (.t 89)), (some 90), (some (87, false))⟩, ⟨.op (.bin .gtr 0 (.t 90) (.c (.int .i64 0))), (some 91), (some (87, false))⟩, ⟨.op (.mv (.t 91)), (some 92), (some (87, false))⟩, ⟨.op (.fa 2 (.t 3)), (some 93), (some (92, true))⟩, ⟨.op (.ld1 (.t 93)), (some 94), (some (92, true))⟩, ⟨.op (.len (.t 94)), (some 95), (some (92, true))⟩, ⟨.op (.bin .lss 0 (.t 95) (.c (.int .i64 4))), (some 96), (some (92, true))⟩, ⟨.op (.pick (.t 92) (.t 96) (.c (.bool false))), (some 97), (some (87, false))⟩, ⟨.op (.pick (.t 87) (.c (.bool true)) (.t 97)), (some 98), none⟩])
 [0, 3, 4, 5, 98]
 (.cond (.t 98) (.seq (.reg [⟨.op (.mv (.c (.bool false))), (some 2), none⟩])
 [2]
 (.ret)) (.skip)))
 [0, 3, 4, 5]
 (.seq (.seq (.reg [⟨.op (.mv (.c (.int .i64 0))), (some 7), none⟩])
 [0, 3, 4, 5, 7]
 (.block 2 (.loop [0, 3, 4, 5, 7] (l4_0))))
 [0, 3, 4, 5]
 (.seq (.reg [⟨.op (.mv (.c (.int .i64 0))), (some 9), none⟩])
 [0, 3, 4, 5, 9]
 (.block 4 (.loop [0, 3, 4, 5, 9] (l4_1))))))))
 [0, 3, 4, 5]
 (.reg [⟨.op (.mv (.t 5)), (some 20), none⟩, ⟨.op (.bin .add 0 (.t 20) (.c (.int .i64 1))), (some 21), none⟩, ⟨.op (.mv (.t 21)), (some 5), none⟩]))) T st := rfl
/-- cardamom/cardamomlaw20.WindOrder -/
noncomputable def c4 : DFn := ⟨163, .pure,
 .seq (.reg [⟨.op (.mv (.c (.bool false))), (some 2), none⟩])
 [0]
 (.seq (.seq (.reg [⟨.call 13 [], (some 10), none⟩, ⟨.op (.not (.t 10)), (some 11), none⟩])
 [0, 11]
 (.cond (.t 11) (.seq (.reg [⟨.op (.mv (.c (.bool false))), (some 2), none⟩])
 [2]
 (.ret)) (.skip)))
 [0]
 (.seq (.seq (.reg [⟨.op (.mv (.t 0)), (some 12), none⟩, ⟨.op (.len (.t 12)), (some 13), none⟩, ⟨.op (.bin .gtr 0 (.t 13) (.c (.int .i64 60))), (some 14), none⟩])
 [0, 14]
 (.cond (.t 14) (.seq (.reg [⟨.op (.mv (.c (.bool true))), (some 2), none⟩])
 [2]
 (.ret)) (.skip)))
 [0]
 (.seq (.reg [⟨.call 14 [], (some 15), none⟩, ⟨.op (.new [(.int .i64 0), (.int .i64 0), (.sl none 0), (.sl none 0)]), (some 3), none⟩, ⟨.op (.st 4 (.t 3) (.t 15)), none, none⟩])
 [0, 3]
 (.seq (.reg [⟨.op (.mv (.c (.sl none 0))), (some 4), none⟩])
 [0, 3, 4]
 (.seq (.seq (.reg [⟨.op (.mv (.c (.int .i64 0))), (some 5), none⟩])
 [0, 3, 4, 5]
 (.block 0 (.loop [0, 3, 4, 5] (l4_2))))
 []
 (.seq (.reg [⟨.op (.mv (.c (.bool true))), (some 2), none⟩])
 [2]
 (.ret))))))),
 [.tmp 2]⟩
theorem k4 : cFn Try.prog 4 = some c4.toE := by kernel_rfl
theorem w4 : c4.body.wf = true := by kernel_rfl
noncomputable def l13_0 : DC :=
 .seq (.seq (.reg [⟨.op (.mv (.t 2)), (some 5), none⟩, ⟨.op (.bin .lss 0 (.t 5) (.c (.int .i64 5))), (some 6), none⟩])
 [1, 2, 6]
 (.cond (.t 6) (.skip) (.exit 0)))
 [1, 2]
 (.seq (.block 1 (.reg [⟨.op (.ldn 4 (.t 1)), (some 9), none⟩, ⟨.call 16 [(.t 9), (.c (.str [97]))], (some 10), none⟩, ⟨.op (.st 4 (.t 1) (.t 10)), none, none⟩]))
 [1, 2]
 (.reg [⟨.op (.mv (.t 2)), (some 7), none⟩, ⟨.op (.bin .add 0 (.t 7) (.c (.int .i64 1))), (some 8), none⟩, ⟨.op (.mv (.t 8)), (some 2), none⟩]))
theorem u13_0 (call : DCall) (T : Tm) (st : Dv.St) : dCw Try.prog call l13_0 T st = dCw Try.prog call
 (.seq (.seq (.reg [⟨.op (.mv (.t 2)), (some 5), none⟩, ⟨.op (.bin .lss 0 (.t 5) (.c (.int .i64 5))), (some 6), none⟩])
 [1, 2, 6]
 (.cond (.t 6) (.skip) (.exit 0)))
 [1, 2]
 (.seq (.block 1 (.reg [⟨.op (.ldn 4 (.t 1)), (some 9), none⟩, ⟨.call 16 [(.t 9), (.c (.str [97]))], (some 10), none⟩, ⟨.op (.st 4 (.t 1) (.t 10)), none, none⟩]))
 [1, 2]
 (.reg [⟨.op (.mv (.t 2)), (some 7), none⟩, ⟨.op (.bin .add 0 (.t 7) (.c (.int .i64 1))), (some 8), none⟩, ⟨.op (.mv (.t 8)), (some 2), none⟩]))) T st := rfl
/-- cardamom/cardamomlaw20.begun -/
noncomputable def c13 : DFn := ⟨55, .pure,
 .seq (.reg [⟨.op (.mv (.c (.bool false))), (some 0), none⟩])
 []
 (.seq (.reg [⟨.call 14 [], (some 4), none⟩, ⟨.op (.new [(.int .i64 0), (.int .i64 0), (.sl none 0), (.sl none 0)]), (some 1), none⟩, ⟨.op (.st 4 (.t 1) (.t 4)), none, none⟩])
 [1]
 (.seq (.seq (.reg [⟨.op (.mv (.c (.int .i64 0))), (some 2), none⟩])
 [1, 2]
 (.block 0 (.loop [1, 2] (l13_0))))
 [1]
 (.seq (.reg [⟨.op (.ldn 4 (.t 1)), (some 11), none⟩, ⟨.call 18 [(.t 11), (.c (.int .i64 2))], (some 12), none⟩, ⟨.op (.new [(.int .i64 0), (.int .i64 0), (.sl none 0), (.sl none 0)]), (some 3), none⟩, ⟨.op (.st 4 (.t 3) (.t 12)), none, none⟩])
 [1, 3]
 (.seq (.reg [⟨.op (.fa 0 (.t 1)), (some 13), none⟩, ⟨.op (.ld1 (.t 13)), (some 14), none⟩, ⟨.op (.bin .eql 0 (.t 14) (.c (.int .i64 1))), (some 15), none⟩, ⟨.op (.mv (.t 15)), (some 16), none⟩, ⟨.op (.fa 1 (.t 1)), (some 17), (some (16, true))⟩, ⟨.op (.ld1 (.t 17)), (some 18), (some (16, true))⟩, ⟨.op (.bin .eql 0 (.t 18) (.c (.int .i64 5))), (some 19), (some (16, true))⟩, ⟨.op (.pick (.t 16) (.t 19) (.c (.bool false))), (some 20), none⟩, ⟨.op (.mv (.t 20)), (some 21), none⟩, ⟨.op (.fa 2 (.t 1)), (some 22), (some (21, true))⟩, ⟨.op (.ld1 (.t 22)), (some 23), (some (21, true))⟩, ⟨.op (.len (.t 23)), (some 24), (some (21, true))⟩, ⟨.op (.bin .eql 0 (.t 24) (.c (.int .i64 4))), (some 25), (some (21, true))⟩, ⟨.op (.pick (.t 21) (.t 25) (.c (.bool false))), (some 26), none⟩, ⟨.op (.mv (.t 26)), (some 27), none⟩, ⟨.op (.fa 3 (.t 1)), (some 28), (some (27, true))⟩, ⟨.op (.ld1 (.t 28)), (some 29), (some (27, true))⟩, ⟨.op (.len (.t 29)), (some 30), (some (27, true))⟩, ⟨.op (.bin .eql 0 (.t 30) (.c (.int .i64 1))), (some 31), (some (27, true))⟩, ⟨.op (.pick (.t 27) (.t 31) (.c (.bool false))), (some 32), none⟩, ⟨.op (.mv (.t 32)), (some 33), none⟩, ⟨.op (.fa 0 (.t 3)), (some 34), (some (33, true))⟩, ⟨.op (.ld1 (.t 34)), (some 35), (some (33, true))⟩, ⟨.op (.bin .eql 0 (.t 35) (.c (.int .i64 3))), (some 36), (some (33, true))⟩, ⟨.op (.pick (.t 33) (.t 36) (.c (.bool false))), (some 37), none⟩, ⟨.op (.mv (.t 37)), (some 38), none⟩, ⟨.op (.fa 1 (.t 3)), (some 39), (some (38, true))⟩, ⟨.op (.ld1 (.t 39)), (some 40), (some (38, true))⟩, ⟨.op (.bin .eql 0 (.t 40) (.c (.int .i64 6))), (some 41), (some (38, true))⟩, ⟨.op (.pick (.t 38) (.t 41) (.c (.bool false))), (some 42), none⟩, ⟨.op (.mv (.t 42)), (some 43), none⟩, ⟨.op (.fa 2 (.t 3)), (some 44), (some (43, true))⟩, ⟨.op (.ld1 (.t 44)), (some 45), (some (43, true))⟩, ⟨.op (.len (.t 45)), (some 46), (some (43, true))⟩, ⟨.op (.bin .eql 0 (.t 46) (.c (.int .i64 3))), (some 47), (some (43, true))⟩, ⟨.op (.pick (.t 43) (.t 47) (.c (.bool false))), (some 48), none⟩, ⟨.op (.mv (.t 48)), (some 49), none⟩, ⟨.op (.fa 3 (.t 3)), (some 50), (some (49, true))⟩, ⟨.op (.ld1 (.t 50)), (some 51), (some (49, true))⟩, ⟨.op (.len (.t 51)), (some 52), (some (49, true))⟩, ⟨.op (.bin .eql 0 (.t 52) (.c (.int .i64 0))), (some 53), (some (49, true))⟩, ⟨.op (.pick (.t 49) (.t 53) (.c (.bool false))), (some 54), none⟩, ⟨.op (.mv (.t 54)), (some 0), none⟩])
 [0]
 (.ret))))),
 [.tmp 0]⟩
theorem k13 : cFn Try.prog 13 = some c13.toE := by kernel_rfl
theorem w13 : c13.body.wf = true := by kernel_rfl
/-- cardamom/wind.New -/
noncomputable def c14 : DFn := ⟨2, .pure,
 .seq (.reg [⟨.op (.new [(.int .i64 0), (.int .i64 0), (.sl none 0), (.sl none 0)]), (some 0), none⟩])
 [0]
 (.seq (.reg [⟨.op (.build [(.int .i64 0), (.int .i64 0), (.sl none 0), (.sl none 0)] [(0, 1, (.c (.int .i64 1))), (1, 1, (.c (.int .i64 1)))]), (some 1), none⟩, ⟨.op (.st 4 (.t 0) (.t 1)), none, none⟩])
 [0]
 (.ret)),
 [.celln 4 0]⟩
theorem k14 : cFn Try.prog 14 = some c14.toE := by kernel_rfl
theorem w14 : c14.body.wf = true := by kernel_rfl
/-- cardamom/wind.Send -/
noncomputable def c16 : DFn := ⟨15, .pure,
 .seq (.reg [⟨.op (.box (.t 0)), (some 2), none⟩, ⟨.op (.new [(.int .i64 0), (.int .i64 0), (.sl none 0), (.sl none 0)]), (some 4), none⟩])
 [1, 2, 4]
 (.seq (.reg [⟨.op (.ldn 4 (.t 2)), (some 5), none⟩, ⟨.call 34 [(.t 5)], (some 6), none⟩, ⟨.op (.st 4 (.t 2) (.t 6)), none, none⟩])
 [1, 2, 4]
 (.seq (.reg [⟨.op (.fa 3 (.t 2)), (some 7), none⟩, ⟨.op (.ld1 (.t 7)), (some 8), none⟩, ⟨.op (.mv (.t 1)), (some 9), none⟩, ⟨.op (.bslice 1 1 [(.str [])] [(0, 1, (.t 9))]), (some 10), none⟩, ⟨.op (.app 1 16 false (.t 8) (.t 10)), (some 11), none⟩, ⟨.op (.fa 3 (.t 2)), (some 12), none⟩, ⟨.op (.st 1 (.t 12) (.t 11)), none, none⟩])
 [2, 4]
 (.seq (.reg [⟨.op (.ldn 4 (.t 2)), (some 13), none⟩, ⟨.call 35 [(.t 13)], (some 14), none⟩, ⟨.op (.st 4 (.t 4) (.t 14)), none, none⟩])
 [4]
 (.ret)))),
 [.celln 4 4]⟩
theorem k16 : cFn Try.prog 16 = some c16.toE := by kernel_rfl
theorem w16 : c16.body.wf = true := by kernel_rfl
/-- cardamom/wind.Told -/
noncomputable def c18 : DFn := ⟨28, .pure,
 .seq (.reg [⟨.op (.box (.t 0)), (some 2), none⟩, ⟨.op (.box (.t 1)), (some 3), none⟩, ⟨.op (.new [(.int .i64 0), (.int .i64 0), (.sl none 0), (.sl none 0)]), (some 4), none⟩])
 [2, 3, 4]
 (.seq (.reg [⟨.op (.ldn 4 (.t 2)), (some 5), none⟩, ⟨.call 34 [(.t 5)], (some 6), none⟩, ⟨.op (.st 4 (.t 2) (.t 6)), none, none⟩])
 [2, 3, 4]
 (.seq (.block 0 (.seq (.block 2 (.block 1 (.seq (.seq (.seq (.reg [⟨.op (.ld1 (.t 3)), (some 8), none⟩, ⟨.op (.fa 0 (.t 2)), (some 9), none⟩, ⟨.op (.ld1 (.t 9)), (some 10), none⟩, ⟨.op (.bin .lss 0 (.t 8) (.t 10)), (some 11), none⟩, ⟨.op (.mv (.t 11)), (some 7), none⟩])
 [2, 3, 4, 7]
 (.cond (.t 7) (.exit 1) (.skip)))
 [2, 3, 4]
 (.seq (.reg [⟨.op (.ld1 (.t 3)), (some 13), none⟩, ⟨.op (.fa 1 (.t 2)), (some 14), none⟩, ⟨.op (.ld1 (.t 14)), (some 15), none⟩, ⟨.op (.bin .geq 0 (.t 13) (.t 15)), (some 16), none⟩, ⟨.op (.mv (.t 16)), (some 12), none⟩])
 [2, 3, 4, 12]
 (.cond (.t 12) (.exit 2) (.skip))))
 [2, 3, 4]
 (.exit 0))))
 [2, 4]
 (.seq (.seq (.reg [⟨.op (.ldn 4 (.t 2)), (some 17), none⟩, ⟨.op (.st 4 (.t 4) (.t 17)), none, none⟩])
 [4]
 (.ret))
 [2, 3, 4]
 (.exit 0))))
 [2, 3, 4]
 (.seq (.reg [⟨.op (.fa 2 (.t 2)), (some 18), none⟩, ⟨.op (.ld1 (.t 18)), (some 19), none⟩, ⟨.op (.fn 38 [(.t 3)]), (some 20), none⟩, ⟨.call 37 [(.t 19), (.t 20)], (some 21), none⟩, ⟨.op (.fa 2 (.t 2)), (some 22), none⟩, ⟨.op (.st 1 (.t 22) (.t 21)), none, none⟩])
 [2, 3, 4]
 (.seq (.reg [⟨.op (.ld1 (.t 3)), (some 23), none⟩, ⟨.op (.bin .add 0 (.t 23) (.c (.int .i64 1))), (some 24), none⟩, ⟨.op (.fa 0 (.t 2)), (some 25), none⟩, ⟨.op (.st 1 (.t 25) (.t 24)), none, none⟩])
 [2, 4]
 (.seq (.reg [⟨.op (.ldn 4 (.t 2)), (some 26), none⟩, ⟨.call 35 [(.t 26)], (some 27), none⟩, ⟨.op (.st 4 (.t 4) (.t 27)), none, none⟩])
 [4]
 (.ret)))))),
 [.celln 4 4]⟩
theorem k18 : cFn Try.prog 18 = some c18.toE := by kernel_rfl
theorem w18 : c18.body.wf = true := by kernel_rfl
/-- cardamom/wind.Told$1 -/
noncomputable def c38 : DFn := ⟨8, .pure,
 .seq (.reg [⟨.op (.box (.t 0)), (some 2), none⟩, ⟨.op (.mv (.c (.bool false))), (some 3), none⟩])
 [1, 2]
 (.seq (.reg [⟨.op (.fa 0 (.t 2)), (some 4), none⟩, ⟨.op (.ld1 (.t 4)), (some 5), none⟩, ⟨.op (.ld1 (.t 1)), (some 6), none⟩, ⟨.op (.bin .leq 0 (.t 5) (.t 6)), (some 7), none⟩, ⟨.op (.mv (.t 7)), (some 3), none⟩])
 [3]
 (.ret)),
 [.tmp 3]⟩
theorem k38 : cFn Try.prog 38 = some c38.toE := by kernel_rfl
theorem w38 : c38.body.wf = true := by kernel_rfl
/-- cardamom/wind.twin -/
noncomputable def c34 : DFn := ⟨12, .own,
 .seq (.reg [⟨.op (.box (.t 0)), (some 1), none⟩, ⟨.op (.new [(.int .i64 0), (.int .i64 0), (.sl none 0), (.sl none 0)]), (some 2), none⟩])
 [1, 2]
 (.seq (.drw [⟨⟨.op (.fa 2 (.t 1)), (some 3), none⟩, .n, []⟩, ⟨⟨.op (.ld1 (.t 3)), (some 4), none⟩, .n, []⟩, ⟨⟨.op (.fa 3 (.t 1)), (some 6), none⟩, .n, []⟩, ⟨⟨.op (.ld1 (.t 6)), (some 7), none⟩, .n, []⟩, ⟨⟨.call 45 [(.t 4)], (some 5), none⟩, .x, [(true, 3)]⟩, ⟨⟨.op (.fa 2 (.t 1)), (some 9), none⟩, .n, []⟩, ⟨⟨.call 46 [(.t 7)], (some 8), none⟩, .x, []⟩, ⟨⟨.op (.st 1 (.t 9) (.t 5)), none, none⟩, .x, []⟩, ⟨⟨.op (.fa 3 (.t 1)), (some 10), none⟩, .n, []⟩, ⟨⟨.op (.st 1 (.t 10) (.t 8)), none, none⟩, .x, []⟩])
 [1, 2]
 (.seq (.reg [⟨.op (.ldn 4 (.t 1)), (some 11), none⟩, ⟨.op (.st 4 (.t 2) (.t 11)), none, none⟩])
 [2]
 (.ret))),
 [.celln 4 2]⟩
theorem k34 : cFn Try.prog 34 = some c34.toE := by kernel_rfl
theorem w34 : c34.body.wf = true := by kernel_rfl
noncomputable def l35_0 : DC :=
 .seq (.seq (.reg [⟨.op (.fa 3 (.t 1)), (some 3), none⟩, ⟨.op (.ld1 (.t 3)), (some 4), none⟩, ⟨.op (.len (.t 4)), (some 5), none⟩, ⟨.op (.bin .gtr 0 (.t 5) (.c (.int .i64 0))), (some 6), none⟩, ⟨.op (.mv (.t 6)), (some 7), none⟩, ⟨.op (.fa 1 (.t 1)), (some 8), (some (7, true))⟩, ⟨.op (.ld1 (.t 8)), (some 9), (some (7, true))⟩, ⟨.op (.fa 0 (.t 1)), (some 10), (some (7, true))⟩, ⟨.op (.ld1 (.t 10)), (some 11), (some (7, true))⟩, ⟨.op (.bin .add 0 (.t 11) (.c (.int .i64 4))), (some 12), (some (7, true))⟩, ⟨.op (.bin .lss 0 (.t 9) (.t 12)), (some 13), (some (7, true))⟩, ⟨.op (.pick (.t 7) (.t 13) (.c (.bool false))), (some 14), none⟩])
 [1, 2, 14]
 (.cond (.t 14) (.skip) (.exit 0)))
 [1, 2]
 (.block 1 (.seq (.drw [⟨⟨.op (.fa 2 (.t 1)), (some 15), none⟩, .n, []⟩, ⟨⟨.op (.ld1 (.t 15)), (some 16), none⟩, .n, []⟩, ⟨⟨.op (.fa 1 (.t 1)), (some 17), none⟩, .n, []⟩, ⟨⟨.op (.ld1 (.t 17)), (some 18), none⟩, .n, []⟩, ⟨⟨.op (.fa 3 (.t 1)), (some 19), none⟩, .n, []⟩, ⟨⟨.op (.ld1 (.t 19)), (some 20), none⟩, .n, []⟩, ⟨⟨.op (.ia 1 none (.t 20) (.c (.int .i64 0))), (some 21), none⟩, .n, []⟩, ⟨⟨.op (.ld1 (.t 21)), (some 22), none⟩, .n, []⟩, ⟨⟨.op (.build [(.int .i64 0), (.str [])] [(0, 1, (.t 18)), (1, 1, (.t 22))]), (some 23), none⟩, .n, []⟩, ⟨⟨.op (.bslice 2 1 [(.int .i64 0), (.str [])] [(0, 2, (.t 23))]), (some 24), none⟩, .a, [(true, 7), (true, 5), (true, 3), (true, 1)]⟩, ⟨⟨.op (.app 2 24 false (.t 16) (.t 24)), (some 25), none⟩, .x, []⟩, ⟨⟨.op (.fa 2 (.t 1)), (some 26), none⟩, .n, []⟩, ⟨⟨.op (.st 1 (.t 26) (.t 25)), none, none⟩, .x, []⟩])
 [1, 2]
 (.seq (.reg [⟨.op (.fa 3 (.t 1)), (some 27), none⟩, ⟨.op (.ld1 (.t 27)), (some 28), none⟩, ⟨.op (.cut 1 none (.t 28) (some (.c (.int .i64 1))) none), (some 29), none⟩, ⟨.op (.fa 3 (.t 1)), (some 30), none⟩, ⟨.op (.st 1 (.t 30) (.t 29)), none, none⟩])
 [1, 2]
 (.reg [⟨.op (.fa 1 (.t 1)), (some 31), none⟩, ⟨.op (.ld1 (.t 31)), (some 32), none⟩, ⟨.op (.bin .add 0 (.t 32) (.c (.int .i64 1))), (some 33), none⟩, ⟨.op (.fa 1 (.t 1)), (some 34), none⟩, ⟨.op (.st 1 (.t 34) (.t 33)), none, none⟩]))))
theorem u35_0 (call : DCall) (T : Tm) (st : Dv.St) : dCw Try.prog call l35_0 T st = dCw Try.prog call
 (.seq (.seq (.reg [⟨.op (.fa 3 (.t 1)), (some 3), none⟩, ⟨.op (.ld1 (.t 3)), (some 4), none⟩, ⟨.op (.len (.t 4)), (some 5), none⟩, ⟨.op (.bin .gtr 0 (.t 5) (.c (.int .i64 0))), (some 6), none⟩, ⟨.op (.mv (.t 6)), (some 7), none⟩, ⟨.op (.fa 1 (.t 1)), (some 8), (some (7, true))⟩, ⟨.op (.ld1 (.t 8)), (some 9), (some (7, true))⟩, ⟨.op (.fa 0 (.t 1)), (some 10), (some (7, true))⟩, ⟨.op (.ld1 (.t 10)), (some 11), (some (7, true))⟩, ⟨.op (.bin .add 0 (.t 11) (.c (.int .i64 4))), (some 12), (some (7, true))⟩, ⟨.op (.bin .lss 0 (.t 9) (.t 12)), (some 13), (some (7, true))⟩, ⟨.op (.pick (.t 7) (.t 13) (.c (.bool false))), (some 14), none⟩])
 [1, 2, 14]
 (.cond (.t 14) (.skip) (.exit 0)))
 [1, 2]
 (.block 1 (.seq (.drw [⟨⟨.op (.fa 2 (.t 1)), (some 15), none⟩, .n, []⟩, ⟨⟨.op (.ld1 (.t 15)), (some 16), none⟩, .n, []⟩, ⟨⟨.op (.fa 1 (.t 1)), (some 17), none⟩, .n, []⟩, ⟨⟨.op (.ld1 (.t 17)), (some 18), none⟩, .n, []⟩, ⟨⟨.op (.fa 3 (.t 1)), (some 19), none⟩, .n, []⟩, ⟨⟨.op (.ld1 (.t 19)), (some 20), none⟩, .n, []⟩, ⟨⟨.op (.ia 1 none (.t 20) (.c (.int .i64 0))), (some 21), none⟩, .n, []⟩, ⟨⟨.op (.ld1 (.t 21)), (some 22), none⟩, .n, []⟩, ⟨⟨.op (.build [(.int .i64 0), (.str [])] [(0, 1, (.t 18)), (1, 1, (.t 22))]), (some 23), none⟩, .n, []⟩, ⟨⟨.op (.bslice 2 1 [(.int .i64 0), (.str [])] [(0, 2, (.t 23))]), (some 24), none⟩, .a, [(true, 7), (true, 5), (true, 3), (true, 1)]⟩, ⟨⟨.op (.app 2 24 false (.t 16) (.t 24)), (some 25), none⟩, .x, []⟩, ⟨⟨.op (.fa 2 (.t 1)), (some 26), none⟩, .n, []⟩, ⟨⟨.op (.st 1 (.t 26) (.t 25)), none, none⟩, .x, []⟩])
 [1, 2]
 (.seq (.reg [⟨.op (.fa 3 (.t 1)), (some 27), none⟩, ⟨.op (.ld1 (.t 27)), (some 28), none⟩, ⟨.op (.cut 1 none (.t 28) (some (.c (.int .i64 1))) none), (some 29), none⟩, ⟨.op (.fa 3 (.t 1)), (some 30), none⟩, ⟨.op (.st 1 (.t 30) (.t 29)), none, none⟩])
 [1, 2]
 (.reg [⟨.op (.fa 1 (.t 1)), (some 31), none⟩, ⟨.op (.ld1 (.t 31)), (some 32), none⟩, ⟨.op (.bin .add 0 (.t 32) (.c (.int .i64 1))), (some 33), none⟩, ⟨.op (.fa 1 (.t 1)), (some 34), none⟩, ⟨.op (.st 1 (.t 34) (.t 33)), none, none⟩]))))) T st := rfl
/-- cardamom/wind.goes -/
noncomputable def c35 : DFn := ⟨36, .own,
 .seq (.reg [⟨.op (.box (.t 0)), (some 1), none⟩, ⟨.op (.new [(.int .i64 0), (.int .i64 0), (.sl none 0), (.sl none 0)]), (some 2), none⟩])
 [1, 2]
 (.seq (.block 0 (.loop [1, 2] (l35_0)))
 [1, 2]
 (.seq (.reg [⟨.op (.ldn 4 (.t 1)), (some 35), none⟩, ⟨.op (.st 4 (.t 2) (.t 35)), none, none⟩])
 [2]
 (.ret))),
 [.celln 4 2]⟩
theorem k35 : cFn Try.prog 35 = some c35.toE := by kernel_rfl
theorem w35 : c35.body.wf = true := by kernel_rfl
noncomputable def l37_0 : DC :=
 .seq (.seq (.reg [⟨.op (.mv (.t 6)), (some 16), none⟩, ⟨.op (.mv (.t 0)), (some 17), none⟩, ⟨.op (.len (.t 17)), (some 18), none⟩, ⟨.op (.bin .lss 0 (.t 16) (.t 18)), (some 19), none⟩])
 [0, 1, 5, 6, 19]
 (.cond (.t 19) (.skip) (.exit 0)))
 [0, 1, 5, 6]
 (.seq (.block 1 (.seq (.reg [⟨.op (.mv (.t 0)), (some 22), none⟩, ⟨.op (.mv (.t 6)), (some 23), none⟩, ⟨.op (.ia 2 none (.t 22) (.t 23)), (some 24), none⟩, ⟨.op (.ldn 2 (.t 24)), (some 25), none⟩, ⟨.op (.new [(.int .i64 0), (.str [])]), (some 7), none⟩, ⟨.op (.st 2 (.t 7) (.t 25)), none, none⟩])
 [0, 1, 5, 6, 7]
 (.seq (.reg [⟨.op (.mv (.t 1)), (some 26), none⟩, ⟨.op (.ldn 2 (.t 7)), (some 27), none⟩, ⟨.callv (.t 26) [(.t 27)], (some 28), none⟩, ⟨.op (.not (.t 28)), (some 29), none⟩])
 [0, 1, 5, 6, 7, 29]
 (.cond (.t 29) (.seq (.reg [⟨.op (.mv (.t 0)), (some 30), none⟩, ⟨.op (.mv (.t 5)), (some 31), none⟩, ⟨.op (.ldn 2 (.t 7)), (some 32), none⟩, ⟨.op (.ia 2 none (.t 30) (.t 31)), (some 33), none⟩, ⟨.op (.st 2 (.t 33) (.t 32)), none, none⟩])
 [0, 1, 5, 6]
 (.reg [⟨.op (.mv (.t 5)), (some 34), none⟩, ⟨.op (.bin .add 0 (.t 34) (.c (.int .i64 1))), (some 35), none⟩, ⟨.op (.mv (.t 35)), (some 5), none⟩])) (.skip)))))
 [0, 1, 5, 6]
 (.reg [⟨.op (.mv (.t 6)), (some 20), none⟩, ⟨.op (.bin .add 0 (.t 20) (.c (.int .i64 1))), (some 21), none⟩, ⟨.op (.mv (.t 21)), (some 6), none⟩]))
theorem u37_0 (call : DCall) (T : Tm) (st : Dv.St) : dCw Try.prog call l37_0 T st = dCw Try.prog call
 (.seq (.seq (.reg [⟨.op (.mv (.t 6)), (some 16), none⟩, ⟨.op (.mv (.t 0)), (some 17), none⟩, ⟨.op (.len (.t 17)), (some 18), none⟩, ⟨.op (.bin .lss 0 (.t 16) (.t 18)), (some 19), none⟩])
 [0, 1, 5, 6, 19]
 (.cond (.t 19) (.skip) (.exit 0)))
 [0, 1, 5, 6]
 (.seq (.block 1 (.seq (.reg [⟨.op (.mv (.t 0)), (some 22), none⟩, ⟨.op (.mv (.t 6)), (some 23), none⟩, ⟨.op (.ia 2 none (.t 22) (.t 23)), (some 24), none⟩, ⟨.op (.ldn 2 (.t 24)), (some 25), none⟩, ⟨.op (.new [(.int .i64 0), (.str [])]), (some 7), none⟩, ⟨.op (.st 2 (.t 7) (.t 25)), none, none⟩])
 [0, 1, 5, 6, 7]
 (.seq (.reg [⟨.op (.mv (.t 1)), (some 26), none⟩, ⟨.op (.ldn 2 (.t 7)), (some 27), none⟩, ⟨.callv (.t 26) [(.t 27)], (some 28), none⟩, ⟨.op (.not (.t 28)), (some 29), none⟩])
 [0, 1, 5, 6, 7, 29]
 (.cond (.t 29) (.seq (.reg [⟨.op (.mv (.t 0)), (some 30), none⟩, ⟨.op (.mv (.t 5)), (some 31), none⟩, ⟨.op (.ldn 2 (.t 7)), (some 32), none⟩, ⟨.op (.ia 2 none (.t 30) (.t 31)), (some 33), none⟩, ⟨.op (.st 2 (.t 33) (.t 32)), none, none⟩])
 [0, 1, 5, 6]
 (.reg [⟨.op (.mv (.t 5)), (some 34), none⟩, ⟨.op (.bin .add 0 (.t 34) (.c (.int .i64 1))), (some 35), none⟩, ⟨.op (.mv (.t 35)), (some 5), none⟩])) (.skip)))))
 [0, 1, 5, 6]
 (.reg [⟨.op (.mv (.t 6)), (some 20), none⟩, ⟨.op (.bin .add 0 (.t 20) (.c (.int .i64 1))), (some 21), none⟩, ⟨.op (.mv (.t 21)), (some 6), none⟩]))) T st := rfl
/-- slices.DeleteFunc[[]cardamom/api.Seg,cardamom/api.Seg] -/
noncomputable def c37 : DFn := ⟨42, .own,
 .seq (.reg [⟨.op (.mv (.c (.sl none 0))), (some 4), none⟩])
 [0, 1]
 (.seq (.reg [⟨.op (.mv (.t 0)), (some 8), none⟩, ⟨.op (.mv (.t 1)), (some 9), none⟩, ⟨.call 47 [(.t 8), (.t 9)], (some 10), none⟩, ⟨.op (.mv (.t 10)), (some 5), none⟩])
 [0, 1, 5]
 (.seq (.seq (.reg [⟨.op (.mv (.t 5)), (some 11), none⟩, ⟨.op (.bin .eql 0 (.t 11) (.c (.int .i64 (-1)))), (some 12), none⟩])
 [0, 1, 5, 12]
 (.cond (.t 12) (.seq (.reg [⟨.op (.mv (.t 0)), (some 13), none⟩, ⟨.op (.mv (.t 13)), (some 4), none⟩])
 [4]
 (.ret)) (.skip)))
 [0, 1, 5]
 (.seq (.seq (.reg [⟨.op (.mv (.t 5)), (some 14), none⟩, ⟨.op (.bin .add 0 (.t 14) (.c (.int .i64 1))), (some 15), none⟩, ⟨.op (.mv (.t 15)), (some 6), none⟩])
 [0, 1, 5, 6]
 (.block 0 (.loop [0, 1, 5, 6] (l37_0))))
 [0, 5]
 (.seq (.reg [⟨.op (.mv (.t 0)), (some 36), none⟩, ⟨.op (.mv (.t 5)), (some 37), none⟩, ⟨.op (.cut 2 none (.t 36) (some (.t 37)) none), (some 38), none⟩, ⟨.op (.clr 2 [(.int .i64 0), (.str [])] (.t 38)), none, none⟩])
 [0, 5]
 (.seq (.reg [⟨.op (.mv (.t 0)), (some 39), none⟩, ⟨.op (.mv (.t 5)), (some 40), none⟩, ⟨.op (.cut 2 none (.t 39) none (some (.t 40))), (some 41), none⟩, ⟨.op (.mv (.t 41)), (some 4), none⟩])
 [4]
 (.ret)))))),
 [.tmp 4]⟩
theorem k37 : cFn Try.prog 37 = some c37.toE := by kernel_rfl
theorem w37 : c37.body.wf = true := by kernel_rfl
noncomputable def l47_0 : DC :=
 .seq (.reg [⟨.op (.bin .lss 0 (.t 8) (.t 7)), (some 9), none⟩])
 [0, 1, 7, 8, 9]
 (.seq (.cond (.t 9) (.skip) (.exit 0))
 [0, 1, 7, 8]
 (.seq (.block 1 (.seq (.reg [⟨.op (.mv (.t 8)), (some 10), none⟩, ⟨.op (.mv (.t 10)), (some 5), none⟩])
 [0, 1, 5, 7, 8]
 (.seq (.reg [⟨.op (.mv (.t 1)), (some 11), none⟩, ⟨.op (.mv (.t 0)), (some 12), none⟩, ⟨.op (.mv (.t 5)), (some 13), none⟩, ⟨.op (.ia 2 none (.t 12) (.t 13)), (some 14), none⟩, ⟨.op (.ldn 2 (.t 14)), (some 15), none⟩, ⟨.callv (.t 11) [(.t 15)], (some 16), none⟩])
 [0, 1, 5, 7, 8, 16]
 (.cond (.t 16) (.seq (.reg [⟨.op (.mv (.t 5)), (some 17), none⟩, ⟨.op (.mv (.t 17)), (some 4), none⟩])
 [4]
 (.ret)) (.skip)))))
 [0, 1, 7, 8]
 (.reg [⟨.op (.bin .add 0 (.t 8) (.c (.int .i64 1))), (some 18), none⟩, ⟨.op (.mv (.t 18)), (some 8), none⟩])))
theorem u47_0 (call : DCall) (T : Tm) (st : Dv.St) : dCw Try.prog call l47_0 T st = dCw Try.prog call
 (.seq (.reg [⟨.op (.bin .lss 0 (.t 8) (.t 7)), (some 9), none⟩])
 [0, 1, 7, 8, 9]
 (.seq (.cond (.t 9) (.skip) (.exit 0))
 [0, 1, 7, 8]
 (.seq (.block 1 (.seq (.reg [⟨.op (.mv (.t 8)), (some 10), none⟩, ⟨.op (.mv (.t 10)), (some 5), none⟩])
 [0, 1, 5, 7, 8]
 (.seq (.reg [⟨.op (.mv (.t 1)), (some 11), none⟩, ⟨.op (.mv (.t 0)), (some 12), none⟩, ⟨.op (.mv (.t 5)), (some 13), none⟩, ⟨.op (.ia 2 none (.t 12) (.t 13)), (some 14), none⟩, ⟨.op (.ldn 2 (.t 14)), (some 15), none⟩, ⟨.callv (.t 11) [(.t 15)], (some 16), none⟩])
 [0, 1, 5, 7, 8, 16]
 (.cond (.t 16) (.seq (.reg [⟨.op (.mv (.t 5)), (some 17), none⟩, ⟨.op (.mv (.t 17)), (some 4), none⟩])
 [4]
 (.ret)) (.skip)))))
 [0, 1, 7, 8]
 (.reg [⟨.op (.bin .add 0 (.t 8) (.c (.int .i64 1))), (some 18), none⟩, ⟨.op (.mv (.t 18)), (some 8), none⟩])))) T st := rfl
/-- slices.IndexFunc[[]cardamom/api.Seg,cardamom/api.Seg] -/
noncomputable def c47 : DFn := ⟨19, .pure,
 .seq (.reg [⟨.op (.mv (.c (.int .i64 0))), (some 4), none⟩])
 [0, 1]
 (.seq (.seq (.reg [⟨.op (.mv (.t 0)), (some 6), none⟩, ⟨.op (.len (.t 6)), (some 7), none⟩, ⟨.op (.mv (.c (.int .i64 0))), (some 8), none⟩])
 [0, 1, 7, 8]
 (.block 0 (.loop [0, 1, 7, 8] (l47_0))))
 []
 (.seq (.reg [⟨.op (.mv (.c (.int .i64 (-1)))), (some 4), none⟩])
 [4]
 (.ret))),
 [.tmp 4]⟩
theorem k47 : cFn Try.prog 47 = some c47.toE := by kernel_rfl
theorem w47 : c47.body.wf = true := by kernel_rfl
/-- slices.Clone[[]cardamom/api.Seg,cardamom/api.Seg] -/
noncomputable def c45 : DFn := ⟨8, .pure,
 .seq (.reg [⟨.op (.mv (.c (.sl none 0))), (some 2), none⟩])
 [0]
 (.seq (.seq (.reg [⟨.op (.mv (.t 0)), (some 3), none⟩, ⟨.op (.bin .eql 1 (.t 3) (.c (.sl none 0))), (some 4), none⟩])
 [0, 4]
 (.cond (.t 4) (.seq (.reg [⟨.op (.mv (.c (.sl none 0))), (some 2), none⟩])
 [2]
 (.ret)) (.skip)))
 [0]
 (.seq (.reg [⟨.op (.bslice 2 0 [] []), (some 5), none⟩, ⟨.op (.mv (.t 0)), (some 6), none⟩, ⟨.op (.app 2 24 false (.t 5) (.t 6)), (some 7), none⟩, ⟨.op (.mv (.t 7)), (some 2), none⟩])
 [2]
 (.ret))),
 [.tmp 2]⟩
theorem k45 : cFn Try.prog 45 = some c45.toE := by kernel_rfl
theorem w45 : c45.body.wf = true := by kernel_rfl
/-- slices.Clone[[]string,string] -/
noncomputable def c46 : DFn := ⟨8, .pure,
 .seq (.reg [⟨.op (.mv (.c (.sl none 0))), (some 2), none⟩])
 [0]
 (.seq (.seq (.reg [⟨.op (.mv (.t 0)), (some 3), none⟩, ⟨.op (.bin .eql 1 (.t 3) (.c (.sl none 0))), (some 4), none⟩])
 [0, 4]
 (.cond (.t 4) (.seq (.reg [⟨.op (.mv (.c (.sl none 0))), (some 2), none⟩])
 [2]
 (.ret)) (.skip)))
 [0]
 (.seq (.reg [⟨.op (.bslice 1 0 [] []), (some 5), none⟩, ⟨.op (.mv (.t 0)), (some 6), none⟩, ⟨.op (.app 1 16 false (.t 5) (.t 6)), (some 7), none⟩, ⟨.op (.mv (.t 7)), (some 2), none⟩])
 [2]
 (.ret))),
 [.tmp 2]⟩
theorem k46 : cFn Try.prog 46 = some c46.toE := by kernel_rfl
theorem w46 : c46.body.wf = true := by kernel_rfl
def tbl : Nat → Option DFn := fun f => bif Nat.beq f 4 then some c4 else bif Nat.beq f 13 then some c13 else bif Nat.beq f 14 then some c14 else bif Nat.beq f 16 then some c16 else bif Nat.beq f 18 then some c18 else bif Nat.beq f 38 then some c38 else bif Nat.beq f 34 then some c34 else bif Nat.beq f 35 then some c35 else bif Nat.beq f 37 then some c37 else bif Nat.beq f 47 then some c47 else none
def dx : DX := fun f => bif Nat.beq f 45 then some (dClone 2 24) else bif Nat.beq f 46 then some (dClone 1 16) else none
def prims : Prims := fun f => none
theorem code_ok : ∀ f df, tbl f = some df → cFn Try.prog f = some df.toE ∧ df.body.wf = true := by
  intro f df h
  unfold tbl at h
  by_cases h4 : f = 4
  · subst h4; rw [Nat.beq_refl, cond_true] at h; rw [← Option.some.inj h]; exact ⟨k4, w4⟩
  rw [Ev.beq_false _ _ h4, cond_false] at h
  by_cases h13 : f = 13
  · subst h13; rw [Nat.beq_refl, cond_true] at h; rw [← Option.some.inj h]; exact ⟨k13, w13⟩
  rw [Ev.beq_false _ _ h13, cond_false] at h
  by_cases h14 : f = 14
  · subst h14; rw [Nat.beq_refl, cond_true] at h; rw [← Option.some.inj h]; exact ⟨k14, w14⟩
  rw [Ev.beq_false _ _ h14, cond_false] at h
  by_cases h16 : f = 16
  · subst h16; rw [Nat.beq_refl, cond_true] at h; rw [← Option.some.inj h]; exact ⟨k16, w16⟩
  rw [Ev.beq_false _ _ h16, cond_false] at h
  by_cases h18 : f = 18
  · subst h18; rw [Nat.beq_refl, cond_true] at h; rw [← Option.some.inj h]; exact ⟨k18, w18⟩
  rw [Ev.beq_false _ _ h18, cond_false] at h
  by_cases h38 : f = 38
  · subst h38; rw [Nat.beq_refl, cond_true] at h; rw [← Option.some.inj h]; exact ⟨k38, w38⟩
  rw [Ev.beq_false _ _ h38, cond_false] at h
  by_cases h34 : f = 34
  · subst h34; rw [Nat.beq_refl, cond_true] at h; rw [← Option.some.inj h]; exact ⟨k34, w34⟩
  rw [Ev.beq_false _ _ h34, cond_false] at h
  by_cases h35 : f = 35
  · subst h35; rw [Nat.beq_refl, cond_true] at h; rw [← Option.some.inj h]; exact ⟨k35, w35⟩
  rw [Ev.beq_false _ _ h35, cond_false] at h
  by_cases h37 : f = 37
  · subst h37; rw [Nat.beq_refl, cond_true] at h; rw [← Option.some.inj h]; exact ⟨k37, w37⟩
  rw [Ev.beq_false _ _ h37, cond_false] at h
  by_cases h47 : f = 47
  · subst h47; rw [Nat.beq_refl, cond_true] at h; rw [← Option.some.inj h]; exact ⟨k47, w47⟩
  rw [Ev.beq_false _ _ h47, cond_false] at h
  cases h
theorem ext_ok : ∀ f g, prims f = none → dx f = some g → ∀ (k : Nat) (ds : List D) (st : Dv.St) (r : D × Dv.St × List Nat) (c : Ct) (H : Heap) (vs : List V), g ds st = some r → SR c st H → Row (DR c H) ds vs → Fol c st H r (eFn Try.prog prims (cFn Try.prog) listHP (k + 1) f vs H) := by
  intro f g _ h
  unfold dx at h
  by_cases h45 : f = 45
  · subst h45; rw [Nat.beq_refl, cond_true] at h; rw [← Option.some.inj h]; exact clone_ok (z := 2) (bytes := 24) (by kernel_rfl) k45
  rw [Ev.beq_false _ _ h45, cond_false] at h
  by_cases h46 : f = 46
  · subst h46; rw [Nat.beq_refl, cond_true] at h; rw [← Option.some.inj h]; exact clone_ok (z := 1) (bytes := 16) (by kernel_rfl) k46
  rw [Ev.beq_false _ _ h46, cond_false] at h
  cases h
theorem tbl_ok : TblOK Try.prog prims (cFn Try.prog) dx tbl := ⟨fun f df _ _ h => code_ok f df h, ext_ok⟩
theorem prims_ok : PrimsOK Try.prog prims := noPrims_ok _
end
end Go.Proofs.Ytnidonakekiloaa.Cd
