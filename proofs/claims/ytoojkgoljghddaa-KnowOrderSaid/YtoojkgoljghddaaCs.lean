/-
  What is proved here: how stamps stand to one another, in plain numbers.
  Conditions: none.
-/
import Derived.Test.YtoojkgoljghddaaDv3
set_option linter.unusedVariables false
set_option linter.unusedSimpArgs false
namespace Go.Proofs.Ytoojkgoljghddaa.Pl
open Go Go.Proofs

def cmpI (x y : Int) : Int := if x < y then -1 else if x > y then 1 else 0
def cmpS (a b : Int × Int × Int) : Int := if cmpI a.1 b.1 = 0 then (if cmpI a.2.1 b.2.1 = 0 then cmpI a.2.2 b.2.2 else cmpI a.2.1 b.2.1) else cmpI a.1 b.1
theorem cmpS_lt (a1 a2 a3 b1 b2 b3 : Int) : cmpS (a1, a2, a3) (b1, b2, b3) = -1 ↔ a1 < b1 ∨ (a1 = b1 ∧ (a2 < b2 ∨ (a2 = b2 ∧ a3 < b3))) := by
  simp only [cmpS, cmpI]
  repeat' split
  all_goals omega
theorem cmpS_eq (a1 a2 a3 b1 b2 b3 : Int) : cmpS (a1, a2, a3) (b1, b2, b3) = 0 ↔ a1 = b1 ∧ a2 = b2 ∧ a3 = b3 := by
  simp only [cmpS, cmpI]
  repeat' split
  all_goals omega
theorem cmpS_gt (a1 a2 a3 b1 b2 b3 : Int) : cmpS (a1, a2, a3) (b1, b2, b3) = 1 ↔ b1 < a1 ∨ (a1 = b1 ∧ (b2 < a2 ∨ (a2 = b2 ∧ b3 < a3))) := by
  simp only [cmpS, cmpI]
  repeat' split
  all_goals omega
theorem cmpS_3 (a1 a2 a3 b1 b2 b3 : Int) : cmpS (a1, a2, a3) (b1, b2, b3) = -1 ∨ cmpS (a1, a2, a3) (b1, b2, b3) = 0 ∨ cmpS (a1, a2, a3) (b1, b2, b3) = 1 := by
  simp only [cmpS, cmpI]
  repeat' split
  all_goals omega
end Go.Proofs.Ytoojkgoljghddaa.Pl
