/-
  What is proved here: rounds of the loop.
  Conditions: none.
-/
import Derived.Test.YtiloimenibbeoaaNfSB
set_option linter.unusedVariables false
set_option linter.unusedSimpArgs false
set_option maxRecDepth 100000
namespace Go.Proofs.Ytiloimenibbeoaa.Nf
open Go Go.Proofs Go.Proofs.Ev
theorem part1 : rounds (h := tabHP) (fC x7 Try.prog tabHP (fFn Try.prog noPrims tbl tabHP 399) 399) 11 T0 H0 = some (T11, H11) := by kernel_rfl
end Go.Proofs.Ytiloimenibbeoaa.Nf
