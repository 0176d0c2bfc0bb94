/-
  What is proved here: rounds of the loop.
  Conditions: none.
-/
import Derived.Test.YtiloimenibbeoaaNfSC
set_option linter.unusedVariables false
set_option linter.unusedSimpArgs false
set_option maxRecDepth 100000
namespace Go.Proofs.Ytiloimenibbeoaa.Nf
open Go Go.Proofs Go.Proofs.Ev
theorem part2 : rounds (h := tabHP) (fC x7 Try.prog tabHP (fFn Try.prog noPrims tbl tabHP 399) 399) 8 T11 H11 = some (T19, H19) := by kernel_rfl
end Go.Proofs.Ytiloimenibbeoaa.Nf
