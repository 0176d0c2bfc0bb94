/-
  What is proved here: the last rounds of the loop, and what is behind it.
  Conditions: none.
-/
import Derived.Test.YtiloimenibbeoaaNfSC
set_option linter.unusedVariables false
set_option linter.unusedSimpArgs false
set_option maxRecDepth 100000
namespace Go.Proofs.Ytiloimenibbeoaa.Nf
open Go Go.Proofs Go.Proofs.Ev
theorem partE : saysTrueE (h := tabHP) (fFn_out tabHP [.tmp 0] (fC_then (h := tabHP) (fC r7 Try.prog tabHP (fFn Try.prog noPrims tbl tabHP 399) 399) (fC_out (h := tabHP) 0 (fC_iter (h := tabHP) (fC x7 Try.prog tabHP (fFn Try.prog noPrims tbl tabHP 399) 399) 380 T19 H19)))) = true := by kernel_rfl
end Go.Proofs.Ytiloimenibbeoaa.Nf
