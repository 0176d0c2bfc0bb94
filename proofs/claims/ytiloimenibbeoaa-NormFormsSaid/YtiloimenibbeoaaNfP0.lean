/-
  What is proved here: the run up to the loop.
  Conditions: none.
-/
import Derived.Test.YtiloimenibbeoaaNfSA
set_option linter.unusedVariables false
set_option linter.unusedSimpArgs false
set_option maxRecDepth 100000
namespace Go.Proofs.Ytiloimenibbeoaa.Nf
open Go Go.Proofs Go.Proofs.Ev
theorem part0 : fC pre7 Try.prog tabHP (fFn Try.prog noPrims tbl tabHP 399) 399 .nil (⟨0, .nil⟩ : HT) = some (.normal, T0, H0) := by kernel_rfl
end Go.Proofs.Ytiloimenibbeoaa.Nf
