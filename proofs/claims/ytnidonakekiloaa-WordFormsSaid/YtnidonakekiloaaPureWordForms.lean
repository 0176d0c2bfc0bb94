/- WordForms: what is no word, and where: the program's answers at the document's texts. -/
import Derived.Test.YtnidonakekiloaaPAllx36
namespace Go.Proofs.Ytnidonakekiloaa.Pure
open Go.RowKit Go.Proofs.Ytnidonakekiloaa.PAll Go.Proofs.YtnidonakekiloaaW.PrintWords Go.Proofs.YtnidonakekiloaaW.PrintLast

set_option maxRecDepth 100000 in
theorem WordForms : cardamomlaw4_WordForms.Pure := ⟨300, by decide +kernel⟩

end Go.Proofs.Ytnidonakekiloaa.Pure
