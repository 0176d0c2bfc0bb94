/- CrcForms: the sums of some bytes are those that the document names. -/
import Derived.Test.YtmomaojkmidgmaaPAllx18
namespace Go.Proofs.Ytmomaojkmidgmaa.Pure
open Go.RowKit Go.Proofs.Ytmomaojkmidgmaa.PAll Go.Proofs.YtmomaojkmidgmaaW.PrintWords Go.Proofs.YtmomaojkmidgmaaW.PrintLast

theorem CrcForms : cardamomlaw16_CrcForms.Pure := rfl

end Go.Proofs.Ytmomaojkmidgmaa.Pure
