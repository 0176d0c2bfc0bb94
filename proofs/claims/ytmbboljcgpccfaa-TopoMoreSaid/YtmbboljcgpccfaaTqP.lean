/-
  What is proved here: how far it is over any edges of five (plain).
  Conditions: none.
-/
import Derived.Test.YtmbboljcgpccfaaTpP
set_option maxRecDepth 100000
set_option maxHeartbeats 8000000
namespace Go.Proofs.Ytmbboljcgpccfaa.Pl
theorem all_S5 : (subs (allE 5)).all (fun e => !connB 5 e || checkS 5 e) = true := by decide +kernel
end Go.Proofs.Ytmbboljcgpccfaa.Pl
