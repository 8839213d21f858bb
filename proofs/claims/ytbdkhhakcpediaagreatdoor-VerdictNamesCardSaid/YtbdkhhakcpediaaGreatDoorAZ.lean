/- The summaries may stand, one behind the other. -/
import Derived.Test.YtbdkhhakcpediaaGreatDoorAR0
import Derived.Test.YtbdkhhakcpediaaGreatDoorAR1
namespace Go.Proofs.YtbdkhhakcpediaaGreatDoor
namespace Ax
theorem kA0 : IxOK E0 ixA0 := chain_ok e0_ok ix0_ok qA0 rA0
theorem kA1 : IxOK E0 ixA1 := chain_ok e0_ok kA0 qA1 rA1
end Ax
end Go.Proofs.YtbdkhhakcpediaaGreatDoor
