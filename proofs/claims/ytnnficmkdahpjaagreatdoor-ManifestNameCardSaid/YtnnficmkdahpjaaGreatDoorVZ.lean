/- The summaries may stand, one behind the other. -/
import Derived.Test.YtnnficmkdahpjaaGreatDoorY0
import Derived.Test.YtnnficmkdahpjaaGreatDoorVR0
import Derived.Test.YtnnficmkdahpjaaGreatDoorVR1
import Derived.Test.YtnnficmkdahpjaaGreatDoorVR2
import Derived.Test.YtnnficmkdahpjaaGreatDoorVR3
import Derived.Test.YtnnficmkdahpjaaGreatDoorVR4
namespace Go.Proofs.YtnnficmkdahpjaaGreatDoor
namespace Ax
theorem kV0 : IxOK E0 ixV0 := chain_ok e0_ok ix0_ok qV0 rV0
theorem kV1 : IxOK E0 ixV1 := chain_ok e0_ok kV0 qV1 rV1
theorem kV2 : IxOK E0 ixV2 := chain_ok e0_ok kV1 qV2 rV2
theorem kV3 : IxOK E0 ixV3 := chain_ok e0_ok kV2 qV3 rV3
theorem kV4 : IxOK E0 ixV4 := chain_ok e0_ok kV3 qV4 rV4
theorem kV5 : IxOK E0 ixV5 := chain_ok e0_ok kV4 qV5 rV5
theorem kV6 : IxOK E0 ixV6 := chain_ok e0_ok kV5 qV6 rV6
theorem kV7 : IxOK E0 ixV7 := chain_ok e0_ok kV6 qV7 rV7
theorem kV8 : IxOK E0 ixV8 := chain_ok e0_ok kV7 qV8 rV8
theorem kV9 : IxOK E0 ixV9 := chain_ok e0_ok kV8 qV9 rV9
end Ax
end Go.Proofs.YtnnficmkdahpjaaGreatDoor
