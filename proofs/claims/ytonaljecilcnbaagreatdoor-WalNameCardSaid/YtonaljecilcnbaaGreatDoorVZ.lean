/- The summaries may stand, one behind the other. -/
import Derived.Test.YtonaljecilcnbaaGreatDoorY0
import Derived.Test.YtonaljecilcnbaaGreatDoorVR0
import Derived.Test.YtonaljecilcnbaaGreatDoorVR1
import Derived.Test.YtonaljecilcnbaaGreatDoorVR2
import Derived.Test.YtonaljecilcnbaaGreatDoorVR3
import Derived.Test.YtonaljecilcnbaaGreatDoorVR4
import Derived.Test.YtonaljecilcnbaaGreatDoorVR5
import Derived.Test.YtonaljecilcnbaaGreatDoorVR6
namespace Go.Proofs.YtonaljecilcnbaaGreatDoor
namespace Ax
theorem kV0 : IxOK E0 ixV0 := chain_ok e0_ok ix0_ok qV0 rV0
theorem kV1 : IxOK E0 ixV1 := chain_ok e0_ok kV0 qV1 rV1
theorem kV2 : IxOK E0 ixV2 := chain_ok e0_ok kV1 qV2 rV2
theorem kV3 : IxOK E0 ixV3 := chain_ok e0_ok kV2 qV3 rV3
theorem kV4 : IxOK E0 ixV4 := chain_ok e0_ok kV3 qV4 rV4
theorem kV5 : IxOK E0 ixV5 := chain_ok e0_ok kV4 qV5 rV5
theorem kV6 : IxOK E0 ixV6 := chain_ok e0_ok kV5 qV6 rV6
theorem kV7 : IxOK E0 ixV7 := chain_ok e0_ok kV6 qV7 rV7
theorem kV8 : IxOK E0 ixV8 := chain_ok e0_ok kV7 qV8 rV8
theorem kV9 : IxOK E0 ixV9 := chain_ok e0_ok kV8 qV9 rV9
theorem kV10 : IxOK E0 ixV10 := chain_ok e0_ok kV9 qV10 rV10
theorem kV11 : IxOK E0 ixV11 := chain_ok e0_ok kV10 qV11 rV11
theorem kV12 : IxOK E0 ixV12 := chain_ok e0_ok kV11 qV12 rV12
theorem kV13 : IxOK E0 ixV13 := chain_ok e0_ok kV12 qV13 rV13
end Ax
end Go.Proofs.YtonaljecilcnbaaGreatDoor
