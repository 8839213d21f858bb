/- The summaries may stand, one behind the other. -/
import Derived.Test.YtcmepallgchcjaaGreatY0
import Derived.Test.YtcmepallgchcjaaGreatVR0
namespace Go.Proofs.YtcmepallgchcjaaGreat
namespace Ax
theorem kV0 : IxOK E0 ixV0 := chain_ok e0_ok ix0_ok qV0 rV0
theorem kV1 : IxOK E0 ixV1 := chain_ok e0_ok kV0 qV1 rV1
end Ax
end Go.Proofs.YtcmepallgchcjaaGreat
