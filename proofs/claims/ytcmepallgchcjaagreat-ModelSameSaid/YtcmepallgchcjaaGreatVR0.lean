/- Some of the summaries, reckoned. -/
import Derived.Test.YtcmepallgchcjaaGreatVS
namespace Go.Proofs.YtcmepallgchcjaaGreat
namespace Ax
theorem qV0 : smQ sV0 = true := by decide +kernel
set_option maxRecDepth 1000000 in
theorem rV0 : okR (smK E0 (bd E0 ix0 (codeI E0 9 ix0) 300) 22 sV0) = true := by decide +kernel
theorem qV1 : smQ sV1 = true := by decide +kernel
set_option maxRecDepth 1000000 in
theorem rV1 : okR (smK E0 (bd E0 ixV0 (codeI E0 9 ixV0) 300) 22 sV1) = true := by decide +kernel
end Ax
end Go.Proofs.YtcmepallgchcjaaGreat
