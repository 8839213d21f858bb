/- Some of the summaries, reckoned. -/
import Derived.Test.YtnnficmkdahpjaaGreatDoorVS
namespace Go.Proofs.YtnnficmkdahpjaaGreatDoor
namespace Ax
theorem qV2 : smQ sV2 = true := by decide +kernel
set_option maxRecDepth 1000000 in
theorem rV2 : okR (smK E0 (bd E0 ixV1 (codeI E0 10 ixV1) 300) 12 sV2) = true := by decide +kernel
theorem qV3 : smQ sV3 = true := by decide +kernel
set_option maxRecDepth 1000000 in
theorem rV3 : okR (smK E0 (bd E0 ixV2 (codeI E0 10 ixV2) 300) 234 sV3) = true := by decide +kernel
end Ax
end Go.Proofs.YtnnficmkdahpjaaGreatDoor
