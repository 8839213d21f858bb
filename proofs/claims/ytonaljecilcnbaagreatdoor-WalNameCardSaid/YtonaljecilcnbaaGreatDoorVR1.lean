/- Some of the summaries, reckoned. -/
import Derived.Test.YtonaljecilcnbaaGreatDoorVS
namespace Go.Proofs.YtonaljecilcnbaaGreatDoor
namespace Ax
theorem qV2 : smQ sV2 = true := by decide +kernel
set_option maxRecDepth 1000000 in
theorem rV2 : okR (smK E0 (bd E0 ixV1 (codeI E0 9 ixV1) 300) 156 sV2) = true := by decide +kernel
theorem qV3 : smQ sV3 = true := by decide +kernel
set_option maxRecDepth 1000000 in
theorem rV3 : okR (smK E0 (bd E0 ixV2 (codeI E0 9 ixV2) 300) 156 sV3) = true := by decide +kernel
end Ax
end Go.Proofs.YtonaljecilcnbaaGreatDoor
