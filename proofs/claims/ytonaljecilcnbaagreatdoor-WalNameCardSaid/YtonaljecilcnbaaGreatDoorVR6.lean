/- Some of the summaries, reckoned. -/
import Derived.Test.YtonaljecilcnbaaGreatDoorVS
namespace Go.Proofs.YtonaljecilcnbaaGreatDoor
namespace Ax
theorem qV12 : smQ sV12 = true := by decide +kernel
set_option maxRecDepth 1000000 in
theorem rV12 : okR (smK E0 (bd E0 ixV11 (codeI E0 9 ixV11) 300) 156 sV12) = true := by decide +kernel
theorem qV13 : smQ sV13 = true := by decide +kernel
set_option maxRecDepth 1000000 in
theorem rV13 : okR (smK E0 (bd E0 ixV12 (codeI E0 9 ixV12) 300) 156 sV13) = true := by decide +kernel
end Ax
end Go.Proofs.YtonaljecilcnbaaGreatDoor
