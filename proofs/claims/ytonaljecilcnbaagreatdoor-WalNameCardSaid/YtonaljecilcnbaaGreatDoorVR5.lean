/- Some of the summaries, reckoned. -/
import Derived.Test.YtonaljecilcnbaaGreatDoorVS
namespace Go.Proofs.YtonaljecilcnbaaGreatDoor
namespace Ax
theorem qV10 : smQ sV10 = true := by decide +kernel
set_option maxRecDepth 1000000 in
theorem rV10 : okR (smK E0 (bd E0 ixV9 (codeI E0 9 ixV9) 300) 156 sV10) = true := by decide +kernel
theorem qV11 : smQ sV11 = true := by decide +kernel
set_option maxRecDepth 1000000 in
theorem rV11 : okR (smK E0 (bd E0 ixV10 (codeI E0 9 ixV10) 300) 156 sV11) = true := by decide +kernel
end Ax
end Go.Proofs.YtonaljecilcnbaaGreatDoor
