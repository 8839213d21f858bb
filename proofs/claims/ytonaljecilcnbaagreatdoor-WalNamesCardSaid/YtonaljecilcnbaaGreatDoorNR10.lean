/- Some of the summaries, reckoned. -/
import Derived.Test.YtonaljecilcnbaaGreatDoorNS
namespace Go.Proofs.YtonaljecilcnbaaGreatDoor
namespace Ax
theorem qN20 : smQ sN20 = true := by decide +kernel
set_option maxRecDepth 1000000 in
theorem rN20 : okR (smK E0 (bd E0 ixN19 (codeI E0 9 ixN19) 300) 156 sN20) = true := by decide +kernel
theorem qN21 : smQ sN21 = true := by decide +kernel
set_option maxRecDepth 1000000 in
theorem rN21 : okR (smK E0 (bd E0 ixN20 (codeI E0 9 ixN20) 300) 156 sN21) = true := by decide +kernel
end Ax
end Go.Proofs.YtonaljecilcnbaaGreatDoor
