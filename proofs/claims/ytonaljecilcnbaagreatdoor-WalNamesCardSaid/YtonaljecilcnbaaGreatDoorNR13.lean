/- Some of the summaries, reckoned. -/
import Derived.Test.YtonaljecilcnbaaGreatDoorNS
namespace Go.Proofs.YtonaljecilcnbaaGreatDoor
namespace Ax
theorem qN26 : smQ sN26 = true := by decide +kernel
set_option maxRecDepth 1000000 in
theorem rN26 : okR (smK E0 (bd E0 ixN25 (codeI E0 9 ixN25) 300) 156 sN26) = true := by decide +kernel
theorem qN27 : smQ sN27 = true := by decide +kernel
set_option maxRecDepth 1000000 in
theorem rN27 : okR (smK E0 (bd E0 ixN26 (codeI E0 9 ixN26) 300) 6 sN27) = true := by decide +kernel
end Ax
end Go.Proofs.YtonaljecilcnbaaGreatDoor
