/- Some of the summaries, reckoned. -/
import Derived.Test.YtonaljecilcnbaaGreatDoorNS
namespace Go.Proofs.YtonaljecilcnbaaGreatDoor
namespace Ax
theorem qN6 : smQ sN6 = true := by decide +kernel
set_option maxRecDepth 1000000 in
theorem rN6 : okR (smK E0 (bd E0 ixN5 (codeI E0 9 ixN5) 300) 156 sN6) = true := by decide +kernel
theorem qN7 : smQ sN7 = true := by decide +kernel
set_option maxRecDepth 1000000 in
theorem rN7 : okR (smK E0 (bd E0 ixN6 (codeI E0 9 ixN6) 300) 156 sN7) = true := by decide +kernel
end Ax
end Go.Proofs.YtonaljecilcnbaaGreatDoor
