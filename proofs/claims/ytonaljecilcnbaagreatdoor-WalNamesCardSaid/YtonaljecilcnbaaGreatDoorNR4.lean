/- Some of the summaries, reckoned. -/
import Derived.Test.YtonaljecilcnbaaGreatDoorNS
namespace Go.Proofs.YtonaljecilcnbaaGreatDoor
namespace Ax
theorem qN8 : smQ sN8 = true := by decide +kernel
set_option maxRecDepth 1000000 in
theorem rN8 : okR (smK E0 (bd E0 ixN7 (codeI E0 9 ixN7) 300) 156 sN8) = true := by decide +kernel
theorem qN9 : smQ sN9 = true := by decide +kernel
set_option maxRecDepth 1000000 in
theorem rN9 : okR (smK E0 (bd E0 ixN8 (codeI E0 9 ixN8) 300) 156 sN9) = true := by decide +kernel
end Ax
end Go.Proofs.YtonaljecilcnbaaGreatDoor
