/- Some of the summaries, reckoned. -/
import Derived.Test.YtonaljecilcnbaaGreatDoorNS
namespace Go.Proofs.YtonaljecilcnbaaGreatDoor
namespace Ax
theorem qN14 : smQ sN14 = true := by decide +kernel
set_option maxRecDepth 1000000 in
theorem rN14 : okR (smK E0 (bd E0 ixN13 (codeI E0 9 ixN13) 300) 156 sN14) = true := by decide +kernel
theorem qN15 : smQ sN15 = true := by decide +kernel
set_option maxRecDepth 1000000 in
theorem rN15 : okR (smK E0 (bd E0 ixN14 (codeI E0 9 ixN14) 300) 156 sN15) = true := by decide +kernel
end Ax
end Go.Proofs.YtonaljecilcnbaaGreatDoor
