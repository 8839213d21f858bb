/- Some of the summaries, reckoned. -/
import Derived.Test.YtonaljecilcnbaaGreatDoorNS
namespace Go.Proofs.YtonaljecilcnbaaGreatDoor
namespace Ax
theorem qN18 : smQ sN18 = true := by decide +kernel
set_option maxRecDepth 1000000 in
theorem rN18 : okR (smK E0 (bd E0 ixN17 (codeI E0 9 ixN17) 300) 156 sN18) = true := by decide +kernel
theorem qN19 : smQ sN19 = true := by decide +kernel
set_option maxRecDepth 1000000 in
theorem rN19 : okR (smK E0 (bd E0 ixN18 (codeI E0 9 ixN18) 300) 156 sN19) = true := by decide +kernel
end Ax
end Go.Proofs.YtonaljecilcnbaaGreatDoor
