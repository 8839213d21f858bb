/- Some of the summaries, reckoned. -/
import Derived.Test.YtonaljecilcnbaaGreatDoorNS
namespace Go.Proofs.YtonaljecilcnbaaGreatDoor
namespace Ax
theorem qN22 : smQ sN22 = true := by decide +kernel
set_option maxRecDepth 1000000 in
theorem rN22 : okR (smK E0 (bd E0 ixN21 (codeI E0 9 ixN21) 300) 156 sN22) = true := by decide +kernel
theorem qN23 : smQ sN23 = true := by decide +kernel
set_option maxRecDepth 1000000 in
theorem rN23 : okR (smK E0 (bd E0 ixN22 (codeI E0 9 ixN22) 300) 156 sN23) = true := by decide +kernel
end Ax
end Go.Proofs.YtonaljecilcnbaaGreatDoor
