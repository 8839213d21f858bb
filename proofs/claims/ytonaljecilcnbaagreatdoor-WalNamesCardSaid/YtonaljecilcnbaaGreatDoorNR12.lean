/- Some of the summaries, reckoned. -/
import Derived.Test.YtonaljecilcnbaaGreatDoorNS
namespace Go.Proofs.YtonaljecilcnbaaGreatDoor
namespace Ax
theorem qN24 : smQ sN24 = true := by decide +kernel
set_option maxRecDepth 1000000 in
theorem rN24 : okR (smK E0 (bd E0 ixN23 (codeI E0 9 ixN23) 300) 156 sN24) = true := by decide +kernel
theorem qN25 : smQ sN25 = true := by decide +kernel
set_option maxRecDepth 1000000 in
theorem rN25 : okR (smK E0 (bd E0 ixN24 (codeI E0 9 ixN24) 300) 156 sN25) = true := by decide +kernel
end Ax
end Go.Proofs.YtonaljecilcnbaaGreatDoor
