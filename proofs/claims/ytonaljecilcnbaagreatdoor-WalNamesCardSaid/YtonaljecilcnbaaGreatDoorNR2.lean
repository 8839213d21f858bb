/- Some of the summaries, reckoned. -/
import Derived.Test.YtonaljecilcnbaaGreatDoorNS
namespace Go.Proofs.YtonaljecilcnbaaGreatDoor
namespace Ax
theorem qN4 : smQ sN4 = true := by decide +kernel
set_option maxRecDepth 1000000 in
theorem rN4 : okR (smK E0 (bd E0 ixN3 (codeI E0 9 ixN3) 300) 156 sN4) = true := by decide +kernel
theorem qN5 : smQ sN5 = true := by decide +kernel
set_option maxRecDepth 1000000 in
theorem rN5 : okR (smK E0 (bd E0 ixN4 (codeI E0 9 ixN4) 300) 156 sN5) = true := by decide +kernel
end Ax
end Go.Proofs.YtonaljecilcnbaaGreatDoor
