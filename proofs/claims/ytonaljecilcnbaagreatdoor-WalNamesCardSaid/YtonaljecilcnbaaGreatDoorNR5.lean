/- Some of the summaries, reckoned. -/
import Derived.Test.YtonaljecilcnbaaGreatDoorNS
namespace Go.Proofs.YtonaljecilcnbaaGreatDoor
namespace Ax
theorem qN10 : smQ sN10 = true := by decide +kernel
set_option maxRecDepth 1000000 in
theorem rN10 : okR (smK E0 (bd E0 ixN9 (codeI E0 9 ixN9) 300) 156 sN10) = true := by decide +kernel
theorem qN11 : smQ sN11 = true := by decide +kernel
set_option maxRecDepth 1000000 in
theorem rN11 : okR (smK E0 (bd E0 ixN10 (codeI E0 9 ixN10) 300) 156 sN11) = true := by decide +kernel
end Ax
end Go.Proofs.YtonaljecilcnbaaGreatDoor
