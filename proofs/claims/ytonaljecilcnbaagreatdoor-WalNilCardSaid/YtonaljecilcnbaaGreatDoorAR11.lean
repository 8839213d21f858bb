/- Some of the summaries, reckoned. -/
import Derived.Test.YtonaljecilcnbaaGreatDoorAS
namespace Go.Proofs.YtonaljecilcnbaaGreatDoor
namespace Ax
theorem qA11 : smQ sA11 = true := by decide +kernel
set_option maxRecDepth 1000000 in
theorem rA11 : okR (smK E0 (bd E0 ixA10 (codeI E0 9 ixA10) 300) 156 sA11) = true := by decide +kernel
end Ax
end Go.Proofs.YtonaljecilcnbaaGreatDoor
