/- Some of the summaries, reckoned. -/
import Derived.Test.YtonaljecilcnbaaGreatDoorAS
namespace Go.Proofs.YtonaljecilcnbaaGreatDoor
namespace Ax
theorem qA12 : smQ sA12 = true := by decide +kernel
set_option maxRecDepth 1000000 in
theorem rA12 : okR (smK E0 (bd E0 ixA11 (codeI E0 9 ixA11) 300) 156 sA12) = true := by decide +kernel
end Ax
end Go.Proofs.YtonaljecilcnbaaGreatDoor
