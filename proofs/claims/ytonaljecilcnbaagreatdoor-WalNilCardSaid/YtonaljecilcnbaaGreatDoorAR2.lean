/- Some of the summaries, reckoned. -/
import Derived.Test.YtonaljecilcnbaaGreatDoorAS
namespace Go.Proofs.YtonaljecilcnbaaGreatDoor
namespace Ax
theorem qA2 : smQ sA2 = true := by decide +kernel
set_option maxRecDepth 1000000 in
theorem rA2 : okR (smK E0 (bd E0 ixA1 (codeI E0 9 ixA1) 300) 156 sA2) = true := by decide +kernel
end Ax
end Go.Proofs.YtonaljecilcnbaaGreatDoor
