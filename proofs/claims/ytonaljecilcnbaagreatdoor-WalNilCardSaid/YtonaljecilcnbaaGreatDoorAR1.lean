/- Some of the summaries, reckoned. -/
import Derived.Test.YtonaljecilcnbaaGreatDoorAS
namespace Go.Proofs.YtonaljecilcnbaaGreatDoor
namespace Ax
theorem qA1 : smQ sA1 = true := by decide +kernel
set_option maxRecDepth 1000000 in
theorem rA1 : okR (smK E0 (bd E0 ixA0 (codeI E0 9 ixA0) 300) 156 sA1) = true := by decide +kernel
end Ax
end Go.Proofs.YtonaljecilcnbaaGreatDoor
