/- Some of the summaries, reckoned. -/
import Derived.Test.YtonaljecilcnbaaGreatDoorAS
namespace Go.Proofs.YtonaljecilcnbaaGreatDoor
namespace Ax
theorem qA10 : smQ sA10 = true := by decide +kernel
set_option maxRecDepth 1000000 in
theorem rA10 : okR (smK E0 (bd E0 ixA9 (codeI E0 9 ixA9) 300) 156 sA10) = true := by decide +kernel
end Ax
end Go.Proofs.YtonaljecilcnbaaGreatDoor
