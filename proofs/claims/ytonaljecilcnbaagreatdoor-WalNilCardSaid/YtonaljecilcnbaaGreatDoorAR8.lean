/- Some of the summaries, reckoned. -/
import Derived.Test.YtonaljecilcnbaaGreatDoorAS
namespace Go.Proofs.YtonaljecilcnbaaGreatDoor
namespace Ax
theorem qA8 : smQ sA8 = true := by decide +kernel
set_option maxRecDepth 1000000 in
theorem rA8 : okR (smK E0 (bd E0 ixA7 (codeI E0 9 ixA7) 300) 156 sA8) = true := by decide +kernel
end Ax
end Go.Proofs.YtonaljecilcnbaaGreatDoor
