/- Some of the summaries, reckoned. -/
import Derived.Test.YtonaljecilcnbaaGreatDoorAS
namespace Go.Proofs.YtonaljecilcnbaaGreatDoor
namespace Ax
theorem qA7 : smQ sA7 = true := by decide +kernel
set_option maxRecDepth 1000000 in
theorem rA7 : okR (smK E0 (bd E0 ixA6 (codeI E0 9 ixA6) 300) 156 sA7) = true := by decide +kernel
end Ax
end Go.Proofs.YtonaljecilcnbaaGreatDoor
