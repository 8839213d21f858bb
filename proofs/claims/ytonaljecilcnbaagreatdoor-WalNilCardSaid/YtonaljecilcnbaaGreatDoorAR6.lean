/- Some of the summaries, reckoned. -/
import Derived.Test.YtonaljecilcnbaaGreatDoorAS
namespace Go.Proofs.YtonaljecilcnbaaGreatDoor
namespace Ax
theorem qA6 : smQ sA6 = true := by decide +kernel
set_option maxRecDepth 1000000 in
theorem rA6 : okR (smK E0 (bd E0 ixA5 (codeI E0 9 ixA5) 300) 156 sA6) = true := by decide +kernel
end Ax
end Go.Proofs.YtonaljecilcnbaaGreatDoor
