/- Some of the summaries, reckoned. -/
import Derived.Test.YtonaljecilcnbaaGreatDoorAS
namespace Go.Proofs.YtonaljecilcnbaaGreatDoor
namespace Ax
theorem qA9 : smQ sA9 = true := by decide +kernel
set_option maxRecDepth 1000000 in
theorem rA9 : okR (smK E0 (bd E0 ixA8 (codeI E0 9 ixA8) 300) 156 sA9) = true := by decide +kernel
end Ax
end Go.Proofs.YtonaljecilcnbaaGreatDoor
