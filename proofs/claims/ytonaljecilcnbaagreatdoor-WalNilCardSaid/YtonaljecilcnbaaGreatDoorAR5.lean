/- Some of the summaries, reckoned. -/
import Derived.Test.YtonaljecilcnbaaGreatDoorAS
namespace Go.Proofs.YtonaljecilcnbaaGreatDoor
namespace Ax
theorem qA5 : smQ sA5 = true := by decide +kernel
set_option maxRecDepth 1000000 in
theorem rA5 : okR (smK E0 (bd E0 ixA4 (codeI E0 9 ixA4) 300) 156 sA5) = true := by decide +kernel
end Ax
end Go.Proofs.YtonaljecilcnbaaGreatDoor
