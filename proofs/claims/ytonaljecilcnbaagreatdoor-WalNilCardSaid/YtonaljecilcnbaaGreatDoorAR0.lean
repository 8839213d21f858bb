/- Some of the summaries, reckoned. -/
import Derived.Test.YtonaljecilcnbaaGreatDoorAS
namespace Go.Proofs.YtonaljecilcnbaaGreatDoor
namespace Ax
theorem qA0 : smQ sA0 = true := by decide +kernel
set_option maxRecDepth 1000000 in
theorem rA0 : okR (smK E0 (bd E0 ix0 (codeI E0 9 ix0) 300) 156 sA0) = true := by decide +kernel
end Ax
end Go.Proofs.YtonaljecilcnbaaGreatDoor
