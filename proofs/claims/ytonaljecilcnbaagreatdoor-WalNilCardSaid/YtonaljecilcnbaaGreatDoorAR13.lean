/- Some of the summaries, reckoned. -/
import Derived.Test.YtonaljecilcnbaaGreatDoorAS
namespace Go.Proofs.YtonaljecilcnbaaGreatDoor
namespace Ax
theorem qA13 : smQ sA13 = true := by decide +kernel
set_option maxRecDepth 1000000 in
theorem rA13 : okR (smK E0 (bd E0 ixA12 (codeI E0 9 ixA12) 300) 156 sA13) = true := by decide +kernel
end Ax
end Go.Proofs.YtonaljecilcnbaaGreatDoor
