/- Some of the summaries, reckoned. -/
import Derived.Test.YtonaljecilcnbaaGreatDoorAS
namespace Go.Proofs.YtonaljecilcnbaaGreatDoor
namespace Ax
theorem qA3 : smQ sA3 = true := by decide +kernel
set_option maxRecDepth 1000000 in
theorem rA3 : okR (smK E0 (bd E0 ixA2 (codeI E0 9 ixA2) 300) 156 sA3) = true := by decide +kernel
end Ax
end Go.Proofs.YtonaljecilcnbaaGreatDoor
