/- Some of the summaries, reckoned. -/
import Derived.Test.YtonaljecilcnbaaGreatDoorAS
namespace Go.Proofs.YtonaljecilcnbaaGreatDoor
namespace Ax
theorem qA4 : smQ sA4 = true := by decide +kernel
set_option maxRecDepth 1000000 in
theorem rA4 : okR (smK E0 (bd E0 ixA3 (codeI E0 9 ixA3) 300) 156 sA4) = true := by decide +kernel
end Ax
end Go.Proofs.YtonaljecilcnbaaGreatDoor
