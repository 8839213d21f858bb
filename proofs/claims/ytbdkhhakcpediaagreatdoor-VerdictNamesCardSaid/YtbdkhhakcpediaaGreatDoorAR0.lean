/- Some of the summaries, reckoned. -/
import Derived.Test.YtbdkhhakcpediaaGreatDoorAS
namespace Go.Proofs.YtbdkhhakcpediaaGreatDoor
namespace Ax
theorem qA0 : smQ sA0 = true := by decide +kernel
set_option maxRecDepth 1000000 in
theorem rA0 : okR (smK E0 (bd E0 ix0 (codeI E0 10 ix0) 300) 15 sA0) = true := by decide +kernel
end Ax
end Go.Proofs.YtbdkhhakcpediaaGreatDoor
