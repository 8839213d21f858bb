/- Some of the summaries, reckoned. -/
import Derived.Test.YtbdkhhakcpediaaGreatDoorAS
namespace Go.Proofs.YtbdkhhakcpediaaGreatDoor
namespace Ax
theorem qA1 : smQ sA1 = true := by decide +kernel
set_option maxRecDepth 1000000 in
theorem rA1 : okR (smK E0 (bd E0 ixA0 (codeI E0 10 ixA0) 300) 15 sA1) = true := by decide +kernel
end Ax
end Go.Proofs.YtbdkhhakcpediaaGreatDoor
