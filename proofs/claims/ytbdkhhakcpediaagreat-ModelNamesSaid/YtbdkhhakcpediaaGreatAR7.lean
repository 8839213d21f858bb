/- Some of the summaries, reckoned. -/
import Derived.Test.YtbdkhhakcpediaaGreatAS
namespace Go.Proofs.YtbdkhhakcpediaaGreat
namespace Ax
theorem qA7 : smQ sA7 = true := by decide +kernel
set_option maxRecDepth 1000000 in
theorem rA7 : okR (smK E0 (bd E0 ixA6 (codeI E0 9 ixA6) 300) 13 sA7) = true := by decide +kernel
end Ax
end Go.Proofs.YtbdkhhakcpediaaGreat
