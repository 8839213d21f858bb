/- Some of the summaries, reckoned. -/
import Derived.Test.YtbdkhhakcpediaaGreatAS
namespace Go.Proofs.YtbdkhhakcpediaaGreat
namespace Ax
theorem qA4 : smQ sA4 = true := by decide +kernel
set_option maxRecDepth 1000000 in
theorem rA4 : okR (smK E0 (bd E0 ixA3 (codeI E0 9 ixA3) 300) 13 sA4) = true := by decide +kernel
end Ax
end Go.Proofs.YtbdkhhakcpediaaGreat
