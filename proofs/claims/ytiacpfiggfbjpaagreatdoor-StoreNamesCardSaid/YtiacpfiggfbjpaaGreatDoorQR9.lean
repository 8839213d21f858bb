/- Some of the summaries, reckoned. -/
import Derived.Test.YtiacpfiggfbjpaaGreatDoorQS
namespace Go.Proofs.YtiacpfiggfbjpaaGreatDoor
namespace Ax
theorem qQ18 : smQ sQ18 = true := by decide +kernel
set_option maxRecDepth 1000000 in
theorem rQ18 : okR (smK E0 (bd E0 ixQ17 (codeI E0 11 ixQ17) 300) 426 sQ18) = true := by decide +kernel
theorem qQ19 : smQ sQ19 = true := by decide +kernel
set_option maxRecDepth 1000000 in
theorem rQ19 : okR (smK E0 (bd E0 ixQ18 (codeI E0 11 ixQ18) 300) 426 sQ19) = true := by decide +kernel
end Ax
end Go.Proofs.YtiacpfiggfbjpaaGreatDoor
