/- Some of the summaries, reckoned. -/
import Derived.Test.YtiacpfiggfbjpaaGreatDoorQS
namespace Go.Proofs.YtiacpfiggfbjpaaGreatDoor
namespace Ax
theorem qQ0 : smQ sQ0 = true := by decide +kernel
set_option maxRecDepth 1000000 in
theorem rQ0 : okR (smK E0 (bd E0 ix0 (codeI E0 11 ix0) 300) 426 sQ0) = true := by decide +kernel
theorem qQ1 : smQ sQ1 = true := by decide +kernel
set_option maxRecDepth 1000000 in
theorem rQ1 : okR (smK E0 (bd E0 ixQ0 (codeI E0 11 ixQ0) 300) 426 sQ1) = true := by decide +kernel
end Ax
end Go.Proofs.YtiacpfiggfbjpaaGreatDoor
