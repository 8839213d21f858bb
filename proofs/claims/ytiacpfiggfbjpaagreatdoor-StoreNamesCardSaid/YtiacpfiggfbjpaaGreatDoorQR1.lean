/- Some of the summaries, reckoned. -/
import Derived.Test.YtiacpfiggfbjpaaGreatDoorQS
namespace Go.Proofs.YtiacpfiggfbjpaaGreatDoor
namespace Ax
theorem qQ2 : smQ sQ2 = true := by decide +kernel
set_option maxRecDepth 1000000 in
theorem rQ2 : okR (smK E0 (bd E0 ixQ1 (codeI E0 11 ixQ1) 300) 426 sQ2) = true := by decide +kernel
theorem qQ3 : smQ sQ3 = true := by decide +kernel
set_option maxRecDepth 1000000 in
theorem rQ3 : okR (smK E0 (bd E0 ixQ2 (codeI E0 11 ixQ2) 300) 426 sQ3) = true := by decide +kernel
end Ax
end Go.Proofs.YtiacpfiggfbjpaaGreatDoor
