/- Some of the summaries, reckoned. -/
import Derived.Test.YtiacpfiggfbjpaaGreatDoorQS
namespace Go.Proofs.YtiacpfiggfbjpaaGreatDoor
namespace Ax
theorem qQ14 : smQ sQ14 = true := by decide +kernel
set_option maxRecDepth 1000000 in
theorem rQ14 : okR (smK E0 (bd E0 ixQ13 (codeI E0 11 ixQ13) 300) 7 sQ14) = true := by decide +kernel
theorem qQ15 : smQ sQ15 = true := by decide +kernel
set_option maxRecDepth 1000000 in
theorem rQ15 : okR (smK E0 (bd E0 ixQ14 (codeI E0 11 ixQ14) 300) 26 sQ15) = true := by decide +kernel
end Ax
end Go.Proofs.YtiacpfiggfbjpaaGreatDoor
