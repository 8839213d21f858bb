/- Some of the summaries, reckoned. -/
import Derived.Test.YtiacpfiggfbjpaaGreatDoorQS
namespace Go.Proofs.YtiacpfiggfbjpaaGreatDoor
namespace Ax
theorem qQ12 : smQ sQ12 = true := by decide +kernel
set_option maxRecDepth 1000000 in
theorem rQ12 : okR (smK E0 (bd E0 ixQ11 (codeI E0 11 ixQ11) 300) 426 sQ12) = true := by decide +kernel
theorem qQ13 : smQ sQ13 = true := by decide +kernel
set_option maxRecDepth 1000000 in
theorem rQ13 : okR (smK E0 (bd E0 ixQ12 (codeI E0 11 ixQ12) 300) 80 sQ13) = true := by decide +kernel
end Ax
end Go.Proofs.YtiacpfiggfbjpaaGreatDoor
