/- Some of the summaries, reckoned. -/
import Derived.Test.YtiacpfiggfbjpaaGreatDoorQS
namespace Go.Proofs.YtiacpfiggfbjpaaGreatDoor
namespace Ax
theorem qQ10 : smQ sQ10 = true := by decide +kernel
set_option maxRecDepth 1000000 in
theorem rQ10 : okR (smK E0 (bd E0 ixQ9 (codeI E0 11 ixQ9) 300) 26 sQ10) = true := by decide +kernel
theorem qQ11 : smQ sQ11 = true := by decide +kernel
set_option maxRecDepth 1000000 in
theorem rQ11 : okR (smK E0 (bd E0 ixQ10 (codeI E0 11 ixQ10) 300) 426 sQ11) = true := by decide +kernel
end Ax
end Go.Proofs.YtiacpfiggfbjpaaGreatDoor
