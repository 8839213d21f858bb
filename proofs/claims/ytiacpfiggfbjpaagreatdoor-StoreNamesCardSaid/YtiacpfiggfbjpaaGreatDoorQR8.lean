/- Some of the summaries, reckoned. -/
import Derived.Test.YtiacpfiggfbjpaaGreatDoorQS
namespace Go.Proofs.YtiacpfiggfbjpaaGreatDoor
namespace Ax
theorem qQ16 : smQ sQ16 = true := by decide +kernel
set_option maxRecDepth 1000000 in
theorem rQ16 : okR (smK E0 (bd E0 ixQ15 (codeI E0 11 ixQ15) 300) 6 sQ16) = true := by decide +kernel
theorem qQ17 : smQ sQ17 = true := by decide +kernel
set_option maxRecDepth 1000000 in
theorem rQ17 : okR (smK E0 (bd E0 ixQ16 (codeI E0 11 ixQ16) 300) 26 sQ17) = true := by decide +kernel
end Ax
end Go.Proofs.YtiacpfiggfbjpaaGreatDoor
