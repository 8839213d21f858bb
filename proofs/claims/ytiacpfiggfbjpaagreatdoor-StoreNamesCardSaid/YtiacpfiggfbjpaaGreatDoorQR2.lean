/- Some of the summaries, reckoned. -/
import Derived.Test.YtiacpfiggfbjpaaGreatDoorQS
namespace Go.Proofs.YtiacpfiggfbjpaaGreatDoor
namespace Ax
theorem qQ4 : smQ sQ4 = true := by decide +kernel
set_option maxRecDepth 1000000 in
theorem rQ4 : okR (smK E0 (bd E0 ixQ3 (codeI E0 11 ixQ3) 300) 54 sQ4) = true := by decide +kernel
theorem qQ5 : smQ sQ5 = true := by decide +kernel
set_option maxRecDepth 1000000 in
theorem rQ5 : okR (smK E0 (bd E0 ixQ4 (codeI E0 11 ixQ4) 300) 426 sQ5) = true := by decide +kernel
end Ax
end Go.Proofs.YtiacpfiggfbjpaaGreatDoor
