/- Some of the summaries, reckoned. -/
import Derived.Test.YtiacpfiggfbjpaaGreatDoorQS
namespace Go.Proofs.YtiacpfiggfbjpaaGreatDoor
namespace Ax
theorem qQ8 : smQ sQ8 = true := by decide +kernel
set_option maxRecDepth 1000000 in
theorem rQ8 : okR (smK E0 (bd E0 ixQ7 (codeI E0 11 ixQ7) 300) 426 sQ8) = true := by decide +kernel
theorem qQ9 : smQ sQ9 = true := by decide +kernel
set_option maxRecDepth 1000000 in
theorem rQ9 : okR (smK E0 (bd E0 ixQ8 (codeI E0 11 ixQ8) 300) 54 sQ9) = true := by decide +kernel
end Ax
end Go.Proofs.YtiacpfiggfbjpaaGreatDoor
