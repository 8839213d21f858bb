/- Some of the summaries, reckoned. -/
import Derived.Test.YtiacpfiggfbjpaaGreatDoorQS
namespace Go.Proofs.YtiacpfiggfbjpaaGreatDoor
namespace Ax
theorem qQ24 : smQ sQ24 = true := by decide +kernel
set_option maxRecDepth 1000000 in
theorem rQ24 : okR (smK E0 (bd E0 ixQ23 (codeI E0 11 ixQ23) 300) 11 sQ24) = true := by decide +kernel
theorem qQ25 : smQ sQ25 = true := by decide +kernel
set_option maxRecDepth 1000000 in
theorem rQ25 : okR (smK E0 (bd E0 ixQ24 (codeI E0 11 ixQ24) 300) 41 sQ25) = true := by decide +kernel
end Ax
end Go.Proofs.YtiacpfiggfbjpaaGreatDoor
