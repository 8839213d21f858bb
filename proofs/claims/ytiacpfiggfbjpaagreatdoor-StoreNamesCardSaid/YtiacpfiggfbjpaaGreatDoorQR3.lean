/- Some of the summaries, reckoned. -/
import Derived.Test.YtiacpfiggfbjpaaGreatDoorQS
namespace Go.Proofs.YtiacpfiggfbjpaaGreatDoor
namespace Ax
theorem qQ6 : smQ sQ6 = true := by decide +kernel
set_option maxRecDepth 1000000 in
theorem rQ6 : okR (smK E0 (bd E0 ixQ5 (codeI E0 11 ixQ5) 300) 426 sQ6) = true := by decide +kernel
theorem qQ7 : smQ sQ7 = true := by decide +kernel
set_option maxRecDepth 1000000 in
theorem rQ7 : okR (smK E0 (bd E0 ixQ6 (codeI E0 11 ixQ6) 300) 426 sQ7) = true := by decide +kernel
end Ax
end Go.Proofs.YtiacpfiggfbjpaaGreatDoor
