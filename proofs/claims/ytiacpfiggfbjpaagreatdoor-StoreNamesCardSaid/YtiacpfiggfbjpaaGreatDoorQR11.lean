/- Some of the summaries, reckoned. -/
import Derived.Test.YtiacpfiggfbjpaaGreatDoorQS
namespace Go.Proofs.YtiacpfiggfbjpaaGreatDoor
namespace Ax
theorem qQ22 : smQ sQ22 = true := by decide +kernel
set_option maxRecDepth 1000000 in
theorem rQ22 : okR (smK E0 (bd E0 ixQ21 (codeI E0 11 ixQ21) 300) 9 sQ22) = true := by decide +kernel
theorem qQ23 : smQ sQ23 = true := by decide +kernel
set_option maxRecDepth 1000000 in
theorem rQ23 : okR (smK E0 (bd E0 ixQ22 (codeI E0 11 ixQ22) 300) 10 sQ23) = true := by decide +kernel
end Ax
end Go.Proofs.YtiacpfiggfbjpaaGreatDoor
