/- Some of the summaries, reckoned. -/
import Derived.Test.YtiacpfiggfbjpaaGreatDoorQS
namespace Go.Proofs.YtiacpfiggfbjpaaGreatDoor
namespace Ax
theorem qQ20 : smQ sQ20 = true := by decide +kernel
set_option maxRecDepth 1000000 in
theorem rQ20 : okR (smK E0 (bd E0 ixQ19 (codeI E0 11 ixQ19) 300) 80 sQ20) = true := by decide +kernel
theorem qQ21 : smQ sQ21 = true := by decide +kernel
set_option maxRecDepth 1000000 in
theorem rQ21 : okR (smK E0 (bd E0 ixQ20 (codeI E0 11 ixQ20) 300) 7 sQ21) = true := by decide +kernel
end Ax
end Go.Proofs.YtiacpfiggfbjpaaGreatDoor
