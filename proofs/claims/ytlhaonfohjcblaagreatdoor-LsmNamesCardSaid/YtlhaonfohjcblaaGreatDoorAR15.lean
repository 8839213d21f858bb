/- Some of the summaries, reckoned. -/
import Derived.Test.YtlhaonfohjcblaaGreatDoorAS
namespace Go.Proofs.YtlhaonfohjcblaaGreatDoor
namespace Ax
theorem qA60 : smQ sA60 = true := by decide +kernel
set_option maxRecDepth 1000000 in
theorem rA60 : okR (smK E0 (bd E0 ixA59 (codeI E0 10 ixA59) 300) 422 sA60) = true := by decide +kernel
theorem qA61 : smQ sA61 = true := by decide +kernel
set_option maxRecDepth 1000000 in
theorem rA61 : okR (smK E0 (bd E0 ixA60 (codeI E0 10 ixA60) 300) 422 sA61) = true := by decide +kernel
theorem qA62 : smQ sA62 = true := by decide +kernel
set_option maxRecDepth 1000000 in
theorem rA62 : okR (smK E0 (bd E0 ixA61 (codeI E0 10 ixA61) 300) 422 sA62) = true := by decide +kernel
theorem qA63 : smQ sA63 = true := by decide +kernel
set_option maxRecDepth 1000000 in
theorem rA63 : okR (smK E0 (bd E0 ixA62 (codeI E0 10 ixA62) 300) 422 sA63) = true := by decide +kernel
end Ax
end Go.Proofs.YtlhaonfohjcblaaGreatDoor
