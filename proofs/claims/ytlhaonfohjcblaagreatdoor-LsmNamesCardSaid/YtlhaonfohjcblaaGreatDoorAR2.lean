/- Some of the summaries, reckoned. -/
import Derived.Test.YtlhaonfohjcblaaGreatDoorAS
namespace Go.Proofs.YtlhaonfohjcblaaGreatDoor
namespace Ax
theorem qA8 : smQ sA8 = true := by decide +kernel
set_option maxRecDepth 1000000 in
theorem rA8 : okR (smK E0 (bd E0 ixA7 (codeI E0 10 ixA7) 300) 422 sA8) = true := by decide +kernel
theorem qA9 : smQ sA9 = true := by decide +kernel
set_option maxRecDepth 1000000 in
theorem rA9 : okR (smK E0 (bd E0 ixA8 (codeI E0 10 ixA8) 300) 8 sA9) = true := by decide +kernel
theorem qA10 : smQ sA10 = true := by decide +kernel
set_option maxRecDepth 1000000 in
theorem rA10 : okR (smK E0 (bd E0 ixA9 (codeI E0 10 ixA9) 300) 422 sA10) = true := by decide +kernel
theorem qA11 : smQ sA11 = true := by decide +kernel
set_option maxRecDepth 1000000 in
theorem rA11 : okR (smK E0 (bd E0 ixA10 (codeI E0 10 ixA10) 300) 422 sA11) = true := by decide +kernel
end Ax
end Go.Proofs.YtlhaonfohjcblaaGreatDoor
