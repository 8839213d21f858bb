/- Some of the summaries, reckoned. -/
import Derived.Test.YtlhaonfohjcblaaGreatDoorAS
namespace Go.Proofs.YtlhaonfohjcblaaGreatDoor
namespace Ax
theorem qA56 : smQ sA56 = true := by decide +kernel
set_option maxRecDepth 1000000 in
theorem rA56 : okR (smK E0 (bd E0 ixA55 (codeI E0 10 ixA55) 300) 422 sA56) = true := by decide +kernel
theorem qA57 : smQ sA57 = true := by decide +kernel
set_option maxRecDepth 1000000 in
theorem rA57 : okR (smK E0 (bd E0 ixA56 (codeI E0 10 ixA56) 300) 422 sA57) = true := by decide +kernel
theorem qA58 : smQ sA58 = true := by decide +kernel
set_option maxRecDepth 1000000 in
theorem rA58 : okR (smK E0 (bd E0 ixA57 (codeI E0 10 ixA57) 300) 34 sA58) = true := by decide +kernel
theorem qA59 : smQ sA59 = true := by decide +kernel
set_option maxRecDepth 1000000 in
theorem rA59 : okR (smK E0 (bd E0 ixA58 (codeI E0 10 ixA58) 300) 6 sA59) = true := by decide +kernel
end Ax
end Go.Proofs.YtlhaonfohjcblaaGreatDoor
