/- Some of the summaries, reckoned. -/
import Derived.Test.YtlhaonfohjcblaaGreatDoorAS
namespace Go.Proofs.YtlhaonfohjcblaaGreatDoor
namespace Ax
theorem qA52 : smQ sA52 = true := by decide +kernel
set_option maxRecDepth 1000000 in
theorem rA52 : okR (smK E0 (bd E0 ixA51 (codeI E0 10 ixA51) 300) 32 sA52) = true := by decide +kernel
theorem qA53 : smQ sA53 = true := by decide +kernel
set_option maxRecDepth 1000000 in
theorem rA53 : okR (smK E0 (bd E0 ixA52 (codeI E0 10 ixA52) 300) 79 sA53) = true := by decide +kernel
theorem qA54 : smQ sA54 = true := by decide +kernel
set_option maxRecDepth 1000000 in
theorem rA54 : okR (smK E0 (bd E0 ixA53 (codeI E0 10 ixA53) 300) 422 sA54) = true := by decide +kernel
theorem qA55 : smQ sA55 = true := by decide +kernel
set_option maxRecDepth 1000000 in
theorem rA55 : okR (smK E0 (bd E0 ixA54 (codeI E0 10 ixA54) 300) 422 sA55) = true := by decide +kernel
end Ax
end Go.Proofs.YtlhaonfohjcblaaGreatDoor
