/- Some of the summaries, reckoned. -/
import Derived.Test.YtlhaonfohjcblaaGreatDoorAS
namespace Go.Proofs.YtlhaonfohjcblaaGreatDoor
namespace Ax
theorem qA16 : smQ sA16 = true := by decide +kernel
set_option maxRecDepth 1000000 in
theorem rA16 : okR (smK E0 (bd E0 ixA15 (codeI E0 10 ixA15) 300) 422 sA16) = true := by decide +kernel
theorem qA17 : smQ sA17 = true := by decide +kernel
set_option maxRecDepth 1000000 in
theorem rA17 : okR (smK E0 (bd E0 ixA16 (codeI E0 10 ixA16) 300) 422 sA17) = true := by decide +kernel
theorem qA18 : smQ sA18 = true := by decide +kernel
set_option maxRecDepth 1000000 in
theorem rA18 : okR (smK E0 (bd E0 ixA17 (codeI E0 10 ixA17) 300) 422 sA18) = true := by decide +kernel
theorem qA19 : smQ sA19 = true := by decide +kernel
set_option maxRecDepth 1000000 in
theorem rA19 : okR (smK E0 (bd E0 ixA18 (codeI E0 10 ixA18) 300) 422 sA19) = true := by decide +kernel
end Ax
end Go.Proofs.YtlhaonfohjcblaaGreatDoor
