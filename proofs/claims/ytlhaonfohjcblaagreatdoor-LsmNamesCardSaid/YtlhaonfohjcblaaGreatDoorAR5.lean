/- Some of the summaries, reckoned. -/
import Derived.Test.YtlhaonfohjcblaaGreatDoorAS
namespace Go.Proofs.YtlhaonfohjcblaaGreatDoor
namespace Ax
theorem qA20 : smQ sA20 = true := by decide +kernel
set_option maxRecDepth 1000000 in
theorem rA20 : okR (smK E0 (bd E0 ixA19 (codeI E0 10 ixA19) 300) 422 sA20) = true := by decide +kernel
theorem qA21 : smQ sA21 = true := by decide +kernel
set_option maxRecDepth 1000000 in
theorem rA21 : okR (smK E0 (bd E0 ixA20 (codeI E0 10 ixA20) 300) 422 sA21) = true := by decide +kernel
theorem qA22 : smQ sA22 = true := by decide +kernel
set_option maxRecDepth 1000000 in
theorem rA22 : okR (smK E0 (bd E0 ixA21 (codeI E0 10 ixA21) 300) 422 sA22) = true := by decide +kernel
theorem qA23 : smQ sA23 = true := by decide +kernel
set_option maxRecDepth 1000000 in
theorem rA23 : okR (smK E0 (bd E0 ixA22 (codeI E0 10 ixA22) 300) 422 sA23) = true := by decide +kernel
end Ax
end Go.Proofs.YtlhaonfohjcblaaGreatDoor
