/- Some of the summaries, reckoned. -/
import Derived.Test.YtlhaonfohjcblaaGreatDoorAS
namespace Go.Proofs.YtlhaonfohjcblaaGreatDoor
namespace Ax
theorem qA0 : smQ sA0 = true := by decide +kernel
set_option maxRecDepth 1000000 in
theorem rA0 : okR (smK E0 (bd E0 ix0 (codeI E0 10 ix0) 300) 422 sA0) = true := by decide +kernel
theorem qA1 : smQ sA1 = true := by decide +kernel
set_option maxRecDepth 1000000 in
theorem rA1 : okR (smK E0 (bd E0 ixA0 (codeI E0 10 ixA0) 300) 422 sA1) = true := by decide +kernel
theorem qA2 : smQ sA2 = true := by decide +kernel
set_option maxRecDepth 1000000 in
theorem rA2 : okR (smK E0 (bd E0 ixA1 (codeI E0 10 ixA1) 300) 422 sA2) = true := by decide +kernel
theorem qA3 : smQ sA3 = true := by decide +kernel
set_option maxRecDepth 1000000 in
theorem rA3 : okR (smK E0 (bd E0 ixA2 (codeI E0 10 ixA2) 300) 422 sA3) = true := by decide +kernel
end Ax
end Go.Proofs.YtlhaonfohjcblaaGreatDoor
