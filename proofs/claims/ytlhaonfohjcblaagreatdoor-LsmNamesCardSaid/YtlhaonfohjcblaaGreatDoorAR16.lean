/- Some of the summaries, reckoned. -/
import Derived.Test.YtlhaonfohjcblaaGreatDoorAS
namespace Go.Proofs.YtlhaonfohjcblaaGreatDoor
namespace Ax
theorem qA64 : smQ sA64 = true := by decide +kernel
set_option maxRecDepth 1000000 in
theorem rA64 : okR (smK E0 (bd E0 ixA63 (codeI E0 10 ixA63) 300) 30 sA64) = true := by decide +kernel
theorem qA65 : smQ sA65 = true := by decide +kernel
set_option maxRecDepth 1000000 in
theorem rA65 : okR (smK E0 (bd E0 ixA64 (codeI E0 10 ixA64) 300) 422 sA65) = true := by decide +kernel
theorem qA66 : smQ sA66 = true := by decide +kernel
set_option maxRecDepth 1000000 in
theorem rA66 : okR (smK E0 (bd E0 ixA65 (codeI E0 10 ixA65) 300) 422 sA66) = true := by decide +kernel
theorem qA67 : smQ sA67 = true := by decide +kernel
set_option maxRecDepth 1000000 in
theorem rA67 : okR (smK E0 (bd E0 ixA66 (codeI E0 10 ixA66) 300) 422 sA67) = true := by decide +kernel
end Ax
end Go.Proofs.YtlhaonfohjcblaaGreatDoor
