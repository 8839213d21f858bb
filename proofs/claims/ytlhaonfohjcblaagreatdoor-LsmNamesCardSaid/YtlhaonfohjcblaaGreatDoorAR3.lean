/- Some of the summaries, reckoned. -/
import Derived.Test.YtlhaonfohjcblaaGreatDoorAS
namespace Go.Proofs.YtlhaonfohjcblaaGreatDoor
namespace Ax
theorem qA12 : smQ sA12 = true := by decide +kernel
set_option maxRecDepth 1000000 in
theorem rA12 : okR (smK E0 (bd E0 ixA11 (codeI E0 10 ixA11) 300) 422 sA12) = true := by decide +kernel
theorem qA13 : smQ sA13 = true := by decide +kernel
set_option maxRecDepth 1000000 in
theorem rA13 : okR (smK E0 (bd E0 ixA12 (codeI E0 10 ixA12) 300) 422 sA13) = true := by decide +kernel
theorem qA14 : smQ sA14 = true := by decide +kernel
set_option maxRecDepth 1000000 in
theorem rA14 : okR (smK E0 (bd E0 ixA13 (codeI E0 10 ixA13) 300) 422 sA14) = true := by decide +kernel
theorem qA15 : smQ sA15 = true := by decide +kernel
set_option maxRecDepth 1000000 in
theorem rA15 : okR (smK E0 (bd E0 ixA14 (codeI E0 10 ixA14) 300) 422 sA15) = true := by decide +kernel
end Ax
end Go.Proofs.YtlhaonfohjcblaaGreatDoor
