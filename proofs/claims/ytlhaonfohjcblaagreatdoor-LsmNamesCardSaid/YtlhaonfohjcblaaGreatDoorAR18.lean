/- Some of the summaries, reckoned. -/
import Derived.Test.YtlhaonfohjcblaaGreatDoorAS
namespace Go.Proofs.YtlhaonfohjcblaaGreatDoor
namespace Ax
theorem qA72 : smQ sA72 = true := by decide +kernel
set_option maxRecDepth 1000000 in
theorem rA72 : okR (smK E0 (bd E0 ixA71 (codeI E0 10 ixA71) 300) 422 sA72) = true := by decide +kernel
theorem qA73 : smQ sA73 = true := by decide +kernel
set_option maxRecDepth 1000000 in
theorem rA73 : okR (smK E0 (bd E0 ixA72 (codeI E0 10 ixA72) 300) 422 sA73) = true := by decide +kernel
theorem qA74 : smQ sA74 = true := by decide +kernel
set_option maxRecDepth 1000000 in
theorem rA74 : okR (smK E0 (bd E0 ixA73 (codeI E0 10 ixA73) 300) 422 sA74) = true := by decide +kernel
theorem qA75 : smQ sA75 = true := by decide +kernel
set_option maxRecDepth 1000000 in
theorem rA75 : okR (smK E0 (bd E0 ixA74 (codeI E0 10 ixA74) 300) 32 sA75) = true := by decide +kernel
end Ax
end Go.Proofs.YtlhaonfohjcblaaGreatDoor
