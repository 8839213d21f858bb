/- Some of the summaries, reckoned. -/
import Derived.Test.YtlhaonfohjcblaaGreatDoorAS
namespace Go.Proofs.YtlhaonfohjcblaaGreatDoor
namespace Ax
theorem qA76 : smQ sA76 = true := by decide +kernel
set_option maxRecDepth 1000000 in
theorem rA76 : okR (smK E0 (bd E0 ixA75 (codeI E0 10 ixA75) 300) 30 sA76) = true := by decide +kernel
theorem qA77 : smQ sA77 = true := by decide +kernel
set_option maxRecDepth 1000000 in
theorem rA77 : okR (smK E0 (bd E0 ixA76 (codeI E0 10 ixA76) 300) 16 sA77) = true := by decide +kernel
theorem qA78 : smQ sA78 = true := by decide +kernel
set_option maxRecDepth 1000000 in
theorem rA78 : okR (smK E0 (bd E0 ixA77 (codeI E0 10 ixA77) 300) 422 sA78) = true := by decide +kernel
theorem qA79 : smQ sA79 = true := by decide +kernel
set_option maxRecDepth 1000000 in
theorem rA79 : okR (smK E0 (bd E0 ixA78 (codeI E0 10 ixA78) 300) 422 sA79) = true := by decide +kernel
end Ax
end Go.Proofs.YtlhaonfohjcblaaGreatDoor
