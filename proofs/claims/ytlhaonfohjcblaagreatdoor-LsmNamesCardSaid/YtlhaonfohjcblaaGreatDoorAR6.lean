/- Some of the summaries, reckoned. -/
import Derived.Test.YtlhaonfohjcblaaGreatDoorAS
namespace Go.Proofs.YtlhaonfohjcblaaGreatDoor
namespace Ax
theorem qA24 : smQ sA24 = true := by decide +kernel
set_option maxRecDepth 1000000 in
theorem rA24 : okR (smK E0 (bd E0 ixA23 (codeI E0 10 ixA23) 300) 422 sA24) = true := by decide +kernel
theorem qA25 : smQ sA25 = true := by decide +kernel
set_option maxRecDepth 1000000 in
theorem rA25 : okR (smK E0 (bd E0 ixA24 (codeI E0 10 ixA24) 300) 422 sA25) = true := by decide +kernel
theorem qA26 : smQ sA26 = true := by decide +kernel
set_option maxRecDepth 1000000 in
theorem rA26 : okR (smK E0 (bd E0 ixA25 (codeI E0 10 ixA25) 300) 422 sA26) = true := by decide +kernel
theorem qA27 : smQ sA27 = true := by decide +kernel
set_option maxRecDepth 1000000 in
theorem rA27 : okR (smK E0 (bd E0 ixA26 (codeI E0 10 ixA26) 300) 422 sA27) = true := by decide +kernel
end Ax
end Go.Proofs.YtlhaonfohjcblaaGreatDoor
