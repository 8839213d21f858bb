/- Some of the summaries, reckoned. -/
import Derived.Test.YtlhaonfohjcblaaGreatDoorAS
namespace Go.Proofs.YtlhaonfohjcblaaGreatDoor
namespace Ax
theorem qA68 : smQ sA68 = true := by decide +kernel
set_option maxRecDepth 1000000 in
theorem rA68 : okR (smK E0 (bd E0 ixA67 (codeI E0 10 ixA67) 300) 422 sA68) = true := by decide +kernel
theorem qA69 : smQ sA69 = true := by decide +kernel
set_option maxRecDepth 1000000 in
theorem rA69 : okR (smK E0 (bd E0 ixA68 (codeI E0 10 ixA68) 300) 422 sA69) = true := by decide +kernel
theorem qA70 : smQ sA70 = true := by decide +kernel
set_option maxRecDepth 1000000 in
theorem rA70 : okR (smK E0 (bd E0 ixA69 (codeI E0 10 ixA69) 300) 422 sA70) = true := by decide +kernel
theorem qA71 : smQ sA71 = true := by decide +kernel
set_option maxRecDepth 1000000 in
theorem rA71 : okR (smK E0 (bd E0 ixA70 (codeI E0 10 ixA70) 300) 422 sA71) = true := by decide +kernel
end Ax
end Go.Proofs.YtlhaonfohjcblaaGreatDoor
