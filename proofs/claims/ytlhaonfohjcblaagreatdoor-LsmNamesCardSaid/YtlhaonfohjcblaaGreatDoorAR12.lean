/- Some of the summaries, reckoned. -/
import Derived.Test.YtlhaonfohjcblaaGreatDoorAS
namespace Go.Proofs.YtlhaonfohjcblaaGreatDoor
namespace Ax
theorem qA48 : smQ sA48 = true := by decide +kernel
set_option maxRecDepth 1000000 in
theorem rA48 : okR (smK E0 (bd E0 ixA47 (codeI E0 10 ixA47) 300) 422 sA48) = true := by decide +kernel
theorem qA49 : smQ sA49 = true := by decide +kernel
set_option maxRecDepth 1000000 in
theorem rA49 : okR (smK E0 (bd E0 ixA48 (codeI E0 10 ixA48) 300) 422 sA49) = true := by decide +kernel
theorem qA50 : smQ sA50 = true := by decide +kernel
set_option maxRecDepth 1000000 in
theorem rA50 : okR (smK E0 (bd E0 ixA49 (codeI E0 10 ixA49) 300) 422 sA50) = true := by decide +kernel
theorem qA51 : smQ sA51 = true := by decide +kernel
set_option maxRecDepth 1000000 in
theorem rA51 : okR (smK E0 (bd E0 ixA50 (codeI E0 10 ixA50) 300) 422 sA51) = true := by decide +kernel
end Ax
end Go.Proofs.YtlhaonfohjcblaaGreatDoor
