/- Some of the summaries, reckoned. -/
import Derived.Test.YtlhaonfohjcblaaGreatDoorAS
namespace Go.Proofs.YtlhaonfohjcblaaGreatDoor
namespace Ax
theorem qA32 : smQ sA32 = true := by decide +kernel
set_option maxRecDepth 1000000 in
theorem rA32 : okR (smK E0 (bd E0 ixA31 (codeI E0 10 ixA31) 300) 10 sA32) = true := by decide +kernel
theorem qA33 : smQ sA33 = true := by decide +kernel
set_option maxRecDepth 1000000 in
theorem rA33 : okR (smK E0 (bd E0 ixA32 (codeI E0 10 ixA32) 300) 11 sA33) = true := by decide +kernel
theorem qA34 : smQ sA34 = true := by decide +kernel
set_option maxRecDepth 1000000 in
theorem rA34 : okR (smK E0 (bd E0 ixA33 (codeI E0 10 ixA33) 300) 422 sA34) = true := by decide +kernel
theorem qA35 : smQ sA35 = true := by decide +kernel
set_option maxRecDepth 1000000 in
theorem rA35 : okR (smK E0 (bd E0 ixA34 (codeI E0 10 ixA34) 300) 422 sA35) = true := by decide +kernel
end Ax
end Go.Proofs.YtlhaonfohjcblaaGreatDoor
