/- Some of the summaries, reckoned. -/
import Derived.Test.YtlhaonfohjcblaaGreatDoorAS
namespace Go.Proofs.YtlhaonfohjcblaaGreatDoor
namespace Ax
theorem qA40 : smQ sA40 = true := by decide +kernel
set_option maxRecDepth 1000000 in
theorem rA40 : okR (smK E0 (bd E0 ixA39 (codeI E0 10 ixA39) 300) 15 sA40) = true := by decide +kernel
theorem qA41 : smQ sA41 = true := by decide +kernel
set_option maxRecDepth 1000000 in
theorem rA41 : okR (smK E0 (bd E0 ixA40 (codeI E0 10 ixA40) 300) 422 sA41) = true := by decide +kernel
theorem qA42 : smQ sA42 = true := by decide +kernel
set_option maxRecDepth 1000000 in
theorem rA42 : okR (smK E0 (bd E0 ixA41 (codeI E0 10 ixA41) 300) 422 sA42) = true := by decide +kernel
theorem qA43 : smQ sA43 = true := by decide +kernel
set_option maxRecDepth 1000000 in
theorem rA43 : okR (smK E0 (bd E0 ixA42 (codeI E0 10 ixA42) 300) 422 sA43) = true := by decide +kernel
end Ax
end Go.Proofs.YtlhaonfohjcblaaGreatDoor
