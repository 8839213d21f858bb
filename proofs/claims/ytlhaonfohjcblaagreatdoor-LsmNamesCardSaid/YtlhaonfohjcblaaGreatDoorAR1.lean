/- Some of the summaries, reckoned. -/
import Derived.Test.YtlhaonfohjcblaaGreatDoorAS
namespace Go.Proofs.YtlhaonfohjcblaaGreatDoor
namespace Ax
theorem qA4 : smQ sA4 = true := by decide +kernel
set_option maxRecDepth 1000000 in
theorem rA4 : okR (smK E0 (bd E0 ixA3 (codeI E0 10 ixA3) 300) 30 sA4) = true := by decide +kernel
theorem qA5 : smQ sA5 = true := by decide +kernel
set_option maxRecDepth 1000000 in
theorem rA5 : okR (smK E0 (bd E0 ixA4 (codeI E0 10 ixA4) 300) 422 sA5) = true := by decide +kernel
theorem qA6 : smQ sA6 = true := by decide +kernel
set_option maxRecDepth 1000000 in
theorem rA6 : okR (smK E0 (bd E0 ixA5 (codeI E0 10 ixA5) 300) 422 sA6) = true := by decide +kernel
theorem qA7 : smQ sA7 = true := by decide +kernel
set_option maxRecDepth 1000000 in
theorem rA7 : okR (smK E0 (bd E0 ixA6 (codeI E0 10 ixA6) 300) 422 sA7) = true := by decide +kernel
end Ax
end Go.Proofs.YtlhaonfohjcblaaGreatDoor
