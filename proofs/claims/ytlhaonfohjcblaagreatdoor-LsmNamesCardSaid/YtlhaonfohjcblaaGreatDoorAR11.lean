/- Some of the summaries, reckoned. -/
import Derived.Test.YtlhaonfohjcblaaGreatDoorAS
namespace Go.Proofs.YtlhaonfohjcblaaGreatDoor
namespace Ax
theorem qA44 : smQ sA44 = true := by decide +kernel
set_option maxRecDepth 1000000 in
theorem rA44 : okR (smK E0 (bd E0 ixA43 (codeI E0 10 ixA43) 300) 422 sA44) = true := by decide +kernel
theorem qA45 : smQ sA45 = true := by decide +kernel
set_option maxRecDepth 1000000 in
theorem rA45 : okR (smK E0 (bd E0 ixA44 (codeI E0 10 ixA44) 300) 31 sA45) = true := by decide +kernel
theorem qA46 : smQ sA46 = true := by decide +kernel
set_option maxRecDepth 1000000 in
theorem rA46 : okR (smK E0 (bd E0 ixA45 (codeI E0 10 ixA45) 300) 422 sA46) = true := by decide +kernel
theorem qA47 : smQ sA47 = true := by decide +kernel
set_option maxRecDepth 1000000 in
theorem rA47 : okR (smK E0 (bd E0 ixA46 (codeI E0 10 ixA46) 300) 422 sA47) = true := by decide +kernel
end Ax
end Go.Proofs.YtlhaonfohjcblaaGreatDoor
