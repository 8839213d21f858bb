/- Some of the summaries, reckoned. -/
import Derived.Test.YtlhaonfohjcblaaGreatDoorAS
namespace Go.Proofs.YtlhaonfohjcblaaGreatDoor
namespace Ax
theorem qA28 : smQ sA28 = true := by decide +kernel
set_option maxRecDepth 1000000 in
theorem rA28 : okR (smK E0 (bd E0 ixA27 (codeI E0 10 ixA27) 300) 114 sA28) = true := by decide +kernel
theorem qA29 : smQ sA29 = true := by decide +kernel
set_option maxRecDepth 1000000 in
theorem rA29 : okR (smK E0 (bd E0 ixA28 (codeI E0 10 ixA28) 300) 422 sA29) = true := by decide +kernel
theorem qA30 : smQ sA30 = true := by decide +kernel
set_option maxRecDepth 1000000 in
theorem rA30 : okR (smK E0 (bd E0 ixA29 (codeI E0 10 ixA29) 300) 422 sA30) = true := by decide +kernel
theorem qA31 : smQ sA31 = true := by decide +kernel
set_option maxRecDepth 1000000 in
theorem rA31 : okR (smK E0 (bd E0 ixA30 (codeI E0 10 ixA30) 300) 10 sA31) = true := by decide +kernel
end Ax
end Go.Proofs.YtlhaonfohjcblaaGreatDoor
