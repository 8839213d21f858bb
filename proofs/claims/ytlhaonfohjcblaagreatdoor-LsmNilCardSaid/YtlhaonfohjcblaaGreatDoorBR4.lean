/- Some of the summaries, reckoned. -/
import Derived.Test.YtlhaonfohjcblaaGreatDoorBS
namespace Go.Proofs.YtlhaonfohjcblaaGreatDoor
namespace Ax
theorem qB8 : smQ sB8 = true := by decide +kernel
set_option maxRecDepth 1000000 in
theorem rB8 : okR (smK E0 (bd E0 ixB7 (codeI E0 10 ixB7) 300) 422 sB8) = true := by decide +kernel
theorem qB9 : smQ sB9 = true := by decide +kernel
set_option maxRecDepth 1000000 in
theorem rB9 : okR (smK E0 (bd E0 ixB8 (codeI E0 10 ixB8) 300) 422 sB9) = true := by decide +kernel
end Ax
end Go.Proofs.YtlhaonfohjcblaaGreatDoor
