/- Some of the summaries, reckoned. -/
import Derived.Test.YtlhaonfohjcblaaGreatDoorBS
namespace Go.Proofs.YtlhaonfohjcblaaGreatDoor
namespace Ax
theorem qB0 : smQ sB0 = true := by decide +kernel
set_option maxRecDepth 1000000 in
theorem rB0 : okR (smK E0 (bd E0 ix0 (codeI E0 10 ix0) 300) 422 sB0) = true := by decide +kernel
theorem qB1 : smQ sB1 = true := by decide +kernel
set_option maxRecDepth 1000000 in
theorem rB1 : okR (smK E0 (bd E0 ixB0 (codeI E0 10 ixB0) 300) 422 sB1) = true := by decide +kernel
end Ax
end Go.Proofs.YtlhaonfohjcblaaGreatDoor
