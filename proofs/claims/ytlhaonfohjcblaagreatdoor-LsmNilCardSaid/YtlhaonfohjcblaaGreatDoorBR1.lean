/- Some of the summaries, reckoned. -/
import Derived.Test.YtlhaonfohjcblaaGreatDoorBS
namespace Go.Proofs.YtlhaonfohjcblaaGreatDoor
namespace Ax
theorem qB2 : smQ sB2 = true := by decide +kernel
set_option maxRecDepth 1000000 in
theorem rB2 : okR (smK E0 (bd E0 ixB1 (codeI E0 10 ixB1) 300) 422 sB2) = true := by decide +kernel
theorem qB3 : smQ sB3 = true := by decide +kernel
set_option maxRecDepth 1000000 in
theorem rB3 : okR (smK E0 (bd E0 ixB2 (codeI E0 10 ixB2) 300) 422 sB3) = true := by decide +kernel
end Ax
end Go.Proofs.YtlhaonfohjcblaaGreatDoor
