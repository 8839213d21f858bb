/- Some of the summaries, reckoned. -/
import Derived.Test.YtlhaonfohjcblaaGreatDoorBS
namespace Go.Proofs.YtlhaonfohjcblaaGreatDoor
namespace Ax
theorem qB4 : smQ sB4 = true := by decide +kernel
set_option maxRecDepth 1000000 in
theorem rB4 : okR (smK E0 (bd E0 ixB3 (codeI E0 10 ixB3) 300) 30 sB4) = true := by decide +kernel
theorem qB5 : smQ sB5 = true := by decide +kernel
set_option maxRecDepth 1000000 in
theorem rB5 : okR (smK E0 (bd E0 ixB4 (codeI E0 10 ixB4) 300) 422 sB5) = true := by decide +kernel
end Ax
end Go.Proofs.YtlhaonfohjcblaaGreatDoor
