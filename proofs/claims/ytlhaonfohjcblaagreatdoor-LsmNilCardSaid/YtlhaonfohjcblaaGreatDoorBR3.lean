/- Some of the summaries, reckoned. -/
import Derived.Test.YtlhaonfohjcblaaGreatDoorBS
namespace Go.Proofs.YtlhaonfohjcblaaGreatDoor
namespace Ax
theorem qB6 : smQ sB6 = true := by decide +kernel
set_option maxRecDepth 1000000 in
theorem rB6 : okR (smK E0 (bd E0 ixB5 (codeI E0 10 ixB5) 300) 422 sB6) = true := by decide +kernel
theorem qB7 : smQ sB7 = true := by decide +kernel
set_option maxRecDepth 1000000 in
theorem rB7 : okR (smK E0 (bd E0 ixB6 (codeI E0 10 ixB6) 300) 422 sB7) = true := by decide +kernel
end Ax
end Go.Proofs.YtlhaonfohjcblaaGreatDoor
