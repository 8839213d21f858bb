/- Some of the summaries, reckoned. -/
import Derived.Test.YtlhaonfohjcblaaGreatDoorBS
namespace Go.Proofs.YtlhaonfohjcblaaGreatDoor
namespace Ax
theorem qB12 : smQ sB12 = true := by decide +kernel
set_option maxRecDepth 1000000 in
theorem rB12 : okR (smK E0 (bd E0 ixB11 (codeI E0 10 ixB11) 300) 422 sB12) = true := by decide +kernel
theorem qB13 : smQ sB13 = true := by decide +kernel
set_option maxRecDepth 1000000 in
theorem rB13 : okR (smK E0 (bd E0 ixB12 (codeI E0 10 ixB12) 300) 422 sB13) = true := by decide +kernel
end Ax
end Go.Proofs.YtlhaonfohjcblaaGreatDoor
