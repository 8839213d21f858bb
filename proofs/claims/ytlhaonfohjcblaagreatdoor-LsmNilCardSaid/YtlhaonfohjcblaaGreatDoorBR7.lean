/- Some of the summaries, reckoned. -/
import Derived.Test.YtlhaonfohjcblaaGreatDoorBS
namespace Go.Proofs.YtlhaonfohjcblaaGreatDoor
namespace Ax
theorem qB14 : smQ sB14 = true := by decide +kernel
set_option maxRecDepth 1000000 in
theorem rB14 : okR (smK E0 (bd E0 ixB13 (codeI E0 10 ixB13) 300) 422 sB14) = true := by decide +kernel
theorem qB15 : smQ sB15 = true := by decide +kernel
set_option maxRecDepth 1000000 in
theorem rB15 : okR (smK E0 (bd E0 ixB14 (codeI E0 10 ixB14) 300) 32 sB15) = true := by decide +kernel
end Ax
end Go.Proofs.YtlhaonfohjcblaaGreatDoor
