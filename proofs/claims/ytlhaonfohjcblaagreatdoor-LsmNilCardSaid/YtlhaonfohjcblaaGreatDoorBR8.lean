/- Some of the summaries, reckoned. -/
import Derived.Test.YtlhaonfohjcblaaGreatDoorBS
namespace Go.Proofs.YtlhaonfohjcblaaGreatDoor
namespace Ax
theorem qB16 : smQ sB16 = true := by decide +kernel
set_option maxRecDepth 1000000 in
theorem rB16 : okR (smK E0 (bd E0 ixB15 (codeI E0 10 ixB15) 300) 30 sB16) = true := by decide +kernel
end Ax
end Go.Proofs.YtlhaonfohjcblaaGreatDoor
