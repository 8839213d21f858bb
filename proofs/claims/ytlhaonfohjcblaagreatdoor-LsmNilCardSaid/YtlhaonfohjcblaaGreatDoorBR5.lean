/- Some of the summaries, reckoned. -/
import Derived.Test.YtlhaonfohjcblaaGreatDoorBS
namespace Go.Proofs.YtlhaonfohjcblaaGreatDoor
namespace Ax
theorem qB10 : smQ sB10 = true := by decide +kernel
set_option maxRecDepth 1000000 in
theorem rB10 : okR (smK E0 (bd E0 ixB9 (codeI E0 10 ixB9) 300) 422 sB10) = true := by decide +kernel
theorem qB11 : smQ sB11 = true := by decide +kernel
set_option maxRecDepth 1000000 in
theorem rB11 : okR (smK E0 (bd E0 ixB10 (codeI E0 10 ixB10) 300) 422 sB11) = true := by decide +kernel
end Ax
end Go.Proofs.YtlhaonfohjcblaaGreatDoor
