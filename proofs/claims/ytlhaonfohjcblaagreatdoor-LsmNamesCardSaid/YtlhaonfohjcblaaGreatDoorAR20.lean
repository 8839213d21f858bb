/- Some of the summaries, reckoned. -/
import Derived.Test.YtlhaonfohjcblaaGreatDoorAS
namespace Go.Proofs.YtlhaonfohjcblaaGreatDoor
namespace Ax
theorem qA80 : smQ sA80 = true := by decide +kernel
set_option maxRecDepth 1000000 in
theorem rA80 : okR (smK E0 (bd E0 ixA79 (codeI E0 10 ixA79) 300) 17 sA80) = true := by decide +kernel
end Ax
end Go.Proofs.YtlhaonfohjcblaaGreatDoor
