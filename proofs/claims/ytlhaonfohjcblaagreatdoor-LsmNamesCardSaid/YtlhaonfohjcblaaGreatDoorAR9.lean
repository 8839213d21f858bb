/- Some of the summaries, reckoned. -/
import Derived.Test.YtlhaonfohjcblaaGreatDoorAS
namespace Go.Proofs.YtlhaonfohjcblaaGreatDoor
namespace Ax
theorem qA36 : smQ sA36 = true := by decide +kernel
set_option maxRecDepth 1000000 in
theorem rA36 : okR (smK E0 (bd E0 ixA35 (codeI E0 10 ixA35) 300) 8 sA36) = true := by decide +kernel
theorem qA37 : smQ sA37 = true := by decide +kernel
set_option maxRecDepth 1000000 in
theorem rA37 : okR (smK E0 (bd E0 ixA36 (codeI E0 10 ixA36) 300) 422 sA37) = true := by decide +kernel
theorem qA38 : smQ sA38 = true := by decide +kernel
set_option maxRecDepth 1000000 in
theorem rA38 : okR (smK E0 (bd E0 ixA37 (codeI E0 10 ixA37) 300) 422 sA38) = true := by decide +kernel
theorem qA39 : smQ sA39 = true := by decide +kernel
set_option maxRecDepth 1000000 in
theorem rA39 : okR (smK E0 (bd E0 ixA38 (codeI E0 10 ixA38) 300) 14 sA39) = true := by decide +kernel
end Ax
end Go.Proofs.YtlhaonfohjcblaaGreatDoor
