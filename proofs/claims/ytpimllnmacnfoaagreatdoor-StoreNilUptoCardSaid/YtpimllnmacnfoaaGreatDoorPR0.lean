/- Some of the summaries, reckoned. -/
import Derived.Test.YtpimllnmacnfoaaGreatDoorPS
namespace Go.Proofs.YtpimllnmacnfoaaGreatDoor
namespace Ax
theorem qP0 : smQ sP0 = true := by decide +kernel
set_option maxRecDepth 1000000 in
theorem rP0 : okR (smK E0 (bd E0 ix0 (codeI E0 11 ix0) 300) 373 sP0) = true := by decide +kernel
theorem qP1 : smQ sP1 = true := by decide +kernel
set_option maxRecDepth 1000000 in
theorem rP1 : okR (smK E0 (bd E0 ixP0 (codeI E0 11 ixP0) 300) 373 sP1) = true := by decide +kernel
end Ax
end Go.Proofs.YtpimllnmacnfoaaGreatDoor
