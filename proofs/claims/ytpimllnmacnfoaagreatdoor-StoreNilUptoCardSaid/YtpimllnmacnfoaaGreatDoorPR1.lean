/- Some of the summaries, reckoned. -/
import Derived.Test.YtpimllnmacnfoaaGreatDoorPS
namespace Go.Proofs.YtpimllnmacnfoaaGreatDoor
namespace Ax
theorem qP2 : smQ sP2 = true := by decide +kernel
set_option maxRecDepth 1000000 in
theorem rP2 : okR (smK E0 (bd E0 ixP1 (codeI E0 11 ixP1) 300) 373 sP2) = true := by decide +kernel
theorem qP3 : smQ sP3 = true := by decide +kernel
set_option maxRecDepth 1000000 in
theorem rP3 : okR (smK E0 (bd E0 ixP2 (codeI E0 11 ixP2) 300) 373 sP3) = true := by decide +kernel
end Ax
end Go.Proofs.YtpimllnmacnfoaaGreatDoor
