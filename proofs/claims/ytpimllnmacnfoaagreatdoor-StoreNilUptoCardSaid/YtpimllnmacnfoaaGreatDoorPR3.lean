/- Some of the summaries, reckoned. -/
import Derived.Test.YtpimllnmacnfoaaGreatDoorPS
namespace Go.Proofs.YtpimllnmacnfoaaGreatDoor
namespace Ax
theorem qP6 : smQ sP6 = true := by decide +kernel
set_option maxRecDepth 1000000 in
theorem rP6 : okR (smK E0 (bd E0 ixP5 (codeI E0 11 ixP5) 300) 373 sP6) = true := by decide +kernel
theorem qP7 : smQ sP7 = true := by decide +kernel
set_option maxRecDepth 1000000 in
theorem rP7 : okR (smK E0 (bd E0 ixP6 (codeI E0 11 ixP6) 300) 373 sP7) = true := by decide +kernel
end Ax
end Go.Proofs.YtpimllnmacnfoaaGreatDoor
