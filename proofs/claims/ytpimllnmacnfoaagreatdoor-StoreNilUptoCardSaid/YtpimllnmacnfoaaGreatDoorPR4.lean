/- Some of the summaries, reckoned. -/
import Derived.Test.YtpimllnmacnfoaaGreatDoorPS
namespace Go.Proofs.YtpimllnmacnfoaaGreatDoor
namespace Ax
theorem qP8 : smQ sP8 = true := by decide +kernel
set_option maxRecDepth 1000000 in
theorem rP8 : okR (smK E0 (bd E0 ixP7 (codeI E0 11 ixP7) 300) 84 sP8) = true := by decide +kernel
theorem qP9 : smQ sP9 = true := by decide +kernel
set_option maxRecDepth 1000000 in
theorem rP9 : okR (smK E0 (bd E0 ixP8 (codeI E0 11 ixP8) 300) 12 sP9) = true := by decide +kernel
end Ax
end Go.Proofs.YtpimllnmacnfoaaGreatDoor
