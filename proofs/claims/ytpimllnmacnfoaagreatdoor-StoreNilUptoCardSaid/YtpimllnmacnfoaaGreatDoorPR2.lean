/- Some of the summaries, reckoned. -/
import Derived.Test.YtpimllnmacnfoaaGreatDoorPS
namespace Go.Proofs.YtpimllnmacnfoaaGreatDoor
namespace Ax
theorem qP4 : smQ sP4 = true := by decide +kernel
set_option maxRecDepth 1000000 in
theorem rP4 : okR (smK E0 (bd E0 ixP3 (codeI E0 11 ixP3) 300) 80 sP4) = true := by decide +kernel
theorem qP5 : smQ sP5 = true := by decide +kernel
set_option maxRecDepth 1000000 in
theorem rP5 : okR (smK E0 (bd E0 ixP4 (codeI E0 11 ixP4) 300) 36 sP5) = true := by decide +kernel
end Ax
end Go.Proofs.YtpimllnmacnfoaaGreatDoor
