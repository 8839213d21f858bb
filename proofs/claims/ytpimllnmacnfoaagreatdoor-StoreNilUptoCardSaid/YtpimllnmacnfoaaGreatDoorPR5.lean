/- Some of the summaries, reckoned. -/
import Derived.Test.YtpimllnmacnfoaaGreatDoorPS
namespace Go.Proofs.YtpimllnmacnfoaaGreatDoor
namespace Ax
theorem qP10 : smQ sP10 = true := by decide +kernel
set_option maxRecDepth 1000000 in
theorem rP10 : okR (smK E0 (bd E0 ixP9 (codeI E0 11 ixP9) 300) 36 sP10) = true := by decide +kernel
end Ax
end Go.Proofs.YtpimllnmacnfoaaGreatDoor
