/- Some of the summaries, reckoned. -/
import Derived.Test.YtkddfiabighjiaaGreatDoorPS
namespace Go.Proofs.YtkddfiabighjiaaGreatDoor
namespace Ax
theorem qP6 : smQ sP6 = true := by decide +kernel
set_option maxRecDepth 1000000 in
theorem rP6 : okR (smK E0 (bd E0 ixP5 (codeI E0 11 ixP5) 300) 439 sP6) = true := by decide +kernel
theorem qP7 : smQ sP7 = true := by decide +kernel
set_option maxRecDepth 1000000 in
theorem rP7 : okR (smK E0 (bd E0 ixP6 (codeI E0 11 ixP6) 300) 439 sP7) = true := by decide +kernel
end Ax
end Go.Proofs.YtkddfiabighjiaaGreatDoor
