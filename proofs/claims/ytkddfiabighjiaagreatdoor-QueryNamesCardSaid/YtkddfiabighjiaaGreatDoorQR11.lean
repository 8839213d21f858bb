/- Some of the summaries, reckoned. -/
import Derived.Test.YtkddfiabighjiaaGreatDoorQS
namespace Go.Proofs.YtkddfiabighjiaaGreatDoor
namespace Ax
theorem qQ22 : smQ sQ22 = true := by decide +kernel
set_option maxRecDepth 1000000 in
theorem rQ22 : okR (smK E0 (bd E0 ixQ21 (codeI E0 11 ixQ21) 300) 8 sQ22) = true := by decide +kernel
end Ax
end Go.Proofs.YtkddfiabighjiaaGreatDoor
