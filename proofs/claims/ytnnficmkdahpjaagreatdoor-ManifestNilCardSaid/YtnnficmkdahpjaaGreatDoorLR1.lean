/- Some of the summaries, reckoned. -/
import Derived.Test.YtnnficmkdahpjaaGreatDoorLS
namespace Go.Proofs.YtnnficmkdahpjaaGreatDoor
namespace Ax
theorem qL2 : smQ sL2 = true := by decide +kernel
set_option maxRecDepth 1000000 in
theorem rL2 : okR (smK E0 (bd E0 ixL1 (codeI E0 10 ixL1) 300) 12 sL2) = true := by decide +kernel
theorem qL3 : smQ sL3 = true := by decide +kernel
set_option maxRecDepth 1000000 in
theorem rL3 : okR (smK E0 (bd E0 ixL2 (codeI E0 10 ixL2) 300) 234 sL3) = true := by decide +kernel
end Ax
end Go.Proofs.YtnnficmkdahpjaaGreatDoor
