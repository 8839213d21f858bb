/- Some of the summaries, reckoned. -/
import Derived.Test.YtnnficmkdahpjaaGreatDoorLS
namespace Go.Proofs.YtnnficmkdahpjaaGreatDoor
namespace Ax
theorem qL0 : smQ sL0 = true := by decide +kernel
set_option maxRecDepth 1000000 in
theorem rL0 : okR (smK E0 (bd E0 ix0 (codeI E0 10 ix0) 300) 234 sL0) = true := by decide +kernel
theorem qL1 : smQ sL1 = true := by decide +kernel
set_option maxRecDepth 1000000 in
theorem rL1 : okR (smK E0 (bd E0 ixL0 (codeI E0 10 ixL0) 300) 234 sL1) = true := by decide +kernel
end Ax
end Go.Proofs.YtnnficmkdahpjaaGreatDoor
