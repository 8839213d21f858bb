/- Some of the summaries, reckoned. -/
import Derived.Test.YtnnficmkdahpjaaGreatDoorLS
namespace Go.Proofs.YtnnficmkdahpjaaGreatDoor
namespace Ax
theorem qL4 : smQ sL4 = true := by decide +kernel
set_option maxRecDepth 1000000 in
theorem rL4 : okR (smK E0 (bd E0 ixL3 (codeI E0 10 ixL3) 300) 234 sL4) = true := by decide +kernel
theorem qL5 : smQ sL5 = true := by decide +kernel
set_option maxRecDepth 1000000 in
theorem rL5 : okR (smK E0 (bd E0 ixL4 (codeI E0 10 ixL4) 300) 234 sL5) = true := by decide +kernel
end Ax
end Go.Proofs.YtnnficmkdahpjaaGreatDoor
