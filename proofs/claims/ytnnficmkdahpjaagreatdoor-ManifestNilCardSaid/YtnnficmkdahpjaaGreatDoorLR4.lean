/- Some of the summaries, reckoned. -/
import Derived.Test.YtnnficmkdahpjaaGreatDoorLS
namespace Go.Proofs.YtnnficmkdahpjaaGreatDoor
namespace Ax
theorem qL8 : smQ sL8 = true := by decide +kernel
set_option maxRecDepth 1000000 in
theorem rL8 : okR (smK E0 (bd E0 ixL7 (codeI E0 10 ixL7) 300) 234 sL8) = true := by decide +kernel
theorem qL9 : smQ sL9 = true := by decide +kernel
set_option maxRecDepth 1000000 in
theorem rL9 : okR (smK E0 (bd E0 ixL8 (codeI E0 10 ixL8) 300) 12 sL9) = true := by decide +kernel
end Ax
end Go.Proofs.YtnnficmkdahpjaaGreatDoor
