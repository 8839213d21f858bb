/- Some of the summaries, reckoned. -/
import Derived.Test.YtnnficmkdahpjaaGreatDoorLS
namespace Go.Proofs.YtnnficmkdahpjaaGreatDoor
namespace Ax
theorem qL6 : smQ sL6 = true := by decide +kernel
set_option maxRecDepth 1000000 in
theorem rL6 : okR (smK E0 (bd E0 ixL5 (codeI E0 10 ixL5) 300) 234 sL6) = true := by decide +kernel
theorem qL7 : smQ sL7 = true := by decide +kernel
set_option maxRecDepth 1000000 in
theorem rL7 : okR (smK E0 (bd E0 ixL6 (codeI E0 10 ixL6) 300) 234 sL7) = true := by decide +kernel
end Ax
end Go.Proofs.YtnnficmkdahpjaaGreatDoor
