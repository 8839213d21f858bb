/- Some of the summaries, reckoned. -/
import Derived.Test.YtnnficmkdahpjaaGreatDoorNS
namespace Go.Proofs.YtnnficmkdahpjaaGreatDoor
namespace Ax
theorem qN16 : smQ sN16 = true := by decide +kernel
set_option maxRecDepth 1000000 in
theorem rN16 : okR (smK E0 (bd E0 ixN15 (codeI E0 10 ixN15) 300) 234 sN16) = true := by decide +kernel
theorem qN17 : smQ sN17 = true := by decide +kernel
set_option maxRecDepth 1000000 in
theorem rN17 : okR (smK E0 (bd E0 ixN16 (codeI E0 10 ixN16) 300) 12 sN17) = true := by decide +kernel
end Ax
end Go.Proofs.YtnnficmkdahpjaaGreatDoor
