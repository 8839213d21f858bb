/- Some of the summaries, reckoned. -/
import Derived.Test.YtnnficmkdahpjaaGreatDoorNS
namespace Go.Proofs.YtnnficmkdahpjaaGreatDoor
namespace Ax
theorem qN6 : smQ sN6 = true := by decide +kernel
set_option maxRecDepth 1000000 in
theorem rN6 : okR (smK E0 (bd E0 ixN5 (codeI E0 10 ixN5) 300) 234 sN6) = true := by decide +kernel
theorem qN7 : smQ sN7 = true := by decide +kernel
set_option maxRecDepth 1000000 in
theorem rN7 : okR (smK E0 (bd E0 ixN6 (codeI E0 10 ixN6) 300) 15 sN7) = true := by decide +kernel
end Ax
end Go.Proofs.YtnnficmkdahpjaaGreatDoor
