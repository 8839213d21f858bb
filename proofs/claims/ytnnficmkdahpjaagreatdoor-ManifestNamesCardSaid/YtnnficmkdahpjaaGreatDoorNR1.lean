/- Some of the summaries, reckoned. -/
import Derived.Test.YtnnficmkdahpjaaGreatDoorNS
namespace Go.Proofs.YtnnficmkdahpjaaGreatDoor
namespace Ax
theorem qN2 : smQ sN2 = true := by decide +kernel
set_option maxRecDepth 1000000 in
theorem rN2 : okR (smK E0 (bd E0 ixN1 (codeI E0 10 ixN1) 300) 12 sN2) = true := by decide +kernel
theorem qN3 : smQ sN3 = true := by decide +kernel
set_option maxRecDepth 1000000 in
theorem rN3 : okR (smK E0 (bd E0 ixN2 (codeI E0 10 ixN2) 300) 234 sN3) = true := by decide +kernel
end Ax
end Go.Proofs.YtnnficmkdahpjaaGreatDoor
