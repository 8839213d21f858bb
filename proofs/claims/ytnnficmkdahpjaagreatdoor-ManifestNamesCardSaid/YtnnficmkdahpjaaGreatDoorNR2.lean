/- Some of the summaries, reckoned. -/
import Derived.Test.YtnnficmkdahpjaaGreatDoorNS
namespace Go.Proofs.YtnnficmkdahpjaaGreatDoor
namespace Ax
theorem qN4 : smQ sN4 = true := by decide +kernel
set_option maxRecDepth 1000000 in
theorem rN4 : okR (smK E0 (bd E0 ixN3 (codeI E0 10 ixN3) 300) 234 sN4) = true := by decide +kernel
theorem qN5 : smQ sN5 = true := by decide +kernel
set_option maxRecDepth 1000000 in
theorem rN5 : okR (smK E0 (bd E0 ixN4 (codeI E0 10 ixN4) 300) 234 sN5) = true := by decide +kernel
end Ax
end Go.Proofs.YtnnficmkdahpjaaGreatDoor
