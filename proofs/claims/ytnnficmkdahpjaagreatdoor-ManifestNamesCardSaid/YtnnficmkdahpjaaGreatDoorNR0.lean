/- Some of the summaries, reckoned. -/
import Derived.Test.YtnnficmkdahpjaaGreatDoorNS
namespace Go.Proofs.YtnnficmkdahpjaaGreatDoor
namespace Ax
theorem qN0 : smQ sN0 = true := by decide +kernel
set_option maxRecDepth 1000000 in
theorem rN0 : okR (smK E0 (bd E0 ix0 (codeI E0 10 ix0) 300) 234 sN0) = true := by decide +kernel
theorem qN1 : smQ sN1 = true := by decide +kernel
set_option maxRecDepth 1000000 in
theorem rN1 : okR (smK E0 (bd E0 ixN0 (codeI E0 10 ixN0) 300) 234 sN1) = true := by decide +kernel
end Ax
end Go.Proofs.YtnnficmkdahpjaaGreatDoor
