/- Some of the summaries, reckoned. -/
import Derived.Test.YtnnficmkdahpjaaGreatDoorNS
namespace Go.Proofs.YtnnficmkdahpjaaGreatDoor
namespace Ax
theorem qN8 : smQ sN8 = true := by decide +kernel
set_option maxRecDepth 1000000 in
theorem rN8 : okR (smK E0 (bd E0 ixN7 (codeI E0 10 ixN7) 300) 234 sN8) = true := by decide +kernel
theorem qN9 : smQ sN9 = true := by decide +kernel
set_option maxRecDepth 1000000 in
theorem rN9 : okR (smK E0 (bd E0 ixN8 (codeI E0 10 ixN8) 300) 234 sN9) = true := by decide +kernel
end Ax
end Go.Proofs.YtnnficmkdahpjaaGreatDoor
