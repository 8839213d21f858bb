/- Some of the summaries, reckoned. -/
import Derived.Test.YtnnficmkdahpjaaGreatDoorNS
namespace Go.Proofs.YtnnficmkdahpjaaGreatDoor
namespace Ax
theorem qN12 : smQ sN12 = true := by decide +kernel
set_option maxRecDepth 1000000 in
theorem rN12 : okR (smK E0 (bd E0 ixN11 (codeI E0 10 ixN11) 300) 234 sN12) = true := by decide +kernel
theorem qN13 : smQ sN13 = true := by decide +kernel
set_option maxRecDepth 1000000 in
theorem rN13 : okR (smK E0 (bd E0 ixN12 (codeI E0 10 ixN12) 300) 234 sN13) = true := by decide +kernel
end Ax
end Go.Proofs.YtnnficmkdahpjaaGreatDoor
