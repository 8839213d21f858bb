/- Some of the summaries, reckoned. -/
import Derived.Test.YtnnficmkdahpjaaGreatDoorNS
namespace Go.Proofs.YtnnficmkdahpjaaGreatDoor
namespace Ax
theorem qN14 : smQ sN14 = true := by decide +kernel
set_option maxRecDepth 1000000 in
theorem rN14 : okR (smK E0 (bd E0 ixN13 (codeI E0 10 ixN13) 300) 234 sN14) = true := by decide +kernel
theorem qN15 : smQ sN15 = true := by decide +kernel
set_option maxRecDepth 1000000 in
theorem rN15 : okR (smK E0 (bd E0 ixN14 (codeI E0 10 ixN14) 300) 234 sN15) = true := by decide +kernel
end Ax
end Go.Proofs.YtnnficmkdahpjaaGreatDoor
