/- Some of the summaries, reckoned. -/
import Derived.Test.YtnnficmkdahpjaaGreatDoorNS
namespace Go.Proofs.YtnnficmkdahpjaaGreatDoor
namespace Ax
theorem qN10 : smQ sN10 = true := by decide +kernel
set_option maxRecDepth 1000000 in
theorem rN10 : okR (smK E0 (bd E0 ixN9 (codeI E0 10 ixN9) 300) 12 sN10) = true := by decide +kernel
theorem qN11 : smQ sN11 = true := by decide +kernel
set_option maxRecDepth 1000000 in
theorem rN11 : okR (smK E0 (bd E0 ixN10 (codeI E0 10 ixN10) 300) 234 sN11) = true := by decide +kernel
end Ax
end Go.Proofs.YtnnficmkdahpjaaGreatDoor
