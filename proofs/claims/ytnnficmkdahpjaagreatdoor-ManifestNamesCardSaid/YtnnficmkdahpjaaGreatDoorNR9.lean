/- Some of the summaries, reckoned. -/
import Derived.Test.YtnnficmkdahpjaaGreatDoorNS
namespace Go.Proofs.YtnnficmkdahpjaaGreatDoor
namespace Ax
theorem qN18 : smQ sN18 = true := by decide +kernel
set_option maxRecDepth 1000000 in
theorem rN18 : okR (smK E0 (bd E0 ixN17 (codeI E0 10 ixN17) 300) 6 sN18) = true := by decide +kernel
end Ax
end Go.Proofs.YtnnficmkdahpjaaGreatDoor
