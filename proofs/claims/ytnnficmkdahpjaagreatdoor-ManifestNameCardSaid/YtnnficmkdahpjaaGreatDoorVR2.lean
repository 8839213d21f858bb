/- Some of the summaries, reckoned. -/
import Derived.Test.YtnnficmkdahpjaaGreatDoorVS
namespace Go.Proofs.YtnnficmkdahpjaaGreatDoor
namespace Ax
theorem qV4 : smQ sV4 = true := by decide +kernel
set_option maxRecDepth 1000000 in
theorem rV4 : okR (smK E0 (bd E0 ixV3 (codeI E0 10 ixV3) 300) 234 sV4) = true := by decide +kernel
theorem qV5 : smQ sV5 = true := by decide +kernel
set_option maxRecDepth 1000000 in
theorem rV5 : okR (smK E0 (bd E0 ixV4 (codeI E0 10 ixV4) 300) 234 sV5) = true := by decide +kernel
end Ax
end Go.Proofs.YtnnficmkdahpjaaGreatDoor
