/- Some of the summaries, reckoned. -/
import Derived.Test.YtnnficmkdahpjaaGreatDoorVS
namespace Go.Proofs.YtnnficmkdahpjaaGreatDoor
namespace Ax
theorem qV6 : smQ sV6 = true := by decide +kernel
set_option maxRecDepth 1000000 in
theorem rV6 : okR (smK E0 (bd E0 ixV5 (codeI E0 10 ixV5) 300) 234 sV6) = true := by decide +kernel
theorem qV7 : smQ sV7 = true := by decide +kernel
set_option maxRecDepth 1000000 in
theorem rV7 : okR (smK E0 (bd E0 ixV6 (codeI E0 10 ixV6) 300) 234 sV7) = true := by decide +kernel
end Ax
end Go.Proofs.YtnnficmkdahpjaaGreatDoor
