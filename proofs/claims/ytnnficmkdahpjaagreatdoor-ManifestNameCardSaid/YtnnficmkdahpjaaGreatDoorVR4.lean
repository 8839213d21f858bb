/- Some of the summaries, reckoned. -/
import Derived.Test.YtnnficmkdahpjaaGreatDoorVS
namespace Go.Proofs.YtnnficmkdahpjaaGreatDoor
namespace Ax
theorem qV8 : smQ sV8 = true := by decide +kernel
set_option maxRecDepth 1000000 in
theorem rV8 : okR (smK E0 (bd E0 ixV7 (codeI E0 10 ixV7) 300) 234 sV8) = true := by decide +kernel
theorem qV9 : smQ sV9 = true := by decide +kernel
set_option maxRecDepth 1000000 in
theorem rV9 : okR (smK E0 (bd E0 ixV8 (codeI E0 10 ixV8) 300) 12 sV9) = true := by decide +kernel
end Ax
end Go.Proofs.YtnnficmkdahpjaaGreatDoor
