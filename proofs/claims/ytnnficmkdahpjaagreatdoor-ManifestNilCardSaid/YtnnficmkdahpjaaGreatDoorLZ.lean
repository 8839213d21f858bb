/- The summaries may stand, one behind the other. -/
import Derived.Test.YtnnficmkdahpjaaGreatDoorY0
import Derived.Test.YtnnficmkdahpjaaGreatDoorLR0
import Derived.Test.YtnnficmkdahpjaaGreatDoorLR1
import Derived.Test.YtnnficmkdahpjaaGreatDoorLR2
import Derived.Test.YtnnficmkdahpjaaGreatDoorLR3
import Derived.Test.YtnnficmkdahpjaaGreatDoorLR4
namespace Go.Proofs.YtnnficmkdahpjaaGreatDoor
namespace Ax
theorem kL0 : IxOK E0 ixL0 := chain_ok e0_ok ix0_ok qL0 rL0
theorem kL1 : IxOK E0 ixL1 := chain_ok e0_ok kL0 qL1 rL1
theorem kL2 : IxOK E0 ixL2 := chain_ok e0_ok kL1 qL2 rL2
theorem kL3 : IxOK E0 ixL3 := chain_ok e0_ok kL2 qL3 rL3
theorem kL4 : IxOK E0 ixL4 := chain_ok e0_ok kL3 qL4 rL4
theorem kL5 : IxOK E0 ixL5 := chain_ok e0_ok kL4 qL5 rL5
theorem kL6 : IxOK E0 ixL6 := chain_ok e0_ok kL5 qL6 rL6
theorem kL7 : IxOK E0 ixL7 := chain_ok e0_ok kL6 qL7 rL7
theorem kL8 : IxOK E0 ixL8 := chain_ok e0_ok kL7 qL8 rL8
theorem kL9 : IxOK E0 ixL9 := chain_ok e0_ok kL8 qL9 rL9
end Ax
end Go.Proofs.YtnnficmkdahpjaaGreatDoor
