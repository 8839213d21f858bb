/- The summaries may stand, one behind the other. -/
import Derived.Test.YtnnficmkdahpjaaGreatDoorY0
import Derived.Test.YtnnficmkdahpjaaGreatDoorNR0
import Derived.Test.YtnnficmkdahpjaaGreatDoorNR1
import Derived.Test.YtnnficmkdahpjaaGreatDoorNR2
import Derived.Test.YtnnficmkdahpjaaGreatDoorNR3
import Derived.Test.YtnnficmkdahpjaaGreatDoorNR4
import Derived.Test.YtnnficmkdahpjaaGreatDoorNR5
import Derived.Test.YtnnficmkdahpjaaGreatDoorNR6
import Derived.Test.YtnnficmkdahpjaaGreatDoorNR7
import Derived.Test.YtnnficmkdahpjaaGreatDoorNR8
import Derived.Test.YtnnficmkdahpjaaGreatDoorNR9
namespace Go.Proofs.YtnnficmkdahpjaaGreatDoor
namespace Ax
theorem kN0 : IxOK E0 ixN0 := chain_ok e0_ok ix0_ok qN0 rN0
theorem kN1 : IxOK E0 ixN1 := chain_ok e0_ok kN0 qN1 rN1
theorem kN2 : IxOK E0 ixN2 := chain_ok e0_ok kN1 qN2 rN2
theorem kN3 : IxOK E0 ixN3 := chain_ok e0_ok kN2 qN3 rN3
theorem kN4 : IxOK E0 ixN4 := chain_ok e0_ok kN3 qN4 rN4
theorem kN5 : IxOK E0 ixN5 := chain_ok e0_ok kN4 qN5 rN5
theorem kN6 : IxOK E0 ixN6 := chain_ok e0_ok kN5 qN6 rN6
theorem kN7 : IxOK E0 ixN7 := chain_ok e0_ok kN6 qN7 rN7
theorem kN8 : IxOK E0 ixN8 := chain_ok e0_ok kN7 qN8 rN8
theorem kN9 : IxOK E0 ixN9 := chain_ok e0_ok kN8 qN9 rN9
theorem kN10 : IxOK E0 ixN10 := chain_ok e0_ok kN9 qN10 rN10
theorem kN11 : IxOK E0 ixN11 := chain_ok e0_ok kN10 qN11 rN11
theorem kN12 : IxOK E0 ixN12 := chain_ok e0_ok kN11 qN12 rN12
theorem kN13 : IxOK E0 ixN13 := chain_ok e0_ok kN12 qN13 rN13
theorem kN14 : IxOK E0 ixN14 := chain_ok e0_ok kN13 qN14 rN14
theorem kN15 : IxOK E0 ixN15 := chain_ok e0_ok kN14 qN15 rN15
theorem kN16 : IxOK E0 ixN16 := chain_ok e0_ok kN15 qN16 rN16
theorem kN17 : IxOK E0 ixN17 := chain_ok e0_ok kN16 qN17 rN17
theorem kN18 : IxOK E0 ixN18 := chain_ok e0_ok kN17 qN18 rN18
end Ax
end Go.Proofs.YtnnficmkdahpjaaGreatDoor
