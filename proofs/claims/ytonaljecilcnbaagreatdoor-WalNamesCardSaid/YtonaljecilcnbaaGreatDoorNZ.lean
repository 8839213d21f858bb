/- The summaries may stand, one behind the other. -/
import Derived.Test.YtonaljecilcnbaaGreatDoorY0
import Derived.Test.YtonaljecilcnbaaGreatDoorNR0
import Derived.Test.YtonaljecilcnbaaGreatDoorNR1
import Derived.Test.YtonaljecilcnbaaGreatDoorNR2
import Derived.Test.YtonaljecilcnbaaGreatDoorNR3
import Derived.Test.YtonaljecilcnbaaGreatDoorNR4
import Derived.Test.YtonaljecilcnbaaGreatDoorNR5
import Derived.Test.YtonaljecilcnbaaGreatDoorNR6
import Derived.Test.YtonaljecilcnbaaGreatDoorNR7
import Derived.Test.YtonaljecilcnbaaGreatDoorNR8
import Derived.Test.YtonaljecilcnbaaGreatDoorNR9
import Derived.Test.YtonaljecilcnbaaGreatDoorNR10
import Derived.Test.YtonaljecilcnbaaGreatDoorNR11
import Derived.Test.YtonaljecilcnbaaGreatDoorNR12
import Derived.Test.YtonaljecilcnbaaGreatDoorNR13
namespace Go.Proofs.YtonaljecilcnbaaGreatDoor
namespace Ax
theorem kN0 : IxOK E0 ixN0 := chain_ok e0_ok ix0_ok qN0 rN0
theorem kN1 : IxOK E0 ixN1 := chain_ok e0_ok kN0 qN1 rN1
theorem kN2 : IxOK E0 ixN2 := chain_ok e0_ok kN1 qN2 rN2
theorem kN3 : IxOK E0 ixN3 := chain_ok e0_ok kN2 qN3 rN3
theorem kN4 : IxOK E0 ixN4 := chain_ok e0_ok kN3 qN4 rN4
theorem kN5 : IxOK E0 ixN5 := chain_ok e0_ok kN4 qN5 rN5
theorem kN6 : IxOK E0 ixN6 := chain_ok e0_ok kN5 qN6 rN6
theorem kN7 : IxOK E0 ixN7 := chain_ok e0_ok kN6 qN7 rN7
theorem kN8 : IxOK E0 ixN8 := chain_ok e0_ok kN7 qN8 rN8
theorem kN9 : IxOK E0 ixN9 := chain_ok e0_ok kN8 qN9 rN9
theorem kN10 : IxOK E0 ixN10 := chain_ok e0_ok kN9 qN10 rN10
theorem kN11 : IxOK E0 ixN11 := chain_ok e0_ok kN10 qN11 rN11
theorem kN12 : IxOK E0 ixN12 := chain_ok e0_ok kN11 qN12 rN12
theorem kN13 : IxOK E0 ixN13 := chain_ok e0_ok kN12 qN13 rN13
theorem kN14 : IxOK E0 ixN14 := chain_ok e0_ok kN13 qN14 rN14
theorem kN15 : IxOK E0 ixN15 := chain_ok e0_ok kN14 qN15 rN15
theorem kN16 : IxOK E0 ixN16 := chain_ok e0_ok kN15 qN16 rN16
theorem kN17 : IxOK E0 ixN17 := chain_ok e0_ok kN16 qN17 rN17
theorem kN18 : IxOK E0 ixN18 := chain_ok e0_ok kN17 qN18 rN18
theorem kN19 : IxOK E0 ixN19 := chain_ok e0_ok kN18 qN19 rN19
theorem kN20 : IxOK E0 ixN20 := chain_ok e0_ok kN19 qN20 rN20
theorem kN21 : IxOK E0 ixN21 := chain_ok e0_ok kN20 qN21 rN21
theorem kN22 : IxOK E0 ixN22 := chain_ok e0_ok kN21 qN22 rN22
theorem kN23 : IxOK E0 ixN23 := chain_ok e0_ok kN22 qN23 rN23
theorem kN24 : IxOK E0 ixN24 := chain_ok e0_ok kN23 qN24 rN24
theorem kN25 : IxOK E0 ixN25 := chain_ok e0_ok kN24 qN25 rN25
theorem kN26 : IxOK E0 ixN26 := chain_ok e0_ok kN25 qN26 rN26
theorem kN27 : IxOK E0 ixN27 := chain_ok e0_ok kN26 qN27 rN27
end Ax
end Go.Proofs.YtonaljecilcnbaaGreatDoor
