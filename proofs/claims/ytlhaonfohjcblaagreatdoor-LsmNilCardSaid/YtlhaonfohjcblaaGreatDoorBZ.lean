/- The summaries may stand, one behind the other. -/
import Derived.Test.YtlhaonfohjcblaaGreatDoorY0
import Derived.Test.YtlhaonfohjcblaaGreatDoorBR0
import Derived.Test.YtlhaonfohjcblaaGreatDoorBR1
import Derived.Test.YtlhaonfohjcblaaGreatDoorBR2
import Derived.Test.YtlhaonfohjcblaaGreatDoorBR3
import Derived.Test.YtlhaonfohjcblaaGreatDoorBR4
import Derived.Test.YtlhaonfohjcblaaGreatDoorBR5
import Derived.Test.YtlhaonfohjcblaaGreatDoorBR6
import Derived.Test.YtlhaonfohjcblaaGreatDoorBR7
import Derived.Test.YtlhaonfohjcblaaGreatDoorBR8
namespace Go.Proofs.YtlhaonfohjcblaaGreatDoor
namespace Ax
theorem kB0 : IxOK E0 ixB0 := chain_ok e0_ok ix0_ok qB0 rB0
theorem kB1 : IxOK E0 ixB1 := chain_ok e0_ok kB0 qB1 rB1
theorem kB2 : IxOK E0 ixB2 := chain_ok e0_ok kB1 qB2 rB2
theorem kB3 : IxOK E0 ixB3 := chain_ok e0_ok kB2 qB3 rB3
theorem kB4 : IxOK E0 ixB4 := chain_ok e0_ok kB3 qB4 rB4
theorem kB5 : IxOK E0 ixB5 := chain_ok e0_ok kB4 qB5 rB5
theorem kB6 : IxOK E0 ixB6 := chain_ok e0_ok kB5 qB6 rB6
theorem kB7 : IxOK E0 ixB7 := chain_ok e0_ok kB6 qB7 rB7
theorem kB8 : IxOK E0 ixB8 := chain_ok e0_ok kB7 qB8 rB8
theorem kB9 : IxOK E0 ixB9 := chain_ok e0_ok kB8 qB9 rB9
theorem kB10 : IxOK E0 ixB10 := chain_ok e0_ok kB9 qB10 rB10
theorem kB11 : IxOK E0 ixB11 := chain_ok e0_ok kB10 qB11 rB11
theorem kB12 : IxOK E0 ixB12 := chain_ok e0_ok kB11 qB12 rB12
theorem kB13 : IxOK E0 ixB13 := chain_ok e0_ok kB12 qB13 rB13
theorem kB14 : IxOK E0 ixB14 := chain_ok e0_ok kB13 qB14 rB14
theorem kB15 : IxOK E0 ixB15 := chain_ok e0_ok kB14 qB15 rB15
theorem kB16 : IxOK E0 ixB16 := chain_ok e0_ok kB15 qB16 rB16
end Ax
end Go.Proofs.YtlhaonfohjcblaaGreatDoor
