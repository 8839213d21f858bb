/- The summaries may stand, one behind the other. -/
import Derived.Test.YtpimllnmacnfoaaGreatDoorY0
import Derived.Test.YtpimllnmacnfoaaGreatDoorPR0
import Derived.Test.YtpimllnmacnfoaaGreatDoorPR1
import Derived.Test.YtpimllnmacnfoaaGreatDoorPR2
import Derived.Test.YtpimllnmacnfoaaGreatDoorPR3
import Derived.Test.YtpimllnmacnfoaaGreatDoorPR4
import Derived.Test.YtpimllnmacnfoaaGreatDoorPR5
namespace Go.Proofs.YtpimllnmacnfoaaGreatDoor
namespace Ax
theorem kP0 : IxOK E0 ixP0 := chain_ok e0_ok ix0_ok qP0 rP0
theorem kP1 : IxOK E0 ixP1 := chain_ok e0_ok kP0 qP1 rP1
theorem kP2 : IxOK E0 ixP2 := chain_ok e0_ok kP1 qP2 rP2
theorem kP3 : IxOK E0 ixP3 := chain_ok e0_ok kP2 qP3 rP3
theorem kP4 : IxOK E0 ixP4 := chain_ok e0_ok kP3 qP4 rP4
theorem kP5 : IxOK E0 ixP5 := chain_ok e0_ok kP4 qP5 rP5
theorem kP6 : IxOK E0 ixP6 := chain_ok e0_ok kP5 qP6 rP6
theorem kP7 : IxOK E0 ixP7 := chain_ok e0_ok kP6 qP7 rP7
theorem kP8 : IxOK E0 ixP8 := chain_ok e0_ok kP7 qP8 rP8
theorem kP9 : IxOK E0 ixP9 := chain_ok e0_ok kP8 qP9 rP9
theorem kP10 : IxOK E0 ixP10 := chain_ok e0_ok kP9 qP10 rP10
end Ax
end Go.Proofs.YtpimllnmacnfoaaGreatDoor
