/- The summaries may stand, one behind the other. -/
import Derived.Test.YtiacpfiggfbjpaaGreatDoorY0
import Derived.Test.YtiacpfiggfbjpaaGreatDoorQR0
import Derived.Test.YtiacpfiggfbjpaaGreatDoorQR1
import Derived.Test.YtiacpfiggfbjpaaGreatDoorQR2
import Derived.Test.YtiacpfiggfbjpaaGreatDoorQR3
import Derived.Test.YtiacpfiggfbjpaaGreatDoorQR4
import Derived.Test.YtiacpfiggfbjpaaGreatDoorQR5
import Derived.Test.YtiacpfiggfbjpaaGreatDoorQR6
import Derived.Test.YtiacpfiggfbjpaaGreatDoorQR7
import Derived.Test.YtiacpfiggfbjpaaGreatDoorQR8
import Derived.Test.YtiacpfiggfbjpaaGreatDoorQR9
import Derived.Test.YtiacpfiggfbjpaaGreatDoorQR10
import Derived.Test.YtiacpfiggfbjpaaGreatDoorQR11
import Derived.Test.YtiacpfiggfbjpaaGreatDoorQR12
namespace Go.Proofs.YtiacpfiggfbjpaaGreatDoor
namespace Ax
theorem kQ0 : IxOK E0 ixQ0 := chain_ok e0_ok ix0_ok qQ0 rQ0
theorem kQ1 : IxOK E0 ixQ1 := chain_ok e0_ok kQ0 qQ1 rQ1
theorem kQ2 : IxOK E0 ixQ2 := chain_ok e0_ok kQ1 qQ2 rQ2
theorem kQ3 : IxOK E0 ixQ3 := chain_ok e0_ok kQ2 qQ3 rQ3
theorem kQ4 : IxOK E0 ixQ4 := chain_ok e0_ok kQ3 qQ4 rQ4
theorem kQ5 : IxOK E0 ixQ5 := chain_ok e0_ok kQ4 qQ5 rQ5
theorem kQ6 : IxOK E0 ixQ6 := chain_ok e0_ok kQ5 qQ6 rQ6
theorem kQ7 : IxOK E0 ixQ7 := chain_ok e0_ok kQ6 qQ7 rQ7
theorem kQ8 : IxOK E0 ixQ8 := chain_ok e0_ok kQ7 qQ8 rQ8
theorem kQ9 : IxOK E0 ixQ9 := chain_ok e0_ok kQ8 qQ9 rQ9
theorem kQ10 : IxOK E0 ixQ10 := chain_ok e0_ok kQ9 qQ10 rQ10
theorem kQ11 : IxOK E0 ixQ11 := chain_ok e0_ok kQ10 qQ11 rQ11
theorem kQ12 : IxOK E0 ixQ12 := chain_ok e0_ok kQ11 qQ12 rQ12
theorem kQ13 : IxOK E0 ixQ13 := chain_ok e0_ok kQ12 qQ13 rQ13
theorem kQ14 : IxOK E0 ixQ14 := chain_ok e0_ok kQ13 qQ14 rQ14
theorem kQ15 : IxOK E0 ixQ15 := chain_ok e0_ok kQ14 qQ15 rQ15
theorem kQ16 : IxOK E0 ixQ16 := chain_ok e0_ok kQ15 qQ16 rQ16
theorem kQ17 : IxOK E0 ixQ17 := chain_ok e0_ok kQ16 qQ17 rQ17
theorem kQ18 : IxOK E0 ixQ18 := chain_ok e0_ok kQ17 qQ18 rQ18
theorem kQ19 : IxOK E0 ixQ19 := chain_ok e0_ok kQ18 qQ19 rQ19
theorem kQ20 : IxOK E0 ixQ20 := chain_ok e0_ok kQ19 qQ20 rQ20
theorem kQ21 : IxOK E0 ixQ21 := chain_ok e0_ok kQ20 qQ21 rQ21
theorem kQ22 : IxOK E0 ixQ22 := chain_ok e0_ok kQ21 qQ22 rQ22
theorem kQ23 : IxOK E0 ixQ23 := chain_ok e0_ok kQ22 qQ23 rQ23
theorem kQ24 : IxOK E0 ixQ24 := chain_ok e0_ok kQ23 qQ24 rQ24
theorem kQ25 : IxOK E0 ixQ25 := chain_ok e0_ok kQ24 qQ25 rQ25
end Ax
end Go.Proofs.YtiacpfiggfbjpaaGreatDoor
