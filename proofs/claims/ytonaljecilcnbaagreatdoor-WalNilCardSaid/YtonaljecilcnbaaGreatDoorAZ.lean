/- The summaries may stand, one behind the other. -/
import Derived.Test.YtonaljecilcnbaaGreatDoorY0
import Derived.Test.YtonaljecilcnbaaGreatDoorAR0
import Derived.Test.YtonaljecilcnbaaGreatDoorAR1
import Derived.Test.YtonaljecilcnbaaGreatDoorAR2
import Derived.Test.YtonaljecilcnbaaGreatDoorAR3
import Derived.Test.YtonaljecilcnbaaGreatDoorAR4
import Derived.Test.YtonaljecilcnbaaGreatDoorAR5
import Derived.Test.YtonaljecilcnbaaGreatDoorAR6
import Derived.Test.YtonaljecilcnbaaGreatDoorAR7
import Derived.Test.YtonaljecilcnbaaGreatDoorAR8
import Derived.Test.YtonaljecilcnbaaGreatDoorAR9
import Derived.Test.YtonaljecilcnbaaGreatDoorAR10
import Derived.Test.YtonaljecilcnbaaGreatDoorAR11
import Derived.Test.YtonaljecilcnbaaGreatDoorAR12
import Derived.Test.YtonaljecilcnbaaGreatDoorAR13
namespace Go.Proofs.YtonaljecilcnbaaGreatDoor
namespace Ax
theorem kA0 : IxOK E0 ixA0 := chain_ok e0_ok ix0_ok qA0 rA0
theorem kA1 : IxOK E0 ixA1 := chain_ok e0_ok kA0 qA1 rA1
theorem kA2 : IxOK E0 ixA2 := chain_ok e0_ok kA1 qA2 rA2
theorem kA3 : IxOK E0 ixA3 := chain_ok e0_ok kA2 qA3 rA3
theorem kA4 : IxOK E0 ixA4 := chain_ok e0_ok kA3 qA4 rA4
theorem kA5 : IxOK E0 ixA5 := chain_ok e0_ok kA4 qA5 rA5
theorem kA6 : IxOK E0 ixA6 := chain_ok e0_ok kA5 qA6 rA6
theorem kA7 : IxOK E0 ixA7 := chain_ok e0_ok kA6 qA7 rA7
theorem kA8 : IxOK E0 ixA8 := chain_ok e0_ok kA7 qA8 rA8
theorem kA9 : IxOK E0 ixA9 := chain_ok e0_ok kA8 qA9 rA9
theorem kA10 : IxOK E0 ixA10 := chain_ok e0_ok kA9 qA10 rA10
theorem kA11 : IxOK E0 ixA11 := chain_ok e0_ok kA10 qA11 rA11
theorem kA12 : IxOK E0 ixA12 := chain_ok e0_ok kA11 qA12 rA12
theorem kA13 : IxOK E0 ixA13 := chain_ok e0_ok kA12 qA13 rA13
end Ax
end Go.Proofs.YtonaljecilcnbaaGreatDoor
