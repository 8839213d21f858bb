/- The summaries may stand, one behind the other. -/
import Derived.Test.YtbdkhhakcpediaaGreatAR0
import Derived.Test.YtbdkhhakcpediaaGreatAR1
import Derived.Test.YtbdkhhakcpediaaGreatAR2
import Derived.Test.YtbdkhhakcpediaaGreatAR3
import Derived.Test.YtbdkhhakcpediaaGreatAR4
import Derived.Test.YtbdkhhakcpediaaGreatAR5
import Derived.Test.YtbdkhhakcpediaaGreatAR6
import Derived.Test.YtbdkhhakcpediaaGreatAR7
import Derived.Test.YtbdkhhakcpediaaGreatAR8
import Derived.Test.YtbdkhhakcpediaaGreatAR9
namespace Go.Proofs.YtbdkhhakcpediaaGreat
namespace Ax
theorem kA0 : IxOK E0 ixA0 := chain_ok e0_ok ix0_ok qA0 rA0
theorem kA1 : IxOK E0 ixA1 := chain_ok e0_ok kA0 qA1 rA1
theorem kA2 : IxOK E0 ixA2 := chain_ok e0_ok kA1 qA2 rA2
theorem kA3 : IxOK E0 ixA3 := chain_ok e0_ok kA2 qA3 rA3
theorem kA4 : IxOK E0 ixA4 := chain_ok e0_ok kA3 qA4 rA4
theorem kA5 : IxOK E0 ixA5 := chain_ok e0_ok kA4 qA5 rA5
theorem kA6 : IxOK E0 ixA6 := chain_ok e0_ok kA5 qA6 rA6
theorem kA7 : IxOK E0 ixA7 := chain_ok e0_ok kA6 qA7 rA7
theorem kA8 : IxOK E0 ixA8 := chain_ok e0_ok kA7 qA8 rA8
theorem kA9 : IxOK E0 ixA9 := chain_ok e0_ok kA8 qA9 rA9
end Ax
end Go.Proofs.YtbdkhhakcpediaaGreat
