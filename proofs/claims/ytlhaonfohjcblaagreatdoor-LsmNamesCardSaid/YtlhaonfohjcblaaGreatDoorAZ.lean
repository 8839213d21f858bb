/- The summaries may stand, one behind the other. -/
import Derived.Test.YtlhaonfohjcblaaGreatDoorY0
import Derived.Test.YtlhaonfohjcblaaGreatDoorAR0
import Derived.Test.YtlhaonfohjcblaaGreatDoorAR1
import Derived.Test.YtlhaonfohjcblaaGreatDoorAR2
import Derived.Test.YtlhaonfohjcblaaGreatDoorAR3
import Derived.Test.YtlhaonfohjcblaaGreatDoorAR4
import Derived.Test.YtlhaonfohjcblaaGreatDoorAR5
import Derived.Test.YtlhaonfohjcblaaGreatDoorAR6
import Derived.Test.YtlhaonfohjcblaaGreatDoorAR7
import Derived.Test.YtlhaonfohjcblaaGreatDoorAR8
import Derived.Test.YtlhaonfohjcblaaGreatDoorAR9
import Derived.Test.YtlhaonfohjcblaaGreatDoorAR10
import Derived.Test.YtlhaonfohjcblaaGreatDoorAR11
import Derived.Test.YtlhaonfohjcblaaGreatDoorAR12
import Derived.Test.YtlhaonfohjcblaaGreatDoorAR13
import Derived.Test.YtlhaonfohjcblaaGreatDoorAR14
import Derived.Test.YtlhaonfohjcblaaGreatDoorAR15
import Derived.Test.YtlhaonfohjcblaaGreatDoorAR16
import Derived.Test.YtlhaonfohjcblaaGreatDoorAR17
import Derived.Test.YtlhaonfohjcblaaGreatDoorAR18
import Derived.Test.YtlhaonfohjcblaaGreatDoorAR19
import Derived.Test.YtlhaonfohjcblaaGreatDoorAR20
namespace Go.Proofs.YtlhaonfohjcblaaGreatDoor
namespace Ax
theorem kA0 : IxOK E0 ixA0 := chain_ok e0_ok ix0_ok qA0 rA0
theorem kA1 : IxOK E0 ixA1 := chain_ok e0_ok kA0 qA1 rA1
theorem kA2 : IxOK E0 ixA2 := chain_ok e0_ok kA1 qA2 rA2
theorem kA3 : IxOK E0 ixA3 := chain_ok e0_ok kA2 qA3 rA3
theorem kA4 : IxOK E0 ixA4 := chain_ok e0_ok kA3 qA4 rA4
theorem kA5 : IxOK E0 ixA5 := chain_ok e0_ok kA4 qA5 rA5
theorem kA6 : IxOK E0 ixA6 := chain_ok e0_ok kA5 qA6 rA6
theorem kA7 : IxOK E0 ixA7 := chain_ok e0_ok kA6 qA7 rA7
theorem kA8 : IxOK E0 ixA8 := chain_ok e0_ok kA7 qA8 rA8
theorem kA9 : IxOK E0 ixA9 := chain_ok e0_ok kA8 qA9 rA9
theorem kA10 : IxOK E0 ixA10 := chain_ok e0_ok kA9 qA10 rA10
theorem kA11 : IxOK E0 ixA11 := chain_ok e0_ok kA10 qA11 rA11
theorem kA12 : IxOK E0 ixA12 := chain_ok e0_ok kA11 qA12 rA12
theorem kA13 : IxOK E0 ixA13 := chain_ok e0_ok kA12 qA13 rA13
theorem kA14 : IxOK E0 ixA14 := chain_ok e0_ok kA13 qA14 rA14
theorem kA15 : IxOK E0 ixA15 := chain_ok e0_ok kA14 qA15 rA15
theorem kA16 : IxOK E0 ixA16 := chain_ok e0_ok kA15 qA16 rA16
theorem kA17 : IxOK E0 ixA17 := chain_ok e0_ok kA16 qA17 rA17
theorem kA18 : IxOK E0 ixA18 := chain_ok e0_ok kA17 qA18 rA18
theorem kA19 : IxOK E0 ixA19 := chain_ok e0_ok kA18 qA19 rA19
theorem kA20 : IxOK E0 ixA20 := chain_ok e0_ok kA19 qA20 rA20
theorem kA21 : IxOK E0 ixA21 := chain_ok e0_ok kA20 qA21 rA21
theorem kA22 : IxOK E0 ixA22 := chain_ok e0_ok kA21 qA22 rA22
theorem kA23 : IxOK E0 ixA23 := chain_ok e0_ok kA22 qA23 rA23
theorem kA24 : IxOK E0 ixA24 := chain_ok e0_ok kA23 qA24 rA24
theorem kA25 : IxOK E0 ixA25 := chain_ok e0_ok kA24 qA25 rA25
theorem kA26 : IxOK E0 ixA26 := chain_ok e0_ok kA25 qA26 rA26
theorem kA27 : IxOK E0 ixA27 := chain_ok e0_ok kA26 qA27 rA27
theorem kA28 : IxOK E0 ixA28 := chain_ok e0_ok kA27 qA28 rA28
theorem kA29 : IxOK E0 ixA29 := chain_ok e0_ok kA28 qA29 rA29
theorem kA30 : IxOK E0 ixA30 := chain_ok e0_ok kA29 qA30 rA30
theorem kA31 : IxOK E0 ixA31 := chain_ok e0_ok kA30 qA31 rA31
theorem kA32 : IxOK E0 ixA32 := chain_ok e0_ok kA31 qA32 rA32
theorem kA33 : IxOK E0 ixA33 := chain_ok e0_ok kA32 qA33 rA33
theorem kA34 : IxOK E0 ixA34 := chain_ok e0_ok kA33 qA34 rA34
theorem kA35 : IxOK E0 ixA35 := chain_ok e0_ok kA34 qA35 rA35
theorem kA36 : IxOK E0 ixA36 := chain_ok e0_ok kA35 qA36 rA36
theorem kA37 : IxOK E0 ixA37 := chain_ok e0_ok kA36 qA37 rA37
theorem kA38 : IxOK E0 ixA38 := chain_ok e0_ok kA37 qA38 rA38
theorem kA39 : IxOK E0 ixA39 := chain_ok e0_ok kA38 qA39 rA39
theorem kA40 : IxOK E0 ixA40 := chain_ok e0_ok kA39 qA40 rA40
theorem kA41 : IxOK E0 ixA41 := chain_ok e0_ok kA40 qA41 rA41
theorem kA42 : IxOK E0 ixA42 := chain_ok e0_ok kA41 qA42 rA42
theorem kA43 : IxOK E0 ixA43 := chain_ok e0_ok kA42 qA43 rA43
theorem kA44 : IxOK E0 ixA44 := chain_ok e0_ok kA43 qA44 rA44
theorem kA45 : IxOK E0 ixA45 := chain_ok e0_ok kA44 qA45 rA45
theorem kA46 : IxOK E0 ixA46 := chain_ok e0_ok kA45 qA46 rA46
theorem kA47 : IxOK E0 ixA47 := chain_ok e0_ok kA46 qA47 rA47
theorem kA48 : IxOK E0 ixA48 := chain_ok e0_ok kA47 qA48 rA48
theorem kA49 : IxOK E0 ixA49 := chain_ok e0_ok kA48 qA49 rA49
theorem kA50 : IxOK E0 ixA50 := chain_ok e0_ok kA49 qA50 rA50
theorem kA51 : IxOK E0 ixA51 := chain_ok e0_ok kA50 qA51 rA51
theorem kA52 : IxOK E0 ixA52 := chain_ok e0_ok kA51 qA52 rA52
theorem kA53 : IxOK E0 ixA53 := chain_ok e0_ok kA52 qA53 rA53
theorem kA54 : IxOK E0 ixA54 := chain_ok e0_ok kA53 qA54 rA54
theorem kA55 : IxOK E0 ixA55 := chain_ok e0_ok kA54 qA55 rA55
theorem kA56 : IxOK E0 ixA56 := chain_ok e0_ok kA55 qA56 rA56
theorem kA57 : IxOK E0 ixA57 := chain_ok e0_ok kA56 qA57 rA57
theorem kA58 : IxOK E0 ixA58 := chain_ok e0_ok kA57 qA58 rA58
theorem kA59 : IxOK E0 ixA59 := chain_ok e0_ok kA58 qA59 rA59
theorem kA60 : IxOK E0 ixA60 := chain_ok e0_ok kA59 qA60 rA60
theorem kA61 : IxOK E0 ixA61 := chain_ok e0_ok kA60 qA61 rA61
theorem kA62 : IxOK E0 ixA62 := chain_ok e0_ok kA61 qA62 rA62
theorem kA63 : IxOK E0 ixA63 := chain_ok e0_ok kA62 qA63 rA63
theorem kA64 : IxOK E0 ixA64 := chain_ok e0_ok kA63 qA64 rA64
theorem kA65 : IxOK E0 ixA65 := chain_ok e0_ok kA64 qA65 rA65
theorem kA66 : IxOK E0 ixA66 := chain_ok e0_ok kA65 qA66 rA66
theorem kA67 : IxOK E0 ixA67 := chain_ok e0_ok kA66 qA67 rA67
theorem kA68 : IxOK E0 ixA68 := chain_ok e0_ok kA67 qA68 rA68
theorem kA69 : IxOK E0 ixA69 := chain_ok e0_ok kA68 qA69 rA69
theorem kA70 : IxOK E0 ixA70 := chain_ok e0_ok kA69 qA70 rA70
theorem kA71 : IxOK E0 ixA71 := chain_ok e0_ok kA70 qA71 rA71
theorem kA72 : IxOK E0 ixA72 := chain_ok e0_ok kA71 qA72 rA72
theorem kA73 : IxOK E0 ixA73 := chain_ok e0_ok kA72 qA73 rA73
theorem kA74 : IxOK E0 ixA74 := chain_ok e0_ok kA73 qA74 rA74
theorem kA75 : IxOK E0 ixA75 := chain_ok e0_ok kA74 qA75 rA75
theorem kA76 : IxOK E0 ixA76 := chain_ok e0_ok kA75 qA76 rA76
theorem kA77 : IxOK E0 ixA77 := chain_ok e0_ok kA76 qA77 rA77
theorem kA78 : IxOK E0 ixA78 := chain_ok e0_ok kA77 qA78 rA78
theorem kA79 : IxOK E0 ixA79 := chain_ok e0_ok kA78 qA79 rA79
theorem kA80 : IxOK E0 ixA80 := chain_ok e0_ok kA79 qA80 rA80
end Ax
end Go.Proofs.YtlhaonfohjcblaaGreatDoor
