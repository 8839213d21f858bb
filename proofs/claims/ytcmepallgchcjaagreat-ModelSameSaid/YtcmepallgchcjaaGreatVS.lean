/- Call summaries of one law: each is reckoned alone. -/
import Derived.Test.YtcmepallgchcjaaGreatXt
namespace Go.Proofs.YtcmepallgchcjaaGreat
namespace Ax
noncomputable def ov0 : AO := .c [.i .u64 (.ofNat 0), .i .u64 (.ofNat 1), .i .u64 (.ofNat 1), .i .u64 (.ofNat 0), .s [97], .s [120], .i .i64 (.ofNat 0), .i .i64 (.ofNat 0), .i .i64 (.ofNat 5), .b false, .ns, .i .u64 (.ofNat 0), .i .i64 (.ofNat 0), .i .i64 (.ofNat 0), .i .u64 (.ofNat 0), .i .u64 (.ofNat 1), .i .u64 (.ofNat 2), .i .u64 (.ofNat 1), .s [98], .s [121], .i .i64 (.ofNat 0), .i .i64 (.ofNat 1), .i .i64 (.ofNat 2), .b false, .ns, .i .u64 (.ofNat 1), .i .i64 (.ofNat 0), .i .i64 (.ofNat 0)] 45 false
noncomputable def ov1 : AO := .c (bc [0, 0, 0, 0, 0, 0, 0, 0, 0, 0, 0, 0, 0, 0, 0, 1, 0, 0, 0, 0, 0, 0, 0, 1, 0, 0, 0, 0, 0, 0, 0, 0, 1, 97, 1, 120, 0, 0, 5, 0, 0, 0, 0, 0, 0, 0, 0, 0, 0, 128, 0, 0, 0, 0, 0, 0, 0, 0]) 5 true
noncomputable def ov2 : AO := .c (bc [0, 0, 0, 0, 0, 0, 0, 0, 0, 0, 0, 0, 0, 0, 0, 1, 0, 0, 0, 0, 0, 0, 0, 2, 0, 0, 0, 0, 0, 0, 0, 1, 1, 98, 1, 121, 0, 1, 2, 0, 0, 0, 0, 0, 0, 0, 0, 0, 1, 128, 0, 0, 0, 0, 0, 0, 0, 0]) 5 true
noncomputable def ov3 : AO := .c (bc [2, 0, 5]) 5 true
noncomputable def ov4 : AO := .c (bc [116, 0, 0, 0, 0, 0, 0, 0, 0, 0, 0, 0, 0, 0, 0, 0, 1]) 5 true
noncomputable def ov5 : AO := .c (bc [115, 0, 0, 0, 0, 0, 0, 0, 0, 0, 0, 0, 0, 0, 0, 0, 1, 0, 0, 0, 0, 0, 0, 0, 1]) 5 true
noncomputable def ov6 : AO := .c (bc [105, 97, 0, 1, 0, 0, 0, 0, 0, 0, 0, 0, 0, 0, 0, 0, 0, 0, 0, 0, 0, 0, 0, 0, 0, 0, 0, 1, 0, 0, 0, 0, 0, 0, 0, 1]) 5 true
noncomputable def ov7 : AO := .c (bc [111, 97, 0, 1, 120, 0, 1, 0, 0, 0, 0, 0, 0, 0, 0, 0, 0, 0, 0, 0, 0, 0, 0, 0, 0, 0, 0, 0, 0, 0, 1, 0, 0, 0, 0, 0, 0, 0, 1]) 5 true
noncomputable def ov8 : AO := .c (bc [100, 97, 0, 1, 0, 0, 0, 0, 0, 0, 0, 5, 0, 0, 0, 0, 0, 0, 0, 0, 0, 0, 0, 0, 0, 0, 0, 0, 0, 0, 0, 0, 0, 0, 0, 1, 0, 0, 0, 0, 0, 0, 0, 1]) 5 true
noncomputable def ov9 : AO := .c (bc [110, 97, 0, 1, 120, 0, 1]) 5 true
noncomputable def ov10 : AO := .c (bc [115, 0, 0, 0, 0, 0, 0, 0, 0, 0, 0, 0, 0, 0, 0, 0, 1, 0, 0, 0, 0, 0, 0, 0, 2]) 5 true
noncomputable def ov11 : AO := .c (bc [105, 98, 0, 1, 0, 0, 0, 0, 0, 0, 0, 1, 0, 0, 0, 0, 0, 0, 0, 0, 0, 0, 0, 0, 0, 0, 0, 1, 0, 0, 0, 0, 0, 0, 0, 2]) 5 true
noncomputable def ov12 : AO := .c (bc [111, 98, 0, 1, 121, 0, 1, 0, 0, 0, 0, 0, 0, 0, 1, 0, 0, 0, 0, 0, 0, 0, 0, 0, 0, 0, 0, 0, 0, 0, 1, 0, 0, 0, 0, 0, 0, 0, 2]) 5 true
noncomputable def ov13 : AO := .c (bc [100, 98, 0, 1, 0, 0, 0, 0, 0, 0, 0, 2, 0, 0, 0, 0, 0, 0, 0, 1, 0, 0, 0, 0, 0, 0, 0, 0, 0, 0, 0, 0, 0, 0, 0, 1, 0, 0, 0, 0, 0, 0, 0, 2]) 5 true
noncomputable def ov14 : AO := .c (bc [110, 98, 0, 1, 121, 0, 1]) 5 true
/-- bootprint/schema.Writes -/
noncomputable def sV0 : Sm := { us := [.sl (q 2) 0 2 2 0], n := q 3, pre := [(q 2, ov0)], v := .tu [.sl (q 1413) 0 11 11 3, .i .i64 (.ofNat 0)], post := [(q 2, ov0), (q 126, ov1), (q 252, ov2), (q 268, ov3), (q 339, ov4), (q 442, ov5), (q 561, ov6), (q 687, ov7), (q 825, ov8), (q 875, ov9), (q 978, ov10), (q 1097, ov11), (q 1223, ov12), (q 1361, ov13), (q 1411, ov14), (q 1413, .c [.i .i64 (.ofNat 1), .sl (q 339) 0 17 17 1, .sl (q 268) 0 3 3 1, .i .i64 (.ofNat 1), .sl (q 442) 0 25 25 1, .sl (q 126) 0 58 58 1, .i .i64 (.ofNat 1), .sl (q 561) 0 36 36 1, .ns, .i .i64 (.ofNat 1), .sl (q 687) 0 39 39 1, .ns, .i .i64 (.ofNat 1), .sl (q 825) 0 44 44 1, .ns, .i .i64 (.ofNat 1), .sl (q 875) 0 7 7 1, .ns, .i .i64 (.ofNat 1), .sl (q 978) 0 25 25 1, .sl (q 252) 0 58 58 1, .i .i64 (.ofNat 1), .sl (q 1097) 0 36 36 1, .ns, .i .i64 (.ofNat 1), .sl (q 1223) 0 39 39 1, .ns, .i .i64 (.ofNat 1), .sl (q 1361) 0 44 44 1, .ns, .i .i64 (.ofNat 1), .sl (q 1411) 0 7 7 1, .ns] 111 true)], n' := q 1414 }
noncomputable def ixV0 : FuncId → Option Ix := ixAdd E0 ix0 22 sV0
/-- bootprint/schema.Writes -/
noncomputable def sV1 : Sm := { us := [.sl (q 1417) 0 2 2 14], n := q 1427, pre := [(q 1417, ov0)], v := .tu [.sl (q 2837) 0 11 11 3, .i .i64 (.ofNat 0)], post := [(q 1417, ov0), (q 1550, ov1), (q 1676, ov2), (q 1692, ov3), (q 1763, ov4), (q 1866, ov5), (q 1985, ov6), (q 2111, ov7), (q 2249, ov8), (q 2299, ov9), (q 2402, ov10), (q 2521, ov11), (q 2647, ov12), (q 2785, ov13), (q 2835, ov14), (q 2837, .c [.i .i64 (.ofNat 1), .sl (q 1763) 0 17 17 1, .sl (q 1692) 0 3 3 1, .i .i64 (.ofNat 1), .sl (q 1866) 0 25 25 1, .sl (q 1550) 0 58 58 1, .i .i64 (.ofNat 1), .sl (q 1985) 0 36 36 1, .ns, .i .i64 (.ofNat 1), .sl (q 2111) 0 39 39 1, .ns, .i .i64 (.ofNat 1), .sl (q 2249) 0 44 44 1, .ns, .i .i64 (.ofNat 1), .sl (q 2299) 0 7 7 1, .ns, .i .i64 (.ofNat 1), .sl (q 2402) 0 25 25 1, .sl (q 1676) 0 58 58 1, .i .i64 (.ofNat 1), .sl (q 2521) 0 36 36 1, .ns, .i .i64 (.ofNat 1), .sl (q 2647) 0 39 39 1, .ns, .i .i64 (.ofNat 1), .sl (q 2785) 0 44 44 1, .ns, .i .i64 (.ofNat 1), .sl (q 2835) 0 7 7 1, .ns] 111 true)], n' := q 2838 }
noncomputable def ixV1 : FuncId → Option Ix := ixAdd E0 ixV0 22 sV1
end Ax
end Go.Proofs.YtcmepallgchcjaaGreat
