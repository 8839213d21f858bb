/- Call summaries of one law: each is reckoned alone. -/
import Derived.Test.YtnnficmkdahpjaaGreatDoorXt
namespace Go.Proofs.YtnnficmkdahpjaaGreatDoor
namespace Ax
noncomputable def ov0 : AO := .c (bc [5, 5, 0, 0]) 199 false
noncomputable def ov1 : AO := .c (bc [1, 0, 0, 0, 0]) 5 true
noncomputable def ov2 : AO := .mp [(.s [109, 97, 110, 105, 102, 101, 115, 116, 45, 48, 48, 48, 48, 48, 48, 48, 48, 48, 48, 48, 49], .p (q 76) 0, none), (.s [99, 117, 114, 114, 101, 110, 116], .p (q 107) 0, none)] 3
noncomputable def ov3 : AO := .c [.sl (q 125) 0 22 22 1, .i .i64 (.ofNat 22)] 115 false
noncomputable def ov4 : AO := .c (bc [109, 97, 110, 105, 102, 101, 115, 116, 45, 48, 48, 48, 48, 48, 48, 48, 48, 48, 48, 48, 49, 10]) 5 false
noncomputable def ov5 : AO := .c (bc [5, 14, 0, 0]) 199 false
noncomputable def ov6 : AO := .c (bc [2, 0, 0, 0, 1, 0, 1, 9, 1, 0, 1, 97, 1, 98]) 5 true
noncomputable def ov7 : AO := .c (bc [5, 5, 0, 0, 23, 150, 84, 112]) 223 false
noncomputable def ov8 : AO := .c (bc [5, 5, 0, 0, 23, 150, 84, 112, 1, 0, 0, 0, 0, 158, 229, 181, 213, 5, 14, 0, 0, 152, 250, 62, 211, 2, 0, 0, 0, 1, 0, 1, 9, 1, 0, 1, 97, 1, 98, 174, 155, 171, 213]) 5 false
noncomputable def ov9 : AO := .c (bc [5, 14, 0, 0, 152, 250, 62, 211]) 223 false
noncomputable def ov10 : AO := .c [.sl (q 271) 0 43 43 1, .i .i64 (.ofNat 43)] 115 false
noncomputable def ov11 : AO := .c (bc [5, 5, 0, 0, 23, 150, 84, 112, 1, 0, 0, 0, 0, 158, 229, 181, 213, 5, 14, 0, 0, 152, 250, 62, 211, 2, 0, 0, 0, 1, 0, 1, 9, 1, 0, 1, 97, 1, 98, 174, 155, 171, 213]) 5 true
/-- bootprint/crc.Update -/
noncomputable def sV0 : Sm := { us := [.i .u32 (.ofNat 0), .sl (q 55) 0 4 4 0], n := q 58, pre := [(q 55, ov0)], v := .i .u32 (.ofNat 3584026344), post := [(q 55, ov0)], n' := q 59 }
noncomputable def ixV0 : FuncId → Option Ix := ixAdd E0 ix0 234 sV0
/-- bootprint/crc.Update -/
noncomputable def sV1 : Sm := { us := [.i .u32 (.ofNat 0), .sl (q 53) 0 5 5 1], n := q 63, pre := [(q 53, ov1)], v := .i .u32 (.ofNat 2103646617), post := [(q 53, ov1)], n' := q 64 }
noncomputable def ixV1 : FuncId → Option Ix := ixAdd E0 ixV0 234 sV1
/-- bootprint/manifest.Open -/
noncomputable def sV2 : Sm := { us := [.p (q 11) 0], n := q 12, pre := [(q 9, .mp [] 0), (q 10, .mp [] 0), (q 11, .c [.b true, .i .i64 (.ofNat 1048576), .m (q 9), .m (q 10), .ns, .b false, .i .i64 (.negSucc 0), .i .i64 (.negSucc 0), .i .i64 (.ofNat 0), .i .i64 (.ofNat 0)] 57 false)], v := .tu [.p (q 21) 0, .i .i64 (.ofNat 0)], post := [(q 9, ov2), (q 10, .mp [] 0), (q 11, .c [.b true, .i .i64 (.ofNat 1048576), .m (q 9), .m (q 141), .ns, .b false, .i .i64 (.negSucc 0), .i .i64 (.negSucc 0), .i .i64 (.ofNat 0), .i .i64 (.ofNat 9)] 57 false), (q 20, .c [.ns, .ns, .ns, .ns, .ns] 90 false), (q 21, .c [.p (q 11) 0, .sl (q 20) 0 5 5 0, .i .u64 (.ofNat 1), .i .u64 (.ofNat 0), .i .u64 (.ofNat 0), .i .u64 (.ofNat 1), .i .i64 (.ofNat 0)] 49 false), (q 76, .c [.sl (q 93) 0 17 17 1, .i .i64 (.ofNat 17)] 115 false), (q 93, .c (bc [5, 5, 0, 0, 23, 150, 84, 112, 1, 0, 0, 0, 0, 158, 229, 181, 213]) 5 false), (q 107, ov3), (q 125, ov4), (q 141, ov2)], n' := q 142 }
noncomputable def ixV2 : FuncId → Option Ix := ixAdd E0 ixV1 12 sV2
/-- bootprint/crc.Update -/
noncomputable def sV3 : Sm := { us := [.i .u32 (.ofNat 0), .sl (q 246) 0 4 4 0], n := q 249, pre := [(q 246, ov5)], v := .i .u32 (.ofNat 132126814), post := [(q 246, ov5)], n' := q 250 }
noncomputable def ixV3 : FuncId → Option Ix := ixAdd E0 ixV2 234 sV3
/-- bootprint/crc.Update -/
noncomputable def sV4 : Sm := { us := [.i .u32 (.ofNat 0), .sl (q 244) 0 14 14 1], n := q 254, pre := [(q 244, ov6)], v := .i .u32 (.ofNat 1483413908), post := [(q 244, ov6)], n' := q 255 }
noncomputable def ixV4 : FuncId → Option Ix := ixAdd E0 ixV3 234 sV4
/-- bootprint/crc.Update -/
noncomputable def sV5 : Sm := { us := [.i .u32 (.ofNat 0), .sl (q 310) 0 4 8 0], n := q 312, pre := [(q 310, ov7)], v := .i .u32 (.ofNat 3584026344), post := [(q 310, ov7)], n' := q 313 }
noncomputable def ixV5 : FuncId → Option Ix := ixAdd E0 ixV4 234 sV5
/-- bootprint/crc.Update -/
noncomputable def sV6 : Sm := { us := [.i .u32 (.ofNat 0), .sl (q 308) 8 5 35 1], n := q 314, pre := [(q 308, ov8)], v := .i .u32 (.ofNat 2103646617), post := [(q 308, ov8)], n' := q 315 }
noncomputable def ixV6 : FuncId → Option Ix := ixAdd E0 ixV5 234 sV6
/-- bootprint/crc.Update -/
noncomputable def sV7 : Sm := { us := [.i .u32 (.ofNat 0), .sl (q 321) 0 4 8 0], n := q 323, pre := [(q 321, ov9)], v := .i .u32 (.ofNat 132126814), post := [(q 321, ov9)], n' := q 324 }
noncomputable def ixV7 : FuncId → Option Ix := ixAdd E0 ixV6 234 sV7
/-- bootprint/crc.Update -/
noncomputable def sV8 : Sm := { us := [.i .u32 (.ofNat 0), .sl (q 308) 25 14 18 1], n := q 325, pre := [(q 308, ov8)], v := .i .u32 (.ofNat 1483413908), post := [(q 308, ov8)], n' := q 326 }
noncomputable def ixV8 : FuncId → Option Ix := ixAdd E0 ixV7 234 sV8
/-- bootprint/manifest.Open -/
noncomputable def sV9 : Sm := { us := [.p (q 11) 0], n := q 276, pre := [(q 9, ov2), (q 11, .c [.b true, .i .i64 (.ofNat 1048576), .m (q 9), .m (q 141), .ns, .b false, .i .i64 (.negSucc 0), .i .i64 (.negSucc 0), .i .i64 (.ofNat 0), .i .i64 (.ofNat 11)] 57 false), (q 76, ov10), (q 107, ov3), (q 125, ov4), (q 271, ov11)], v := .tu [.p (q 285) 0, .i .i64 (.ofNat 0)], post := [(q 9, ov2), (q 11, .c [.b true, .i .i64 (.ofNat 1048576), .m (q 9), .m (q 141), .ns, .b false, .i .i64 (.negSucc 0), .i .i64 (.negSucc 0), .i .i64 (.ofNat 0), .i .i64 (.ofNat 14)] 57 false), (q 76, ov10), (q 107, ov3), (q 125, ov4), (q 271, ov11), (q 285, .c [.p (q 11) 0, .sl (q 408) 0 5 5 0, .i .u64 (.ofNat 2), .i .u64 (.ofNat 0), .i .u64 (.ofNat 0), .i .u64 (.ofNat 1), .i .i64 (.ofNat 0)] 49 false), (q 408, .c [.sl (q 416) 0 1 1 6, .ns, .ns, .ns, .ns] 90 false), (q 412, .c (bc [97]) 5 false), (q 414, .c (bc [98]) 5 false), (q 416, .c [.i .u64 (.ofNat 1), .i .i64 (.ofNat 9), .sl (q 412) 0 1 1 1, .sl (q 414) 0 1 1 1, .i .i64 (.ofNat 1), .i .u64 (.ofNat 0)] 83 false)], n' := q 432 }
noncomputable def ixV9 : FuncId → Option Ix := ixAdd E0 ixV8 12 sV9
end Ax
end Go.Proofs.YtnnficmkdahpjaaGreatDoor
