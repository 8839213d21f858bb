/- Call summaries of one law: each is reckoned alone. -/
import Derived.Test.YtnnficmkdahpjaaGreatDoorXt
namespace Go.Proofs.YtnnficmkdahpjaaGreatDoor
namespace Ax
noncomputable def ol0 : AO := .c (bc [5, 5, 0, 0]) 199 false
noncomputable def ol1 : AO := .c (bc [1, 0, 0, 0, 0]) 5 true
noncomputable def ol2 : AO := .mp [(.s [109, 97, 110, 105, 102, 101, 115, 116, 45, 48, 48, 48, 48, 48, 48, 48, 48, 48, 48, 48, 49], .p (q 104) 0, none), (.s [99, 117, 114, 114, 101, 110, 116], .p (q 135) 0, none)] 3
noncomputable def ol3 : AO := .c [.sl (q 153) 0 22 22 1, .i .i64 (.ofNat 22)] 115 false
noncomputable def ol4 : AO := .c (bc [109, 97, 110, 105, 102, 101, 115, 116, 45, 48, 48, 48, 48, 48, 48, 48, 48, 48, 48, 48, 49, 10]) 5 false
noncomputable def ol5 : AO := .c (bc [5, 14, 0, 0]) 199 false
noncomputable def ol6 : AO := .c (bc [2, 0, 0, 0, 1, 0, 1, 9, 1, 0, 1, 97, 1, 98]) 5 true
noncomputable def ol7 : AO := .c (bc [5, 5, 0, 0, 23, 150, 84, 112]) 223 false
noncomputable def ol8 : AO := .c (bc [5, 5, 0, 0, 23, 150, 84, 112, 1, 0, 0, 0, 0, 158, 229, 181, 213, 5, 14, 0, 0, 152, 250, 62, 211, 2, 0, 0, 0, 1, 0, 1, 9, 1, 0, 1, 97, 1, 98, 174, 155, 171, 213]) 5 false
noncomputable def ol9 : AO := .c (bc [5, 14, 0, 0, 152, 250, 62, 211]) 223 false
noncomputable def ol10 : AO := .c [.sl (q 299) 0 43 43 1, .i .i64 (.ofNat 43)] 115 false
noncomputable def ol11 : AO := .c (bc [5, 5, 0, 0, 23, 150, 84, 112, 1, 0, 0, 0, 0, 158, 229, 181, 213, 5, 14, 0, 0, 152, 250, 62, 211, 2, 0, 0, 0, 1, 0, 1, 9, 1, 0, 1, 97, 1, 98, 174, 155, 171, 213]) 5 true
/-- bootprint/crc.Update -/
noncomputable def sL0 : Sm := { us := [.i .u32 (.ofNat 0), .sl (q 83) 0 4 4 0], n := q 86, pre := [(q 83, ol0)], v := .i .u32 (.ofNat 3584026344), post := [(q 83, ol0)], n' := q 87 }
noncomputable def ixL0 : FuncId → Option Ix := ixAdd E0 ix0 234 sL0
/-- bootprint/crc.Update -/
noncomputable def sL1 : Sm := { us := [.i .u32 (.ofNat 0), .sl (q 81) 0 5 5 1], n := q 91, pre := [(q 81, ol1)], v := .i .u32 (.ofNat 2103646617), post := [(q 81, ol1)], n' := q 92 }
noncomputable def ixL1 : FuncId → Option Ix := ixAdd E0 ixL0 234 sL1
/-- bootprint/manifest.Open -/
noncomputable def sL2 : Sm := { us := [.p (q 39) 0], n := q 40, pre := [(q 37, .mp [] 0), (q 38, .mp [] 0), (q 39, .c [.b true, .i .i64 (.ofNat 1048576), .m (q 37), .m (q 38), .ns, .b false, .i .i64 (.negSucc 0), .i .i64 (.negSucc 0), .i .i64 (.ofNat 0), .i .i64 (.ofNat 0)] 57 false)], v := .tu [.p (q 49) 0, .i .i64 (.ofNat 0)], post := [(q 37, ol2), (q 38, .mp [] 0), (q 39, .c [.b true, .i .i64 (.ofNat 1048576), .m (q 37), .m (q 169), .ns, .b false, .i .i64 (.negSucc 0), .i .i64 (.negSucc 0), .i .i64 (.ofNat 0), .i .i64 (.ofNat 9)] 57 false), (q 48, .c [.ns, .ns, .ns, .ns, .ns] 90 false), (q 49, .c [.p (q 39) 0, .sl (q 48) 0 5 5 0, .i .u64 (.ofNat 1), .i .u64 (.ofNat 0), .i .u64 (.ofNat 0), .i .u64 (.ofNat 1), .i .i64 (.ofNat 0)] 49 false), (q 104, .c [.sl (q 121) 0 17 17 1, .i .i64 (.ofNat 17)] 115 false), (q 121, .c (bc [5, 5, 0, 0, 23, 150, 84, 112, 1, 0, 0, 0, 0, 158, 229, 181, 213]) 5 false), (q 135, ol3), (q 153, ol4), (q 169, ol2)], n' := q 170 }
noncomputable def ixL2 : FuncId → Option Ix := ixAdd E0 ixL1 12 sL2
/-- bootprint/crc.Update -/
noncomputable def sL3 : Sm := { us := [.i .u32 (.ofNat 0), .sl (q 274) 0 4 4 0], n := q 277, pre := [(q 274, ol5)], v := .i .u32 (.ofNat 132126814), post := [(q 274, ol5)], n' := q 278 }
noncomputable def ixL3 : FuncId → Option Ix := ixAdd E0 ixL2 234 sL3
/-- bootprint/crc.Update -/
noncomputable def sL4 : Sm := { us := [.i .u32 (.ofNat 0), .sl (q 272) 0 14 14 1], n := q 282, pre := [(q 272, ol6)], v := .i .u32 (.ofNat 1483413908), post := [(q 272, ol6)], n' := q 283 }
noncomputable def ixL4 : FuncId → Option Ix := ixAdd E0 ixL3 234 sL4
/-- bootprint/crc.Update -/
noncomputable def sL5 : Sm := { us := [.i .u32 (.ofNat 0), .sl (q 338) 0 4 8 0], n := q 340, pre := [(q 338, ol7)], v := .i .u32 (.ofNat 3584026344), post := [(q 338, ol7)], n' := q 341 }
noncomputable def ixL5 : FuncId → Option Ix := ixAdd E0 ixL4 234 sL5
/-- bootprint/crc.Update -/
noncomputable def sL6 : Sm := { us := [.i .u32 (.ofNat 0), .sl (q 336) 8 5 35 1], n := q 342, pre := [(q 336, ol8)], v := .i .u32 (.ofNat 2103646617), post := [(q 336, ol8)], n' := q 343 }
noncomputable def ixL6 : FuncId → Option Ix := ixAdd E0 ixL5 234 sL6
/-- bootprint/crc.Update -/
noncomputable def sL7 : Sm := { us := [.i .u32 (.ofNat 0), .sl (q 349) 0 4 8 0], n := q 351, pre := [(q 349, ol9)], v := .i .u32 (.ofNat 132126814), post := [(q 349, ol9)], n' := q 352 }
noncomputable def ixL7 : FuncId → Option Ix := ixAdd E0 ixL6 234 sL7
/-- bootprint/crc.Update -/
noncomputable def sL8 : Sm := { us := [.i .u32 (.ofNat 0), .sl (q 336) 25 14 18 1], n := q 353, pre := [(q 336, ol8)], v := .i .u32 (.ofNat 1483413908), post := [(q 336, ol8)], n' := q 354 }
noncomputable def ixL8 : FuncId → Option Ix := ixAdd E0 ixL7 234 sL8
/-- bootprint/manifest.Open -/
noncomputable def sL9 : Sm := { us := [.p (q 39) 0], n := q 304, pre := [(q 37, ol2), (q 39, .c [.b true, .i .i64 (.ofNat 1048576), .m (q 37), .m (q 169), .ns, .b false, .i .i64 (.negSucc 0), .i .i64 (.negSucc 0), .i .i64 (.ofNat 0), .i .i64 (.ofNat 11)] 57 false), (q 104, ol10), (q 135, ol3), (q 153, ol4), (q 299, ol11)], v := .tu [.p (q 313) 0, .i .i64 (.ofNat 0)], post := [(q 37, ol2), (q 39, .c [.b true, .i .i64 (.ofNat 1048576), .m (q 37), .m (q 169), .ns, .b false, .i .i64 (.negSucc 0), .i .i64 (.negSucc 0), .i .i64 (.ofNat 0), .i .i64 (.ofNat 14)] 57 false), (q 104, ol10), (q 135, ol3), (q 153, ol4), (q 299, ol11), (q 313, .c [.p (q 39) 0, .sl (q 436) 0 5 5 0, .i .u64 (.ofNat 2), .i .u64 (.ofNat 0), .i .u64 (.ofNat 0), .i .u64 (.ofNat 1), .i .i64 (.ofNat 0)] 49 false), (q 436, .c [.sl (q 444) 0 1 1 6, .ns, .ns, .ns, .ns] 90 false), (q 440, .c (bc [97]) 5 false), (q 442, .c (bc [98]) 5 false), (q 444, .c [.i .u64 (.ofNat 1), .i .i64 (.ofNat 9), .sl (q 440) 0 1 1 1, .sl (q 442) 0 1 1 1, .i .i64 (.ofNat 1), .i .u64 (.ofNat 0)] 83 false)], n' := q 460 }
noncomputable def ixL9 : FuncId → Option Ix := ixAdd E0 ixL8 12 sL9
end Ax
end Go.Proofs.YtnnficmkdahpjaaGreatDoor
