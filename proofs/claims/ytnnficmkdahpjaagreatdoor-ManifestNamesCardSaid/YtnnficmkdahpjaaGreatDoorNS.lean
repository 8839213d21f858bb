/- Call summaries of one law: each is reckoned alone. -/
import Derived.Test.YtnnficmkdahpjaaGreatDoorXt
namespace Go.Proofs.YtnnficmkdahpjaaGreatDoor
namespace Ax
noncomputable def on0 : AO := .c (bc [5, 5, 0, 0]) 199 false
noncomputable def on1 : AO := .c (bc [1, 0, 0, 0, 0]) 5 true
noncomputable def on2 : AO := .mp [(.s [109, 97, 110, 105, 102, 101, 115, 116, 45, 48, 48, 48, 48, 48, 48, 48, 48, 48, 48, 48, 49], .p (q 76) 0, none), (.s [99, 117, 114, 114, 101, 110, 116], .p (q 107) 0, none)] 3
noncomputable def on3 : AO := .c (bc [5, 5, 0, 0, 23, 150, 84, 112, 1, 0, 0, 0, 0, 158, 229, 181, 213]) 5 false
noncomputable def on4 : AO := .c [.sl (q 125) 0 22 22 1, .i .i64 (.ofNat 22)] 115 false
noncomputable def on5 : AO := .c (bc [109, 97, 110, 105, 102, 101, 115, 116, 45, 48, 48, 48, 48, 48, 48, 48, 48, 48, 48, 48, 49, 10]) 5 false
noncomputable def on6 : AO := .c (bc [5, 14, 0, 0]) 199 false
noncomputable def on7 : AO := .c (bc [2, 0, 0, 0, 1, 0, 1, 9, 1, 0, 1, 97, 1, 98]) 5 true
noncomputable def on8 : AO := .c [.sl (q 253) 0 43 43 1, .i .i64 (.ofNat 43)] 115 false
noncomputable def on9 : AO := .c [.sl (q 180) 0 1 1 6, .ns, .ns, .ns, .ns] 90 false
noncomputable def on10 : AO := .c [.i .u64 (.ofNat 1), .i .i64 (.ofNat 9), .sl (q 176) 0 1 1 1, .sl (q 178) 0 1 1 1, .i .i64 (.ofNat 1), .i .u64 (.ofNat 0)] 83 false
noncomputable def on11 : AO := .mp [(.s [109, 97, 110, 105, 102, 101, 115, 116, 45, 48, 48, 48, 48, 48, 48, 48, 48, 48, 48, 48, 49], .p (q 493) 0, none), (.s [99, 117, 114, 114, 101, 110, 116], .p (q 524) 0, none)] 3
noncomputable def on12 : AO := .c [.sl (q 542) 0 22 22 1, .i .i64 (.ofNat 22)] 115 false
noncomputable def on13 : AO := .c (bc [5, 5, 0, 0, 23, 150, 84, 112]) 223 false
noncomputable def on14 : AO := .c (bc [5, 5, 0, 0, 23, 150, 84, 112, 1, 0, 0, 0, 0, 158, 229, 181, 213, 5, 14, 0, 0, 152, 250, 62, 211, 2, 0, 0, 0, 1, 0, 1, 9, 1, 0, 1, 97, 1, 98, 174, 155, 171, 213]) 5 false
noncomputable def on15 : AO := .c (bc [5, 14, 0, 0, 152, 250, 62, 211]) 223 false
noncomputable def on16 : AO := .c [.sl (q 688) 0 43 43 1, .i .i64 (.ofNat 43)] 115 false
noncomputable def on17 : AO := .c (bc [5, 5, 0, 0, 23, 150, 84, 112, 1, 0, 0, 0, 0, 158, 229, 181, 213, 5, 14, 0, 0, 152, 250, 62, 211, 2, 0, 0, 0, 1, 0, 1, 9, 1, 0, 1, 97, 1, 98, 174, 155, 171, 213]) 5 true
/-- bootprint/crc.Update -/
noncomputable def sN0 : Sm := { us := [.i .u32 (.ofNat 0), .sl (q 55) 0 4 4 0], n := q 58, pre := [(q 55, on0)], v := .i .u32 (.ofNat 3584026344), post := [(q 55, on0)], n' := q 59 }
noncomputable def ixN0 : FuncId → Option Ix := ixAdd E0 ix0 234 sN0
/-- bootprint/crc.Update -/
noncomputable def sN1 : Sm := { us := [.i .u32 (.ofNat 0), .sl (q 53) 0 5 5 1], n := q 63, pre := [(q 53, on1)], v := .i .u32 (.ofNat 2103646617), post := [(q 53, on1)], n' := q 64 }
noncomputable def ixN1 : FuncId → Option Ix := ixAdd E0 ixN0 234 sN1
/-- bootprint/manifest.Open -/
noncomputable def sN2 : Sm := { us := [.p (q 11) 0], n := q 12, pre := [(q 9, .mp [] 0), (q 10, .mp [] 0), (q 11, .c [.b true, .i .i64 (.ofNat 1048576), .m (q 9), .m (q 10), .ns, .b false, .i .i64 (.negSucc 0), .i .i64 (.negSucc 0), .i .i64 (.ofNat 0), .i .i64 (.ofNat 0)] 57 false)], v := .tu [.p (q 21) 0, .i .i64 (.ofNat 0)], post := [(q 9, on2), (q 10, .mp [] 0), (q 11, .c [.b true, .i .i64 (.ofNat 1048576), .m (q 9), .m (q 141), .ns, .b false, .i .i64 (.negSucc 0), .i .i64 (.negSucc 0), .i .i64 (.ofNat 0), .i .i64 (.ofNat 9)] 57 false), (q 20, .c [.ns, .ns, .ns, .ns, .ns] 90 false), (q 21, .c [.p (q 11) 0, .sl (q 20) 0 5 5 0, .i .u64 (.ofNat 1), .i .u64 (.ofNat 0), .i .u64 (.ofNat 0), .i .u64 (.ofNat 1), .i .i64 (.ofNat 0)] 49 false), (q 76, .c [.sl (q 93) 0 17 17 1, .i .i64 (.ofNat 17)] 115 false), (q 93, on3), (q 107, on4), (q 125, on5), (q 141, on2)], n' := q 142 }
noncomputable def ixN2 : FuncId → Option Ix := ixAdd E0 ixN1 12 sN2
/-- bootprint/crc.Update -/
noncomputable def sN3 : Sm := { us := [.i .u32 (.ofNat 0), .sl (q 228) 0 4 4 0], n := q 231, pre := [(q 228, on6)], v := .i .u32 (.ofNat 132126814), post := [(q 228, on6)], n' := q 232 }
noncomputable def ixN3 : FuncId → Option Ix := ixAdd E0 ixN2 234 sN3
/-- bootprint/crc.Update -/
noncomputable def sN4 : Sm := { us := [.i .u32 (.ofNat 0), .sl (q 226) 0 14 14 1], n := q 236, pre := [(q 226, on7)], v := .i .u32 (.ofNat 1483413908), post := [(q 226, on7)], n' := q 237 }
noncomputable def ixN4 : FuncId → Option Ix := ixAdd E0 ixN3 234 sN4
/-- bootprint/crc.Update -/
noncomputable def sN5 : Sm := { us := [.i .u32 (.ofNat 0), .sl (q 326) 0 4 4 0], n := q 329, pre := [(q 326, on6)], v := .i .u32 (.ofNat 132126814), post := [(q 326, on6)], n' := q 330 }
noncomputable def ixN5 : FuncId → Option Ix := ixAdd E0 ixN4 234 sN5
/-- bootprint/crc.Update -/
noncomputable def sN6 : Sm := { us := [.i .u32 (.ofNat 0), .sl (q 324) 0 14 14 1], n := q 334, pre := [(q 324, on7)], v := .i .u32 (.ofNat 1483413908), post := [(q 324, on7)], n' := q 335 }
noncomputable def ixN6 : FuncId → Option Ix := ixAdd E0 ixN5 234 sN6
/-- (*bootprint/manifest.Manifest).Roll -/
noncomputable def sN7 : Sm := { us := [.p (q 21) 0], n := q 258, pre := [(q 9, on2), (q 11, .c [.b true, .i .i64 (.ofNat 1048576), .m (q 9), .m (q 141), .ns, .b false, .i .i64 (.negSucc 0), .i .i64 (.negSucc 0), .i .i64 (.ofNat 0), .i .i64 (.ofNat 11)] 57 false), (q 21, .c [.p (q 11) 0, .sl (q 172) 0 5 5 0, .i .u64 (.ofNat 2), .i .u64 (.ofNat 0), .i .u64 (.ofNat 0), .i .u64 (.ofNat 1), .i .i64 (.ofNat 0)] 49 false), (q 76, on8), (q 107, on4), (q 141, on2), (q 172, on9), (q 176, .c (bc [97]) 5 false), (q 178, .c (bc [98]) 5 false), (q 180, on10)], v := .i .i64 (.ofNat 0), post := [(q 9, .mp [(.s [99, 117, 114, 114, 101, 110, 116], .p (q 378) 0, none), (.s [109, 97, 110, 105, 102, 101, 115, 116, 45, 48, 48, 48, 48, 48, 48, 48, 48, 48, 48, 48, 50], .p (q 347) 0, none)] 5), (q 11, .c [.b true, .i .i64 (.ofNat 1048576), .m (q 9), .m (q 412), .sl (q 421) 0 1 1 1, .b false, .i .i64 (.negSucc 0), .i .i64 (.negSucc 0), .i .i64 (.ofNat 0), .i .i64 (.ofNat 21)] 57 false), (q 21, .c [.p (q 11) 0, .sl (q 172) 0 5 5 0, .i .u64 (.ofNat 2), .i .u64 (.ofNat 0), .i .u64 (.ofNat 0), .i .u64 (.ofNat 2), .i .i64 (.ofNat 0)] 49 false), (q 76, on8), (q 107, on4), (q 141, on2), (q 172, on9), (q 176, .c (bc [97]) 5 false), (q 178, .c (bc [98]) 5 false), (q 180, on10), (q 347, .c [.sl (q 364) 0 26 26 1, .i .i64 (.ofNat 26)] 115 false), (q 364, .c (bc [5, 14, 0, 0, 152, 250, 62, 211, 2, 0, 0, 0, 1, 0, 1, 9, 1, 0, 1, 97, 1, 98, 174, 155, 171, 213]) 5 false), (q 378, .c [.sl (q 396) 0 22 22 1, .i .i64 (.ofNat 22)] 115 false), (q 396, .c (bc [109, 97, 110, 105, 102, 101, 115, 116, 45, 48, 48, 48, 48, 48, 48, 48, 48, 48, 48, 48, 50, 10]) 5 false), (q 412, .mp [(.s [109, 97, 110, 105, 102, 101, 115, 116, 45, 48, 48, 48, 48, 48, 48, 48, 48, 48, 48, 48, 49], .p (q 76) 0, none), (.s [99, 117, 114, 114, 101, 110, 116], .p (q 378) 0, none), (.s [109, 97, 110, 105, 102, 101, 115, 116, 45, 48, 48, 48, 48, 48, 48, 48, 48, 48, 48, 48, 50], .p (q 347) 0, none)] 5), (q 419, .mp [(.s [109, 97, 110, 105, 102, 101, 115, 116, 45, 48, 48, 48, 48, 48, 48, 48, 48, 48, 48, 48, 49], .np, (some 0))] 1), (q 421, .c [.m (q 419)] 178 false)], n' := q 423 }
noncomputable def ixN7 : FuncId → Option Ix := ixAdd E0 ixN6 15 sN7
/-- bootprint/crc.Update -/
noncomputable def sN8 : Sm := { us := [.i .u32 (.ofNat 0), .sl (q 472) 0 4 4 0], n := q 475, pre := [(q 472, on0)], v := .i .u32 (.ofNat 3584026344), post := [(q 472, on0)], n' := q 476 }
noncomputable def ixN8 : FuncId → Option Ix := ixAdd E0 ixN7 234 sN8
/-- bootprint/crc.Update -/
noncomputable def sN9 : Sm := { us := [.i .u32 (.ofNat 0), .sl (q 470) 0 5 5 1], n := q 480, pre := [(q 470, on1)], v := .i .u32 (.ofNat 2103646617), post := [(q 470, on1)], n' := q 481 }
noncomputable def ixN9 : FuncId → Option Ix := ixAdd E0 ixN8 234 sN9
/-- bootprint/manifest.Open -/
noncomputable def sN10 : Sm := { us := [.p (q 428) 0], n := q 429, pre := [(q 426, .mp [] 0), (q 427, .mp [] 0), (q 428, .c [.b true, .i .i64 (.ofNat 1048576), .m (q 426), .m (q 427), .ns, .b false, .i .i64 (.negSucc 0), .i .i64 (.negSucc 0), .i .i64 (.ofNat 0), .i .i64 (.ofNat 0)] 57 false)], v := .tu [.p (q 438) 0, .i .i64 (.ofNat 0)], post := [(q 426, on11), (q 427, .mp [] 0), (q 428, .c [.b true, .i .i64 (.ofNat 1048576), .m (q 426), .m (q 558), .ns, .b false, .i .i64 (.negSucc 0), .i .i64 (.negSucc 0), .i .i64 (.ofNat 0), .i .i64 (.ofNat 9)] 57 false), (q 437, .c [.ns, .ns, .ns, .ns, .ns] 90 false), (q 438, .c [.p (q 428) 0, .sl (q 437) 0 5 5 0, .i .u64 (.ofNat 1), .i .u64 (.ofNat 0), .i .u64 (.ofNat 0), .i .u64 (.ofNat 1), .i .i64 (.ofNat 0)] 49 false), (q 493, .c [.sl (q 510) 0 17 17 1, .i .i64 (.ofNat 17)] 115 false), (q 510, on3), (q 524, on12), (q 542, on5), (q 558, on11)], n' := q 559 }
noncomputable def ixN10 : FuncId → Option Ix := ixAdd E0 ixN9 12 sN10
/-- bootprint/crc.Update -/
noncomputable def sN11 : Sm := { us := [.i .u32 (.ofNat 0), .sl (q 663) 0 4 4 0], n := q 666, pre := [(q 663, on6)], v := .i .u32 (.ofNat 132126814), post := [(q 663, on6)], n' := q 667 }
noncomputable def ixN11 : FuncId → Option Ix := ixAdd E0 ixN10 234 sN11
/-- bootprint/crc.Update -/
noncomputable def sN12 : Sm := { us := [.i .u32 (.ofNat 0), .sl (q 661) 0 14 14 1], n := q 671, pre := [(q 661, on7)], v := .i .u32 (.ofNat 1483413908), post := [(q 661, on7)], n' := q 672 }
noncomputable def ixN12 : FuncId → Option Ix := ixAdd E0 ixN11 234 sN12
/-- bootprint/crc.Update -/
noncomputable def sN13 : Sm := { us := [.i .u32 (.ofNat 0), .sl (q 727) 0 4 8 0], n := q 729, pre := [(q 727, on13)], v := .i .u32 (.ofNat 3584026344), post := [(q 727, on13)], n' := q 730 }
noncomputable def ixN13 : FuncId → Option Ix := ixAdd E0 ixN12 234 sN13
/-- bootprint/crc.Update -/
noncomputable def sN14 : Sm := { us := [.i .u32 (.ofNat 0), .sl (q 725) 8 5 35 1], n := q 731, pre := [(q 725, on14)], v := .i .u32 (.ofNat 2103646617), post := [(q 725, on14)], n' := q 732 }
noncomputable def ixN14 : FuncId → Option Ix := ixAdd E0 ixN13 234 sN14
/-- bootprint/crc.Update -/
noncomputable def sN15 : Sm := { us := [.i .u32 (.ofNat 0), .sl (q 738) 0 4 8 0], n := q 740, pre := [(q 738, on15)], v := .i .u32 (.ofNat 132126814), post := [(q 738, on15)], n' := q 741 }
noncomputable def ixN15 : FuncId → Option Ix := ixAdd E0 ixN14 234 sN15
/-- bootprint/crc.Update -/
noncomputable def sN16 : Sm := { us := [.i .u32 (.ofNat 0), .sl (q 725) 25 14 18 1], n := q 742, pre := [(q 725, on14)], v := .i .u32 (.ofNat 1483413908), post := [(q 725, on14)], n' := q 743 }
noncomputable def ixN16 : FuncId → Option Ix := ixAdd E0 ixN15 234 sN16
/-- bootprint/manifest.Open -/
noncomputable def sN17 : Sm := { us := [.p (q 428) 0], n := q 693, pre := [(q 426, on11), (q 428, .c [.b true, .i .i64 (.ofNat 1048576), .m (q 426), .m (q 558), .ns, .b false, .i .i64 (.negSucc 0), .i .i64 (.negSucc 0), .i .i64 (.ofNat 0), .i .i64 (.ofNat 11)] 57 false), (q 493, on16), (q 524, on12), (q 542, on5), (q 688, on17)], v := .tu [.p (q 702) 0, .i .i64 (.ofNat 0)], post := [(q 426, on11), (q 428, .c [.b true, .i .i64 (.ofNat 1048576), .m (q 426), .m (q 558), .ns, .b false, .i .i64 (.negSucc 0), .i .i64 (.negSucc 0), .i .i64 (.ofNat 0), .i .i64 (.ofNat 14)] 57 false), (q 493, on16), (q 524, on12), (q 542, on5), (q 688, on17), (q 702, .c [.p (q 428) 0, .sl (q 825) 0 5 5 0, .i .u64 (.ofNat 2), .i .u64 (.ofNat 0), .i .u64 (.ofNat 0), .i .u64 (.ofNat 1), .i .i64 (.ofNat 0)] 49 false), (q 825, .c [.sl (q 833) 0 1 1 6, .ns, .ns, .ns, .ns] 90 false), (q 829, .c (bc [97]) 5 false), (q 831, .c (bc [98]) 5 false), (q 833, .c [.i .u64 (.ofNat 1), .i .i64 (.ofNat 9), .sl (q 829) 0 1 1 1, .sl (q 831) 0 1 1 1, .i .i64 (.ofNat 1), .i .u64 (.ofNat 0)] 83 false)], n' := q 849 }
noncomputable def ixN17 : FuncId → Option Ix := ixAdd E0 ixN16 12 sN17
/-- bootprint/bootprintlaw13.lives -/
noncomputable def sN18 : Sm := { us := [], n := q 426, pre := [], v := .b true, post := [], n' := q 960 }
noncomputable def ixN18 : FuncId → Option Ix := ixAdd E0 ixN17 6 sN18
end Ax
end Go.Proofs.YtnnficmkdahpjaaGreatDoor
