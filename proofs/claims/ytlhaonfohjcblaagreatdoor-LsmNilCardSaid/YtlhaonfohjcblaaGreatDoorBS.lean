/- Call summaries of one law: each is reckoned alone. -/
import Derived.Test.YtlhaonfohjcblaaGreatDoorXt
namespace Go.Proofs.YtlhaonfohjcblaaGreatDoor
namespace Ax
noncomputable def ob0 : AO := .c (bc [5, 5, 0, 0]) 254 false
noncomputable def ob1 : AO := .c (bc [1, 0, 0, 0, 0]) 5 true
noncomputable def ob2 : AO := .c (bc [0, 1, 0, 0]) 254 false
noncomputable def ob3 : AO := .c [.p (q 49) 0, .p (q 51) 0, .np, .i .u64 (.ofNat 0), .m (q 52), .i .i64 (.ofNat 64), .i .i64 (.ofNat 2), .i .i64 (.ofNat 1000), .i .i64 (.ofNat 10), .i .i64 (.ofNat 64), .i .i64 (.ofNat 10), .i .i64 (.ofNat 1000), .b false] 65 false
noncomputable def ob4 : AO := .c [.f (.func 31) [.p (q 49) 0] [], .f (.func 32) [.p (q 53) 0] [], .f (.func 33) [.p (q 49) 0] [], .f (.func 34) [.p (q 49) 0] []] 95 false
noncomputable def ob5 : AO := .mp [(.s [109, 97, 110, 105, 102, 101, 115, 116, 45, 48, 48, 48, 48, 48, 48, 48, 48, 48, 48, 48, 49], .p (q 119) 0, none), (.s [99, 117, 114, 114, 101, 110, 116], .p (q 150) 0, none), (.s [119, 97, 108, 45, 48, 48, 48, 48, 48, 48, 48, 48, 48, 48, 48, 49], .p (q 283) 0, none)] 4
noncomputable def ob6 : AO := .c [.sl (q 136) 0 17 17 1, .i .i64 (.ofNat 17)] 126 false
noncomputable def ob7 : AO := .c (bc [5, 5, 0, 0, 23, 150, 84, 112, 1, 0, 0, 0, 0, 158, 229, 181, 213]) 5 false
noncomputable def ob8 : AO := .c [.sl (q 168) 0 22 22 1, .i .i64 (.ofNat 22)] 126 false
noncomputable def ob9 : AO := .c (bc [109, 97, 110, 105, 102, 101, 115, 116, 45, 48, 48, 48, 48, 48, 48, 48, 48, 48, 48, 48, 49, 10]) 5 false
noncomputable def ob10 : AO := .c (bc [1, 7, 0, 0]) 254 false
noncomputable def ob11 : AO := .c (bc [1, 1, 1, 1, 97, 1, 120]) 5 true
noncomputable def ob12 : AO := .c (bc [5, 5, 0, 0, 23, 150, 84, 112]) 434 false
noncomputable def ob13 : AO := .c (bc [0, 1, 0, 0, 37, 197, 246, 85]) 434 false
noncomputable def ob14 : AO := .c (bc [0, 1, 0, 0, 37, 197, 246, 85, 1, 5, 43, 40, 67, 1, 7, 0, 0, 125, 174, 176, 172, 1, 1, 1, 1, 97, 1, 120, 141, 80, 224, 205]) 5 false
noncomputable def ob15 : AO := .c (bc [1, 7, 0, 0, 125, 174, 176, 172]) 434 false
noncomputable def ob16 : AO := .k [.i .u8 (.ofNat 0), .i .u8 (.ofNat 1), .i .u8 (.ofNat 56), .i .u8 (.ofNat 2), .i .u8 (.ofNat 57), .i .u8 (.ofNat 49), .i .u8 (.ofNat 28), .i .u8 (.ofNat 3), .i .u8 (.ofNat 61), .i .u8 (.ofNat 58), .i .u8 (.ofNat 42), .i .u8 (.ofNat 50), .i .u8 (.ofNat 38), .i .u8 (.ofNat 29), .i .u8 (.ofNat 17), .i .u8 (.ofNat 4), .i .u8 (.ofNat 62), .i .u8 (.ofNat 47), .i .u8 (.ofNat 59), .i .u8 (.ofNat 36), .i .u8 (.ofNat 45), .i .u8 (.ofNat 43), .i .u8 (.ofNat 51), .i .u8 (.ofNat 22), .i .u8 (.ofNat 53), .i .u8 (.ofNat 39), .i .u8 (.ofNat 33), .i .u8 (.ofNat 30), .i .u8 (.ofNat 24), .i .u8 (.ofNat 18), .i .u8 (.ofNat 12), .i .u8 (.ofNat 5), .i .u8 (.ofNat 63), .i .u8 (.ofNat 55), .i .u8 (.ofNat 48), .i .u8 (.ofNat 27), .i .u8 (.ofNat 60), .i .u8 (.ofNat 41), .i .u8 (.ofNat 37), .i .u8 (.ofNat 16), .i .u8 (.ofNat 46), .i .u8 (.ofNat 35), .i .u8 (.ofNat 44), .i .u8 (.ofNat 21), .i .u8 (.ofNat 52), .i .u8 (.ofNat 32), .i .u8 (.ofNat 23), .i .u8 (.ofNat 11), .i .u8 (.ofNat 54), .i .u8 (.ofNat 26), .i .u8 (.ofNat 40), .i .u8 (.ofNat 15), .i .u8 (.ofNat 34), .i .u8 (.ofNat 20), .i .u8 (.ofNat 31), .i .u8 (.ofNat 10), .i .u8 (.ofNat 25), .i .u8 (.ofNat 14), .i .u8 (.ofNat 19), .i .u8 (.ofNat 9), .i .u8 (.ofNat 13), .i .u8 (.ofNat 8), .i .u8 (.ofNat 7), .i .u8 (.ofNat 6)] 265
noncomputable def ob17 : AO := .c [.sl (q 491) 0 32 32 1, .i .i64 (.ofNat 32)] 126 false
noncomputable def ob18 : AO := .c (bc [0, 1, 0, 0, 37, 197, 246, 85, 1, 5, 43, 40, 67, 1, 7, 0, 0, 125, 174, 176, 172, 1, 1, 1, 1, 97, 1, 120, 141, 80, 224, 205]) 5 true
noncomputable def ob19 : AO := .c [.ns, .i .u64 (.ofNat 0), .i .i64 (.ofNat 0), .ns, .np, .np, .np, .np, .np, .np, .np, .np, .np, .np, .np, .np, .i .i64 (.ofNat 12)] 138 false
noncomputable def ob20 : AO := .c [.p (q 650) 0, .i .i64 (.ofNat 0), .i .i64 (.ofNat 0)] 140 false
noncomputable def ob21 : AO := .c [.p (q 649) 0, .p (q 651) 0, .np, .i .u64 (.ofNat 0), .m (q 652), .i .i64 (.ofNat 64), .i .i64 (.ofNat 2), .i .i64 (.ofNat 1000), .i .i64 (.ofNat 10), .i .i64 (.ofNat 64), .i .i64 (.ofNat 10), .i .i64 (.ofNat 1000), .b false] 65 false
noncomputable def ob22 : AO := .c [.p (q 34) 0, .sl (q 727) 0 5 5 0, .i .u64 (.ofNat 1), .i .u64 (.ofNat 0), .i .u64 (.ofNat 0), .i .u64 (.ofNat 1), .i .i64 (.ofNat 0)] 219 false
noncomputable def ob23 : AO := .c [.b true, .i .i64 (.ofNat 16777216), .m (q 618), .m (q 999), .ns, .b false, .i .i64 (.negSucc 0), .i .i64 (.negSucc 0), .i .i64 (.ofNat 0), .i .i64 (.ofNat 24)] 83 false
noncomputable def ob24 : AO := .mp [(.s [109, 97, 110, 105, 102, 101, 115, 116, 45, 48, 48, 48, 48, 48, 48, 48, 48, 48, 48, 48, 49], .p (q 119) 0, none), (.s [99, 117, 114, 114, 101, 110, 116], .p (q 150) 0, none), (.s [119, 97, 108, 45, 48, 48, 48, 48, 48, 48, 48, 48, 48, 48, 48, 49], .p (q 283) 0, none), (.s [119, 97, 108, 45, 48, 48, 48, 48, 48, 48, 48, 48, 48, 48, 48, 50], .p (q 976) 0, none)] 5
noncomputable def ob25 : AO := .c [.p (q 34) 0, .p (q 664) 0, .p (q 791) 0, .m (q 648)] 92 false
noncomputable def ob26 : AO := .c [.ns, .i .u64 (.ofNat 0), .i .i64 (.ofNat 0), .ns, .p (q 952) 0, .np, .np, .np, .np, .np, .np, .np, .np, .np, .np, .np, .i .i64 (.ofNat 12)] 138 false
noncomputable def ob27 : AO := .c [.p (q 650) 0, .i .i64 (.ofNat 1), .i .i64 (.ofNat 34)] 140 false
noncomputable def ob28 : AO := .c [.p (q 649) 0, .p (q 651) 0, .np, .i .u64 (.ofNat 1), .m (q 652), .i .i64 (.ofNat 64), .i .i64 (.ofNat 2), .i .i64 (.ofNat 1000), .i .i64 (.ofNat 10), .i .i64 (.ofNat 64), .i .i64 (.ofNat 10), .i .i64 (.ofNat 1000), .b false] 65 false
noncomputable def ob29 : AO := .c [.p (q 34) 0, .sl (q 1001) 0 2 2 1, .i .i64 (.ofNat 0)] 165 false
noncomputable def ob30 : AO := .c [.sl (q 949) 0 1 1 1, .i .u64 (.ofNat 1), .i .i64 (.ofNat 1), .sl (q 951) 0 1 1 1, .np, .np, .np, .np, .np, .np, .np, .np, .np, .np, .np, .np, .i .i64 (.ofNat 1)] 138 false
noncomputable def ob31 : AO := .c [.sl (q 993) 0 13 13 1, .i .i64 (.ofNat 13)] 126 false
noncomputable def ob32 : AO := .c (bc [0, 1, 0, 0, 37, 197, 246, 85, 2, 100, 81, 208, 233]) 5 false
noncomputable def ob33 : AO := .c [.i .u64 (.ofNat 1), .i .u64 (.ofNat 2)] 35 true
noncomputable def ob34 : AO := .c [.f (.func 31) [.p (q 649) 0] [], .f (.func 32) [.p (q 653) 0] [], .f (.func 33) [.p (q 649) 0] [], .f (.func 34) [.p (q 649) 0] []] 95 false
/-- bootprint/crc.Update -/
noncomputable def sB0 : Sm := { us := [.i .u32 (.ofNat 0), .sl (q 98) 0 4 4 0], n := q 101, pre := [(q 98, ob0)], v := .i .u32 (.ofNat 3584026344), post := [(q 98, ob0)], n' := q 102 }
noncomputable def ixB0 : FuncId → Option Ix := ixAdd E0 ix0 422 sB0
/-- bootprint/crc.Update -/
noncomputable def sB1 : Sm := { us := [.i .u32 (.ofNat 0), .sl (q 96) 0 5 5 1], n := q 106, pre := [(q 96, ob1)], v := .i .u32 (.ofNat 2103646617), post := [(q 96, ob1)], n' := q 107 }
noncomputable def ixB1 : FuncId → Option Ix := ixAdd E0 ixB0 422 sB1
/-- bootprint/crc.Update -/
noncomputable def sB2 : Sm := { us := [.i .u32 (.ofNat 0), .sl (q 266) 0 4 4 0], n := q 269, pre := [(q 266, ob2)], v := .i .u32 (.ofNat 3978746297), post := [(q 266, ob2)], n' := q 270 }
noncomputable def ixB2 : FuncId → Option Ix := ixAdd E0 ixB1 422 sB2
/-- bootprint/crc.Update -/
noncomputable def sB3 : Sm := { us := [.i .u32 (.ofNat 0), .sl (q 264) 0 1 1 1], n := q 274, pre := [(q 264, .c (bc [1]) 5 false)], v := .i .u32 (.ofNat 2685849682), post := [(q 264, .c (bc [1]) 5 false)], n' := q 275 }
noncomputable def ixB3 : FuncId → Option Ix := ixAdd E0 ixB2 422 sB3
/-- bootprint/lsm.steps -/
noncomputable def sB4 : Sm := { us := [.sl (q 54) 0 4 4 0], n := q 55, pre := [(q 32, .mp [] 0), (q 33, .mp [] 0), (q 34, .c [.b true, .i .i64 (.ofNat 16777216), .m (q 32), .m (q 33), .ns, .b false, .i .i64 (.negSucc 0), .i .i64 (.negSucc 0), .i .i64 (.ofNat 0), .i .i64 (.ofNat 0)] 83 false), (q 49, .c [.p (q 34) 0, .np, .np, .m (q 48)] 92 false), (q 53, ob3), (q 54, ob4)], v := .i .i64 (.ofNat 0), post := [(q 32, ob5), (q 33, .mp [] 0), (q 34, .c [.b true, .i .i64 (.ofNat 16777216), .m (q 32), .m (q 306), .ns, .b false, .i .i64 (.negSucc 0), .i .i64 (.negSucc 0), .i .i64 (.ofNat 0), .i .i64 (.ofNat 13)] 83 false), (q 49, .c [.p (q 34) 0, .p (q 64) 0, .p (q 236) 0, .m (q 48)] 92 false), (q 53, ob3), (q 54, ob4), (q 63, .c [.ns, .ns, .ns, .ns, .ns] 109 false), (q 64, .c [.p (q 34) 0, .sl (q 63) 0 5 5 0, .i .u64 (.ofNat 1), .i .u64 (.ofNat 0), .i .u64 (.ofNat 0), .i .u64 (.ofNat 1), .i .i64 (.ofNat 0)] 219 false), (q 119, ob6), (q 136, ob7), (q 150, ob8), (q 168, ob9), (q 236, .c [.p (q 34) 0, .sl (q 308) 0 1 1 1, .i .i64 (.ofNat 0)] 165 false), (q 283, .c [.sl (q 300) 0 13 13 1, .i .i64 (.ofNat 13)] 126 false), (q 300, .c (bc [0, 1, 0, 0, 37, 197, 246, 85, 1, 5, 43, 40, 67]) 5 false), (q 306, ob5), (q 308, .c [.i .u64 (.ofNat 1)] 35 false)], n' := q 422 }
noncomputable def ixB4 : FuncId → Option Ix := ixAdd E0 ixB3 30 sB4
/-- bootprint/crc.Update -/
noncomputable def sB5 : Sm := { us := [.i .u32 (.ofNat 0), .sl (q 468) 0 4 4 0], n := q 471, pre := [(q 468, ob10)], v := .i .u32 (.ofNat 3788670230), post := [(q 468, ob10)], n' := q 472 }
noncomputable def ixB5 : FuncId → Option Ix := ixAdd E0 ixB4 422 sB5
/-- bootprint/crc.Update -/
noncomputable def sB6 : Sm := { us := [.i .u32 (.ofNat 0), .sl (q 463) 0 7 7 1], n := q 476, pre := [(q 463, ob11)], v := .i .u32 (.ofNat 3000669614), post := [(q 463, ob11)], n' := q 477 }
noncomputable def ixB6 : FuncId → Option Ix := ixAdd E0 ixB5 422 sB6
/-- bootprint/crc.Update -/
noncomputable def sB7 : Sm := { us := [.i .u32 (.ofNat 0), .sl (q 689) 0 4 8 0], n := q 691, pre := [(q 689, ob12)], v := .i .u32 (.ofNat 3584026344), post := [(q 689, ob12)], n' := q 692 }
noncomputable def ixB7 : FuncId → Option Ix := ixAdd E0 ixB6 422 sB7
/-- bootprint/crc.Update -/
noncomputable def sB8 : Sm := { us := [.i .u32 (.ofNat 0), .sl (q 687) 8 5 9 1], n := q 693, pre := [(q 687, ob7)], v := .i .u32 (.ofNat 2103646617), post := [(q 687, ob7)], n' := q 694 }
noncomputable def ixB8 : FuncId → Option Ix := ixAdd E0 ixB7 422 sB8
/-- bootprint/crc.Update -/
noncomputable def sB9 : Sm := { us := [.i .u32 (.ofNat 0), .sl (q 830) 0 4 8 0], n := q 832, pre := [(q 830, ob13)], v := .i .u32 (.ofNat 3978746297), post := [(q 830, ob13)], n' := q 833 }
noncomputable def ixB9 : FuncId → Option Ix := ixAdd E0 ixB8 422 sB9
/-- bootprint/crc.Update -/
noncomputable def sB10 : Sm := { us := [.i .u32 (.ofNat 0), .sl (q 828) 8 1 24 1], n := q 834, pre := [(q 828, ob14)], v := .i .u32 (.ofNat 2685849682), post := [(q 828, ob14)], n' := q 835 }
noncomputable def ixB10 : FuncId → Option Ix := ixAdd E0 ixB9 422 sB10
/-- bootprint/crc.Update -/
noncomputable def sB11 : Sm := { us := [.i .u32 (.ofNat 0), .sl (q 841) 0 4 8 0], n := q 843, pre := [(q 841, ob15)], v := .i .u32 (.ofNat 3788670230), post := [(q 841, ob15)], n' := q 844 }
noncomputable def ixB11 : FuncId → Option Ix := ixAdd E0 ixB10 422 sB11
/-- bootprint/crc.Update -/
noncomputable def sB12 : Sm := { us := [.i .u32 (.ofNat 0), .sl (q 828) 21 7 11 1], n := q 845, pre := [(q 828, ob14)], v := .i .u32 (.ofNat 3000669614), post := [(q 828, ob14)], n' := q 846 }
noncomputable def ixB12 : FuncId → Option Ix := ixAdd E0 ixB11 422 sB12
/-- bootprint/crc.Update -/
noncomputable def sB13 : Sm := { us := [.i .u32 (.ofNat 0), .sl (q 959) 0 4 4 0], n := q 962, pre := [(q 959, ob2)], v := .i .u32 (.ofNat 3978746297), post := [(q 959, ob2)], n' := q 963 }
noncomputable def ixB13 : FuncId → Option Ix := ixAdd E0 ixB12 422 sB13
/-- bootprint/crc.Update -/
noncomputable def sB14 : Sm := { us := [.i .u32 (.ofNat 0), .sl (q 957) 0 1 1 1], n := q 967, pre := [(q 957, .c (bc [2]) 5 false)], v := .i .u32 (.ofNat 3007718310), post := [(q 957, .c (bc [2]) 5 false)], n' := q 968 }
noncomputable def ixB14 : FuncId → Option Ix := ixAdd E0 ixB13 422 sB14
/-- (*bootprint/lsm.Engine).openLog -/
noncomputable def sB15 : Sm := { us := [.p (q 653) 0], n := q 740, pre := [(q 1, ob16), (q 34, .c [.b true, .i .i64 (.ofNat 16777216), .m (q 618), .m (q 634), .ns, .b false, .i .i64 (.negSucc 0), .i .i64 (.negSucc 0), .i .i64 (.ofNat 0), .i .i64 (.ofNat 18)] 83 false), (q 119, ob6), (q 150, ob8), (q 283, ob17), (q 491, ob18), (q 618, ob5), (q 634, ob5), (q 649, .c [.p (q 34) 0, .p (q 664) 0, .np, .m (q 648)] 92 false), (q 650, ob19), (q 651, ob20), (q 653, ob21), (q 664, ob22), (q 727, .c [.ns, .ns, .ns, .ns, .ns] 109 false)], v := .i .i64 (.ofNat 0), post := [(q 1, ob16), (q 34, ob23), (q 119, ob6), (q 150, ob8), (q 283, ob17), (q 491, ob18), (q 618, ob24), (q 634, ob5), (q 649, ob25), (q 650, ob26), (q 651, ob27), (q 653, ob28), (q 664, ob22), (q 727, .c [.ns, .ns, .ns, .ns, .ns] 109 false), (q 791, ob29), (q 949, .c (bc [97]) 5 false), (q 951, .c (bc [120]) 5 false), (q 952, ob30), (q 976, ob31), (q 993, ob32), (q 999, ob24), (q 1001, ob33)], n' := q 1002 }
noncomputable def ixB15 : FuncId → Option Ix := ixAdd E0 ixB14 32 sB15
/-- bootprint/lsm.steps -/
noncomputable def sB16 : Sm := { us := [.sl (q 654) 0 4 4 0], n := q 655, pre := [(q 1, ob16), (q 34, .c [.b true, .i .i64 (.ofNat 16777216), .m (q 618), .m (q 634), .ns, .b false, .i .i64 (.negSucc 0), .i .i64 (.negSucc 0), .i .i64 (.ofNat 0), .i .i64 (.ofNat 15)] 83 false), (q 119, ob6), (q 136, ob7), (q 150, ob8), (q 168, ob9), (q 283, ob17), (q 491, ob18), (q 618, ob5), (q 634, ob5), (q 649, .c [.p (q 34) 0, .np, .np, .m (q 648)] 92 false), (q 650, ob19), (q 651, ob20), (q 653, ob21), (q 654, ob34)], v := .i .i64 (.ofNat 0), post := [(q 1, ob16), (q 34, ob23), (q 119, ob6), (q 136, ob7), (q 150, ob8), (q 168, ob9), (q 283, ob17), (q 491, ob18), (q 618, ob24), (q 634, ob5), (q 649, ob25), (q 650, ob26), (q 651, ob27), (q 653, ob28), (q 654, ob34), (q 664, ob22), (q 727, .c [.ns, .ns, .ns, .ns, .ns] 109 false), (q 791, ob29), (q 949, .c (bc [97]) 5 false), (q 951, .c (bc [120]) 5 false), (q 952, ob30), (q 976, ob31), (q 993, ob32), (q 999, ob24), (q 1001, ob33)], n' := q 1119 }
noncomputable def ixB16 : FuncId → Option Ix := ixAdd E0 ixB15 30 sB16
end Ax
end Go.Proofs.YtlhaonfohjcblaaGreatDoor
