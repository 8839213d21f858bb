/- Call summaries of one law: each is reckoned alone. -/
import Derived.Test.YtonaljecilcnbaaGreatDoorXt
namespace Go.Proofs.YtonaljecilcnbaaGreatDoor
namespace Ax
noncomputable def on0 : AO := .c (bc [0, 1, 0, 0]) 120 false
noncomputable def on1 : AO := .c (bc [1, 1, 0, 0]) 120 false
noncomputable def on2 : AO := .c (bc [0, 1, 0, 0, 37, 197, 246, 85]) 178 false
noncomputable def on3 : AO := .c (bc [0, 1, 0, 0, 37, 197, 246, 85, 2, 100, 81, 208, 233, 1, 1, 0, 0, 158, 75, 133, 136, 99, 174, 44, 17, 10]) 5 false
noncomputable def on4 : AO := .c (bc [1, 1, 0, 0, 158, 75, 133, 136]) 178 false
noncomputable def on5 : AO := .mp [(.s [119, 97, 108, 45, 48, 48, 48, 48, 48, 48, 48, 48, 48, 48, 48, 50], .p (q 133) 0, none)] 2
noncomputable def on6 : AO := .c [.sl (q 185) 0 26 26 1, .i .i64 (.ofNat 26)] 108 false
noncomputable def on7 : AO := .c (bc [0, 1, 0, 0, 37, 197, 246, 85, 2, 100, 81, 208, 233, 1, 1, 0, 0, 158, 75, 133, 136, 99, 174, 44, 17, 10]) 5 true
noncomputable def on8 : AO := .c (bc [0, 1, 0, 0, 37, 197, 246, 85, 1, 5, 43, 40, 67, 1, 1, 0, 0, 158, 75, 133, 136, 97, 120, 110, 228, 40, 1, 1, 0, 0, 158, 75, 133, 136, 98, 217, 143, 12, 4]) 5 false
/-- bootprint/crc.Update -/
noncomputable def sN0 : Sm := { us := [.i .u32 (.ofNat 0), .sl (q 41) 0 4 4 0], n := q 44, pre := [(q 41, on0)], v := .i .u32 (.ofNat 3978746297), post := [(q 41, on0)], n' := q 45 }
noncomputable def ixN0 : FuncId → Option Ix := ixAdd E0 ix0 156 sN0
/-- bootprint/crc.Update -/
noncomputable def sN1 : Sm := { us := [.i .u32 (.ofNat 0), .sl (q 39) 0 1 1 1], n := q 49, pre := [(q 39, .c (bc [1]) 5 false)], v := .i .u32 (.ofNat 2685849682), post := [(q 39, .c (bc [1]) 5 false)], n' := q 50 }
noncomputable def ixN1 : FuncId → Option Ix := ixAdd E0 ixN0 156 sN1
/-- bootprint/crc.Update -/
noncomputable def sN2 : Sm := { us := [.i .u32 (.ofNat 0), .sl (q 87) 0 4 4 0], n := q 90, pre := [(q 87, on1)], v := .i .u32 (.ofNat 811823873), post := [(q 87, on1)], n' := q 91 }
noncomputable def ixN2 : FuncId → Option Ix := ixAdd E0 ixN1 156 sN2
/-- bootprint/crc.Update -/
noncomputable def sN3 : Sm := { us := [.i .u32 (.ofNat 0), .sl (q 84) 0 1 1 0], n := q 95, pre := [(q 84, .c (bc [97]) 5 true)], v := .i .u32 (.ofNat 3251651376), post := [(q 84, .c (bc [97]) 5 true)], n' := q 96 }
noncomputable def ixN3 : FuncId → Option Ix := ixAdd E0 ixN2 156 sN3
/-- bootprint/crc.Update -/
noncomputable def sN4 : Sm := { us := [.i .u32 (.ofNat 0), .sl (q 116) 0 4 4 0], n := q 119, pre := [(q 116, on0)], v := .i .u32 (.ofNat 3978746297), post := [(q 116, on0)], n' := q 120 }
noncomputable def ixN4 : FuncId → Option Ix := ixAdd E0 ixN3 156 sN4
/-- bootprint/crc.Update -/
noncomputable def sN5 : Sm := { us := [.i .u32 (.ofNat 0), .sl (q 114) 0 1 1 1], n := q 124, pre := [(q 114, .c (bc [2]) 5 false)], v := .i .u32 (.ofNat 3007718310), post := [(q 114, .c (bc [2]) 5 false)], n' := q 125 }
noncomputable def ixN5 : FuncId → Option Ix := ixAdd E0 ixN4 156 sN5
/-- bootprint/crc.Update -/
noncomputable def sN6 : Sm := { us := [.i .u32 (.ofNat 0), .sl (q 162) 0 4 4 0], n := q 165, pre := [(q 162, on1)], v := .i .u32 (.ofNat 811823873), post := [(q 162, on1)], n' := q 166 }
noncomputable def ixN6 : FuncId → Option Ix := ixAdd E0 ixN5 156 sN6
/-- bootprint/crc.Update -/
noncomputable def sN7 : Sm := { us := [.i .u32 (.ofNat 0), .sl (q 159) 0 1 1 0], n := q 170, pre := [(q 159, .c (bc [99]) 5 true)], v := .i .u32 (.ofNat 552285127), post := [(q 159, .c (bc [99]) 5 true)], n' := q 171 }
noncomputable def ixN7 : FuncId → Option Ix := ixAdd E0 ixN6 156 sN7
/-- bootprint/crc.Update -/
noncomputable def sN8 : Sm := { us := [.i .u32 (.ofNat 0), .sl (q 243) 0 4 8 0], n := q 245, pre := [(q 243, on2)], v := .i .u32 (.ofNat 3978746297), post := [(q 243, on2)], n' := q 246 }
noncomputable def ixN8 : FuncId → Option Ix := ixAdd E0 ixN7 156 sN8
/-- bootprint/crc.Update -/
noncomputable def sN9 : Sm := { us := [.i .u32 (.ofNat 0), .sl (q 241) 8 1 18 1], n := q 247, pre := [(q 241, on3)], v := .i .u32 (.ofNat 3007718310), post := [(q 241, on3)], n' := q 248 }
noncomputable def ixN9 : FuncId → Option Ix := ixAdd E0 ixN8 156 sN9
/-- bootprint/crc.Update -/
noncomputable def sN10 : Sm := { us := [.i .u32 (.ofNat 0), .sl (q 254) 0 4 8 0], n := q 256, pre := [(q 254, on4)], v := .i .u32 (.ofNat 811823873), post := [(q 254, on4)], n' := q 257 }
noncomputable def ixN10 : FuncId → Option Ix := ixAdd E0 ixN9 156 sN10
/-- bootprint/crc.Update -/
noncomputable def sN11 : Sm := { us := [.i .u32 (.ofNat 0), .sl (q 241) 21 1 5 1], n := q 258, pre := [(q 241, on3)], v := .i .u32 (.ofNat 552285127), post := [(q 241, on3)], n' := q 259 }
noncomputable def ixN11 : FuncId → Option Ix := ixAdd E0 ixN10 156 sN11
/-- bootprint/wal.Open -/
noncomputable def sN12 : Sm := { us := [.p (q 11) 0], n := q 205, pre := [(q 9, on5), (q 11, .c [.b true, .i .i64 (.ofNat 1048576), .m (q 9), .m (q 201), .ns, .b false, .i .i64 (.negSucc 0), .i .i64 (.negSucc 0), .i .i64 (.ofNat 0), .i .i64 (.ofNat 13)] 51 false), (q 133, on6), (q 185, on7)], v := .tu [.p (q 212) 0, .sl (q 283) 0 1 1 2, .i .i64 (.ofNat 0)], post := [(q 9, on5), (q 11, .c [.b true, .i .i64 (.ofNat 1048576), .m (q 9), .m (q 201), .ns, .b false, .i .i64 (.negSucc 0), .i .i64 (.negSucc 0), .i .i64 (.ofNat 0), .i .i64 (.ofNat 15)] 51 false), (q 133, on6), (q 185, on7), (q 212, .c [.p (q 11) 0, .sl (q 232) 0 1 1 1, .i .i64 (.ofNat 0)] 45 false), (q 232, .c [.i .u64 (.ofNat 2)] 22 false), (q 260, .c (bc [99]) 5 false), (q 283, .c [.i .u64 (.ofNat 2), .sl (q 260) 0 1 1 1] 43 false)], n' := q 284 }
noncomputable def ixN12 : FuncId → Option Ix := ixAdd E0 ixN11 12 sN12
/-- bootprint/crc.Update -/
noncomputable def sN13 : Sm := { us := [.i .u32 (.ofNat 0), .sl (q 317) 0 4 4 0], n := q 320, pre := [(q 317, on1)], v := .i .u32 (.ofNat 811823873), post := [(q 317, on1)], n' := q 321 }
noncomputable def ixN13 : FuncId → Option Ix := ixAdd E0 ixN12 156 sN13
/-- bootprint/crc.Update -/
noncomputable def sN14 : Sm := { us := [.i .u32 (.ofNat 0), .sl (q 314) 0 1 1 0], n := q 325, pre := [(q 314, .c (bc [97]) 5 true)], v := .i .u32 (.ofNat 3251651376), post := [(q 314, .c (bc [97]) 5 true)], n' := q 326 }
noncomputable def ixN14 : FuncId → Option Ix := ixAdd E0 ixN13 156 sN14
/-- bootprint/crc.Update -/
noncomputable def sN15 : Sm := { us := [.i .u32 (.ofNat 0), .sl (q 334) 0 4 4 0], n := q 337, pre := [(q 334, on0)], v := .i .u32 (.ofNat 3978746297), post := [(q 334, on0)], n' := q 338 }
noncomputable def ixN15 : FuncId → Option Ix := ixAdd E0 ixN14 156 sN15
/-- bootprint/crc.Update -/
noncomputable def sN16 : Sm := { us := [.i .u32 (.ofNat 0), .sl (q 332) 0 1 1 1], n := q 342, pre := [(q 332, .c (bc [1]) 5 false)], v := .i .u32 (.ofNat 2685849682), post := [(q 332, .c (bc [1]) 5 false)], n' := q 343 }
noncomputable def ixN16 : FuncId → Option Ix := ixAdd E0 ixN15 156 sN16
/-- bootprint/crc.Update -/
noncomputable def sN17 : Sm := { us := [.i .u32 (.ofNat 0), .sl (q 380) 0 4 4 0], n := q 383, pre := [(q 380, on1)], v := .i .u32 (.ofNat 811823873), post := [(q 380, on1)], n' := q 384 }
noncomputable def ixN17 : FuncId → Option Ix := ixAdd E0 ixN16 156 sN17
/-- bootprint/crc.Update -/
noncomputable def sN18 : Sm := { us := [.i .u32 (.ofNat 0), .sl (q 377) 0 1 1 0], n := q 388, pre := [(q 377, .c (bc [97]) 5 true)], v := .i .u32 (.ofNat 3251651376), post := [(q 377, .c (bc [97]) 5 true)], n' := q 389 }
noncomputable def ixN18 : FuncId → Option Ix := ixAdd E0 ixN17 156 sN18
/-- bootprint/crc.Update -/
noncomputable def sN19 : Sm := { us := [.i .u32 (.ofNat 0), .sl (q 411) 0 4 4 0], n := q 414, pre := [(q 411, on1)], v := .i .u32 (.ofNat 811823873), post := [(q 411, on1)], n' := q 415 }
noncomputable def ixN19 : FuncId → Option Ix := ixAdd E0 ixN18 156 sN19
/-- bootprint/crc.Update -/
noncomputable def sN20 : Sm := { us := [.i .u32 (.ofNat 0), .sl (q 408) 0 1 1 0], n := q 419, pre := [(q 408, .c (bc [98]) 5 true)], v := .i .u32 (.ofNat 3531649220), post := [(q 408, .c (bc [98]) 5 true)], n' := q 420 }
noncomputable def ixN20 : FuncId → Option Ix := ixAdd E0 ixN19 156 sN20
/-- bootprint/crc.Update -/
noncomputable def sN21 : Sm := { us := [.i .u32 (.ofNat 0), .sl (q 473) 0 4 8 0], n := q 475, pre := [(q 473, on2)], v := .i .u32 (.ofNat 3978746297), post := [(q 473, on2)], n' := q 476 }
noncomputable def ixN21 : FuncId → Option Ix := ixAdd E0 ixN20 156 sN21
/-- bootprint/crc.Update -/
noncomputable def sN22 : Sm := { us := [.i .u32 (.ofNat 0), .sl (q 471) 8 1 31 1], n := q 477, pre := [(q 471, on8)], v := .i .u32 (.ofNat 2685849682), post := [(q 471, on8)], n' := q 478 }
noncomputable def ixN22 : FuncId → Option Ix := ixAdd E0 ixN21 156 sN22
/-- bootprint/crc.Update -/
noncomputable def sN23 : Sm := { us := [.i .u32 (.ofNat 0), .sl (q 484) 0 4 8 0], n := q 486, pre := [(q 484, on4)], v := .i .u32 (.ofNat 811823873), post := [(q 484, on4)], n' := q 487 }
noncomputable def ixN23 : FuncId → Option Ix := ixAdd E0 ixN22 156 sN23
/-- bootprint/crc.Update -/
noncomputable def sN24 : Sm := { us := [.i .u32 (.ofNat 0), .sl (q 471) 21 1 18 1], n := q 488, pre := [(q 471, on8)], v := .i .u32 (.ofNat 3251651376), post := [(q 471, on8)], n' := q 489 }
noncomputable def ixN24 : FuncId → Option Ix := ixAdd E0 ixN23 156 sN24
/-- bootprint/crc.Update -/
noncomputable def sN25 : Sm := { us := [.i .u32 (.ofNat 0), .sl (q 495) 0 4 8 0], n := q 497, pre := [(q 495, on4)], v := .i .u32 (.ofNat 811823873), post := [(q 495, on4)], n' := q 498 }
noncomputable def ixN25 : FuncId → Option Ix := ixAdd E0 ixN24 156 sN25
/-- bootprint/crc.Update -/
noncomputable def sN26 : Sm := { us := [.i .u32 (.ofNat 0), .sl (q 471) 34 1 5 1], n := q 499, pre := [(q 471, on8)], v := .i .u32 (.ofNat 3531649220), post := [(q 471, on8)], n' := q 500 }
noncomputable def ixN26 : FuncId → Option Ix := ixAdd E0 ixN25 156 sN26
/-- bootprint/bootprintlaw05.lives -/
noncomputable def sN27 : Sm := { us := [], n := q 287, pre := [], v := .b true, post := [], n' := q 529 }
noncomputable def ixN27 : FuncId → Option Ix := ixAdd E0 ixN26 6 sN27
end Ax
end Go.Proofs.YtonaljecilcnbaaGreatDoor
