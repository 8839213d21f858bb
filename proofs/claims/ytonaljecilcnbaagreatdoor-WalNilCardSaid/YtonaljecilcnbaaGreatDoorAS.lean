/- Call summaries of one law: each is reckoned alone. -/
import Derived.Test.YtonaljecilcnbaaGreatDoorXt
namespace Go.Proofs.YtonaljecilcnbaaGreatDoor
namespace Ax
noncomputable def oa0 : AO := .c (bc [1, 1, 0, 0]) 120 false
noncomputable def oa1 : AO := .c (bc [0, 1, 0, 0]) 120 false
noncomputable def oa2 : AO := .c (bc [0, 1, 0, 0, 37, 197, 246, 85]) 178 false
noncomputable def oa3 : AO := .c (bc [0, 1, 0, 0, 37, 197, 246, 85, 1, 5, 43, 40, 67, 1, 1, 0, 0, 158, 75, 133, 136, 97, 120, 110, 228, 40, 1, 1, 0, 0, 158, 75, 133, 136, 98, 217, 143, 12, 4]) 5 false
noncomputable def oa4 : AO := .c (bc [1, 1, 0, 0, 158, 75, 133, 136]) 178 false
/-- bootprint/crc.Update -/
noncomputable def sA0 : Sm := { us := [.i .u32 (.ofNat 0), .sl (q 53) 0 4 4 0], n := q 56, pre := [(q 53, oa0)], v := .i .u32 (.ofNat 811823873), post := [(q 53, oa0)], n' := q 57 }
noncomputable def ixA0 : FuncId → Option Ix := ixAdd E0 ix0 156 sA0
/-- bootprint/crc.Update -/
noncomputable def sA1 : Sm := { us := [.i .u32 (.ofNat 0), .sl (q 50) 0 1 1 0], n := q 61, pre := [(q 50, .c (bc [97]) 5 true)], v := .i .u32 (.ofNat 3251651376), post := [(q 50, .c (bc [97]) 5 true)], n' := q 62 }
noncomputable def ixA1 : FuncId → Option Ix := ixAdd E0 ixA0 156 sA1
/-- bootprint/crc.Update -/
noncomputable def sA2 : Sm := { us := [.i .u32 (.ofNat 0), .sl (q 70) 0 4 4 0], n := q 73, pre := [(q 70, oa1)], v := .i .u32 (.ofNat 3978746297), post := [(q 70, oa1)], n' := q 74 }
noncomputable def ixA2 : FuncId → Option Ix := ixAdd E0 ixA1 156 sA2
/-- bootprint/crc.Update -/
noncomputable def sA3 : Sm := { us := [.i .u32 (.ofNat 0), .sl (q 68) 0 1 1 1], n := q 78, pre := [(q 68, .c (bc [1]) 5 false)], v := .i .u32 (.ofNat 2685849682), post := [(q 68, .c (bc [1]) 5 false)], n' := q 79 }
noncomputable def ixA3 : FuncId → Option Ix := ixAdd E0 ixA2 156 sA3
/-- bootprint/crc.Update -/
noncomputable def sA4 : Sm := { us := [.i .u32 (.ofNat 0), .sl (q 116) 0 4 4 0], n := q 119, pre := [(q 116, oa0)], v := .i .u32 (.ofNat 811823873), post := [(q 116, oa0)], n' := q 120 }
noncomputable def ixA4 : FuncId → Option Ix := ixAdd E0 ixA3 156 sA4
/-- bootprint/crc.Update -/
noncomputable def sA5 : Sm := { us := [.i .u32 (.ofNat 0), .sl (q 113) 0 1 1 0], n := q 124, pre := [(q 113, .c (bc [97]) 5 true)], v := .i .u32 (.ofNat 3251651376), post := [(q 113, .c (bc [97]) 5 true)], n' := q 125 }
noncomputable def ixA5 : FuncId → Option Ix := ixAdd E0 ixA4 156 sA5
/-- bootprint/crc.Update -/
noncomputable def sA6 : Sm := { us := [.i .u32 (.ofNat 0), .sl (q 147) 0 4 4 0], n := q 150, pre := [(q 147, oa0)], v := .i .u32 (.ofNat 811823873), post := [(q 147, oa0)], n' := q 151 }
noncomputable def ixA6 : FuncId → Option Ix := ixAdd E0 ixA5 156 sA6
/-- bootprint/crc.Update -/
noncomputable def sA7 : Sm := { us := [.i .u32 (.ofNat 0), .sl (q 144) 0 1 1 0], n := q 155, pre := [(q 144, .c (bc [98]) 5 true)], v := .i .u32 (.ofNat 3531649220), post := [(q 144, .c (bc [98]) 5 true)], n' := q 156 }
noncomputable def ixA7 : FuncId → Option Ix := ixAdd E0 ixA6 156 sA7
/-- bootprint/crc.Update -/
noncomputable def sA8 : Sm := { us := [.i .u32 (.ofNat 0), .sl (q 209) 0 4 8 0], n := q 211, pre := [(q 209, oa2)], v := .i .u32 (.ofNat 3978746297), post := [(q 209, oa2)], n' := q 212 }
noncomputable def ixA8 : FuncId → Option Ix := ixAdd E0 ixA7 156 sA8
/-- bootprint/crc.Update -/
noncomputable def sA9 : Sm := { us := [.i .u32 (.ofNat 0), .sl (q 207) 8 1 31 1], n := q 213, pre := [(q 207, oa3)], v := .i .u32 (.ofNat 2685849682), post := [(q 207, oa3)], n' := q 214 }
noncomputable def ixA9 : FuncId → Option Ix := ixAdd E0 ixA8 156 sA9
/-- bootprint/crc.Update -/
noncomputable def sA10 : Sm := { us := [.i .u32 (.ofNat 0), .sl (q 220) 0 4 8 0], n := q 222, pre := [(q 220, oa4)], v := .i .u32 (.ofNat 811823873), post := [(q 220, oa4)], n' := q 223 }
noncomputable def ixA10 : FuncId → Option Ix := ixAdd E0 ixA9 156 sA10
/-- bootprint/crc.Update -/
noncomputable def sA11 : Sm := { us := [.i .u32 (.ofNat 0), .sl (q 207) 21 1 18 1], n := q 224, pre := [(q 207, oa3)], v := .i .u32 (.ofNat 3251651376), post := [(q 207, oa3)], n' := q 225 }
noncomputable def ixA11 : FuncId → Option Ix := ixAdd E0 ixA10 156 sA11
/-- bootprint/crc.Update -/
noncomputable def sA12 : Sm := { us := [.i .u32 (.ofNat 0), .sl (q 231) 0 4 8 0], n := q 233, pre := [(q 231, oa4)], v := .i .u32 (.ofNat 811823873), post := [(q 231, oa4)], n' := q 234 }
noncomputable def ixA12 : FuncId → Option Ix := ixAdd E0 ixA11 156 sA12
/-- bootprint/crc.Update -/
noncomputable def sA13 : Sm := { us := [.i .u32 (.ofNat 0), .sl (q 207) 34 1 5 1], n := q 235, pre := [(q 207, oa3)], v := .i .u32 (.ofNat 3531649220), post := [(q 207, oa3)], n' := q 236 }
noncomputable def ixA13 : FuncId → Option Ix := ixAdd E0 ixA12 156 sA13
end Ax
end Go.Proofs.YtonaljecilcnbaaGreatDoor
