/- Call summaries of one law: each is reckoned alone. -/
import Derived.Test.YtonaljecilcnbaaGreatDoorXt
namespace Go.Proofs.YtonaljecilcnbaaGreatDoor
namespace Ax
noncomputable def ov0 : AO := .c (bc [1, 1, 0, 0]) 120 false
noncomputable def ov1 : AO := .c (bc [0, 1, 0, 0]) 120 false
noncomputable def ov2 : AO := .c (bc [0, 1, 0, 0, 37, 197, 246, 85]) 178 false
noncomputable def ov3 : AO := .c (bc [0, 1, 0, 0, 37, 197, 246, 85, 1, 5, 43, 40, 67, 1, 1, 0, 0, 158, 75, 133, 136, 97, 120, 110, 228, 40, 1, 1, 0, 0, 158, 75, 133, 136, 98, 217, 143, 12, 4]) 5 false
noncomputable def ov4 : AO := .c (bc [1, 1, 0, 0, 158, 75, 133, 136]) 178 false
/-- bootprint/crc.Update -/
noncomputable def sV0 : Sm := { us := [.i .u32 (.ofNat 0), .sl (q 39) 0 4 4 0], n := q 42, pre := [(q 39, ov0)], v := .i .u32 (.ofNat 811823873), post := [(q 39, ov0)], n' := q 43 }
noncomputable def ixV0 : FuncId → Option Ix := ixAdd E0 ix0 156 sV0
/-- bootprint/crc.Update -/
noncomputable def sV1 : Sm := { us := [.i .u32 (.ofNat 0), .sl (q 36) 0 1 1 0], n := q 47, pre := [(q 36, .c (bc [97]) 5 true)], v := .i .u32 (.ofNat 3251651376), post := [(q 36, .c (bc [97]) 5 true)], n' := q 48 }
noncomputable def ixV1 : FuncId → Option Ix := ixAdd E0 ixV0 156 sV1
/-- bootprint/crc.Update -/
noncomputable def sV2 : Sm := { us := [.i .u32 (.ofNat 0), .sl (q 56) 0 4 4 0], n := q 59, pre := [(q 56, ov1)], v := .i .u32 (.ofNat 3978746297), post := [(q 56, ov1)], n' := q 60 }
noncomputable def ixV2 : FuncId → Option Ix := ixAdd E0 ixV1 156 sV2
/-- bootprint/crc.Update -/
noncomputable def sV3 : Sm := { us := [.i .u32 (.ofNat 0), .sl (q 54) 0 1 1 1], n := q 64, pre := [(q 54, .c (bc [1]) 5 false)], v := .i .u32 (.ofNat 2685849682), post := [(q 54, .c (bc [1]) 5 false)], n' := q 65 }
noncomputable def ixV3 : FuncId → Option Ix := ixAdd E0 ixV2 156 sV3
/-- bootprint/crc.Update -/
noncomputable def sV4 : Sm := { us := [.i .u32 (.ofNat 0), .sl (q 102) 0 4 4 0], n := q 105, pre := [(q 102, ov0)], v := .i .u32 (.ofNat 811823873), post := [(q 102, ov0)], n' := q 106 }
noncomputable def ixV4 : FuncId → Option Ix := ixAdd E0 ixV3 156 sV4
/-- bootprint/crc.Update -/
noncomputable def sV5 : Sm := { us := [.i .u32 (.ofNat 0), .sl (q 99) 0 1 1 0], n := q 110, pre := [(q 99, .c (bc [97]) 5 true)], v := .i .u32 (.ofNat 3251651376), post := [(q 99, .c (bc [97]) 5 true)], n' := q 111 }
noncomputable def ixV5 : FuncId → Option Ix := ixAdd E0 ixV4 156 sV5
/-- bootprint/crc.Update -/
noncomputable def sV6 : Sm := { us := [.i .u32 (.ofNat 0), .sl (q 133) 0 4 4 0], n := q 136, pre := [(q 133, ov0)], v := .i .u32 (.ofNat 811823873), post := [(q 133, ov0)], n' := q 137 }
noncomputable def ixV6 : FuncId → Option Ix := ixAdd E0 ixV5 156 sV6
/-- bootprint/crc.Update -/
noncomputable def sV7 : Sm := { us := [.i .u32 (.ofNat 0), .sl (q 130) 0 1 1 0], n := q 141, pre := [(q 130, .c (bc [98]) 5 true)], v := .i .u32 (.ofNat 3531649220), post := [(q 130, .c (bc [98]) 5 true)], n' := q 142 }
noncomputable def ixV7 : FuncId → Option Ix := ixAdd E0 ixV6 156 sV7
/-- bootprint/crc.Update -/
noncomputable def sV8 : Sm := { us := [.i .u32 (.ofNat 0), .sl (q 195) 0 4 8 0], n := q 197, pre := [(q 195, ov2)], v := .i .u32 (.ofNat 3978746297), post := [(q 195, ov2)], n' := q 198 }
noncomputable def ixV8 : FuncId → Option Ix := ixAdd E0 ixV7 156 sV8
/-- bootprint/crc.Update -/
noncomputable def sV9 : Sm := { us := [.i .u32 (.ofNat 0), .sl (q 193) 8 1 31 1], n := q 199, pre := [(q 193, ov3)], v := .i .u32 (.ofNat 2685849682), post := [(q 193, ov3)], n' := q 200 }
noncomputable def ixV9 : FuncId → Option Ix := ixAdd E0 ixV8 156 sV9
/-- bootprint/crc.Update -/
noncomputable def sV10 : Sm := { us := [.i .u32 (.ofNat 0), .sl (q 206) 0 4 8 0], n := q 208, pre := [(q 206, ov4)], v := .i .u32 (.ofNat 811823873), post := [(q 206, ov4)], n' := q 209 }
noncomputable def ixV10 : FuncId → Option Ix := ixAdd E0 ixV9 156 sV10
/-- bootprint/crc.Update -/
noncomputable def sV11 : Sm := { us := [.i .u32 (.ofNat 0), .sl (q 193) 21 1 18 1], n := q 210, pre := [(q 193, ov3)], v := .i .u32 (.ofNat 3251651376), post := [(q 193, ov3)], n' := q 211 }
noncomputable def ixV11 : FuncId → Option Ix := ixAdd E0 ixV10 156 sV11
/-- bootprint/crc.Update -/
noncomputable def sV12 : Sm := { us := [.i .u32 (.ofNat 0), .sl (q 217) 0 4 8 0], n := q 219, pre := [(q 217, ov4)], v := .i .u32 (.ofNat 811823873), post := [(q 217, ov4)], n' := q 220 }
noncomputable def ixV12 : FuncId → Option Ix := ixAdd E0 ixV11 156 sV12
/-- bootprint/crc.Update -/
noncomputable def sV13 : Sm := { us := [.i .u32 (.ofNat 0), .sl (q 193) 34 1 5 1], n := q 221, pre := [(q 193, ov3)], v := .i .u32 (.ofNat 3531649220), post := [(q 193, ov3)], n' := q 222 }
noncomputable def ixV13 : FuncId → Option Ix := ixAdd E0 ixV12 156 sV13
end Ax
end Go.Proofs.YtonaljecilcnbaaGreatDoor
