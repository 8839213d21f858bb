/- Call summaries of one law: each is reckoned alone. -/
import Derived.Test.YtlhaonfohjcblaaGreatDoorXt
namespace Go.Proofs.YtlhaonfohjcblaaGreatDoor
namespace Ax
noncomputable def oa0 : AO := .c (bc [5, 5, 0, 0]) 254 false
noncomputable def oa1 : AO := .c (bc [1, 0, 0, 0, 0]) 5 true
noncomputable def oa2 : AO := .c (bc [0, 1, 0, 0]) 254 false
noncomputable def oa3 : AO := .c [.p (q 26) 0, .p (q 28) 0, .np, .i .u64 (.ofNat 0), .m (q 29), .i .i64 (.ofNat 64), .i .i64 (.ofNat 2), .i .i64 (.ofNat 1000), .i .i64 (.ofNat 10), .i .i64 (.ofNat 64), .i .i64 (.ofNat 10), .i .i64 (.ofNat 1000), .b false] 65 false
noncomputable def oa4 : AO := .c [.f (.func 31) [.p (q 26) 0] [], .f (.func 32) [.p (q 30) 0] [], .f (.func 33) [.p (q 26) 0] [], .f (.func 34) [.p (q 26) 0] []] 95 false
noncomputable def oa5 : AO := .mp [(.s [109, 97, 110, 105, 102, 101, 115, 116, 45, 48, 48, 48, 48, 48, 48, 48, 48, 48, 48, 48, 49], .p (q 96) 0, none), (.s [99, 117, 114, 114, 101, 110, 116], .p (q 127) 0, none), (.s [119, 97, 108, 45, 48, 48, 48, 48, 48, 48, 48, 48, 48, 48, 48, 49], .p (q 260) 0, none)] 4
noncomputable def oa6 : AO := .c [.p (q 11) 0, .p (q 41) 0, .p (q 213) 0, .m (q 25)] 92 false
noncomputable def oa7 : AO := .c [.p (q 11) 0, .sl (q 40) 0 5 5 0, .i .u64 (.ofNat 1), .i .u64 (.ofNat 0), .i .u64 (.ofNat 0), .i .u64 (.ofNat 1), .i .i64 (.ofNat 0)] 219 false
noncomputable def oa8 : AO := .c [.sl (q 113) 0 17 17 1, .i .i64 (.ofNat 17)] 126 false
noncomputable def oa9 : AO := .c (bc [5, 5, 0, 0, 23, 150, 84, 112, 1, 0, 0, 0, 0, 158, 229, 181, 213]) 5 false
noncomputable def oa10 : AO := .c [.sl (q 145) 0 22 22 1, .i .i64 (.ofNat 22)] 126 false
noncomputable def oa11 : AO := .c (bc [109, 97, 110, 105, 102, 101, 115, 116, 45, 48, 48, 48, 48, 48, 48, 48, 48, 48, 48, 48, 49, 10]) 5 false
noncomputable def oa12 : AO := .c [.p (q 11) 0, .sl (q 285) 0 1 1 1, .i .i64 (.ofNat 0)] 165 false
noncomputable def oa13 : AO := .c (bc [0, 1, 0, 0, 37, 197, 246, 85, 1, 5, 43, 40, 67]) 5 false
noncomputable def oa14 : AO := .c (bc [1, 7, 0, 0]) 254 false
noncomputable def oa15 : AO := .c (bc [1, 1, 1, 1, 97, 1, 120]) 5 true
noncomputable def oa16 : AO := .c (bc [2, 1, 1, 1, 98, 1, 121]) 5 true
noncomputable def oa17 : AO := .k [.i .u8 (.ofNat 0), .i .u8 (.ofNat 1), .i .u8 (.ofNat 56), .i .u8 (.ofNat 2), .i .u8 (.ofNat 57), .i .u8 (.ofNat 49), .i .u8 (.ofNat 28), .i .u8 (.ofNat 3), .i .u8 (.ofNat 61), .i .u8 (.ofNat 58), .i .u8 (.ofNat 42), .i .u8 (.ofNat 50), .i .u8 (.ofNat 38), .i .u8 (.ofNat 29), .i .u8 (.ofNat 17), .i .u8 (.ofNat 4), .i .u8 (.ofNat 62), .i .u8 (.ofNat 47), .i .u8 (.ofNat 59), .i .u8 (.ofNat 36), .i .u8 (.ofNat 45), .i .u8 (.ofNat 43), .i .u8 (.ofNat 51), .i .u8 (.ofNat 22), .i .u8 (.ofNat 53), .i .u8 (.ofNat 39), .i .u8 (.ofNat 33), .i .u8 (.ofNat 30), .i .u8 (.ofNat 24), .i .u8 (.ofNat 18), .i .u8 (.ofNat 12), .i .u8 (.ofNat 5), .i .u8 (.ofNat 63), .i .u8 (.ofNat 55), .i .u8 (.ofNat 48), .i .u8 (.ofNat 27), .i .u8 (.ofNat 60), .i .u8 (.ofNat 41), .i .u8 (.ofNat 37), .i .u8 (.ofNat 16), .i .u8 (.ofNat 46), .i .u8 (.ofNat 35), .i .u8 (.ofNat 44), .i .u8 (.ofNat 21), .i .u8 (.ofNat 52), .i .u8 (.ofNat 32), .i .u8 (.ofNat 23), .i .u8 (.ofNat 11), .i .u8 (.ofNat 54), .i .u8 (.ofNat 26), .i .u8 (.ofNat 40), .i .u8 (.ofNat 15), .i .u8 (.ofNat 34), .i .u8 (.ofNat 20), .i .u8 (.ofNat 31), .i .u8 (.ofNat 10), .i .u8 (.ofNat 25), .i .u8 (.ofNat 14), .i .u8 (.ofNat 19), .i .u8 (.ofNat 9), .i .u8 (.ofNat 13), .i .u8 (.ofNat 8), .i .u8 (.ofNat 7), .i .u8 (.ofNat 6)] 265
noncomputable def oa18 : AO := .c [.ns, .i .u64 (.ofNat 0), .i .i64 (.ofNat 0), .ns, .p (q 517) 0, .np, .np, .np, .np, .np, .np, .np, .np, .np, .np, .np, .i .i64 (.ofNat 12)] 138 false
noncomputable def oa19 : AO := .c (bc [0, 1, 0, 0, 37, 197, 246, 85, 1, 5, 43, 40, 67, 1, 7, 0, 0, 125, 174, 176, 172, 1, 1, 1, 1, 97, 1, 120, 141, 80, 224, 205]) 5 true
noncomputable def oa20 : AO := .c [.i .i64 (.ofNat 1), .sl (q 519) 0 1 1 1, .sl (q 520) 0 1 1 1] 44 false
noncomputable def oa21 : AO := .c [.p (q 27) 0, .i .i64 (.ofNat 2), .i .i64 (.ofNat 68)] 140 false
noncomputable def oa22 : AO := .c [.sl (q 588) 0 51 51 1, .i .i64 (.ofNat 51)] 126 false
noncomputable def oa23 : AO := .c [.sl (q 514) 0 1 1 1, .i .u64 (.ofNat 1), .i .i64 (.ofNat 1), .sl (q 516) 0 1 1 1, .p (q 643) 0, .np, .np, .np, .np, .np, .np, .np, .np, .np, .np, .np, .i .i64 (.ofNat 1)] 138 false
noncomputable def oa24 : AO := .c [.sl (q 640) 0 1 1 1, .i .u64 (.ofNat 2), .i .i64 (.ofNat 1), .sl (q 642) 0 1 1 1, .np, .np, .np, .np, .np, .np, .np, .np, .np, .np, .np, .np, .i .i64 (.ofNat 1)] 138 false
noncomputable def oa25 : AO := .c (bc [2, 20, 0, 0]) 254 false
noncomputable def oa26 : AO := .c (bc [0, 1, 5, 1, 97, 120, 0, 1, 9, 1, 98, 121, 0, 0, 0, 0, 1, 0, 0, 0]) 5 false
noncomputable def oa27 : AO := .c (bc [3, 9, 0, 0]) 254 false
noncomputable def oa28 : AO := .c (bc [0, 32, 1, 11, 68, 8, 16, 160, 6]) 5 false
noncomputable def oa29 : AO := .c (bc [4, 13, 0, 0]) 254 false
noncomputable def oa30 : AO := .c (bc [1, 0, 32, 1, 98, 2, 2, 1, 2, 1, 97, 1, 98]) 5 true
noncomputable def oa31 : AO := .c (bc [4, 13, 0, 0, 238, 75, 173, 135]) 434 false
noncomputable def oa32 : AO := .c (bc [4, 13, 0, 0, 238, 75, 173, 135, 1, 0, 32, 1, 98, 2, 2, 1, 2, 1, 97, 1, 98, 48, 96, 39, 146]) 5 false
noncomputable def oa33 : AO := .c (bc [3, 9, 0, 0, 130, 89, 14, 127]) 434 false
noncomputable def oa34 : AO := .c (bc [3, 9, 0, 0, 130, 89, 14, 127, 0, 32, 1, 11, 68, 8, 16, 160, 6, 103, 221, 47, 47]) 5 false
noncomputable def oa35 : AO := .mp [(.s [109, 97, 110, 105, 102, 101, 115, 116, 45, 48, 48, 48, 48, 48, 48, 48, 48, 48, 48, 48, 49], .p (q 96) 0, none), (.s [99, 117, 114, 114, 101, 110, 116], .p (q 127) 0, none), (.s [119, 97, 108, 45, 48, 48, 48, 48, 48, 48, 48, 48, 48, 48, 48, 49], .p (q 260) 0, none), (.s [119, 97, 108, 45, 48, 48, 48, 48, 48, 48, 48, 48, 48, 48, 48, 50], .p (q 668) 0, none)] 5
noncomputable def oa36 : AO := .c [.b true, .i .i64 (.ofNat 16777216), .m (q 9), .m (q 691), .ns, .b false, .i .i64 (.negSucc 0), .i .i64 (.negSucc 0), .i .i64 (.ofNat 0), .i .i64 (.ofNat 21)] 83 false
noncomputable def oa37 : AO := .c [.p (q 26) 0, .p (q 695) 0, .p (q 28) 0, .i .u64 (.ofNat 2), .m (q 29), .i .i64 (.ofNat 64), .i .i64 (.ofNat 2), .i .i64 (.ofNat 1000), .i .i64 (.ofNat 10), .i .i64 (.ofNat 64), .i .i64 (.ofNat 10), .i .i64 (.ofNat 1000), .b false] 65 false
noncomputable def oa38 : AO := .c [.sl (q 685) 0 13 13 1, .i .i64 (.ofNat 13)] 126 false
noncomputable def oa39 : AO := .c [.sl (q 818) 0 1 1 1, .i .u64 (.ofNat 1), .i .i64 (.ofNat 1), .sl (q 820) 0 1 1 1, .sl (q 825) 0 1 1 1, .i .u64 (.ofNat 2), .i .i64 (.ofNat 1), .sl (q 827) 0 1 1 1] 52 true
noncomputable def oa40 : AO := .mp [(.s [109, 97, 110, 105, 102, 101, 115, 116, 45, 48, 48, 48, 48, 48, 48, 48, 48, 48, 48, 48, 49], .p (q 96) 0, none), (.s [99, 117, 114, 114, 101, 110, 116], .p (q 127) 0, none), (.s [119, 97, 108, 45, 48, 48, 48, 48, 48, 48, 48, 48, 48, 48, 48, 49], .p (q 260) 0, none), (.s [119, 97, 108, 45, 48, 48, 48, 48, 48, 48, 48, 48, 48, 48, 48, 50], .p (q 668) 0, none), (.s [116, 97, 98, 108, 101, 45, 48, 48, 48, 48, 48, 48, 48, 48, 48, 48, 48, 49], .p (q 1062) 0, none)] 6
noncomputable def oa41 : AO := .c [.sl (q 1079) 0 94 94 1, .i .i64 (.ofNat 94)] 126 false
noncomputable def oa42 : AO := .c (bc [2, 20, 0, 0, 209, 29, 47, 6, 0, 1, 5, 1, 97, 120, 0, 1, 9, 1, 98, 121, 0, 0, 0, 0, 1, 0, 0, 0, 21, 14, 186, 235, 3, 9, 0, 0, 130, 89, 14, 127, 0, 32, 1, 11, 68, 8, 16, 160, 6, 103, 221, 47, 47, 4, 13, 0, 0, 238, 75, 173, 135, 1, 0, 32, 1, 98, 2, 2, 1, 2, 1, 97, 1, 98, 48, 96, 39, 146, 0, 0, 0, 0, 0, 0, 0, 53, 98, 111, 111, 116, 109, 97, 114, 107]) 5 false
noncomputable def oa43 : AO := .c [.ifc 336 (.ag [.p (q 11) 0, .s [116, 97, 98, 108, 101, 45, 48, 48, 48, 48, 48, 48, 48, 48, 48, 48, 48, 49]]), .sl (q 1322) 0 1 1 6, .sl (q 1345) 0 9 9 1, .i .i64 (.ofNat 2), .i .i64 (.ofNat 1), .i .i64 (.ofNat 94), .sl (q 1324) 0 1 1 1, .sl (q 1326) 0 1 1 1, .i .u64 (.ofNat 1), .i .u64 (.ofNat 2), .i .i64 (.ofNat 0)] 184 false
noncomputable def oa44 : AO := .c [.i .i64 (.ofNat 0), .i .i64 (.ofNat 32), .sl (q 1319) 0 1 1 1, .i .u64 (.ofNat 2), .i .i64 (.ofNat 0), .ns] 186 false
noncomputable def oa45 : AO := .c (bc [5, 14, 0, 0]) 254 false
noncomputable def oa46 : AO := .c (bc [2, 2, 2, 0, 1, 0, 1, 94, 2, 2, 1, 97, 1, 98]) 5 true
noncomputable def oa47 : AO := .c [.i .u64 (.ofNat 1), .i .u64 (.ofNat 2)] 35 true
noncomputable def oa48 : AO := .mp [(.s [109, 97, 110, 105, 102, 101, 115, 116, 45, 48, 48, 48, 48, 48, 48, 48, 48, 48, 48, 48, 49], .p (q 96) 0, none), (.s [99, 117, 114, 114, 101, 110, 116], .p (q 127) 0, none), (.s [119, 97, 108, 45, 48, 48, 48, 48, 48, 48, 48, 48, 48, 48, 48, 50], .p (q 668) 0, none), (.s [116, 97, 98, 108, 101, 45, 48, 48, 48, 48, 48, 48, 48, 48, 48, 48, 48, 49], .p (q 1062) 0, none)] 6
noncomputable def oa49 : AO := .c [.b true, .i .i64 (.ofNat 16777216), .m (q 9), .m (q 1519), .ns, .b false, .i .i64 (.negSucc 0), .i .i64 (.negSucc 0), .i .i64 (.ofNat 0), .i .i64 (.ofNat 32)] 83 false
noncomputable def oa50 : AO := .mp [(.i .u64 (.ofNat 1), .p (q 1285) 0, none)] 1
noncomputable def oa51 : AO := .c [.p (q 26) 0, .p (q 695) 0, .np, .i .u64 (.ofNat 2), .m (q 29), .i .i64 (.ofNat 64), .i .i64 (.ofNat 2), .i .i64 (.ofNat 1000), .i .i64 (.ofNat 10), .i .i64 (.ofNat 64), .i .i64 (.ofNat 10), .i .i64 (.ofNat 1000), .b false] 65 false
noncomputable def oa52 : AO := .c [.p (q 11) 0, .sl (q 1422) 0 5 5 0, .i .u64 (.ofNat 2), .i .u64 (.ofNat 2), .i .u64 (.ofNat 2), .i .u64 (.ofNat 1), .i .i64 (.ofNat 0)] 219 false
noncomputable def oa53 : AO := .c [.sl (q 1503) 0 43 43 1, .i .i64 (.ofNat 43)] 126 false
noncomputable def oa54 : AO := .c [.p (q 11) 0, .sl (q 693) 1 1 1 1, .i .i64 (.ofNat 0)] 165 false
noncomputable def oa55 : AO := .c [.sl (q 1430) 0 1 1 6, .ns, .ns, .ns, .ns] 109 false
noncomputable def oa56 : AO := .c [.i .u64 (.ofNat 1), .i .i64 (.ofNat 94), .sl (q 1426) 0 1 1 1, .sl (q 1428) 0 1 1 1, .i .i64 (.ofNat 2), .i .u64 (.ofNat 2)] 112 false
noncomputable def oa57 : AO := .c (bc [5, 5, 0, 0, 23, 150, 84, 112, 1, 0, 0, 0, 0, 158, 229, 181, 213, 5, 14, 0, 0, 152, 250, 62, 211, 2, 2, 2, 0, 1, 0, 1, 94, 2, 2, 1, 97, 1, 98, 79, 180, 86, 212]) 5 true
noncomputable def oa58 : AO := .c [.p (q 694) 0, .i .i64 (.ofNat 0), .i .i64 (.ofNat 0)] 140 false
noncomputable def oa59 : AO := .c (bc [1, 5, 0, 0]) 254 false
noncomputable def oa60 : AO := .c (bc [3, 1, 2, 1, 97]) 5 true
noncomputable def oa61 : AO := .c (bc [0, 1, 0, 0, 37, 197, 246, 85, 2, 100, 81, 208, 233]) 5 false
noncomputable def oa62 : AO := .c [.ns, .i .u64 (.ofNat 0), .i .i64 (.ofNat 0), .ns, .np, .np, .np, .np, .np, .np, .np, .np, .np, .np, .np, .np, .i .i64 (.ofNat 12)] 138 false
noncomputable def oa63 : AO := .c [.i .i64 (.ofNat 2), .sl (q 1829) 0 1 1 0, .ns] 44 false
noncomputable def oa64 : AO := .c [.b true, .i .i64 (.ofNat 16777216), .m (q 9), .m (q 1519), .ns, .b false, .i .i64 (.negSucc 0), .i .i64 (.negSucc 0), .i .i64 (.ofNat 0), .i .i64 (.ofNat 34)] 83 false
noncomputable def oa65 : AO := .c [.p (q 26) 0, .p (q 695) 0, .np, .i .u64 (.ofNat 3), .m (q 29), .i .i64 (.ofNat 64), .i .i64 (.ofNat 2), .i .i64 (.ofNat 1000), .i .i64 (.ofNat 10), .i .i64 (.ofNat 64), .i .i64 (.ofNat 10), .i .i64 (.ofNat 1000), .b false] 65 false
noncomputable def oa66 : AO := .c [.sl (q 1889) 0 30 30 1, .i .i64 (.ofNat 30)] 126 false
noncomputable def oa67 : AO := .c [.ns, .i .u64 (.ofNat 0), .i .i64 (.ofNat 0), .ns, .p (q 1930) 0, .np, .np, .np, .np, .np, .np, .np, .np, .np, .np, .np, .i .i64 (.ofNat 12)] 138 false
noncomputable def oa68 : AO := .c [.p (q 694) 0, .i .i64 (.ofNat 1), .i .i64 (.ofNat 33)] 140 false
noncomputable def oa69 : AO := .c (bc [0, 1, 0, 0, 37, 197, 246, 85, 2, 100, 81, 208, 233, 1, 5, 0, 0, 83, 72, 186, 80, 3, 1, 2, 1, 97, 161, 41, 71, 15]) 5 true
noncomputable def oa70 : AO := .c [.sl (q 1929) 0 1 1 1, .i .u64 (.ofNat 3), .i .i64 (.ofNat 2), .ns, .np, .np, .np, .np, .np, .np, .np, .np, .np, .np, .np, .np, .i .i64 (.ofNat 1)] 138 false
noncomputable def oa71 : AO := .c (bc [2, 20, 0, 0, 209, 29, 47, 6]) 434 false
noncomputable def oa72 : AO := .c (bc [2, 20, 0, 0, 209, 29, 47, 6, 0, 1, 5, 1, 97, 120, 0, 1, 9, 1, 98, 121, 0, 0, 0, 0, 1, 0, 0, 0, 21, 14, 186, 235]) 5 false
noncomputable def oa73 : AO := .c [.b true, .i .i64 (.ofNat 16777216), .m (q 9), .m (q 1519), .ns, .b false, .i .i64 (.negSucc 0), .i .i64 (.negSucc 0), .i .i64 (.ofNat 0), .i .i64 (.ofNat 35)] 83 false
noncomputable def oa74 : AO := .c [.b true, .i .i64 (.ofNat 16777216), .m (q 2247), .m (q 2265), .ns, .b false, .i .i64 (.negSucc 0), .i .i64 (.negSucc 0), .i .i64 (.ofNat 0), .i .i64 (.ofNat 35)] 83 false
noncomputable def oa75 : AO := .c (bc [5, 5, 0, 0, 23, 150, 84, 112]) 434 false
noncomputable def oa76 : AO := .c (bc [5, 5, 0, 0, 23, 150, 84, 112, 1, 0, 0, 0, 0, 158, 229, 181, 213, 5, 14, 0, 0, 152, 250, 62, 211, 2, 2, 2, 0, 1, 0, 1, 94, 2, 2, 1, 97, 1, 98, 79, 180, 86, 212]) 5 false
noncomputable def oa77 : AO := .c (bc [5, 14, 0, 0, 152, 250, 62, 211]) 434 false
noncomputable def oa78 : AO := .c [.b true, .i .i64 (.ofNat 16777216), .m (q 2247), .m (q 2265), .ns, .b false, .i .i64 (.negSucc 0), .i .i64 (.negSucc 0), .i .i64 (.ofNat 0), .i .i64 (.ofNat 38)] 83 false
noncomputable def oa79 : AO := .c [.p (q 11) 0, .p (q 2295) 0, .np, .m (q 2279)] 92 false
noncomputable def oa80 : AO := .c [.p (q 11) 0, .sl (q 2418) 0 5 5 0, .i .u64 (.ofNat 2), .i .u64 (.ofNat 2), .i .u64 (.ofNat 2), .i .u64 (.ofNat 1), .i .i64 (.ofNat 0)] 219 false
noncomputable def oa81 : AO := .c [.sl (q 2426) 0 1 1 6, .ns, .ns, .ns, .ns] 109 false
noncomputable def oa82 : AO := .c [.i .u64 (.ofNat 1), .i .i64 (.ofNat 94), .sl (q 2422) 0 1 1 1, .sl (q 2424) 0 1 1 1, .i .i64 (.ofNat 2), .i .u64 (.ofNat 2)] 112 false
noncomputable def oa83 : AO := .c (bc [0, 1, 0, 0, 37, 197, 246, 85]) 434 false
noncomputable def oa84 : AO := .c (bc [0, 1, 0, 0, 37, 197, 246, 85, 2, 100, 81, 208, 233, 1, 5, 0, 0, 83, 72, 186, 80, 3, 1, 2, 1, 97, 161, 41, 71, 15]) 5 false
noncomputable def oa85 : AO := .c (bc [1, 5, 0, 0, 83, 72, 186, 80]) 434 false
noncomputable def oa86 : AO := .c [.b true, .i .i64 (.ofNat 16777216), .m (q 2247), .m (q 2724), .ns, .b false, .i .i64 (.negSucc 0), .i .i64 (.negSucc 0), .i .i64 (.ofNat 0), .i .i64 (.ofNat 44)] 83 false
noncomputable def oa87 : AO := .mp [(.s [109, 97, 110, 105, 102, 101, 115, 116, 45, 48, 48, 48, 48, 48, 48, 48, 48, 48, 48, 48, 49], .p (q 96) 0, none), (.s [99, 117, 114, 114, 101, 110, 116], .p (q 127) 0, none), (.s [119, 97, 108, 45, 48, 48, 48, 48, 48, 48, 48, 48, 48, 48, 48, 50], .p (q 668) 0, none), (.s [116, 97, 98, 108, 101, 45, 48, 48, 48, 48, 48, 48, 48, 48, 48, 48, 48, 49], .p (q 1062) 0, none), (.s [119, 97, 108, 45, 48, 48, 48, 48, 48, 48, 48, 48, 48, 48, 48, 51], .p (q 2701) 0, none)] 7
noncomputable def oa88 : AO := .c [.p (q 11) 0, .p (q 2295) 0, .p (q 2526) 0, .m (q 2279)] 92 false
noncomputable def oa89 : AO := .c [.ns, .i .u64 (.ofNat 0), .i .i64 (.ofNat 0), .ns, .p (q 2677) 0, .np, .np, .np, .np, .np, .np, .np, .np, .np, .np, .np, .i .i64 (.ofNat 12)] 138 false
noncomputable def oa90 : AO := .c [.p (q 2281) 0, .i .i64 (.ofNat 1), .i .i64 (.ofNat 33)] 140 false
noncomputable def oa91 : AO := .c [.p (q 2280) 0, .p (q 2282) 0, .np, .i .u64 (.ofNat 3), .m (q 2283), .i .i64 (.ofNat 64), .i .i64 (.ofNat 2), .i .i64 (.ofNat 1000), .i .i64 (.ofNat 10), .i .i64 (.ofNat 64), .i .i64 (.ofNat 10), .i .i64 (.ofNat 1000), .b false] 65 false
noncomputable def oa92 : AO := .c [.p (q 11) 0, .sl (q 2726) 0 2 2 1, .i .i64 (.ofNat 0)] 165 false
noncomputable def oa93 : AO := .c [.sl (q 2676) 0 1 1 1, .i .u64 (.ofNat 3), .i .i64 (.ofNat 2), .ns, .np, .np, .np, .np, .np, .np, .np, .np, .np, .np, .np, .np, .i .i64 (.ofNat 1)] 138 false
noncomputable def oa94 : AO := .c [.sl (q 2718) 0 13 13 1, .i .i64 (.ofNat 13)] 126 false
noncomputable def oa95 : AO := .c (bc [0, 1, 0, 0, 37, 197, 246, 85, 3, 51, 109, 205, 227]) 5 false
noncomputable def oa96 : AO := .c [.i .u64 (.ofNat 2), .i .u64 (.ofNat 3)] 35 true
noncomputable def oa97 : AO := .c [.b true, .i .i64 (.ofNat 16777216), .m (q 2247), .m (q 2724), .ns, .b false, .i .i64 (.negSucc 0), .i .i64 (.negSucc 0), .i .i64 (.ofNat 0), .i .i64 (.ofNat 47)] 83 false
noncomputable def oa98 : AO := .mp [(.i .u64 (.ofNat 1), .p (q 2928) 0, (some 0))] 1
noncomputable def oa99 : AO := .c [.ifc 336 (.ag [.p (q 11) 0, .s [116, 97, 98, 108, 101, 45, 48, 48, 48, 48, 48, 48, 48, 48, 48, 48, 48, 49]]), .sl (q 2965) 0 1 1 6, .sl (q 2988) 0 9 9 1, .i .i64 (.ofNat 2), .i .i64 (.ofNat 1), .i .i64 (.ofNat 94), .sl (q 2967) 0 1 1 1, .sl (q 2969) 0 1 1 1, .i .u64 (.ofNat 1), .i .u64 (.ofNat 2), .i .i64 (.ofNat 0)] 184 false
noncomputable def oa100 : AO := .c [.i .i64 (.ofNat 0), .i .i64 (.ofNat 32), .sl (q 2962) 0 1 1 1, .i .u64 (.ofNat 2), .i .i64 (.ofNat 0), .ns] 186 false
noncomputable def oa101 : AO := .c [.p (q 3016) 0, .p (q 3018) 0, .np, .i .u64 (.ofNat 0), .m (q 3019), .i .i64 (.ofNat 64), .i .i64 (.ofNat 2), .i .i64 (.ofNat 1000), .i .i64 (.ofNat 10), .i .i64 (.ofNat 64), .i .i64 (.ofNat 10), .i .i64 (.ofNat 1000), .b false] 65 false
noncomputable def oa102 : AO := .c [.f (.func 31) [.p (q 3016) 0] [], .f (.func 32) [.p (q 3020) 0] [], .f (.func 33) [.p (q 3016) 0] [], .f (.func 34) [.p (q 3016) 0] []] 95 false
noncomputable def oa103 : AO := .mp [(.s [109, 97, 110, 105, 102, 101, 115, 116, 45, 48, 48, 48, 48, 48, 48, 48, 48, 48, 48, 48, 49], .p (q 3086) 0, none), (.s [99, 117, 114, 114, 101, 110, 116], .p (q 3117) 0, none), (.s [119, 97, 108, 45, 48, 48, 48, 48, 48, 48, 48, 48, 48, 48, 48, 49], .p (q 3250) 0, none)] 4
noncomputable def oa104 : AO := .c [.sl (q 3103) 0 17 17 1, .i .i64 (.ofNat 17)] 126 false
noncomputable def oa105 : AO := .c [.sl (q 3135) 0 22 22 1, .i .i64 (.ofNat 22)] 126 false
noncomputable def oa106 : AO := .c (bc [0, 1, 0, 0, 37, 197, 246, 85, 1, 5, 43, 40, 67, 1, 7, 0, 0, 125, 174, 176, 172, 1, 1, 1, 1, 97, 1, 120, 141, 80, 224, 205]) 5 false
noncomputable def oa107 : AO := .c (bc [1, 7, 0, 0, 125, 174, 176, 172]) 434 false
noncomputable def oa108 : AO := .c [.sl (q 3458) 0 32 32 1, .i .i64 (.ofNat 32)] 126 false
noncomputable def oa109 : AO := .c [.p (q 3617) 0, .i .i64 (.ofNat 0), .i .i64 (.ofNat 0)] 140 false
noncomputable def oa110 : AO := .c [.p (q 3616) 0, .p (q 3618) 0, .np, .i .u64 (.ofNat 0), .m (q 3619), .i .i64 (.ofNat 64), .i .i64 (.ofNat 2), .i .i64 (.ofNat 1000), .i .i64 (.ofNat 10), .i .i64 (.ofNat 64), .i .i64 (.ofNat 10), .i .i64 (.ofNat 1000), .b false] 65 false
noncomputable def oa111 : AO := .c [.p (q 3001) 0, .sl (q 3694) 0 5 5 0, .i .u64 (.ofNat 1), .i .u64 (.ofNat 0), .i .u64 (.ofNat 0), .i .u64 (.ofNat 1), .i .i64 (.ofNat 0)] 219 false
noncomputable def oa112 : AO := .c [.b true, .i .i64 (.ofNat 16777216), .m (q 3585), .m (q 3966), .ns, .b false, .i .i64 (.negSucc 0), .i .i64 (.negSucc 0), .i .i64 (.ofNat 0), .i .i64 (.ofNat 24)] 83 false
noncomputable def oa113 : AO := .mp [(.s [109, 97, 110, 105, 102, 101, 115, 116, 45, 48, 48, 48, 48, 48, 48, 48, 48, 48, 48, 48, 49], .p (q 3086) 0, none), (.s [99, 117, 114, 114, 101, 110, 116], .p (q 3117) 0, none), (.s [119, 97, 108, 45, 48, 48, 48, 48, 48, 48, 48, 48, 48, 48, 48, 49], .p (q 3250) 0, none), (.s [119, 97, 108, 45, 48, 48, 48, 48, 48, 48, 48, 48, 48, 48, 48, 50], .p (q 3943) 0, none)] 5
noncomputable def oa114 : AO := .c [.p (q 3001) 0, .p (q 3631) 0, .p (q 3758) 0, .m (q 3615)] 92 false
noncomputable def oa115 : AO := .c [.ns, .i .u64 (.ofNat 0), .i .i64 (.ofNat 0), .ns, .p (q 3919) 0, .np, .np, .np, .np, .np, .np, .np, .np, .np, .np, .np, .i .i64 (.ofNat 12)] 138 false
noncomputable def oa116 : AO := .c [.p (q 3617) 0, .i .i64 (.ofNat 1), .i .i64 (.ofNat 34)] 140 false
noncomputable def oa117 : AO := .c [.p (q 3616) 0, .p (q 3618) 0, .np, .i .u64 (.ofNat 1), .m (q 3619), .i .i64 (.ofNat 64), .i .i64 (.ofNat 2), .i .i64 (.ofNat 1000), .i .i64 (.ofNat 10), .i .i64 (.ofNat 64), .i .i64 (.ofNat 10), .i .i64 (.ofNat 1000), .b false] 65 false
noncomputable def oa118 : AO := .c [.p (q 3001) 0, .sl (q 3968) 0 2 2 1, .i .i64 (.ofNat 0)] 165 false
noncomputable def oa119 : AO := .c [.sl (q 3916) 0 1 1 1, .i .u64 (.ofNat 1), .i .i64 (.ofNat 1), .sl (q 3918) 0 1 1 1, .np, .np, .np, .np, .np, .np, .np, .np, .np, .np, .np, .np, .i .i64 (.ofNat 1)] 138 false
noncomputable def oa120 : AO := .c [.sl (q 3960) 0 13 13 1, .i .i64 (.ofNat 13)] 126 false
noncomputable def oa121 : AO := .c [.f (.func 31) [.p (q 3616) 0] [], .f (.func 32) [.p (q 3620) 0] [], .f (.func 33) [.p (q 3616) 0] [], .f (.func 34) [.p (q 3616) 0] []] 95 false
/-- bootprint/crc.Update -/
noncomputable def sA0 : Sm := { us := [.i .u32 (.ofNat 0), .sl (q 75) 0 4 4 0], n := q 78, pre := [(q 75, oa0)], v := .i .u32 (.ofNat 3584026344), post := [(q 75, oa0)], n' := q 79 }
noncomputable def ixA0 : FuncId → Option Ix := ixAdd E0 ix0 422 sA0
/-- bootprint/crc.Update -/
noncomputable def sA1 : Sm := { us := [.i .u32 (.ofNat 0), .sl (q 73) 0 5 5 1], n := q 83, pre := [(q 73, oa1)], v := .i .u32 (.ofNat 2103646617), post := [(q 73, oa1)], n' := q 84 }
noncomputable def ixA1 : FuncId → Option Ix := ixAdd E0 ixA0 422 sA1
/-- bootprint/crc.Update -/
noncomputable def sA2 : Sm := { us := [.i .u32 (.ofNat 0), .sl (q 243) 0 4 4 0], n := q 246, pre := [(q 243, oa2)], v := .i .u32 (.ofNat 3978746297), post := [(q 243, oa2)], n' := q 247 }
noncomputable def ixA2 : FuncId → Option Ix := ixAdd E0 ixA1 422 sA2
/-- bootprint/crc.Update -/
noncomputable def sA3 : Sm := { us := [.i .u32 (.ofNat 0), .sl (q 241) 0 1 1 1], n := q 251, pre := [(q 241, .c (bc [1]) 5 false)], v := .i .u32 (.ofNat 2685849682), post := [(q 241, .c (bc [1]) 5 false)], n' := q 252 }
noncomputable def ixA3 : FuncId → Option Ix := ixAdd E0 ixA2 422 sA3
/-- bootprint/lsm.steps -/
noncomputable def sA4 : Sm := { us := [.sl (q 31) 0 4 4 0], n := q 32, pre := [(q 9, .mp [] 0), (q 10, .mp [] 0), (q 11, .c [.b true, .i .i64 (.ofNat 16777216), .m (q 9), .m (q 10), .ns, .b false, .i .i64 (.negSucc 0), .i .i64 (.negSucc 0), .i .i64 (.ofNat 0), .i .i64 (.ofNat 0)] 83 false), (q 26, .c [.p (q 11) 0, .np, .np, .m (q 25)] 92 false), (q 30, oa3), (q 31, oa4)], v := .i .i64 (.ofNat 0), post := [(q 9, oa5), (q 10, .mp [] 0), (q 11, .c [.b true, .i .i64 (.ofNat 16777216), .m (q 9), .m (q 283), .ns, .b false, .i .i64 (.negSucc 0), .i .i64 (.negSucc 0), .i .i64 (.ofNat 0), .i .i64 (.ofNat 13)] 83 false), (q 26, oa6), (q 30, oa3), (q 31, oa4), (q 40, .c [.ns, .ns, .ns, .ns, .ns] 109 false), (q 41, oa7), (q 96, oa8), (q 113, oa9), (q 127, oa10), (q 145, oa11), (q 213, oa12), (q 260, .c [.sl (q 277) 0 13 13 1, .i .i64 (.ofNat 13)] 126 false), (q 277, oa13), (q 283, oa5), (q 285, .c [.i .u64 (.ofNat 1)] 35 false)], n' := q 399 }
noncomputable def ixA4 : FuncId → Option Ix := ixAdd E0 ixA3 30 sA4
/-- bootprint/crc.Update -/
noncomputable def sA5 : Sm := { us := [.i .u32 (.ofNat 0), .sl (q 445) 0 4 4 0], n := q 448, pre := [(q 445, oa14)], v := .i .u32 (.ofNat 3788670230), post := [(q 445, oa14)], n' := q 449 }
noncomputable def ixA5 : FuncId → Option Ix := ixAdd E0 ixA4 422 sA5
/-- bootprint/crc.Update -/
noncomputable def sA6 : Sm := { us := [.i .u32 (.ofNat 0), .sl (q 440) 0 7 7 1], n := q 453, pre := [(q 440, oa15)], v := .i .u32 (.ofNat 3000669614), post := [(q 440, oa15)], n' := q 454 }
noncomputable def ixA6 : FuncId → Option Ix := ixAdd E0 ixA5 422 sA6
/-- bootprint/crc.Update -/
noncomputable def sA7 : Sm := { us := [.i .u32 (.ofNat 0), .sl (q 565) 0 4 4 0], n := q 568, pre := [(q 565, oa14)], v := .i .u32 (.ofNat 3788670230), post := [(q 565, oa14)], n' := q 569 }
noncomputable def ixA7 : FuncId → Option Ix := ixAdd E0 ixA6 422 sA7
/-- bootprint/crc.Update -/
noncomputable def sA8 : Sm := { us := [.i .u32 (.ofNat 0), .sl (q 560) 0 7 7 1], n := q 573, pre := [(q 560, oa16)], v := .i .u32 (.ofNat 312124294), post := [(q 560, oa16)], n' := q 574 }
noncomputable def ixA8 : FuncId → Option Ix := ixAdd E0 ixA7 422 sA8
/-- (*bootprint/lsm.Engine).Write -/
noncomputable def sA9 : Sm := { us := [.p (q 30) 0, .sl (q 521) 0 1 1 0], n := q 522, pre := [(q 1, oa17), (q 9, oa5), (q 11, .c [.b true, .i .i64 (.ofNat 16777216), .m (q 9), .m (q 283), .ns, .b false, .i .i64 (.negSucc 0), .i .i64 (.negSucc 0), .i .i64 (.ofNat 0), .i .i64 (.ofNat 15)] 83 false), (q 26, oa6), (q 27, oa18), (q 28, .c [.p (q 27) 0, .i .i64 (.ofNat 1), .i .i64 (.ofNat 34)] 140 false), (q 30, .c [.p (q 26) 0, .p (q 28) 0, .np, .i .u64 (.ofNat 1), .m (q 29), .i .i64 (.ofNat 64), .i .i64 (.ofNat 2), .i .i64 (.ofNat 1000), .i .i64 (.ofNat 10), .i .i64 (.ofNat 64), .i .i64 (.ofNat 10), .i .i64 (.ofNat 1000), .b false] 65 false), (q 96, oa8), (q 127, oa10), (q 213, oa12), (q 260, .c [.sl (q 468) 0 32 32 1, .i .i64 (.ofNat 32)] 126 false), (q 283, oa5), (q 285, .c [.i .u64 (.ofNat 1)] 35 false), (q 468, oa19), (q 514, .c (bc [97]) 5 false), (q 517, .c [.sl (q 514) 0 1 1 1, .i .u64 (.ofNat 1), .i .i64 (.ofNat 1), .sl (q 516) 0 1 1 1, .np, .np, .np, .np, .np, .np, .np, .np, .np, .np, .np, .np, .i .i64 (.ofNat 1)] 138 false), (q 519, .c (bc [98]) 5 true), (q 520, .c (bc [121]) 5 true), (q 521, oa20)], v := .tu [.i .u64 (.ofNat 2), .i .i64 (.ofNat 0)], post := [(q 1, oa17), (q 9, oa5), (q 11, .c [.b true, .i .i64 (.ofNat 16777216), .m (q 9), .m (q 283), .ns, .b false, .i .i64 (.negSucc 0), .i .i64 (.negSucc 0), .i .i64 (.ofNat 0), .i .i64 (.ofNat 17)] 83 false), (q 26, oa6), (q 27, oa18), (q 28, oa21), (q 30, .c [.p (q 26) 0, .p (q 28) 0, .np, .i .u64 (.ofNat 2), .m (q 29), .i .i64 (.ofNat 64), .i .i64 (.ofNat 2), .i .i64 (.ofNat 1000), .i .i64 (.ofNat 10), .i .i64 (.ofNat 64), .i .i64 (.ofNat 10), .i .i64 (.ofNat 1000), .b false] 65 false), (q 96, oa8), (q 127, oa10), (q 213, oa12), (q 260, oa22), (q 283, oa5), (q 285, .c [.i .u64 (.ofNat 1)] 35 false), (q 468, .x), (q 514, .c (bc [97]) 5 false), (q 517, oa23), (q 519, .c (bc [98]) 5 true), (q 520, .c (bc [121]) 5 true), (q 521, oa20), (q 588, .c (bc [0, 1, 0, 0, 37, 197, 246, 85, 1, 5, 43, 40, 67, 1, 7, 0, 0, 125, 174, 176, 172, 1, 1, 1, 1, 97, 1, 120, 141, 80, 224, 205, 1, 7, 0, 0, 125, 174, 176, 172, 2, 1, 1, 1, 98, 1, 121, 13, 16, 143, 233]) 5 true), (q 640, .c (bc [98]) 5 false), (q 642, .c (bc [121]) 5 false), (q 643, oa24)], n' := q 645 }
noncomputable def ixA9 : FuncId → Option Ix := ixAdd E0 ixA8 8 sA9
/-- bootprint/crc.Update -/
noncomputable def sA10 : Sm := { us := [.i .u32 (.ofNat 0), .sl (q 651) 0 4 4 0], n := q 654, pre := [(q 651, oa2)], v := .i .u32 (.ofNat 3978746297), post := [(q 651, oa2)], n' := q 655 }
noncomputable def ixA10 : FuncId → Option Ix := ixAdd E0 ixA9 422 sA10
/-- bootprint/crc.Update -/
noncomputable def sA11 : Sm := { us := [.i .u32 (.ofNat 0), .sl (q 649) 0 1 1 1], n := q 659, pre := [(q 649, .c (bc [2]) 5 false)], v := .i .u32 (.ofNat 3007718310), post := [(q 649, .c (bc [2]) 5 false)], n' := q 660 }
noncomputable def ixA11 : FuncId → Option Ix := ixAdd E0 ixA10 422 sA11
/-- bootprint/crc.Update -/
noncomputable def sA12 : Sm := { us := [.i .u32 (.ofNat 0), .sl (q 949) 0 4 4 0], n := q 952, pre := [(q 949, oa25)], v := .i .u32 (.ofNat 427602390), post := [(q 949, oa25)], n' := q 953 }
noncomputable def ixA12 : FuncId → Option Ix := ixAdd E0 ixA11 422 sA12
/-- bootprint/crc.Update -/
noncomputable def sA13 : Sm := { us := [.i .u32 (.ofNat 0), .sl (q 947) 0 20 20 1], n := q 957, pre := [(q 947, oa26)], v := .i .u32 (.ofNat 2443093147), post := [(q 947, oa26)], n' := q 958 }
noncomputable def ixA13 : FuncId → Option Ix := ixAdd E0 ixA12 422 sA13
/-- bootprint/crc.Update -/
noncomputable def sA14 : Sm := { us := [.i .u32 (.ofNat 0), .sl (q 982) 0 4 4 0], n := q 985, pre := [(q 982, oa27)], v := .i .u32 (.ofNat 3075829317), post := [(q 982, oa27)], n' := q 986 }
noncomputable def ixA14 : FuncId → Option Ix := ixAdd E0 ixA13 422 sA14
/-- bootprint/crc.Update -/
noncomputable def sA15 : Sm := { us := [.i .u32 (.ofNat 0), .sl (q 968) 0 9 9 0], n := q 990, pre := [(q 968, oa28)], v := .i .u32 (.ofNat 2034746966), post := [(q 968, oa28)], n' := q 991 }
noncomputable def ixA15 : FuncId → Option Ix := ixAdd E0 ixA14 422 sA15
/-- bootprint/crc.Update -/
noncomputable def sA16 : Sm := { us := [.i .u32 (.ofNat 0), .sl (q 1026) 0 4 4 0], n := q 1029, pre := [(q 1026, oa29)], v := .i .u32 (.ofNat 814445205), post := [(q 1026, oa29)], n' := q 1030 }
noncomputable def ixA16 : FuncId → Option Ix := ixAdd E0 ixA15 422 sA16
/-- bootprint/crc.Update -/
noncomputable def sA17 : Sm := { us := [.i .u32 (.ofNat 0), .sl (q 1024) 0 13 13 1], n := q 1034, pre := [(q 1024, oa30)], v := .i .u32 (.ofNat 984381394), post := [(q 1024, oa30)], n' := q 1035 }
noncomputable def ixA17 : FuncId → Option Ix := ixAdd E0 ixA16 422 sA17
/-- bootprint/crc.Update -/
noncomputable def sA18 : Sm := { us := [.i .u32 (.ofNat 0), .sl (q 1161) 0 4 4 0], n := q 1164, pre := [(q 1161, oa25)], v := .i .u32 (.ofNat 427602390), post := [(q 1161, oa25)], n' := q 1165 }
noncomputable def ixA18 : FuncId → Option Ix := ixAdd E0 ixA17 422 sA18
/-- bootprint/crc.Update -/
noncomputable def sA19 : Sm := { us := [.i .u32 (.ofNat 0), .sl (q 1159) 0 20 20 1], n := q 1169, pre := [(q 1159, oa26)], v := .i .u32 (.ofNat 2443093147), post := [(q 1159, oa26)], n' := q 1170 }
noncomputable def ixA19 : FuncId → Option Ix := ixAdd E0 ixA18 422 sA19
/-- bootprint/crc.Update -/
noncomputable def sA20 : Sm := { us := [.i .u32 (.ofNat 0), .sl (q 1194) 0 4 4 0], n := q 1197, pre := [(q 1194, oa27)], v := .i .u32 (.ofNat 3075829317), post := [(q 1194, oa27)], n' := q 1198 }
noncomputable def ixA20 : FuncId → Option Ix := ixAdd E0 ixA19 422 sA20
/-- bootprint/crc.Update -/
noncomputable def sA21 : Sm := { us := [.i .u32 (.ofNat 0), .sl (q 1180) 0 9 9 0], n := q 1202, pre := [(q 1180, oa28)], v := .i .u32 (.ofNat 2034746966), post := [(q 1180, oa28)], n' := q 1203 }
noncomputable def ixA21 : FuncId → Option Ix := ixAdd E0 ixA20 422 sA21
/-- bootprint/crc.Update -/
noncomputable def sA22 : Sm := { us := [.i .u32 (.ofNat 0), .sl (q 1238) 0 4 4 0], n := q 1241, pre := [(q 1238, oa29)], v := .i .u32 (.ofNat 814445205), post := [(q 1238, oa29)], n' := q 1242 }
noncomputable def ixA22 : FuncId → Option Ix := ixAdd E0 ixA21 422 sA22
/-- bootprint/crc.Update -/
noncomputable def sA23 : Sm := { us := [.i .u32 (.ofNat 0), .sl (q 1236) 0 13 13 1], n := q 1246, pre := [(q 1236, oa30)], v := .i .u32 (.ofNat 984381394), post := [(q 1236, oa30)], n' := q 1247 }
noncomputable def ixA23 : FuncId → Option Ix := ixAdd E0 ixA22 422 sA23
/-- bootprint/crc.Update -/
noncomputable def sA24 : Sm := { us := [.i .u32 (.ofNat 0), .sl (q 1307) 0 4 8 0], n := q 1309, pre := [(q 1307, oa31)], v := .i .u32 (.ofNat 814445205), post := [(q 1307, oa31)], n' := q 1310 }
noncomputable def ixA24 : FuncId → Option Ix := ixAdd E0 ixA23 422 sA24
/-- bootprint/crc.Update -/
noncomputable def sA25 : Sm := { us := [.i .u32 (.ofNat 0), .sl (q 1305) 8 13 17 1], n := q 1311, pre := [(q 1305, oa32)], v := .i .u32 (.ofNat 984381394), post := [(q 1305, oa32)], n' := q 1312 }
noncomputable def ixA25 : FuncId → Option Ix := ixAdd E0 ixA24 422 sA25
/-- bootprint/crc.Update -/
noncomputable def sA26 : Sm := { us := [.i .u32 (.ofNat 0), .sl (q 1339) 0 4 8 0], n := q 1341, pre := [(q 1339, oa33)], v := .i .u32 (.ofNat 3075829317), post := [(q 1339, oa33)], n' := q 1342 }
noncomputable def ixA26 : FuncId → Option Ix := ixAdd E0 ixA25 422 sA26
/-- bootprint/crc.Update -/
noncomputable def sA27 : Sm := { us := [.i .u32 (.ofNat 0), .sl (q 1337) 8 9 13 1], n := q 1343, pre := [(q 1337, oa34)], v := .i .u32 (.ofNat 2034746966), post := [(q 1337, oa34)], n' := q 1344 }
noncomputable def ixA27 : FuncId → Option Ix := ixAdd E0 ixA26 422 sA27
/-- (*bootprint/lsm.Engine).make -/
noncomputable def sA28 : Sm := { us := [.p (q 30) 0, .sl (q 816) 0 1 1 1], n := q 830, pre := [(q 9, oa35), (q 11, oa36), (q 25, .mp [] 0), (q 26, oa6), (q 30, oa37), (q 40, .c [.ns, .ns, .ns, .ns, .ns] 109 false), (q 41, oa7), (q 96, oa8), (q 127, oa10), (q 260, oa22), (q 668, oa38), (q 691, oa35), (q 816, .c [.sl (q 829) 0 2 2 4] 48 false), (q 818, .c (bc [97]) 5 false), (q 820, .c (bc [120]) 5 false), (q 825, .c (bc [98]) 5 false), (q 827, .c (bc [121]) 5 false), (q 829, oa39)], v := .tu [.sl (q 1274) 0 1 1 6, .i .i64 (.ofNat 0)], post := [(q 9, oa40), (q 11, .c [.b true, .i .i64 (.ofNat 16777216), .m (q 9), .m (q 1276), .ns, .b false, .i .i64 (.negSucc 0), .i .i64 (.negSucc 0), .i .i64 (.ofNat 0), .i .i64 (.ofNat 28)] 83 false), (q 25, .mp [(.i .u64 (.ofNat 1), .p (q 1285) 0, (some 0))] 1), (q 26, oa6), (q 30, oa37), (q 40, .c [.ns, .ns, .ns, .ns, .ns] 109 false), (q 41, oa7), (q 96, oa8), (q 127, oa10), (q 260, oa22), (q 668, oa38), (q 691, oa35), (q 816, .c [.sl (q 829) 0 2 2 4] 48 false), (q 818, .c (bc [97]) 5 false), (q 820, .c (bc [120]) 5 false), (q 825, .c (bc [98]) 5 false), (q 827, .c (bc [121]) 5 false), (q 829, oa39), (q 1062, oa41), (q 1079, oa42), (q 1269, .c (bc [97]) 5 false), (q 1271, .c (bc [98]) 5 false), (q 1274, .c [.i .u64 (.ofNat 1), .i .i64 (.ofNat 94), .sl (q 1269) 0 1 1 1, .sl (q 1271) 0 1 1 1, .i .i64 (.ofNat 2), .i .u64 (.ofNat 2)] 112 false), (q 1276, oa40), (q 1285, oa43), (q 1319, .c (bc [98]) 5 false), (q 1322, oa44), (q 1324, .c (bc [97]) 5 false), (q 1326, .c (bc [98]) 5 false), (q 1345, oa28)], n' := q 1347 }
noncomputable def ixA28 : FuncId → Option Ix := ixAdd E0 ixA27 114 sA28
/-- bootprint/crc.Update -/
noncomputable def sA29 : Sm := { us := [.i .u32 (.ofNat 0), .sl (q 1478) 0 4 4 0], n := q 1481, pre := [(q 1478, oa45)], v := .i .u32 (.ofNat 132126814), post := [(q 1478, oa45)], n' := q 1482 }
noncomputable def ixA29 : FuncId → Option Ix := ixAdd E0 ixA28 422 sA29
/-- bootprint/crc.Update -/
noncomputable def sA30 : Sm := { us := [.i .u32 (.ofNat 0), .sl (q 1476) 0 14 14 1], n := q 1486, pre := [(q 1476, oa46)], v := .i .u32 (.ofNat 3837499625), post := [(q 1476, oa46)], n' := q 1487 }
noncomputable def ixA30 : FuncId → Option Ix := ixAdd E0 ixA29 422 sA30
/-- bootprint/bootprintlaw16.works -/
noncomputable def sA31 : Sm := { us := [.p (q 30) 0, .i .i64 (.ofNat 2)], n := q 696, pre := [(q 9, oa35), (q 11, oa36), (q 25, .mp [] 0), (q 26, oa6), (q 27, oa18), (q 28, oa21), (q 29, .mp [] 0), (q 30, oa37), (q 40, .c [.ns, .ns, .ns, .ns, .ns] 109 false), (q 41, oa7), (q 96, oa8), (q 113, oa9), (q 127, oa10), (q 213, .c [.p (q 11) 0, .sl (q 693) 0 2 2 1, .i .i64 (.ofNat 0)] 165 false), (q 260, oa22), (q 514, .c (bc [97]) 5 false), (q 516, .c (bc [120]) 5 false), (q 517, oa23), (q 640, .c (bc [98]) 5 false), (q 642, .c (bc [121]) 5 false), (q 643, oa24), (q 668, oa38), (q 691, oa35), (q 693, oa47)], v := .b true, post := [(q 9, oa48), (q 11, oa49), (q 25, oa50), (q 26, oa6), (q 27, oa18), (q 28, oa21), (q 29, .mp [] 0), (q 30, oa51), (q 40, .c [.ns, .ns, .ns, .ns, .ns] 109 false), (q 41, oa52), (q 96, oa53), (q 113, .x), (q 127, oa10), (q 213, oa54), (q 260, oa22), (q 514, .c (bc [97]) 5 false), (q 516, .c (bc [120]) 5 false), (q 517, oa23), (q 640, .c (bc [98]) 5 false), (q 642, .c (bc [121]) 5 false), (q 643, oa24), (q 668, oa38), (q 691, oa35), (q 693, oa47), (q 1062, oa41), (q 1079, oa42), (q 1285, oa43), (q 1319, .c (bc [98]) 5 false), (q 1322, oa44), (q 1324, .c (bc [97]) 5 false), (q 1326, .c (bc [98]) 5 false), (q 1345, oa28), (q 1422, oa55), (q 1426, .c (bc [97]) 5 false), (q 1428, .c (bc [98]) 5 false), (q 1430, oa56), (q 1503, oa57), (q 1519, oa48)], n' := q 1520 }
noncomputable def ixA31 : FuncId → Option Ix := ixAdd E0 ixA30 10 sA31
/-- bootprint/bootprintlaw16.works -/
noncomputable def sA32 : Sm := { us := [.p (q 30) 0, .i .i64 (.ofNat 0)], n := q 1520, pre := [(q 26, oa6), (q 30, oa51), (q 41, oa52), (q 695, oa58), (q 1422, oa55), (q 1426, .c (bc [97]) 5 false), (q 1428, .c (bc [98]) 5 false), (q 1430, oa56)], v := .b true, post := [(q 26, oa6), (q 30, oa51), (q 41, oa52), (q 695, oa58), (q 1422, oa55), (q 1426, .c (bc [97]) 5 false), (q 1428, .c (bc [98]) 5 false), (q 1430, oa56)], n' := q 1675 }
noncomputable def ixA32 : FuncId → Option Ix := ixAdd E0 ixA31 10 sA32
/-- (*bootprint/lsm.Engine).Idle -/
noncomputable def sA33 : Sm := { us := [.p (q 30) 0], n := q 1675, pre := [(q 26, oa6), (q 30, oa51), (q 41, oa52), (q 695, oa58), (q 1422, oa55), (q 1426, .c (bc [97]) 5 false), (q 1428, .c (bc [98]) 5 false), (q 1430, oa56)], v := .b true, post := [(q 26, oa6), (q 30, oa51), (q 41, oa52), (q 695, oa58), (q 1422, oa55), (q 1426, .c (bc [97]) 5 false), (q 1428, .c (bc [98]) 5 false), (q 1430, oa56)], n' := q 1829 }
noncomputable def ixA33 : FuncId → Option Ix := ixAdd E0 ixA32 11 sA33
/-- bootprint/crc.Update -/
noncomputable def sA34 : Sm := { us := [.i .u32 (.ofNat 0), .sl (q 1866) 0 4 4 0], n := q 1869, pre := [(q 1866, oa59)], v := .i .u32 (.ofNat 2931676955), post := [(q 1866, oa59)], n' := q 1870 }
noncomputable def ixA34 : FuncId → Option Ix := ixAdd E0 ixA33 422 sA34
/-- bootprint/crc.Update -/
noncomputable def sA35 : Sm := { us := [.i .u32 (.ofNat 0), .sl (q 1861) 0 5 5 1], n := q 1874, pre := [(q 1861, oa60)], v := .i .u32 (.ofNat 526693986), post := [(q 1861, oa60)], n' := q 1875 }
noncomputable def ixA35 : FuncId → Option Ix := ixAdd E0 ixA34 422 sA35
/-- (*bootprint/lsm.Engine).Write -/
noncomputable def sA36 : Sm := { us := [.p (q 30) 0, .sl (q 1830) 0 1 1 0], n := q 1831, pre := [(q 1, oa17), (q 9, oa48), (q 11, oa49), (q 26, oa6), (q 30, oa51), (q 96, oa53), (q 127, oa10), (q 213, oa54), (q 668, oa38), (q 685, oa61), (q 693, oa47), (q 694, oa62), (q 695, oa58), (q 1062, oa41), (q 1519, oa48), (q 1829, .c (bc [97]) 5 true), (q 1830, oa63)], v := .tu [.i .u64 (.ofNat 3), .i .i64 (.ofNat 0)], post := [(q 1, oa17), (q 9, oa48), (q 11, oa64), (q 26, oa6), (q 30, oa65), (q 96, oa53), (q 127, oa10), (q 213, oa54), (q 668, oa66), (q 685, .x), (q 693, oa47), (q 694, oa67), (q 695, oa68), (q 1062, oa41), (q 1519, oa48), (q 1829, .c (bc [97]) 5 true), (q 1830, oa63), (q 1889, oa69), (q 1929, .c (bc [97]) 5 false), (q 1930, oa70)], n' := q 1932 }
noncomputable def ixA36 : FuncId → Option Ix := ixAdd E0 ixA35 8 sA36
/-- bootprint/crc.Update -/
noncomputable def sA37 : Sm := { us := [.i .u32 (.ofNat 0), .sl (q 2057) 0 4 8 0], n := q 2059, pre := [(q 2057, oa71)], v := .i .u32 (.ofNat 427602390), post := [(q 2057, oa71)], n' := q 2060 }
noncomputable def ixA37 : FuncId → Option Ix := ixAdd E0 ixA36 422 sA37
/-- bootprint/crc.Update -/
noncomputable def sA38 : Sm := { us := [.i .u32 (.ofNat 0), .sl (q 2055) 8 20 24 1], n := q 2061, pre := [(q 2055, oa72)], v := .i .u32 (.ofNat 2443093147), post := [(q 2055, oa72)], n' := q 2062 }
noncomputable def ixA38 : FuncId → Option Ix := ixAdd E0 ixA37 422 sA38
/-- (*bootprint/lsm.Engine).Scan -/
noncomputable def sA39 : Sm := { us := [.p (q 30) 0, .ns, .ns, .i .u64 (.ofNat 3), .i .i64 (.ofNat 9)], n := q 1948, pre := [(q 9, oa48), (q 11, oa64), (q 25, oa50), (q 26, oa6), (q 30, oa65), (q 41, oa52), (q 694, oa67), (q 695, oa68), (q 1062, oa41), (q 1079, oa42), (q 1285, oa43), (q 1319, .c (bc [98]) 5 false), (q 1322, oa44), (q 1422, oa55), (q 1426, .c (bc [97]) 5 false), (q 1428, .c (bc [98]) 5 false), (q 1430, oa56), (q 1929, .c (bc [97]) 5 false), (q 1930, oa70)], v := .tu [.sl (q 2245) 0 1 1 4, .i .i64 (.ofNat 0)], post := [(q 9, oa48), (q 11, oa73), (q 25, oa50), (q 26, oa6), (q 30, oa65), (q 41, oa52), (q 694, oa67), (q 695, oa68), (q 1062, oa41), (q 1079, oa42), (q 1285, .c [.ifc 336 (.ag [.p (q 11) 0, .s [116, 97, 98, 108, 101, 45, 48, 48, 48, 48, 48, 48, 48, 48, 48, 48, 48, 49]]), .sl (q 1322) 0 1 1 6, .sl (q 1345) 0 9 9 1, .i .i64 (.ofNat 2), .i .i64 (.ofNat 1), .i .i64 (.ofNat 94), .sl (q 1324) 0 1 1 1, .sl (q 1326) 0 1 1 1, .i .u64 (.ofNat 1), .i .u64 (.ofNat 2), .i .i64 (.ofNat 1)] 184 false), (q 1319, .c (bc [98]) 5 false), (q 1322, oa44), (q 1422, oa55), (q 1426, .c (bc [97]) 5 false), (q 1428, .c (bc [98]) 5 false), (q 1430, oa56), (q 1929, .c (bc [97]) 5 false), (q 1930, oa70), (q 2221, .c (bc [98]) 5 false), (q 2223, .c (bc [121]) 5 false), (q 2245, .c [.sl (q 2221) 0 1 1 1, .i .u64 (.ofNat 2), .i .i64 (.ofNat 1), .sl (q 2223) 0 1 1 1] 52 false)], n' := q 2246 }
noncomputable def ixA39 : FuncId → Option Ix := ixAdd E0 ixA38 14 sA39
/-- (*bootprint/vfs.Fs).Crash -/
noncomputable def sA40 : Sm := { us := [.p (q 11) 0, .i .i64 (.ofNat 0), .ns], n := q 2246, pre := [(q 11, oa73), (q 96, oa53), (q 127, oa10), (q 668, oa66), (q 1062, oa41), (q 1519, oa48)], v := .i .i64 (.ofNat 0), post := [(q 11, oa74), (q 96, oa53), (q 127, oa10), (q 668, oa66), (q 1062, oa41), (q 1519, oa48), (q 2247, oa48), (q 2265, oa48)], n' := q 2266 }
noncomputable def ixA40 : FuncId → Option Ix := ixAdd E0 ixA39 15 sA40
/-- bootprint/crc.Update -/
noncomputable def sA41 : Sm := { us := [.i .u32 (.ofNat 0), .sl (q 2320) 0 4 8 0], n := q 2322, pre := [(q 2320, oa75)], v := .i .u32 (.ofNat 3584026344), post := [(q 2320, oa75)], n' := q 2323 }
noncomputable def ixA41 : FuncId → Option Ix := ixAdd E0 ixA40 422 sA41
/-- bootprint/crc.Update -/
noncomputable def sA42 : Sm := { us := [.i .u32 (.ofNat 0), .sl (q 2318) 8 5 35 1], n := q 2324, pre := [(q 2318, oa76)], v := .i .u32 (.ofNat 2103646617), post := [(q 2318, oa76)], n' := q 2325 }
noncomputable def ixA42 : FuncId → Option Ix := ixAdd E0 ixA41 422 sA42
/-- bootprint/crc.Update -/
noncomputable def sA43 : Sm := { us := [.i .u32 (.ofNat 0), .sl (q 2331) 0 4 8 0], n := q 2333, pre := [(q 2331, oa77)], v := .i .u32 (.ofNat 132126814), post := [(q 2331, oa77)], n' := q 2334 }
noncomputable def ixA43 : FuncId → Option Ix := ixAdd E0 ixA42 422 sA43
/-- bootprint/crc.Update -/
noncomputable def sA44 : Sm := { us := [.i .u32 (.ofNat 0), .sl (q 2318) 25 14 18 1], n := q 2335, pre := [(q 2318, oa76)], v := .i .u32 (.ofNat 3837499625), post := [(q 2318, oa76)], n' := q 2336 }
noncomputable def ixA44 : FuncId → Option Ix := ixAdd E0 ixA43 422 sA44
/-- (*bootprint/lsm.disk).openManifest -/
noncomputable def sA45 : Sm := { us := [.p (q 2280) 0], n := q 2286, pre := [(q 11, oa74), (q 96, oa53), (q 127, oa10), (q 145, oa11), (q 1503, oa57), (q 2247, oa48), (q 2280, .c [.p (q 11) 0, .np, .np, .m (q 2279)] 92 false)], v := .i .i64 (.ofNat 0), post := [(q 11, oa78), (q 96, oa53), (q 127, oa10), (q 145, oa11), (q 1503, oa57), (q 2247, oa48), (q 2280, oa79), (q 2295, oa80), (q 2418, oa81), (q 2422, .c (bc [97]) 5 false), (q 2424, .c (bc [98]) 5 false), (q 2426, oa82)], n' := q 2442 }
noncomputable def ixA45 : FuncId → Option Ix := ixAdd E0 ixA44 31 sA45
/-- bootprint/crc.Update -/
noncomputable def sA46 : Sm := { us := [.i .u32 (.ofNat 0), .sl (q 2569) 0 4 8 0], n := q 2571, pre := [(q 2569, oa83)], v := .i .u32 (.ofNat 3978746297), post := [(q 2569, oa83)], n' := q 2572 }
noncomputable def ixA46 : FuncId → Option Ix := ixAdd E0 ixA45 422 sA46
/-- bootprint/crc.Update -/
noncomputable def sA47 : Sm := { us := [.i .u32 (.ofNat 0), .sl (q 2567) 8 1 22 1], n := q 2573, pre := [(q 2567, oa84)], v := .i .u32 (.ofNat 3007718310), post := [(q 2567, oa84)], n' := q 2574 }
noncomputable def ixA47 : FuncId → Option Ix := ixAdd E0 ixA46 422 sA47
/-- bootprint/crc.Update -/
noncomputable def sA48 : Sm := { us := [.i .u32 (.ofNat 0), .sl (q 2580) 0 4 8 0], n := q 2582, pre := [(q 2580, oa85)], v := .i .u32 (.ofNat 2931676955), post := [(q 2580, oa85)], n' := q 2583 }
noncomputable def ixA48 : FuncId → Option Ix := ixAdd E0 ixA47 422 sA48
/-- bootprint/crc.Update -/
noncomputable def sA49 : Sm := { us := [.i .u32 (.ofNat 0), .sl (q 2567) 21 5 9 1], n := q 2584, pre := [(q 2567, oa84)], v := .i .u32 (.ofNat 526693986), post := [(q 2567, oa84)], n' := q 2585 }
noncomputable def ixA49 : FuncId → Option Ix := ixAdd E0 ixA48 422 sA49
/-- bootprint/crc.Update -/
noncomputable def sA50 : Sm := { us := [.i .u32 (.ofNat 0), .sl (q 2684) 0 4 4 0], n := q 2687, pre := [(q 2684, oa2)], v := .i .u32 (.ofNat 3978746297), post := [(q 2684, oa2)], n' := q 2688 }
noncomputable def ixA50 : FuncId → Option Ix := ixAdd E0 ixA49 422 sA50
/-- bootprint/crc.Update -/
noncomputable def sA51 : Sm := { us := [.i .u32 (.ofNat 0), .sl (q 2682) 0 1 1 1], n := q 2692, pre := [(q 2682, .c (bc [3]) 5 false)], v := .i .u32 (.ofNat 1093509285), post := [(q 2682, .c (bc [3]) 5 false)], n' := q 2693 }
noncomputable def ixA51 : FuncId → Option Ix := ixAdd E0 ixA50 422 sA51
/-- (*bootprint/lsm.Engine).openLog -/
noncomputable def sA52 : Sm := { us := [.p (q 2284) 0], n := q 2442, pre := [(q 1, oa17), (q 11, oa78), (q 96, oa53), (q 127, oa10), (q 668, oa66), (q 1062, oa41), (q 1889, oa69), (q 2247, oa48), (q 2265, oa48), (q 2280, oa79), (q 2281, oa62), (q 2282, .c [.p (q 2281) 0, .i .i64 (.ofNat 0), .i .i64 (.ofNat 0)] 140 false), (q 2284, .c [.p (q 2280) 0, .p (q 2282) 0, .np, .i .u64 (.ofNat 0), .m (q 2283), .i .i64 (.ofNat 64), .i .i64 (.ofNat 2), .i .i64 (.ofNat 1000), .i .i64 (.ofNat 10), .i .i64 (.ofNat 64), .i .i64 (.ofNat 10), .i .i64 (.ofNat 1000), .b false] 65 false), (q 2295, oa80), (q 2418, oa81), (q 2422, .c (bc [97]) 5 false), (q 2424, .c (bc [98]) 5 false), (q 2426, oa82)], v := .i .i64 (.ofNat 0), post := [(q 1, oa17), (q 11, oa86), (q 96, oa53), (q 127, oa10), (q 668, oa66), (q 1062, oa41), (q 1889, oa69), (q 2247, oa87), (q 2265, oa48), (q 2280, oa88), (q 2281, oa89), (q 2282, oa90), (q 2284, oa91), (q 2295, oa80), (q 2418, oa81), (q 2422, .c (bc [97]) 5 false), (q 2424, .c (bc [98]) 5 false), (q 2426, oa82), (q 2526, oa92), (q 2676, .c (bc [97]) 5 false), (q 2677, oa93), (q 2701, oa94), (q 2718, oa95), (q 2724, oa87), (q 2726, oa96)], n' := q 2727 }
noncomputable def ixA52 : FuncId → Option Ix := ixAdd E0 ixA51 32 sA52
/-- (*bootprint/vfs.Fs).Names -/
noncomputable def sA53 : Sm := { us := [.p (q 11) 0], n := q 2807, pre := [(q 11, oa86), (q 2247, oa87)], v := .sl (q 2835) 0 5 5 1, post := [(q 11, oa86), (q 2247, oa87), (q 2835, .c [.s [99, 117, 114, 114, 101, 110, 116], .s [109, 97, 110, 105, 102, 101, 115, 116, 45, 48, 48, 48, 48, 48, 48, 48, 48, 48, 48, 48, 49], .s [116, 97, 98, 108, 101, 45, 48, 48, 48, 48, 48, 48, 48, 48, 48, 48, 48, 49], .s [119, 97, 108, 45, 48, 48, 48, 48, 48, 48, 48, 48, 48, 48, 48, 50], .s [119, 97, 108, 45, 48, 48, 48, 48, 48, 48, 48, 48, 48, 48, 48, 51]] 9 true)], n' := q 2836 }
noncomputable def ixA53 : FuncId → Option Ix := ixAdd E0 ixA52 79 sA53
/-- bootprint/crc.Update -/
noncomputable def sA54 : Sm := { us := [.i .u32 (.ofNat 0), .sl (q 2950) 0 4 8 0], n := q 2952, pre := [(q 2950, oa31)], v := .i .u32 (.ofNat 814445205), post := [(q 2950, oa31)], n' := q 2953 }
noncomputable def ixA54 : FuncId → Option Ix := ixAdd E0 ixA53 422 sA54
/-- bootprint/crc.Update -/
noncomputable def sA55 : Sm := { us := [.i .u32 (.ofNat 0), .sl (q 2948) 8 13 17 1], n := q 2954, pre := [(q 2948, oa32)], v := .i .u32 (.ofNat 984381394), post := [(q 2948, oa32)], n' := q 2955 }
noncomputable def ixA55 : FuncId → Option Ix := ixAdd E0 ixA54 422 sA55
/-- bootprint/crc.Update -/
noncomputable def sA56 : Sm := { us := [.i .u32 (.ofNat 0), .sl (q 2982) 0 4 8 0], n := q 2984, pre := [(q 2982, oa33)], v := .i .u32 (.ofNat 3075829317), post := [(q 2982, oa33)], n' := q 2985 }
noncomputable def ixA56 : FuncId → Option Ix := ixAdd E0 ixA55 422 sA56
/-- bootprint/crc.Update -/
noncomputable def sA57 : Sm := { us := [.i .u32 (.ofNat 0), .sl (q 2980) 8 9 13 1], n := q 2986, pre := [(q 2980, oa34)], v := .i .u32 (.ofNat 2034746966), post := [(q 2980, oa34)], n' := q 2987 }
noncomputable def ixA57 : FuncId → Option Ix := ixAdd E0 ixA56 422 sA57
/-- (*bootprint/lsm.disk).openTables -/
noncomputable def sA58 : Sm := { us := [.p (q 2280) 0], n := q 2842, pre := [(q 11, oa86), (q 1062, oa41), (q 1079, oa42), (q 2247, oa87), (q 2279, .mp [] 0), (q 2280, oa88), (q 2295, oa80), (q 2418, oa81), (q 2422, .c (bc [97]) 5 false), (q 2424, .c (bc [98]) 5 false), (q 2426, oa82)], v := .i .i64 (.ofNat 0), post := [(q 11, oa97), (q 1062, oa41), (q 1079, oa42), (q 2247, oa87), (q 2279, oa98), (q 2280, oa88), (q 2295, oa80), (q 2418, oa81), (q 2422, .c (bc [97]) 5 false), (q 2424, .c (bc [98]) 5 false), (q 2426, oa82), (q 2928, oa99), (q 2962, .c (bc [98]) 5 false), (q 2965, oa100), (q 2967, .c (bc [97]) 5 false), (q 2969, .c (bc [98]) 5 false), (q 2988, oa28)], n' := q 2990 }
noncomputable def ixA58 : FuncId → Option Ix := ixAdd E0 ixA57 34 sA58
/-- bootprint/lsm.Open -/
noncomputable def sA59 : Sm := { us := [.p (q 11) 0, .ag [.i .i64 (.ofNat 64), .i .i64 (.ofNat 2), .i .i64 (.ofNat 1000), .i .i64 (.ofNat 10), .i .i64 (.ofNat 64), .i .i64 (.ofNat 10), .i .i64 (.ofNat 1000)]], n := q 2267, pre := [(q 1, oa17), (q 11, oa74), (q 96, oa53), (q 127, oa10), (q 145, oa11), (q 668, oa66), (q 1062, oa41), (q 1079, oa42), (q 1503, oa57), (q 1889, oa69), (q 2247, oa48), (q 2265, oa48)], v := .tu [.p (q 2284) 0, .i .i64 (.ofNat 0)], post := [(q 1, oa17), (q 11, oa97), (q 96, oa53), (q 127, oa10), (q 145, oa11), (q 668, oa66), (q 1062, oa41), (q 1079, oa42), (q 1503, oa57), (q 1889, oa69), (q 2247, oa87), (q 2265, oa48), (q 2279, oa98), (q 2280, oa88), (q 2281, oa89), (q 2282, oa90), (q 2283, .mp [] 0), (q 2284, oa91), (q 2295, oa80), (q 2418, oa81), (q 2422, .c (bc [97]) 5 false), (q 2424, .c (bc [98]) 5 false), (q 2426, oa82), (q 2526, oa92), (q 2676, .c (bc [97]) 5 false), (q 2677, oa93), (q 2701, oa94), (q 2718, oa95), (q 2724, oa87), (q 2726, oa96), (q 2928, oa99), (q 2962, .c (bc [98]) 5 false), (q 2965, oa100), (q 2967, .c (bc [97]) 5 false), (q 2969, .c (bc [98]) 5 false), (q 2988, oa28)], n' := q 2990 }
noncomputable def ixA59 : FuncId → Option Ix := ixAdd E0 ixA58 6 sA59
/-- bootprint/crc.Update -/
noncomputable def sA60 : Sm := { us := [.i .u32 (.ofNat 0), .sl (q 3065) 0 4 4 0], n := q 3068, pre := [(q 3065, oa0)], v := .i .u32 (.ofNat 3584026344), post := [(q 3065, oa0)], n' := q 3069 }
noncomputable def ixA60 : FuncId → Option Ix := ixAdd E0 ixA59 422 sA60
/-- bootprint/crc.Update -/
noncomputable def sA61 : Sm := { us := [.i .u32 (.ofNat 0), .sl (q 3063) 0 5 5 1], n := q 3073, pre := [(q 3063, oa1)], v := .i .u32 (.ofNat 2103646617), post := [(q 3063, oa1)], n' := q 3074 }
noncomputable def ixA61 : FuncId → Option Ix := ixAdd E0 ixA60 422 sA61
/-- bootprint/crc.Update -/
noncomputable def sA62 : Sm := { us := [.i .u32 (.ofNat 0), .sl (q 3233) 0 4 4 0], n := q 3236, pre := [(q 3233, oa2)], v := .i .u32 (.ofNat 3978746297), post := [(q 3233, oa2)], n' := q 3237 }
noncomputable def ixA62 : FuncId → Option Ix := ixAdd E0 ixA61 422 sA62
/-- bootprint/crc.Update -/
noncomputable def sA63 : Sm := { us := [.i .u32 (.ofNat 0), .sl (q 3231) 0 1 1 1], n := q 3241, pre := [(q 3231, .c (bc [1]) 5 false)], v := .i .u32 (.ofNat 2685849682), post := [(q 3231, .c (bc [1]) 5 false)], n' := q 3242 }
noncomputable def ixA63 : FuncId → Option Ix := ixAdd E0 ixA62 422 sA63
/-- bootprint/lsm.steps -/
noncomputable def sA64 : Sm := { us := [.sl (q 3021) 0 4 4 0], n := q 3022, pre := [(q 2999, .mp [] 0), (q 3000, .mp [] 0), (q 3001, .c [.b true, .i .i64 (.ofNat 16777216), .m (q 2999), .m (q 3000), .ns, .b false, .i .i64 (.negSucc 0), .i .i64 (.negSucc 0), .i .i64 (.ofNat 0), .i .i64 (.ofNat 0)] 83 false), (q 3016, .c [.p (q 3001) 0, .np, .np, .m (q 3015)] 92 false), (q 3020, oa101), (q 3021, oa102)], v := .i .i64 (.ofNat 0), post := [(q 2999, oa103), (q 3000, .mp [] 0), (q 3001, .c [.b true, .i .i64 (.ofNat 16777216), .m (q 2999), .m (q 3273), .ns, .b false, .i .i64 (.negSucc 0), .i .i64 (.negSucc 0), .i .i64 (.ofNat 0), .i .i64 (.ofNat 13)] 83 false), (q 3016, .c [.p (q 3001) 0, .p (q 3031) 0, .p (q 3203) 0, .m (q 3015)] 92 false), (q 3020, oa101), (q 3021, oa102), (q 3030, .c [.ns, .ns, .ns, .ns, .ns] 109 false), (q 3031, .c [.p (q 3001) 0, .sl (q 3030) 0 5 5 0, .i .u64 (.ofNat 1), .i .u64 (.ofNat 0), .i .u64 (.ofNat 0), .i .u64 (.ofNat 1), .i .i64 (.ofNat 0)] 219 false), (q 3086, oa104), (q 3103, oa9), (q 3117, oa105), (q 3135, oa11), (q 3203, .c [.p (q 3001) 0, .sl (q 3275) 0 1 1 1, .i .i64 (.ofNat 0)] 165 false), (q 3250, .c [.sl (q 3267) 0 13 13 1, .i .i64 (.ofNat 13)] 126 false), (q 3267, oa13), (q 3273, oa103), (q 3275, .c [.i .u64 (.ofNat 1)] 35 false)], n' := q 3389 }
noncomputable def ixA64 : FuncId → Option Ix := ixAdd E0 ixA63 30 sA64
/-- bootprint/crc.Update -/
noncomputable def sA65 : Sm := { us := [.i .u32 (.ofNat 0), .sl (q 3435) 0 4 4 0], n := q 3438, pre := [(q 3435, oa14)], v := .i .u32 (.ofNat 3788670230), post := [(q 3435, oa14)], n' := q 3439 }
noncomputable def ixA65 : FuncId → Option Ix := ixAdd E0 ixA64 422 sA65
/-- bootprint/crc.Update -/
noncomputable def sA66 : Sm := { us := [.i .u32 (.ofNat 0), .sl (q 3430) 0 7 7 1], n := q 3443, pre := [(q 3430, oa15)], v := .i .u32 (.ofNat 3000669614), post := [(q 3430, oa15)], n' := q 3444 }
noncomputable def ixA66 : FuncId → Option Ix := ixAdd E0 ixA65 422 sA66
/-- bootprint/crc.Update -/
noncomputable def sA67 : Sm := { us := [.i .u32 (.ofNat 0), .sl (q 3656) 0 4 8 0], n := q 3658, pre := [(q 3656, oa75)], v := .i .u32 (.ofNat 3584026344), post := [(q 3656, oa75)], n' := q 3659 }
noncomputable def ixA67 : FuncId → Option Ix := ixAdd E0 ixA66 422 sA67
/-- bootprint/crc.Update -/
noncomputable def sA68 : Sm := { us := [.i .u32 (.ofNat 0), .sl (q 3654) 8 5 9 1], n := q 3660, pre := [(q 3654, oa9)], v := .i .u32 (.ofNat 2103646617), post := [(q 3654, oa9)], n' := q 3661 }
noncomputable def ixA68 : FuncId → Option Ix := ixAdd E0 ixA67 422 sA68
/-- bootprint/crc.Update -/
noncomputable def sA69 : Sm := { us := [.i .u32 (.ofNat 0), .sl (q 3797) 0 4 8 0], n := q 3799, pre := [(q 3797, oa83)], v := .i .u32 (.ofNat 3978746297), post := [(q 3797, oa83)], n' := q 3800 }
noncomputable def ixA69 : FuncId → Option Ix := ixAdd E0 ixA68 422 sA69
/-- bootprint/crc.Update -/
noncomputable def sA70 : Sm := { us := [.i .u32 (.ofNat 0), .sl (q 3795) 8 1 24 1], n := q 3801, pre := [(q 3795, oa106)], v := .i .u32 (.ofNat 2685849682), post := [(q 3795, oa106)], n' := q 3802 }
noncomputable def ixA70 : FuncId → Option Ix := ixAdd E0 ixA69 422 sA70
/-- bootprint/crc.Update -/
noncomputable def sA71 : Sm := { us := [.i .u32 (.ofNat 0), .sl (q 3808) 0 4 8 0], n := q 3810, pre := [(q 3808, oa107)], v := .i .u32 (.ofNat 3788670230), post := [(q 3808, oa107)], n' := q 3811 }
noncomputable def ixA71 : FuncId → Option Ix := ixAdd E0 ixA70 422 sA71
/-- bootprint/crc.Update -/
noncomputable def sA72 : Sm := { us := [.i .u32 (.ofNat 0), .sl (q 3795) 21 7 11 1], n := q 3812, pre := [(q 3795, oa106)], v := .i .u32 (.ofNat 3000669614), post := [(q 3795, oa106)], n' := q 3813 }
noncomputable def ixA72 : FuncId → Option Ix := ixAdd E0 ixA71 422 sA72
/-- bootprint/crc.Update -/
noncomputable def sA73 : Sm := { us := [.i .u32 (.ofNat 0), .sl (q 3926) 0 4 4 0], n := q 3929, pre := [(q 3926, oa2)], v := .i .u32 (.ofNat 3978746297), post := [(q 3926, oa2)], n' := q 3930 }
noncomputable def ixA73 : FuncId → Option Ix := ixAdd E0 ixA72 422 sA73
/-- bootprint/crc.Update -/
noncomputable def sA74 : Sm := { us := [.i .u32 (.ofNat 0), .sl (q 3924) 0 1 1 1], n := q 3934, pre := [(q 3924, .c (bc [2]) 5 false)], v := .i .u32 (.ofNat 3007718310), post := [(q 3924, .c (bc [2]) 5 false)], n' := q 3935 }
noncomputable def ixA74 : FuncId → Option Ix := ixAdd E0 ixA73 422 sA74
/-- (*bootprint/lsm.Engine).openLog -/
noncomputable def sA75 : Sm := { us := [.p (q 3620) 0], n := q 3707, pre := [(q 1, oa17), (q 3001, .c [.b true, .i .i64 (.ofNat 16777216), .m (q 3585), .m (q 3601), .ns, .b false, .i .i64 (.negSucc 0), .i .i64 (.negSucc 0), .i .i64 (.ofNat 0), .i .i64 (.ofNat 18)] 83 false), (q 3086, oa104), (q 3117, oa105), (q 3250, oa108), (q 3458, oa19), (q 3585, oa103), (q 3601, oa103), (q 3616, .c [.p (q 3001) 0, .p (q 3631) 0, .np, .m (q 3615)] 92 false), (q 3617, oa62), (q 3618, oa109), (q 3620, oa110), (q 3631, oa111), (q 3694, .c [.ns, .ns, .ns, .ns, .ns] 109 false)], v := .i .i64 (.ofNat 0), post := [(q 1, oa17), (q 3001, oa112), (q 3086, oa104), (q 3117, oa105), (q 3250, oa108), (q 3458, oa19), (q 3585, oa113), (q 3601, oa103), (q 3616, oa114), (q 3617, oa115), (q 3618, oa116), (q 3620, oa117), (q 3631, oa111), (q 3694, .c [.ns, .ns, .ns, .ns, .ns] 109 false), (q 3758, oa118), (q 3916, .c (bc [97]) 5 false), (q 3918, .c (bc [120]) 5 false), (q 3919, oa119), (q 3943, oa120), (q 3960, oa61), (q 3966, oa113), (q 3968, oa47)], n' := q 3969 }
noncomputable def ixA75 : FuncId → Option Ix := ixAdd E0 ixA74 32 sA75
/-- bootprint/lsm.steps -/
noncomputable def sA76 : Sm := { us := [.sl (q 3621) 0 4 4 0], n := q 3622, pre := [(q 1, oa17), (q 3001, .c [.b true, .i .i64 (.ofNat 16777216), .m (q 3585), .m (q 3601), .ns, .b false, .i .i64 (.negSucc 0), .i .i64 (.negSucc 0), .i .i64 (.ofNat 0), .i .i64 (.ofNat 15)] 83 false), (q 3086, oa104), (q 3103, oa9), (q 3117, oa105), (q 3135, oa11), (q 3250, oa108), (q 3458, oa19), (q 3585, oa103), (q 3601, oa103), (q 3616, .c [.p (q 3001) 0, .np, .np, .m (q 3615)] 92 false), (q 3617, oa62), (q 3618, oa109), (q 3620, oa110), (q 3621, oa121)], v := .i .i64 (.ofNat 0), post := [(q 1, oa17), (q 3001, oa112), (q 3086, oa104), (q 3103, oa9), (q 3117, oa105), (q 3135, oa11), (q 3250, oa108), (q 3458, oa19), (q 3585, oa113), (q 3601, oa103), (q 3616, oa114), (q 3617, oa115), (q 3618, oa116), (q 3620, oa117), (q 3621, oa121), (q 3631, oa111), (q 3694, .c [.ns, .ns, .ns, .ns, .ns] 109 false), (q 3758, oa118), (q 3916, .c (bc [97]) 5 false), (q 3918, .c (bc [120]) 5 false), (q 3919, oa119), (q 3943, oa120), (q 3960, oa61), (q 3966, oa113), (q 3968, oa47)], n' := q 4086 }
noncomputable def ixA76 : FuncId → Option Ix := ixAdd E0 ixA75 30 sA76
/-- bootprint/bootprintlaw16.lives -/
noncomputable def sA77 : Sm := { us := [], n := q 2999, pre := [(q 1, oa17)], v := .b true, post := [(q 1, oa17)], n' := q 4104 }
noncomputable def ixA77 : FuncId → Option Ix := ixAdd E0 ixA76 16 sA77
/-- bootprint/crc.Update -/
noncomputable def sA78 : Sm := { us := [.i .u32 (.ofNat 0), .sl (q 4222) 0 4 8 0], n := q 4224, pre := [(q 4222, oa71)], v := .i .u32 (.ofNat 427602390), post := [(q 4222, oa71)], n' := q 4225 }
noncomputable def ixA78 : FuncId → Option Ix := ixAdd E0 ixA77 422 sA78
/-- bootprint/crc.Update -/
noncomputable def sA79 : Sm := { us := [.i .u32 (.ofNat 0), .sl (q 4220) 8 20 24 1], n := q 4226, pre := [(q 4220, oa72)], v := .i .u32 (.ofNat 2443093147), post := [(q 4220, oa72)], n' := q 4227 }
noncomputable def ixA79 : FuncId → Option Ix := ixAdd E0 ixA78 422 sA79
/-- bootprint/bootprintlaw16.gets -/
noncomputable def sA80 : Sm := { us := [.p (q 2284) 0, .s [98], .s [121]], n := q 4104, pre := [(q 11, oa97), (q 1062, oa41), (q 1079, oa42), (q 2247, oa87), (q 2279, oa98), (q 2280, oa88), (q 2281, oa89), (q 2282, oa90), (q 2284, oa91), (q 2295, oa80), (q 2418, oa81), (q 2422, .c (bc [97]) 5 false), (q 2424, .c (bc [98]) 5 false), (q 2426, oa82), (q 2676, .c (bc [97]) 5 false), (q 2677, oa93), (q 2928, oa99), (q 2962, .c (bc [98]) 5 false), (q 2965, oa100), (q 2988, oa28)], v := .b true, post := [(q 11, .c [.b true, .i .i64 (.ofNat 16777216), .m (q 2247), .m (q 2724), .ns, .b false, .i .i64 (.negSucc 0), .i .i64 (.negSucc 0), .i .i64 (.ofNat 0), .i .i64 (.ofNat 48)] 83 false), (q 1062, oa41), (q 1079, oa42), (q 2247, oa87), (q 2279, oa98), (q 2280, oa88), (q 2281, oa89), (q 2282, oa90), (q 2284, oa91), (q 2295, oa80), (q 2418, oa81), (q 2422, .c (bc [97]) 5 false), (q 2424, .c (bc [98]) 5 false), (q 2426, oa82), (q 2676, .c (bc [97]) 5 false), (q 2677, oa93), (q 2928, .c [.ifc 336 (.ag [.p (q 11) 0, .s [116, 97, 98, 108, 101, 45, 48, 48, 48, 48, 48, 48, 48, 48, 48, 48, 48, 49]]), .sl (q 2965) 0 1 1 6, .sl (q 2988) 0 9 9 1, .i .i64 (.ofNat 2), .i .i64 (.ofNat 1), .i .i64 (.ofNat 94), .sl (q 2967) 0 1 1 1, .sl (q 2969) 0 1 1 1, .i .u64 (.ofNat 1), .i .u64 (.ofNat 2), .i .i64 (.ofNat 1)] 184 false), (q 2962, .c (bc [98]) 5 false), (q 2965, oa100), (q 2988, oa28)], n' := q 4314 }
noncomputable def ixA80 : FuncId → Option Ix := ixAdd E0 ixA79 17 sA80
end Ax
end Go.Proofs.YtlhaonfohjcblaaGreatDoor
