/- The seat's tables: types, functions, their code; the listed variables. -/
import Derived.Test.YtdfgnoflohfnmaaGreatDoorXd
import Derived.Test.YtdfgnoflohfnmaaGreatDoorProg
namespace Go.Proofs.YtdfgnoflohfnmaaGreatDoor
namespace Ax
noncomputable def ttab : Tr (Option TI) := Tr.build 9 fun p => mkTI Tryz.prog (p.nat - 1)
def fnOk (f : Option Func) : Option Func := match f with
  | some g => match g.name == "runtime.NumGoroutine" with
    | true => none
    | false => some g
  | none => none
noncomputable def ftab : Tr (Option Func) := Tr.build 9 fun p => fnOk Tryz.prog.funcs[p.nat - 1]?
noncomputable def E0 : Env := { P := Tryz.prog, ti := fun t => ttab.get none (pth t), fn := fun f => ftab.get none (pth f), ng := Tryz.prog.globals.size }
def gl0 : List Gl := [(3, [.i .u64 1, .i .u64 10, .i .u64 100, .i .u64 1000, .i .u64 10000, .i .u64 100000, .i .u64 1000000, .i .u64 10000000, .i .u64 100000000, .i .u64 1000000000, .i .u64 10000000000, .i .u64 100000000000, .i .u64 1000000000000, .i .u64 10000000000000, .i .u64 100000000000000, .i .u64 1000000000000000, .i .u64 10000000000000000, .i .u64 100000000000000000, .i .u64 1000000000000000000, .i .u64 10000000000000000000], 179), (4, [.ifc 196 .z], 118), (5, [.ifc 196 .z], 118), (7, [.i .u8 0, .i .u8 1, .i .u8 28, .i .u8 2, .i .u8 29, .i .u8 14, .i .u8 24, .i .u8 3, .i .u8 30, .i .u8 22, .i .u8 20, .i .u8 15, .i .u8 25, .i .u8 17, .i .u8 4, .i .u8 8, .i .u8 31, .i .u8 27, .i .u8 13, .i .u8 23, .i .u8 21, .i .u8 19, .i .u8 16, .i .u8 7, .i .u8 26, .i .u8 12, .i .u8 18, .i .u8 6, .i .u8 11, .i .u8 5, .i .u8 10, .i .u8 9], 203), (8, [.i .u8 0, .i .u8 1, .i .u8 56, .i .u8 2, .i .u8 57, .i .u8 49, .i .u8 28, .i .u8 3, .i .u8 61, .i .u8 58, .i .u8 42, .i .u8 50, .i .u8 38, .i .u8 29, .i .u8 17, .i .u8 4, .i .u8 62, .i .u8 47, .i .u8 59, .i .u8 36, .i .u8 45, .i .u8 43, .i .u8 51, .i .u8 22, .i .u8 53, .i .u8 39, .i .u8 33, .i .u8 30, .i .u8 24, .i .u8 18, .i .u8 12, .i .u8 5, .i .u8 63, .i .u8 55, .i .u8 48, .i .u8 27, .i .u8 60, .i .u8 41, .i .u8 37, .i .u8 16, .i .u8 46, .i .u8 35, .i .u8 44, .i .u8 21, .i .u8 52, .i .u8 32, .i .u8 23, .i .u8 11, .i .u8 54, .i .u8 26, .i .u8 40, .i .u8 15, .i .u8 34, .i .u8 20, .i .u8 31, .i .u8 10, .i .u8 25, .i .u8 14, .i .u8 19, .i .u8 9, .i .u8 13, .i .u8 8, .i .u8 7, .i .u8 6], 204)]
end Ax
end Go.Proofs.YtdfgnoflohfnmaaGreatDoor
