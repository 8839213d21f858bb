/- The seat's tables: types, functions, their code; the listed variables. -/
import Derived.Test.YtcmepallgchcjaaGreatXd
import Derived.Test.YtcmepallgchcjaaGreatProg
namespace Go.Proofs.YtcmepallgchcjaaGreat
namespace Ax
noncomputable def ttab : Tr (Option TI) := Tr.build 10 fun p => mkTI Tryz.prog (p.nat - 1)
def fnOk (f : Option Func) : Option Func := match f with
  | some g => match g.name == "runtime.NumGoroutine" with
    | true => none
    | false => some g
  | none => none
noncomputable def ftab : Tr (Option Func) := Tr.build 9 fun p => fnOk Tryz.prog.funcs[p.nat - 1]?
noncomputable def E0 : Env := { P := Tryz.prog, ti := fun t => ttab.get none (pth t), fn := fun f => ftab.get none (pth f), ng := Tryz.prog.globals.size }
noncomputable def ix0 : FuncId → Option Ix := fun f => match f with
  | _ => none
noncomputable def code0 : FuncId → Nat × CD := codeI E0 9 ix0
def gl0 : List Gl := []
end Ax
end Go.Proofs.YtcmepallgchcjaaGreat
