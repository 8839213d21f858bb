/- Closed facts of a row. -/
import Derived.Test.YtkddfiabighjiaaGreatDoorRows
import Derived.JoinedOf
import Derived.KernelRfl
namespace Go.Proofs.YtkddfiabighjiaaGreatDoor.queryNilLaw
open Go
set_option maxRecDepth 1000000 in
theorem fact0 : (Rows.queryNilRow.wf (OpenSpec.ofChange (OpenSpec.ofChange Rows.queryNilSpec).bare) : Bool) = true := by kernel_rfl
set_option maxRecDepth 1000000 in
theorem fact1 : (laidOutB Tryz.prog : Bool) = true := by kernel_rfl
set_option maxRecDepth 1000000 in
theorem fact2 : (mapsRowed Tryz.prog : Bool) = true := by kernel_rfl
set_option maxRecDepth 1000000 in
theorem fact3 : (Tryz.f4.params.all (Tryz.prog.readableRec ·) : Bool) = true := by kernel_rfl
set_option maxRecDepth 1000000 in
theorem fact4 : (namedTie Tryz.prog Rows.queryNilRow.named (OpenSpec.ofChange Rows.queryNilSpec).bare.vars : Bool) = true := by kernel_rfl
set_option maxRecDepth 1000000 in
theorem fact5 : ((Rows.queryNilRow.stops == []) : Bool) = true := by kernel_rfl
set_option maxRecDepth 1000000 in
theorem fact6 : ((Tryz.prog.stops == []) : Bool) = true := by kernel_rfl
set_option maxRecDepth 1000000 in
theorem fact7 : ((Rows.queryNilRow.knobs == []) : Bool) = true := by kernel_rfl
end Go.Proofs.YtkddfiabighjiaaGreatDoor.queryNilLaw
