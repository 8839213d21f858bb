/- Closed facts of a row. -/
import Derived.Test.YtkddfiabighjiaaGreatDoorRows
import Derived.JoinedOf
import Derived.KernelRfl
namespace Go.Proofs.YtkddfiabighjiaaGreatDoor.queryNamesLaw
open Go
set_option maxRecDepth 1000000 in
theorem fact0 : (Rows.queryNamesRow.wf (OpenSpec.ofChange (OpenSpec.ofChange Rows.queryNamesSpec).bare) : Bool) = true := by kernel_rfl
set_option maxRecDepth 1000000 in
theorem fact1 : (laidOutB Tryz.prog : Bool) = true := by kernel_rfl
set_option maxRecDepth 1000000 in
theorem fact2 : (mapsRowed Tryz.prog : Bool) = true := by kernel_rfl
set_option maxRecDepth 1000000 in
theorem fact3 : (Tryz.f3.params.all (Tryz.prog.readableRec ·) : Bool) = true := by kernel_rfl
set_option maxRecDepth 1000000 in
theorem fact4 : (namedTie Tryz.prog Rows.queryNamesRow.named (OpenSpec.ofChange Rows.queryNamesSpec).bare.vars : Bool) = true := by kernel_rfl
set_option maxRecDepth 1000000 in
theorem fact5 : ((Rows.queryNamesRow.stops == []) : Bool) = true := by kernel_rfl
set_option maxRecDepth 1000000 in
theorem fact6 : ((Tryz.prog.stops == []) : Bool) = true := by kernel_rfl
set_option maxRecDepth 1000000 in
theorem fact7 : ((Rows.queryNamesRow.knobs == []) : Bool) = true := by kernel_rfl
end Go.Proofs.YtkddfiabighjiaaGreatDoor.queryNamesLaw
