/- Closed facts of a row. -/
import Derived.Test.YtlhaonfohjcblaaGreatDoorRows
import Derived.JoinedOf
import Derived.KernelRfl
namespace Go.Proofs.YtlhaonfohjcblaaGreatDoor.lsmNamesLaw
open Go
set_option maxRecDepth 1000000 in
theorem fact0 : (Rows.lsmNamesRow.wf (OpenSpec.ofChange (OpenSpec.ofChange Rows.lsmNamesSpec).bare) : Bool) = true := by kernel_rfl
set_option maxRecDepth 1000000 in
theorem fact1 : (laidOutB Tryz.prog : Bool) = true := by kernel_rfl
set_option maxRecDepth 1000000 in
theorem fact2 : (mapsRowed Tryz.prog : Bool) = true := by kernel_rfl
set_option maxRecDepth 1000000 in
theorem fact3 : (Tryz.f3.params.all (Tryz.prog.readableRec ·) : Bool) = true := by kernel_rfl
set_option maxRecDepth 1000000 in
theorem fact4 : (namedTie Tryz.prog Rows.lsmNamesRow.named (OpenSpec.ofChange Rows.lsmNamesSpec).bare.vars : Bool) = true := by kernel_rfl
set_option maxRecDepth 1000000 in
theorem fact5 : ((Rows.lsmNamesRow.stops == []) : Bool) = true := by kernel_rfl
set_option maxRecDepth 1000000 in
theorem fact6 : ((Tryz.prog.stops == []) : Bool) = true := by kernel_rfl
set_option maxRecDepth 1000000 in
theorem fact7 : ((Rows.lsmNamesRow.knobs == []) : Bool) = true := by kernel_rfl
end Go.Proofs.YtlhaonfohjcblaaGreatDoor.lsmNamesLaw
