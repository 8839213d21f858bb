/- Closed facts of a row. -/
import Derived.Test.YtlhaonfohjcblaaGreatDoorRows
import Derived.JoinedOf
import Derived.KernelRfl
namespace Go.Proofs.YtlhaonfohjcblaaGreatDoor.lsmNilLaw
open Go
set_option maxRecDepth 1000000 in
theorem fact0 : (Rows.lsmNilRow.wf (OpenSpec.ofChange (OpenSpec.ofChange Rows.lsmNilSpec).bare) : Bool) = true := by kernel_rfl
set_option maxRecDepth 1000000 in
theorem fact1 : (laidOutB Tryz.prog : Bool) = true := by kernel_rfl
set_option maxRecDepth 1000000 in
theorem fact2 : (mapsRowed Tryz.prog : Bool) = true := by kernel_rfl
set_option maxRecDepth 1000000 in
theorem fact3 : (Tryz.f4.params.all (Tryz.prog.readableRec ·) : Bool) = true := by kernel_rfl
set_option maxRecDepth 1000000 in
theorem fact4 : (namedTie Tryz.prog Rows.lsmNilRow.named (OpenSpec.ofChange Rows.lsmNilSpec).bare.vars : Bool) = true := by kernel_rfl
set_option maxRecDepth 1000000 in
theorem fact5 : ((Rows.lsmNilRow.stops == []) : Bool) = true := by kernel_rfl
set_option maxRecDepth 1000000 in
theorem fact6 : ((Tryz.prog.stops == []) : Bool) = true := by kernel_rfl
set_option maxRecDepth 1000000 in
theorem fact7 : ((Rows.lsmNilRow.knobs == []) : Bool) = true := by kernel_rfl
end Go.Proofs.YtlhaonfohjcblaaGreatDoor.lsmNilLaw
