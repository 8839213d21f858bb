/- Closed facts of a row. -/
import Derived.Test.YtpimllnmacnfoaaGreatDoorRows
import Derived.JoinedOf
import Derived.KernelRfl
namespace Go.Proofs.YtpimllnmacnfoaaGreatDoor.storeNilLaw
open Go
set_option maxRecDepth 1000000 in
theorem fact0 : (Rows.storeNilUptoRow.wf (OpenSpec.ofChange (Rows.OpenSpec.upto Rows.storeNilSpec).bare) : Bool) = true := by kernel_rfl
set_option maxRecDepth 1000000 in
theorem fact1 : (laidOutB Tryz.prog : Bool) = true := by kernel_rfl
set_option maxRecDepth 1000000 in
theorem fact2 : (mapsRowed Tryz.prog : Bool) = true := by kernel_rfl
set_option maxRecDepth 1000000 in
theorem fact3 : (Tryz.f3.params.all (Tryz.prog.readableRec ·) : Bool) = true := by kernel_rfl
set_option maxRecDepth 1000000 in
theorem fact4 : (namedTie Tryz.prog Rows.storeNilUptoRow.named (Rows.OpenSpec.upto Rows.storeNilSpec).bare.vars : Bool) = true := by kernel_rfl
set_option maxRecDepth 1000000 in
theorem fact5 : ((Rows.storeNilUptoRow.stops == []) : Bool) = true := by kernel_rfl
set_option maxRecDepth 1000000 in
theorem fact6 : ((Tryz.prog.stops == []) : Bool) = true := by kernel_rfl
set_option maxRecDepth 1000000 in
theorem fact7 : ((Rows.storeNilUptoRow.knobs == []) : Bool) = true := by kernel_rfl
end Go.Proofs.YtpimllnmacnfoaaGreatDoor.storeNilLaw
