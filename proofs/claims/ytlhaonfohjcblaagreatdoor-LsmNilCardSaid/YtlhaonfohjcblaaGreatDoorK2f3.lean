/- Closed facts of a row. -/
import Derived.Test.YtlhaonfohjcblaaGreatDoorRows
import Derived.JoinedOf
import Derived.KernelRfl
namespace Go.Proofs.YtlhaonfohjcblaaGreatDoor.lsmNilLaw
open Go
set_option maxRecDepth 1000000 in
theorem fact24 : (Tryz.prog.stopsHeard : Bool) = true := by kernel_rfl
set_option maxRecDepth 1000000 in
theorem fact25 : (Tryz.prog.mayEnter : Bool) = true := by kernel_rfl
set_option maxRecDepth 1000000 in
theorem fact26 : ((Rows.lsmNilRow.lifted == Tryz.prog.liftsFinal) : Bool) = true := by kernel_rfl
set_option maxRecDepth 1000000 in
theorem fact27 : ((Tryz.prog.make == some Rows.lsmNilRow.make) : Bool) = true := by kernel_rfl
set_option maxRecDepth 1000000 in
theorem fact28 : ((Rows.lsmNilRow.kinds == (if Rows.lsmNilRow.domain.isEmpty then [] else Tryz.f4.params.toList.map fun t => match Tryz.prog.underlying t with | some (.int k) => some k | _ => none)) : Bool) = true := by kernel_rfl
set_option maxRecDepth 1000000 in
theorem fact29 : ((Rows.lsmNilRow.pinned == Rows.lsmNilRow.pinnedBy) : Bool) = true := by kernel_rfl
set_option maxRecDepth 1000000 in
theorem fact30 : ((Rows.lsmNilRow.veiled == (Tryz.f4.params.toList ++ (OpenSpec.ofChange Rows.lsmNilSpec).bare.plain.varTypes Tryz.prog ++ Tryz.f4.resultTypes.toList).any (Tryz.prog.veiledRec ·)) : Bool) = true := by kernel_rfl
set_option maxRecDepth 1000000 in
theorem fact31 : (Rows.lsmNilRow.veiledFits Tryz.prog Tryz.f4.params.toList (Tryz.f4.params.toList ++ (OpenSpec.ofChange Rows.lsmNilSpec).bare.plain.varTypes Tryz.prog ++ Tryz.f4.resultTypes.toList) : Bool) = true := by kernel_rfl
end Go.Proofs.YtlhaonfohjcblaaGreatDoor.lsmNilLaw
