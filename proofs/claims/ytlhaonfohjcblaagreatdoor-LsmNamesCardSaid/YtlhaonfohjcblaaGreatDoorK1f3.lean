/- Closed facts of a row. -/
import Derived.Test.YtlhaonfohjcblaaGreatDoorRows
import Derived.JoinedOf
import Derived.KernelRfl
namespace Go.Proofs.YtlhaonfohjcblaaGreatDoor.lsmNamesLaw
open Go
set_option maxRecDepth 1000000 in
theorem fact24 : (Tryz.prog.stopsHeard : Bool) = true := by kernel_rfl
set_option maxRecDepth 1000000 in
theorem fact25 : (Tryz.prog.mayEnter : Bool) = true := by kernel_rfl
set_option maxRecDepth 1000000 in
theorem fact26 : ((Rows.lsmNamesRow.lifted == Tryz.prog.liftsFinal) : Bool) = true := by kernel_rfl
set_option maxRecDepth 1000000 in
theorem fact27 : ((Tryz.prog.make == some Rows.lsmNamesRow.make) : Bool) = true := by kernel_rfl
set_option maxRecDepth 1000000 in
theorem fact28 : ((Rows.lsmNamesRow.kinds == (if Rows.lsmNamesRow.domain.isEmpty then [] else Tryz.f3.params.toList.map fun t => match Tryz.prog.underlying t with | some (.int k) => some k | _ => none)) : Bool) = true := by kernel_rfl
set_option maxRecDepth 1000000 in
theorem fact29 : ((Rows.lsmNamesRow.pinned == Rows.lsmNamesRow.pinnedBy) : Bool) = true := by kernel_rfl
set_option maxRecDepth 1000000 in
theorem fact30 : ((Rows.lsmNamesRow.veiled == (Tryz.f3.params.toList ++ (OpenSpec.ofChange Rows.lsmNamesSpec).bare.plain.varTypes Tryz.prog ++ Tryz.f3.resultTypes.toList).any (Tryz.prog.veiledRec ·)) : Bool) = true := by kernel_rfl
set_option maxRecDepth 1000000 in
theorem fact31 : (Rows.lsmNamesRow.veiledFits Tryz.prog Tryz.f3.params.toList (Tryz.f3.params.toList ++ (OpenSpec.ofChange Rows.lsmNamesSpec).bare.plain.varTypes Tryz.prog ++ Tryz.f3.resultTypes.toList) : Bool) = true := by kernel_rfl
end Go.Proofs.YtlhaonfohjcblaaGreatDoor.lsmNamesLaw
