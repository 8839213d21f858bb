/- Closed facts of a row. -/
import Derived.Test.YtiacpfiggfbjpaaGreatDoorRows
import Derived.JoinedOf
import Derived.KernelRfl
namespace Go.Proofs.YtiacpfiggfbjpaaGreatDoor.storeNamesLaw
open Go
set_option maxRecDepth 1000000 in
theorem fact24 : (Tryz.prog.stopsHeard : Bool) = true := by kernel_rfl
set_option maxRecDepth 1000000 in
theorem fact25 : (Tryz.prog.mayEnter : Bool) = true := by kernel_rfl
set_option maxRecDepth 1000000 in
theorem fact26 : ((Rows.storeNamesRow.lifted == Tryz.prog.liftsFinal) : Bool) = true := by kernel_rfl
set_option maxRecDepth 1000000 in
theorem fact27 : ((Tryz.prog.make == some Rows.storeNamesRow.make) : Bool) = true := by kernel_rfl
set_option maxRecDepth 1000000 in
theorem fact28 : ((Rows.storeNamesRow.kinds == (if Rows.storeNamesRow.domain.isEmpty then [] else Tryz.f3.params.toList.map fun t => match Tryz.prog.underlying t with | some (.int k) => some k | _ => none)) : Bool) = true := by kernel_rfl
set_option maxRecDepth 1000000 in
theorem fact29 : ((Rows.storeNamesRow.pinned == Rows.storeNamesRow.pinnedBy) : Bool) = true := by kernel_rfl
set_option maxRecDepth 1000000 in
theorem fact30 : ((Rows.storeNamesRow.veiled == (Tryz.f3.params.toList ++ (OpenSpec.ofChange Rows.storeNamesSpec).bare.plain.varTypes Tryz.prog ++ Tryz.f3.resultTypes.toList).any (Tryz.prog.veiledRec ·)) : Bool) = true := by kernel_rfl
set_option maxRecDepth 1000000 in
theorem fact31 : (Rows.storeNamesRow.veiledFits Tryz.prog Tryz.f3.params.toList (Tryz.f3.params.toList ++ (OpenSpec.ofChange Rows.storeNamesSpec).bare.plain.varTypes Tryz.prog ++ Tryz.f3.resultTypes.toList) : Bool) = true := by kernel_rfl
end Go.Proofs.YtiacpfiggfbjpaaGreatDoor.storeNamesLaw
