/- Closed facts of a row. -/
import Derived.Test.YtkddfiabighjiaaGreatDoorRows
import Derived.JoinedOf
import Derived.KernelRfl
namespace Go.Proofs.YtkddfiabighjiaaGreatDoor.queryNilLaw
open Go
set_option maxRecDepth 1000000 in
theorem fact24 : (Tryz.prog.stopsHeard : Bool) = true := by kernel_rfl
set_option maxRecDepth 1000000 in
theorem fact25 : (Tryz.prog.mayEnter : Bool) = true := by kernel_rfl
set_option maxRecDepth 1000000 in
theorem fact26 : ((Rows.queryNilRow.lifted == Tryz.prog.liftsFinal) : Bool) = true := by kernel_rfl
set_option maxRecDepth 1000000 in
theorem fact27 : ((Tryz.prog.make == some Rows.queryNilRow.make) : Bool) = true := by kernel_rfl
set_option maxRecDepth 1000000 in
theorem fact28 : ((Rows.queryNilRow.kinds == (if Rows.queryNilRow.domain.isEmpty then [] else Tryz.f4.params.toList.map fun t => match Tryz.prog.underlying t with | some (.int k) => some k | _ => none)) : Bool) = true := by kernel_rfl
set_option maxRecDepth 1000000 in
theorem fact29 : ((Rows.queryNilRow.pinned == Rows.queryNilRow.pinnedBy) : Bool) = true := by kernel_rfl
set_option maxRecDepth 1000000 in
theorem fact30 : ((Rows.queryNilRow.veiled == (Tryz.f4.params.toList ++ (OpenSpec.ofChange Rows.queryNilSpec).bare.plain.varTypes Tryz.prog ++ Tryz.f4.resultTypes.toList).any (Tryz.prog.veiledRec ·)) : Bool) = true := by kernel_rfl
set_option maxRecDepth 1000000 in
theorem fact31 : (Rows.queryNilRow.veiledFits Tryz.prog Tryz.f4.params.toList (Tryz.f4.params.toList ++ (OpenSpec.ofChange Rows.queryNilSpec).bare.plain.varTypes Tryz.prog ++ Tryz.f4.resultTypes.toList) : Bool) = true := by kernel_rfl
end Go.Proofs.YtkddfiabighjiaaGreatDoor.queryNilLaw
