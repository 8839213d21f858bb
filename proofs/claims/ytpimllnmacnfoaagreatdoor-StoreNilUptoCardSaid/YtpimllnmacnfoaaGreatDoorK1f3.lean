/- Closed facts of a row. -/
import Derived.Test.YtpimllnmacnfoaaGreatDoorRows
import Derived.JoinedOf
import Derived.KernelRfl
namespace Go.Proofs.YtpimllnmacnfoaaGreatDoor.storeNilLaw
open Go
set_option maxRecDepth 1000000 in
theorem fact24 : (Tryz.prog.stopsHeard : Bool) = true := by kernel_rfl
set_option maxRecDepth 1000000 in
theorem fact25 : (Tryz.prog.mayEnter : Bool) = true := by kernel_rfl
set_option maxRecDepth 1000000 in
theorem fact26 : ((Rows.storeNilUptoRow.lifted == Tryz.prog.liftsFinal) : Bool) = true := by kernel_rfl
set_option maxRecDepth 1000000 in
theorem fact27 : ((Tryz.prog.make == some Rows.storeNilUptoRow.make) : Bool) = true := by kernel_rfl
set_option maxRecDepth 1000000 in
theorem fact28 : ((Rows.storeNilUptoRow.kinds == (if Rows.storeNilUptoRow.domain.isEmpty then [] else Tryz.f3.params.toList.map fun t => match Tryz.prog.underlying t with | some (.int k) => some k | _ => none)) : Bool) = true := by kernel_rfl
set_option maxRecDepth 1000000 in
theorem fact29 : ((Rows.storeNilUptoRow.pinned == Rows.storeNilUptoRow.pinnedBy) : Bool) = true := by kernel_rfl
set_option maxRecDepth 1000000 in
theorem fact30 : ((Rows.storeNilUptoRow.veiled == (Tryz.f3.params.toList ++ (Rows.OpenSpec.upto Rows.storeNilSpec).bare.plain.varTypes Tryz.prog ++ Tryz.f3.resultTypes.toList).any (Tryz.prog.veiledRec ·)) : Bool) = true := by kernel_rfl
set_option maxRecDepth 1000000 in
theorem fact31 : (Rows.storeNilUptoRow.veiledFits Tryz.prog Tryz.f3.params.toList (Tryz.f3.params.toList ++ (Rows.OpenSpec.upto Rows.storeNilSpec).bare.plain.varTypes Tryz.prog ++ Tryz.f3.resultTypes.toList) : Bool) = true := by kernel_rfl
end Go.Proofs.YtpimllnmacnfoaaGreatDoor.storeNilLaw
