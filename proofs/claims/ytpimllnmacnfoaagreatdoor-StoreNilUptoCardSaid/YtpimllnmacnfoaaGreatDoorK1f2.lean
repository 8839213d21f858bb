/- Closed facts of a row. -/
import Derived.Test.YtpimllnmacnfoaaGreatDoorRows
import Derived.JoinedOf
import Derived.KernelRfl
namespace Go.Proofs.YtpimllnmacnfoaaGreatDoor.storeNilLaw
open Go
set_option maxRecDepth 1000000 in
theorem fact16 : ((Rows.storeNilUptoRow.loops == (Tryz.f3.params.toList ++ (Rows.OpenSpec.upto Rows.storeNilSpec).bare.plain.varTypes Tryz.prog).any (Tryz.prog.loopsFrom ·)) : Bool) = true := by kernel_rfl
set_option maxRecDepth 1000000 in
theorem fact17 : ((Rows.storeNilUptoRow.wideKeys == (Tryz.f3.params.toList ++ (Rows.OpenSpec.upto Rows.storeNilSpec).bare.plain.varTypes Tryz.prog ++ Tryz.f3.resultTypes.toList).any (Tryz.prog.wideKeysFrom ·)) : Bool) = true := by kernel_rfl
set_option maxRecDepth 1000000 in
theorem fact18 : ((Rows.OpenSpec.upto Rows.storeNilSpec).bare.vars.all (Tryz.prog.varReadable ·) : Bool) = true := by kernel_rfl
set_option maxRecDepth 1000000 in
theorem fact19 : (Tryz.f3.resultTypes.all (fun t => Tryz.prog.readableRec t && decide (t < Tryz.prog.types.size)) : Bool) = true := by kernel_rfl
set_option maxRecDepth 1000000 in
theorem fact20 : ((Rows.storeNilUptoRow.ifacesOut == Tryz.f3.resultTypes.toList.any (Tryz.prog.ifacesRec ·)) : Bool) = true := by kernel_rfl
set_option maxRecDepth 1000000 in
theorem fact21 : ((Rows.storeNilUptoRow.loopsOut == Tryz.f3.resultTypes.toList.any (Tryz.prog.loopsFrom ·)) : Bool) = true := by kernel_rfl
set_option maxRecDepth 1000000 in
theorem fact22 : ((Rows.storeNilUptoRow.plainKeys == Tryz.prog.plainKeys) : Bool) = true := by kernel_rfl
set_option maxRecDepth 1000000 in
theorem fact23 : (Rows.storeNilUptoRow.shortTexts.isNone : Bool) = true := by kernel_rfl
end Go.Proofs.YtpimllnmacnfoaaGreatDoor.storeNilLaw
