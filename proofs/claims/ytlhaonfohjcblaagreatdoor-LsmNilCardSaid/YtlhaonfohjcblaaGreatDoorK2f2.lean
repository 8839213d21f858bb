/- Closed facts of a row. -/
import Derived.Test.YtlhaonfohjcblaaGreatDoorRows
import Derived.JoinedOf
import Derived.KernelRfl
namespace Go.Proofs.YtlhaonfohjcblaaGreatDoor.lsmNilLaw
open Go
set_option maxRecDepth 1000000 in
theorem fact16 : ((Rows.lsmNilRow.loops == (Tryz.f4.params.toList ++ (OpenSpec.ofChange Rows.lsmNilSpec).bare.plain.varTypes Tryz.prog).any (Tryz.prog.loopsFrom ·)) : Bool) = true := by kernel_rfl
set_option maxRecDepth 1000000 in
theorem fact17 : ((Rows.lsmNilRow.wideKeys == (Tryz.f4.params.toList ++ (OpenSpec.ofChange Rows.lsmNilSpec).bare.plain.varTypes Tryz.prog ++ Tryz.f4.resultTypes.toList).any (Tryz.prog.wideKeysFrom ·)) : Bool) = true := by kernel_rfl
set_option maxRecDepth 1000000 in
theorem fact18 : ((OpenSpec.ofChange Rows.lsmNilSpec).bare.vars.all (Tryz.prog.varReadable ·) : Bool) = true := by kernel_rfl
set_option maxRecDepth 1000000 in
theorem fact19 : (Tryz.f4.resultTypes.all (fun t => Tryz.prog.readableRec t && decide (t < Tryz.prog.types.size)) : Bool) = true := by kernel_rfl
set_option maxRecDepth 1000000 in
theorem fact20 : ((Rows.lsmNilRow.ifacesOut == Tryz.f4.resultTypes.toList.any (Tryz.prog.ifacesRec ·)) : Bool) = true := by kernel_rfl
set_option maxRecDepth 1000000 in
theorem fact21 : ((Rows.lsmNilRow.loopsOut == Tryz.f4.resultTypes.toList.any (Tryz.prog.loopsFrom ·)) : Bool) = true := by kernel_rfl
set_option maxRecDepth 1000000 in
theorem fact22 : ((Rows.lsmNilRow.plainKeys == Tryz.prog.plainKeys) : Bool) = true := by kernel_rfl
set_option maxRecDepth 1000000 in
theorem fact23 : (Rows.lsmNilRow.shortTexts.isNone : Bool) = true := by kernel_rfl
end Go.Proofs.YtlhaonfohjcblaaGreatDoor.lsmNilLaw
