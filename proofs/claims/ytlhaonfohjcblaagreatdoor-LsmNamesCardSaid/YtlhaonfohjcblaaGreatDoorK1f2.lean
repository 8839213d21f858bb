/- Closed facts of a row. -/
import Derived.Test.YtlhaonfohjcblaaGreatDoorRows
import Derived.JoinedOf
import Derived.KernelRfl
namespace Go.Proofs.YtlhaonfohjcblaaGreatDoor.lsmNamesLaw
open Go
set_option maxRecDepth 1000000 in
theorem fact16 : ((Rows.lsmNamesRow.loops == (Tryz.f3.params.toList ++ (OpenSpec.ofChange Rows.lsmNamesSpec).bare.plain.varTypes Tryz.prog).any (Tryz.prog.loopsFrom ·)) : Bool) = true := by kernel_rfl
set_option maxRecDepth 1000000 in
theorem fact17 : ((Rows.lsmNamesRow.wideKeys == (Tryz.f3.params.toList ++ (OpenSpec.ofChange Rows.lsmNamesSpec).bare.plain.varTypes Tryz.prog ++ Tryz.f3.resultTypes.toList).any (Tryz.prog.wideKeysFrom ·)) : Bool) = true := by kernel_rfl
set_option maxRecDepth 1000000 in
theorem fact18 : ((OpenSpec.ofChange Rows.lsmNamesSpec).bare.vars.all (Tryz.prog.varReadable ·) : Bool) = true := by kernel_rfl
set_option maxRecDepth 1000000 in
theorem fact19 : (Tryz.f3.resultTypes.all (fun t => Tryz.prog.readableRec t && decide (t < Tryz.prog.types.size)) : Bool) = true := by kernel_rfl
set_option maxRecDepth 1000000 in
theorem fact20 : ((Rows.lsmNamesRow.ifacesOut == Tryz.f3.resultTypes.toList.any (Tryz.prog.ifacesRec ·)) : Bool) = true := by kernel_rfl
set_option maxRecDepth 1000000 in
theorem fact21 : ((Rows.lsmNamesRow.loopsOut == Tryz.f3.resultTypes.toList.any (Tryz.prog.loopsFrom ·)) : Bool) = true := by kernel_rfl
set_option maxRecDepth 1000000 in
theorem fact22 : ((Rows.lsmNamesRow.plainKeys == Tryz.prog.plainKeys) : Bool) = true := by kernel_rfl
set_option maxRecDepth 1000000 in
theorem fact23 : (Rows.lsmNamesRow.shortTexts.isNone : Bool) = true := by kernel_rfl
end Go.Proofs.YtlhaonfohjcblaaGreatDoor.lsmNamesLaw
