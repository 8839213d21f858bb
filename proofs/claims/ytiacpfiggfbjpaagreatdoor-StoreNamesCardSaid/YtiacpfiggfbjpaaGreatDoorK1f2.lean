/- Closed facts of a row. -/
import Derived.Test.YtiacpfiggfbjpaaGreatDoorRows
import Derived.JoinedOf
import Derived.KernelRfl
namespace Go.Proofs.YtiacpfiggfbjpaaGreatDoor.storeNamesLaw
open Go
set_option maxRecDepth 1000000 in
theorem fact16 : ((Rows.storeNamesRow.loops == (Tryz.f3.params.toList ++ (OpenSpec.ofChange Rows.storeNamesSpec).bare.plain.varTypes Tryz.prog).any (Tryz.prog.loopsFrom ·)) : Bool) = true := by kernel_rfl
set_option maxRecDepth 1000000 in
theorem fact17 : ((Rows.storeNamesRow.wideKeys == (Tryz.f3.params.toList ++ (OpenSpec.ofChange Rows.storeNamesSpec).bare.plain.varTypes Tryz.prog ++ Tryz.f3.resultTypes.toList).any (Tryz.prog.wideKeysFrom ·)) : Bool) = true := by kernel_rfl
set_option maxRecDepth 1000000 in
theorem fact18 : ((OpenSpec.ofChange Rows.storeNamesSpec).bare.vars.all (Tryz.prog.varReadable ·) : Bool) = true := by kernel_rfl
set_option maxRecDepth 1000000 in
theorem fact19 : (Tryz.f3.resultTypes.all (fun t => Tryz.prog.readableRec t && decide (t < Tryz.prog.types.size)) : Bool) = true := by kernel_rfl
set_option maxRecDepth 1000000 in
theorem fact20 : ((Rows.storeNamesRow.ifacesOut == Tryz.f3.resultTypes.toList.any (Tryz.prog.ifacesRec ·)) : Bool) = true := by kernel_rfl
set_option maxRecDepth 1000000 in
theorem fact21 : ((Rows.storeNamesRow.loopsOut == Tryz.f3.resultTypes.toList.any (Tryz.prog.loopsFrom ·)) : Bool) = true := by kernel_rfl
set_option maxRecDepth 1000000 in
theorem fact22 : ((Rows.storeNamesRow.plainKeys == Tryz.prog.plainKeys) : Bool) = true := by kernel_rfl
set_option maxRecDepth 1000000 in
theorem fact23 : (Rows.storeNamesRow.shortTexts.isNone : Bool) = true := by kernel_rfl
end Go.Proofs.YtiacpfiggfbjpaaGreatDoor.storeNamesLaw
