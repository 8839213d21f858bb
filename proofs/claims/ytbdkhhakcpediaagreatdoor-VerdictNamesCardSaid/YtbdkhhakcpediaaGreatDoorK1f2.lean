/- Closed facts of a row. -/
import Derived.Test.YtbdkhhakcpediaaGreatDoorRows
import Derived.JoinedOf
import Derived.KernelRfl
namespace Go.Proofs.YtbdkhhakcpediaaGreatDoor.verdictNamesLaw
open Go
set_option maxRecDepth 1000000 in
theorem fact16 : (fun (P : Program) (f : FuncId) (fn : Func) (s : ChangeSpec) (c : OpenClaim) => ((c.loops == (fn.params.toList ++ s.plain.varTypes P).any (P.loopsFrom ·)) : Bool)) Tryz.prog 3 Tryz.f3 (OpenSpec.ofChange Rows.verdictNamesSpec).bare Rows.verdictNamesRow = true := by kernel_rfl
set_option maxRecDepth 1000000 in
theorem fact17 : (fun (P : Program) (f : FuncId) (fn : Func) (s : ChangeSpec) (c : OpenClaim) => ((c.wideKeys == (fn.params.toList ++ s.plain.varTypes P ++ fn.resultTypes.toList).any (P.wideKeysFrom ·)) : Bool)) Tryz.prog 3 Tryz.f3 (OpenSpec.ofChange Rows.verdictNamesSpec).bare Rows.verdictNamesRow = true := by kernel_rfl
set_option maxRecDepth 1000000 in
theorem fact18 : (fun (P : Program) (f : FuncId) (fn : Func) (s : ChangeSpec) (c : OpenClaim) => (s.vars.all (P.varReadable ·) : Bool)) Tryz.prog 3 Tryz.f3 (OpenSpec.ofChange Rows.verdictNamesSpec).bare Rows.verdictNamesRow = true := by kernel_rfl
set_option maxRecDepth 1000000 in
theorem fact19 : (fun (P : Program) (f : FuncId) (fn : Func) (s : ChangeSpec) (c : OpenClaim) => (fn.resultTypes.all (fun t => P.readableRec t && decide (t < P.types.size)) : Bool)) Tryz.prog 3 Tryz.f3 (OpenSpec.ofChange Rows.verdictNamesSpec).bare Rows.verdictNamesRow = true := by kernel_rfl
set_option maxRecDepth 1000000 in
theorem fact20 : (fun (P : Program) (f : FuncId) (fn : Func) (s : ChangeSpec) (c : OpenClaim) => ((c.ifacesOut == fn.resultTypes.toList.any (P.ifacesRec ·)) : Bool)) Tryz.prog 3 Tryz.f3 (OpenSpec.ofChange Rows.verdictNamesSpec).bare Rows.verdictNamesRow = true := by kernel_rfl
set_option maxRecDepth 1000000 in
theorem fact21 : (fun (P : Program) (f : FuncId) (fn : Func) (s : ChangeSpec) (c : OpenClaim) => ((c.loopsOut == fn.resultTypes.toList.any (P.loopsFrom ·)) : Bool)) Tryz.prog 3 Tryz.f3 (OpenSpec.ofChange Rows.verdictNamesSpec).bare Rows.verdictNamesRow = true := by kernel_rfl
set_option maxRecDepth 1000000 in
theorem fact22 : (fun (P : Program) (f : FuncId) (fn : Func) (s : ChangeSpec) (c : OpenClaim) => ((c.plainKeys == P.plainKeys) : Bool)) Tryz.prog 3 Tryz.f3 (OpenSpec.ofChange Rows.verdictNamesSpec).bare Rows.verdictNamesRow = true := by kernel_rfl
set_option maxRecDepth 1000000 in
theorem fact23 : (fun (P : Program) (f : FuncId) (fn : Func) (s : ChangeSpec) (c : OpenClaim) => (c.shortTexts.isNone : Bool)) Tryz.prog 3 Tryz.f3 (OpenSpec.ofChange Rows.verdictNamesSpec).bare Rows.verdictNamesRow = true := by kernel_rfl
end Go.Proofs.YtbdkhhakcpediaaGreatDoor.verdictNamesLaw
