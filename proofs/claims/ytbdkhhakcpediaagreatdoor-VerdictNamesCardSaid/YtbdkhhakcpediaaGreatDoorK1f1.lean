/- Closed facts of a row. -/
import Derived.Test.YtbdkhhakcpediaaGreatDoorRows
import Derived.JoinedOf
import Derived.KernelRfl
namespace Go.Proofs.YtbdkhhakcpediaaGreatDoor.verdictNamesLaw
open Go
set_option maxRecDepth 1000000 in
theorem fact8 : (fun (P : Program) (f : FuncId) (fn : Func) (s : ChangeSpec) (c : OpenClaim) => ((P.stopKnobs == []) : Bool)) Tryz.prog 3 Tryz.f3 (OpenSpec.ofChange Rows.verdictNamesSpec).bare Rows.verdictNamesRow = true := by kernel_rfl
set_option maxRecDepth 1000000 in
theorem fact9 : (fun (P : Program) (f : FuncId) (fn : Func) (s : ChangeSpec) (c : OpenClaim) => ((c.inPlace == P.inPlace f) : Bool)) Tryz.prog 3 Tryz.f3 (OpenSpec.ofChange Rows.verdictNamesSpec).bare Rows.verdictNamesRow = true := by kernel_rfl
set_option maxRecDepth 1000000 in
theorem fact10 : (fun (P : Program) (f : FuncId) (fn : Func) (s : ChangeSpec) (c : OpenClaim) => ((c.unfollowed == P.unfollowed f) : Bool)) Tryz.prog 3 Tryz.f3 (OpenSpec.ofChange Rows.verdictNamesSpec).bare Rows.verdictNamesRow = true := by kernel_rfl
set_option maxRecDepth 1000000 in
theorem fact11 : (fun (P : Program) (f : FuncId) (fn : Func) (s : ChangeSpec) (c : OpenClaim) => ((c.recurses == P.recurses f) : Bool)) Tryz.prog 3 Tryz.f3 (OpenSpec.ofChange Rows.verdictNamesSpec).bare Rows.verdictNamesRow = true := by kernel_rfl
set_option maxRecDepth 1000000 in
theorem fact12 : (fun (P : Program) (f : FuncId) (fn : Func) (s : ChangeSpec) (c : OpenClaim) => ((c.named == P.varsNamed f) : Bool)) Tryz.prog 3 Tryz.f3 (OpenSpec.ofChange Rows.verdictNamesSpec).bare Rows.verdictNamesRow = true := by kernel_rfl
set_option maxRecDepth 1000000 in
theorem fact13 : (fun (P : Program) (f : FuncId) (fn : Func) (s : ChangeSpec) (c : OpenClaim) => ((c.maps == (fn.params.toList ++ s.plain.varTypes P).any (P.mapsRec ·)) : Bool)) Tryz.prog 3 Tryz.f3 (OpenSpec.ofChange Rows.verdictNamesSpec).bare Rows.verdictNamesRow = true := by kernel_rfl
set_option maxRecDepth 1000000 in
theorem fact14 : (fun (P : Program) (f : FuncId) (fn : Func) (s : ChangeSpec) (c : OpenClaim) => ((c.ifaces == (fn.params.toList ++ s.plain.varTypes P).any (P.ifacesRec ·)) : Bool)) Tryz.prog 3 Tryz.f3 (OpenSpec.ofChange Rows.verdictNamesSpec).bare Rows.verdictNamesRow = true := by kernel_rfl
set_option maxRecDepth 1000000 in
theorem fact15 : (fun (P : Program) (f : FuncId) (fn : Func) (s : ChangeSpec) (c : OpenClaim) => ((c.mapsOut == P.mapsAmong fn.resultTypes.toList) : Bool)) Tryz.prog 3 Tryz.f3 (OpenSpec.ofChange Rows.verdictNamesSpec).bare Rows.verdictNamesRow = true := by kernel_rfl
end Go.Proofs.YtbdkhhakcpediaaGreatDoor.verdictNamesLaw
