/- Closed facts of a row. -/
import Derived.Test.YtbdkhhakcpediaaGreatDoorRows
import Derived.JoinedOf
import Derived.KernelRfl
namespace Go.Proofs.YtbdkhhakcpediaaGreatDoor.verdictNamesLaw
open Go
set_option maxRecDepth 1000000 in
theorem fact0 : (fun (P : Program) (f : FuncId) (fn : Func) (s : ChangeSpec) (c : OpenClaim) => (c.wf (OpenSpec.ofChange s) : Bool)) Tryz.prog 3 Tryz.f3 (OpenSpec.ofChange Rows.verdictNamesSpec).bare Rows.verdictNamesRow = true := by kernel_rfl
set_option maxRecDepth 1000000 in
theorem fact1 : (fun (P : Program) (f : FuncId) (fn : Func) (s : ChangeSpec) (c : OpenClaim) => (laidOutB P : Bool)) Tryz.prog 3 Tryz.f3 (OpenSpec.ofChange Rows.verdictNamesSpec).bare Rows.verdictNamesRow = true := by kernel_rfl
set_option maxRecDepth 1000000 in
theorem fact2 : (fun (P : Program) (f : FuncId) (fn : Func) (s : ChangeSpec) (c : OpenClaim) => (mapsRowed P : Bool)) Tryz.prog 3 Tryz.f3 (OpenSpec.ofChange Rows.verdictNamesSpec).bare Rows.verdictNamesRow = true := by kernel_rfl
set_option maxRecDepth 1000000 in
theorem fact3 : (fun (P : Program) (f : FuncId) (fn : Func) (s : ChangeSpec) (c : OpenClaim) => (fn.params.all (P.readableRec ·) : Bool)) Tryz.prog 3 Tryz.f3 (OpenSpec.ofChange Rows.verdictNamesSpec).bare Rows.verdictNamesRow = true := by kernel_rfl
set_option maxRecDepth 1000000 in
theorem fact4 : (fun (P : Program) (f : FuncId) (fn : Func) (s : ChangeSpec) (c : OpenClaim) => (namedTie P c.named s.vars : Bool)) Tryz.prog 3 Tryz.f3 (OpenSpec.ofChange Rows.verdictNamesSpec).bare Rows.verdictNamesRow = true := by kernel_rfl
set_option maxRecDepth 1000000 in
theorem fact5 : (fun (P : Program) (f : FuncId) (fn : Func) (s : ChangeSpec) (c : OpenClaim) => ((c.stops == []) : Bool)) Tryz.prog 3 Tryz.f3 (OpenSpec.ofChange Rows.verdictNamesSpec).bare Rows.verdictNamesRow = true := by kernel_rfl
set_option maxRecDepth 1000000 in
theorem fact6 : (fun (P : Program) (f : FuncId) (fn : Func) (s : ChangeSpec) (c : OpenClaim) => ((P.stops == []) : Bool)) Tryz.prog 3 Tryz.f3 (OpenSpec.ofChange Rows.verdictNamesSpec).bare Rows.verdictNamesRow = true := by kernel_rfl
set_option maxRecDepth 1000000 in
theorem fact7 : (fun (P : Program) (f : FuncId) (fn : Func) (s : ChangeSpec) (c : OpenClaim) => ((c.knobs == []) : Bool)) Tryz.prog 3 Tryz.f3 (OpenSpec.ofChange Rows.verdictNamesSpec).bare Rows.verdictNamesRow = true := by kernel_rfl
end Go.Proofs.YtbdkhhakcpediaaGreatDoor.verdictNamesLaw
