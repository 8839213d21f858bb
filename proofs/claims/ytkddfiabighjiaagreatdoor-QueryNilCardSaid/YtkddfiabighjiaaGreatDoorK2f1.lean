/- Closed facts of a row. -/
import Derived.Test.YtkddfiabighjiaaGreatDoorRows
import Derived.JoinedOf
import Derived.KernelRfl
namespace Go.Proofs.YtkddfiabighjiaaGreatDoor.queryNilLaw
open Go
set_option maxRecDepth 1000000 in
theorem fact8 : ((Tryz.prog.stopKnobs == []) : Bool) = true := by kernel_rfl
set_option maxRecDepth 1000000 in
theorem fact9 : ((Rows.queryNilRow.inPlace == Tryz.prog.inPlace 4) : Bool) = true := by kernel_rfl
set_option maxRecDepth 1000000 in
theorem fact10 : ((Rows.queryNilRow.unfollowed == Tryz.prog.unfollowed 4) : Bool) = true := by kernel_rfl
set_option maxRecDepth 1000000 in
theorem fact11 : ((Rows.queryNilRow.recurses == Tryz.prog.recurses 4) : Bool) = true := by kernel_rfl
set_option maxRecDepth 1000000 in
theorem fact12 : ((Rows.queryNilRow.named == Tryz.prog.varsNamed 4) : Bool) = true := by kernel_rfl
set_option maxRecDepth 1000000 in
theorem fact13 : ((Rows.queryNilRow.maps == (Tryz.f4.params.toList ++ (OpenSpec.ofChange Rows.queryNilSpec).bare.plain.varTypes Tryz.prog).any (Tryz.prog.mapsRec ·)) : Bool) = true := by kernel_rfl
set_option maxRecDepth 1000000 in
theorem fact14 : ((Rows.queryNilRow.ifaces == (Tryz.f4.params.toList ++ (OpenSpec.ofChange Rows.queryNilSpec).bare.plain.varTypes Tryz.prog).any (Tryz.prog.ifacesRec ·)) : Bool) = true := by kernel_rfl
set_option maxRecDepth 1000000 in
theorem fact15 : ((Rows.queryNilRow.mapsOut == Tryz.prog.mapsAmong Tryz.f4.resultTypes.toList) : Bool) = true := by kernel_rfl
end Go.Proofs.YtkddfiabighjiaaGreatDoor.queryNilLaw
