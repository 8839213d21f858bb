/- Closed facts of a row. -/
import Derived.Test.YtkddfiabighjiaaGreatDoorRows
import Derived.JoinedOf
import Derived.KernelRfl
namespace Go.Proofs.YtkddfiabighjiaaGreatDoor.queryNamesLaw
open Go
set_option maxRecDepth 1000000 in
theorem fact8 : ((Tryz.prog.stopKnobs == []) : Bool) = true := by kernel_rfl
set_option maxRecDepth 1000000 in
theorem fact9 : ((Rows.queryNamesRow.inPlace == Tryz.prog.inPlace 3) : Bool) = true := by kernel_rfl
set_option maxRecDepth 1000000 in
theorem fact10 : ((Rows.queryNamesRow.unfollowed == Tryz.prog.unfollowed 3) : Bool) = true := by kernel_rfl
set_option maxRecDepth 1000000 in
theorem fact11 : ((Rows.queryNamesRow.recurses == Tryz.prog.recurses 3) : Bool) = true := by kernel_rfl
set_option maxRecDepth 1000000 in
theorem fact12 : ((Rows.queryNamesRow.named == Tryz.prog.varsNamed 3) : Bool) = true := by kernel_rfl
set_option maxRecDepth 1000000 in
theorem fact13 : ((Rows.queryNamesRow.maps == (Tryz.f3.params.toList ++ (OpenSpec.ofChange Rows.queryNamesSpec).bare.plain.varTypes Tryz.prog).any (Tryz.prog.mapsRec ·)) : Bool) = true := by kernel_rfl
set_option maxRecDepth 1000000 in
theorem fact14 : ((Rows.queryNamesRow.ifaces == (Tryz.f3.params.toList ++ (OpenSpec.ofChange Rows.queryNamesSpec).bare.plain.varTypes Tryz.prog).any (Tryz.prog.ifacesRec ·)) : Bool) = true := by kernel_rfl
set_option maxRecDepth 1000000 in
theorem fact15 : ((Rows.queryNamesRow.mapsOut == Tryz.prog.mapsAmong Tryz.f3.resultTypes.toList) : Bool) = true := by kernel_rfl
end Go.Proofs.YtkddfiabighjiaaGreatDoor.queryNamesLaw
