/- Closed facts of a row. -/
import Derived.Test.YtlhaonfohjcblaaGreatDoorRows
import Derived.JoinedOf
import Derived.KernelRfl
namespace Go.Proofs.YtlhaonfohjcblaaGreatDoor.lsmNamesLaw
open Go
set_option maxRecDepth 1000000 in
theorem fact8 : ((Tryz.prog.stopKnobs == []) : Bool) = true := by kernel_rfl
set_option maxRecDepth 1000000 in
theorem fact9 : ((Rows.lsmNamesRow.inPlace == Tryz.prog.inPlace 3) : Bool) = true := by kernel_rfl
set_option maxRecDepth 1000000 in
theorem fact10 : ((Rows.lsmNamesRow.unfollowed == Tryz.prog.unfollowed 3) : Bool) = true := by kernel_rfl
set_option maxRecDepth 1000000 in
theorem fact11 : ((Rows.lsmNamesRow.recurses == Tryz.prog.recurses 3) : Bool) = true := by kernel_rfl
set_option maxRecDepth 1000000 in
theorem fact12 : ((Rows.lsmNamesRow.named == Tryz.prog.varsNamed 3) : Bool) = true := by kernel_rfl
set_option maxRecDepth 1000000 in
theorem fact13 : ((Rows.lsmNamesRow.maps == (Tryz.f3.params.toList ++ (OpenSpec.ofChange Rows.lsmNamesSpec).bare.plain.varTypes Tryz.prog).any (Tryz.prog.mapsRec ·)) : Bool) = true := by kernel_rfl
set_option maxRecDepth 1000000 in
theorem fact14 : ((Rows.lsmNamesRow.ifaces == (Tryz.f3.params.toList ++ (OpenSpec.ofChange Rows.lsmNamesSpec).bare.plain.varTypes Tryz.prog).any (Tryz.prog.ifacesRec ·)) : Bool) = true := by kernel_rfl
set_option maxRecDepth 1000000 in
theorem fact15 : ((Rows.lsmNamesRow.mapsOut == Tryz.prog.mapsAmong Tryz.f3.resultTypes.toList) : Bool) = true := by kernel_rfl
end Go.Proofs.YtlhaonfohjcblaaGreatDoor.lsmNamesLaw
