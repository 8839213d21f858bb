/- Closed facts of a row. -/
import Derived.Test.YtlhaonfohjcblaaGreatDoorRows
import Derived.JoinedOf
import Derived.KernelRfl
namespace Go.Proofs.YtlhaonfohjcblaaGreatDoor.lsmNilLaw
open Go
set_option maxRecDepth 1000000 in
theorem fact8 : ((Tryz.prog.stopKnobs == []) : Bool) = true := by kernel_rfl
set_option maxRecDepth 1000000 in
theorem fact9 : ((Rows.lsmNilRow.inPlace == Tryz.prog.inPlace 4) : Bool) = true := by kernel_rfl
set_option maxRecDepth 1000000 in
theorem fact10 : ((Rows.lsmNilRow.unfollowed == Tryz.prog.unfollowed 4) : Bool) = true := by kernel_rfl
set_option maxRecDepth 1000000 in
theorem fact11 : ((Rows.lsmNilRow.recurses == Tryz.prog.recurses 4) : Bool) = true := by kernel_rfl
set_option maxRecDepth 1000000 in
theorem fact12 : ((Rows.lsmNilRow.named == Tryz.prog.varsNamed 4) : Bool) = true := by kernel_rfl
set_option maxRecDepth 1000000 in
theorem fact13 : ((Rows.lsmNilRow.maps == (Tryz.f4.params.toList ++ (OpenSpec.ofChange Rows.lsmNilSpec).bare.plain.varTypes Tryz.prog).any (Tryz.prog.mapsRec ·)) : Bool) = true := by kernel_rfl
set_option maxRecDepth 1000000 in
theorem fact14 : ((Rows.lsmNilRow.ifaces == (Tryz.f4.params.toList ++ (OpenSpec.ofChange Rows.lsmNilSpec).bare.plain.varTypes Tryz.prog).any (Tryz.prog.ifacesRec ·)) : Bool) = true := by kernel_rfl
set_option maxRecDepth 1000000 in
theorem fact15 : ((Rows.lsmNilRow.mapsOut == Tryz.prog.mapsAmong Tryz.f4.resultTypes.toList) : Bool) = true := by kernel_rfl
end Go.Proofs.YtlhaonfohjcblaaGreatDoor.lsmNilLaw
