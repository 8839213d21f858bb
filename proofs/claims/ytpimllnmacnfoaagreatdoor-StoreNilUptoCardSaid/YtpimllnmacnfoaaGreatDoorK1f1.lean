/- Closed facts of a row. -/
import Derived.Test.YtpimllnmacnfoaaGreatDoorRows
import Derived.JoinedOf
import Derived.KernelRfl
namespace Go.Proofs.YtpimllnmacnfoaaGreatDoor.storeNilLaw
open Go
set_option maxRecDepth 1000000 in
theorem fact8 : ((Tryz.prog.stopKnobs == []) : Bool) = true := by kernel_rfl
set_option maxRecDepth 1000000 in
theorem fact9 : ((Rows.storeNilUptoRow.inPlace == Tryz.prog.inPlace 3) : Bool) = true := by kernel_rfl
set_option maxRecDepth 1000000 in
theorem fact10 : ((Rows.storeNilUptoRow.unfollowed == Tryz.prog.unfollowed 3) : Bool) = true := by kernel_rfl
set_option maxRecDepth 1000000 in
theorem fact11 : ((Rows.storeNilUptoRow.recurses == Tryz.prog.recurses 3) : Bool) = true := by kernel_rfl
set_option maxRecDepth 1000000 in
theorem fact12 : ((Rows.storeNilUptoRow.named == Tryz.prog.varsNamed 3) : Bool) = true := by kernel_rfl
set_option maxRecDepth 1000000 in
theorem fact13 : ((Rows.storeNilUptoRow.maps == (Tryz.f3.params.toList ++ (Rows.OpenSpec.upto Rows.storeNilSpec).bare.plain.varTypes Tryz.prog).any (Tryz.prog.mapsRec ·)) : Bool) = true := by kernel_rfl
set_option maxRecDepth 1000000 in
theorem fact14 : ((Rows.storeNilUptoRow.ifaces == (Tryz.f3.params.toList ++ (Rows.OpenSpec.upto Rows.storeNilSpec).bare.plain.varTypes Tryz.prog).any (Tryz.prog.ifacesRec ·)) : Bool) = true := by kernel_rfl
set_option maxRecDepth 1000000 in
theorem fact15 : ((Rows.storeNilUptoRow.mapsOut == Tryz.prog.mapsAmong Tryz.f3.resultTypes.toList) : Bool) = true := by kernel_rfl
end Go.Proofs.YtpimllnmacnfoaaGreatDoor.storeNilLaw
