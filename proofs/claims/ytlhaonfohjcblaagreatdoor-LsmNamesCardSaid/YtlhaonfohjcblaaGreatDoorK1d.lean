/- A closed fact of the card. -/
import Derived.Test.YtlhaonfohjcblaaGreatDoorCards
import Derived.Test.YtlhaonfohjcblaaGreatDoorTie
import Derived.KernelRfl
namespace Go.Proofs.YtlhaonfohjcblaaGreatDoor.lsmNamesLaw
open Go
set_option maxRecDepth 1000000 in
theorem wfText : Rows.lsmNamesRow.wfByText (OpenSpec.ofChange Rows.lsmNamesSpec) = true := by kernel_rfl
end Go.Proofs.YtlhaonfohjcblaaGreatDoor.lsmNamesLaw
