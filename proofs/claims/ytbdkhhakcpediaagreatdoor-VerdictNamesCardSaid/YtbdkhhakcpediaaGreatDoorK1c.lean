/- A closed fact of the card. -/
import Derived.Test.YtbdkhhakcpediaaGreatDoorCards
import Derived.Test.YtbdkhhakcpediaaGreatDoorTie
import Derived.KernelRfl
namespace Go.Proofs.YtbdkhhakcpediaaGreatDoor.verdictNamesLaw
open Go
set_option maxRecDepth 1000000 in
theorem goes : false = Rows.verdictNamesRow.goesBy Tryz.pinned.checked.prog := by kernel_rfl
end Go.Proofs.YtbdkhhakcpediaaGreatDoor.verdictNamesLaw
