/- A closed fact of the card. -/
import Derived.Test.YtiacpfiggfbjpaaGreatDoorCards
import Derived.Test.YtiacpfiggfbjpaaGreatDoorTie
import Derived.KernelRfl
namespace Go.Proofs.YtiacpfiggfbjpaaGreatDoor.storeNamesLaw
open Go
set_option maxRecDepth 1000000 in
theorem wfText : Rows.storeNamesRow.wfByText (OpenSpec.ofChange Rows.storeNamesSpec) = true := by kernel_rfl
end Go.Proofs.YtiacpfiggfbjpaaGreatDoor.storeNamesLaw
