/- A closed fact of the card. -/
import Derived.Test.YtkddfiabighjiaaGreatDoorCards
import Derived.Test.YtkddfiabighjiaaGreatDoorTie
import Derived.KernelRfl
namespace Go.Proofs.YtkddfiabighjiaaGreatDoor.queryNamesLaw
open Go
set_option maxRecDepth 1000000 in
theorem wfText : Rows.queryNamesRow.wfByText (OpenSpec.ofChange Rows.queryNamesSpec) = true := by kernel_rfl
end Go.Proofs.YtkddfiabighjiaaGreatDoor.queryNamesLaw
