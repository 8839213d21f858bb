/- A closed fact of the card. -/
import Derived.Test.YtkddfiabighjiaaGreatDoorCards
import Derived.Test.YtkddfiabighjiaaGreatDoorTie
import Derived.KernelRfl
namespace Go.Proofs.YtkddfiabighjiaaGreatDoor.queryNilLaw
open Go
set_option maxRecDepth 1000000 in
theorem wfText : Rows.queryNilRow.wfByText (OpenSpec.ofChange Rows.queryNilSpec) = true := by kernel_rfl
end Go.Proofs.YtkddfiabighjiaaGreatDoor.queryNilLaw
