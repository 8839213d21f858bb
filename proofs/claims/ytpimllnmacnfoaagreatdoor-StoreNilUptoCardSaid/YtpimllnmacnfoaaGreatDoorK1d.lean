/- A closed fact of the card. -/
import Derived.Test.YtpimllnmacnfoaaGreatDoorCards
import Derived.Test.YtpimllnmacnfoaaGreatDoorTie
import Derived.KernelRfl
namespace Go.Proofs.YtpimllnmacnfoaaGreatDoor.storeNilLaw
open Go
set_option maxRecDepth 1000000 in
theorem wfText : Rows.storeNilUptoRow.wfByText (Rows.OpenSpec.upto Rows.storeNilSpec) = true := by kernel_rfl
end Go.Proofs.YtpimllnmacnfoaaGreatDoor.storeNilLaw
