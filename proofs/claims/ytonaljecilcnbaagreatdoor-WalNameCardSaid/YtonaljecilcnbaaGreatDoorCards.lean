/-
  DERIVED. GIVEN WITH THE SEED: THE CARDS: each row of YtonaljecilcnbaaGreatDoorRows.lean that lists a variable, with what it lists TIED to the program's text (the seventh form; the later family's looks); each row that meets fmt, with fmt's text TOLD by the authors' own Lean function (tested against real Go, not proved from fmt's source: count such statements apart). THE CARD IS WHAT COUNTS. Prove the row's statement (the work); the ties are given (YtonaljecilcnbaaGreatDoorTie.lean); close each card by the builder's one call (the guide's Derived/Test/ToyasCard.lean, 'card_holds'). Laid BY PROGRAM, IN A SANDBOX (cutbox-door.mjs). By AI agents, Wed Nov 11 2026. No macro, syntax, notation, axiom, sorry.
-/
import Derived.Test.YtonaljecilcnbaaGreatDoorRows
import GoSem.ClaimSeven
namespace Go.Proofs.YtonaljecilcnbaaGreatDoor
namespace Rows

/-- THE TIED CARD OF 'bootprintlaw05.WalName'. -/
def walNameCard : Claim7 := { stood := { row := walNameRow, standIns := [], harness := (true, "7d172a3e725e4be41f7d674305e0b6d1f3557b4d674bf636e9ba8d522eb7d756"), looks := true }, kinds := [], alts := [], laidByText := true, laidKinds := [.data, .data, .data, .data, .sentinel, .sentinel, .pinned], laidTests := true, laidLooks := .later }
def WalNameCardSaid : Prop := Claim7.holds Tryz.pinned (.plain (OpenSpec.ofChange walNameSpec)) walNameCard

/-- THE TIED CARD OF 'bootprintlaw05.WalNames'. -/
def walNamesCard : Claim7 := { stood := { row := walNamesRow, standIns := [], harness := (true, "7d172a3e725e4be41f7d674305e0b6d1f3557b4d674bf636e9ba8d522eb7d756"), looks := true }, kinds := [], alts := [], laidByText := true, laidKinds := [.data, .data, .data, .data, .sentinel, .sentinel, .pinned], laidTests := true, laidLooks := .later }
def WalNamesCardSaid : Prop := Claim7.holds Tryz.pinned (.plain (OpenSpec.ofChange walNamesSpec)) walNamesCard

/-- THE TIED CARD OF 'bootprintlaw05.WalNil'. -/
def walNilCard : Claim7 := { stood := { row := walNilRow, standIns := [], harness := (true, "7d172a3e725e4be41f7d674305e0b6d1f3557b4d674bf636e9ba8d522eb7d756"), looks := true }, kinds := [], alts := [], laidByText := true, laidKinds := [.data, .data, .data, .data, .sentinel, .sentinel, .pinned], laidTests := true, laidLooks := .later }
def WalNilCardSaid : Prop := Claim7.holds Tryz.pinned (.plain (OpenSpec.ofChange walNilSpec)) walNilCard

/-- THE SECOND FORM's CARD OF 'bootprintlaw05.WalName'. -/
def walNameUptoCard : Claim7 := { stood := { row := walNameUptoRow, standIns := [], harness := (true, "7d172a3e725e4be41f7d674305e0b6d1f3557b4d674bf636e9ba8d522eb7d756"), looks := true }, kinds := [], alts := [], laidByText := true, laidKinds := [.data, .data, .data, .data, .sentinel, .sentinel, .pinned], laidTests := true, laidLooks := .later }
def WalNameUptoCardSaid : Prop := Claim7.holds Tryz.pinned (.plain (OpenSpec.upto walNameSpec)) walNameUptoCard

/-- THE SECOND FORM's CARD OF 'bootprintlaw05.WalNames'. -/
def walNamesUptoCard : Claim7 := { stood := { row := walNamesUptoRow, standIns := [], harness := (true, "7d172a3e725e4be41f7d674305e0b6d1f3557b4d674bf636e9ba8d522eb7d756"), looks := true }, kinds := [], alts := [], laidByText := true, laidKinds := [.data, .data, .data, .data, .sentinel, .sentinel, .pinned], laidTests := true, laidLooks := .later }
def WalNamesUptoCardSaid : Prop := Claim7.holds Tryz.pinned (.plain (OpenSpec.upto walNamesSpec)) walNamesUptoCard

/-- THE SECOND FORM's CARD OF 'bootprintlaw05.WalNil'. -/
def walNilUptoCard : Claim7 := { stood := { row := walNilUptoRow, standIns := [], harness := (true, "7d172a3e725e4be41f7d674305e0b6d1f3557b4d674bf636e9ba8d522eb7d756"), looks := true }, kinds := [], alts := [], laidByText := true, laidKinds := [.data, .data, .data, .data, .sentinel, .sentinel, .pinned], laidTests := true, laidLooks := .later }
def WalNilUptoCardSaid : Prop := Claim7.holds Tryz.pinned (.plain (OpenSpec.upto walNilSpec)) walNilUptoCard
end Rows
end Go.Proofs.YtonaljecilcnbaaGreatDoor
