/-
  DERIVED. GIVEN WITH THE SEED: THE CARDS: each row of YtlhaonfohjcblaaGreatDoorRows.lean that lists a variable, with what it lists TIED to the program's text (the seventh form; the later family's looks); each row that meets fmt, with fmt's text TOLD by the authors' own Lean function (tested against real Go, not proved from fmt's source: count such statements apart). THE CARD IS WHAT COUNTS. Prove the row's statement (the work); the ties are given (YtlhaonfohjcblaaGreatDoorTie.lean); close each card by the builder's one call (the guide's Derived/Test/ToyasCard.lean, 'card_holds'). Laid BY PROGRAM, IN A SANDBOX (cutbox-door.mjs). By AI agents, Wed Nov 11 2026. No macro, syntax, notation, axiom, sorry.
-/
import Derived.Test.YtlhaonfohjcblaaGreatDoorRows
import GoSem.ClaimSeven
namespace Go.Proofs.YtlhaonfohjcblaaGreatDoor
namespace Rows

/-- THE TIED CARD OF 'bootprintlaw16.LsmNames'. -/
def lsmNamesCard : Claim7 := { stood := { row := lsmNamesRow, standIns := [], harness := (true, "17f7405ae0f125136c072924ebcdb16dfc9e7fd842be9b6ec06e016f19f6703f"), looks := true }, kinds := [], alts := [], laidByText := true, laidKinds := [.data, .data, .data, .data, .sentinel, .sentinel, .pinned], laidTests := true, laidLooks := .later }
def LsmNamesCardSaid : Prop := Claim7.holds Tryz.pinned (.plain (OpenSpec.ofChange lsmNamesSpec)) lsmNamesCard

/-- THE TIED CARD OF 'bootprintlaw16.LsmNil'. -/
def lsmNilCard : Claim7 := { stood := { row := lsmNilRow, standIns := [], harness := (true, "17f7405ae0f125136c072924ebcdb16dfc9e7fd842be9b6ec06e016f19f6703f"), looks := true }, kinds := [], alts := [], laidByText := true, laidKinds := [.data, .data, .data, .data, .sentinel, .sentinel, .pinned], laidTests := true, laidLooks := .later }
def LsmNilCardSaid : Prop := Claim7.holds Tryz.pinned (.plain (OpenSpec.ofChange lsmNilSpec)) lsmNilCard

/-- THE SECOND FORM's CARD OF 'bootprintlaw16.LsmNames'. -/
def lsmNamesUptoCard : Claim7 := { stood := { row := lsmNamesUptoRow, standIns := [], harness := (true, "17f7405ae0f125136c072924ebcdb16dfc9e7fd842be9b6ec06e016f19f6703f"), looks := true }, kinds := [], alts := [], laidByText := true, laidKinds := [.data, .data, .data, .data, .sentinel, .sentinel, .pinned], laidTests := true, laidLooks := .later }
def LsmNamesUptoCardSaid : Prop := Claim7.holds Tryz.pinned (.plain (OpenSpec.upto lsmNamesSpec)) lsmNamesUptoCard

/-- THE SECOND FORM's CARD OF 'bootprintlaw16.LsmNil'. -/
def lsmNilUptoCard : Claim7 := { stood := { row := lsmNilUptoRow, standIns := [], harness := (true, "17f7405ae0f125136c072924ebcdb16dfc9e7fd842be9b6ec06e016f19f6703f"), looks := true }, kinds := [], alts := [], laidByText := true, laidKinds := [.data, .data, .data, .data, .sentinel, .sentinel, .pinned], laidTests := true, laidLooks := .later }
def LsmNilUptoCardSaid : Prop := Claim7.holds Tryz.pinned (.plain (OpenSpec.upto lsmNilSpec)) lsmNilUptoCard
end Rows
end Go.Proofs.YtlhaonfohjcblaaGreatDoor
