/-
  DERIVED. GIVEN WITH THE SEED: THE CARDS: each row of YtnnficmkdahpjaaGreatDoorRows.lean that lists a variable, with what it lists TIED to the program's text (the seventh form; the later family's looks); each row that meets fmt, with fmt's text TOLD by the authors' own Lean function (tested against real Go, not proved from fmt's source: count such statements apart). THE CARD IS WHAT COUNTS. Prove the row's statement (the work); the ties are given (YtnnficmkdahpjaaGreatDoorTie.lean); close each card by the builder's one call (the guide's Derived/Test/ToyasCard.lean, 'card_holds'). Laid BY PROGRAM, IN A SANDBOX (cutbox-door.mjs). By AI agents, Wed Nov 11 2026. No macro, syntax, notation, axiom, sorry.
-/
import Derived.Test.YtnnficmkdahpjaaGreatDoorRows
import GoSem.ClaimSeven
namespace Go.Proofs.YtnnficmkdahpjaaGreatDoor
namespace Rows

/-- THE TIED CARD OF 'bootprintlaw13.ManifestName'. -/
def manifestNameCard : Claim7 := { stood := { row := manifestNameRow, standIns := [], harness := (true, "c769e874c93e2b4c210cf9f041e529e6f3f8e025f913d2cc96a7ad3b328600a9"), looks := true }, kinds := [], alts := [], laidByText := true, laidKinds := [.data, .data, .data, .data, .sentinel, .sentinel, .pinned], laidTests := true, laidLooks := .later }
def ManifestNameCardSaid : Prop := Claim7.holds Tryz.pinned (.plain (OpenSpec.ofChange manifestNameSpec)) manifestNameCard

/-- THE TIED CARD OF 'bootprintlaw13.ManifestNames'. -/
def manifestNamesCard : Claim7 := { stood := { row := manifestNamesRow, standIns := [], harness := (true, "c769e874c93e2b4c210cf9f041e529e6f3f8e025f913d2cc96a7ad3b328600a9"), looks := true }, kinds := [], alts := [], laidByText := true, laidKinds := [.data, .data, .data, .data, .sentinel, .sentinel, .pinned], laidTests := true, laidLooks := .later }
def ManifestNamesCardSaid : Prop := Claim7.holds Tryz.pinned (.plain (OpenSpec.ofChange manifestNamesSpec)) manifestNamesCard

/-- THE TIED CARD OF 'bootprintlaw13.ManifestNil'. -/
def manifestNilCard : Claim7 := { stood := { row := manifestNilRow, standIns := [], harness := (true, "c769e874c93e2b4c210cf9f041e529e6f3f8e025f913d2cc96a7ad3b328600a9"), looks := true }, kinds := [], alts := [], laidByText := true, laidKinds := [.data, .data, .data, .data, .sentinel, .sentinel, .pinned], laidTests := true, laidLooks := .later }
def ManifestNilCardSaid : Prop := Claim7.holds Tryz.pinned (.plain (OpenSpec.ofChange manifestNilSpec)) manifestNilCard

/-- THE SECOND FORM's CARD OF 'bootprintlaw13.ManifestName'. -/
def manifestNameUptoCard : Claim7 := { stood := { row := manifestNameUptoRow, standIns := [], harness := (true, "c769e874c93e2b4c210cf9f041e529e6f3f8e025f913d2cc96a7ad3b328600a9"), looks := true }, kinds := [], alts := [], laidByText := true, laidKinds := [.data, .data, .data, .data, .sentinel, .sentinel, .pinned], laidTests := true, laidLooks := .later }
def ManifestNameUptoCardSaid : Prop := Claim7.holds Tryz.pinned (.plain (OpenSpec.upto manifestNameSpec)) manifestNameUptoCard

/-- THE SECOND FORM's CARD OF 'bootprintlaw13.ManifestNames'. -/
def manifestNamesUptoCard : Claim7 := { stood := { row := manifestNamesUptoRow, standIns := [], harness := (true, "c769e874c93e2b4c210cf9f041e529e6f3f8e025f913d2cc96a7ad3b328600a9"), looks := true }, kinds := [], alts := [], laidByText := true, laidKinds := [.data, .data, .data, .data, .sentinel, .sentinel, .pinned], laidTests := true, laidLooks := .later }
def ManifestNamesUptoCardSaid : Prop := Claim7.holds Tryz.pinned (.plain (OpenSpec.upto manifestNamesSpec)) manifestNamesUptoCard

/-- THE SECOND FORM's CARD OF 'bootprintlaw13.ManifestNil'. -/
def manifestNilUptoCard : Claim7 := { stood := { row := manifestNilUptoRow, standIns := [], harness := (true, "c769e874c93e2b4c210cf9f041e529e6f3f8e025f913d2cc96a7ad3b328600a9"), looks := true }, kinds := [], alts := [], laidByText := true, laidKinds := [.data, .data, .data, .data, .sentinel, .sentinel, .pinned], laidTests := true, laidLooks := .later }
def ManifestNilUptoCardSaid : Prop := Claim7.holds Tryz.pinned (.plain (OpenSpec.upto manifestNilSpec)) manifestNilUptoCard
end Rows
end Go.Proofs.YtnnficmkdahpjaaGreatDoor
