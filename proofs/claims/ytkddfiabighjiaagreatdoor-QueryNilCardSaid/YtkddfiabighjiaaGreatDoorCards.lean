/-
  DERIVED. GIVEN WITH THE SEED: THE CARDS: each row of YtkddfiabighjiaaGreatDoorRows.lean that lists a variable, with what it lists TIED to the program's text (the seventh form; the later family's looks); each row that meets fmt, with fmt's text TOLD by the authors' own Lean function (tested against real Go, not proved from fmt's source: count such statements apart). THE CARD IS WHAT COUNTS. Prove the row's statement (the work); the ties are given (YtkddfiabighjiaaGreatDoorTie.lean); close each card by the builder's one call (the guide's Derived/Test/ToyasCard.lean, 'card_holds'). Laid BY PROGRAM, IN A SANDBOX (cutbox-door.mjs). By AI agents, Wed Nov 11 2026. No macro, syntax, notation, axiom, sorry.
-/
import Derived.Test.YtkddfiabighjiaaGreatDoorRows
import GoSem.ClaimSeven
namespace Go.Proofs.YtkddfiabighjiaaGreatDoor
namespace Rows

/-- THE TIED CARD OF 'bootprintlaw26.QueryNames'. -/
def queryNamesCard : Claim7 := { stood := { row := queryNamesRow, standIns := [], harness := (true, "a9f311b7b20509bdd99b376b6d14faabac111c7851fb7066c1cf47ffed849708"), looks := true }, kinds := [], alts := [], laidByText := true, laidKinds := [.data, .data, .data, .data, .sentinel, .sentinel, .pinned], laidTests := true, laidLooks := .later }
def QueryNamesCardSaid : Prop := Claim7.holds Tryz.pinned (.plain (OpenSpec.ofChange queryNamesSpec)) queryNamesCard

/-- THE TIED CARD OF 'bootprintlaw26.QueryNil'. -/
def queryNilCard : Claim7 := { stood := { row := queryNilRow, standIns := [], harness := (true, "a9f311b7b20509bdd99b376b6d14faabac111c7851fb7066c1cf47ffed849708"), looks := true }, kinds := [], alts := [], laidByText := true, laidKinds := [.data, .data, .data, .data, .sentinel, .sentinel, .pinned], laidTests := true, laidLooks := .later }
def QueryNilCardSaid : Prop := Claim7.holds Tryz.pinned (.plain (OpenSpec.ofChange queryNilSpec)) queryNilCard

/-- THE SECOND FORM's CARD OF 'bootprintlaw26.QueryNames'. -/
def queryNamesUptoCard : Claim7 := { stood := { row := queryNamesUptoRow, standIns := [], harness := (true, "a9f311b7b20509bdd99b376b6d14faabac111c7851fb7066c1cf47ffed849708"), looks := true }, kinds := [], alts := [], laidByText := true, laidKinds := [.data, .data, .data, .data, .sentinel, .sentinel, .pinned], laidTests := true, laidLooks := .later }
def QueryNamesUptoCardSaid : Prop := Claim7.holds Tryz.pinned (.plain (OpenSpec.upto queryNamesSpec)) queryNamesUptoCard

/-- THE SECOND FORM's CARD OF 'bootprintlaw26.QueryNil'. -/
def queryNilUptoCard : Claim7 := { stood := { row := queryNilUptoRow, standIns := [], harness := (true, "a9f311b7b20509bdd99b376b6d14faabac111c7851fb7066c1cf47ffed849708"), looks := true }, kinds := [], alts := [], laidByText := true, laidKinds := [.data, .data, .data, .data, .sentinel, .sentinel, .pinned], laidTests := true, laidLooks := .later }
def QueryNilUptoCardSaid : Prop := Claim7.holds Tryz.pinned (.plain (OpenSpec.upto queryNilSpec)) queryNilUptoCard
end Rows
end Go.Proofs.YtkddfiabighjiaaGreatDoor
