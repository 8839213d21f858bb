/-
  DERIVED. GIVEN WITH THE SEED: THE CARDS: each row of YtbdkhhakcpediaaGreatDoorRows.lean that lists a variable, with what it lists TIED to the program's text (the seventh form; the later family's looks); each row that meets fmt, with fmt's text TOLD by the authors' own Lean function (tested against real Go, not proved from fmt's source: count such statements apart). THE CARD IS WHAT COUNTS. Prove the row's statement (the work); the ties are given (YtbdkhhakcpediaaGreatDoorTie.lean); close each card by the builder's one call (the guide's Derived/Test/ToyasCard.lean, 'card_holds'). Laid BY PROGRAM, IN A SANDBOX (cutbox-door.mjs). By AI agents, Wed Nov 11 2026. No macro, syntax, notation, axiom, sorry.
-/
import Derived.Test.YtbdkhhakcpediaaGreatDoorRows
import GoSem.ClaimSeven
namespace Go.Proofs.YtbdkhhakcpediaaGreatDoor
namespace Rows

/-- THE TIED CARD OF 'bootprintlaw32.VerdictNames'. -/
def verdictNamesCard : Claim7 := { stood := { row := verdictNamesRow, standIns := [], harness := (true, "1ffb5794cdbb8470c3011f6fea71dabfa6acd9e8bdd3c726187cd4151b4cb531"), looks := true }, kinds := [], alts := [], laidByText := true, laidKinds := [.data, .data, .data, .sentinel, .sentinel], laidTests := true, laidLooks := .later }
def VerdictNamesCardSaid : Prop := Claim7.holds Tryz.pinned (.plain (OpenSpec.ofChange verdictNamesSpec)) verdictNamesCard

/-- THE SECOND FORM's CARD OF 'bootprintlaw32.VerdictNames'. -/
def verdictNamesUptoCard : Claim7 := { stood := { row := verdictNamesUptoRow, standIns := [], harness := (true, "1ffb5794cdbb8470c3011f6fea71dabfa6acd9e8bdd3c726187cd4151b4cb531"), looks := true }, kinds := [], alts := [], laidByText := true, laidKinds := [.data, .data, .data, .sentinel, .sentinel], laidTests := true, laidLooks := .later }
def VerdictNamesUptoCardSaid : Prop := Claim7.holds Tryz.pinned (.plain (OpenSpec.upto verdictNamesSpec)) verdictNamesUptoCard
end Rows
end Go.Proofs.YtbdkhhakcpediaaGreatDoor
