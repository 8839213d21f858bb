/-
  DERIVED. GIVEN WITH THE SEED: THE CARDS: each row of YtohcddmdgidmaaaGreatDoorRows.lean that lists a variable, with what it lists TIED to the program's text (the seventh form; the later family's looks); each row that meets fmt, with fmt's text TOLD by the authors' own Lean function (tested against real Go, not proved from fmt's source: count such statements apart). THE CARD IS WHAT COUNTS. Prove the row's statement (the work); the ties are given (YtohcddmdgidmaaaGreatDoorTie.lean); close each card by the builder's one call (the guide's Derived/Test/ToyasCard.lean, 'card_holds'). Laid BY PROGRAM, IN A SANDBOX (cutbox-door.mjs). By AI agents, Wed Nov 11 2026. No macro, syntax, notation, axiom, sorry.
-/
import Derived.Test.YtohcddmdgidmaaaGreatDoorRows
import GoSem.ClaimSeven
namespace Go.Proofs.YtohcddmdgidmaaaGreatDoor
namespace Rows

/-- THE TIED CARD OF 'bootprintlaw27.HttpNil'. -/
def httpNilCard : Claim7 := { stood := { row := httpNilRow, standIns := [], harness := (true, "432e8bd4b054f9df6afbf53ddd656e4e1ad264920657717e4b5088663925712b"), looks := true }, kinds := [], alts := [], laidByText := true, laidKinds := [.data, .data, .data, .data, .sentinel, .sentinel, .pinned, .pinned], laidTests := true, laidLooks := .later }
def HttpNilCardSaid : Prop := Claim7.holds Tryz.pinned (.plain (OpenSpec.ofChange httpNilSpec)) httpNilCard

/-- THE TIED CARD OF 'bootprintlaw27.HttpNames'. -/
def httpNamesCard : Claim7 := { stood := { row := httpNamesRow, standIns := [], harness := (true, "432e8bd4b054f9df6afbf53ddd656e4e1ad264920657717e4b5088663925712b"), looks := true }, kinds := [], alts := [], laidByText := true, laidKinds := [.data, .data, .data, .data, .sentinel, .sentinel, .pinned, .pinned], laidTests := true, laidLooks := .later }
def HttpNamesCardSaid : Prop := Claim7.holds Tryz.pinned (.plain (OpenSpec.ofChange httpNamesSpec)) httpNamesCard

/-- THE TIED CARD OF 'bootprintlaw29.RoutesNames'. -/
def routesNamesCard : Claim7 := { stood := { row := routesNamesRow, standIns := [], harness := (true, "432e8bd4b054f9df6afbf53ddd656e4e1ad264920657717e4b5088663925712b"), looks := true }, kinds := [], alts := [], laidByText := true, laidKinds := [.data, .data, .data, .sentinel, .sentinel], laidTests := true, laidLooks := .later }
def RoutesNamesCardSaid : Prop := Claim7.holds Tryz.pinned (.plain (OpenSpec.ofChange routesNamesSpec)) routesNamesCard

/-- THE SECOND FORM's CARD OF 'bootprintlaw27.HttpNil'. -/
def httpNilUptoCard : Claim7 := { stood := { row := httpNilUptoRow, standIns := [], harness := (true, "432e8bd4b054f9df6afbf53ddd656e4e1ad264920657717e4b5088663925712b"), looks := true }, kinds := [], alts := [], laidByText := true, laidKinds := [.data, .data, .data, .data, .sentinel, .sentinel, .pinned, .pinned], laidTests := true, laidLooks := .later }
def HttpNilUptoCardSaid : Prop := Claim7.holds Tryz.pinned (.plain (OpenSpec.upto httpNilSpec)) httpNilUptoCard

/-- THE SECOND FORM's CARD OF 'bootprintlaw27.HttpNames'. -/
def httpNamesUptoCard : Claim7 := { stood := { row := httpNamesUptoRow, standIns := [], harness := (true, "432e8bd4b054f9df6afbf53ddd656e4e1ad264920657717e4b5088663925712b"), looks := true }, kinds := [], alts := [], laidByText := true, laidKinds := [.data, .data, .data, .data, .sentinel, .sentinel, .pinned, .pinned], laidTests := true, laidLooks := .later }
def HttpNamesUptoCardSaid : Prop := Claim7.holds Tryz.pinned (.plain (OpenSpec.upto httpNamesSpec)) httpNamesUptoCard

/-- THE SECOND FORM's CARD OF 'bootprintlaw29.RoutesNames'. -/
def routesNamesUptoCard : Claim7 := { stood := { row := routesNamesUptoRow, standIns := [], harness := (true, "432e8bd4b054f9df6afbf53ddd656e4e1ad264920657717e4b5088663925712b"), looks := true }, kinds := [], alts := [], laidByText := true, laidKinds := [.data, .data, .data, .sentinel, .sentinel], laidTests := true, laidLooks := .later }
def RoutesNamesUptoCardSaid : Prop := Claim7.holds Tryz.pinned (.plain (OpenSpec.upto routesNamesSpec)) routesNamesUptoCard
end Rows
end Go.Proofs.YtohcddmdgidmaaaGreatDoor
