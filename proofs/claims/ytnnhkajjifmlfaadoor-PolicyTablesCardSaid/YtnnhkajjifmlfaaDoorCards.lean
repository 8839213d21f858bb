/-
  DERIVED. GIVEN WITH THE SEED: THE CARDS: each row of YtnnhkajjifmlfaaDoorRows.lean that lists a variable, with what it lists TIED to the program's text (the seventh form; the later family's looks); each row that meets fmt, with fmt's text TOLD by the authors' own Lean function (tested against real Go, not proved from fmt's source: count such statements apart). THE CARD IS WHAT COUNTS. Prove the row's statement (the work); the ties are given (YtnnhkajjifmlfaaDoorTie.lean); close each card by the builder's one call (the guide's Derived/Test/ToyasCard.lean, 'card_holds'). Laid BY PROGRAM, IN A SANDBOX (cutbox-door.mjs). By AI agents, Wed Nov 11 2026. No macro, syntax, notation, axiom, sorry.
-/
import Derived.Test.YtnnhkajjifmlfaaDoorRows
import GoSem.ClaimSeven
namespace Go.Proofs.YtnnhkajjifmlfaaDoor
namespace Rows

/-- THE TIED CARD OF 'bootprintlaw28.JsonReads'. -/
def jsonReadsCard : Claim7 := { stood := { row := jsonReadsRow, standIns := [], harness := (true, "42bb35646bb14789d7fbebab5191fef628bbd4d8e92193dba8d02d078613efb1"), looks := true }, kinds := [], alts := [], laidByText := true, laidKinds := [.data, .data, .data, .sentinel, .sentinel], laidTests := true, laidLooks := .later }
def JsonReadsCardSaid : Prop := Claim7.holds Tryd.pinned (.plain (OpenSpec.ofChange jsonReadsSpec)) jsonReadsCard

/-- THE TIED CARD OF 'bootprintlaw28.JsonBack'. -/
def jsonBackCard : Claim7 := { stood := { row := jsonBackRow, standIns := [], harness := (true, "42bb35646bb14789d7fbebab5191fef628bbd4d8e92193dba8d02d078613efb1"), looks := true }, kinds := [], alts := [], laidByText := true, laidKinds := [.data, .data, .data, .sentinel, .sentinel], laidTests := true, laidLooks := .later }
def JsonBackCardSaid : Prop := Claim7.holds Tryd.pinned (.plain (OpenSpec.ofChange jsonBackSpec)) jsonBackCard

/-- THE TIED CARD OF 'bootprintlaw28.JsonQuote'. -/
def jsonQuoteCard : Claim7 := { stood := { row := jsonQuoteRow, standIns := [], harness := (true, "42bb35646bb14789d7fbebab5191fef628bbd4d8e92193dba8d02d078613efb1"), looks := true }, kinds := [], alts := [], laidByText := true, laidKinds := [.data, .data, .data, .sentinel, .sentinel], laidTests := true, laidLooks := .later }
def JsonQuoteCardSaid : Prop := Claim7.holds Tryd.pinned (.plain (OpenSpec.ofChange jsonQuoteSpec)) jsonQuoteCard

/-- THE TIED CARD OF 'bootprintlaw28.JsonNames'. -/
def jsonNamesCard : Claim7 := { stood := { row := jsonNamesRow, standIns := [], harness := (true, "42bb35646bb14789d7fbebab5191fef628bbd4d8e92193dba8d02d078613efb1"), looks := true }, kinds := [], alts := [], laidByText := true, laidKinds := [.data, .data, .data, .sentinel, .sentinel], laidTests := true, laidLooks := .later }
def JsonNamesCardSaid : Prop := Claim7.holds Tryd.pinned (.plain (OpenSpec.ofChange jsonNamesSpec)) jsonNamesCard

/-- THE TIED CARD OF 'bootprintlaw28.JsonCalls'. -/
def jsonCallsCard : Claim7 := { stood := { row := jsonCallsRow, standIns := [], harness := (true, "42bb35646bb14789d7fbebab5191fef628bbd4d8e92193dba8d02d078613efb1"), looks := true }, kinds := [], alts := [], laidByText := true, laidKinds := [.data, .data, .data, .sentinel, .sentinel], laidTests := true, laidLooks := .later }
def JsonCallsCardSaid : Prop := Claim7.holds Tryd.pinned (.plain (OpenSpec.ofChange jsonCallsSpec)) jsonCallsCard

/-- THE TIED CARD OF 'bootprintlaw22.PolicyNames'. -/
def policyNamesCard : Claim7 := { stood := { row := policyNamesRow, standIns := [], harness := (true, "42bb35646bb14789d7fbebab5191fef628bbd4d8e92193dba8d02d078613efb1"), looks := true }, kinds := [], alts := [], laidByText := true, laidKinds := [.data, .data, .data, .sentinel, .sentinel], laidTests := true, laidLooks := .later }
def PolicyNamesCardSaid : Prop := Claim7.holds Tryd.pinned (.plain (OpenSpec.ofChange policyNamesSpec)) policyNamesCard

/-- THE TIED CARD OF 'bootprintlaw22.PolicyReads'. -/
def policyReadsCard : Claim7 := { stood := { row := policyReadsRow, standIns := [], harness := (true, "42bb35646bb14789d7fbebab5191fef628bbd4d8e92193dba8d02d078613efb1"), looks := true }, kinds := [], alts := [], laidByText := true, laidKinds := [.data, .data, .data, .sentinel, .sentinel], laidTests := true, laidLooks := .later }
def PolicyReadsCardSaid : Prop := Claim7.holds Tryd.pinned (.plain (OpenSpec.ofChange policyReadsSpec)) policyReadsCard

/-- THE TIED CARD OF 'bootprintlaw22.PolicyBack'. -/
def policyBackCard : Claim7 := { stood := { row := policyBackRow, standIns := [], harness := (true, "42bb35646bb14789d7fbebab5191fef628bbd4d8e92193dba8d02d078613efb1"), looks := true }, kinds := [], alts := [], laidByText := true, laidKinds := [.data, .data, .data, .sentinel, .sentinel], laidTests := true, laidLooks := .later }
def PolicyBackCardSaid : Prop := Claim7.holds Tryd.pinned (.plain (OpenSpec.ofChange policyBackSpec)) policyBackCard

/-- THE TIED CARD OF 'bootprintlaw22.PolicyTables'. -/
def policyTablesCard : Claim7 := { stood := { row := policyTablesRow, standIns := [], harness := (true, "42bb35646bb14789d7fbebab5191fef628bbd4d8e92193dba8d02d078613efb1"), looks := true }, kinds := [], alts := [], laidByText := true, laidKinds := [.data, .data, .data, .sentinel, .sentinel], laidTests := true, laidLooks := .later }
def PolicyTablesCardSaid : Prop := Claim7.holds Tryd.pinned (.plain (OpenSpec.ofChange policyTablesSpec)) policyTablesCard

/-- THE SECOND FORM's CARD OF 'bootprintlaw28.JsonReads'. -/
def jsonReadsUptoCard : Claim7 := { stood := { row := jsonReadsUptoRow, standIns := [], harness := (true, "42bb35646bb14789d7fbebab5191fef628bbd4d8e92193dba8d02d078613efb1"), looks := true }, kinds := [], alts := [], laidByText := true, laidKinds := [.data, .data, .data, .sentinel, .sentinel], laidTests := true, laidLooks := .later }
def JsonReadsUptoCardSaid : Prop := Claim7.holds Tryd.pinned (.plain (OpenSpec.upto jsonReadsSpec)) jsonReadsUptoCard

/-- THE SECOND FORM's CARD OF 'bootprintlaw28.JsonBack'. -/
def jsonBackUptoCard : Claim7 := { stood := { row := jsonBackUptoRow, standIns := [], harness := (true, "42bb35646bb14789d7fbebab5191fef628bbd4d8e92193dba8d02d078613efb1"), looks := true }, kinds := [], alts := [], laidByText := true, laidKinds := [.data, .data, .data, .sentinel, .sentinel], laidTests := true, laidLooks := .later }
def JsonBackUptoCardSaid : Prop := Claim7.holds Tryd.pinned (.plain (OpenSpec.upto jsonBackSpec)) jsonBackUptoCard

/-- THE SECOND FORM's CARD OF 'bootprintlaw28.JsonQuote'. -/
def jsonQuoteUptoCard : Claim7 := { stood := { row := jsonQuoteUptoRow, standIns := [], harness := (true, "42bb35646bb14789d7fbebab5191fef628bbd4d8e92193dba8d02d078613efb1"), looks := true }, kinds := [], alts := [], laidByText := true, laidKinds := [.data, .data, .data, .sentinel, .sentinel], laidTests := true, laidLooks := .later }
def JsonQuoteUptoCardSaid : Prop := Claim7.holds Tryd.pinned (.plain (OpenSpec.upto jsonQuoteSpec)) jsonQuoteUptoCard

/-- THE SECOND FORM's CARD OF 'bootprintlaw28.JsonNames'. -/
def jsonNamesUptoCard : Claim7 := { stood := { row := jsonNamesUptoRow, standIns := [], harness := (true, "42bb35646bb14789d7fbebab5191fef628bbd4d8e92193dba8d02d078613efb1"), looks := true }, kinds := [], alts := [], laidByText := true, laidKinds := [.data, .data, .data, .sentinel, .sentinel], laidTests := true, laidLooks := .later }
def JsonNamesUptoCardSaid : Prop := Claim7.holds Tryd.pinned (.plain (OpenSpec.upto jsonNamesSpec)) jsonNamesUptoCard

/-- THE SECOND FORM's CARD OF 'bootprintlaw28.JsonCalls'. -/
def jsonCallsUptoCard : Claim7 := { stood := { row := jsonCallsUptoRow, standIns := [], harness := (true, "42bb35646bb14789d7fbebab5191fef628bbd4d8e92193dba8d02d078613efb1"), looks := true }, kinds := [], alts := [], laidByText := true, laidKinds := [.data, .data, .data, .sentinel, .sentinel], laidTests := true, laidLooks := .later }
def JsonCallsUptoCardSaid : Prop := Claim7.holds Tryd.pinned (.plain (OpenSpec.upto jsonCallsSpec)) jsonCallsUptoCard

/-- THE SECOND FORM's CARD OF 'bootprintlaw22.PolicyNames'. -/
def policyNamesUptoCard : Claim7 := { stood := { row := policyNamesUptoRow, standIns := [], harness := (true, "42bb35646bb14789d7fbebab5191fef628bbd4d8e92193dba8d02d078613efb1"), looks := true }, kinds := [], alts := [], laidByText := true, laidKinds := [.data, .data, .data, .sentinel, .sentinel], laidTests := true, laidLooks := .later }
def PolicyNamesUptoCardSaid : Prop := Claim7.holds Tryd.pinned (.plain (OpenSpec.upto policyNamesSpec)) policyNamesUptoCard

/-- THE SECOND FORM's CARD OF 'bootprintlaw22.PolicyReads'. -/
def policyReadsUptoCard : Claim7 := { stood := { row := policyReadsUptoRow, standIns := [], harness := (true, "42bb35646bb14789d7fbebab5191fef628bbd4d8e92193dba8d02d078613efb1"), looks := true }, kinds := [], alts := [], laidByText := true, laidKinds := [.data, .data, .data, .sentinel, .sentinel], laidTests := true, laidLooks := .later }
def PolicyReadsUptoCardSaid : Prop := Claim7.holds Tryd.pinned (.plain (OpenSpec.upto policyReadsSpec)) policyReadsUptoCard

/-- THE SECOND FORM's CARD OF 'bootprintlaw22.PolicyBack'. -/
def policyBackUptoCard : Claim7 := { stood := { row := policyBackUptoRow, standIns := [], harness := (true, "42bb35646bb14789d7fbebab5191fef628bbd4d8e92193dba8d02d078613efb1"), looks := true }, kinds := [], alts := [], laidByText := true, laidKinds := [.data, .data, .data, .sentinel, .sentinel], laidTests := true, laidLooks := .later }
def PolicyBackUptoCardSaid : Prop := Claim7.holds Tryd.pinned (.plain (OpenSpec.upto policyBackSpec)) policyBackUptoCard

/-- THE SECOND FORM's CARD OF 'bootprintlaw22.PolicyTables'. -/
def policyTablesUptoCard : Claim7 := { stood := { row := policyTablesUptoRow, standIns := [], harness := (true, "42bb35646bb14789d7fbebab5191fef628bbd4d8e92193dba8d02d078613efb1"), looks := true }, kinds := [], alts := [], laidByText := true, laidKinds := [.data, .data, .data, .sentinel, .sentinel], laidTests := true, laidLooks := .later }
def PolicyTablesUptoCardSaid : Prop := Claim7.holds Tryd.pinned (.plain (OpenSpec.upto policyTablesSpec)) policyTablesUptoCard
end Rows
end Go.Proofs.YtnnhkajjifmlfaaDoor
