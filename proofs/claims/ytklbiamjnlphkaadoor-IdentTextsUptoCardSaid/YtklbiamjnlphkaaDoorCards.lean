/-
  DERIVED. GIVEN WITH THE SEED: THE CARDS: each row of YtklbiamjnlphkaaDoorRows.lean that lists a variable, with what it lists TIED to the program's text (the seventh form; the later family's looks); each row that meets fmt, with fmt's text TOLD by the authors' own Lean function (tested against real Go, not proved from fmt's source: count such statements apart). THE CARD IS WHAT COUNTS. Prove the row's statement (the work); the ties are given (YtklbiamjnlphkaaDoorTie.lean); close each card by the builder's one call (the guide's Derived/Test/ToyasCard.lean, 'card_holds'). Laid BY PROGRAM, IN A SANDBOX (cutbox-door.mjs). By AI agents, Wed Nov 11 2026. No macro, syntax, notation, axiom, sorry.
-/
import Derived.Test.YtklbiamjnlphkaaDoorRows
import GoSem.ClaimSeven
namespace Go.Proofs.YtklbiamjnlphkaaDoor
namespace Rows

/-- THE TIED CARD OF 'countermandlaw06.IdentTexts'. -/
def identTextsCard : Claim7 := { stood := { row := identTextsRow, standIns := [], harness := (true, "dca5ae56786efef8817608035b7b8fc6018cfb54f3a3cc82d896043b40f4aeab"), looks := true }, kinds := [], alts := [], laidByText := true, laidKinds := [.data, .data, .data, .sentinel, .sentinel], laidTests := true, laidLooks := .later }
def IdentTextsCardSaid : Prop := Claim7.holds Tryd.pinned (.plain (OpenSpec.ofChange identTextsSpec)) identTextsCard

/-- THE TIED CARD OF 'countermandlaw06.IdentOrders'. -/
def identOrdersCard : Claim7 := { stood := { row := identOrdersRow, standIns := [], harness := (true, "dca5ae56786efef8817608035b7b8fc6018cfb54f3a3cc82d896043b40f4aeab"), looks := true }, kinds := [], alts := [], laidByText := true, laidKinds := [.data, .data, .data, .sentinel, .sentinel], laidTests := true, laidLooks := .later }
def IdentOrdersCardSaid : Prop := Claim7.holds Tryd.pinned (.plain (OpenSpec.ofChange identOrdersSpec)) identOrdersCard

/-- THE TIED CARD OF 'countermandlaw06.IdentLies'. -/
def identLiesCard : Claim7 := { stood := { row := identLiesRow, standIns := [], harness := (true, "dca5ae56786efef8817608035b7b8fc6018cfb54f3a3cc82d896043b40f4aeab"), looks := true }, kinds := [], alts := [], laidByText := true, laidKinds := [.data, .data, .data, .sentinel, .sentinel], laidTests := true, laidLooks := .later }
def IdentLiesCardSaid : Prop := Claim7.holds Tryd.pinned (.plain (OpenSpec.ofChange identLiesSpec)) identLiesCard

/-- THE TIED CARD OF 'countermandlaw38.ScriptLines'. -/
def scriptLinesCard : Claim7 := { stood := { row := scriptLinesRow, standIns := [], harness := (true, "dca5ae56786efef8817608035b7b8fc6018cfb54f3a3cc82d896043b40f4aeab"), looks := true }, kinds := [], alts := [], laidByText := true, laidKinds := [.data, .data, .data, .data, .sentinel, .sentinel, .pinned], laidTests := true, laidLooks := .later }
def ScriptLinesCardSaid : Prop := Claim7.holds Tryd.pinned (.plain (OpenSpec.ofChange scriptLinesSpec)) scriptLinesCard

/-- THE TIED CARD OF 'countermandlaw38.ScriptParses'. -/
def scriptParsesCard : Claim7 := { stood := { row := scriptParsesRow, standIns := [], harness := (true, "dca5ae56786efef8817608035b7b8fc6018cfb54f3a3cc82d896043b40f4aeab"), looks := true }, kinds := [], alts := [], laidByText := true, laidKinds := [.data, .data, .data, .data, .sentinel, .sentinel, .pinned], laidTests := true, laidLooks := .later }
def ScriptParsesCardSaid : Prop := Claim7.holds Tryd.pinned (.plain (OpenSpec.ofChange scriptParsesSpec)) scriptParsesCard

/-- THE TIED CARD OF 'countermandlaw38.ScriptReads'. -/
def scriptReadsCard : Claim7 := { stood := { row := scriptReadsRow, standIns := [], harness := (true, "dca5ae56786efef8817608035b7b8fc6018cfb54f3a3cc82d896043b40f4aeab"), looks := true }, kinds := [], alts := [], laidByText := true, laidKinds := [.data, .data, .data, .data, .sentinel, .sentinel, .pinned], laidTests := true, laidLooks := .later }
def ScriptReadsCardSaid : Prop := Claim7.holds Tryd.pinned (.plain (OpenSpec.ofChange scriptReadsSpec)) scriptReadsCard

/-- THE SECOND FORM's CARD OF 'countermandlaw06.IdentTexts'. -/
def identTextsUptoCard : Claim7 := { stood := { row := identTextsUptoRow, standIns := [], harness := (true, "dca5ae56786efef8817608035b7b8fc6018cfb54f3a3cc82d896043b40f4aeab"), looks := true }, kinds := [], alts := [], laidByText := true, laidKinds := [.data, .data, .data, .sentinel, .sentinel], laidTests := true, laidLooks := .later }
def IdentTextsUptoCardSaid : Prop := Claim7.holds Tryd.pinned (.plain (OpenSpec.upto identTextsSpec)) identTextsUptoCard

/-- THE SECOND FORM's CARD OF 'countermandlaw06.IdentOrders'. -/
def identOrdersUptoCard : Claim7 := { stood := { row := identOrdersUptoRow, standIns := [], harness := (true, "dca5ae56786efef8817608035b7b8fc6018cfb54f3a3cc82d896043b40f4aeab"), looks := true }, kinds := [], alts := [], laidByText := true, laidKinds := [.data, .data, .data, .sentinel, .sentinel], laidTests := true, laidLooks := .later }
def IdentOrdersUptoCardSaid : Prop := Claim7.holds Tryd.pinned (.plain (OpenSpec.upto identOrdersSpec)) identOrdersUptoCard

/-- THE SECOND FORM's CARD OF 'countermandlaw06.IdentLies'. -/
def identLiesUptoCard : Claim7 := { stood := { row := identLiesUptoRow, standIns := [], harness := (true, "dca5ae56786efef8817608035b7b8fc6018cfb54f3a3cc82d896043b40f4aeab"), looks := true }, kinds := [], alts := [], laidByText := true, laidKinds := [.data, .data, .data, .sentinel, .sentinel], laidTests := true, laidLooks := .later }
def IdentLiesUptoCardSaid : Prop := Claim7.holds Tryd.pinned (.plain (OpenSpec.upto identLiesSpec)) identLiesUptoCard

/-- THE SECOND FORM's CARD OF 'countermandlaw38.ScriptLines'. -/
def scriptLinesUptoCard : Claim7 := { stood := { row := scriptLinesUptoRow, standIns := [], harness := (true, "dca5ae56786efef8817608035b7b8fc6018cfb54f3a3cc82d896043b40f4aeab"), looks := true }, kinds := [], alts := [], laidByText := true, laidKinds := [.data, .data, .data, .data, .sentinel, .sentinel, .pinned], laidTests := true, laidLooks := .later }
def ScriptLinesUptoCardSaid : Prop := Claim7.holds Tryd.pinned (.plain (OpenSpec.upto scriptLinesSpec)) scriptLinesUptoCard

/-- THE SECOND FORM's CARD OF 'countermandlaw38.ScriptParses'. -/
def scriptParsesUptoCard : Claim7 := { stood := { row := scriptParsesUptoRow, standIns := [], harness := (true, "dca5ae56786efef8817608035b7b8fc6018cfb54f3a3cc82d896043b40f4aeab"), looks := true }, kinds := [], alts := [], laidByText := true, laidKinds := [.data, .data, .data, .data, .sentinel, .sentinel, .pinned], laidTests := true, laidLooks := .later }
def ScriptParsesUptoCardSaid : Prop := Claim7.holds Tryd.pinned (.plain (OpenSpec.upto scriptParsesSpec)) scriptParsesUptoCard

/-- THE SECOND FORM's CARD OF 'countermandlaw38.ScriptReads'. -/
def scriptReadsUptoCard : Claim7 := { stood := { row := scriptReadsUptoRow, standIns := [], harness := (true, "dca5ae56786efef8817608035b7b8fc6018cfb54f3a3cc82d896043b40f4aeab"), looks := true }, kinds := [], alts := [], laidByText := true, laidKinds := [.data, .data, .data, .data, .sentinel, .sentinel, .pinned], laidTests := true, laidLooks := .later }
def ScriptReadsUptoCardSaid : Prop := Claim7.holds Tryd.pinned (.plain (OpenSpec.upto scriptReadsSpec)) scriptReadsUptoCard
end Rows
end Go.Proofs.YtklbiamjnlphkaaDoor
