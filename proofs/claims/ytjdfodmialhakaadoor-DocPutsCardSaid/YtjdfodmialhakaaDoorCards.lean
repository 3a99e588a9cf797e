/-
  DERIVED. GIVEN WITH THE SEED: THE CARDS: each row of YtjdfodmialhakaaDoorRows.lean that lists a variable, with what it lists TIED to the program's text (the seventh form; the later family's looks); each row that meets fmt, with fmt's text TOLD by the authors' own Lean function (tested against real Go, not proved from fmt's source: count such statements apart). THE CARD IS WHAT COUNTS. Prove the row's statement (the work); the ties are given (YtjdfodmialhakaaDoorTie.lean); close each card by the builder's one call (the guide's Derived/Test/ToyasCard.lean, 'card_holds'). Laid BY PROGRAM, IN A SANDBOX (cutbox-door.mjs). By AI agents, Wed Nov 11 2026. No macro, syntax, notation, axiom, sorry.
-/
import Derived.Test.YtjdfodmialhakaaDoorRows
import GoSem.ClaimSeven
namespace Go.Proofs.YtjdfodmialhakaaDoor
namespace Rows

/-- THE TIED CARD OF 'fasciclelaw05.CodePuts'. -/
def codePutsCard : Claim7 := { stood := { row := codePutsRow, standIns := [], harness := (true, "3e015a0c2ba5258340580abe0e2e5be91c0c990c62a6483011a9faafd513dfa3"), looks := true }, kinds := [], alts := [], laidByText := true, laidKinds := [.data, .pinned], laidTests := true, laidLooks := .later }
def CodePutsCardSaid : Prop := Claim7.holds Tryd.pinned (.plain (OpenSpec.ofChange codePutsSpec)) codePutsCard

/-- THE TIED CARD OF 'fasciclelaw05.CodeBack'. -/
def codeBackCard : Claim7 := { stood := { row := codeBackRow, standIns := [], harness := (true, "3e015a0c2ba5258340580abe0e2e5be91c0c990c62a6483011a9faafd513dfa3"), looks := true }, kinds := [], alts := [], laidByText := true, laidKinds := [.data, .pinned], laidTests := true, laidLooks := .later }
def CodeBackCardSaid : Prop := Claim7.holds Tryd.pinned (.plain (OpenSpec.ofChange codeBackSpec)) codeBackCard

/-- THE TIED CARD OF 'fasciclelaw05.CodeApart'. -/
def codeApartCard : Claim7 := { stood := { row := codeApartRow, standIns := [], harness := (true, "3e015a0c2ba5258340580abe0e2e5be91c0c990c62a6483011a9faafd513dfa3"), looks := true }, kinds := [], alts := [], laidByText := true, laidKinds := [.data, .pinned], laidTests := true, laidLooks := .later }
def CodeApartCardSaid : Prop := Claim7.holds Tryd.pinned (.plain (OpenSpec.ofChange codeApartSpec)) codeApartCard

/-- THE TIED CARD OF 'fasciclelaw05.CodeGets'. -/
def codeGetsCard : Claim7 := { stood := { row := codeGetsRow, standIns := [], harness := (true, "3e015a0c2ba5258340580abe0e2e5be91c0c990c62a6483011a9faafd513dfa3"), looks := true }, kinds := [], alts := [], laidByText := true, laidKinds := [.data, .pinned], laidTests := true, laidLooks := .later }
def CodeGetsCardSaid : Prop := Claim7.holds Tryd.pinned (.plain (OpenSpec.ofChange codeGetsSpec)) codeGetsCard

/-- THE TIED CARD OF 'fasciclelaw23.BufferNil'. -/
def bufferNilCard : Claim7 := { stood := { row := bufferNilRow, standIns := [], harness := (true, "3e015a0c2ba5258340580abe0e2e5be91c0c990c62a6483011a9faafd513dfa3"), looks := true }, kinds := [], alts := [], laidByText := true, laidKinds := [.data, .pinned], laidTests := true, laidLooks := .later }
def BufferNilCardSaid : Prop := Claim7.holds Tryd.pinned (.plain (OpenSpec.ofChange bufferNilSpec)) bufferNilCard

/-- THE TIED CARD OF 'fasciclelaw25.DocPuts'. -/
def docPutsCard : Claim7 := { stood := { row := docPutsRow, standIns := [], harness := (true, "3e015a0c2ba5258340580abe0e2e5be91c0c990c62a6483011a9faafd513dfa3"), looks := true }, kinds := [], alts := [], laidByText := true, laidKinds := [.data, .pinned], laidTests := true, laidLooks := .later }
def DocPutsCardSaid : Prop := Claim7.holds Tryd.pinned (.plain (OpenSpec.ofChange docPutsSpec)) docPutsCard

/-- THE TIED CARD OF 'fasciclelaw25.DocGets'. -/
def docGetsCard : Claim7 := { stood := { row := docGetsRow, standIns := [], harness := (true, "3e015a0c2ba5258340580abe0e2e5be91c0c990c62a6483011a9faafd513dfa3"), looks := true }, kinds := [], alts := [], laidByText := true, laidKinds := [.data, .pinned], laidTests := true, laidLooks := .later }
def DocGetsCardSaid : Prop := Claim7.holds Tryd.pinned (.plain (OpenSpec.ofChange docGetsSpec)) docGetsCard

/-- THE TIED CARD OF 'fasciclelaw16.EventPuts'. -/
def eventPutsCard : Claim7 := { stood := { row := eventPutsRow, standIns := [], harness := (true, "3e015a0c2ba5258340580abe0e2e5be91c0c990c62a6483011a9faafd513dfa3"), looks := true }, kinds := [], alts := [], laidByText := true, laidKinds := [.data, .pinned], laidTests := true, laidLooks := .later }
def EventPutsCardSaid : Prop := Claim7.holds Tryd.pinned (.plain (OpenSpec.ofChange eventPutsSpec)) eventPutsCard

/-- THE TIED CARD OF 'fasciclelaw16.EventMarks'. -/
def eventMarksCard : Claim7 := { stood := { row := eventMarksRow, standIns := [], harness := (true, "3e015a0c2ba5258340580abe0e2e5be91c0c990c62a6483011a9faafd513dfa3"), looks := true }, kinds := [], alts := [], laidByText := true, laidKinds := [.data, .pinned], laidTests := true, laidLooks := .later }
def EventMarksCardSaid : Prop := Claim7.holds Tryd.pinned (.plain (OpenSpec.ofChange eventMarksSpec)) eventMarksCard

/-- THE TIED CARD OF 'fasciclelaw16.EventBack'. -/
def eventBackCard : Claim7 := { stood := { row := eventBackRow, standIns := [], harness := (true, "3e015a0c2ba5258340580abe0e2e5be91c0c990c62a6483011a9faafd513dfa3"), looks := true }, kinds := [], alts := [], laidByText := true, laidKinds := [.data, .pinned], laidTests := true, laidLooks := .later }
def EventBackCardSaid : Prop := Claim7.holds Tryd.pinned (.plain (OpenSpec.ofChange eventBackSpec)) eventBackCard

/-- THE TIED CARD OF 'fasciclelaw13.SchemaCodes'. -/
def schemaCodesCard : Claim7 := { stood := { row := schemaCodesRow, standIns := [], harness := (true, "3e015a0c2ba5258340580abe0e2e5be91c0c990c62a6483011a9faafd513dfa3"), looks := true }, kinds := [], alts := [], laidByText := true, laidKinds := [.data, .pinned], laidTests := true, laidLooks := .later }
def SchemaCodesCardSaid : Prop := Claim7.holds Tryd.pinned (.plain (OpenSpec.ofChange schemaCodesSpec)) schemaCodesCard

/-- THE TIED CARD OF 'fasciclelaw13.SchemaBack'. -/
def schemaBackCard : Claim7 := { stood := { row := schemaBackRow, standIns := [], harness := (true, "3e015a0c2ba5258340580abe0e2e5be91c0c990c62a6483011a9faafd513dfa3"), looks := true }, kinds := [], alts := [], laidByText := true, laidKinds := [.data, .pinned], laidTests := true, laidLooks := .later }
def SchemaBackCardSaid : Prop := Claim7.holds Tryd.pinned (.plain (OpenSpec.ofChange schemaBackSpec)) schemaBackCard

/-- THE TIED CARD OF 'fasciclelaw13.SchemaForest'. -/
def schemaForestCard : Claim7 := { stood := { row := schemaForestRow, standIns := [], harness := (true, "3e015a0c2ba5258340580abe0e2e5be91c0c990c62a6483011a9faafd513dfa3"), looks := true }, kinds := [], alts := [], laidByText := true, laidKinds := [.data, .pinned], laidTests := true, laidLooks := .later }
def SchemaForestCardSaid : Prop := Claim7.holds Tryd.pinned (.plain (OpenSpec.ofChange schemaForestSpec)) schemaForestCard

/-- THE TIED CARD OF 'fasciclelaw13.SchemaMay'. -/
def schemaMayCard : Claim7 := { stood := { row := schemaMayRow, standIns := [], harness := (true, "3e015a0c2ba5258340580abe0e2e5be91c0c990c62a6483011a9faafd513dfa3"), looks := true }, kinds := [], alts := [], laidByText := true, laidKinds := [.data, .pinned], laidTests := true, laidLooks := .later }
def SchemaMayCardSaid : Prop := Claim7.holds Tryd.pinned (.plain (OpenSpec.ofChange schemaMaySpec)) schemaMayCard

/-- THE SECOND FORM's CARD OF 'fasciclelaw05.CodePuts'. -/
def codePutsUptoCard : Claim7 := { stood := { row := codePutsUptoRow, standIns := [], harness := (true, "3e015a0c2ba5258340580abe0e2e5be91c0c990c62a6483011a9faafd513dfa3"), looks := true }, kinds := [], alts := [], laidByText := true, laidKinds := [.data, .pinned], laidTests := true, laidLooks := .later }
def CodePutsUptoCardSaid : Prop := Claim7.holds Tryd.pinned (.plain (OpenSpec.upto codePutsSpec)) codePutsUptoCard

/-- THE SECOND FORM's CARD OF 'fasciclelaw05.CodeBack'. -/
def codeBackUptoCard : Claim7 := { stood := { row := codeBackUptoRow, standIns := [], harness := (true, "3e015a0c2ba5258340580abe0e2e5be91c0c990c62a6483011a9faafd513dfa3"), looks := true }, kinds := [], alts := [], laidByText := true, laidKinds := [.data, .pinned], laidTests := true, laidLooks := .later }
def CodeBackUptoCardSaid : Prop := Claim7.holds Tryd.pinned (.plain (OpenSpec.upto codeBackSpec)) codeBackUptoCard

/-- THE SECOND FORM's CARD OF 'fasciclelaw05.CodeApart'. -/
def codeApartUptoCard : Claim7 := { stood := { row := codeApartUptoRow, standIns := [], harness := (true, "3e015a0c2ba5258340580abe0e2e5be91c0c990c62a6483011a9faafd513dfa3"), looks := true }, kinds := [], alts := [], laidByText := true, laidKinds := [.data, .pinned], laidTests := true, laidLooks := .later }
def CodeApartUptoCardSaid : Prop := Claim7.holds Tryd.pinned (.plain (OpenSpec.upto codeApartSpec)) codeApartUptoCard

/-- THE SECOND FORM's CARD OF 'fasciclelaw05.CodeGets'. -/
def codeGetsUptoCard : Claim7 := { stood := { row := codeGetsUptoRow, standIns := [], harness := (true, "3e015a0c2ba5258340580abe0e2e5be91c0c990c62a6483011a9faafd513dfa3"), looks := true }, kinds := [], alts := [], laidByText := true, laidKinds := [.data, .pinned], laidTests := true, laidLooks := .later }
def CodeGetsUptoCardSaid : Prop := Claim7.holds Tryd.pinned (.plain (OpenSpec.upto codeGetsSpec)) codeGetsUptoCard

/-- THE SECOND FORM's CARD OF 'fasciclelaw23.BufferNil'. -/
def bufferNilUptoCard : Claim7 := { stood := { row := bufferNilUptoRow, standIns := [], harness := (true, "3e015a0c2ba5258340580abe0e2e5be91c0c990c62a6483011a9faafd513dfa3"), looks := true }, kinds := [], alts := [], laidByText := true, laidKinds := [.data, .pinned], laidTests := true, laidLooks := .later }
def BufferNilUptoCardSaid : Prop := Claim7.holds Tryd.pinned (.plain (OpenSpec.upto bufferNilSpec)) bufferNilUptoCard

/-- THE SECOND FORM's CARD OF 'fasciclelaw25.DocPuts'. -/
def docPutsUptoCard : Claim7 := { stood := { row := docPutsUptoRow, standIns := [], harness := (true, "3e015a0c2ba5258340580abe0e2e5be91c0c990c62a6483011a9faafd513dfa3"), looks := true }, kinds := [], alts := [], laidByText := true, laidKinds := [.data, .pinned], laidTests := true, laidLooks := .later }
def DocPutsUptoCardSaid : Prop := Claim7.holds Tryd.pinned (.plain (OpenSpec.upto docPutsSpec)) docPutsUptoCard

/-- THE SECOND FORM's CARD OF 'fasciclelaw25.DocGets'. -/
def docGetsUptoCard : Claim7 := { stood := { row := docGetsUptoRow, standIns := [], harness := (true, "3e015a0c2ba5258340580abe0e2e5be91c0c990c62a6483011a9faafd513dfa3"), looks := true }, kinds := [], alts := [], laidByText := true, laidKinds := [.data, .pinned], laidTests := true, laidLooks := .later }
def DocGetsUptoCardSaid : Prop := Claim7.holds Tryd.pinned (.plain (OpenSpec.upto docGetsSpec)) docGetsUptoCard

/-- THE SECOND FORM's CARD OF 'fasciclelaw16.EventPuts'. -/
def eventPutsUptoCard : Claim7 := { stood := { row := eventPutsUptoRow, standIns := [], harness := (true, "3e015a0c2ba5258340580abe0e2e5be91c0c990c62a6483011a9faafd513dfa3"), looks := true }, kinds := [], alts := [], laidByText := true, laidKinds := [.data, .pinned], laidTests := true, laidLooks := .later }
def EventPutsUptoCardSaid : Prop := Claim7.holds Tryd.pinned (.plain (OpenSpec.upto eventPutsSpec)) eventPutsUptoCard

/-- THE SECOND FORM's CARD OF 'fasciclelaw16.EventMarks'. -/
def eventMarksUptoCard : Claim7 := { stood := { row := eventMarksUptoRow, standIns := [], harness := (true, "3e015a0c2ba5258340580abe0e2e5be91c0c990c62a6483011a9faafd513dfa3"), looks := true }, kinds := [], alts := [], laidByText := true, laidKinds := [.data, .pinned], laidTests := true, laidLooks := .later }
def EventMarksUptoCardSaid : Prop := Claim7.holds Tryd.pinned (.plain (OpenSpec.upto eventMarksSpec)) eventMarksUptoCard

/-- THE SECOND FORM's CARD OF 'fasciclelaw16.EventBack'. -/
def eventBackUptoCard : Claim7 := { stood := { row := eventBackUptoRow, standIns := [], harness := (true, "3e015a0c2ba5258340580abe0e2e5be91c0c990c62a6483011a9faafd513dfa3"), looks := true }, kinds := [], alts := [], laidByText := true, laidKinds := [.data, .pinned], laidTests := true, laidLooks := .later }
def EventBackUptoCardSaid : Prop := Claim7.holds Tryd.pinned (.plain (OpenSpec.upto eventBackSpec)) eventBackUptoCard

/-- THE SECOND FORM's CARD OF 'fasciclelaw13.SchemaCodes'. -/
def schemaCodesUptoCard : Claim7 := { stood := { row := schemaCodesUptoRow, standIns := [], harness := (true, "3e015a0c2ba5258340580abe0e2e5be91c0c990c62a6483011a9faafd513dfa3"), looks := true }, kinds := [], alts := [], laidByText := true, laidKinds := [.data, .pinned], laidTests := true, laidLooks := .later }
def SchemaCodesUptoCardSaid : Prop := Claim7.holds Tryd.pinned (.plain (OpenSpec.upto schemaCodesSpec)) schemaCodesUptoCard

/-- THE SECOND FORM's CARD OF 'fasciclelaw13.SchemaBack'. -/
def schemaBackUptoCard : Claim7 := { stood := { row := schemaBackUptoRow, standIns := [], harness := (true, "3e015a0c2ba5258340580abe0e2e5be91c0c990c62a6483011a9faafd513dfa3"), looks := true }, kinds := [], alts := [], laidByText := true, laidKinds := [.data, .pinned], laidTests := true, laidLooks := .later }
def SchemaBackUptoCardSaid : Prop := Claim7.holds Tryd.pinned (.plain (OpenSpec.upto schemaBackSpec)) schemaBackUptoCard

/-- THE SECOND FORM's CARD OF 'fasciclelaw13.SchemaForest'. -/
def schemaForestUptoCard : Claim7 := { stood := { row := schemaForestUptoRow, standIns := [], harness := (true, "3e015a0c2ba5258340580abe0e2e5be91c0c990c62a6483011a9faafd513dfa3"), looks := true }, kinds := [], alts := [], laidByText := true, laidKinds := [.data, .pinned], laidTests := true, laidLooks := .later }
def SchemaForestUptoCardSaid : Prop := Claim7.holds Tryd.pinned (.plain (OpenSpec.upto schemaForestSpec)) schemaForestUptoCard

/-- THE SECOND FORM's CARD OF 'fasciclelaw13.SchemaMay'. -/
def schemaMayUptoCard : Claim7 := { stood := { row := schemaMayUptoRow, standIns := [], harness := (true, "3e015a0c2ba5258340580abe0e2e5be91c0c990c62a6483011a9faafd513dfa3"), looks := true }, kinds := [], alts := [], laidByText := true, laidKinds := [.data, .pinned], laidTests := true, laidLooks := .later }
def SchemaMayUptoCardSaid : Prop := Claim7.holds Tryd.pinned (.plain (OpenSpec.upto schemaMaySpec)) schemaMayUptoCard
end Rows
end Go.Proofs.YtjdfodmialhakaaDoor
