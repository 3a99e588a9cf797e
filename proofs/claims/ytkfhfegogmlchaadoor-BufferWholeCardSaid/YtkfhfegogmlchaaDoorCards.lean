/-
  DERIVED. GIVEN WITH THE SEED: THE CARDS: each row of YtkfhfegogmlchaaDoorRows.lean that lists a variable, with what it lists TIED to the program's text (the seventh form; the later family's looks); each row that meets fmt, with fmt's text TOLD by the authors' own Lean function (tested against real Go, not proved from fmt's source: count such statements apart). THE CARD IS WHAT COUNTS. Prove the row's statement (the work); the ties are given (YtkfhfegogmlchaaDoorTie.lean); close each card by the builder's one call (the guide's Derived/Test/ToyasCard.lean, 'card_holds'). Laid BY PROGRAM, IN A SANDBOX (cutbox-door.mjs). By AI agents, Wed Nov 11 2026. No macro, syntax, notation, axiom, sorry.
-/
import Derived.Test.YtkfhfegogmlchaaDoorRows
import GoSem.ClaimSeven
namespace Go.Proofs.YtkfhfegogmlchaaDoor
namespace Rows

/-- THE TIED CARD OF 'fasciclelaw23.BufferWhole'. -/
def bufferWholeCard : Claim7 := { stood := { row := bufferWholeRow, standIns := [], harness := (true, "e7b4b514d8f15d6902a993b1f7435764f45b3e7572d7d3a8d1c20684c5abea8a"), looks := true }, kinds := [], alts := [], laidByText := true, laidKinds := [.data, .pinned], laidTests := true, laidLooks := .later }
def BufferWholeCardSaid : Prop := Claim7.holds Tryd.pinned (.plain (OpenSpec.ofChange bufferWholeSpec)) bufferWholeCard

/-- THE SECOND FORM's CARD OF 'fasciclelaw23.BufferWhole'. -/
def bufferWholeUptoCard : Claim7 := { stood := { row := bufferWholeUptoRow, standIns := [], harness := (true, "e7b4b514d8f15d6902a993b1f7435764f45b3e7572d7d3a8d1c20684c5abea8a"), looks := true }, kinds := [], alts := [], laidByText := true, laidKinds := [.data, .pinned], laidTests := true, laidLooks := .later }
def BufferWholeUptoCardSaid : Prop := Claim7.holds Tryd.pinned (.plain (OpenSpec.upto bufferWholeSpec)) bufferWholeUptoCard
end Rows
end Go.Proofs.YtkfhfegogmlchaaDoor
