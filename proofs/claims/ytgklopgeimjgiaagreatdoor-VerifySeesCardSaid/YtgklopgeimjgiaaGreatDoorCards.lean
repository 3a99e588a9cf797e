/-
  DERIVED. GIVEN WITH THE SEED: THE CARDS: each row of YtgklopgeimjgiaaGreatDoorRows.lean that lists a variable, with what it lists TIED to the program's text (the seventh form; the later family's looks); each row that meets fmt, with fmt's text TOLD by the authors' own Lean function (tested against real Go, not proved from fmt's source: count such statements apart). THE CARD IS WHAT COUNTS. Prove the row's statement (the work); the ties are given (YtgklopgeimjgiaaGreatDoorTie.lean); close each card by the builder's one call (the guide's Derived/Test/ToyasCard.lean, 'card_holds'). Laid BY PROGRAM, IN A SANDBOX (cutbox-door.mjs). By AI agents, Wed Nov 11 2026. No macro, syntax, notation, axiom, sorry.
-/
import Derived.Test.YtgklopgeimjgiaaGreatDoorRows
import GoSem.ClaimSeven
namespace Go.Proofs.YtgklopgeimjgiaaGreatDoor
namespace Rows

/-- THE TIED CARD OF 'fasciclelaw35.VerifySees'. -/
def verifySeesCard : Claim7 := { stood := { row := verifySeesRow, standIns := [], harness := (true, "407343d0253701fd4810eadfaf187f90d840a14f70cf3adf2136c472eecf9e11"), looks := false }, kinds := [], alts := [], laidByText := true, laidKinds := [.data, .pinned], laidTests := true, laidLooks := .later }
def VerifySeesCardSaid : Prop := Claim7.holds Tryz.pinned (.plain (OpenSpec.ofChange verifySeesSpec)) verifySeesCard

/-- THE SECOND FORM's CARD OF 'fasciclelaw35.VerifySees'. -/
def verifySeesUptoCard : Claim7 := { stood := { row := verifySeesUptoRow, standIns := [], harness := (true, "407343d0253701fd4810eadfaf187f90d840a14f70cf3adf2136c472eecf9e11"), looks := false }, kinds := [], alts := [], laidByText := true, laidKinds := [.data, .pinned], laidTests := true, laidLooks := .later }
def VerifySeesUptoCardSaid : Prop := Claim7.holds Tryz.pinned (.plain (OpenSpec.upto verifySeesSpec)) verifySeesUptoCard
end Rows
end Go.Proofs.YtgklopgeimjgiaaGreatDoor
