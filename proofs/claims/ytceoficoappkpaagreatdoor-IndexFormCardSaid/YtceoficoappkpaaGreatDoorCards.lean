/-
  DERIVED. GIVEN WITH THE SEED: THE CARDS: each row of YtceoficoappkpaaGreatDoorRows.lean that lists a variable, with what it lists TIED to the program's text (the seventh form; the later family's looks); each row that meets fmt, with fmt's text TOLD by the authors' own Lean function (tested against real Go, not proved from fmt's source: count such statements apart). THE CARD IS WHAT COUNTS. Prove the row's statement (the work); the ties are given (YtceoficoappkpaaGreatDoorTie.lean); close each card by the builder's one call (the guide's Derived/Test/ToyasCard.lean, 'card_holds'). Laid BY PROGRAM, IN A SANDBOX (cutbox-door.mjs). By AI agents, Wed Nov 11 2026. No macro, syntax, notation, axiom, sorry.
-/
import Derived.Test.YtceoficoappkpaaGreatDoorRows
import GoSem.ClaimSeven
namespace Go.Proofs.YtceoficoappkpaaGreatDoor
namespace Rows

/-- THE TIED CARD OF 'fasciclelaw26.IndexPairs'. -/
def indexPairsCard : Claim7 := { stood := { row := indexPairsRow, standIns := [], harness := (true, "f2466471dde665b238bfa71cddc3d373104c2c1527d4b935ebeb1942fd112e7d"), looks := true }, kinds := [], alts := [], laidByText := true, laidKinds := [.data, .pinned], laidTests := true, laidLooks := .later }
def IndexPairsCardSaid : Prop := Claim7.holds Tryz.pinned (.plain (OpenSpec.ofChange indexPairsSpec)) indexPairsCard

/-- THE TIED CARD OF 'fasciclelaw26.IndexNil'. -/
def indexNilCard : Claim7 := { stood := { row := indexNilRow, standIns := [], harness := (true, "f2466471dde665b238bfa71cddc3d373104c2c1527d4b935ebeb1942fd112e7d"), looks := true }, kinds := [], alts := [], laidByText := true, laidKinds := [.data, .pinned], laidTests := true, laidLooks := .later }
def IndexNilCardSaid : Prop := Claim7.holds Tryz.pinned (.plain (OpenSpec.ofChange indexNilSpec)) indexNilCard

/-- THE TIED CARD OF 'fasciclelaw26.IndexForm'. -/
def indexFormCard : Claim7 := { stood := { row := indexFormRow, standIns := [], harness := (true, "f2466471dde665b238bfa71cddc3d373104c2c1527d4b935ebeb1942fd112e7d"), looks := true }, kinds := [], alts := [], laidByText := true, laidKinds := [.data, .pinned], laidTests := true, laidLooks := .later }
def IndexFormCardSaid : Prop := Claim7.holds Tryz.pinned (.plain (OpenSpec.ofChange indexFormSpec)) indexFormCard

/-- THE TIED CARD OF 'fasciclelaw26.IndexKeys'. -/
def indexKeysCard : Claim7 := { stood := { row := indexKeysRow, standIns := [], harness := (true, "f2466471dde665b238bfa71cddc3d373104c2c1527d4b935ebeb1942fd112e7d"), looks := true }, kinds := [], alts := [], laidByText := true, laidKinds := [.data, .pinned], laidTests := true, laidLooks := .later }
def IndexKeysCardSaid : Prop := Claim7.holds Tryz.pinned (.plain (OpenSpec.ofChange indexKeysSpec)) indexKeysCard

/-- THE SECOND FORM's CARD OF 'fasciclelaw26.IndexPairs'. -/
def indexPairsUptoCard : Claim7 := { stood := { row := indexPairsUptoRow, standIns := [], harness := (true, "f2466471dde665b238bfa71cddc3d373104c2c1527d4b935ebeb1942fd112e7d"), looks := true }, kinds := [], alts := [], laidByText := true, laidKinds := [.data, .pinned], laidTests := true, laidLooks := .later }
def IndexPairsUptoCardSaid : Prop := Claim7.holds Tryz.pinned (.plain (OpenSpec.upto indexPairsSpec)) indexPairsUptoCard

/-- THE SECOND FORM's CARD OF 'fasciclelaw26.IndexNil'. -/
def indexNilUptoCard : Claim7 := { stood := { row := indexNilUptoRow, standIns := [], harness := (true, "f2466471dde665b238bfa71cddc3d373104c2c1527d4b935ebeb1942fd112e7d"), looks := true }, kinds := [], alts := [], laidByText := true, laidKinds := [.data, .pinned], laidTests := true, laidLooks := .later }
def IndexNilUptoCardSaid : Prop := Claim7.holds Tryz.pinned (.plain (OpenSpec.upto indexNilSpec)) indexNilUptoCard

/-- THE SECOND FORM's CARD OF 'fasciclelaw26.IndexForm'. -/
def indexFormUptoCard : Claim7 := { stood := { row := indexFormUptoRow, standIns := [], harness := (true, "f2466471dde665b238bfa71cddc3d373104c2c1527d4b935ebeb1942fd112e7d"), looks := true }, kinds := [], alts := [], laidByText := true, laidKinds := [.data, .pinned], laidTests := true, laidLooks := .later }
def IndexFormUptoCardSaid : Prop := Claim7.holds Tryz.pinned (.plain (OpenSpec.upto indexFormSpec)) indexFormUptoCard

/-- THE SECOND FORM's CARD OF 'fasciclelaw26.IndexKeys'. -/
def indexKeysUptoCard : Claim7 := { stood := { row := indexKeysUptoRow, standIns := [], harness := (true, "f2466471dde665b238bfa71cddc3d373104c2c1527d4b935ebeb1942fd112e7d"), looks := true }, kinds := [], alts := [], laidByText := true, laidKinds := [.data, .pinned], laidTests := true, laidLooks := .later }
def IndexKeysUptoCardSaid : Prop := Claim7.holds Tryz.pinned (.plain (OpenSpec.upto indexKeysSpec)) indexKeysUptoCard
end Rows
end Go.Proofs.YtceoficoappkpaaGreatDoor
