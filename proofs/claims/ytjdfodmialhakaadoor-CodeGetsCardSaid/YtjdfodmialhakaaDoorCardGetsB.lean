/- CodeGets, for every text that can be read: it answers true, and the text reads as it did. The two tables of unicode/utf8 start as its text lays them (the card ties them). -/
import Derived.Test.YtjdfodmialhakaaDoorCardGetsA
namespace Go.Proofs.YtjdfodmialhakaaDoor.cardCodeGets
open Go.ChangeShapes Go.WideShapes Go.ChangeAt Go.RowKit Go.Deep

set_option maxRecDepth 100000 in
theorem lifted (os : Os) (started : os.Started) (H : Type) (enc : TypeId × Value → H) (F : Stop.Interp) :
    ReturnsInHanded {} Tryd.checked os 6 .any ((OpenSpec.ofChange Rows.codeGetsSpec).preRow enc Tryd.prog Tryd.f6 Rows.codeGetsRow.domain false Rows.codeGetsRow.laid) (((OpenSpec.ofChange Rows.codeGetsSpec).at F).post enc Tryd.prog Tryd.f6 false true false false) := by
  obtain ⟨places, hx⟩ := reads os enc
  refine returnsInHanded_of_row (C := Tryd.checked) (s := OpenSpec.ofChange Rows.codeGetsSpec) own started (by kernel_rfl) Tryd.func6
    (witness_row_at (enc := enc) (C := Tryd.checked) false (laidWorld os) #[.string ⟨#[]⟩] rfl (by kernel_rfl) (by kernel_rfl) (by kernel_rfl)
      (OpenSpec.preRow_of_cond 8 hx (by kernel_rfl) (fun k hk => by cases hk) (by kernel_rfl) (laid_met os))) ?_
  intro W base args ds gs before hval hW _ _ hsz hL _ _
  exact contract H enc W base args ds gs before hval hW hsz hL

end Go.Proofs.YtjdfodmialhakaaDoor.cardCodeGets
