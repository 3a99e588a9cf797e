/- EventMarks, for every mark and text that can be read: it answers true, and both read as they did. The two tables of unicode/utf8 start as its text lays them (the card ties them). -/
import Derived.Test.YtjdfodmialhakaaDoorCardEvMarksA
namespace Go.Proofs.YtjdfodmialhakaaDoor.cardEventMarks
open Go.ChangeShapes Go.WideShapes Go.ChangeAt Go.RowKit Go.Deep

set_option maxRecDepth 100000 in
theorem lifted (os : Os) (started : os.Started) (H : Type) (enc : TypeId × Value → H) (F : Stop.Interp) :
    ReturnsInHanded {} Tryd.checked os 11 .any ((OpenSpec.ofChange Rows.eventMarksSpec).preRow enc Tryd.prog Tryd.f11 Rows.eventMarksRow.domain false Rows.eventMarksRow.laid) (((OpenSpec.ofChange Rows.eventMarksSpec).at F).post enc Tryd.prog Tryd.f11 false true false false) := by
  obtain ⟨places, hx⟩ := reads os enc
  refine returnsInHanded_of_row (C := Tryd.checked) (s := OpenSpec.ofChange Rows.eventMarksSpec) own started (by kernel_rfl) Tryd.func11
    (witness_row_at (enc := enc) (C := Tryd.checked) false (laidWorld os) #[(.agg #[.int .u8 0, .int .u64 0, .slice none 0 0, .slice none 0 0]), .string ⟨#[]⟩] rfl (by kernel_rfl) (by kernel_rfl) (by kernel_rfl)
      (OpenSpec.preRow_of_cond 8 hx (by kernel_rfl) (fun k hk => by cases hk) (by kernel_rfl) (laid_met os))) ?_
  intro W base args ds gs before hval hW _ _ hsz hL _ _
  exact contract H enc W base args ds gs before hval hW hsz hL

end Go.Proofs.YtjdfodmialhakaaDoor.cardEventMarks
