/- The contract of the layer's own examples: they hold. -/
import Derived.Test.YtjdfodmialhakaaDoorGetRow
import Derived.Test.YtjdfodmialhakaaDoorRows2
namespace Go.Proofs.YtjdfodmialhakaaDoor
open Go.RowKit

theorem getrow_err (s : ByteArray) (n : Int) (w : World) (hs : s.size ≤ 140737488355328) (hT : Tabs w) (hR : (getRow s.data.toList).1 = n) (hn : n ≠ 0) :
    Calls Tryd.prog 27 #[.string s] w fun e w' => e = .returned (.tuple #[.slice none 0 0, .int .i64 0, .int .i64 n]) ∧ Below w.heap.size w w' :=
  (getrow_any s w hs hT).mono fun e w' ⟨hb, hx⟩ => by
    rcases hx with ⟨h0, _⟩ | ⟨_, he⟩
    · rw [hR] at h0; exact absurd h0 hn
    · rw [hR] at he; exact ⟨he, hb⟩
theorem VRow.nil_ (w : World) : VRow w none [] := ⟨(fun _ h => by cases h), by simp, (fun h => absurd rfl h)⟩
theorem alive_put1 (w : World) (hT : Tabs w) : Calls Tryd.prog 20 #[.agg #[.int .u8 2, .int .i64 (-2), .int .u64 0, .string ⟨#[]⟩]] w fun e w' => e = .returned (.tuple #[.string ⟨#[2, 254, 255, 255, 255, 255, 255, 255, 255]⟩, .int .i64 0]) ∧ Below w.heap.size w w' := by
  have h := put_any ⟨2, -2, 0, ByteArray.empty⟩ (wf_mk (by omega) (by omega) (by omega) (by omega) (by omega) (by omega) (by decide)) w hT
  have e : putR ⟨2, -2, 0, ByteArray.empty⟩ = .tuple #[.string ⟨#[2, 254, 255, 255, 255, 255, 255, 255, 255]⟩, .int .i64 0] := by rfl
  rw [e] at h
  exact h
theorem alive_put2 (w : World) (hT : Tabs w) : Calls Tryd.prog 20 #[.agg #[.int .u8 5, .int .i64 0, .int .u64 0, .string ⟨#[97, 98]⟩]] w fun e w' => e = .returned (.tuple #[.string ⟨#[5, 2, 97, 98]⟩, .int .i64 0]) ∧ Below w.heap.size w w' := by
  have h := put_any ⟨5, 0, 0, ⟨#[97, 98]⟩⟩ (wf_mk (by omega) (by omega) (by omega) (by omega) (by omega) (by omega) (by decide)) w hT
  have hm : mayB ⟨5, 0, 0, ⟨#[97, 98]⟩⟩ = true := by
    have hv : Lib.validD [97, 98] = true := by decide
    simp [mayB, hv, ByteArray.size]
  have e : putR ⟨5, 0, 0, ⟨#[97, 98]⟩⟩ = .tuple #[.string ⟨#[5, 2, 97, 98]⟩, .int .i64 0] := by
    unfold putR
    rw [hm]
    rfl
  rw [e] at h
  exact h
theorem alive_get1 (w : World) (hT : Tabs w) : Calls Tryd.prog 27 #[.string ⟨#[1, 1, 2]⟩] w fun e w' => e = .returned (.tuple #[.slice none 0 0, .int .i64 0, .int .i64 7]) ∧ Below w.heap.size w w' :=
  getrow_err ⟨#[1, 1, 2]⟩ 7 w (by decide) hT (by decide) (by decide)
theorem alive_get2 (w : World) (hT : Tabs w) : Calls Tryd.prog 27 #[.string ⟨#[1, 1]⟩] w fun e w' => e = .returned (.tuple #[.slice none 0 0, .int .i64 0, .int .i64 6]) ∧ Below w.heap.size w w' :=
  getrow_err ⟨#[1, 1]⟩ 6 w (by decide) hT (by decide) (by decide)
theorem alive_row (w : World) (hT : Tabs w) : Calls Tryd.prog 21 #[.slice none 0 0] w fun e w' => e = .returned (.tuple #[.string ⟨#[]⟩, .int .i64 2]) ∧ Below w.heap.size w w' :=
  putrow_any [] none 0 w (VRow.nil_ w) hT
set_option maxRecDepth 100000 in
theorem alive_any (w : World) (hT : Tabs w) :
    Calls Tryd.prog 18 #[] w fun e w' => e = .returned (.bool true) ∧ Below w.heap.size w w' := by
  have HT := Lib.hid hT
  clear hT
  have H1 := Lib.hid alive_put1
  have H2 := Lib.hid alive_put2
  have H3 := Lib.hid alive_get1
  have H4 := Lib.hid alive_get2
  have H5 := Lib.hid alive_row
  go_enter Tryd.func18, Tryd.ntmps18
  go_wp2_with fail
  refine (H1.out _ HT.out).mono ?_
  rintro e w1 ⟨rfl, hb1⟩
  go_wp2_with fail
  refine (H2.out _ (HT.out.ext hb1)).mono ?_
  rintro e w2 ⟨rfl, hb2⟩
  have hb2' := bt hb1 hb2
  go_wp2_with fail
  refine (H3.out _ (HT.out.ext hb2')).mono ?_
  rintro e w3 ⟨rfl, hb3⟩
  have hb3' := bt hb2' hb3
  go_wp2_with fail
  refine (H4.out _ (HT.out.ext hb3')).mono ?_
  rintro e w4 ⟨rfl, hb4⟩
  have hb4' := bt hb3' hb4
  go_wp2_with fail
  refine (H5.out _ (HT.out.ext hb4')).mono ?_
  rintro e w5 ⟨rfl, hb5⟩
  have hb5' := bt hb4' hb5
  go_wp2_with fail
  go_ret
  exact ⟨rfl, hb5'⟩
end Go.Proofs.YtjdfodmialhakaaDoor
