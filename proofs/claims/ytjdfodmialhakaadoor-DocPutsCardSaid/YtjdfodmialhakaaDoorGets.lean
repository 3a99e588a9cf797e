/- The walk of CodeGets: whatever bytes come in, it answers true. -/
import Derived.Test.YtjdfodmialhakaaDoorGet
import Derived.Test.YtjdfodmialhakaaDoorBack
namespace Go.Proofs.YtjdfodmialhakaaDoor
open Go.RowKit

theorem getRow_no {l : List UInt8} (h : ¬ (getRow l).1 = 0) : (getRow l).2.1 = [] ∧ (getRow l).2.2 = 0 := by
  cases l with
  | nil => exact ⟨rfl, rfl⟩
  | cons c r =>
    rw [getRow] at h ⊢
    by_cases h1 : c.toNat < 1 ∨ 8 < c.toNat
    · rw [if_pos h1]; exact ⟨rfl, rfl⟩
    · rw [if_neg h1] at h ⊢
      by_cases h2 : (getVs c.toNat r).1 = 0
      · rw [if_pos h2] at h; exact absurd rfl h
      · rw [if_neg h2]; exact ⟨rfl, rfl⟩
theorem post_tri {w w' : World} {l : List UInt8} {e : Ending} (h : RowPost w (getRow l) e w') :
    ∃ A c, e = .returned (.tuple #[.slice A (getRow l).2.1.length c, .int .i64 (getRow l).2.2, .int .i64 (getRow l).1]) ∧ VRow w' A (getRow l).2.1 ∧ Below w.heap.size w w' := by
  obtain ⟨hb, hx⟩ := h
  rcases hx with ⟨h0, A, c, he, ho⟩ | ⟨hn, he⟩
  · obtain ⟨b1, b2, _⟩ := getRow_back h0
    refine ⟨A, c, by rw [he, h0], (VRow.of_own b2 (by have := (row_may b1).2.1; omega) ho).1, hb⟩
  · obtain ⟨k1, k2⟩ := getRow_no hn
    refine ⟨none, 0, by rw [he, k1, k2]; rfl, by rw [k1]; exact VRow.nil_ _, hb⟩
set_option maxRecDepth 100000 in
set_option maxHeartbeats 800000 in
theorem gets_walk (s : ByteArray) (hs : s.size ≤ 140737488355328) (w : World) (hT : Tabs w) :
    Calls Tryd.prog 6 #[.string s] w fun e w' => e = .returned (.bool true) ∧ Below w.heap.size w w' := by
  by_cases h : 16384 < s.size
  · have hi : (16384 : Int) < s.size := by omega
    have HA := Lib.hid (alive_any _ hT)
    clear hT h
    go_enter Tryd.func6, Tryd.ntmps6
    go_wp2_with fail
    refine (HA.out).mono ?_
    rintro e w1 ⟨rfl, hb1⟩
    go_wp2_with fail
    go_ret
    exact ⟨rfl, hb1⟩
  · have hi : (s.size : Int) ≤ 16384 := by omega
    have HT := Lib.hid hT
    have hget := fun W hW => get_any s W hs hW
    have href := fun W hW => refget_any s hs W hW
    rw [← getV_refG] at href
    unfold trip at hget href
    have hrow := fun W hW => (getrow_any s W hs hW).mono (fun e w' h => post_tri h)
    have hrrow := fun W hW => (refgetrow_any s W hs hW).mono (fun e w' h => post_tri h)
    generalize getV s.data.toList = G at hget href
    generalize getRow s.data.toList = R at hrow hrrow
    obtain ⟨E, ⟨vk, vn, vr, vt⟩, z⟩ := G
    obtain ⟨E2, vs, z2⟩ := R
    unfold V.agg at hget href
    simp only at hget href hrow hrrow
    have HGET := Lib.hid hget
    have HREF := Lib.hid href
    have HROW := Lib.hid hrow
    have HRROW := Lib.hid hrrow
    clear hget href hrow hrrow hT h
    go_enter Tryd.func6, Tryd.ntmps6
    go_wp2_with fail
    refine (HGET.out _ HT.out).mono ?_
    rintro e w1 ⟨rfl, hb1⟩
    go_wp2_with fail
    have hc1 := VBlk.mk4 w1 vk vn vr vt
    have hB1 := hb1.alloc hb1.size (.cells #[.int .u8 vk, .int .i64 vn, .int .u64 vr, .string vt] 24)
    refine (HREF.out _ (HT.out.ext hB1)).mono ?_
    rintro e w2 ⟨rfl, hb2⟩
    have hB2 := bt hB1 hb2
    have hc2 := hc1.ext hb2
    have HC2 := Lib.hid hc2
    clear hb1 hb2 hB1 hc1 hc2
    go_wp2_with fail
    have hd2 := VBlk.mk4 w2 vk vn vr vt
    have hB3 := hB2.alloc hB2.size (.cells #[.int .u8 vk, .int .i64 vn, .int .u64 vr, .string vt] 24)
    have hc3 := HC2.out.ext ((Below.refl w2.heap.size w2).alloc (Nat.le_refl _) (.cells #[.int .u8 vk, .int .i64 vn, .int .u64 vr, .string vt] 24))
    refine (HROW.out _ (HT.out.ext hB3)).mono ?_
    rintro e w3 ⟨A3, c3, rfl, hr3, hb3⟩
    have hB4 := bt hB3 hb3
    have hc4 := hc3.ext hb3
    have hd4 := hd2.ext hb3
    have HC4 := Lib.hid hc4
    have HD4 := Lib.hid hd4
    have HR3 := Lib.hid hr3
    clear hB2 hB3 hb3 hc3 hd2 hc4 hd4 hr3 HC2
    go_wp2_with fail
    refine (HRROW.out _ (HT.out.ext hB4)).mono ?_
    rintro e w4 ⟨A4, c4, rfl, hr4, hb4⟩
    have hB5 := bt hB4 hb4
    have hr34 := HR3.out.ext hb4
    obtain ⟨u0, u1, u2, u3, u4⟩ := (HC4.out.ext hb4).cells4
    obtain ⟨f0, f1, f2, f3, f4⟩ := (HD4.out.ext hb4).cells4
    have HR4 := Lib.hid hr4
    have HR34 := Lib.hid hr34
    clear hB4 hb4 hr4 hr34 HC4 HD4 HR3
    go_wp2_with fail
    refine (same_self vs A3 A4 c3 c4 _ HR34.out HR4.out).mono ?_
    rintro e w5 ⟨rfl, hb5⟩
    have hB6 := bt hB5 hb5
    go_wp2_with fail
    refine (alive_any _ (HT.out.ext hB6)).mono ?_
    rintro e w6 ⟨rfl, hb6⟩
    go_wp2_with fail
    go_ret
    exact ⟨rfl, bt hB6 hb6⟩
end Go.Proofs.YtjdfodmialhakaaDoor
