/- The contract of the reference's Get. -/
import Derived.Test.YtjdfodmialhakaaDoorRef6
namespace Go.Proofs.YtjdfodmialhakaaDoor
open Go.RowKit

def trip (R : Int × V × Nat) : Value := .tuple #[R.2.1.agg, .int .i64 R.2.2, .int .i64 R.1]
theorem ret_get {tmps : Array Value} {W : World} {b : Nat} (v : V) (n e : Int) (ht : tmps.getD 2 undef = .pointer (some ⟨b, 0, none⟩)) (h3 : tmps.getD 3 undef = .int .i64 n) (h4 : tmps.getD 4 undef = .int .i64 e) (h : VBlk W b v) :
    (results Tryd.f29 tmps).run Tryd.prog W = .ok (.tuple #[v.agg, .int .i64 n, .int .i64 e]) W := by
  have hl := load_V v h
  have ht' : tmps[2]?.getD undef = .pointer (some ⟨b, 0, none⟩) := by simpa using ht
  have h3' : tmps[3]?.getD undef = .int .i64 n := by simpa using h3
  have h4' : tmps[4]?.getD undef = .int .i64 e := by simpa using h4
  simp only [results, Tryd.results29]
  simp [ht', h3', h4', asAddr, hl]
set_option maxRecDepth 100000 in
set_option maxHeartbeats 400000 in
theorem refget_short (s : ByteArray) (hs : s.size ≤ 140737488355328) (z : Int) (hz : sizeL s.data.toList = z) (h : z < 0 ∨ (0 ≤ z ∧ (s.size : Int) < z)) (bb : Bool)
    (hB : ∀ W, Tabs W → Calls Tryd.prog 104 #[.string s] W fun e w' => e = .returned (.bool bb) ∧ Below W.heap.size W w') (w : World) (hT : Tabs w) :
    Calls Tryd.prog 29 #[.string s] w fun e w' => e = .returned (trip (if bb then 6 else 7, V0, 0)) ∧ Below w.heap.size w w' := by
  have hS := fun W => refsize_any s W hs
  rw [hz] at hS
  have HS := Lib.hid hS
  have HB := Lib.hid hB
  have HT := Lib.hid hT
  clear hS hB hT hz
  have tail : ∀ (a : Act) (w1 : World) (E : Int), VBlk w1 w.heap.size V0 → Below w.heap.size w w1 → a.tmps.getD 2 undef = .pointer (some ⟨w.heap.size, 0, none⟩) → a.tmps.getD 3 undef = .int .i64 0 → a.tmps.getD 4 undef = .int .i64 E → a.defers = [] →
      bodyPost Tryd.prog Tryd.f29 (fun e w' => e = .returned (trip (E, V0, 0)) ∧ Below w.heap.size w w') Exit.ret a ((((w1.setCell ⟨w.heap.size, 0, none⟩ (.int .u8 0)).setCell ⟨w.heap.size, 1, none⟩ (.int .i64 0)).setCell ⟨w.heap.size, 2, none⟩ (.int .u64 0)).setCell ⟨w.heap.size, 3, none⟩ (.string ByteArray.empty)) := by
    intro a w1 E hV hb h2 h3 h4 hd
    refine bodyPost_ret (ret_get V0 0 E h2 h3 h4 (hV.set4 0 0 0 ByteArray.empty)) hd ⟨rfl, ?_⟩
    exact (((hb.setCell (Nat.le_refl _) _).setCell (Nat.le_refl _) _).setCell (Nat.le_refl _) _).setCell (Nat.le_refl _) _
  have TL := Lib.hid tail
  clear tail
  rcases h with h | h
  · have hd1 : decide (z < 0) = true := by simpa using h
    cases bb
    all_goals
      go_enter Tryd.func29, Tryd.ntmps29
      go_wp2_with (first | (go_at_call 103; refine (HS.out _).mono ?_; rintro e w' ⟨rfl, rfl⟩) | (go_at_call 104; refine (HB.out _ (HT.out.ext ((Below.refl _ _).alloc (Nat.le_refl _) _))).mono ?_; rintro e w1 ⟨rfl, hb1⟩; have hV := (VBlk.new w).ext hb1; obtain ⟨d0, d1, d2, d3, d4⟩ := hV.zero; have HV := Lib.hid hV; have HB1 := Lib.hid hb1; clear hV hb1))
      exact TL.out _ _ _ HV.out (bt ((Below.refl _ _).alloc (Nat.le_refl _) _) HB1.out) rfl rfl rfl rfl
  · obtain ⟨h1, h2⟩ := h
    cases bb
    all_goals
      go_enter Tryd.func29, Tryd.ntmps29
      go_wp2_with (first | (go_at_call 103; refine (HS.out _).mono ?_; rintro e w' ⟨rfl, rfl⟩) | (go_at_call 104; refine (HB.out _ (HT.out.ext ((Below.refl _ _).alloc (Nat.le_refl _) _))).mono ?_; rintro e w1 ⟨rfl, hb1⟩; have hV := (VBlk.new w).ext hb1; obtain ⟨d0, d1, d2, d3, d4⟩ := hV.zero; have HV := Lib.hid hV; have HB1 := Lib.hid hb1; clear hV hb1))
      exact TL.out _ _ _ HV.out (bt ((Below.refl _ _).alloc (Nat.le_refl _) _) HB1.out) rfl rfl rfl rfl
theorem VBlk.cells4 {w : World} {b : Nat} {k n r : Int} {t : ByteArray} (h : VBlk w b ⟨k, n, r, t⟩) : w.cell? ⟨b, 0, none⟩ = some (.int .u8 k) ∧ w.cell? ⟨b, 1, none⟩ = some (.int .i64 n) ∧ w.cell? ⟨b, 2, none⟩ = some (.int .u64 r) ∧ w.cell? ⟨b, 3, none⟩ = some (.string t) ∧ ∀ i, w.frozen? ⟨b, i, none⟩ = false :=
  ⟨cell_of_row w b 0 _ _ (0, 0) h, cell_of_row w b 1 _ _ (0, 0) h, cell_of_row w b 2 _ _ (0, 0) h, cell_of_row w b 3 _ _ (0, 0) h, fun i => by unfold VBlk at h; simp [World.frozen?, h]⟩
theorem VBlk.mk4 (w : World) (k n r : Int) (t : ByteArray) : VBlk (w.alloc (.cells #[.int .u8 k, .int .i64 n, .int .u64 r, .string t] 24)) w.heap.size ⟨k, n, r, t⟩ := heap_alloc_new w _
theorem ret_end {w w1 : World} {a : Act} (v : V) (n E : Int) (hV : VBlk w1 w.heap.size V0) (hb : Below w.heap.size w w1) (h2 : a.tmps.getD 2 undef = .pointer (some ⟨w.heap.size, 0, none⟩)) (h3 : a.tmps.getD 3 undef = .int .i64 n) (h4 : a.tmps.getD 4 undef = .int .i64 E) (hd : a.defers = []) :
      bodyPost Tryd.prog Tryd.f29 (fun e w' => e = .returned (.tuple #[v.agg, .int .i64 n, .int .i64 E]) ∧ Below w.heap.size w w') Exit.ret a ((((w1.setCell ⟨w.heap.size, 0, none⟩ (.int .u8 v.k)).setCell ⟨w.heap.size, 1, none⟩ (.int .i64 v.n)).setCell ⟨w.heap.size, 2, none⟩ (.int .u64 v.r)).setCell ⟨w.heap.size, 3, none⟩ (.string v.t)) := by
  refine bodyPost_ret (ret_get v n E h2 h3 h4 (hV.set4 v.k v.n v.r v.t)) hd ⟨rfl, ?_⟩
  exact (((hb.setCell (Nat.le_refl _) _).setCell (Nat.le_refl _) _).setCell (Nat.le_refl _) _).setCell (Nat.le_refl _) _
set_option maxRecDepth 100000 in
set_option maxHeartbeats 400000 in
theorem refget_long (s : ByteArray) (hs : s.size ≤ 140737488355328) (z : Nat) (hz : sizeL s.data.toList = z) (h : z ≤ s.size) (v : V) (hv : v.wf)
    (hW : ∀ W, Calls Tryd.prog 105 #[.string (s.extract 0 z)] W fun e w' => e = .returned v.agg ∧ Below W.heap.size W w') (w : World) (hT : Tabs w) :
    Calls Tryd.prog 29 #[.string s] w fun e w' => e = .returned (trip (finV v z)) ∧ Below w.heap.size w w' := by
  have hS := fun W => refsize_any s W hs
  rw [hz] at hS
  have hM := fun W hW => may_any v hv W hW
  obtain ⟨k, n, r, t⟩ := v
  have hsl := slice_upto s z h
  have h0 : (0 : Int) ≤ z := by omega
  have h1 : (z : Int) ≤ s.size := by omega
  have HS := Lib.hid hS
  have HT := Lib.hid hT
  cases hm : mayB ⟨k, n, r, t⟩
  · rw [finV_not hm]
    rw [hm] at hM
    unfold V.agg at hM hW
    have HM := Lib.hid hM
    have HW := Lib.hid hW
    clear hS hM hW hT hz hm hv
    go_enter Tryd.func29, Tryd.ntmps29
    go_wp2_with (first | (go_at_call 103; refine (HS.out _).mono ?_; rintro e w' ⟨rfl, rfl⟩) | (go_at_call 105; refine (HW.out _).mono ?_; rintro e w1 ⟨rfl, hb1⟩; have hz1 : w.heap.size < w1.heap.size := (by have := hb1.size; simp at this; omega); have hV := (VBlk.new w).ext hb1; have HV := Lib.hid hV; have HB1 := Lib.hid (bt ((Below.refl w.heap.size w).alloc (Nat.le_refl _) _) hb1); clear hV hb1) | (go_at_call 23; refine (HM.out _ (HT.out.ext (bt HB1.out ((Below.refl _ _).alloc (Nat.le_refl _) _)))).mono ?_; rintro e w2 ⟨rfl, hb2⟩; have hV2 := (HV.out.ext ((Below.refl _ _).alloc (Nat.le_refl _) _)).ext hb2; have hU2 := (VBlk.mk4 w1 k n r t).ext hb2; obtain ⟨d0, d1, d2, d3, d4⟩ := hV2.zero; obtain ⟨c0, c1, c2, c3, c4⟩ := hU2.cells4; have HV2 := Lib.hid hV2; have HB2 := Lib.hid (bt HB1.out (bt ((Below.refl w1.heap.size w1).alloc (Nat.le_refl _) _) hb2)); clear hV2 hb2 hU2))
    exact ret_end V0 0 7 HV2.out HB2.out rfl rfl rfl rfl
  · rw [finV_yes hm]
    rw [hm] at hM
    unfold V.agg at hM hW
    have HM := Lib.hid hM
    have HW := Lib.hid hW
    clear hS hM hW hT hz hm hv
    go_enter Tryd.func29, Tryd.ntmps29
    go_wp2_with (first | (go_at_call 103; refine (HS.out _).mono ?_; rintro e w' ⟨rfl, rfl⟩) | (go_at_call 105; refine (HW.out _).mono ?_; rintro e w1 ⟨rfl, hb1⟩; have hz1 : w.heap.size < w1.heap.size := (by have := hb1.size; simp at this; omega); have hV := (VBlk.new w).ext hb1; have HV := Lib.hid hV; have HB1 := Lib.hid (bt ((Below.refl w.heap.size w).alloc (Nat.le_refl _) _) hb1); clear hV hb1) | (go_at_call 23; refine (HM.out _ (HT.out.ext (bt HB1.out ((Below.refl _ _).alloc (Nat.le_refl _) _)))).mono ?_; rintro e w2 ⟨rfl, hb2⟩; have hV2 := (HV.out.ext ((Below.refl _ _).alloc (Nat.le_refl _) _)).ext hb2; have hU2 := (VBlk.mk4 w1 k n r t).ext hb2; obtain ⟨d0, d1, d2, d3, d4⟩ := hV2.zero; obtain ⟨c0, c1, c2, c3, c4⟩ := hU2.cells4; have HV2 := Lib.hid hV2; have HB2 := Lib.hid (bt HB1.out (bt ((Below.refl w1.heap.size w1).alloc (Nat.le_refl _) _) hb2)); clear hV2 hb2 hU2))
    exact ret_end ⟨k, n, r, t⟩ z 0 HV2.out HB2.out rfl rfl rfl rfl
end Go.Proofs.YtjdfodmialhakaaDoor
