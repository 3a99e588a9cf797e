/- The walk of CodePuts: whatever value and row come in, it answers true. -/
import Derived.Test.YtjdfodmialhakaaDoorApart
namespace Go.Proofs.YtjdfodmialhakaaDoor
open Go.RowKit

theorem put_err (v : V) (hv : v.wf) (w : World) (hT : Tabs w) (hm : mayB v = false) :
    Calls Tryd.prog 20 #[v.agg] w fun e w' => e = .returned (.tuple #[.string ⟨#[]⟩, .int .i64 2]) ∧ Below w.heap.size w w' := by
  have h := put_any v hv w hT
  unfold putR at h
  rw [hm] at h
  exact h
theorem put_ok (v : V) (hv : v.wf) (w : World) (hT : Tabs w) (hm : mayB v = true) :
    Calls Tryd.prog 20 #[v.agg] w fun e w' => e = .returned (.tuple #[.string ⟨(putL v).toArray⟩, .int .i64 0]) ∧ Below w.heap.size w w' := by
  have h := put_any v hv w hT
  unfold putR at h
  rw [hm] at h
  exact h
theorem may_is (v : V) (hv : v.wf) (w : World) (hT : Tabs w) (b : Bool) (hm : mayB v = b) :
    Calls Tryd.prog 23 #[v.agg] w fun e w' => e = .returned (.bool b) ∧ Below w.heap.size w w' := by
  have h := may_any v hv w hT
  rwa [hm] at h
theorem row_is (l : List V) (A : Option Addr) (c : Nat) (w : World) (hr : VRow w A l) (hT : Tabs w) (b : Bool) (hm : rowB l = b) :
    Calls Tryd.prog 24 #[.slice A l.length c] w fun e w' => e = .returned (.bool b) ∧ Below w.heap.size w w' := by
  have h := refrow_any l A c w hr hT
  rwa [hm] at h
theorem same_self (l : List V) (A B : Option Addr) (c d : Nat) (w : World) (hr : VRow w A l) (hs : VRow w B l) :
    Calls Tryd.prog 22 #[.slice A l.length c, .slice B l.length d] w fun e w' => e = .returned (.bool true) ∧ Below w.heap.size w w' := by
  have h := same_any l l A B c d w hr hs
  rwa [decide_eq_true rfl] at h
theorem VBlk.cells {w : World} {b : Nat} {v : V} (h : VBlk w b v) : w.cell? ⟨b, 0, none⟩ = some (.int .u8 v.k) ∧ w.cell? ⟨b, 1, none⟩ = some (.int .i64 v.n) ∧ w.cell? ⟨b, 2, none⟩ = some (.int .u64 v.r) ∧ w.cell? ⟨b, 3, none⟩ = some (.string v.t) :=
  ⟨cell_of_row w b 0 _ _ (0, 0) h, cell_of_row w b 1 _ _ (0, 0) h, cell_of_row w b 2 _ _ (0, 0) h, cell_of_row w b 3 _ _ (0, 0) h⟩
theorem VBlk.made (w : World) (v : V) : VBlk (w.alloc (.cells #[.int .u8 v.k, .int .i64 v.n, .int .u64 v.r, .string v.t] 24)) w.heap.size v := heap_alloc_new w _
theorem putRowL_length {l : List V} (hm : rowB l = true) : (putRowL l).length ≤ 825 := by
  obtain ⟨_, h8, hall⟩ := row_may hm
  have h : ∀ m : List V, (∀ v ∈ m, mayB v = true) → (m.flatMap putL).length ≤ 102 * m.length := by
    intro m
    induction m with
    | nil => intro _; simp
    | cons v m ih =>
      intro hm
      have h1 := putL_length (hm v (by simp))
      have h2 := ih (fun x hx => hm x (by simp [hx]))
      simp only [List.flatMap_cons, List.length_append, List.length_cons]
      omega
  have := h l hall
  unfold putRowL
  rw [List.length_cons]
  omega

set_option maxRecDepth 100000 in
theorem puts_long (v : V) (l : List V) (A : Option Addr) (c : Nat) (w : World) (hr : VRow w A l) (hT : Tabs w) (hv : v.wf) (h : 4000 < longN l ∨ 16384 < v.t.size) :
    Calls Tryd.prog 3 #[v.agg, .slice A l.length c] w fun e w' => e = .returned (.bool true) ∧ Below w.heap.size w w' := by
  obtain ⟨vk, vn, vr, vt⟩ := v
  have hts : vt.size ≤ 140737488355328 := hv.2.2.2.2.2.2
  unfold V.agg
  have hb0 : Below w.heap.size w (w.alloc (.cells #[.int .u8 vk, .int .i64 vn, .int .u64 vr, .string vt] 24)) := (Below.refl _ _).alloc (Nat.le_refl _) _
  have HA := Lib.hid (alive_any _ (hT.ext hb0))
  have HB0 := Lib.hid hb0
  by_cases h1 : 4000 < longN l
  · have H1 := Lib.hid (long_yes l A c _ (hr.ext hb0) h1)
    clear hr hT h h1 hv hb0
    go_enter Tryd.func3, Tryd.ntmps3
    go_wp2_with fail
    refine (H1.out).mono ?_
    rintro e w' ⟨rfl, rfl⟩
    go_wp2_with fail
    refine (HA.out).mono ?_
    rintro e w1 ⟨rfl, hb⟩
    go_wp2_with fail
    go_ret
    exact ⟨rfl, bt HB0.out hb⟩
  · have H1 := Lib.hid (long_not l A c _ (hr.ext hb0) h1)
    have h2 : 16384 < vt.size := h.resolve_left h1
    clear hr hT h h1 hv hb0
    go_enter Tryd.func3, Tryd.ntmps3
    go_wp2_with fail
    refine (H1.out).mono ?_
    rintro e w' ⟨rfl, rfl⟩
    go_wp2_with fail
    refine (HA.out).mono ?_
    rintro e w1 ⟨rfl, hb⟩
    go_wp2_with fail
    go_ret
    exact ⟨rfl, bt HB0.out hb⟩
set_option maxRecDepth 100000 in
set_option maxHeartbeats 800000 in
theorem puts_yy (v : V) (l : List V) (A : Option Addr) (c : Nat) (w : World) (hr : VRow w A l) (hT : Tabs w) (hv : v.wf) (h1 : ¬ 4000 < longN l) (h2 : v.t.size ≤ 16384) (hm : mayB v = true) (hm' : rowB l = true) :
    Calls Tryd.prog 3 #[v.agg, .slice A l.length c] w fun e w' => e = .returned (.bool true) ∧ Below w.heap.size w w' := by
  obtain ⟨vk, vn, vr, vt⟩ := v
  simp only at h2
  have l1 := long_len h1
  have HB0 := Lib.hid ((Below.refl w.heap.size w).alloc (Nat.le_refl _) (.cells #[.int .u8 vk, .int .i64 vn, .int .u64 vr, .string vt] 24))
  have HV0 := Lib.hid (VBlk.made w ⟨vk, vn, vr, vt⟩)
  have H1 := Lib.hid (long_not l A c _ (hr.ext HB0.out) h1)
  have HR := Lib.hid hr
  have HT := Lib.hid hT
  have HWF := Lib.hid hv
  have HM := Lib.hid hm
  have HM' := Lib.hid hm'
  have hlen := putRowL_length hm'
  clear hr hT hv h1 hm hm'
  unfold V.agg
  go_enter Tryd.func3, Tryd.ntmps3
  go_wp2_with fail
  refine (H1.out).mono ?_
  rintro e w' ⟨rfl, rfl⟩
  have hB0 := HB0.out
  go_wp2_with fail
  refine (copy_row l A c _ (HR.out.ext hB0) l1).mono ?_
  rintro e w1 ⟨A1, c1', rfl, hr1, hb1⟩
  have hV1 := HV0.out.ext hb1
  have hB1 := bt hB0 hb1
  obtain ⟨c0, c1, c2, c3⟩ := hV1.cells
  simp only at c0 c1 c2 c3
  have HV1 := Lib.hid hV1
  have HR1 := Lib.hid hr1
  clear hb1 hV1 hr1
  go_wp2_with fail
  refine (put_ok ⟨vk, vn, vr, vt⟩ HWF.out _ (HT.out.ext hB1) HM.out).mono ?_
  rintro e w2 ⟨rfl, hb2⟩
  have hV2 := HV1.out.ext hb2
  have hB2 := bt hB1 hb2
  have hr2 := HR1.out.ext hb2
  clear c0 c1 c2 c3
  obtain ⟨c0, c1, c2, c3⟩ := hV2.cells
  simp only at c0 c1 c2 c3
  have HV2 := Lib.hid hV2
  have HR2 := Lib.hid hr2
  clear hb2 hV2 hr2
  go_wp2_with fail
  refine (putrow_ok l A1 c1' _ HR2.out (HT.out.ext hB2) HM'.out).mono ?_
  rintro e w3 ⟨rfl, hb3⟩
  have hV3 := HV2.out.ext hb3
  have hB3 := bt hB2 hb3
  have hr3 := HR2.out.ext hb3
  clear c0 c1 c2 c3
  obtain ⟨c0, c1, c2, c3⟩ := hV3.cells
  simp only at c0 c1 c2 c3
  have HV3 := Lib.hid hV3
  have HR3 := Lib.hid hr3
  clear hb3 hV3 hr3
  go_wp2_with fail
  refine (same_self l A1 A c1' c _ HR3.out (HR.out.ext hB3)).mono ?_
  rintro e w4 ⟨rfl, hb4⟩
  have hV4 := HV3.out.ext hb4
  have hB4 := bt hB3 hb4
  clear c0 c1 c2 c3
  obtain ⟨c0, c1, c2, c3⟩ := hV4.cells
  simp only at c0 c1 c2 c3
  have HV4 := Lib.hid hV4
  clear hb4 hV4
  go_wp2_with fail
  refine (may_is ⟨vk, vn, vr, vt⟩ HWF.out _ (HT.out.ext hB4) _ HM.out).mono ?_
  rintro e w5 ⟨rfl, hb5⟩
  have hV5 := HV4.out.ext hb5
  have hB5 := bt hB4 hb5
  clear c0 c1 c2 c3
  obtain ⟨c0, c1, c2, c3⟩ := hV5.cells
  simp only at c0 c1 c2 c3
  have HV5 := Lib.hid hV5
  clear hb5 hV5
  go_wp2_with fail
  refine (row_is l A c _ (HR.out.ext hB5) (HT.out.ext hB5) _ HM'.out).mono ?_
  rintro e w6 ⟨rfl, hb6⟩
  have hV6 := HV5.out.ext hb6
  have hB6 := bt hB5 hb6
  clear c0 c1 c2 c3
  obtain ⟨c0, c1, c2, c3⟩ := hV6.cells
  simp only at c0 c1 c2 c3
  have HV6 := Lib.hid hV6
  clear hb6 hV6
  go_wp2_with fail
  refine (may_is ⟨vk, vn, vr, vt⟩ HWF.out _ (HT.out.ext hB6) _ HM.out).mono ?_
  rintro e w7 ⟨rfl, hb7⟩
  have hV7 := HV6.out.ext hb7
  have hB7 := bt hB6 hb7
  clear c0 c1 c2 c3
  obtain ⟨c0, c1, c2, c3⟩ := hV7.cells
  simp only at c0 c1 c2 c3
  have HV7 := Lib.hid hV7
  clear hb7 hV7
  go_wp2_with fail
  refine (refput_any ⟨vk, vn, vr, vt⟩ HWF.out HM.out _).mono ?_
  rintro e w8 ⟨rfl, hb8⟩
  have hV8 := HV7.out.ext hb8
  have hB8 := bt hB7 hb8
  clear c0 c1 c2 c3
  obtain ⟨c0, c1, c2, c3⟩ := hV8.cells
  simp only at c0 c1 c2 c3
  have HV8 := Lib.hid hV8
  clear hb8 hV8
  go_wp2_with fail
  refine (row_is l A c _ (HR.out.ext hB8) (HT.out.ext hB8) _ HM'.out).mono ?_
  rintro e w9 ⟨rfl, hb9⟩
  have hV9 := HV8.out.ext hb9
  have hB9 := bt hB8 hb9
  clear c0 c1 c2 c3
  obtain ⟨c0, c1, c2, c3⟩ := hV9.cells
  simp only at c0 c1 c2 c3
  have HV9 := Lib.hid hV9
  clear hb9 hV9
  go_wp2_with fail
  refine (refputrow_any l A c _ (HR.out.ext hB9) HM'.out).mono ?_
  rintro e w10 ⟨rfl, hb10⟩
  have hV10 := HV9.out.ext hb10
  have hB10 := bt hB9 hb10
  clear c0 c1 c2 c3
  obtain ⟨c0, c1, c2, c3⟩ := hV10.cells
  simp only at c0 c1 c2 c3
  have HV10 := Lib.hid hV10
  clear hb10 hV10
  go_wp2_with fail
  refine (alive_any _ (HT.out.ext hB10)).mono ?_
  rintro e w11 ⟨rfl, hb11⟩
  go_wp2_with fail
  go_ret
  exact ⟨rfl, bt hB10 hb11⟩
set_option maxRecDepth 100000 in
set_option maxHeartbeats 800000 in
theorem puts_yn (v : V) (l : List V) (A : Option Addr) (c : Nat) (w : World) (hr : VRow w A l) (hT : Tabs w) (hv : v.wf) (h1 : ¬ 4000 < longN l) (h2 : v.t.size ≤ 16384) (hm : mayB v = true) (hm' : rowB l = false) :
    Calls Tryd.prog 3 #[v.agg, .slice A l.length c] w fun e w' => e = .returned (.bool true) ∧ Below w.heap.size w w' := by
  obtain ⟨vk, vn, vr, vt⟩ := v
  simp only at h2
  have l1 := long_len h1
  have HB0 := Lib.hid ((Below.refl w.heap.size w).alloc (Nat.le_refl _) (.cells #[.int .u8 vk, .int .i64 vn, .int .u64 vr, .string vt] 24))
  have HV0 := Lib.hid (VBlk.made w ⟨vk, vn, vr, vt⟩)
  have H1 := Lib.hid (long_not l A c _ (hr.ext HB0.out) h1)
  have HR := Lib.hid hr
  have HT := Lib.hid hT
  have HWF := Lib.hid hv
  have HM := Lib.hid hm
  have HM' := Lib.hid hm'
  clear hr hT hv h1 hm hm'
  unfold V.agg
  go_enter Tryd.func3, Tryd.ntmps3
  go_wp2_with fail
  refine (H1.out).mono ?_
  rintro e w' ⟨rfl, rfl⟩
  have hB0 := HB0.out
  go_wp2_with fail
  refine (copy_row l A c _ (HR.out.ext hB0) l1).mono ?_
  rintro e w1 ⟨A1, c1', rfl, hr1, hb1⟩
  have hV1 := HV0.out.ext hb1
  have hB1 := bt hB0 hb1
  obtain ⟨c0, c1, c2, c3⟩ := hV1.cells
  simp only at c0 c1 c2 c3
  have HV1 := Lib.hid hV1
  have HR1 := Lib.hid hr1
  clear hb1 hV1 hr1
  go_wp2_with fail
  refine (put_ok ⟨vk, vn, vr, vt⟩ HWF.out _ (HT.out.ext hB1) HM.out).mono ?_
  rintro e w2 ⟨rfl, hb2⟩
  have hV2 := HV1.out.ext hb2
  have hB2 := bt hB1 hb2
  have hr2 := HR1.out.ext hb2
  clear c0 c1 c2 c3
  obtain ⟨c0, c1, c2, c3⟩ := hV2.cells
  simp only at c0 c1 c2 c3
  have HV2 := Lib.hid hV2
  have HR2 := Lib.hid hr2
  clear hb2 hV2 hr2
  go_wp2_with fail
  refine (putrow_err l A1 c1' _ HR2.out (HT.out.ext hB2) HM'.out).mono ?_
  rintro e w3 ⟨rfl, hb3⟩
  have hV3 := HV2.out.ext hb3
  have hB3 := bt hB2 hb3
  have hr3 := HR2.out.ext hb3
  clear c0 c1 c2 c3
  obtain ⟨c0, c1, c2, c3⟩ := hV3.cells
  simp only at c0 c1 c2 c3
  have HV3 := Lib.hid hV3
  have HR3 := Lib.hid hr3
  clear hb3 hV3 hr3
  go_wp2_with fail
  refine (same_self l A1 A c1' c _ HR3.out (HR.out.ext hB3)).mono ?_
  rintro e w4 ⟨rfl, hb4⟩
  have hV4 := HV3.out.ext hb4
  have hB4 := bt hB3 hb4
  clear c0 c1 c2 c3
  obtain ⟨c0, c1, c2, c3⟩ := hV4.cells
  simp only at c0 c1 c2 c3
  have HV4 := Lib.hid hV4
  clear hb4 hV4
  go_wp2_with fail
  refine (may_is ⟨vk, vn, vr, vt⟩ HWF.out _ (HT.out.ext hB4) _ HM.out).mono ?_
  rintro e w5 ⟨rfl, hb5⟩
  have hV5 := HV4.out.ext hb5
  have hB5 := bt hB4 hb5
  clear c0 c1 c2 c3
  obtain ⟨c0, c1, c2, c3⟩ := hV5.cells
  simp only at c0 c1 c2 c3
  have HV5 := Lib.hid hV5
  clear hb5 hV5
  go_wp2_with fail
  refine (row_is l A c _ (HR.out.ext hB5) (HT.out.ext hB5) _ HM'.out).mono ?_
  rintro e w6 ⟨rfl, hb6⟩
  have hV6 := HV5.out.ext hb6
  have hB6 := bt hB5 hb6
  clear c0 c1 c2 c3
  obtain ⟨c0, c1, c2, c3⟩ := hV6.cells
  simp only at c0 c1 c2 c3
  have HV6 := Lib.hid hV6
  clear hb6 hV6
  go_wp2_with fail
  refine (may_is ⟨vk, vn, vr, vt⟩ HWF.out _ (HT.out.ext hB6) _ HM.out).mono ?_
  rintro e w7 ⟨rfl, hb7⟩
  have hV7 := HV6.out.ext hb7
  have hB7 := bt hB6 hb7
  clear c0 c1 c2 c3
  obtain ⟨c0, c1, c2, c3⟩ := hV7.cells
  simp only at c0 c1 c2 c3
  have HV7 := Lib.hid hV7
  clear hb7 hV7
  go_wp2_with fail
  refine (refput_any ⟨vk, vn, vr, vt⟩ HWF.out HM.out _).mono ?_
  rintro e w8 ⟨rfl, hb8⟩
  have hV8 := HV7.out.ext hb8
  have hB8 := bt hB7 hb8
  clear c0 c1 c2 c3
  obtain ⟨c0, c1, c2, c3⟩ := hV8.cells
  simp only at c0 c1 c2 c3
  have HV8 := Lib.hid hV8
  clear hb8 hV8
  go_wp2_with fail
  refine (row_is l A c _ (HR.out.ext hB8) (HT.out.ext hB8) _ HM'.out).mono ?_
  rintro e w9 ⟨rfl, hb9⟩
  have hV9 := HV8.out.ext hb9
  have hB9 := bt hB8 hb9
  clear c0 c1 c2 c3
  obtain ⟨c0, c1, c2, c3⟩ := hV9.cells
  simp only at c0 c1 c2 c3
  have HV9 := Lib.hid hV9
  clear hb9 hV9
  go_wp2_with fail
  refine (alive_any _ (HT.out.ext hB9)).mono ?_
  rintro e w10 ⟨rfl, hb10⟩
  go_wp2_with fail
  go_ret
  exact ⟨rfl, bt hB9 hb10⟩
set_option maxRecDepth 100000 in
set_option maxHeartbeats 800000 in
theorem puts_ny (v : V) (l : List V) (A : Option Addr) (c : Nat) (w : World) (hr : VRow w A l) (hT : Tabs w) (hv : v.wf) (h1 : ¬ 4000 < longN l) (h2 : v.t.size ≤ 16384) (hm : mayB v = false) (hm' : rowB l = true) :
    Calls Tryd.prog 3 #[v.agg, .slice A l.length c] w fun e w' => e = .returned (.bool true) ∧ Below w.heap.size w w' := by
  obtain ⟨vk, vn, vr, vt⟩ := v
  simp only at h2
  have l1 := long_len h1
  have HB0 := Lib.hid ((Below.refl w.heap.size w).alloc (Nat.le_refl _) (.cells #[.int .u8 vk, .int .i64 vn, .int .u64 vr, .string vt] 24))
  have HV0 := Lib.hid (VBlk.made w ⟨vk, vn, vr, vt⟩)
  have H1 := Lib.hid (long_not l A c _ (hr.ext HB0.out) h1)
  have HR := Lib.hid hr
  have HT := Lib.hid hT
  have HWF := Lib.hid hv
  have HM := Lib.hid hm
  have HM' := Lib.hid hm'
  have hlen := putRowL_length hm'
  clear hr hT hv h1 hm hm'
  unfold V.agg
  go_enter Tryd.func3, Tryd.ntmps3
  go_wp2_with fail
  refine (H1.out).mono ?_
  rintro e w' ⟨rfl, rfl⟩
  have hB0 := HB0.out
  go_wp2_with fail
  refine (copy_row l A c _ (HR.out.ext hB0) l1).mono ?_
  rintro e w1 ⟨A1, c1', rfl, hr1, hb1⟩
  have hV1 := HV0.out.ext hb1
  have hB1 := bt hB0 hb1
  obtain ⟨c0, c1, c2, c3⟩ := hV1.cells
  simp only at c0 c1 c2 c3
  have HV1 := Lib.hid hV1
  have HR1 := Lib.hid hr1
  clear hb1 hV1 hr1
  go_wp2_with fail
  refine (put_err ⟨vk, vn, vr, vt⟩ HWF.out _ (HT.out.ext hB1) HM.out).mono ?_
  rintro e w2 ⟨rfl, hb2⟩
  have hV2 := HV1.out.ext hb2
  have hB2 := bt hB1 hb2
  have hr2 := HR1.out.ext hb2
  clear c0 c1 c2 c3
  obtain ⟨c0, c1, c2, c3⟩ := hV2.cells
  simp only at c0 c1 c2 c3
  have HV2 := Lib.hid hV2
  have HR2 := Lib.hid hr2
  clear hb2 hV2 hr2
  go_wp2_with fail
  refine (putrow_ok l A1 c1' _ HR2.out (HT.out.ext hB2) HM'.out).mono ?_
  rintro e w3 ⟨rfl, hb3⟩
  have hV3 := HV2.out.ext hb3
  have hB3 := bt hB2 hb3
  have hr3 := HR2.out.ext hb3
  clear c0 c1 c2 c3
  obtain ⟨c0, c1, c2, c3⟩ := hV3.cells
  simp only at c0 c1 c2 c3
  have HV3 := Lib.hid hV3
  have HR3 := Lib.hid hr3
  clear hb3 hV3 hr3
  go_wp2_with fail
  refine (same_self l A1 A c1' c _ HR3.out (HR.out.ext hB3)).mono ?_
  rintro e w4 ⟨rfl, hb4⟩
  have hV4 := HV3.out.ext hb4
  have hB4 := bt hB3 hb4
  clear c0 c1 c2 c3
  obtain ⟨c0, c1, c2, c3⟩ := hV4.cells
  simp only at c0 c1 c2 c3
  have HV4 := Lib.hid hV4
  clear hb4 hV4
  go_wp2_with fail
  refine (may_is ⟨vk, vn, vr, vt⟩ HWF.out _ (HT.out.ext hB4) _ HM.out).mono ?_
  rintro e w5 ⟨rfl, hb5⟩
  have hV5 := HV4.out.ext hb5
  have hB5 := bt hB4 hb5
  clear c0 c1 c2 c3
  obtain ⟨c0, c1, c2, c3⟩ := hV5.cells
  simp only at c0 c1 c2 c3
  have HV5 := Lib.hid hV5
  clear hb5 hV5
  go_wp2_with fail
  refine (row_is l A c _ (HR.out.ext hB5) (HT.out.ext hB5) _ HM'.out).mono ?_
  rintro e w6 ⟨rfl, hb6⟩
  have hV6 := HV5.out.ext hb6
  have hB6 := bt hB5 hb6
  clear c0 c1 c2 c3
  obtain ⟨c0, c1, c2, c3⟩ := hV6.cells
  simp only at c0 c1 c2 c3
  have HV6 := Lib.hid hV6
  clear hb6 hV6
  go_wp2_with fail
  refine (may_is ⟨vk, vn, vr, vt⟩ HWF.out _ (HT.out.ext hB6) _ HM.out).mono ?_
  rintro e w7 ⟨rfl, hb7⟩
  have hV7 := HV6.out.ext hb7
  have hB7 := bt hB6 hb7
  clear c0 c1 c2 c3
  obtain ⟨c0, c1, c2, c3⟩ := hV7.cells
  simp only at c0 c1 c2 c3
  have HV7 := Lib.hid hV7
  clear hb7 hV7
  go_wp2_with fail
  refine (row_is l A c _ (HR.out.ext hB7) (HT.out.ext hB7) _ HM'.out).mono ?_
  rintro e w8 ⟨rfl, hb8⟩
  have hV8 := HV7.out.ext hb8
  have hB8 := bt hB7 hb8
  clear c0 c1 c2 c3
  obtain ⟨c0, c1, c2, c3⟩ := hV8.cells
  simp only at c0 c1 c2 c3
  have HV8 := Lib.hid hV8
  clear hb8 hV8
  go_wp2_with fail
  refine (refputrow_any l A c _ (HR.out.ext hB8) HM'.out).mono ?_
  rintro e w9 ⟨rfl, hb9⟩
  have hV9 := HV8.out.ext hb9
  have hB9 := bt hB8 hb9
  clear c0 c1 c2 c3
  obtain ⟨c0, c1, c2, c3⟩ := hV9.cells
  simp only at c0 c1 c2 c3
  have HV9 := Lib.hid hV9
  clear hb9 hV9
  go_wp2_with fail
  refine (alive_any _ (HT.out.ext hB9)).mono ?_
  rintro e w10 ⟨rfl, hb10⟩
  go_wp2_with fail
  go_ret
  exact ⟨rfl, bt hB9 hb10⟩
set_option maxRecDepth 100000 in
set_option maxHeartbeats 800000 in
theorem puts_nn (v : V) (l : List V) (A : Option Addr) (c : Nat) (w : World) (hr : VRow w A l) (hT : Tabs w) (hv : v.wf) (h1 : ¬ 4000 < longN l) (h2 : v.t.size ≤ 16384) (hm : mayB v = false) (hm' : rowB l = false) :
    Calls Tryd.prog 3 #[v.agg, .slice A l.length c] w fun e w' => e = .returned (.bool true) ∧ Below w.heap.size w w' := by
  obtain ⟨vk, vn, vr, vt⟩ := v
  simp only at h2
  have l1 := long_len h1
  have HB0 := Lib.hid ((Below.refl w.heap.size w).alloc (Nat.le_refl _) (.cells #[.int .u8 vk, .int .i64 vn, .int .u64 vr, .string vt] 24))
  have HV0 := Lib.hid (VBlk.made w ⟨vk, vn, vr, vt⟩)
  have H1 := Lib.hid (long_not l A c _ (hr.ext HB0.out) h1)
  have HR := Lib.hid hr
  have HT := Lib.hid hT
  have HWF := Lib.hid hv
  have HM := Lib.hid hm
  have HM' := Lib.hid hm'
  clear hr hT hv h1 hm hm'
  unfold V.agg
  go_enter Tryd.func3, Tryd.ntmps3
  go_wp2_with fail
  refine (H1.out).mono ?_
  rintro e w' ⟨rfl, rfl⟩
  have hB0 := HB0.out
  go_wp2_with fail
  refine (copy_row l A c _ (HR.out.ext hB0) l1).mono ?_
  rintro e w1 ⟨A1, c1', rfl, hr1, hb1⟩
  have hV1 := HV0.out.ext hb1
  have hB1 := bt hB0 hb1
  obtain ⟨c0, c1, c2, c3⟩ := hV1.cells
  simp only at c0 c1 c2 c3
  have HV1 := Lib.hid hV1
  have HR1 := Lib.hid hr1
  clear hb1 hV1 hr1
  go_wp2_with fail
  refine (put_err ⟨vk, vn, vr, vt⟩ HWF.out _ (HT.out.ext hB1) HM.out).mono ?_
  rintro e w2 ⟨rfl, hb2⟩
  have hV2 := HV1.out.ext hb2
  have hB2 := bt hB1 hb2
  have hr2 := HR1.out.ext hb2
  clear c0 c1 c2 c3
  obtain ⟨c0, c1, c2, c3⟩ := hV2.cells
  simp only at c0 c1 c2 c3
  have HV2 := Lib.hid hV2
  have HR2 := Lib.hid hr2
  clear hb2 hV2 hr2
  go_wp2_with fail
  refine (putrow_err l A1 c1' _ HR2.out (HT.out.ext hB2) HM'.out).mono ?_
  rintro e w3 ⟨rfl, hb3⟩
  have hV3 := HV2.out.ext hb3
  have hB3 := bt hB2 hb3
  have hr3 := HR2.out.ext hb3
  clear c0 c1 c2 c3
  obtain ⟨c0, c1, c2, c3⟩ := hV3.cells
  simp only at c0 c1 c2 c3
  have HV3 := Lib.hid hV3
  have HR3 := Lib.hid hr3
  clear hb3 hV3 hr3
  go_wp2_with fail
  refine (same_self l A1 A c1' c _ HR3.out (HR.out.ext hB3)).mono ?_
  rintro e w4 ⟨rfl, hb4⟩
  have hV4 := HV3.out.ext hb4
  have hB4 := bt hB3 hb4
  clear c0 c1 c2 c3
  obtain ⟨c0, c1, c2, c3⟩ := hV4.cells
  simp only at c0 c1 c2 c3
  have HV4 := Lib.hid hV4
  clear hb4 hV4
  go_wp2_with fail
  refine (may_is ⟨vk, vn, vr, vt⟩ HWF.out _ (HT.out.ext hB4) _ HM.out).mono ?_
  rintro e w5 ⟨rfl, hb5⟩
  have hV5 := HV4.out.ext hb5
  have hB5 := bt hB4 hb5
  clear c0 c1 c2 c3
  obtain ⟨c0, c1, c2, c3⟩ := hV5.cells
  simp only at c0 c1 c2 c3
  have HV5 := Lib.hid hV5
  clear hb5 hV5
  go_wp2_with fail
  refine (row_is l A c _ (HR.out.ext hB5) (HT.out.ext hB5) _ HM'.out).mono ?_
  rintro e w6 ⟨rfl, hb6⟩
  have hV6 := HV5.out.ext hb6
  have hB6 := bt hB5 hb6
  clear c0 c1 c2 c3
  obtain ⟨c0, c1, c2, c3⟩ := hV6.cells
  simp only at c0 c1 c2 c3
  have HV6 := Lib.hid hV6
  clear hb6 hV6
  go_wp2_with fail
  refine (may_is ⟨vk, vn, vr, vt⟩ HWF.out _ (HT.out.ext hB6) _ HM.out).mono ?_
  rintro e w7 ⟨rfl, hb7⟩
  have hV7 := HV6.out.ext hb7
  have hB7 := bt hB6 hb7
  clear c0 c1 c2 c3
  obtain ⟨c0, c1, c2, c3⟩ := hV7.cells
  simp only at c0 c1 c2 c3
  have HV7 := Lib.hid hV7
  clear hb7 hV7
  go_wp2_with fail
  refine (row_is l A c _ (HR.out.ext hB7) (HT.out.ext hB7) _ HM'.out).mono ?_
  rintro e w8 ⟨rfl, hb8⟩
  have hV8 := HV7.out.ext hb8
  have hB8 := bt hB7 hb8
  clear c0 c1 c2 c3
  obtain ⟨c0, c1, c2, c3⟩ := hV8.cells
  simp only at c0 c1 c2 c3
  have HV8 := Lib.hid hV8
  clear hb8 hV8
  go_wp2_with fail
  refine (alive_any _ (HT.out.ext hB8)).mono ?_
  rintro e w9 ⟨rfl, hb9⟩
  go_wp2_with fail
  go_ret
  exact ⟨rfl, bt hB8 hb9⟩
theorem puts_walk (v : V) (l : List V) (A : Option Addr) (c : Nat) (w : World) (hr : VRow w A l) (hT : Tabs w) (hv : v.wf) :
    Calls Tryd.prog 3 #[v.agg, .slice A l.length c] w fun e w' => e = .returned (.bool true) ∧ Below w.heap.size w w' := by
  by_cases h : 4000 < longN l ∨ 16384 < v.t.size
  · exact puts_long v l A c w hr hT hv h
  · have h1 : ¬ 4000 < longN l := fun x => h (.inl x)
    have h2 : v.t.size ≤ 16384 := by
      rcases Nat.lt_or_ge 16384 v.t.size with x | x
      · exact absurd (.inr x) h
      · exact x
    cases hm : mayB v
    · cases hm' : rowB l
      · exact puts_nn v l A c w hr hT hv h1 h2 hm hm'
      · exact puts_ny v l A c w hr hT hv h1 h2 hm hm'
    · cases hm' : rowB l
      · exact puts_yn v l A c w hr hT hv h1 h2 hm hm'
      · exact puts_yy v l A c w hr hT hv h1 h2 hm hm'
end Go.Proofs.YtjdfodmialhakaaDoor
