/- Several texts in one: see each part's head. -/
import Derived.Test.YtjdfodmialhakaaDoorPlain
import Derived.Test.YtjdfodmialhakaaDoorAlive
import Derived.StillTailTactics
/- The walk of CodeApart: whatever two rows come in, it answers true. -/
namespace Go.Proofs.YtjdfodmialhakaaDoor
open Go.RowKit

theorem long_yes (l : List V) (A : Option Addr) (c : Nat) (w : World) (hr : VRow w A l) (h : 4000 < longN l) :
    Calls Tryd.prog 17 #[.slice A l.length c] w fun e w' => e = .returned (.bool true) ∧ w = w' := by
  have := long_any l A c w hr
  rwa [decide_eq_true h] at this
theorem long_not (l : List V) (A : Option Addr) (c : Nat) (w : World) (hr : VRow w A l) (h : ¬ 4000 < longN l) :
    Calls Tryd.prog 17 #[.slice A l.length c] w fun e w' => e = .returned (.bool false) ∧ w = w' := by
  have := long_any l A c w hr
  rwa [decide_eq_false h] at this
theorem long_len {l : List V} (h : ¬ 4000 < longN l) : l.length ≤ 4000 := by
  have h0 : ∀ m : List V, 0 ≤ (m.map fun v => (v.t.size : Int) / 8).sum := by
    intro m
    induction m with
    | nil => simp
    | cons v m ih => simp only [List.map_cons, List.sum_cons]; omega
  have := h0 (l.take 100)
  unfold longN at h
  omega
/-- A copy, and what it has as bytes: both calls, one behind the other. -/
theorem copy_row (l : List V) (A : Option Addr) (c : Nat) (w : World) (hr : VRow w A l) (hl : l.length ≤ 4000) :
    Calls Tryd.prog 19 #[.slice A l.length c] w fun e w' => ∃ A' c', e = .returned (.slice A' l.length c') ∧ VRow w' A' l ∧ Below w.heap.size w w' :=
  (copy_any l A c w hr (by omega)).mono fun e w' ⟨A', c', he, ho, hb⟩ => ⟨A', c', he, (VRow.of_own hr.1 hr.2.1 ho).1, hb⟩
theorem putrow_err (l : List V) (A : Option Addr) (c : Nat) (w : World) (hr : VRow w A l) (hT : Tabs w) (hm : rowB l = false) :
    Calls Tryd.prog 21 #[.slice A l.length c] w fun e w' => e = .returned (.tuple #[.string ⟨#[]⟩, .int .i64 2]) ∧ Below w.heap.size w w' := by
  have h := putrow_any l A c w hr hT
  unfold putRowR at h
  rw [hm] at h
  exact h
theorem putrow_ok (l : List V) (A : Option Addr) (c : Nat) (w : World) (hr : VRow w A l) (hT : Tabs w) (hm : rowB l = true) :
    Calls Tryd.prog 21 #[.slice A l.length c] w fun e w' => e = .returned (.tuple #[.string ⟨(putRowL l).toArray⟩, .int .i64 0]) ∧ Below w.heap.size w w' := by
  have h := putrow_any l A c w hr hT
  unfold putRowR at h
  rw [hm] at h
  exact h

set_option maxRecDepth 100000 in
theorem apart_long (l m : List V) (A B : Option Addr) (c d : Nat) (w : World) (hr : VRow w A l) (hs : VRow w B m) (hT : Tabs w) (h : 4000 < longN l ∨ 4000 < longN m) :
    Calls Tryd.prog 5 #[.slice A l.length c, .slice B m.length d] w fun e w' => e = .returned (.bool true) ∧ Below w.heap.size w w' := by
  have HA := Lib.hid (alive_any w hT)
  by_cases h1 : 4000 < longN l
  · have H1 := Lib.hid (long_yes l A c w hr h1)
    clear hr hs hT h h1
    go_enter Tryd.func5, Tryd.ntmps5
    go_wp2_with fail
    refine (H1.out).mono ?_
    rintro e w' ⟨rfl, rfl⟩
    go_wp2_with fail
    refine (HA.out).mono ?_
    rintro e w1 ⟨rfl, hb⟩
    go_wp2_with fail
    go_ret
    exact ⟨rfl, hb⟩
  · have H1 := Lib.hid (long_not l A c w hr h1)
    have H2 := Lib.hid (long_yes m B d w hs (h.resolve_left h1))
    clear hr hs hT h h1
    go_enter Tryd.func5, Tryd.ntmps5
    go_wp2_with fail
    refine (H1.out).mono ?_
    rintro e w' ⟨rfl, rfl⟩
    go_wp2_with fail
    refine (H2.out).mono ?_
    rintro e w' ⟨rfl, rfl⟩
    go_wp2_with fail
    refine (HA.out).mono ?_
    rintro e w1 ⟨rfl, hb⟩
    go_wp2_with fail
    go_ret
    exact ⟨rfl, hb⟩
theorem slice_min (s : ByteArray) (n : Int) (h0 : 0 ≤ n) (h1 : n ≤ s.size) (W : World) : (Instr.slice 9 (.string s) none (some (.int .i64 n)) none).run Tryd.prog W = .ok (.string (s.extract 0 n.toNat)) W := by
  go_simp
theorem beq_str {a b : ByteArray} (h : ¬ a = b) : (a.toList == b.toList) = false := by
  rw [beq_eq_false_iff_ne]
  exact fun e => h (toList_inj e)
theorem ext_take (l : List UInt8) (n : Nat) : ((⟨l.toArray⟩ : ByteArray).extract 0 n).data.toList = l.take n := by
  simp [ByteArray.data_extract]
set_option maxRecDepth 100000 in
set_option maxHeartbeats 400000 in
theorem apart_short (l m : List V) (A B : Option Addr) (c d : Nat) (w : World) (hr : VRow w A l) (hs : VRow w B m) (hT : Tabs w) (h1 : ¬ 4000 < longN l) (h2 : ¬ 4000 < longN m) :
    Calls Tryd.prog 5 #[.slice A l.length c, .slice B m.length d] w fun e w' => e = .returned (.bool true) ∧ Below w.heap.size w w' := by
  have H1 := Lib.hid (long_not l A c w hr h1)
  have H2 := Lib.hid (long_not m B d w hs h2)
  have l1 := long_len h1
  have l2 := long_len h2
  have HR := Lib.hid hr
  have HS := Lib.hid hs
  have HT := Lib.hid hT
  have HC1 := Lib.hid (copy_row l A c w hr l1)
  clear hr hs hT h1 h2
  go_enter Tryd.func5, Tryd.ntmps5
  go_wp2_with fail
  refine (H1.out).mono ?_
  rintro e w' ⟨rfl, rfl⟩
  go_wp2_with fail
  refine (H2.out).mono ?_
  rintro e w' ⟨rfl, rfl⟩
  go_wp2_with fail
  refine (HC1.out).mono ?_
  rintro e w1 ⟨A1, c1, rfl, hr1, hb1⟩
  have HR1 := Lib.hid hr1
  clear hr1
  cases hm1 : rowB l
  · go_wp2_with fail
    refine (putrow_err l A1 c1 _ HR1.out (HT.out.ext hb1) hm1).mono ?_
    rintro e w2 ⟨rfl, hb2⟩
    have hb2' := bt hb1 hb2
    go_wp2_with fail
    refine (copy_row m B d _ (HS.out.ext hb2') l2).mono ?_
    rintro e w3 ⟨A3, c3, rfl, hr3, hb3⟩
    have hb3' := bt hb2' hb3
    have HR3 := Lib.hid hr3
    clear hr3
    go_wp2_with fail
    have hp : Calls Tryd.prog 21 #[.slice A3 m.length c3] w3 fun e w' => ∃ s n, e = .returned (.tuple #[.string s, .int .i64 n]) ∧ Below w3.heap.size w3 w' :=
      (putrow_any m A3 c3 _ HR3.out (HT.out.ext hb3')).mono fun e w' ⟨he, hb⟩ => ⟨_, _, he, hb⟩
    refine hp.mono ?_
    rintro e w4 ⟨s, n, rfl, hb4⟩
    have hb4' := bt hb3' hb4
    clear hp
    go_wp2_with fail
    refine (alive_any _ (HT.out.ext hb4')).mono ?_
    rintro e w5 ⟨rfl, hb5⟩
    go_wp2_with fail
    go_ret
    exact ⟨rfl, bt hb4' hb5⟩
  · go_wp2_with fail
    refine (putrow_ok l A1 c1 _ HR1.out (HT.out.ext hb1) hm1).mono ?_
    rintro e w2 ⟨rfl, hb2⟩
    have hb2' := bt hb1 hb2
    go_wp2_with fail
    refine (copy_row m B d _ (HS.out.ext hb2') l2).mono ?_
    rintro e w3 ⟨A3, c3, rfl, hr3, hb3⟩
    have hb3' := bt hb2' hb3
    have HR3 := Lib.hid hr3
    clear hr3
    cases hm2 : rowB m
    · go_wp2_with fail
      refine (putrow_err m A3 c3 _ HR3.out (HT.out.ext hb3') hm2).mono ?_
      rintro e w4 ⟨rfl, hb4⟩
      have hb4' := bt hb3' hb4
      go_wp2_with fail
      refine (alive_any _ (HT.out.ext hb4')).mono ?_
      rintro e w5 ⟨rfl, hb5⟩
      go_wp2_with fail
      go_ret
      exact ⟨rfl, bt hb4' hb5⟩
    · go_wp2_with fail
      refine (putrow_ok m A3 c3 _ HR3.out (HT.out.ext hb3') hm2).mono ?_
      rintro e w4 ⟨rfl, hb4⟩
      have hb4' := bt hb3' hb4
      go_wp2_with fail
      by_cases hlm : l = m
      · have hsame := same_any l m A B c d w4 (HR.out.ext hb4') (HS.out.ext hb4')
        rw [decide_eq_true hlm] at hsame
        refine hsame.mono ?_
        rintro e w5 ⟨rfl, hb5⟩
        have hb5' := bt hb4' hb5
        subst hlm
        go_wp2_with fail
        refine (alive_any _ (HT.out.ext hb5')).mono ?_
        rintro e w6 ⟨rfl, hb6⟩
        go_wp2_with fail
        go_ret
        exact ⟨rfl, bt hb5' hb6⟩
      · have hsame := same_any l m A B c d w4 (HR.out.ext hb4') (HS.out.ext hb4')
        rw [decide_eq_false hlm] at hsame
        refine hsame.mono ?_
        rintro e w5 ⟨rfl, hb5⟩
        have hb5' := bt hb4' hb5
        have hne : ¬ (putRowL l).take (min (putRowL l).length (putRowL m).length) = (putRowL m).take (min (putRowL l).length (putRowL m).length) := fun h => hlm (putRow_apart HR.out.1 HS.out.1 hm1 hm2 h)
        go_wp2_with fail
        have hz1 : (⟨(putRowL l).toArray⟩ : ByteArray).size = (putRowL l).length := by simp [ByteArray.size]
        have hz2 : (⟨(putRowL m).toArray⟩ : ByteArray).size = (putRowL m).length := by simp [ByteArray.size]
        have q1 := slice_min ⟨(putRowL l).toArray⟩ (min ((putRowL l).length : Int) (putRowL m).length) (by omega) (by omega)
        have q2 := slice_min ⟨(putRowL m).toArray⟩ (min ((putRowL l).length : Int) (putRowL m).length) (by omega) (by omega)
        have en : (min ((putRowL l).length : Int) (putRowL m).length).toNat = min (putRowL l).length (putRowL m).length := by omega
        rw [en] at q1 q2
        have q3 := beq_str (fun e => hne (by have := congrArg (fun x : ByteArray => x.data.toList) e; simpa only [ext_take] using this) : ¬ (⟨(putRowL l).toArray⟩ : ByteArray).extract 0 (min (putRowL l).length (putRowL m).length) = (⟨(putRowL m).toArray⟩ : ByteArray).extract 0 (min (putRowL l).length (putRowL m).length))
        generalize (⟨(putRowL l).toArray⟩ : ByteArray).extract 0 (min (putRowL l).length (putRowL m).length) = x1 at q1 q3
        generalize (⟨(putRowL m).toArray⟩ : ByteArray).extract 0 (min (putRowL l).length (putRowL m).length) = x2 at q2 q3
        generalize (⟨(putRowL l).toArray⟩ : ByteArray) = sa at q1 ⊢
        generalize (⟨(putRowL m).toArray⟩ : ByteArray) = sb at q2 ⊢
        generalize min ((putRowL l).length : Int) (putRowL m).length = n at q1 q2 ⊢
        clear hne hsame hz1 hz2 en hm1 hm2 hlm
        go_still_tail 8, (by kernel_rfl)
        change wpList _ _ _ _ _ w5.drew
        have hb5d := hb5'.drew
        generalize w5.drew = w5d at hb5d ⊢
        go_wp2_with fail
        refine (alive_any _ (HT.out.ext hb5d)).mono ?_
        rintro e w6 ⟨rfl, hb6⟩
        go_wp2_with fail
        go_ret
        exact ⟨rfl, bt hb5d hb6⟩
theorem apart_walk (l m : List V) (A B : Option Addr) (c d : Nat) (w : World) (hr : VRow w A l) (hs : VRow w B m) (hT : Tabs w) :
    Calls Tryd.prog 5 #[.slice A l.length c, .slice B m.length d] w fun e w' => e = .returned (.bool true) ∧ Below w.heap.size w w' := by
  by_cases h1 : 4000 < longN l
  · exact apart_long l m A B c d w hr hs hT (.inl h1)
  · by_cases h2 : 4000 < longN m
    · exact apart_long l m A B c d w hr hs hT (.inr h2)
    · exact apart_short l m A B c d w hr hs hT h1 h2
end Go.Proofs.YtjdfodmialhakaaDoor

/- The walk of CodePuts: whatever value and row come in, it answers true. -/
namespace Go.Proofs.YtjdfodmialhakaaDoor
open Go.RowKit

theorem put_err (v : V) (hv : v.wf) (w : World) (hT : Tabs w) (hm : mayB v = false) :
    Calls Tryd.prog 20 #[v.agg] w fun e w' => e = .returned (.tuple #[.string ⟨#[]⟩, .int .i64 2]) ∧ Below w.heap.size w w' := by
  have h := put_any v hv w hT
  unfold putR at h
  rw [hm] at h
  exact h
theorem put_ok (v : V) (hv : v.wf) (w : World) (hT : Tabs w) (hm : mayB v = true) :
    Calls Tryd.prog 20 #[v.agg] w fun e w' => e = .returned (.tuple #[.string ⟨(putL v).toArray⟩, .int .i64 0]) ∧ Below w.heap.size w w' := by
  have h := put_any v hv w hT
  unfold putR at h
  rw [hm] at h
  exact h
theorem may_is (v : V) (hv : v.wf) (w : World) (hT : Tabs w) (b : Bool) (hm : mayB v = b) :
    Calls Tryd.prog 23 #[v.agg] w fun e w' => e = .returned (.bool b) ∧ Below w.heap.size w w' := by
  have h := may_any v hv w hT
  rwa [hm] at h
theorem row_is (l : List V) (A : Option Addr) (c : Nat) (w : World) (hr : VRow w A l) (hT : Tabs w) (b : Bool) (hm : rowB l = b) :
    Calls Tryd.prog 24 #[.slice A l.length c] w fun e w' => e = .returned (.bool b) ∧ Below w.heap.size w w' := by
  have h := refrow_any l A c w hr hT
  rwa [hm] at h
theorem same_self (l : List V) (A B : Option Addr) (c d : Nat) (w : World) (hr : VRow w A l) (hs : VRow w B l) :
    Calls Tryd.prog 22 #[.slice A l.length c, .slice B l.length d] w fun e w' => e = .returned (.bool true) ∧ Below w.heap.size w w' := by
  have h := same_any l l A B c d w hr hs
  rwa [decide_eq_true rfl] at h
theorem VBlk.cells {w : World} {b : Nat} {v : V} (h : VBlk w b v) : w.cell? ⟨b, 0, none⟩ = some (.int .u8 v.k) ∧ w.cell? ⟨b, 1, none⟩ = some (.int .i64 v.n) ∧ w.cell? ⟨b, 2, none⟩ = some (.int .u64 v.r) ∧ w.cell? ⟨b, 3, none⟩ = some (.string v.t) :=
  ⟨cell_of_row w b 0 _ _ (0, 0) h, cell_of_row w b 1 _ _ (0, 0) h, cell_of_row w b 2 _ _ (0, 0) h, cell_of_row w b 3 _ _ (0, 0) h⟩
theorem VBlk.made (w : World) (v : V) : VBlk (w.alloc (.cells #[.int .u8 v.k, .int .i64 v.n, .int .u64 v.r, .string v.t] 24)) w.heap.size v := heap_alloc_new w _
theorem putRowL_length {l : List V} (hm : rowB l = true) : (putRowL l).length ≤ 825 := by
  obtain ⟨_, h8, hall⟩ := row_may hm
  have h : ∀ m : List V, (∀ v ∈ m, mayB v = true) → (m.flatMap putL).length ≤ 102 * m.length := by
    intro m
    induction m with
    | nil => intro _; simp
    | cons v m ih =>
      intro hm
      have h1 := putL_length (hm v (by simp))
      have h2 := ih (fun x hx => hm x (by simp [hx]))
      simp only [List.flatMap_cons, List.length_append, List.length_cons]
      omega
  have := h l hall
  unfold putRowL
  rw [List.length_cons]
  omega

set_option maxRecDepth 100000 in
theorem puts_long (v : V) (l : List V) (A : Option Addr) (c : Nat) (w : World) (hr : VRow w A l) (hT : Tabs w) (hv : v.wf) (h : 4000 < longN l ∨ 16384 < v.t.size) :
    Calls Tryd.prog 3 #[v.agg, .slice A l.length c] w fun e w' => e = .returned (.bool true) ∧ Below w.heap.size w w' := by
  obtain ⟨vk, vn, vr, vt⟩ := v
  have hts : vt.size ≤ 140737488355328 := hv.2.2.2.2.2.2
  unfold V.agg
  have hb0 : Below w.heap.size w (w.alloc (.cells #[.int .u8 vk, .int .i64 vn, .int .u64 vr, .string vt] 24)) := (Below.refl _ _).alloc (Nat.le_refl _) _
  have HA := Lib.hid (alive_any _ (hT.ext hb0))
  have HB0 := Lib.hid hb0
  by_cases h1 : 4000 < longN l
  · have H1 := Lib.hid (long_yes l A c _ (hr.ext hb0) h1)
    clear hr hT h h1 hv hb0
    go_enter Tryd.func3, Tryd.ntmps3
    go_wp2_with fail
    refine (H1.out).mono ?_
    rintro e w' ⟨rfl, rfl⟩
    go_wp2_with fail
    refine (HA.out).mono ?_
    rintro e w1 ⟨rfl, hb⟩
    go_wp2_with fail
    go_ret
    exact ⟨rfl, bt HB0.out hb⟩
  · have H1 := Lib.hid (long_not l A c _ (hr.ext hb0) h1)
    have h2 : 16384 < vt.size := h.resolve_left h1
    clear hr hT h h1 hv hb0
    go_enter Tryd.func3, Tryd.ntmps3
    go_wp2_with fail
    refine (H1.out).mono ?_
    rintro e w' ⟨rfl, rfl⟩
    go_wp2_with fail
    refine (HA.out).mono ?_
    rintro e w1 ⟨rfl, hb⟩
    go_wp2_with fail
    go_ret
    exact ⟨rfl, bt HB0.out hb⟩
set_option maxRecDepth 100000 in
set_option maxHeartbeats 800000 in
theorem puts_yy (v : V) (l : List V) (A : Option Addr) (c : Nat) (w : World) (hr : VRow w A l) (hT : Tabs w) (hv : v.wf) (h1 : ¬ 4000 < longN l) (h2 : v.t.size ≤ 16384) (hm : mayB v = true) (hm' : rowB l = true) :
    Calls Tryd.prog 3 #[v.agg, .slice A l.length c] w fun e w' => e = .returned (.bool true) ∧ Below w.heap.size w w' := by
  obtain ⟨vk, vn, vr, vt⟩ := v
  simp only at h2
  have l1 := long_len h1
  have HB0 := Lib.hid ((Below.refl w.heap.size w).alloc (Nat.le_refl _) (.cells #[.int .u8 vk, .int .i64 vn, .int .u64 vr, .string vt] 24))
  have HV0 := Lib.hid (VBlk.made w ⟨vk, vn, vr, vt⟩)
  have H1 := Lib.hid (long_not l A c _ (hr.ext HB0.out) h1)
  have HR := Lib.hid hr
  have HT := Lib.hid hT
  have HWF := Lib.hid hv
  have HM := Lib.hid hm
  have HM' := Lib.hid hm'
  have hlen := putRowL_length hm'
  clear hr hT hv h1 hm hm'
  unfold V.agg
  go_enter Tryd.func3, Tryd.ntmps3
  go_wp2_with fail
  refine (H1.out).mono ?_
  rintro e w' ⟨rfl, rfl⟩
  have hB0 := HB0.out
  go_wp2_with fail
  refine (copy_row l A c _ (HR.out.ext hB0) l1).mono ?_
  rintro e w1 ⟨A1, c1', rfl, hr1, hb1⟩
  have hV1 := HV0.out.ext hb1
  have hB1 := bt hB0 hb1
  obtain ⟨c0, c1, c2, c3⟩ := hV1.cells
  simp only at c0 c1 c2 c3
  have HV1 := Lib.hid hV1
  have HR1 := Lib.hid hr1
  clear hb1 hV1 hr1
  go_wp2_with fail
  refine (put_ok ⟨vk, vn, vr, vt⟩ HWF.out _ (HT.out.ext hB1) HM.out).mono ?_
  rintro e w2 ⟨rfl, hb2⟩
  have hV2 := HV1.out.ext hb2
  have hB2 := bt hB1 hb2
  have hr2 := HR1.out.ext hb2
  clear c0 c1 c2 c3
  obtain ⟨c0, c1, c2, c3⟩ := hV2.cells
  simp only at c0 c1 c2 c3
  have HV2 := Lib.hid hV2
  have HR2 := Lib.hid hr2
  clear hb2 hV2 hr2
  go_wp2_with fail
  refine (putrow_ok l A1 c1' _ HR2.out (HT.out.ext hB2) HM'.out).mono ?_
  rintro e w3 ⟨rfl, hb3⟩
  have hV3 := HV2.out.ext hb3
  have hB3 := bt hB2 hb3
  have hr3 := HR2.out.ext hb3
  clear c0 c1 c2 c3
  obtain ⟨c0, c1, c2, c3⟩ := hV3.cells
  simp only at c0 c1 c2 c3
  have HV3 := Lib.hid hV3
  have HR3 := Lib.hid hr3
  clear hb3 hV3 hr3
  go_wp2_with fail
  refine (same_self l A1 A c1' c _ HR3.out (HR.out.ext hB3)).mono ?_
  rintro e w4 ⟨rfl, hb4⟩
  have hV4 := HV3.out.ext hb4
  have hB4 := bt hB3 hb4
  clear c0 c1 c2 c3
  obtain ⟨c0, c1, c2, c3⟩ := hV4.cells
  simp only at c0 c1 c2 c3
  have HV4 := Lib.hid hV4
  clear hb4 hV4
  go_wp2_with fail
  refine (may_is ⟨vk, vn, vr, vt⟩ HWF.out _ (HT.out.ext hB4) _ HM.out).mono ?_
  rintro e w5 ⟨rfl, hb5⟩
  have hV5 := HV4.out.ext hb5
  have hB5 := bt hB4 hb5
  clear c0 c1 c2 c3
  obtain ⟨c0, c1, c2, c3⟩ := hV5.cells
  simp only at c0 c1 c2 c3
  have HV5 := Lib.hid hV5
  clear hb5 hV5
  go_wp2_with fail
  refine (row_is l A c _ (HR.out.ext hB5) (HT.out.ext hB5) _ HM'.out).mono ?_
  rintro e w6 ⟨rfl, hb6⟩
  have hV6 := HV5.out.ext hb6
  have hB6 := bt hB5 hb6
  clear c0 c1 c2 c3
  obtain ⟨c0, c1, c2, c3⟩ := hV6.cells
  simp only at c0 c1 c2 c3
  have HV6 := Lib.hid hV6
  clear hb6 hV6
  go_wp2_with fail
  refine (may_is ⟨vk, vn, vr, vt⟩ HWF.out _ (HT.out.ext hB6) _ HM.out).mono ?_
  rintro e w7 ⟨rfl, hb7⟩
  have hV7 := HV6.out.ext hb7
  have hB7 := bt hB6 hb7
  clear c0 c1 c2 c3
  obtain ⟨c0, c1, c2, c3⟩ := hV7.cells
  simp only at c0 c1 c2 c3
  have HV7 := Lib.hid hV7
  clear hb7 hV7
  go_wp2_with fail
  refine (refput_any ⟨vk, vn, vr, vt⟩ HWF.out HM.out _).mono ?_
  rintro e w8 ⟨rfl, hb8⟩
  have hV8 := HV7.out.ext hb8
  have hB8 := bt hB7 hb8
  clear c0 c1 c2 c3
  obtain ⟨c0, c1, c2, c3⟩ := hV8.cells
  simp only at c0 c1 c2 c3
  have HV8 := Lib.hid hV8
  clear hb8 hV8
  go_wp2_with fail
  refine (row_is l A c _ (HR.out.ext hB8) (HT.out.ext hB8) _ HM'.out).mono ?_
  rintro e w9 ⟨rfl, hb9⟩
  have hV9 := HV8.out.ext hb9
  have hB9 := bt hB8 hb9
  clear c0 c1 c2 c3
  obtain ⟨c0, c1, c2, c3⟩ := hV9.cells
  simp only at c0 c1 c2 c3
  have HV9 := Lib.hid hV9
  clear hb9 hV9
  go_wp2_with fail
  refine (refputrow_any l A c _ (HR.out.ext hB9) HM'.out).mono ?_
  rintro e w10 ⟨rfl, hb10⟩
  have hV10 := HV9.out.ext hb10
  have hB10 := bt hB9 hb10
  clear c0 c1 c2 c3
  obtain ⟨c0, c1, c2, c3⟩ := hV10.cells
  simp only at c0 c1 c2 c3
  have HV10 := Lib.hid hV10
  clear hb10 hV10
  go_wp2_with fail
  refine (alive_any _ (HT.out.ext hB10)).mono ?_
  rintro e w11 ⟨rfl, hb11⟩
  go_wp2_with fail
  go_ret
  exact ⟨rfl, bt hB10 hb11⟩
set_option maxRecDepth 100000 in
set_option maxHeartbeats 800000 in
theorem puts_yn (v : V) (l : List V) (A : Option Addr) (c : Nat) (w : World) (hr : VRow w A l) (hT : Tabs w) (hv : v.wf) (h1 : ¬ 4000 < longN l) (h2 : v.t.size ≤ 16384) (hm : mayB v = true) (hm' : rowB l = false) :
    Calls Tryd.prog 3 #[v.agg, .slice A l.length c] w fun e w' => e = .returned (.bool true) ∧ Below w.heap.size w w' := by
  obtain ⟨vk, vn, vr, vt⟩ := v
  simp only at h2
  have l1 := long_len h1
  have HB0 := Lib.hid ((Below.refl w.heap.size w).alloc (Nat.le_refl _) (.cells #[.int .u8 vk, .int .i64 vn, .int .u64 vr, .string vt] 24))
  have HV0 := Lib.hid (VBlk.made w ⟨vk, vn, vr, vt⟩)
  have H1 := Lib.hid (long_not l A c _ (hr.ext HB0.out) h1)
  have HR := Lib.hid hr
  have HT := Lib.hid hT
  have HWF := Lib.hid hv
  have HM := Lib.hid hm
  have HM' := Lib.hid hm'
  clear hr hT hv h1 hm hm'
  unfold V.agg
  go_enter Tryd.func3, Tryd.ntmps3
  go_wp2_with fail
  refine (H1.out).mono ?_
  rintro e w' ⟨rfl, rfl⟩
  have hB0 := HB0.out
  go_wp2_with fail
  refine (copy_row l A c _ (HR.out.ext hB0) l1).mono ?_
  rintro e w1 ⟨A1, c1', rfl, hr1, hb1⟩
  have hV1 := HV0.out.ext hb1
  have hB1 := bt hB0 hb1
  obtain ⟨c0, c1, c2, c3⟩ := hV1.cells
  simp only at c0 c1 c2 c3
  have HV1 := Lib.hid hV1
  have HR1 := Lib.hid hr1
  clear hb1 hV1 hr1
  go_wp2_with fail
  refine (put_ok ⟨vk, vn, vr, vt⟩ HWF.out _ (HT.out.ext hB1) HM.out).mono ?_
  rintro e w2 ⟨rfl, hb2⟩
  have hV2 := HV1.out.ext hb2
  have hB2 := bt hB1 hb2
  have hr2 := HR1.out.ext hb2
  clear c0 c1 c2 c3
  obtain ⟨c0, c1, c2, c3⟩ := hV2.cells
  simp only at c0 c1 c2 c3
  have HV2 := Lib.hid hV2
  have HR2 := Lib.hid hr2
  clear hb2 hV2 hr2
  go_wp2_with fail
  refine (putrow_err l A1 c1' _ HR2.out (HT.out.ext hB2) HM'.out).mono ?_
  rintro e w3 ⟨rfl, hb3⟩
  have hV3 := HV2.out.ext hb3
  have hB3 := bt hB2 hb3
  have hr3 := HR2.out.ext hb3
  clear c0 c1 c2 c3
  obtain ⟨c0, c1, c2, c3⟩ := hV3.cells
  simp only at c0 c1 c2 c3
  have HV3 := Lib.hid hV3
  have HR3 := Lib.hid hr3
  clear hb3 hV3 hr3
  go_wp2_with fail
  refine (same_self l A1 A c1' c _ HR3.out (HR.out.ext hB3)).mono ?_
  rintro e w4 ⟨rfl, hb4⟩
  have hV4 := HV3.out.ext hb4
  have hB4 := bt hB3 hb4
  clear c0 c1 c2 c3
  obtain ⟨c0, c1, c2, c3⟩ := hV4.cells
  simp only at c0 c1 c2 c3
  have HV4 := Lib.hid hV4
  clear hb4 hV4
  go_wp2_with fail
  refine (may_is ⟨vk, vn, vr, vt⟩ HWF.out _ (HT.out.ext hB4) _ HM.out).mono ?_
  rintro e w5 ⟨rfl, hb5⟩
  have hV5 := HV4.out.ext hb5
  have hB5 := bt hB4 hb5
  clear c0 c1 c2 c3
  obtain ⟨c0, c1, c2, c3⟩ := hV5.cells
  simp only at c0 c1 c2 c3
  have HV5 := Lib.hid hV5
  clear hb5 hV5
  go_wp2_with fail
  refine (row_is l A c _ (HR.out.ext hB5) (HT.out.ext hB5) _ HM'.out).mono ?_
  rintro e w6 ⟨rfl, hb6⟩
  have hV6 := HV5.out.ext hb6
  have hB6 := bt hB5 hb6
  clear c0 c1 c2 c3
  obtain ⟨c0, c1, c2, c3⟩ := hV6.cells
  simp only at c0 c1 c2 c3
  have HV6 := Lib.hid hV6
  clear hb6 hV6
  go_wp2_with fail
  refine (may_is ⟨vk, vn, vr, vt⟩ HWF.out _ (HT.out.ext hB6) _ HM.out).mono ?_
  rintro e w7 ⟨rfl, hb7⟩
  have hV7 := HV6.out.ext hb7
  have hB7 := bt hB6 hb7
  clear c0 c1 c2 c3
  obtain ⟨c0, c1, c2, c3⟩ := hV7.cells
  simp only at c0 c1 c2 c3
  have HV7 := Lib.hid hV7
  clear hb7 hV7
  go_wp2_with fail
  refine (refput_any ⟨vk, vn, vr, vt⟩ HWF.out HM.out _).mono ?_
  rintro e w8 ⟨rfl, hb8⟩
  have hV8 := HV7.out.ext hb8
  have hB8 := bt hB7 hb8
  clear c0 c1 c2 c3
  obtain ⟨c0, c1, c2, c3⟩ := hV8.cells
  simp only at c0 c1 c2 c3
  have HV8 := Lib.hid hV8
  clear hb8 hV8
  go_wp2_with fail
  refine (row_is l A c _ (HR.out.ext hB8) (HT.out.ext hB8) _ HM'.out).mono ?_
  rintro e w9 ⟨rfl, hb9⟩
  have hV9 := HV8.out.ext hb9
  have hB9 := bt hB8 hb9
  clear c0 c1 c2 c3
  obtain ⟨c0, c1, c2, c3⟩ := hV9.cells
  simp only at c0 c1 c2 c3
  have HV9 := Lib.hid hV9
  clear hb9 hV9
  go_wp2_with fail
  refine (alive_any _ (HT.out.ext hB9)).mono ?_
  rintro e w10 ⟨rfl, hb10⟩
  go_wp2_with fail
  go_ret
  exact ⟨rfl, bt hB9 hb10⟩
set_option maxRecDepth 100000 in
set_option maxHeartbeats 800000 in
theorem puts_ny (v : V) (l : List V) (A : Option Addr) (c : Nat) (w : World) (hr : VRow w A l) (hT : Tabs w) (hv : v.wf) (h1 : ¬ 4000 < longN l) (h2 : v.t.size ≤ 16384) (hm : mayB v = false) (hm' : rowB l = true) :
    Calls Tryd.prog 3 #[v.agg, .slice A l.length c] w fun e w' => e = .returned (.bool true) ∧ Below w.heap.size w w' := by
  obtain ⟨vk, vn, vr, vt⟩ := v
  simp only at h2
  have l1 := long_len h1
  have HB0 := Lib.hid ((Below.refl w.heap.size w).alloc (Nat.le_refl _) (.cells #[.int .u8 vk, .int .i64 vn, .int .u64 vr, .string vt] 24))
  have HV0 := Lib.hid (VBlk.made w ⟨vk, vn, vr, vt⟩)
  have H1 := Lib.hid (long_not l A c _ (hr.ext HB0.out) h1)
  have HR := Lib.hid hr
  have HT := Lib.hid hT
  have HWF := Lib.hid hv
  have HM := Lib.hid hm
  have HM' := Lib.hid hm'
  have hlen := putRowL_length hm'
  clear hr hT hv h1 hm hm'
  unfold V.agg
  go_enter Tryd.func3, Tryd.ntmps3
  go_wp2_with fail
  refine (H1.out).mono ?_
  rintro e w' ⟨rfl, rfl⟩
  have hB0 := HB0.out
  go_wp2_with fail
  refine (copy_row l A c _ (HR.out.ext hB0) l1).mono ?_
  rintro e w1 ⟨A1, c1', rfl, hr1, hb1⟩
  have hV1 := HV0.out.ext hb1
  have hB1 := bt hB0 hb1
  obtain ⟨c0, c1, c2, c3⟩ := hV1.cells
  simp only at c0 c1 c2 c3
  have HV1 := Lib.hid hV1
  have HR1 := Lib.hid hr1
  clear hb1 hV1 hr1
  go_wp2_with fail
  refine (put_err ⟨vk, vn, vr, vt⟩ HWF.out _ (HT.out.ext hB1) HM.out).mono ?_
  rintro e w2 ⟨rfl, hb2⟩
  have hV2 := HV1.out.ext hb2
  have hB2 := bt hB1 hb2
  have hr2 := HR1.out.ext hb2
  clear c0 c1 c2 c3
  obtain ⟨c0, c1, c2, c3⟩ := hV2.cells
  simp only at c0 c1 c2 c3
  have HV2 := Lib.hid hV2
  have HR2 := Lib.hid hr2
  clear hb2 hV2 hr2
  go_wp2_with fail
  refine (putrow_ok l A1 c1' _ HR2.out (HT.out.ext hB2) HM'.out).mono ?_
  rintro e w3 ⟨rfl, hb3⟩
  have hV3 := HV2.out.ext hb3
  have hB3 := bt hB2 hb3
  have hr3 := HR2.out.ext hb3
  clear c0 c1 c2 c3
  obtain ⟨c0, c1, c2, c3⟩ := hV3.cells
  simp only at c0 c1 c2 c3
  have HV3 := Lib.hid hV3
  have HR3 := Lib.hid hr3
  clear hb3 hV3 hr3
  go_wp2_with fail
  refine (same_self l A1 A c1' c _ HR3.out (HR.out.ext hB3)).mono ?_
  rintro e w4 ⟨rfl, hb4⟩
  have hV4 := HV3.out.ext hb4
  have hB4 := bt hB3 hb4
  clear c0 c1 c2 c3
  obtain ⟨c0, c1, c2, c3⟩ := hV4.cells
  simp only at c0 c1 c2 c3
  have HV4 := Lib.hid hV4
  clear hb4 hV4
  go_wp2_with fail
  refine (may_is ⟨vk, vn, vr, vt⟩ HWF.out _ (HT.out.ext hB4) _ HM.out).mono ?_
  rintro e w5 ⟨rfl, hb5⟩
  have hV5 := HV4.out.ext hb5
  have hB5 := bt hB4 hb5
  clear c0 c1 c2 c3
  obtain ⟨c0, c1, c2, c3⟩ := hV5.cells
  simp only at c0 c1 c2 c3
  have HV5 := Lib.hid hV5
  clear hb5 hV5
  go_wp2_with fail
  refine (row_is l A c _ (HR.out.ext hB5) (HT.out.ext hB5) _ HM'.out).mono ?_
  rintro e w6 ⟨rfl, hb6⟩
  have hV6 := HV5.out.ext hb6
  have hB6 := bt hB5 hb6
  clear c0 c1 c2 c3
  obtain ⟨c0, c1, c2, c3⟩ := hV6.cells
  simp only at c0 c1 c2 c3
  have HV6 := Lib.hid hV6
  clear hb6 hV6
  go_wp2_with fail
  refine (may_is ⟨vk, vn, vr, vt⟩ HWF.out _ (HT.out.ext hB6) _ HM.out).mono ?_
  rintro e w7 ⟨rfl, hb7⟩
  have hV7 := HV6.out.ext hb7
  have hB7 := bt hB6 hb7
  clear c0 c1 c2 c3
  obtain ⟨c0, c1, c2, c3⟩ := hV7.cells
  simp only at c0 c1 c2 c3
  have HV7 := Lib.hid hV7
  clear hb7 hV7
  go_wp2_with fail
  refine (row_is l A c _ (HR.out.ext hB7) (HT.out.ext hB7) _ HM'.out).mono ?_
  rintro e w8 ⟨rfl, hb8⟩
  have hV8 := HV7.out.ext hb8
  have hB8 := bt hB7 hb8
  clear c0 c1 c2 c3
  obtain ⟨c0, c1, c2, c3⟩ := hV8.cells
  simp only at c0 c1 c2 c3
  have HV8 := Lib.hid hV8
  clear hb8 hV8
  go_wp2_with fail
  refine (refputrow_any l A c _ (HR.out.ext hB8) HM'.out).mono ?_
  rintro e w9 ⟨rfl, hb9⟩
  have hV9 := HV8.out.ext hb9
  have hB9 := bt hB8 hb9
  clear c0 c1 c2 c3
  obtain ⟨c0, c1, c2, c3⟩ := hV9.cells
  simp only at c0 c1 c2 c3
  have HV9 := Lib.hid hV9
  clear hb9 hV9
  go_wp2_with fail
  refine (alive_any _ (HT.out.ext hB9)).mono ?_
  rintro e w10 ⟨rfl, hb10⟩
  go_wp2_with fail
  go_ret
  exact ⟨rfl, bt hB9 hb10⟩
set_option maxRecDepth 100000 in
set_option maxHeartbeats 800000 in
theorem puts_nn (v : V) (l : List V) (A : Option Addr) (c : Nat) (w : World) (hr : VRow w A l) (hT : Tabs w) (hv : v.wf) (h1 : ¬ 4000 < longN l) (h2 : v.t.size ≤ 16384) (hm : mayB v = false) (hm' : rowB l = false) :
    Calls Tryd.prog 3 #[v.agg, .slice A l.length c] w fun e w' => e = .returned (.bool true) ∧ Below w.heap.size w w' := by
  obtain ⟨vk, vn, vr, vt⟩ := v
  simp only at h2
  have l1 := long_len h1
  have HB0 := Lib.hid ((Below.refl w.heap.size w).alloc (Nat.le_refl _) (.cells #[.int .u8 vk, .int .i64 vn, .int .u64 vr, .string vt] 24))
  have HV0 := Lib.hid (VBlk.made w ⟨vk, vn, vr, vt⟩)
  have H1 := Lib.hid (long_not l A c _ (hr.ext HB0.out) h1)
  have HR := Lib.hid hr
  have HT := Lib.hid hT
  have HWF := Lib.hid hv
  have HM := Lib.hid hm
  have HM' := Lib.hid hm'
  clear hr hT hv h1 hm hm'
  unfold V.agg
  go_enter Tryd.func3, Tryd.ntmps3
  go_wp2_with fail
  refine (H1.out).mono ?_
  rintro e w' ⟨rfl, rfl⟩
  have hB0 := HB0.out
  go_wp2_with fail
  refine (copy_row l A c _ (HR.out.ext hB0) l1).mono ?_
  rintro e w1 ⟨A1, c1', rfl, hr1, hb1⟩
  have hV1 := HV0.out.ext hb1
  have hB1 := bt hB0 hb1
  obtain ⟨c0, c1, c2, c3⟩ := hV1.cells
  simp only at c0 c1 c2 c3
  have HV1 := Lib.hid hV1
  have HR1 := Lib.hid hr1
  clear hb1 hV1 hr1
  go_wp2_with fail
  refine (put_err ⟨vk, vn, vr, vt⟩ HWF.out _ (HT.out.ext hB1) HM.out).mono ?_
  rintro e w2 ⟨rfl, hb2⟩
  have hV2 := HV1.out.ext hb2
  have hB2 := bt hB1 hb2
  have hr2 := HR1.out.ext hb2
  clear c0 c1 c2 c3
  obtain ⟨c0, c1, c2, c3⟩ := hV2.cells
  simp only at c0 c1 c2 c3
  have HV2 := Lib.hid hV2
  have HR2 := Lib.hid hr2
  clear hb2 hV2 hr2
  go_wp2_with fail
  refine (putrow_err l A1 c1' _ HR2.out (HT.out.ext hB2) HM'.out).mono ?_
  rintro e w3 ⟨rfl, hb3⟩
  have hV3 := HV2.out.ext hb3
  have hB3 := bt hB2 hb3
  have hr3 := HR2.out.ext hb3
  clear c0 c1 c2 c3
  obtain ⟨c0, c1, c2, c3⟩ := hV3.cells
  simp only at c0 c1 c2 c3
  have HV3 := Lib.hid hV3
  have HR3 := Lib.hid hr3
  clear hb3 hV3 hr3
  go_wp2_with fail
  refine (same_self l A1 A c1' c _ HR3.out (HR.out.ext hB3)).mono ?_
  rintro e w4 ⟨rfl, hb4⟩
  have hV4 := HV3.out.ext hb4
  have hB4 := bt hB3 hb4
  clear c0 c1 c2 c3
  obtain ⟨c0, c1, c2, c3⟩ := hV4.cells
  simp only at c0 c1 c2 c3
  have HV4 := Lib.hid hV4
  clear hb4 hV4
  go_wp2_with fail
  refine (may_is ⟨vk, vn, vr, vt⟩ HWF.out _ (HT.out.ext hB4) _ HM.out).mono ?_
  rintro e w5 ⟨rfl, hb5⟩
  have hV5 := HV4.out.ext hb5
  have hB5 := bt hB4 hb5
  clear c0 c1 c2 c3
  obtain ⟨c0, c1, c2, c3⟩ := hV5.cells
  simp only at c0 c1 c2 c3
  have HV5 := Lib.hid hV5
  clear hb5 hV5
  go_wp2_with fail
  refine (row_is l A c _ (HR.out.ext hB5) (HT.out.ext hB5) _ HM'.out).mono ?_
  rintro e w6 ⟨rfl, hb6⟩
  have hV6 := HV5.out.ext hb6
  have hB6 := bt hB5 hb6
  clear c0 c1 c2 c3
  obtain ⟨c0, c1, c2, c3⟩ := hV6.cells
  simp only at c0 c1 c2 c3
  have HV6 := Lib.hid hV6
  clear hb6 hV6
  go_wp2_with fail
  refine (may_is ⟨vk, vn, vr, vt⟩ HWF.out _ (HT.out.ext hB6) _ HM.out).mono ?_
  rintro e w7 ⟨rfl, hb7⟩
  have hV7 := HV6.out.ext hb7
  have hB7 := bt hB6 hb7
  clear c0 c1 c2 c3
  obtain ⟨c0, c1, c2, c3⟩ := hV7.cells
  simp only at c0 c1 c2 c3
  have HV7 := Lib.hid hV7
  clear hb7 hV7
  go_wp2_with fail
  refine (row_is l A c _ (HR.out.ext hB7) (HT.out.ext hB7) _ HM'.out).mono ?_
  rintro e w8 ⟨rfl, hb8⟩
  have hV8 := HV7.out.ext hb8
  have hB8 := bt hB7 hb8
  clear c0 c1 c2 c3
  obtain ⟨c0, c1, c2, c3⟩ := hV8.cells
  simp only at c0 c1 c2 c3
  have HV8 := Lib.hid hV8
  clear hb8 hV8
  go_wp2_with fail
  refine (alive_any _ (HT.out.ext hB8)).mono ?_
  rintro e w9 ⟨rfl, hb9⟩
  go_wp2_with fail
  go_ret
  exact ⟨rfl, bt hB8 hb9⟩
theorem puts_walk (v : V) (l : List V) (A : Option Addr) (c : Nat) (w : World) (hr : VRow w A l) (hT : Tabs w) (hv : v.wf) :
    Calls Tryd.prog 3 #[v.agg, .slice A l.length c] w fun e w' => e = .returned (.bool true) ∧ Below w.heap.size w w' := by
  by_cases h : 4000 < longN l ∨ 16384 < v.t.size
  · exact puts_long v l A c w hr hT hv h
  · have h1 : ¬ 4000 < longN l := fun x => h (.inl x)
    have h2 : v.t.size ≤ 16384 := by
      rcases Nat.lt_or_ge 16384 v.t.size with x | x
      · exact absurd (.inr x) h
      · exact x
    cases hm : mayB v
    · cases hm' : rowB l
      · exact puts_nn v l A c w hr hT hv h1 h2 hm hm'
      · exact puts_ny v l A c w hr hT hv h1 h2 hm hm'
    · cases hm' : rowB l
      · exact puts_yn v l A c w hr hT hv h1 h2 hm hm'
      · exact puts_yy v l A c w hr hT hv h1 h2 hm hm'
end Go.Proofs.YtjdfodmialhakaaDoor
