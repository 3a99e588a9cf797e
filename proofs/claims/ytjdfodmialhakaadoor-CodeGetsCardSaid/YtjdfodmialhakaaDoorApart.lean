/- The walk of CodeApart: whatever two rows come in, it answers true. -/
import Derived.Test.YtjdfodmialhakaaDoorPlain
import Derived.Test.YtjdfodmialhakaaDoorAlive
import Derived.StillTailTactics
namespace Go.Proofs.YtjdfodmialhakaaDoor
open Go.RowKit

theorem long_yes (l : List V) (A : Option Addr) (c : Nat) (w : World) (hr : VRow w A l) (h : 4000 < longN l) :
    Calls Tryd.prog 17 #[.slice A l.length c] w fun e w' => e = .returned (.bool true) ∧ w = w' := by
  have := long_any l A c w hr
  rwa [decide_eq_true h] at this
theorem long_not (l : List V) (A : Option Addr) (c : Nat) (w : World) (hr : VRow w A l) (h : ¬ 4000 < longN l) :
    Calls Tryd.prog 17 #[.slice A l.length c] w fun e w' => e = .returned (.bool false) ∧ w = w' := by
  have := long_any l A c w hr
  rwa [decide_eq_false h] at this
theorem long_len {l : List V} (h : ¬ 4000 < longN l) : l.length ≤ 4000 := by
  have h0 : ∀ m : List V, 0 ≤ (m.map fun v => (v.t.size : Int) / 8).sum := by
    intro m
    induction m with
    | nil => simp
    | cons v m ih => simp only [List.map_cons, List.sum_cons]; omega
  have := h0 (l.take 100)
  unfold longN at h
  omega
/-- A copy, and what it has as bytes: both calls, one behind the other. -/
theorem copy_row (l : List V) (A : Option Addr) (c : Nat) (w : World) (hr : VRow w A l) (hl : l.length ≤ 4000) :
    Calls Tryd.prog 19 #[.slice A l.length c] w fun e w' => ∃ A' c', e = .returned (.slice A' l.length c') ∧ VRow w' A' l ∧ Below w.heap.size w w' :=
  (copy_any l A c w hr (by omega)).mono fun e w' ⟨A', c', he, ho, hb⟩ => ⟨A', c', he, (VRow.of_own hr.1 hr.2.1 ho).1, hb⟩
theorem putrow_err (l : List V) (A : Option Addr) (c : Nat) (w : World) (hr : VRow w A l) (hT : Tabs w) (hm : rowB l = false) :
    Calls Tryd.prog 21 #[.slice A l.length c] w fun e w' => e = .returned (.tuple #[.string ⟨#[]⟩, .int .i64 2]) ∧ Below w.heap.size w w' := by
  have h := putrow_any l A c w hr hT
  unfold putRowR at h
  rw [hm] at h
  exact h
theorem putrow_ok (l : List V) (A : Option Addr) (c : Nat) (w : World) (hr : VRow w A l) (hT : Tabs w) (hm : rowB l = true) :
    Calls Tryd.prog 21 #[.slice A l.length c] w fun e w' => e = .returned (.tuple #[.string ⟨(putRowL l).toArray⟩, .int .i64 0]) ∧ Below w.heap.size w w' := by
  have h := putrow_any l A c w hr hT
  unfold putRowR at h
  rw [hm] at h
  exact h

set_option maxRecDepth 100000 in
theorem apart_long (l m : List V) (A B : Option Addr) (c d : Nat) (w : World) (hr : VRow w A l) (hs : VRow w B m) (hT : Tabs w) (h : 4000 < longN l ∨ 4000 < longN m) :
    Calls Tryd.prog 5 #[.slice A l.length c, .slice B m.length d] w fun e w' => e = .returned (.bool true) ∧ Below w.heap.size w w' := by
  have HA := Lib.hid (alive_any w hT)
  by_cases h1 : 4000 < longN l
  · have H1 := Lib.hid (long_yes l A c w hr h1)
    clear hr hs hT h h1
    go_enter Tryd.func5, Tryd.ntmps5
    go_wp2_with fail
    refine (H1.out).mono ?_
    rintro e w' ⟨rfl, rfl⟩
    go_wp2_with fail
    refine (HA.out).mono ?_
    rintro e w1 ⟨rfl, hb⟩
    go_wp2_with fail
    go_ret
    exact ⟨rfl, hb⟩
  · have H1 := Lib.hid (long_not l A c w hr h1)
    have H2 := Lib.hid (long_yes m B d w hs (h.resolve_left h1))
    clear hr hs hT h h1
    go_enter Tryd.func5, Tryd.ntmps5
    go_wp2_with fail
    refine (H1.out).mono ?_
    rintro e w' ⟨rfl, rfl⟩
    go_wp2_with fail
    refine (H2.out).mono ?_
    rintro e w' ⟨rfl, rfl⟩
    go_wp2_with fail
    refine (HA.out).mono ?_
    rintro e w1 ⟨rfl, hb⟩
    go_wp2_with fail
    go_ret
    exact ⟨rfl, hb⟩
theorem slice_min (s : ByteArray) (n : Int) (h0 : 0 ≤ n) (h1 : n ≤ s.size) (W : World) : (Instr.slice 9 (.string s) none (some (.int .i64 n)) none).run Tryd.prog W = .ok (.string (s.extract 0 n.toNat)) W := by
  go_simp
theorem beq_str {a b : ByteArray} (h : ¬ a = b) : (a.toList == b.toList) = false := by
  rw [beq_eq_false_iff_ne]
  exact fun e => h (toList_inj e)
theorem ext_take (l : List UInt8) (n : Nat) : ((⟨l.toArray⟩ : ByteArray).extract 0 n).data.toList = l.take n := by
  simp [ByteArray.data_extract]
set_option maxRecDepth 100000 in
set_option maxHeartbeats 400000 in
theorem apart_short (l m : List V) (A B : Option Addr) (c d : Nat) (w : World) (hr : VRow w A l) (hs : VRow w B m) (hT : Tabs w) (h1 : ¬ 4000 < longN l) (h2 : ¬ 4000 < longN m) :
    Calls Tryd.prog 5 #[.slice A l.length c, .slice B m.length d] w fun e w' => e = .returned (.bool true) ∧ Below w.heap.size w w' := by
  have H1 := Lib.hid (long_not l A c w hr h1)
  have H2 := Lib.hid (long_not m B d w hs h2)
  have l1 := long_len h1
  have l2 := long_len h2
  have HR := Lib.hid hr
  have HS := Lib.hid hs
  have HT := Lib.hid hT
  have HC1 := Lib.hid (copy_row l A c w hr l1)
  clear hr hs hT h1 h2
  go_enter Tryd.func5, Tryd.ntmps5
  go_wp2_with fail
  refine (H1.out).mono ?_
  rintro e w' ⟨rfl, rfl⟩
  go_wp2_with fail
  refine (H2.out).mono ?_
  rintro e w' ⟨rfl, rfl⟩
  go_wp2_with fail
  refine (HC1.out).mono ?_
  rintro e w1 ⟨A1, c1, rfl, hr1, hb1⟩
  have HR1 := Lib.hid hr1
  clear hr1
  cases hm1 : rowB l
  · go_wp2_with fail
    refine (putrow_err l A1 c1 _ HR1.out (HT.out.ext hb1) hm1).mono ?_
    rintro e w2 ⟨rfl, hb2⟩
    have hb2' := bt hb1 hb2
    go_wp2_with fail
    refine (copy_row m B d _ (HS.out.ext hb2') l2).mono ?_
    rintro e w3 ⟨A3, c3, rfl, hr3, hb3⟩
    have hb3' := bt hb2' hb3
    have HR3 := Lib.hid hr3
    clear hr3
    go_wp2_with fail
    have hp : Calls Tryd.prog 21 #[.slice A3 m.length c3] w3 fun e w' => ∃ s n, e = .returned (.tuple #[.string s, .int .i64 n]) ∧ Below w3.heap.size w3 w' :=
      (putrow_any m A3 c3 _ HR3.out (HT.out.ext hb3')).mono fun e w' ⟨he, hb⟩ => ⟨_, _, he, hb⟩
    refine hp.mono ?_
    rintro e w4 ⟨s, n, rfl, hb4⟩
    have hb4' := bt hb3' hb4
    clear hp
    go_wp2_with fail
    refine (alive_any _ (HT.out.ext hb4')).mono ?_
    rintro e w5 ⟨rfl, hb5⟩
    go_wp2_with fail
    go_ret
    exact ⟨rfl, bt hb4' hb5⟩
  · go_wp2_with fail
    refine (putrow_ok l A1 c1 _ HR1.out (HT.out.ext hb1) hm1).mono ?_
    rintro e w2 ⟨rfl, hb2⟩
    have hb2' := bt hb1 hb2
    go_wp2_with fail
    refine (copy_row m B d _ (HS.out.ext hb2') l2).mono ?_
    rintro e w3 ⟨A3, c3, rfl, hr3, hb3⟩
    have hb3' := bt hb2' hb3
    have HR3 := Lib.hid hr3
    clear hr3
    cases hm2 : rowB m
    · go_wp2_with fail
      refine (putrow_err m A3 c3 _ HR3.out (HT.out.ext hb3') hm2).mono ?_
      rintro e w4 ⟨rfl, hb4⟩
      have hb4' := bt hb3' hb4
      go_wp2_with fail
      refine (alive_any _ (HT.out.ext hb4')).mono ?_
      rintro e w5 ⟨rfl, hb5⟩
      go_wp2_with fail
      go_ret
      exact ⟨rfl, bt hb4' hb5⟩
    · go_wp2_with fail
      refine (putrow_ok m A3 c3 _ HR3.out (HT.out.ext hb3') hm2).mono ?_
      rintro e w4 ⟨rfl, hb4⟩
      have hb4' := bt hb3' hb4
      go_wp2_with fail
      by_cases hlm : l = m
      · have hsame := same_any l m A B c d w4 (HR.out.ext hb4') (HS.out.ext hb4')
        rw [decide_eq_true hlm] at hsame
        refine hsame.mono ?_
        rintro e w5 ⟨rfl, hb5⟩
        have hb5' := bt hb4' hb5
        subst hlm
        go_wp2_with fail
        refine (alive_any _ (HT.out.ext hb5')).mono ?_
        rintro e w6 ⟨rfl, hb6⟩
        go_wp2_with fail
        go_ret
        exact ⟨rfl, bt hb5' hb6⟩
      · have hsame := same_any l m A B c d w4 (HR.out.ext hb4') (HS.out.ext hb4')
        rw [decide_eq_false hlm] at hsame
        refine hsame.mono ?_
        rintro e w5 ⟨rfl, hb5⟩
        have hb5' := bt hb4' hb5
        have hne : ¬ (putRowL l).take (min (putRowL l).length (putRowL m).length) = (putRowL m).take (min (putRowL l).length (putRowL m).length) := fun h => hlm (putRow_apart HR.out.1 HS.out.1 hm1 hm2 h)
        go_wp2_with fail
        have hz1 : (⟨(putRowL l).toArray⟩ : ByteArray).size = (putRowL l).length := by simp [ByteArray.size]
        have hz2 : (⟨(putRowL m).toArray⟩ : ByteArray).size = (putRowL m).length := by simp [ByteArray.size]
        have q1 := slice_min ⟨(putRowL l).toArray⟩ (min ((putRowL l).length : Int) (putRowL m).length) (by omega) (by omega)
        have q2 := slice_min ⟨(putRowL m).toArray⟩ (min ((putRowL l).length : Int) (putRowL m).length) (by omega) (by omega)
        have en : (min ((putRowL l).length : Int) (putRowL m).length).toNat = min (putRowL l).length (putRowL m).length := by omega
        rw [en] at q1 q2
        have q3 := beq_str (fun e => hne (by have := congrArg (fun x : ByteArray => x.data.toList) e; simpa only [ext_take] using this) : ¬ (⟨(putRowL l).toArray⟩ : ByteArray).extract 0 (min (putRowL l).length (putRowL m).length) = (⟨(putRowL m).toArray⟩ : ByteArray).extract 0 (min (putRowL l).length (putRowL m).length))
        generalize (⟨(putRowL l).toArray⟩ : ByteArray).extract 0 (min (putRowL l).length (putRowL m).length) = x1 at q1 q3
        generalize (⟨(putRowL m).toArray⟩ : ByteArray).extract 0 (min (putRowL l).length (putRowL m).length) = x2 at q2 q3
        generalize (⟨(putRowL l).toArray⟩ : ByteArray) = sa at q1 ⊢
        generalize (⟨(putRowL m).toArray⟩ : ByteArray) = sb at q2 ⊢
        generalize min ((putRowL l).length : Int) (putRowL m).length = n at q1 q2 ⊢
        clear hne hsame hz1 hz2 en hm1 hm2 hlm
        go_still_tail 8, (by kernel_rfl)
        change wpList _ _ _ _ _ w5.drew
        have hb5d := hb5'.drew
        generalize w5.drew = w5d at hb5d ⊢
        go_wp2_with fail
        refine (alive_any _ (HT.out.ext hb5d)).mono ?_
        rintro e w6 ⟨rfl, hb6⟩
        go_wp2_with fail
        go_ret
        exact ⟨rfl, bt hb5d hb6⟩
theorem apart_walk (l m : List V) (A B : Option Addr) (c d : Nat) (w : World) (hr : VRow w A l) (hs : VRow w B m) (hT : Tabs w) :
    Calls Tryd.prog 5 #[.slice A l.length c, .slice B m.length d] w fun e w' => e = .returned (.bool true) ∧ Below w.heap.size w w' := by
  by_cases h1 : 4000 < longN l
  · exact apart_long l m A B c d w hr hs hT (.inl h1)
  · by_cases h2 : 4000 < longN m
    · exact apart_long l m A B c d w hr hs hT (.inr h2)
    · exact apart_short l m A B c d w hr hs hT h1 h2
end Go.Proofs.YtjdfodmialhakaaDoor
