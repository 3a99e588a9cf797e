/- The contract of the reference's May: it tells, for any value, whether it may be (mayB). -/
import Derived.Test.YtjdfodmialhakaaDoorCheck
namespace Go.Proofs.YtjdfodmialhakaaDoor
open Go.RowKit

set_option maxRecDepth 100000 in
theorem may_plain (v : V) (hv : v.wf) (hk : v.k ≤ 2) (w : World) :
    Calls Tryd.prog 23 #[v.agg] w fun e w' => e = .returned (.bool (mayB v)) ∧ Below w.heap.size w w' := by
  obtain ⟨k, n, r, t⟩ := v
  obtain ⟨hk0, _, h1, h2, h3, h4, h5⟩ := hv
  simp only at h1 h2 h3 h4 h5 hk hk0
  unfold V.agg
  have hkk : k = 0 ∨ k = 1 ∨ k = 2 := by omega
  by_cases ht : t.size = 0
  · obtain rfl := empty_of_size ht
    clear ht
    rcases hkk with rfl | rfl | rfl
    all_goals
      generalize hM : mayB _ = M
      have HM := Lib.hid hM
      clear hM
      go_enter Tryd.func23, Tryd.ntmps23
      go_wp2
      all_goals
        go_ret
        refine ⟨ret_bool ?_, by repeat (first | exact Below.refl _ _ | refine Below.alloc ?_ (by simp) _)⟩
        rw [← HM.out]
        first
          | (have hh : (n != 0) = true ∧ (n != 1) = true := by assumption
             simp only [bne_iff_ne, ne_eq] at hh
             simp [mayB, hh.1, hh.2]; done)
          | (have hh : (n != 0) = false ∨ (n != 1) = false := by assumption
             simp only [bne_eq_false_iff_eq] at hh
             have hr : r = 0 := by assumption
             rcases hh with rfl | rfl <;> simp [mayB, hr]; done)
          | (simp [mayB, *]; done)
  · have ht' := toList_ne ht
    have htp : 0 < t.size := by omega
    rcases hkk with rfl | rfl | rfl
    all_goals
      generalize hM : mayB _ = M
      have HM := Lib.hid hM
      clear hM
      go_enter Tryd.func23, Tryd.ntmps23
      go_wp2
      all_goals
        go_ret
        refine ⟨ret_bool ?_, by repeat (first | exact Below.refl _ _ | refine Below.alloc ?_ (by simp) _)⟩
        rw [← HM.out]
        simp [mayB, ht]

set_option maxRecDepth 100000 in
theorem may_bytes (v : V) (hv : v.wf) (hk : v.k = 4) (w : World) :
    Calls Tryd.prog 23 #[v.agg] w fun e w' => e = .returned (.bool (mayB v)) ∧ Below w.heap.size w w' := by
  obtain ⟨k, n, r, t⟩ := v
  obtain ⟨_, _, h1, h2, h3, h4, h5⟩ := hv
  simp only at h1 h2 h3 h4 h5 hk
  subst hk
  unfold V.agg
  generalize hM : mayB _ = M
  have HM := Lib.hid hM
  clear hM
  go_enter Tryd.func23, Tryd.ntmps23
  go_wp2
  all_goals
    go_ret
    refine ⟨ret_bool ?_, by repeat (first | exact Below.refl _ _ | refine Below.alloc ?_ (by simp) _)⟩
    rw [← HM.out]
    first
      | (simp [mayB, *]; done)
      | (simp [mayB, *]; omega)

set_option maxRecDepth 100000 in
theorem may_real (v : V) (hv : v.wf) (hk : v.k = 3) (w : World) :
    Calls Tryd.prog 23 #[v.agg] w fun e w' => e = .returned (.bool (mayB v)) ∧ Below w.heap.size w w' := by
  obtain ⟨k, n, r, t⟩ := v
  obtain ⟨_, _, h1, h2, h3, h4, h5⟩ := hv
  simp only at h1 h2 h3 h4 h5 hk
  subst hk
  unfold V.agg
  generalize hM : mayB _ = M
  have HM := Lib.hid hM
  clear hM
  have HC := Lib.hid (canonR_any r h3 h4)
  generalize hc : canonZ r = c at HC
  have Hc := Lib.hid hc
  clear hc
  by_cases ht : t.size = 0
  · obtain rfl := empty_of_size ht
    clear ht
    go_enter Tryd.func23, Tryd.ntmps23
    go_wp2_with (go_at_call 97; refine (HC.out _).mono ?_; rintro e w' ⟨rfl, rfl⟩)
    all_goals
      go_ret
      refine ⟨ret_bool ?_, by repeat (first | exact Below.refl _ _ | refine Below.alloc ?_ (by simp) _)⟩
      rw [← HM.out]
      first
        | (have e : canonZ r = r := by rw [Hc.out]; symm; assumption
           have hn : n = 0 := by assumption
           simp only [mayB, e, hn]; rfl)
        | (have e : ¬ r = canonZ r := by rw [Hc.out]; assumption
           simp [mayB, e]; done)
        | (have hn : ¬ n = 0 := by assumption
           simp [mayB, hn]; done)
  · have ht' := toList_ne ht
    have htp : 0 < t.size := by omega
    go_enter Tryd.func23, Tryd.ntmps23
    go_wp2_with (go_at_call 97; refine (HC.out _).mono ?_; rintro e w' ⟨rfl, rfl⟩)
    all_goals
      go_ret
      refine ⟨ret_bool ?_, by repeat (first | exact Below.refl _ _ | refine Below.alloc ?_ (by simp) _)⟩
      rw [← HM.out]
      simp [mayB, ht]

set_option maxRecDepth 100000 in
theorem may_other (v : V) (hv : v.wf) (hk : 5 < v.k) (w : World) :
    Calls Tryd.prog 23 #[v.agg] w fun e w' => e = .returned (.bool (mayB v)) ∧ Below w.heap.size w w' := by
  obtain ⟨k, n, r, t⟩ := v
  obtain ⟨_, _, h1, h2, h3, h4, h5⟩ := hv
  simp only at h1 h2 h3 h4 h5 hk
  unfold V.agg
  have hM : mayB ⟨k, n, r, t⟩ = false := by
    have e0 : ¬ k = 0 := by omega
    have e1 : ¬ k = 1 := by omega
    have e2 : ¬ k = 2 := by omega
    have e3 : ¬ k = 3 := by omega
    have e4 : ¬ k = 4 := by omega
    have e5 : ¬ k = 5 := by omega
    simp [mayB, e0, e1, e2, e3, e4, e5]
  rw [hM]
  clear hM
  go_enter Tryd.func23, Tryd.ntmps23
  go_wp2
  all_goals
    go_ret
    exact ⟨rfl, by repeat (first | exact Below.refl _ _ | refine Below.alloc ?_ (by simp) _)⟩

set_option maxRecDepth 100000 in
theorem may_text (v : V) (hv : v.wf) (hk : v.k = 5) (w : World) (hT : Tabs w) :
    Calls Tryd.prog 23 #[v.agg] w fun e w' => e = .returned (.bool (mayB v)) ∧ Below w.heap.size w w' := by
  obtain ⟨k, n, r, t⟩ := v
  obtain ⟨_, _, h1, h2, h3, h4, h5⟩ := hv
  simp only at h1 h2 h3 h4 h5 hk
  subst hk
  unfold V.agg
  generalize hM : mayB _ = M
  have HM := Lib.hid hM
  clear hM
  have HV := Lib.hid (fun W hW => valid_any t W (by omega) hW)
  generalize hc : Lib.validD t.data.toList = c at HV
  have Hc := Lib.hid hc
  clear hc
  have HT := Lib.hid hT
  clear hT
  cases c
  all_goals
    go_enter Tryd.func23, Tryd.ntmps23
    go_wp2_with (go_at_call 98; refine (HV.out _ (HT.out.ext (by repeat (first | exact Below.refl _ _ | refine Below.alloc ?_ (by simp) _)))).mono ?_; rintro e w' ⟨rfl, hb⟩; obtain ⟨hcl, hfr⟩ := bcell hb; have HB := Lib.hid hb; clear hb)
    all_goals
      go_ret
      refine ⟨ret_bool ?_, ?_⟩
      · rw [← HM.out]
        have hc := Hc.out
        clear hcl hfr HB
        first
          | (simp [mayB, *]; done)
          | (simp [mayB, *]; omega)
      · have hb := HB.out
        repeat (refine Below.setCell ?_ (by simp) _)
        refine Below.trans ?_ (hb.mono (by simp; omega))
        repeat (first | exact Below.refl _ _ | refine Below.alloc ?_ (by simp) _)

theorem may_any (v : V) (hv : v.wf) (w : World) (hT : Tabs w) :
    Calls Tryd.prog 23 #[v.agg] w fun e w' => e = .returned (.bool (mayB v)) ∧ Below w.heap.size w w' := by
  have h0 := hv.1
  by_cases h2 : v.k ≤ 2
  · exact may_plain v hv h2 w
  · by_cases h3 : v.k = 3
    · exact may_real v hv h3 w
    · by_cases h4 : v.k = 4
      · exact may_bytes v hv h4 w
      · by_cases h5 : v.k = 5
        · exact may_text v hv h5 w hT
        · exact may_other v hv (by omega) w
end Go.Proofs.YtjdfodmialhakaaDoor
