/- Several texts in one: see each part's head. -/
import Derived.Test.YtjdfodmialhakaaDoorCheck
import Derived.Deep.QuietTactic
import Derived.BigQuiet
/- The contract of the reference's May: it tells, for any value, whether it may be (mayB). -/
namespace Go.Proofs.YtjdfodmialhakaaDoor
open Go.RowKit

set_option maxRecDepth 100000 in
theorem may_plain (v : V) (hv : v.wf) (hk : v.k ≤ 2) (w : World) :
    Calls Tryd.prog 23 #[v.agg] w fun e w' => e = .returned (.bool (mayB v)) ∧ Below w.heap.size w w' := by
  obtain ⟨k, n, r, t⟩ := v
  obtain ⟨hk0, _, h1, h2, h3, h4, h5⟩ := hv
  simp only at h1 h2 h3 h4 h5 hk hk0
  unfold V.agg
  have hkk : k = 0 ∨ k = 1 ∨ k = 2 := by omega
  by_cases ht : t.size = 0
  · obtain rfl := empty_of_size ht
    clear ht
    rcases hkk with rfl | rfl | rfl
    all_goals
      generalize hM : mayB _ = M
      have HM := Lib.hid hM
      clear hM
      go_enter Tryd.func23, Tryd.ntmps23
      go_wp2
      all_goals
        go_ret
        refine ⟨ret_bool ?_, by repeat (first | exact Below.refl _ _ | refine Below.alloc ?_ (by simp) _)⟩
        rw [← HM.out]
        first
          | (have hh : (n != 0) = true ∧ (n != 1) = true := by assumption
             simp only [bne_iff_ne, ne_eq] at hh
             simp [mayB, hh.1, hh.2]; done)
          | (have hh : (n != 0) = false ∨ (n != 1) = false := by assumption
             simp only [bne_eq_false_iff_eq] at hh
             have hr : r = 0 := by assumption
             rcases hh with rfl | rfl <;> simp [mayB, hr]; done)
          | (simp [mayB, *]; done)
  · have ht' := toList_ne ht
    have htp : 0 < t.size := by omega
    rcases hkk with rfl | rfl | rfl
    all_goals
      generalize hM : mayB _ = M
      have HM := Lib.hid hM
      clear hM
      go_enter Tryd.func23, Tryd.ntmps23
      go_wp2
      all_goals
        go_ret
        refine ⟨ret_bool ?_, by repeat (first | exact Below.refl _ _ | refine Below.alloc ?_ (by simp) _)⟩
        rw [← HM.out]
        simp [mayB, ht]

set_option maxRecDepth 100000 in
theorem may_bytes (v : V) (hv : v.wf) (hk : v.k = 4) (w : World) :
    Calls Tryd.prog 23 #[v.agg] w fun e w' => e = .returned (.bool (mayB v)) ∧ Below w.heap.size w w' := by
  obtain ⟨k, n, r, t⟩ := v
  obtain ⟨_, _, h1, h2, h3, h4, h5⟩ := hv
  simp only at h1 h2 h3 h4 h5 hk
  subst hk
  unfold V.agg
  generalize hM : mayB _ = M
  have HM := Lib.hid hM
  clear hM
  go_enter Tryd.func23, Tryd.ntmps23
  go_wp2
  all_goals
    go_ret
    refine ⟨ret_bool ?_, by repeat (first | exact Below.refl _ _ | refine Below.alloc ?_ (by simp) _)⟩
    rw [← HM.out]
    first
      | (simp [mayB, *]; done)
      | (simp [mayB, *]; omega)

set_option maxRecDepth 100000 in
theorem may_real (v : V) (hv : v.wf) (hk : v.k = 3) (w : World) :
    Calls Tryd.prog 23 #[v.agg] w fun e w' => e = .returned (.bool (mayB v)) ∧ Below w.heap.size w w' := by
  obtain ⟨k, n, r, t⟩ := v
  obtain ⟨_, _, h1, h2, h3, h4, h5⟩ := hv
  simp only at h1 h2 h3 h4 h5 hk
  subst hk
  unfold V.agg
  generalize hM : mayB _ = M
  have HM := Lib.hid hM
  clear hM
  have HC := Lib.hid (canonR_any r h3 h4)
  generalize hc : canonZ r = c at HC
  have Hc := Lib.hid hc
  clear hc
  by_cases ht : t.size = 0
  · obtain rfl := empty_of_size ht
    clear ht
    go_enter Tryd.func23, Tryd.ntmps23
    go_wp2_with (go_at_call 97; refine (HC.out _).mono ?_; rintro e w' ⟨rfl, rfl⟩)
    all_goals
      go_ret
      refine ⟨ret_bool ?_, by repeat (first | exact Below.refl _ _ | refine Below.alloc ?_ (by simp) _)⟩
      rw [← HM.out]
      first
        | (have e : canonZ r = r := by rw [Hc.out]; symm; assumption
           have hn : n = 0 := by assumption
           simp only [mayB, e, hn]; rfl)
        | (have e : ¬ r = canonZ r := by rw [Hc.out]; assumption
           simp [mayB, e]; done)
        | (have hn : ¬ n = 0 := by assumption
           simp [mayB, hn]; done)
  · have ht' := toList_ne ht
    have htp : 0 < t.size := by omega
    go_enter Tryd.func23, Tryd.ntmps23
    go_wp2_with (go_at_call 97; refine (HC.out _).mono ?_; rintro e w' ⟨rfl, rfl⟩)
    all_goals
      go_ret
      refine ⟨ret_bool ?_, by repeat (first | exact Below.refl _ _ | refine Below.alloc ?_ (by simp) _)⟩
      rw [← HM.out]
      simp [mayB, ht]

set_option maxRecDepth 100000 in
theorem may_other (v : V) (hv : v.wf) (hk : 5 < v.k) (w : World) :
    Calls Tryd.prog 23 #[v.agg] w fun e w' => e = .returned (.bool (mayB v)) ∧ Below w.heap.size w w' := by
  obtain ⟨k, n, r, t⟩ := v
  obtain ⟨_, _, h1, h2, h3, h4, h5⟩ := hv
  simp only at h1 h2 h3 h4 h5 hk
  unfold V.agg
  have hM : mayB ⟨k, n, r, t⟩ = false := by
    have e0 : ¬ k = 0 := by omega
    have e1 : ¬ k = 1 := by omega
    have e2 : ¬ k = 2 := by omega
    have e3 : ¬ k = 3 := by omega
    have e4 : ¬ k = 4 := by omega
    have e5 : ¬ k = 5 := by omega
    simp [mayB, e0, e1, e2, e3, e4, e5]
  rw [hM]
  clear hM
  go_enter Tryd.func23, Tryd.ntmps23
  go_wp2
  all_goals
    go_ret
    exact ⟨rfl, by repeat (first | exact Below.refl _ _ | refine Below.alloc ?_ (by simp) _)⟩

set_option maxRecDepth 100000 in
theorem may_text (v : V) (hv : v.wf) (hk : v.k = 5) (w : World) (hT : Tabs w) :
    Calls Tryd.prog 23 #[v.agg] w fun e w' => e = .returned (.bool (mayB v)) ∧ Below w.heap.size w w' := by
  obtain ⟨k, n, r, t⟩ := v
  obtain ⟨_, _, h1, h2, h3, h4, h5⟩ := hv
  simp only at h1 h2 h3 h4 h5 hk
  subst hk
  unfold V.agg
  generalize hM : mayB _ = M
  have HM := Lib.hid hM
  clear hM
  have HV := Lib.hid (fun W hW => valid_any t W (by omega) hW)
  generalize hc : Lib.validD t.data.toList = c at HV
  have Hc := Lib.hid hc
  clear hc
  have HT := Lib.hid hT
  clear hT
  cases c
  all_goals
    go_enter Tryd.func23, Tryd.ntmps23
    go_wp2_with (go_at_call 98; refine (HV.out _ (HT.out.ext (by repeat (first | exact Below.refl _ _ | refine Below.alloc ?_ (by simp) _)))).mono ?_; rintro e w' ⟨rfl, hb⟩; obtain ⟨hcl, hfr⟩ := bcell hb; have HB := Lib.hid hb; clear hb)
    all_goals
      go_ret
      refine ⟨ret_bool ?_, ?_⟩
      · rw [← HM.out]
        have hc := Hc.out
        clear hcl hfr HB
        first
          | (simp [mayB, *]; done)
          | (simp [mayB, *]; omega)
      · have hb := HB.out
        repeat (refine Below.setCell ?_ (by simp) _)
        refine Below.trans ?_ (hb.mono (by simp; omega))
        repeat (first | exact Below.refl _ _ | refine Below.alloc ?_ (by simp) _)

theorem may_any (v : V) (hv : v.wf) (w : World) (hT : Tabs w) :
    Calls Tryd.prog 23 #[v.agg] w fun e w' => e = .returned (.bool (mayB v)) ∧ Below w.heap.size w w' := by
  have h0 := hv.1
  by_cases h2 : v.k ≤ 2
  · exact may_plain v hv h2 w
  · by_cases h3 : v.k = 3
    · exact may_real v hv h3 w
    · by_cases h4 : v.k = 4
      · exact may_bytes v hv h4 w
      · by_cases h5 : v.k = 5
        · exact may_text v hv h5 w hT
        · exact may_other v hv (by omega) w
end Go.Proofs.YtjdfodmialhakaaDoor

/- Contracts of functions that read a row of values: the reference's Row, the statements' Long. -/
namespace Go.Proofs.YtjdfodmialhakaaDoor
open Go.RowKit

/-- A slice of values reads as l: each element's four cells. -/
def VRow (w : World) (A : Option Addr) (l : List V) : Prop :=
  (∀ v ∈ l, v.wf) ∧ l.length ≤ 35184372088832 ∧ (l ≠ [] → ∃ b off, A = some ⟨b, off, none⟩ ∧ b < w.heap.size ∧ ∀ i v, l[i]? = some v →
    w.cell? ⟨b, off + i * 4, none⟩ = some (.int .u8 v.k) ∧ w.cell? ⟨b, off + i * 4 + 1, none⟩ = some (.int .i64 v.n) ∧ w.cell? ⟨b, off + i * 4 + 2, none⟩ = some (.int .u64 v.r) ∧ w.cell? ⟨b, off + i * 4 + 3, none⟩ = some (.string v.t))
theorem VRow.ext {w w' : World} {A : Option Addr} {l : List V} (h : VRow w A l) (hb : Below w.heap.size w w') : VRow w' A l := by
  refine ⟨h.1, h.2.1, fun hl => ?_⟩
  obtain ⟨b, off, rfl, hlt, hc⟩ := h.2.2 hl
  refine ⟨b, off, rfl, Nat.lt_of_lt_of_le hlt hb.size, fun i v hi => ?_⟩
  obtain ⟨c0, c1, c2, c3⟩ := hc i v hi
  exact ⟨(hb.cell (p := ⟨b, _, none⟩) hlt).trans c0, (hb.cell (p := ⟨b, _, none⟩) hlt).trans c1, (hb.cell (p := ⟨b, _, none⟩) hlt).trans c2, (hb.cell (p := ⟨b, _, none⟩) hlt).trans c3⟩
theorem VRow.at_ {w : World} {A : Option Addr} {l : List V} (h : VRow w A l) {k : Nat} (hk : k < l.length) :
    ∃ (b off : Nat) (v : V), A = some ⟨b, off, none⟩ ∧ b < w.heap.size ∧ l[k]? = some v ∧ v ∈ l ∧ v.wf ∧
      w.cell? ⟨b, off + k * 4, none⟩ = some (.int .u8 v.k) ∧ w.cell? ⟨b, off + k * 4 + 1, none⟩ = some (.int .i64 v.n) ∧ w.cell? ⟨b, off + k * 4 + 2, none⟩ = some (.int .u64 v.r) ∧ w.cell? ⟨b, off + k * 4 + 3, none⟩ = some (.string v.t) := by
  obtain ⟨b, off, rfl, hlt, hc⟩ := h.2.2 (by intro e; simp [e] at hk)
  have hv := List.getElem?_eq_getElem hk
  obtain ⟨c0, c1, c2, c3⟩ := hc k _ hv
  exact ⟨b, off, l[k], rfl, hlt, hv, List.getElem_mem hk, h.1 _ (List.getElem_mem hk), c0, c1, c2, c3⟩

theorem sum_step {l : List V} {k : Nat} {s a : Int} {v : V} (h : s = a + ((l.take k).map fun v => (v.t.size : Int) / 8).sum) (hk : l[k]? = some v) :
    Hid (s + (v.t.size : Int) / 8 = a + ((l.take (k + 1)).map fun v => (v.t.size : Int) / 8).sum) := by
  show _ = _
  obtain ⟨hlt, hv⟩ := List.getElem?_eq_some_iff.1 hk
  rw [List.take_succ_eq_append_getElem hlt, List.map_append, List.sum_append, hv, h]
  simp
  omega
theorem all_step {l : List V} {k : Nat} {v : V} (h : (l.take k).all mayB = true) (hk : l[k]? = some v) (hm : mayB v = true) : Hid ((l.take (k + 1)).all mayB = true) := by
  show _ = _
  obtain ⟨hlt, hv⟩ := List.getElem?_eq_some_iff.1 hk
  rw [List.take_succ_eq_append_getElem hlt, List.all_append, h, hv]
  simp [hm]
/-- Long: the count of values, and of eighths of letters of the first hundred. -/
def longN (l : List V) : Int := (l.length : Int) + ((l.take 100).map fun v => (v.t.size : Int) / 8).sum
theorem long_end {l : List V} {k : Nat} {s : Int} (h : s = (l.length : Int) + ((l.take k).map fun v => (v.t.size : Int) / 8).sum) (hk : k = 100 ∨ (k = l.length ∧ k ≤ 100)) : decide (4000 < s) = decide (4000 < longN l) := by
  have : s = longN l := by
    rw [h]
    unfold longN
    rcases hk with rfl | ⟨rfl, h100⟩
    · rfl
    · rw [List.take_of_length_le (Nat.le_refl _), List.take_of_length_le h100]
  rw [this]
set_option maxRecDepth 100000 in
theorem long_any (l : List V) (A : Option Addr) (c : Nat) (w : World) (hr : VRow w A l) :
    Calls Tryd.prog 17 #[.slice A l.length c] w fun e w' => e = .returned (.bool (decide (4000 < longN l))) ∧ w = w' := by
  have hlen := hr.2.1
  generalize hM : decide (4000 < longN l) = M
  have HM := Lib.hid hM
  clear hM
  go_enter Tryd.func17, Tryd.ntmps17
  go_wp2
  go_loop [3, 4] (fun n i => ∃ (k : Nat) (s : Int), k ≤ l.length ∧ k ≤ 100 ∧ i = .int .i64 k ∧ n = .int .i64 s ∧ 0 ≤ s ∧ s ≤ 35184372088832 + k * 17592186044416 ∧ Hid (s = (l.length : Int) + ((l.take k).map fun v => (v.t.size : Int) / 8).sum)) (fun _ i => l.length - (intOf i).toNat)
  case atStart => exact ⟨0, l.length, by omega, by omega, rfl, rfl, by omega, by omega, (by simp : _ = _)⟩
  case round =>
    obtain ⟨k, s, hk1, hk2, rfl, rfl, hs0, hs1, HS⟩ := hrel
    by_cases hlt : k < l.length
    · obtain ⟨b, off, v, rfl, hb, hlk, hmem, hwf, c0, c1, c2, c3⟩ := hr.at_ hlt
      obtain ⟨vk, vn, vr, vt⟩ := v
      have hts : vt.size ≤ 140737488355328 := hwf.2.2.2.2.2.2
      have HL := Lib.hid hlk
      clear hlk hwf hmem
      by_cases h100 : k < 100
      · go_wp2
        go_round
        case rel => exact ⟨k + 1, s + (vt.size : Int) / 8, by omega, by omega, by go_num, rfl, by omega, by omega, sum_step HS.out HL.out⟩
        case measure => simp [intOf]; omega
      · go_wp2
        go_ret
        exact ⟨ret_bool (by rw [← HM.out]; exact long_end HS.out (Or.inl (by omega))), rfl⟩
    · go_wp2
      go_ret
      exact ⟨ret_bool (by rw [← HM.out]; exact long_end HS.out (Or.inr ⟨by omega, by omega⟩)), rfl⟩

/-- Rows that may be. -/
def rowB (l : List V) : Bool := decide (1 ≤ l.length) && decide (l.length ≤ 8) && l.all mayB
theorem row_not {l : List V} {k : Nat} {v : V} (hk : l[k]? = some v) (hm : mayB v = false) : false = rowB l := by
  have : l.all mayB = false := by
    rw [List.all_eq_false]
    exact ⟨v, List.mem_of_getElem? hk, by simp [hm]⟩
  simp [rowB, this]
set_option maxRecDepth 100000 in
theorem refrow_any (l : List V) (A : Option Addr) (c : Nat) (w : World) (hr : VRow w A l) (hT : Tabs w) :
    Calls Tryd.prog 24 #[.slice A l.length c] w fun e w' => e = .returned (.bool (rowB l)) ∧ Below w.heap.size w w' := by
  have hlen := hr.2.1
  have HM := Lib.hid may_any
  generalize hM : rowB l = M
  have HR := Lib.hid hM
  clear hM
  have HT := Lib.hid hT
  have HV := Lib.hid hr
  clear hT hr
  go_enter Tryd.func24, Tryd.ntmps24
  go_wp2
  go_loopw [3] (fun i wr => ∃ k : Nat, k ≤ l.length ∧ i = .int .i64 k ∧ Hid ((l.take k).all mayB = true) ∧ Below w.heap.size w wr) (fun i _ => l.length - (intOf i).toNat)
  case atStart => exact ⟨0, by omega, rfl, (by simp : _ = _), Below.refl _ _⟩
  case round =>
    obtain ⟨k, hk1, rfl, HS, hbw⟩ := hrel
    by_cases hlt : k < l.length
    · obtain ⟨b, off, v, rfl, hb, hlk, hmem, hwf, c0, c1, c2, c3⟩ := (HV.out.ext hbw).at_ hlt
      have HC := Lib.hid (HM.out v hwf wr (HT.out.ext hbw))
      have HL := Lib.hid hlk
      obtain ⟨vk, vn, vr, vt⟩ := v
      unfold V.agg at HC
      simp only at c0 c1 c2 c3
      clear hlk hwf hmem
      cases hm : mayB ⟨vk, vn, vr, vt⟩
      all_goals
        rw [hm] at HC
        have HMV := Lib.hid hm
        clear hm
        go_wp2_with (go_at_call 23; ((with_reducible refine HC.out.mono ?_); rintro e w1 ⟨rfl, hb1⟩))
      · go_ret
        exact ⟨ret_bool (by rw [← HR.out]; exact row_not HL.out HMV.out), bt hbw hb1⟩
      · go_roundw
        case rel => exact ⟨k + 1, by omega, by go_num, all_step HS.out HL.out HMV.out, bt hbw hb1⟩
        case measure => simp [intOf]; omega
    · have hk : k = l.length := by omega
      have HK := Lib.hid hk
      clear hk
      go_wp2
      all_goals
        go_ret
        refine ⟨ret_bool ?_, hbw⟩
        rw [← HR.out]
        have hk := HK.out
        have hs := HS.out
        rw [hk, List.take_length] at hs
        unfold rowB
        rw [hs, Bool.and_true, Bool.eq_iff_iff]
        simp only [Bool.and_eq_true, decide_eq_true_eq, Bool.false_eq_true, false_iff, not_and]
        omega
end Go.Proofs.YtjdfodmialhakaaDoor
