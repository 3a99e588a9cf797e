/- Texts joined by a tool: contracts and walks of this claim. -/
import Derived.Test.YtceoficoappkpaaGreatDoorB9
namespace Go.Proofs.YtceoficoappkpaaGreatDoor
open Go.RowKit
theorem none_any (b : Int) (h0 : 0 ≤ b) (h1 : b ≤ 18446744073709551615) (w : World) :
  Calls Tryz.prog 156 #[.int .u64 b] w fun e w' => e = .returned (.bool (nanB b)) ∧ w = w' := by
 go_enter Tryz.func156, Tryz.ntmps156
 go_wp2
 all_goals go_ret
 · rename_i h
   refine ⟨?_, rfl⟩
   by_cases hz : b % 4503599627370496 = 0 <;> simp [nanB, h, bne, hz]
 · rename_i h
   exact ⟨by simp [nanB, h], rfl⟩
theorem canonR_any (b : Int) (h0 : 0 ≤ b) (h1 : b ≤ 18446744073709551615) (w : World) :
  Calls Tryz.prog 106 #[.int .u64 b] w fun e w' => e = .returned (.int .u64 (canonZ b)) ∧ w = w' := by
 cases hc : nanB b
 all_goals
  have hn := none_any b h0 h1
  rw [hc] at hn
  have HN := hd_ hn
  clear hn
  have HC := hd_ hc
  clear hc
  go_enter Tryz.func106, Tryz.ntmps106
  go_wp2_with (go_at_call 156; refine (HN.out _).mono ?_; rintro e w' ⟨rfl, rfl⟩)
  go_ret
  exact ⟨by simp [canonZ, HC.out], rfl⟩
set_option maxRecDepth 100000 in
theorem may_plain (v : V) (hv : v.wf) (hk : v.k ≤ 2) (w : World) :
  Calls Tryz.prog 70 #[v.agg] w fun e w' => e = .returned (.bool (mayB v)) ∧ Below w.heap.size w w' := by
 obtain ⟨k, n, r, t⟩ := v
 obtain ⟨hk0, _, h1, h2, h3, h4, h5⟩ := hv
 simp only at h1 h2 h3 h4 h5 hk hk0
 unfold V.agg
 have hkk : k = 0 ∨ k = 1 ∨ k = 2 := by omega
 by_cases ht : t.size = 0
 · obtain rfl := empty_of_size ht
   clear ht
   rcases hkk with rfl | rfl | rfl
   all_goals
    generalize hM : mayB _ = M
    have HM := hd_ hM
    clear hM
    go_enter Tryz.func70, Tryz.ntmps70
    go_wp2
    all_goals
     go_ret
     refine ⟨ret_bool ?_, by repeat (first | exact Below.refl _ _ | refine Below.alloc ?_ (by simp) _)⟩
     rw [← HM.out]
     first
      | (have hh : (n != 0) = true ∧ (n != 1) = true := by assumption
         simp only [bne_iff_ne, ne_eq] at hh
         simp [mayB, hh.1, hh.2]; done)
      | (have hh : (n != 0) = false ∨ (n != 1) = false := by assumption
         simp only [bne_eq_false_iff_eq] at hh
         have hr : r = 0 := by assumption
         rcases hh with rfl | rfl <;> simp [mayB, hr]; done)
      | (simp [mayB, *]; done)
 · have ht' := toList_ne ht
   have htp : 0 < t.size := by omega
   rcases hkk with rfl | rfl | rfl
   all_goals
    generalize hM : mayB _ = M
    have HM := hd_ hM
    clear hM
    go_enter Tryz.func70, Tryz.ntmps70
    go_wp2
    all_goals
     go_ret
     refine ⟨ret_bool ?_, by repeat (first | exact Below.refl _ _ | refine Below.alloc ?_ (by simp) _)⟩
     rw [← HM.out]
     simp [mayB, ht]
set_option maxRecDepth 100000 in
theorem may_bytes (v : V) (hv : v.wf) (hk : v.k = 4) (w : World) :
  Calls Tryz.prog 70 #[v.agg] w fun e w' => e = .returned (.bool (mayB v)) ∧ Below w.heap.size w w' := by
 obtain ⟨k, n, r, t⟩ := v
 obtain ⟨_, _, h1, h2, h3, h4, h5⟩ := hv
 simp only at h1 h2 h3 h4 h5 hk
 subst hk
 unfold V.agg
 generalize hM : mayB _ = M
 have HM := hd_ hM
 clear hM
 go_enter Tryz.func70, Tryz.ntmps70
 go_wp2
 all_goals
  go_ret
  refine ⟨ret_bool ?_, by repeat (first | exact Below.refl _ _ | refine Below.alloc ?_ (by simp) _)⟩
  rw [← HM.out]
  first
   | (simp [mayB, *]; done)
   | (simp [mayB, *]; omega)
set_option maxRecDepth 100000 in
theorem may_real (v : V) (hv : v.wf) (hk : v.k = 3) (w : World) :
  Calls Tryz.prog 70 #[v.agg] w fun e w' => e = .returned (.bool (mayB v)) ∧ Below w.heap.size w w' := by
 obtain ⟨k, n, r, t⟩ := v
 obtain ⟨_, _, h1, h2, h3, h4, h5⟩ := hv
 simp only at h1 h2 h3 h4 h5 hk
 subst hk
 unfold V.agg
 generalize hM : mayB _ = M
 have HM := hd_ hM
 clear hM
 have HC := hd_ (canonR_any r h3 h4)
 generalize hc : canonZ r = c at HC
 have Hc := hd_ hc
 clear hc
 by_cases ht : t.size = 0
 · obtain rfl := empty_of_size ht
   clear ht
   go_enter Tryz.func70, Tryz.ntmps70
   go_wp2_with (go_at_call 106; refine (HC.out _).mono ?_; rintro e w' ⟨rfl, rfl⟩)
   all_goals
    go_ret
    refine ⟨ret_bool ?_, by repeat (first | exact Below.refl _ _ | refine Below.alloc ?_ (by simp) _)⟩
    rw [← HM.out]
    first
     | (have e : canonZ r = r := by rw [Hc.out]; symm; assumption
        have hn : n = 0 := by assumption
        simp only [mayB, e, hn]; rfl)
     | (have e : ¬ r = canonZ r := by rw [Hc.out]; assumption
        simp [mayB, e]; done)
     | (have hn : ¬ n = 0 := by assumption
        simp [mayB, hn]; done)
 · have ht' := toList_ne ht
   have htp : 0 < t.size := by omega
   go_enter Tryz.func70, Tryz.ntmps70
   go_wp2_with (go_at_call 106; refine (HC.out _).mono ?_; rintro e w' ⟨rfl, rfl⟩)
   all_goals
    go_ret
    refine ⟨ret_bool ?_, by repeat (first | exact Below.refl _ _ | refine Below.alloc ?_ (by simp) _)⟩
    rw [← HM.out]
    simp [mayB, ht]
set_option maxRecDepth 100000 in
theorem may_other (v : V) (hv : v.wf) (hk : 5 < v.k) (w : World) :
  Calls Tryz.prog 70 #[v.agg] w fun e w' => e = .returned (.bool (mayB v)) ∧ Below w.heap.size w w' := by
 obtain ⟨k, n, r, t⟩ := v
 obtain ⟨_, _, h1, h2, h3, h4, h5⟩ := hv
 simp only at h1 h2 h3 h4 h5 hk
 unfold V.agg
 have hM : mayB ⟨k, n, r, t⟩ = false := by
  have e0 : ¬ k = 0 := by omega
  have e1 : ¬ k = 1 := by omega
  have e2 : ¬ k = 2 := by omega
  have e3 : ¬ k = 3 := by omega
  have e4 : ¬ k = 4 := by omega
  have e5 : ¬ k = 5 := by omega
  simp [mayB, e0, e1, e2, e3, e4, e5]
 rw [hM]
 clear hM
 go_enter Tryz.func70, Tryz.ntmps70
 go_wp2
 all_goals
  go_ret
  exact ⟨rfl, by repeat (first | exact Below.refl _ _ | refine Below.alloc ?_ (by simp) _)⟩
set_option maxRecDepth 100000 in
theorem may_text (v : V) (hv : v.wf) (hk : v.k = 5) (w : World) (hT : Tabs w) :
  Calls Tryz.prog 70 #[v.agg] w fun e w' => e = .returned (.bool (mayB v)) ∧ Below w.heap.size w w' := by
 obtain ⟨k, n, r, t⟩ := v
 obtain ⟨_, _, h1, h2, h3, h4, h5⟩ := hv
 simp only at h1 h2 h3 h4 h5 hk
 subst hk
 unfold V.agg
 generalize hM : mayB _ = M
 have HM := hd_ hM
 clear hM
 have HV := hd_ (fun W hW => valid_any t W (by omega) hW)
 generalize hc : Lib.validD t.data.toList = c at HV
 have Hc := hd_ hc
 clear hc
 have HT := hd_ hT
 clear hT
 cases c
 all_goals
  go_enter Tryz.func70, Tryz.ntmps70
  go_wp2_with (go_at_call 92; refine (HV.out _ (HT.out.ext (by repeat (first | exact Below.refl _ _ | refine Below.alloc ?_ (by simp) _)))).mono ?_; rintro e w' ⟨rfl, hb⟩; obtain ⟨hcl, hfr⟩ := bcell hb; have HB := hd_ hb; clear hb)
  all_goals
   go_ret
   refine ⟨ret_bool ?_, ?_⟩
   · rw [← HM.out]
     have hc := Hc.out
     clear hcl hfr HB
     first
      | (simp [mayB, *]; done)
      | (simp [mayB, *]; omega)
   · have hb := HB.out
     repeat (refine Below.setCell ?_ (by simp) _)
     refine Below.trans ?_ (hb.mono (by simp; omega))
     repeat (first | exact Below.refl _ _ | refine Below.alloc ?_ (by simp) _)
theorem may_any (v : V) (hv : v.wf) (w : World) (hT : Tabs w) :
  Calls Tryz.prog 70 #[v.agg] w fun e w' => e = .returned (.bool (mayB v)) ∧ Below w.heap.size w w' := by
 have h0 := hv.1
 by_cases h2 : v.k ≤ 2
 · exact may_plain v hv h2 w
 · by_cases h3 : v.k = 3
   · exact may_real v hv h3 w
   · by_cases h4 : v.k = 4
     · exact may_bytes v hv h4 w
     · by_cases h5 : v.k = 5
       · exact may_text v hv h5 w hT
       · exact may_other v hv (by omega) w
theorem getVs_back : ∀ (n : Nat) (l : List UInt8), (getVs n l).1 = 0 →
  (getVs n l).2.1.length = n ∧ (∀ v ∈ (getVs n l).2.1, v.wf ∧ mayB v = true) ∧ l.take (getVs n l).2.2 = (getVs n l).2.1.flatMap putL ∧ (getVs n l).2.2 ≤ l.length
 | 0, l, _ => ⟨rfl, (fun v h => by cases h), by simp [getVs], by simp [getVs]⟩
 | n + 1, l, h => by
  rw [getVs] at h ⊢
  by_cases hv : (getV l).1 = 0
  · rw [if_pos hv] at h ⊢
    by_cases hr : (getVs n (l.drop (getV l).2.2)).1 = 0
    · rw [if_pos hr] at h ⊢
      obtain ⟨i1, i2, i3, i4⟩ := getVs_back n _ hr
      obtain ⟨v1, v2, v3, v4⟩ := getV_cases hv
      refine ⟨by simp [i1], ?_, ?_, ?_⟩
      · intro v hm
        rcases List.mem_cons.1 hm with rfl | hm
        · exact ⟨v2, v1⟩
        · exact i2 v hm
      · simp only [List.flatMap_cons]
        rw [List.take_add, v3, i3]
      · simp only
        rw [List.length_drop] at i4
        omega
    · rw [if_neg hr] at h
      exact absurd h hr
  · rw [if_neg hv] at h
    exact absurd h hv
theorem getRow_back {l : List UInt8} (h : (getRow l).1 = 0) :
  rowB (getRow l).2.1 = true ∧ (∀ v ∈ (getRow l).2.1, v.wf) ∧ l.take (getRow l).2.2 = putRowL (getRow l).2.1 ∧ 1 ≤ (getRow l).2.2 ∧ (getRow l).2.2 ≤ l.length := by
 cases l with
 | nil => cases h
 | cons c r =>
  by_cases hc : c.toNat < 1 ∨ 8 < c.toNat
  · rw [getRow, if_pos hc] at h; cases h
  · by_cases hv : (getVs c.toNat r).1 = 0
    · have e : getRow (c :: r) = (0, (getVs c.toNat r).2.1, 1 + (getVs c.toNat r).2.2) := by rw [getRow, if_neg hc, if_pos hv]
      rw [e]
      obtain ⟨i1, i2, i3, i4⟩ := getVs_back _ _ hv
      refine ⟨?_, fun v hm => (i2 v hm).1, ?_, by simp, by simp; omega⟩
      · unfold rowB
        simp only [Bool.and_eq_true, decide_eq_true_eq, List.all_eq_true, i1]
        exact ⟨⟨by omega, by omega⟩, fun v hm => (i2 v hm).2⟩
      · unfold putRowL
        simp only [i1]
        rw [Nat.add_comm, List.take_succ_cons, i3]
        simp
    · rw [getRow, if_neg hc, if_neg hv] at h
      exact absurd h hv
theorem byte_at (s : ByteArray) (i : Nat) (h : i < s.size) : s[i] = s.data.toList.getD i 0 := by
 rw [List.getD_eq_getElem?_getD, Array.getElem?_toList, Array.getElem?_eq_getElem h]
 rfl
set_option maxRecDepth 100000 in
theorem refname_any (s : ByteArray) (w : World) (hs : s.size ≤ 140737488355328) :
  Calls Tryz.prog 113 #[.string s] w fun r w' => r = .returned (.bool (nameB s)) ∧ w = w' := by
 generalize hM : nameB s = M
 have HM := hd_ hM
 clear hM
 go_enter Tryz.func113, Tryz.ntmps113
 go_wp2
 go_loop [3] (fun i => ∃ k : Nat, k ≤ s.size ∧ i = .int .i64 k ∧ Hid ((s.data.toList.take k).all (fun c => chB c.toNat) = true)) (fun i => s.size - (intOf i).toNat)
 case atStart => exact ⟨0, by omega, rfl, (by simp : _ = _)⟩
 case round =>
  obtain ⟨k, hk, rfl, HS⟩ := hrel
  by_cases hlt : k < s.size
  · obtain ⟨v, hv⟩ : ∃ v : Int, v = ((s.data.toList.getD k 0).toNat : Int) := ⟨_, rfl⟩
    have c1 : ∀ hh, ((s[k]'hh).toNat : Int) = v := fun hh => by rw [hv, byte_at s k hh]
    have HV := hd_ hv
    have hlt' : (k : Int) < s.size := by omega
    clear hv
    cases hc : chB v
    · have hf := chars_not hlt (by rw [← HV.out]; exact hc)
      have hMf : Hid (M = false) := by show _ = _; rw [← HM.out]; unfold nameB; rw [hf]; rfl
      have hc' := of_decide_eq_false hc
      clear hf hc HM
      by_cases h97 : v < 97
      · have g97 : ¬ 97 ≤ v := by omega
        by_cases h48 : v < 48
        · have g48 : ¬ 48 ≤ v := by omega
          clear hc'
          go_wp2
          go_ret
          exact ⟨ret_bool hMf.out.symm, rfl⟩
        · have h57 : 57 < v := by omega
          have g57 : ¬ v ≤ 57 := by omega
          have g48 : 48 ≤ v := by omega
          clear hc'
          go_wp2
          go_ret
          exact ⟨ret_bool hMf.out.symm, rfl⟩
      · have h122 : 122 < v := by omega
        have h57 : 57 < v := by omega
        have g122 : ¬ v ≤ 122 := by omega
        have g57 : ¬ v ≤ 57 := by omega
        have g97 : 97 ≤ v := by omega
        have g48 : 48 ≤ v := by omega
        clear hc'
        go_wp2
        go_ret
        exact ⟨ret_bool hMf.out.symm, rfl⟩
    · have hS' := chars_step hlt HS.out (by rw [← HV.out]; exact hc)
      have hc' := of_decide_eq_true hc
      clear hc
      by_cases h97 : v < 97
      · have h48 : 48 ≤ v := by omega
        have h57 : v ≤ 57 := by omega
        have g97 : ¬ 97 ≤ v := by omega
        clear hc'
        go_wp2
        go_round
        case rel => exact ⟨k + 1, by omega, by go_num, hS'⟩
        case measure => simp [intOf]; omega
      · have h122 : v ≤ 122 := by omega
        have g97 : 97 ≤ v := by omega
        clear hc'
        go_wp2
        go_round
        case rel => exact ⟨k + 1, by omega, by go_num, hS'⟩
        case measure => simp [intOf]; omega
  · obtain rfl : k = s.size := by omega
    have hf := chars_end HS.out
    have hMf : Hid (M = (decide (1 ≤ s.size) && decide (s.size ≤ 16))) := by show _ = _; rw [← HM.out]; unfold nameB; rw [hf]; rfl
    clear hf HM HS
    by_cases h1 : 1 ≤ s.size
    · go_wp2
      go_ret
      exact ⟨ret_bool (by rw [hMf.out, decide_eq_true h1, Bool.true_and]; exact decide_eq_decide.2 (by omega)), rfl⟩
    · go_wp2
      go_ret
      exact ⟨ret_bool (by rw [hMf.out, decide_eq_false h1]; rfl), rfl⟩
end Go.Proofs.YtceoficoappkpaaGreatDoor
