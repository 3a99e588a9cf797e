/- Texts joined by a tool: contracts and walks of this claim. -/
import Derived.Test.YtceoficoappkpaaGreatDoorB9
namespace Go.Proofs.YtceoficoappkpaaGreatDoor
open Go.RowKit
theorem none_any (b : Int) (h0 : 0 ≤ b) (h1 : b ≤ 18446744073709551615) (w : World) :
  Calls Tryz.prog 156 #[.int .u64 b] w fun e w' => e = .returned (.bool (nanB b)) ∧ w = w' := by
 go_enter Tryz.func156, Tryz.ntmps156
 go_wp2
 all_goals go_ret
 · rename_i h
   refine ⟨?_, rfl⟩
   by_cases hz : b % 4503599627370496 = 0 <;> simp [nanB, h, bne, hz]
 · rename_i h
   exact ⟨by simp [nanB, h], rfl⟩
theorem canonR_any (b : Int) (h0 : 0 ≤ b) (h1 : b ≤ 18446744073709551615) (w : World) :
  Calls Tryz.prog 106 #[.int .u64 b] w fun e w' => e = .returned (.int .u64 (canonZ b)) ∧ w = w' := by
 cases hc : nanB b
 all_goals
  have hn := none_any b h0 h1
  rw [hc] at hn
  have HN := hd_ hn
  clear hn
  have HC := hd_ hc
  clear hc
  go_enter Tryz.func106, Tryz.ntmps106
  go_wp2_with (go_at_call 156; refine (HN.out _).mono ?_; rintro e w' ⟨rfl, rfl⟩)
  go_ret
  exact ⟨by simp [canonZ, HC.out], rfl⟩
set_option maxRecDepth 100000 in
theorem may_plain (v : V) (hv : v.wf) (hk : v.k ≤ 2) (w : World) :
  Calls Tryz.prog 70 #[v.agg] w fun e w' => e = .returned (.bool (mayB v)) ∧ Below w.heap.size w w' := by
 obtain ⟨k, n, r, t⟩ := v
 obtain ⟨hk0, _, h1, h2, h3, h4, h5⟩ := hv
 simp only at h1 h2 h3 h4 h5 hk hk0
 unfold V.agg
 have hkk : k = 0 ∨ k = 1 ∨ k = 2 := by omega
 by_cases ht : t.size = 0
 · obtain rfl := empty_of_size ht
   clear ht
   rcases hkk with rfl | rfl | rfl
   all_goals
    generalize hM : mayB _ = M
    have HM := hd_ hM
    clear hM
    go_enter Tryz.func70, Tryz.ntmps70
    go_wp2
    all_goals
     go_ret
     refine ⟨ret_bool ?_, by repeat (first | exact Below.refl _ _ | refine Below.alloc ?_ (by simp) _)⟩
     rw [← HM.out]
     first
      | (have hh : (n != 0) = true ∧ (n != 1) = true := by assumption
         simp only [bne_iff_ne, ne_eq] at hh
         simp [mayB, hh.1, hh.2]; done)
      | (have hh : (n != 0) = false ∨ (n != 1) = false := by assumption
         simp only [bne_eq_false_iff_eq] at hh
         have hr : r = 0 := by assumption
         rcases hh with rfl | rfl <;> simp [mayB, hr]; done)
      | (simp [mayB, *]; done)
 · have ht' := toList_ne ht
   have htp : 0 < t.size := by omega
   rcases hkk with rfl | rfl | rfl
   all_goals
    generalize hM : mayB _ = M
    have HM := hd_ hM
    clear hM
    go_enter Tryz.func70, Tryz.ntmps70
    go_wp2
    all_goals
     go_ret
     refine ⟨ret_bool ?_, by repeat (first | exact Below.refl _ _ | refine Below.alloc ?_ (by simp) _)⟩
     rw [← HM.out]
     simp [mayB, ht]
set_option maxRecDepth 100000 in
theorem may_bytes (v : V) (hv : v.wf) (hk : v.k = 4) (w : World) :
  Calls Tryz.prog 70 #[v.agg] w fun e w' => e = .returned (.bool (mayB v)) ∧ Below w.heap.size w w' := by
 obtain ⟨k, n, r, t⟩ := v
 obtain ⟨_, _, h1, h2, h3, h4, h5⟩ := hv
 simp only at h1 h2 h3 h4 h5 hk
 subst hk
 unfold V.agg
 generalize hM : mayB _ = M
 have HM := hd_ hM
 clear hM
 go_enter Tryz.func70, Tryz.ntmps70
 go_wp2
 all_goals
  go_ret
  refine ⟨ret_bool ?_, by repeat (first | exact Below.refl _ _ | refine Below.alloc ?_ (by simp) _)⟩
  rw [← HM.out]
  first
   | (simp [mayB, *]; done)
   | (simp [mayB, *]; omega)
set_option maxRecDepth 100000 in
theorem may_real (v : V) (hv : v.wf) (hk : v.k = 3) (w : World) :
  Calls Tryz.prog 70 #[v.agg] w fun e w' => e = .returned (.bool (mayB v)) ∧ Below w.heap.size w w' := by
 obtain ⟨k, n, r, t⟩ := v
 obtain ⟨_, _, h1, h2, h3, h4, h5⟩ := hv
 simp only at h1 h2 h3 h4 h5 hk
 subst hk
 unfold V.agg
 generalize hM : mayB _ = M
 have HM := hd_ hM
 clear hM
 have HC := hd_ (canonR_any r h3 h4)
 generalize hc : canonZ r = c at HC
 have Hc := hd_ hc
 clear hc
 by_cases ht : t.size = 0
 · obtain rfl := empty_of_size ht
   clear ht
   go_enter Tryz.func70, Tryz.ntmps70
   go_wp2_with (go_at_call 106; refine (HC.out _).mono ?_; rintro e w' ⟨rfl, rfl⟩)
   all_goals
    go_ret
    refine ⟨ret_bool ?_, by repeat (first | exact Below.refl _ _ | refine Below.alloc ?_ (by simp) _)⟩
    rw [← HM.out]
    first
     | (have e : canonZ r = r := by rw [Hc.out]; symm; assumption
        have hn : n = 0 := by assumption
        simp only [mayB, e, hn]; rfl)
     | (have e : ¬ r = canonZ r := by rw [Hc.out]; assumption
        simp [mayB, e]; done)
     | (have hn : ¬ n = 0 := by assumption
        simp [mayB, hn]; done)
 · have ht' := toList_ne ht
   have htp : 0 < t.size := by omega
   go_enter Tryz.func70, Tryz.ntmps70
   go_wp2_with (go_at_call 106; refine (HC.out _).mono ?_; rintro e w' ⟨rfl, rfl⟩)
   all_goals
    go_ret
    refine ⟨ret_bool ?_, by repeat (first | exact Below.refl _ _ | refine Below.alloc ?_ (by simp) _)⟩
    rw [← HM.out]
    simp [mayB, ht]
set_option maxRecDepth 100000 in
theorem may_other (v : V) (hv : v.wf) (hk : 5 < v.k) (w : World) :
  Calls Tryz.prog 70 #[v.agg] w fun e w' => e = .returned (.bool (mayB v)) ∧ Below w.heap.size w w' := by
 obtain ⟨k, n, r, t⟩ := v
 obtain ⟨_, _, h1, h2, h3, h4, h5⟩ := hv
 simp only at h1 h2 h3 h4 h5 hk
 unfold V.agg
 have hM : mayB ⟨k, n, r, t⟩ = false := by
  have e0 : ¬ k = 0 := by omega
  have e1 : ¬ k = 1 := by omega
  have e2 : ¬ k = 2 := by omega
  have e3 : ¬ k = 3 := by omega
  have e4 : ¬ k = 4 := by omega
  have e5 : ¬ k = 5 := by omega
  simp [mayB, e0, e1, e2, e3, e4, e5]
 rw [hM]
 clear hM
 go_enter Tryz.func70, Tryz.ntmps70
 go_wp2
 all_goals
  go_ret
  exact ⟨rfl, by repeat (first | exact Below.refl _ _ | refine Below.alloc ?_ (by simp) _)⟩
set_option maxRecDepth 100000 in
theorem may_text (v : V) (hv : v.wf) (hk : v.k = 5) (w : World) (hT : Tabs w) :
  Calls Tryz.prog 70 #[v.agg] w fun e w' => e = .returned (.bool (mayB v)) ∧ Below w.heap.size w w' := by
 obtain ⟨k, n, r, t⟩ := v
 obtain ⟨_, _, h1, h2, h3, h4, h5⟩ := hv
 simp only at h1 h2 h3 h4 h5 hk
 subst hk
 unfold V.agg
 generalize hM : mayB _ = M
 have HM := hd_ hM
 clear hM
 have HV := hd_ (fun W hW => valid_any t W (by omega) hW)
 generalize hc : Lib.validD t.data.toList = c at HV
 have Hc := hd_ hc
 clear hc
 have HT := hd_ hT
 clear hT
 cases c
 all_goals
  go_enter Tryz.func70, Tryz.ntmps70
  go_wp2_with (go_at_call 92; refine (HV.out _ (HT.out.ext (by repeat (first | exact Below.refl _ _ | refine Below.alloc ?_ (by simp) _)))).mono ?_; rintro e w' ⟨rfl, hb⟩; obtain ⟨hcl, hfr⟩ := bcell hb; have HB := hd_ hb; clear hb)
  all_goals
   go_ret
   refine ⟨ret_bool ?_, ?_⟩
   · rw [← HM.out]
     have hc := Hc.out
     clear hcl hfr HB
     first
      | (simp [mayB, *]; done)
      | (simp [mayB, *]; omega)
   · have hb := HB.out
     repeat (refine Below.setCell ?_ (by simp) _)
     refine Below.trans ?_ (hb.mono (by simp; omega))
     repeat (first | exact Below.refl _ _ | refine Below.alloc ?_ (by simp) _)
theorem may_any (v : V) (hv : v.wf) (w : World) (hT : Tabs w) :
  Calls Tryz.prog 70 #[v.agg] w fun e w' => e = .returned (.bool (mayB v)) ∧ Below w.heap.size w w' := by
 have h0 := hv.1
 by_cases h2 : v.k ≤ 2
 · exact may_plain v hv h2 w
 · by_cases h3 : v.k = 3
   · exact may_real v hv h3 w
   · by_cases h4 : v.k = 4
     · exact may_bytes v hv h4 w
     · by_cases h5 : v.k = 5
       · exact may_text v hv h5 w hT
       · exact may_other v hv (by omega) w
theorem sum_step {l : List V} {k : Nat} {s a : Int} {v : V} (h : s = a + ((l.take k).map fun v => (v.t.size : Int) / 8).sum) (hk : l[k]? = some v) :
  Hid (s + (v.t.size : Int) / 8 = a + ((l.take (k + 1)).map fun v => (v.t.size : Int) / 8).sum) := by
 show _ = _
 obtain ⟨hlt, hv⟩ := List.getElem?_eq_some_iff.1 hk
 rw [List.take_succ_eq_append_getElem hlt, List.map_append, List.sum_append, hv, h]
 simp
 omega
def longN (l : List V) : Int := (l.length : Int) + ((l.take 100).map fun v => (v.t.size : Int) / 8).sum
theorem long_end {l : List V} {k : Nat} {s : Int} (h : s = (l.length : Int) + ((l.take k).map fun v => (v.t.size : Int) / 8).sum) (hk : k = 100 ∨ (k = l.length ∧ k ≤ 100)) : decide (4000 < s) = decide (4000 < longN l) := by
 have : s = longN l := by
  rw [h]
  unfold longN
  rcases hk with rfl | ⟨rfl, h100⟩
  · rfl
  · rw [List.take_of_length_le (Nat.le_refl _), List.take_of_length_le h100]
 rw [this]
set_option maxRecDepth 100000 in
theorem long_any (l : List V) (A : Option Addr) (c : Nat) (w : World) (hr : VRow w A l) :
  Calls Tryz.prog 35 #[.slice A l.length c] w fun e w' => e = .returned (.bool (decide (4000 < longN l))) ∧ w = w' := by
 have hlen := hr.2.1
 generalize hM : decide (4000 < longN l) = M
 have HM := hd_ hM
 clear hM
 go_enter Tryz.func35, Tryz.ntmps35
 go_wp2
 go_loop [3, 4] (fun n i => ∃ (k : Nat) (s : Int), k ≤ l.length ∧ k ≤ 100 ∧ i = .int .i64 k ∧ n = .int .i64 s ∧ 0 ≤ s ∧ s ≤ 35184372088832 + k * 17592186044416 ∧ Hid (s = (l.length : Int) + ((l.take k).map fun v => (v.t.size : Int) / 8).sum)) (fun _ i => l.length - (intOf i).toNat)
 case atStart => exact ⟨0, l.length, by omega, by omega, rfl, rfl, by omega, by omega, (by simp : _ = _)⟩
 case round =>
  obtain ⟨k, s, hk1, hk2, rfl, rfl, hs0, hs1, HS⟩ := hrel
  by_cases hlt : k < l.length
  · obtain ⟨b, off, v, rfl, hb, hlk, hmem, hwf, c0, c1, c2, c3⟩ := hr.at_ hlt
    obtain ⟨vk, vn, vr, vt⟩ := v
    have hts : vt.size ≤ 140737488355328 := hwf.2.2.2.2.2.2
    have HL := hd_ hlk
    clear hlk hwf hmem
    by_cases h100 : k < 100
    · go_wp2
      go_round
      case rel => exact ⟨k + 1, s + (vt.size : Int) / 8, by omega, by omega, by go_num, rfl, by omega, by omega, sum_step HS.out HL.out⟩
      case measure => simp [intOf]; omega
    · go_wp2
      go_ret
      exact ⟨ret_bool (by rw [← HM.out]; exact long_end HS.out (Or.inl (by omega))), rfl⟩
  · go_wp2
    go_ret
    exact ⟨ret_bool (by rw [← HM.out]; exact long_end HS.out (Or.inr ⟨by omega, by omega⟩)), rfl⟩
set_option maxRecDepth 100000 in
theorem copy_any (l : List V) (A : Option Addr) (c : Nat) (w : World) (hr : VRow w A l) (hl : l.length ≤ 2932031007402) :
  Calls Tryz.prog 38 #[.slice A l.length c] w fun e w' => ∃ A' c', e = .returned (.slice A' l.length c') ∧ w'.ownsRow w.heap.size 47 4 (.slice A' l.length c') l.length (rowCells l) ∧ Below w.heap.size w w' := by
 obtain ⟨i0, hi0, hz0, hz1, hz2⟩ := info_parts info_V
 have h0 : w.ownsRow w.heap.size 47 4 (.slice none 0 0) 0 [] := ⟨rfl, .inl ⟨rfl, rfl⟩⟩
 rcases A with _ | ad
 · obtain rfl : l = [] := by
    rcases l with _ | ⟨v, l⟩
    · rfl
    · obtain ⟨b, off, h, _⟩ := hr.2.2 (by simp)
      cases h
   go_enter Tryz.func38, Tryz.ntmps38
   go_wp2
   go_ret
   exact ⟨none, 0, rfl, h0, Below.refl _ _⟩
 · have hc : ∀ j u, (rowCells l)[j]? = some u → w.cell? (ad.add j) = some u := by
    rcases l with _ | ⟨v, l⟩
    · intro j u h; simp [rowCells] at h
    · obtain ⟨b, off, h, _⟩ := hr.2.2 (by simp)
      injection h with h
      subst h
      exact hr.cells_
   have HC := hd_ hc
   clear hc hr
   go_enter Tryz.func38, Tryz.ntmps38
   go_wp2_with (at_builtin; refine wpList_append_own _ rfl _ _ 25 rfl w.heap.size 47 i0 _ 4 40 Tryz.underlying25 hi0 hz0 hz1 hz2 rfl (by decide) (.slice none 0 0) 0 [] rfl h0 ad l.length c (rowCells l) rfl (rowCells_length l) HC.out (rowCells_one l) ?c3 ?c4 ?c5 ?_)
   case c3 => simp only [maxLen]; omega
   case c4 => omega
   case c5 => exact Nat.le_refl _
   intro v' w1 hown1 hg1 _
   have hbw1 : Below w.heap.size w w1 := (Below.refl _ _).grown hg1 (Nat.le_refl _) (by simp [Value.ownBlock])
   obtain ⟨A', c', rfl⟩ : ∃ A' c', v' = .slice A' l.length c' := by
    rcases hown1.2 with ⟨rfl, h⟩ | ⟨g, cap, cur, rfl, _⟩
    · exact ⟨none, 0, by rw [h]⟩
    · exact ⟨_, _, rfl⟩
   clear hg1
   go_wp2
   go_ret
   exact ⟨A', c', rfl, hown1, hbw1⟩
set_option maxRecDepth 100000 in
theorem neq_ne (k n r k' n' r' : Int) (t t' : ByteArray) (h : (⟨k, n, r, t⟩ : V) ≠ ⟨k', n', r', t'⟩) (w : World) :
  (binOp .neq 47 (.agg #[.int .u8 k, .int .i64 n, .int .u64 r, .string t]) (.agg #[.int .u8 k', .int .i64 n', .int .u64 r', .string t'])).run Tryz.prog w = .ok (.bool true) w := by
 go_simp
 rintro rfl rfl rfl ht
 exact h (by rw [toList_inj ht])
set_option maxRecDepth 100000 in
theorem neq_eq (k n r : Int) (t : ByteArray) (w : World) :
  (binOp .neq 47 (.agg #[.int .u8 k, .int .i64 n, .int .u64 r, .string t]) (.agg #[.int .u8 k, .int .i64 n, .int .u64 r, .string t])).run Tryz.prog w = .ok (.bool false) w := by
 go_simp
theorem take_same {l m : List V} {k : Nat} {v : V} (h : l.take k = m.take k) (hl : l[k]? = some v) (hm : m[k]? = some v) : Hid (l.take (k + 1) = m.take (k + 1)) := by
 show _ = _
 obtain ⟨h1, e1⟩ := List.getElem?_eq_some_iff.1 hl
 obtain ⟨h2, e2⟩ := List.getElem?_eq_some_iff.1 hm
 rw [List.take_succ_eq_append_getElem h1, List.take_succ_eq_append_getElem h2, h, e1, e2]
set_option maxRecDepth 100000 in
theorem same_any (l m : List V) (A B : Option Addr) (c d : Nat) (w : World) (hr : VRow w A l) (hs : VRow w B m) :
  Calls Tryz.prog 46 #[.slice A l.length c, .slice B m.length d] w fun e w' => e = .returned (.bool (decide (l = m))) ∧ Below w.heap.size w w' := by
 have hlen := hr.2.1
 have hlen2 := hs.2.1
 have HV := hd_ hr
 have HW := hd_ hs
 clear hr hs
 by_cases hne : l.length = m.length
 · generalize hP : decide (l = m) = P
   have HP := hd_ hP
   clear hP
   have HN := hd_ hne
   have hb1 : ((l.length : Int) != (m.length : Int)) = false := by simp [hne]
   have hle : l.length ≤ m.length := by omega
   clear hne
   go_enter Tryz.func46, Tryz.ntmps46
   go_wp2
   clear hb1
   go_loopw [5] (fun i wr => ∃ k : Nat, k ≤ l.length ∧ i = .int .i64 k ∧ Hid (l.take k = m.take k) ∧ Below w.heap.size w wr) (fun i _ => l.length - (intOf i).toNat)
   case atStart => exact ⟨0, by omega, rfl, (by simp : _ = _), Below.refl _ _⟩
   case round =>
    obtain ⟨k, hk1, rfl, HS, hbw⟩ := hrel
    by_cases hlt : k < l.length
    · obtain ⟨b, off, v, rfl, hb, hlk, hmem, hwf, c0, c1, c2, c3⟩ := (HV.out.ext hbw).at_ hlt
      obtain ⟨b', off', v', rfl, hb', hlk', hmem', hwf', c0', c1', c2', c3'⟩ := (HW.out.ext hbw).at_ (Nat.lt_of_lt_of_le hlt hle)
      have HL := hd_ hlk
      have HL' := hd_ hlk'
      clear hlk hlk' hmem hmem' hwf hwf'
      have i0 : (0 : Int) ≤ k := by omega
      have i1 : (k : Int) < l.length := by omega
      have i2 : (k : Int) < m.length := by omega
      by_cases hvv : v = v'
      · subst hvv
        obtain ⟨vk, vn, vr, vt⟩ := v
        simp only at c0 c1 c2 c3 c0' c1' c2' c3'
        have hq := neq_eq vk vn vr vt
        go_wp2
        go_quiet (fail)
        go_wp2
        go_roundw
        case rel => exact ⟨k + 1, by omega, by go_num, take_same HS.out HL.out HL'.out, by repeat (first | assumption | refine Below.drew ?_ | refine below_drewN ?_ _)⟩
        case measure => simp [intOf]; omega
      · have HNE := hd_ hvv
        clear hvv
        obtain ⟨vk, vn, vr, vt⟩ := v
        obtain ⟨xk, xn, xr, xt⟩ := v'
        simp only at c0 c1 c2 c3 c0' c1' c2' c3'
        have hq := neq_ne vk vn vr xk xn xr vt xt HNE.out
        go_wp2
        go_quiet (fail)
        go_wp2
        go_ret
        refine ⟨ret_bool ?_, by repeat (first | assumption | refine Below.drew ?_ | refine below_drewN ?_ _)⟩
        rw [← HP.out]
        refine (decide_eq_false ?_).symm
        rintro rfl
        have e := HL.out
        rw [HL'.out] at e
        exact HNE.out (Option.some.inj e.symm)
    · have hk : k = l.length := by omega
      have HK := hd_ hk
      clear hk
      go_wp2
      go_ret
      refine ⟨ret_bool ?_, hbw⟩
      rw [← HP.out]
      refine (decide_eq_true ?_).symm
      have e := HS.out
      rw [HK.out, List.take_length, HN.out, List.take_length] at e
      exact e
 · have hb1 : ((l.length : Int) != (m.length : Int)) = true := by
    rw [bne_iff_ne]; omega
   have e : decide (l = m) = false := decide_eq_false (fun e => hne (by rw [e]))
   rw [e]
   clear e hne
   go_enter Tryz.func46, Tryz.ntmps46
   go_wp2
   go_ret
   exact ⟨rfl, Below.refl _ _⟩
theorem numL_step' {n k : Nat} {M : List UInt8} {q : Int} {done : List UInt8} (h : M = done ++ numL (n - k) q.toNat) (hk : k < n) (h0 : 0 ≤ q) :
  Hid (M = (done ++ [UInt8.ofNat (q.toNat % 256)]) ++ numL (n - (k + 1)) (q / 256).toNat) := by
 show M = _
 rw [h]
 obtain ⟨m, hm⟩ : ∃ m, n - k = m + 1 := ⟨n - k - 1, by omega⟩
 have e : n - (k + 1) = m := by omega
 have e2 : (q / 256).toNat = q.toNat / 256 := by omega
 rw [hm, e, e2, numL, List.append_assoc]
 rfl
theorem byteCell_ofNat (q : Int) (h : 0 ≤ q) : byteCell (UInt8.ofNat (q.toNat % 256)) = .int .u8 (q % 256) := by
 unfold byteCell
 have : ((UInt8.ofNat (q.toNat % 256)).toNat : Int) = q % 256 := by
  rw [UInt8.toNat_ofNat']; omega
 rw [this]
set_option maxRecDepth 100000 in
set_option maxHeartbeats 400000 in
/-- The reference's: each round appends one byte to a row of the call's own. -/
theorem refnum (v : Int) (n : Nat) (h0 : 0 ≤ v) (h1 : v ≤ 18446744073709551615) (hn : n ≤ 8) (w : World) :
  Calls Tryz.prog 117 #[.int .u64 v, .int .i64 n] w fun e w' => e = .returned (.string ⟨(numL n v.toNat).toArray⟩) ∧ Below w.heap.size w w' := by
 obtain ⟨i0, hi0, hz0, hz1, hz2⟩ := info_parts info_u8
 generalize hM : numL n v.toNat = M
 have HM := hd_ hM
 clear hM
 go_enter Tryz.func117, Tryz.ntmps117
 go_wp2
 go_loopw [0, 5, 6] (fun vv b i wr => ∃ (k : Nat) (q : Int) (done : List UInt8), k ≤ n ∧ i = .int .i64 k ∧ vv = .int .u64 q ∧ 0 ≤ q ∧ q ≤ 18446744073709551615 ∧ done.length = k ∧ Hid (M = done ++ numL (n - k) q.toNat) ∧ wr.ownsRow w.heap.size 5 1 b k (done.map byteCell) ∧ Below w.heap.size w wr) (fun _ _ i _ => n - (intOf i).toNat)
 case atStart => exact ⟨0, v, [], by omega, rfl, rfl, h0, h1, rfl, by rw [← HM.out]; rfl, ⟨by simp, .inl ⟨rfl, rfl⟩⟩, Below.refl _ _⟩
 case round =>
  obtain ⟨k, q, done, hk, rfl, rfl, hq0, hq1, hdl, HR, hown, hbw⟩ := hrel
  have HD := hd_ hdl
  clear hdl
  by_cases hlt : k < n
  · have e8 : IntKind.u8.wrap (q % 256) = q % 256 := by simp [IntKind.wrap, IntKind.bits, IntKind.signed]
    have HE := hd_ e8
    go_wp2_with (at_builtin; refine wpList_append_own _ rfl _ _ 128 rfl w.heap.size 5 i0 (.int .u8 0) 1 1 Tryz.underlying128 hi0 hz0 hz1 hz2 rfl (by decide) _ k (done.map byteCell) rfl (hown.alloc _) ⟨wr.heap.size, 0, none⟩ 1 1 [.int .u8 (q % 256)] rfl rfl ?c1 ?c2 ?c3 ?c4 ?c5 ?_)
    case c1 => exact cell_one_new _ _ _
    case c2 => simp [Value.oneCell']
    case c3 => simp only [maxLen]; omega
    case c4 => omega
    case c5 => have := hbw.size; simp; omega
    intro v' w1 hown1 hg1 _
    have hown2 : w1.ownsRow w.heap.size 5 1 v' (k + 1) ((done ++ [UInt8.ofNat (q.toNat % 256)]).map byteCell) := by
     rw [List.map_append, List.map_singleton, byteCell_ofNat q hq0]; exact hown1
    have hbw1 : Below w.heap.size w w1 := (hbw.alloc hbw.size _).grown hg1 (by have := hbw.size; simp; omega) (own_ge hown)
    clear hown1 hg1 hbw hown
    go_wp2
    go_roundw
    case rel => exact ⟨k + 1, q / 256, done ++ [UInt8.ofNat (q.toNat % 256)], by omega, by go_num, rfl, by omega, by omega, by simp [HD.out], numL_step' HR.out hlt hq0, hown2, hbw1⟩
    case measure => simp [intOf]; omega
  · have hcv := conv_own done hown
    obtain rfl : n = k := by omega
    have hMd : M = done := by
     have := HR.out
     rw [Nat.sub_self, numL, List.append_nil] at this
     exact this
    have HMd := hd_ hMd
    clear hMd
    go_wp2
    go_ret
    exact ⟨by rw [HMd.out]; rfl, hbw⟩
theorem conv1c (w : World) (o o' : Obj) (a : Int) (c : Nat) :
  (convert 128 9 (.slice (some ⟨w.heap.size + 1 + 1, 0, none⟩) 1 c)).run Tryz.prog (((w.alloc o).alloc o').alloc (.cells #[.int .u8 a] 5)) = .ok (.string (strOfNums [a])) (((w.alloc o).alloc o').alloc (.cells #[.int .u8 a] 5)) := by
 have := conv1 ((w.alloc o).alloc o') a c
 simpa using this
theorem refnum8 (v : Int) (h0 : 0 ≤ v) (h1 : v ≤ 18446744073709551615) (w : World) :
 Calls Tryz.prog 117 #[.int .u64 v, .int .i64 8] w fun e w' => e = .returned (.string ⟨(numL 8 v.toNat).toArray⟩) ∧ Below w.heap.size w w' := refnum v 8 h0 h1 (by omega) w
set_option maxRecDepth 100000 in
theorem refput_any (v : V) (hv : v.wf) (hm : mayB v = true) (w : World) :
  Calls Tryz.prog 77 #[v.agg] w fun e w' => e = .returned (.string ⟨(putL v).toArray⟩) ∧ Below w.heap.size w w' := by
 have HMY := hd_ hm
 have hc1 := conv1
 have hc2 := conv1b
 have hc3 := conv1c
 have hk5 := may_kind hm
 clear hm
 obtain ⟨k, n, r, t⟩ := v
 obtain ⟨hk0, hkM, h1, h2, h3, h4, h5⟩ := hv
 simp only at h1 h2 h3 h4 h5 hk5 hk0 hkM
 unfold V.agg
 generalize hR : putL _ = R
 have HR := hd_ hR
 clear hR
 have hs1 : ∀ a : Int, (strOfNums [a]).size = 1 := fun _ => rfl
 have hs8 : ∀ a : Nat, (ByteArray.mk (numL 8 a).toArray).size = 8 := fun a => by simp [ByteArray.size, numL_length]
 have HN2 := hd_ (refnum8 (IntKind.u64.wrap n) (by rw [IntKind.wrap_u64]; omega) (by rw [IntKind.wrap_u64]; omega))
 have HN3 := hd_ (refnum8 r h3 h4)
 rcases hk5 with rfl | rfl | rfl | rfl | rfl | rfl
 all_goals
  have ht := may_size HMY.out
  simp only at ht
  go_enter Tryz.func77, Tryz.ntmps77
  go_wp2_with (first | (go_at_call 117; ((with_reducible refine (HN2.out _).mono ?_); rintro e w2 ⟨rfl, hb2⟩)) | (go_at_call 117; ((with_reducible refine (HN3.out _).mono ?_); rintro e w2 ⟨rfl, hb2⟩)))
  go_ret
  refine ⟨?_, ?_⟩
  · rw [← HR.out]
    refine congrArg (fun s => Ending.returned (.string s)) (ba_of ?_)
    have hm := HMY.out
    first
     | (rcases bool_of hm rfl with rfl | rfl <;> rfl)
     | (simp [putL, strOfNums, ByteArray.data_append, IntKind.wrap_u64, u64of]; done)
     | (simp [putL, strOfNums, ByteArray.data_append]; exact congrArg UInt8.ofNat (by omega))
     | rfl
  · first
     | exact (((Below.refl _ _).alloc (Nat.le_refl _) _).alloc (by simp) _).trans (hb2.mono (by simp; omega))
     | exact (((Below.refl _ _).alloc (Nat.le_refl _) _).alloc (by simp) _).alloc (by simp; omega) _
     | exact ((Below.refl _ _).alloc (Nat.le_refl _) _).alloc (by simp) _
set_option maxRecDepth 100000 in
theorem refputrow_any (l : List V) (A : Option Addr) (c : Nat) (w : World) (hr : VRow w A l) (hm : rowB l = true) :
  Calls Tryz.prog 48 #[.slice A l.length c] w fun e w' => e = .returned (.string ⟨(putRowL l).toArray⟩) ∧ Below w.heap.size w w' := by
 obtain ⟨h1, h8, hall⟩ := row_may hm
 have HALL := hd_ hall
 have HV := hd_ hr
 have HP := hd_ refput_any
 clear hr hm hall
 have hc1 := conv1
 generalize hP : putRowL l = P
 have HPL := hd_ hP
 clear hP
 go_enter Tryz.func48, Tryz.ntmps48
 go_wp2
 have hb0 : Below w.heap.size w (w.alloc (.cells #[.int .u8 (l.length : Int)] 5)) := (Below.refl _ _).alloc (Nat.le_refl _) _
 generalize w.alloc (.cells #[.int .u8 (l.length : Int)] 5) = w0 at hb0 ⊢
 go_loopw [3, 4] (fun s i wr => ∃ (k : Nat) (sb : ByteArray), k ≤ l.length ∧ i = .int .i64 k ∧ s = .string sb ∧ sb.size ≤ 1 + 102 * k ∧ Hid (sb.data.toList = UInt8.ofNat l.length :: (l.take k).flatMap putL) ∧ Below w.heap.size w wr) (fun _ i _ => l.length - (intOf i).toNat)
 case atStart => exact ⟨0, strOfNums [(l.length : Int)], by omega, rfl, rfl, by rw [strOfNums_size]; simp, (by simp [strOfNums] : _ = _), hb0⟩
 case round =>
  obtain ⟨k, sb, hk1, rfl, rfl, hsz, HS, hbw⟩ := hrel
  clear hb0
  by_cases hlt : k < l.length
  · obtain ⟨b, off, v, rfl, hb, hlk, hmem, hwf, c0, c1, c2, c3⟩ := (HV.out.ext hbw).at_ hlt
    have hmv := HALL.out v hmem
    have hpl := putL_length hmv
    have HPC := hd_ (fun W => HP.out v hwf hmv W)
    have hst := flat_step HS.out hlk
    obtain ⟨q, hq⟩ : ∃ q, q = putL v := ⟨_, rfl⟩
    rw [← hq] at hpl HPC hst
    have hqs : (ByteArray.mk q.toArray).size ≤ 102 := by simpa [ByteArray.size] using hpl
    obtain ⟨qb, hqb⟩ : ∃ qb : ByteArray, qb = ⟨q.toArray⟩ := ⟨_, rfl⟩
    rw [← hqb] at hqs HPC
    have hst2 : Hid ((sb ++ qb).data.toList = UInt8.ofNat l.length :: (l.take (k + 1)).flatMap putL) := by
     show _ = _
     rw [hqb, ByteArray.data_append]
     simpa using hst.out
    clear hst hqb hq hpl
    obtain ⟨vk, vn, vr, vt⟩ := v
    unfold V.agg at HPC
    simp only at c0 c1 c2 c3
    clear hlk hwf hmem hmv
    go_wp2_with (go_at_call 77; refine (HPC.out _).mono ?_; rintro e w2 ⟨rfl, hb2⟩)
    go_roundw
    case rel => exact ⟨k + 1, sb ++ qb, by omega, by go_num, rfl, by rw [ByteArray.size_append]; omega, hst2, bt hbw hb2⟩
    case measure => simp [intOf]; omega
  · have hk : k = l.length := by omega
    have HK := hd_ hk
    clear hk
    go_wp2
    go_ret
    refine ⟨congrArg (fun s => Ending.returned (.string s)) (ba_of ?_), hbw⟩
    rw [← HPL.out, HS.out, HK.out, List.take_length]
    rfl
theorem same_self (l : List V) (A B : Option Addr) (c d : Nat) (w : World) (hr : VRow w A l) (hs : VRow w B l) :
  Calls Tryz.prog 46 #[.slice A l.length c, .slice B l.length d] w fun e w' => e = .returned (.bool true) ∧ Below w.heap.size w w' := by
 have h := same_any l l A B c d w hr hs
 rwa [decide_eq_true rfl] at h
theorem mk4 {w : World} {b : Nat} {a0 a1 a2 a3 : Value} {t : TypeId} (h : Blk w b #[a0, a1, a2, a3] t) :
  Blk w b #[a0, a1, a2, a3] t ∧ w.cell? ⟨b, 0, none⟩ = some a0 ∧ w.cell? ⟨b, 1, none⟩ = some a1 ∧ w.cell? ⟨b, 2, none⟩ = some a2 ∧ w.cell? ⟨b, 3, none⟩ = some a3 :=
 ⟨h, h.cell 0, h.cell 1, h.cell 2, h.cell 3⟩
theorem byte_at (s : ByteArray) (i : Nat) (h : i < s.size) : s[i] = s.data.toList.getD i 0 := by
 rw [List.getD_eq_getElem?_getD, Array.getElem?_toList, Array.getElem?_eq_getElem h]
 rfl
set_option maxRecDepth 100000 in
theorem refname_any (s : ByteArray) (w : World) (hs : s.size ≤ 140737488355328) :
  Calls Tryz.prog 113 #[.string s] w fun r w' => r = .returned (.bool (nameB s)) ∧ w = w' := by
 generalize hM : nameB s = M
 have HM := hd_ hM
 clear hM
 go_enter Tryz.func113, Tryz.ntmps113
 go_wp2
 go_loop [3] (fun i => ∃ k : Nat, k ≤ s.size ∧ i = .int .i64 k ∧ Hid ((s.data.toList.take k).all (fun c => chB c.toNat) = true)) (fun i => s.size - (intOf i).toNat)
 case atStart => exact ⟨0, by omega, rfl, (by simp : _ = _)⟩
 case round =>
  obtain ⟨k, hk, rfl, HS⟩ := hrel
  by_cases hlt : k < s.size
  · obtain ⟨v, hv⟩ : ∃ v : Int, v = ((s.data.toList.getD k 0).toNat : Int) := ⟨_, rfl⟩
    have c1 : ∀ hh, ((s[k]'hh).toNat : Int) = v := fun hh => by rw [hv, byte_at s k hh]
    have HV := hd_ hv
    have hlt' : (k : Int) < s.size := by omega
    clear hv
    cases hc : chB v
    · have hf := chars_not hlt (by rw [← HV.out]; exact hc)
      have hMf : Hid (M = false) := by show _ = _; rw [← HM.out]; unfold nameB; rw [hf]; rfl
      have hc' := of_decide_eq_false hc
      clear hf hc HM
      by_cases h97 : v < 97
      · have g97 : ¬ 97 ≤ v := by omega
        by_cases h48 : v < 48
        · have g48 : ¬ 48 ≤ v := by omega
          clear hc'
          go_wp2
          go_ret
          exact ⟨ret_bool hMf.out.symm, rfl⟩
        · have h57 : 57 < v := by omega
          have g57 : ¬ v ≤ 57 := by omega
          have g48 : 48 ≤ v := by omega
          clear hc'
          go_wp2
          go_ret
          exact ⟨ret_bool hMf.out.symm, rfl⟩
      · have h122 : 122 < v := by omega
        have h57 : 57 < v := by omega
        have g122 : ¬ v ≤ 122 := by omega
        have g57 : ¬ v ≤ 57 := by omega
        have g97 : 97 ≤ v := by omega
        have g48 : 48 ≤ v := by omega
        clear hc'
        go_wp2
        go_ret
        exact ⟨ret_bool hMf.out.symm, rfl⟩
    · have hS' := chars_step hlt HS.out (by rw [← HV.out]; exact hc)
      have hc' := of_decide_eq_true hc
      clear hc
      by_cases h97 : v < 97
      · have h48 : 48 ≤ v := by omega
        have h57 : v ≤ 57 := by omega
        have g97 : ¬ 97 ≤ v := by omega
        clear hc'
        go_wp2
        go_round
        case rel => exact ⟨k + 1, by omega, by go_num, hS'⟩
        case measure => simp [intOf]; omega
      · have h122 : v ≤ 122 := by omega
        have g97 : 97 ≤ v := by omega
        clear hc'
        go_wp2
        go_round
        case rel => exact ⟨k + 1, by omega, by go_num, hS'⟩
        case measure => simp [intOf]; omega
  · obtain rfl : k = s.size := by omega
    have hf := chars_end HS.out
    have hMf : Hid (M = (decide (1 ≤ s.size) && decide (s.size ≤ 16))) := by show _ = _; rw [← HM.out]; unfold nameB; rw [hf]; rfl
    clear hf HM HS
    by_cases h1 : 1 ≤ s.size
    · go_wp2
      go_ret
      exact ⟨ret_bool (by rw [hMf.out, decide_eq_true h1, Bool.true_and]; exact decide_eq_decide.2 (by omega)), rfl⟩
    · go_wp2
      go_ret
      exact ⟨ret_bool (by rw [hMf.out, decide_eq_false h1]; rfl), rfl⟩
end Go.Proofs.YtceoficoappkpaaGreatDoor
