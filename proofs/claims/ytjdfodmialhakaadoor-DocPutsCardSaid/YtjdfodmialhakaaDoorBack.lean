/- The walk of CodeBack: whatever row, texts and cut come in, it answers true. -/
import Derived.Test.YtjdfodmialhakaaDoorPlain3
import Derived.Test.YtjdfodmialhakaaDoorPuts
namespace Go.Proofs.YtjdfodmialhakaaDoor
open Go.RowKit

theorem getrow_ok (s : ByteArray) (w : World) (hs : s.size ≤ 140737488355328) (hT : Tabs w) (l : List V) (n : Nat) (hR : getRow s.data.toList = (0, l, n)) :
    Calls Tryd.prog 27 #[.string s] w fun e w' => ∃ A c, e = .returned (.tuple #[.slice A l.length c, .int .i64 n, .int .i64 0]) ∧ VRow w' A l ∧ Below w.heap.size w w' :=
  (getrow_any s w hs hT).mono fun e w' ⟨hb, hx⟩ => by
    have h0 : (getRow s.data.toList).1 = 0 := by rw [hR]
    obtain ⟨b1, b2, _⟩ := getRow_back h0
    rw [hR] at hx b1 b2
    rcases hx with ⟨_, A, c, he, ho⟩ | ⟨hn, _⟩
    · exact ⟨A, c, he, (VRow.of_own b2 (by have := (row_may b1).2.1; simp only at this ⊢; omega) ho).1, hb⟩
    · exact absurd rfl hn
theorem cat_list (l : List UInt8) (s : ByteArray) : ((⟨l.toArray⟩ : ByteArray) ++ s).data.toList = l ++ s.data.toList := by
  rw [ByteArray.data_append]; simp
theorem str_ne (l : List UInt8) (h : l ≠ []) : (⟨l.toArray⟩ : ByteArray).toList.isEmpty = false ∧ ¬ (⟨l.toArray⟩ : ByteArray).toList = [] := by
  have e : (⟨l.toArray⟩ : ByteArray).toList = l := by rw [Lib.toList_data]
  rw [e]
  exact ⟨by cases l <;> simp_all, h⟩
theorem putRowL_ne (l : List V) : putRowL l ≠ [] := by unfold putRowL; simp
theorem pre_str (s : ByteArray) (l : List UInt8) (n : Nat) (h : s.data.toList.take n = l) : s.extract 0 n = ⟨l.toArray⟩ := by
  refine ba_of ?_
  rw [← h]
  simp [ByteArray.data_extract]

set_option maxRecDepth 100000 in
theorem back_long (l : List V) (A : Option Addr) (c : Nat) (more s : ByteArray) (cut : Int) (w : World) (hr : VRow w A l) (hT : Tabs w) (hz1 : more.size ≤ 140737488355328) (hz2 : s.size ≤ 140737488355328) (h : 4000 < longN l ∨ 16384 < more.size + s.size) :
    Calls Tryd.prog 4 #[.slice A l.length c, .string more, .string s, .int .u16 cut] w fun e w' => e = .returned (.bool true) ∧ Below w.heap.size w w' := by
  have HA := Lib.hid (alive_any w hT)
  by_cases h1 : 4000 < longN l
  · have H1 := Lib.hid (long_yes l A c w hr h1)
    clear hr hT h h1
    go_enter Tryd.func4, Tryd.ntmps4
    go_wp2_with fail
    refine (H1.out).mono ?_
    rintro e w' ⟨rfl, rfl⟩
    go_wp2_with fail
    refine (HA.out).mono ?_
    rintro e w1 ⟨rfl, hb⟩
    go_wp2_with fail
    go_ret
    exact ⟨rfl, hb⟩
  · have H1 := Lib.hid (long_not l A c w hr h1)
    have h2 : (16384 : Int) < (more.size : Int) + s.size := by have := h.resolve_left h1; omega
    clear hr hT h h1
    go_enter Tryd.func4, Tryd.ntmps4
    go_wp2_with fail
    refine (H1.out).mono ?_
    rintro e w' ⟨rfl, rfl⟩
    go_wp2_with fail
    refine (HA.out).mono ?_
    rintro e w1 ⟨rfl, hb⟩
    go_wp2_with fail
    go_ret
    exact ⟨rfl, hb⟩
set_option maxRecDepth 100000 in
set_option maxHeartbeats 800000 in
theorem back_y0 (l : List V) (A : Option Addr) (c : Nat) (more s : ByteArray) (cut : Int) (w : World) (hr : VRow w A l) (hT : Tabs w) (h1 : ¬ 4000 < longN l) (h2 : more.size + s.size ≤ 16384) (hc0 : 0 ≤ cut) (hc1 : cut ≤ 65535)
    (hm : rowB l = true) (vs : List V) (n : Nat) (hg : getRow s.data.toList = (0, vs, n)) :
    Calls Tryd.prog 4 #[.slice A l.length c, .string more, .string s, .int .u16 cut] w fun e w' => e = .returned (.bool true) ∧ Below w.heap.size w w' := by
  have l1 := long_len h1
  have H1 := Lib.hid (long_not l A c w hr h1)
  have HR := Lib.hid hr
  have HT := Lib.hid hT
  have HM := Lib.hid hm
  have HG := Lib.hid hg
  have h2' : (more.size : Int) + s.size ≤ 16384 := by omega
  have hg0 : (getRow s.data.toList).1 = 0 := by rw [hg]
  obtain ⟨b1, b2, b3, b4, b5⟩ := getRow_back hg0
  rw [hg] at b1 b2 b3 b4 b5
  simp only at b1 b2 b3 b4 b5
  have b5' : n ≤ s.size := by have : s.data.toList.length = s.size := by simp
                              omega
  have hpx := pre_str s _ n b3
  have HPX := Lib.hid hpx
  have HB1 := Lib.hid b1
  clear hg0 b1 b2 b3 b5 hpx
  have n1 : (1 : Int) ≤ n := by omega
  have n2 : (n : Int) ≤ s.size := by omega
  have hsl := slice_min s (n : Int) (by omega) n2
  rw [Int.toNat_natCast] at hsl
  have hlen := putRowL_length hm
  have hpg := putRow_getRow l hr.1 hm more.data.toList
  rw [← cat_list] at hpg
  have hcut := fun i hi => putRow_cut l hr.1 hm i hi
  have hsz : (⟨(putRowL l).toArray⟩ : ByteArray).size = (putRowL l).length := by simp [ByteArray.size]
  have hpos : 0 < (putRowL l).length := List.length_pos_iff.2 (putRowL_ne l)
  obtain ⟨ne1, ne2⟩ := str_ne _ (putRowL_ne l)
  have hpre := fun i => ext_take (putRowL l) i
  obtain ⟨sa, hsa⟩ : ∃ sa : ByteArray, sa = ⟨(putRowL l).toArray⟩ := ⟨_, rfl⟩
  have hput := fun W A' c' hW hTW => putrow_ok l A' c' W hW hTW hm
  rw [← hsa] at hput hpg hsz ne1 ne2 hpre
  obtain ⟨q, hq⟩ : ∃ q, q = (putRowL l).length := ⟨_, rfl⟩
  rw [← hq] at hpg hsz hpos hlen
  have hsz1 : sa.size ≤ 825 := by omega
  have hsz2 : 0 < sa.size := by omega
  have hcs : (sa ++ more).size ≤ 140737488355328 := by rw [ByteArray.size_append]; omega
  have hgo := fun W hTW => getrow_ok (sa ++ more) W hcs hTW l q hpg
  obtain ⟨j, hj⟩ : ∃ j : Nat, (j : Int) = cut % sa.size := ⟨(cut % sa.size).toNat, by have := Int.emod_nonneg cut (show (sa.size : Int) ≠ 0 by omega); omega⟩
  have hjl : j < sa.size := by have := Int.emod_lt_of_pos cut (show (0 : Int) < sa.size by omega); omega
  have hge := fun W hTW => getrow_err (sa.extract 0 j) 6 W (by rw [ByteArray.size_extract]; omega) hTW (by rw [hpre j]; exact hcut j (by omega)) (by decide)
  have hslj := slice_min sa (j : Int) (by omega) (by omega)
  rw [Int.toNat_natCast, hj] at hslj
  have hqs : (q : Int) = sa.size := by omega
  rw [hqs] at hgo
  have HPUT := Lib.hid hput
  have HGO := Lib.hid hgo
  have HGE := Lib.hid hge
  clear hput hgo hge hpg hcut hpre hsa hq hj hcs hjl hsz hpos hlen hqs
  clear hr hT h1 hm hg
  go_enter Tryd.func4, Tryd.ntmps4
  go_wp2_with fail
  refine (H1.out).mono ?_
  rintro e w' ⟨rfl, rfl⟩
  go_wp2_with fail
  refine (copy_row l A c _ HR.out l1).mono ?_
  rintro e w1 ⟨A1, c1, rfl, hr1, hB1⟩
  have HR1 := Lib.hid hr1
  clear hr1
  go_wp2_with fail
  refine (HPUT.out _ A1 c1 HR1.out (HT.out.ext hB1)).mono ?_
  rintro e w2 ⟨rfl, hb2⟩
  have hB2 := bt hB1 hb2
  clear hb2
  go_wp2_with fail
  refine (HGO.out _ (HT.out.ext hB2)).mono ?_
  rintro e w3 ⟨A3, c3, rfl, hr3, hb3⟩
  have hB3 := bt hB2 hb3
  have HR3 := Lib.hid hr3
  clear hb3 hr3
  go_wp2_with fail
  refine (same_self l A3 A c3 c _ HR3.out (HR.out.ext hB3)).mono ?_
  rintro e w4 ⟨rfl, hb4⟩
  have hB4 := bt hB3 hb4
  clear hb4
  go_wp2_with fail
  refine (HGE.out _ (HT.out.ext hB4)).mono ?_
  rintro e w5 ⟨rfl, hb5⟩
  have hB5 := bt hB4 hb5
  clear hb5
  go_wp2_with fail
  refine (getrow_ok s _ (by omega) (HT.out.ext hB5) vs n HG.out).mono ?_
  rintro e w6 ⟨A9, c9, rfl, hr9, hb6⟩
  have hB6 := bt hB5 hb6
  have HR9 := Lib.hid hr9
  clear hb6 hr9
  go_wp2_with fail
  have hp9 := putrow_ok vs A9 c9 w6 HR9.out (HT.out.ext hB6) HB1.out
  rw [← HPX.out] at hp9
  refine hp9.mono ?_
  rintro e w7 ⟨rfl, hb7⟩
  have hB7 := bt hB6 hb7
  clear hb7 hp9
  go_wp2_with fail
  refine (alive_any _ (HT.out.ext hB7)).mono ?_
  rintro e w8 ⟨rfl, hb8⟩
  go_wp2_with fail
  go_ret
  exact ⟨rfl, bt hB7 hb8⟩
set_option maxRecDepth 100000 in
set_option maxHeartbeats 800000 in
theorem back_y6 (l : List V) (A : Option Addr) (c : Nat) (more s : ByteArray) (cut : Int) (w : World) (hr : VRow w A l) (hT : Tabs w) (h1 : ¬ 4000 < longN l) (h2 : more.size + s.size ≤ 16384) (hc0 : 0 ≤ cut) (hc1 : cut ≤ 65535)
    (hm : rowB l = true) (hg : (getRow s.data.toList).1 = 6) :
    Calls Tryd.prog 4 #[.slice A l.length c, .string more, .string s, .int .u16 cut] w fun e w' => e = .returned (.bool true) ∧ Below w.heap.size w w' := by
  have l1 := long_len h1
  have H1 := Lib.hid (long_not l A c w hr h1)
  have HR := Lib.hid hr
  have HT := Lib.hid hT
  have HM := Lib.hid hm
  have HG := Lib.hid hg
  have h2' : (more.size : Int) + s.size ≤ 16384 := by omega
  have hlen := putRowL_length hm
  have hpg := putRow_getRow l hr.1 hm more.data.toList
  rw [← cat_list] at hpg
  have hcut := fun i hi => putRow_cut l hr.1 hm i hi
  have hsz : (⟨(putRowL l).toArray⟩ : ByteArray).size = (putRowL l).length := by simp [ByteArray.size]
  have hpos : 0 < (putRowL l).length := List.length_pos_iff.2 (putRowL_ne l)
  obtain ⟨ne1, ne2⟩ := str_ne _ (putRowL_ne l)
  have hpre := fun i => ext_take (putRowL l) i
  obtain ⟨sa, hsa⟩ : ∃ sa : ByteArray, sa = ⟨(putRowL l).toArray⟩ := ⟨_, rfl⟩
  have hput := fun W A' c' hW hTW => putrow_ok l A' c' W hW hTW hm
  rw [← hsa] at hput hpg hsz ne1 ne2 hpre
  obtain ⟨q, hq⟩ : ∃ q, q = (putRowL l).length := ⟨_, rfl⟩
  rw [← hq] at hpg hsz hpos hlen
  have hsz1 : sa.size ≤ 825 := by omega
  have hsz2 : 0 < sa.size := by omega
  have hcs : (sa ++ more).size ≤ 140737488355328 := by rw [ByteArray.size_append]; omega
  have hgo := fun W hTW => getrow_ok (sa ++ more) W hcs hTW l q hpg
  obtain ⟨j, hj⟩ : ∃ j : Nat, (j : Int) = cut % sa.size := ⟨(cut % sa.size).toNat, by have := Int.emod_nonneg cut (show (sa.size : Int) ≠ 0 by omega); omega⟩
  have hjl : j < sa.size := by have := Int.emod_lt_of_pos cut (show (0 : Int) < sa.size by omega); omega
  have hge := fun W hTW => getrow_err (sa.extract 0 j) 6 W (by rw [ByteArray.size_extract]; omega) hTW (by rw [hpre j]; exact hcut j (by omega)) (by decide)
  have hslj := slice_min sa (j : Int) (by omega) (by omega)
  rw [Int.toNat_natCast, hj] at hslj
  have hqs : (q : Int) = sa.size := by omega
  rw [hqs] at hgo
  have HPUT := Lib.hid hput
  have HGO := Lib.hid hgo
  have HGE := Lib.hid hge
  clear hput hgo hge hpg hcut hpre hsa hq hj hcs hjl hsz hpos hlen hqs
  clear hr hT h1 hm hg
  go_enter Tryd.func4, Tryd.ntmps4
  go_wp2_with fail
  refine (H1.out).mono ?_
  rintro e w' ⟨rfl, rfl⟩
  go_wp2_with fail
  refine (copy_row l A c _ HR.out l1).mono ?_
  rintro e w1 ⟨A1, c1, rfl, hr1, hB1⟩
  have HR1 := Lib.hid hr1
  clear hr1
  go_wp2_with fail
  refine (HPUT.out _ A1 c1 HR1.out (HT.out.ext hB1)).mono ?_
  rintro e w2 ⟨rfl, hb2⟩
  have hB2 := bt hB1 hb2
  clear hb2
  go_wp2_with fail
  refine (HGO.out _ (HT.out.ext hB2)).mono ?_
  rintro e w3 ⟨A3, c3, rfl, hr3, hb3⟩
  have hB3 := bt hB2 hb3
  have HR3 := Lib.hid hr3
  clear hb3 hr3
  go_wp2_with fail
  refine (same_self l A3 A c3 c _ HR3.out (HR.out.ext hB3)).mono ?_
  rintro e w4 ⟨rfl, hb4⟩
  have hB4 := bt hB3 hb4
  clear hb4
  go_wp2_with fail
  refine (HGE.out _ (HT.out.ext hB4)).mono ?_
  rintro e w5 ⟨rfl, hb5⟩
  have hB5 := bt hB4 hb5
  clear hb5
  go_wp2_with fail
  refine (getrow_err s 6 _ (by omega) (HT.out.ext hB5) HG.out (by decide)).mono ?_
  rintro e w6 ⟨rfl, hb6⟩
  have hB6 := bt hB5 hb6
  clear hb6
  go_wp2_with fail
  refine (alive_any _ (HT.out.ext hB6)).mono ?_
  rintro e w7 ⟨rfl, hb7⟩
  go_wp2_with fail
  go_ret
  exact ⟨rfl, bt hB6 hb7⟩
set_option maxRecDepth 100000 in
set_option maxHeartbeats 800000 in
theorem back_y7 (l : List V) (A : Option Addr) (c : Nat) (more s : ByteArray) (cut : Int) (w : World) (hr : VRow w A l) (hT : Tabs w) (h1 : ¬ 4000 < longN l) (h2 : more.size + s.size ≤ 16384) (hc0 : 0 ≤ cut) (hc1 : cut ≤ 65535)
    (hm : rowB l = true) (hg : (getRow s.data.toList).1 = 7) :
    Calls Tryd.prog 4 #[.slice A l.length c, .string more, .string s, .int .u16 cut] w fun e w' => e = .returned (.bool true) ∧ Below w.heap.size w w' := by
  have l1 := long_len h1
  have H1 := Lib.hid (long_not l A c w hr h1)
  have HR := Lib.hid hr
  have HT := Lib.hid hT
  have HM := Lib.hid hm
  have HG := Lib.hid hg
  have h2' : (more.size : Int) + s.size ≤ 16384 := by omega
  have hlen := putRowL_length hm
  have hpg := putRow_getRow l hr.1 hm more.data.toList
  rw [← cat_list] at hpg
  have hcut := fun i hi => putRow_cut l hr.1 hm i hi
  have hsz : (⟨(putRowL l).toArray⟩ : ByteArray).size = (putRowL l).length := by simp [ByteArray.size]
  have hpos : 0 < (putRowL l).length := List.length_pos_iff.2 (putRowL_ne l)
  obtain ⟨ne1, ne2⟩ := str_ne _ (putRowL_ne l)
  have hpre := fun i => ext_take (putRowL l) i
  obtain ⟨sa, hsa⟩ : ∃ sa : ByteArray, sa = ⟨(putRowL l).toArray⟩ := ⟨_, rfl⟩
  have hput := fun W A' c' hW hTW => putrow_ok l A' c' W hW hTW hm
  rw [← hsa] at hput hpg hsz ne1 ne2 hpre
  obtain ⟨q, hq⟩ : ∃ q, q = (putRowL l).length := ⟨_, rfl⟩
  rw [← hq] at hpg hsz hpos hlen
  have hsz1 : sa.size ≤ 825 := by omega
  have hsz2 : 0 < sa.size := by omega
  have hcs : (sa ++ more).size ≤ 140737488355328 := by rw [ByteArray.size_append]; omega
  have hgo := fun W hTW => getrow_ok (sa ++ more) W hcs hTW l q hpg
  obtain ⟨j, hj⟩ : ∃ j : Nat, (j : Int) = cut % sa.size := ⟨(cut % sa.size).toNat, by have := Int.emod_nonneg cut (show (sa.size : Int) ≠ 0 by omega); omega⟩
  have hjl : j < sa.size := by have := Int.emod_lt_of_pos cut (show (0 : Int) < sa.size by omega); omega
  have hge := fun W hTW => getrow_err (sa.extract 0 j) 6 W (by rw [ByteArray.size_extract]; omega) hTW (by rw [hpre j]; exact hcut j (by omega)) (by decide)
  have hslj := slice_min sa (j : Int) (by omega) (by omega)
  rw [Int.toNat_natCast, hj] at hslj
  have hqs : (q : Int) = sa.size := by omega
  rw [hqs] at hgo
  have HPUT := Lib.hid hput
  have HGO := Lib.hid hgo
  have HGE := Lib.hid hge
  clear hput hgo hge hpg hcut hpre hsa hq hj hcs hjl hsz hpos hlen hqs
  clear hr hT h1 hm hg
  go_enter Tryd.func4, Tryd.ntmps4
  go_wp2_with fail
  refine (H1.out).mono ?_
  rintro e w' ⟨rfl, rfl⟩
  go_wp2_with fail
  refine (copy_row l A c _ HR.out l1).mono ?_
  rintro e w1 ⟨A1, c1, rfl, hr1, hB1⟩
  have HR1 := Lib.hid hr1
  clear hr1
  go_wp2_with fail
  refine (HPUT.out _ A1 c1 HR1.out (HT.out.ext hB1)).mono ?_
  rintro e w2 ⟨rfl, hb2⟩
  have hB2 := bt hB1 hb2
  clear hb2
  go_wp2_with fail
  refine (HGO.out _ (HT.out.ext hB2)).mono ?_
  rintro e w3 ⟨A3, c3, rfl, hr3, hb3⟩
  have hB3 := bt hB2 hb3
  have HR3 := Lib.hid hr3
  clear hb3 hr3
  go_wp2_with fail
  refine (same_self l A3 A c3 c _ HR3.out (HR.out.ext hB3)).mono ?_
  rintro e w4 ⟨rfl, hb4⟩
  have hB4 := bt hB3 hb4
  clear hb4
  go_wp2_with fail
  refine (HGE.out _ (HT.out.ext hB4)).mono ?_
  rintro e w5 ⟨rfl, hb5⟩
  have hB5 := bt hB4 hb5
  clear hb5
  go_wp2_with fail
  refine (getrow_err s 7 _ (by omega) (HT.out.ext hB5) HG.out (by decide)).mono ?_
  rintro e w6 ⟨rfl, hb6⟩
  have hB6 := bt hB5 hb6
  clear hb6
  go_wp2_with fail
  refine (alive_any _ (HT.out.ext hB6)).mono ?_
  rintro e w7 ⟨rfl, hb7⟩
  go_wp2_with fail
  go_ret
  exact ⟨rfl, bt hB6 hb7⟩
set_option maxRecDepth 100000 in
set_option maxHeartbeats 800000 in
theorem back_n0 (l : List V) (A : Option Addr) (c : Nat) (more s : ByteArray) (cut : Int) (w : World) (hr : VRow w A l) (hT : Tabs w) (h1 : ¬ 4000 < longN l) (h2 : more.size + s.size ≤ 16384) (_hc0 : 0 ≤ cut) (_hc1 : cut ≤ 65535)
    (hm : rowB l = false) (vs : List V) (n : Nat) (hg : getRow s.data.toList = (0, vs, n)) :
    Calls Tryd.prog 4 #[.slice A l.length c, .string more, .string s, .int .u16 cut] w fun e w' => e = .returned (.bool true) ∧ Below w.heap.size w w' := by
  have l1 := long_len h1
  have H1 := Lib.hid (long_not l A c w hr h1)
  have HR := Lib.hid hr
  have HT := Lib.hid hT
  have HM := Lib.hid hm
  have HG := Lib.hid hg
  have h2' : (more.size : Int) + s.size ≤ 16384 := by omega
  have hg0 : (getRow s.data.toList).1 = 0 := by rw [hg]
  obtain ⟨b1, b2, b3, b4, b5⟩ := getRow_back hg0
  rw [hg] at b1 b2 b3 b4 b5
  simp only at b1 b2 b3 b4 b5
  have b5' : n ≤ s.size := by have : s.data.toList.length = s.size := by simp
                              omega
  have hpx := pre_str s _ n b3
  have HPX := Lib.hid hpx
  have HB1 := Lib.hid b1
  clear hg0 b1 b2 b3 b5 hpx
  have n1 : (1 : Int) ≤ n := by omega
  have n2 : (n : Int) ≤ s.size := by omega
  have hsl := slice_min s (n : Int) (by omega) n2
  rw [Int.toNat_natCast] at hsl
  clear hr hT h1 hm hg
  go_enter Tryd.func4, Tryd.ntmps4
  go_wp2_with fail
  refine (H1.out).mono ?_
  rintro e w' ⟨rfl, rfl⟩
  go_wp2_with fail
  refine (copy_row l A c _ HR.out l1).mono ?_
  rintro e w1 ⟨A1, c1, rfl, hr1, hB1⟩
  have HR1 := Lib.hid hr1
  clear hr1
  go_wp2_with fail
  refine (putrow_err l A1 c1 _ HR1.out (HT.out.ext hB1) HM.out).mono ?_
  rintro e w2 ⟨rfl, hb2⟩
  have hB2 := bt hB1 hb2
  clear hb2
  go_wp2_with fail
  refine (getrow_ok s _ (by omega) (HT.out.ext hB2) vs n HG.out).mono ?_
  rintro e w3 ⟨A9, c9, rfl, hr9, hb3⟩
  have hB3 := bt hB2 hb3
  have HR9 := Lib.hid hr9
  clear hb3 hr9
  go_wp2_with fail
  have hp9 := putrow_ok vs A9 c9 w3 HR9.out (HT.out.ext hB3) HB1.out
  rw [← HPX.out] at hp9
  refine hp9.mono ?_
  rintro e w4 ⟨rfl, hb4⟩
  have hB4 := bt hB3 hb4
  clear hb4 hp9
  go_wp2_with fail
  refine (alive_any _ (HT.out.ext hB4)).mono ?_
  rintro e w5 ⟨rfl, hb5⟩
  go_wp2_with fail
  go_ret
  exact ⟨rfl, bt hB4 hb5⟩
set_option maxRecDepth 100000 in
set_option maxHeartbeats 800000 in
theorem back_n6 (l : List V) (A : Option Addr) (c : Nat) (more s : ByteArray) (cut : Int) (w : World) (hr : VRow w A l) (hT : Tabs w) (h1 : ¬ 4000 < longN l) (h2 : more.size + s.size ≤ 16384) (_hc0 : 0 ≤ cut) (_hc1 : cut ≤ 65535)
    (hm : rowB l = false) (hg : (getRow s.data.toList).1 = 6) :
    Calls Tryd.prog 4 #[.slice A l.length c, .string more, .string s, .int .u16 cut] w fun e w' => e = .returned (.bool true) ∧ Below w.heap.size w w' := by
  have l1 := long_len h1
  have H1 := Lib.hid (long_not l A c w hr h1)
  have HR := Lib.hid hr
  have HT := Lib.hid hT
  have HM := Lib.hid hm
  have HG := Lib.hid hg
  have h2' : (more.size : Int) + s.size ≤ 16384 := by omega
  clear hr hT h1 hm hg
  go_enter Tryd.func4, Tryd.ntmps4
  go_wp2_with fail
  refine (H1.out).mono ?_
  rintro e w' ⟨rfl, rfl⟩
  go_wp2_with fail
  refine (copy_row l A c _ HR.out l1).mono ?_
  rintro e w1 ⟨A1, c1, rfl, hr1, hB1⟩
  have HR1 := Lib.hid hr1
  clear hr1
  go_wp2_with fail
  refine (putrow_err l A1 c1 _ HR1.out (HT.out.ext hB1) HM.out).mono ?_
  rintro e w2 ⟨rfl, hb2⟩
  have hB2 := bt hB1 hb2
  clear hb2
  go_wp2_with fail
  refine (getrow_err s 6 _ (by omega) (HT.out.ext hB2) HG.out (by decide)).mono ?_
  rintro e w3 ⟨rfl, hb3⟩
  have hB3 := bt hB2 hb3
  clear hb3
  go_wp2_with fail
  refine (alive_any _ (HT.out.ext hB3)).mono ?_
  rintro e w4 ⟨rfl, hb4⟩
  go_wp2_with fail
  go_ret
  exact ⟨rfl, bt hB3 hb4⟩
set_option maxRecDepth 100000 in
set_option maxHeartbeats 800000 in
theorem back_n7 (l : List V) (A : Option Addr) (c : Nat) (more s : ByteArray) (cut : Int) (w : World) (hr : VRow w A l) (hT : Tabs w) (h1 : ¬ 4000 < longN l) (h2 : more.size + s.size ≤ 16384) (_hc0 : 0 ≤ cut) (_hc1 : cut ≤ 65535)
    (hm : rowB l = false) (hg : (getRow s.data.toList).1 = 7) :
    Calls Tryd.prog 4 #[.slice A l.length c, .string more, .string s, .int .u16 cut] w fun e w' => e = .returned (.bool true) ∧ Below w.heap.size w w' := by
  have l1 := long_len h1
  have H1 := Lib.hid (long_not l A c w hr h1)
  have HR := Lib.hid hr
  have HT := Lib.hid hT
  have HM := Lib.hid hm
  have HG := Lib.hid hg
  have h2' : (more.size : Int) + s.size ≤ 16384 := by omega
  clear hr hT h1 hm hg
  go_enter Tryd.func4, Tryd.ntmps4
  go_wp2_with fail
  refine (H1.out).mono ?_
  rintro e w' ⟨rfl, rfl⟩
  go_wp2_with fail
  refine (copy_row l A c _ HR.out l1).mono ?_
  rintro e w1 ⟨A1, c1, rfl, hr1, hB1⟩
  have HR1 := Lib.hid hr1
  clear hr1
  go_wp2_with fail
  refine (putrow_err l A1 c1 _ HR1.out (HT.out.ext hB1) HM.out).mono ?_
  rintro e w2 ⟨rfl, hb2⟩
  have hB2 := bt hB1 hb2
  clear hb2
  go_wp2_with fail
  refine (getrow_err s 7 _ (by omega) (HT.out.ext hB2) HG.out (by decide)).mono ?_
  rintro e w3 ⟨rfl, hb3⟩
  have hB3 := bt hB2 hb3
  clear hb3
  go_wp2_with fail
  refine (alive_any _ (HT.out.ext hB3)).mono ?_
  rintro e w4 ⟨rfl, hb4⟩
  go_wp2_with fail
  go_ret
  exact ⟨rfl, bt hB3 hb4⟩
theorem back_walk (l : List V) (A : Option Addr) (c : Nat) (more s : ByteArray) (cut : Int) (w : World) (hr : VRow w A l) (hT : Tabs w) (hz1 : more.size ≤ 140737488355328) (hz2 : s.size ≤ 140737488355328) (hc0 : 0 ≤ cut) (hc1 : cut ≤ 65535) :
    Calls Tryd.prog 4 #[.slice A l.length c, .string more, .string s, .int .u16 cut] w fun e w' => e = .returned (.bool true) ∧ Below w.heap.size w w' := by
  by_cases h : 4000 < longN l ∨ 16384 < more.size + s.size
  · exact back_long l A c more s cut w hr hT hz1 hz2 h
  · have h1 : ¬ 4000 < longN l := fun x => h (.inl x)
    have h2 : more.size + s.size ≤ 16384 := by
      rcases Nat.lt_or_ge 16384 (more.size + s.size) with x | x
      · exact absurd (.inr x) h
      · exact x
    cases hm : rowB l
    · rcases getRow_range s.data.toList with hg | hg | hg
      · exact back_n0 l A c more s cut w hr hT h1 h2 hc0 hc1 hm (getRow s.data.toList).2.1 (getRow s.data.toList).2.2 (by rw [← hg])
      · exact back_n6 l A c more s cut w hr hT h1 h2 hc0 hc1 hm hg
      · exact back_n7 l A c more s cut w hr hT h1 h2 hc0 hc1 hm hg
    · rcases getRow_range s.data.toList with hg | hg | hg
      · exact back_y0 l A c more s cut w hr hT h1 h2 hc0 hc1 hm (getRow s.data.toList).2.1 (getRow s.data.toList).2.2 (by rw [← hg])
      · exact back_y6 l A c more s cut w hr hT h1 h2 hc0 hc1 hm hg
      · exact back_y7 l A c more s cut w hr hT h1 h2 hc0 hc1 hm hg
end Go.Proofs.YtjdfodmialhakaaDoor
