/- Texts joined by a tool: contracts and walks of this claim. -/
import Derived.Test.YtceoficoappkpaaGreatDoorB23
namespace Go.Proofs.YtceoficoappkpaaGreatDoor
open Go.RowKit
theorem none_any (b : Int) (h0 : 0 ≤ b) (h1 : b ≤ 18446744073709551615) (w : World) :
  Calls Tryz.prog 156 #[.int .u64 b] w fun e w' => e = .returned (.bool (nanB b)) ∧ w = w' := by
 go_enter Tryz.func156, Tryz.ntmps156
 go_wp2
 all_goals go_ret
 · rename_i h
   refine ⟨?_, rfl⟩
   by_cases hz : b % 4503599627370496 = 0 <;> simp [nanB, h, bne, hz]
 · rename_i h
   exact ⟨by simp [nanB, h], rfl⟩
theorem canonR_any (b : Int) (h0 : 0 ≤ b) (h1 : b ≤ 18446744073709551615) (w : World) :
  Calls Tryz.prog 106 #[.int .u64 b] w fun e w' => e = .returned (.int .u64 (canonZ b)) ∧ w = w' := by
 cases hc : nanB b
 all_goals
  have hn := none_any b h0 h1
  rw [hc] at hn
  have HN := hd_ hn
  clear hn
  have HC := hd_ hc
  clear hc
  go_enter Tryz.func106, Tryz.ntmps106
  go_wp2_with (go_at_call 156; refine (HN.out _).mono ?_; rintro e w' ⟨rfl, rfl⟩)
  go_ret
  exact ⟨by simp [canonZ, HC.out], rfl⟩
set_option maxRecDepth 100000 in
theorem may_plain (v : V) (hv : v.wf) (hk : v.k ≤ 2) (w : World) :
  Calls Tryz.prog 70 #[v.agg] w fun e w' => e = .returned (.bool (mayB v)) ∧ Below w.heap.size w w' := by
 obtain ⟨k, n, r, t⟩ := v
 obtain ⟨hk0, _, h1, h2, h3, h4, h5⟩ := hv
 simp only at h1 h2 h3 h4 h5 hk hk0
 unfold V.agg
 have hkk : k = 0 ∨ k = 1 ∨ k = 2 := by omega
 by_cases ht : t.size = 0
 · obtain rfl := empty_of_size ht
   clear ht
   rcases hkk with rfl | rfl | rfl
   all_goals
    generalize hM : mayB _ = M
    have HM := hd_ hM
    clear hM
    go_enter Tryz.func70, Tryz.ntmps70
    go_wp2
    all_goals
     go_ret
     refine ⟨ret_bool ?_, by repeat (first | exact Below.refl _ _ | refine Below.alloc ?_ (by simp) _)⟩
     rw [← HM.out]
     first
      | (have hh : (n != 0) = true ∧ (n != 1) = true := by assumption
         simp only [bne_iff_ne, ne_eq] at hh
         simp [mayB, hh.1, hh.2]; done)
      | (have hh : (n != 0) = false ∨ (n != 1) = false := by assumption
         simp only [bne_eq_false_iff_eq] at hh
         have hr : r = 0 := by assumption
         rcases hh with rfl | rfl <;> simp [mayB, hr]; done)
      | (simp [mayB, *]; done)
 · have ht' := toList_ne ht
   have htp : 0 < t.size := by omega
   rcases hkk with rfl | rfl | rfl
   all_goals
    generalize hM : mayB _ = M
    have HM := hd_ hM
    clear hM
    go_enter Tryz.func70, Tryz.ntmps70
    go_wp2
    all_goals
     go_ret
     refine ⟨ret_bool ?_, by repeat (first | exact Below.refl _ _ | refine Below.alloc ?_ (by simp) _)⟩
     rw [← HM.out]
     simp [mayB, ht]
set_option maxRecDepth 100000 in
theorem may_bytes (v : V) (hv : v.wf) (hk : v.k = 4) (w : World) :
  Calls Tryz.prog 70 #[v.agg] w fun e w' => e = .returned (.bool (mayB v)) ∧ Below w.heap.size w w' := by
 obtain ⟨k, n, r, t⟩ := v
 obtain ⟨_, _, h1, h2, h3, h4, h5⟩ := hv
 simp only at h1 h2 h3 h4 h5 hk
 subst hk
 unfold V.agg
 generalize hM : mayB _ = M
 have HM := hd_ hM
 clear hM
 go_enter Tryz.func70, Tryz.ntmps70
 go_wp2
 all_goals
  go_ret
  refine ⟨ret_bool ?_, by repeat (first | exact Below.refl _ _ | refine Below.alloc ?_ (by simp) _)⟩
  rw [← HM.out]
  first
   | (simp [mayB, *]; done)
   | (simp [mayB, *]; omega)
set_option maxRecDepth 100000 in
theorem may_real (v : V) (hv : v.wf) (hk : v.k = 3) (w : World) :
  Calls Tryz.prog 70 #[v.agg] w fun e w' => e = .returned (.bool (mayB v)) ∧ Below w.heap.size w w' := by
 obtain ⟨k, n, r, t⟩ := v
 obtain ⟨_, _, h1, h2, h3, h4, h5⟩ := hv
 simp only at h1 h2 h3 h4 h5 hk
 subst hk
 unfold V.agg
 generalize hM : mayB _ = M
 have HM := hd_ hM
 clear hM
 have HC := hd_ (canonR_any r h3 h4)
 generalize hc : canonZ r = c at HC
 have Hc := hd_ hc
 clear hc
 by_cases ht : t.size = 0
 · obtain rfl := empty_of_size ht
   clear ht
   go_enter Tryz.func70, Tryz.ntmps70
   go_wp2_with (go_at_call 106; refine (HC.out _).mono ?_; rintro e w' ⟨rfl, rfl⟩)
   all_goals
    go_ret
    refine ⟨ret_bool ?_, by repeat (first | exact Below.refl _ _ | refine Below.alloc ?_ (by simp) _)⟩
    rw [← HM.out]
    first
     | (have e : canonZ r = r := by rw [Hc.out]; symm; assumption
        have hn : n = 0 := by assumption
        simp only [mayB, e, hn]; rfl)
     | (have e : ¬ r = canonZ r := by rw [Hc.out]; assumption
        simp [mayB, e]; done)
     | (have hn : ¬ n = 0 := by assumption
        simp [mayB, hn]; done)
 · have ht' := toList_ne ht
   have htp : 0 < t.size := by omega
   go_enter Tryz.func70, Tryz.ntmps70
   go_wp2_with (go_at_call 106; refine (HC.out _).mono ?_; rintro e w' ⟨rfl, rfl⟩)
   all_goals
    go_ret
    refine ⟨ret_bool ?_, by repeat (first | exact Below.refl _ _ | refine Below.alloc ?_ (by simp) _)⟩
    rw [← HM.out]
    simp [mayB, ht]
set_option maxRecDepth 100000 in
theorem may_other (v : V) (hv : v.wf) (hk : 5 < v.k) (w : World) :
  Calls Tryz.prog 70 #[v.agg] w fun e w' => e = .returned (.bool (mayB v)) ∧ Below w.heap.size w w' := by
 obtain ⟨k, n, r, t⟩ := v
 obtain ⟨_, _, h1, h2, h3, h4, h5⟩ := hv
 simp only at h1 h2 h3 h4 h5 hk
 unfold V.agg
 have hM : mayB ⟨k, n, r, t⟩ = false := by
  have e0 : ¬ k = 0 := by omega
  have e1 : ¬ k = 1 := by omega
  have e2 : ¬ k = 2 := by omega
  have e3 : ¬ k = 3 := by omega
  have e4 : ¬ k = 4 := by omega
  have e5 : ¬ k = 5 := by omega
  simp [mayB, e0, e1, e2, e3, e4, e5]
 rw [hM]
 clear hM
 go_enter Tryz.func70, Tryz.ntmps70
 go_wp2
 all_goals
  go_ret
  exact ⟨rfl, by repeat (first | exact Below.refl _ _ | refine Below.alloc ?_ (by simp) _)⟩
set_option maxRecDepth 100000 in
theorem may_text (v : V) (hv : v.wf) (hk : v.k = 5) (w : World) (hT : Tabs w) :
  Calls Tryz.prog 70 #[v.agg] w fun e w' => e = .returned (.bool (mayB v)) ∧ Below w.heap.size w w' := by
 obtain ⟨k, n, r, t⟩ := v
 obtain ⟨_, _, h1, h2, h3, h4, h5⟩ := hv
 simp only at h1 h2 h3 h4 h5 hk
 subst hk
 unfold V.agg
 generalize hM : mayB _ = M
 have HM := hd_ hM
 clear hM
 have HV := hd_ (fun W hW => valid_any t W (by omega) hW)
 generalize hc : Lib.validD t.data.toList = c at HV
 have Hc := hd_ hc
 clear hc
 have HT := hd_ hT
 clear hT
 cases c
 all_goals
  go_enter Tryz.func70, Tryz.ntmps70
  go_wp2_with (go_at_call 92; refine (HV.out _ (HT.out.ext (by repeat (first | exact Below.refl _ _ | refine Below.alloc ?_ (by simp) _)))).mono ?_; rintro e w' ⟨rfl, hb⟩; obtain ⟨hcl, hfr⟩ := bcell hb; have HB := hd_ hb; clear hb)
  all_goals
   go_ret
   refine ⟨ret_bool ?_, ?_⟩
   · rw [← HM.out]
     have hc := Hc.out
     clear hcl hfr HB
     first
      | (simp [mayB, *]; done)
      | (simp [mayB, *]; omega)
   · have hb := HB.out
     repeat (refine Below.setCell ?_ (by simp) _)
     refine Below.trans ?_ (hb.mono (by simp; omega))
     repeat (first | exact Below.refl _ _ | refine Below.alloc ?_ (by simp) _)
theorem may_any (v : V) (hv : v.wf) (w : World) (hT : Tabs w) :
  Calls Tryz.prog 70 #[v.agg] w fun e w' => e = .returned (.bool (mayB v)) ∧ Below w.heap.size w w' := by
 have h0 := hv.1
 by_cases h2 : v.k ≤ 2
 · exact may_plain v hv h2 w
 · by_cases h3 : v.k = 3
   · exact may_real v hv h3 w
   · by_cases h4 : v.k = 4
     · exact may_bytes v hv h4 w
     · by_cases h5 : v.k = 5
       · exact may_text v hv h5 w hT
       · exact may_other v hv (by omega) w
theorem conv1c (w : World) (o o' : Obj) (a : Int) (c : Nat) :
  (convert 128 9 (.slice (some ⟨w.heap.size + 1 + 1, 0, none⟩) 1 c)).run Tryz.prog (((w.alloc o).alloc o').alloc (.cells #[.int .u8 a] 5)) = .ok (.string (strOfNums [a])) (((w.alloc o).alloc o').alloc (.cells #[.int .u8 a] 5)) := by
 have := conv1 ((w.alloc o).alloc o') a c
 simpa using this
theorem lkey_2 (c k : Int) (u v : V) (hu : u.wf) (hv : v.wf) (b cp : Nat) (w : World) (hr : Blk w b #[.int .u8 u.k, .int .i64 u.n, .int .u64 u.r, .string u.t, .int .u8 v.k, .int .i64 v.n, .int .u64 v.r, .string v.t] 47) (hL : LayX w) :
 Calls Tryz.prog 41 #[.int .u8 c, .int .i64 k, .slice (some ⟨b, 0, none⟩) 2 cp] w fun e w' => e = .returned (.tuple #[.string (if lkOk k [u, v] then lkB c k [u, v] else ⟨#[]⟩), .int .i64 (okE (lkOk k [u, v]))]) ∧ Below w.heap.size w w' := lkey_any c k [u, v] _ cp w (vrow_b2 u v hu hv hr) hL
set_option maxRecDepth 100000 in
theorem ixdoc_any (k : Int) (v : V) (hv : v.wf) (w : World) (hL : LayX w) : Calls Tryz.prog 29 #[.int .i64 k, v.agg] w fun e w' => e = .returned (lkR 100 k [v]) ∧ Below w.heap.size w w' := by
 have HK := hd_ (fun (W : World) (b cp : Nat) (hr : Blk W b #[.int .u8 v.k, .int .i64 v.n, .int .u64 v.r, .string v.t] 47) (hW : Below w.heap.size w W) => lkey_1 100 k v hv b cp W hr (hL.ext hW))
 clear hL hv
 unfold lkR V.agg
 obtain ⟨vk, vn, vr, vt⟩ := v
 simp only at HK ⊢
 generalize (if lkOk k [(⟨vk, vn, vr, vt⟩ : V)] then lkB 100 k [⟨vk, vn, vr, vt⟩] else ⟨#[]⟩ : ByteArray) = R1 at HK ⊢
 generalize okE (lkOk k [(⟨vk, vn, vr, vt⟩ : V)]) = R2 at HK ⊢
 go_enter Tryz.func29, Tryz.ntmps29
 go_wp2_with (go_at_call 41; ((with_reducible refine (HK.out _ _ _ (by repeat (first | exact Blk.at (by simp) | assumption | refine Blk.drew ?_ | refine Blk.old ?_ _)) (by repeat (first | exact Below.refl _ _ | assumption | refine Below.drew ?_ | refine below_drewN ?_ _ | refine Below.alloc ?_ (by simp <;> omega) _))).mono ?_); rintro e w1 ⟨rfl, hb1⟩))
 go_ret2
 exact ⟨rfl, bt ((by repeat (first | exact Below.refl _ _ | assumption | refine Below.drew ?_ | refine below_drewN ?_ _ | refine Below.alloc ?_ (by simp <;> omega) _))) hb1⟩
set_option maxRecDepth 100000 in
theorem ixref_any (k : Int) (u v : V) (hu : u.wf) (hv : v.wf) (w : World) (hL : LayX w) : Calls Tryz.prog 27 #[.int .i64 k, u.agg, v.agg] w fun e w' => e = .returned (lkR 102 k [u, v]) ∧ Below w.heap.size w w' := by
 have HK := hd_ (fun (W : World) (b cp : Nat) (hr : Blk W b #[.int .u8 u.k, .int .i64 u.n, .int .u64 u.r, .string u.t, .int .u8 v.k, .int .i64 v.n, .int .u64 v.r, .string v.t] 47) (hW : Below w.heap.size w W) => lkey_2 102 k u v hu hv b cp W hr (hL.ext hW))
 clear hL hv hu
 unfold lkR V.agg
 obtain ⟨vk, vn, vr, vt⟩ := v
 obtain ⟨uk, un, ur, ut⟩ := u
 simp only at HK ⊢
 generalize (if lkOk k [(⟨uk, un, ur, ut⟩ : V), ⟨vk, vn, vr, vt⟩] then lkB 102 k [⟨uk, un, ur, ut⟩, ⟨vk, vn, vr, vt⟩] else ⟨#[]⟩ : ByteArray) = R1 at HK ⊢
 generalize okE (lkOk k [(⟨uk, un, ur, ut⟩ : V), ⟨vk, vn, vr, vt⟩]) = R2 at HK ⊢
 go_enter Tryz.func27, Tryz.ntmps27
 go_wp2_with (go_at_call 41; ((with_reducible refine (HK.out _ _ _ (by repeat (first | exact Blk.at (by simp) | assumption | refine Blk.drew ?_ | refine Blk.old ?_ _)) (by repeat (first | exact Below.refl _ _ | assumption | refine Below.drew ?_ | refine below_drewN ?_ _ | refine Below.alloc ?_ (by simp <;> omega) _))).mono ?_); rintro e w1 ⟨rfl, hb1⟩))
 go_ret2
 exact ⟨rfl, bt ((by repeat (first | exact Below.refl _ _ | assumption | refine Below.drew ?_ | refine below_drewN ?_ _ | refine Below.alloc ?_ (by simp <;> omega) _))) hb1⟩
def verR (k : Int) (v : V) (tx : Int) : Value := .tuple #[.string (if lkOk k [v] then ⟨(lkL 118 k [v] ++ hiN 8 tx.toNat).toArray⟩ else ⟨#[]⟩), .int .i64 (okE (lkOk k [v]))]
set_option maxRecDepth 100000 in
set_option maxHeartbeats 800000 in
theorem ixver_any (k : Int) (v : V) (hv : v.wf) (tx : Int) (h0 : 0 ≤ tx) (w : World) (hL : LayX w) : Calls Tryz.prog 30 #[.int .i64 k, v.agg, .int .u64 tx] w fun e w' => e = .returned (verR k v tx) ∧ Below w.heap.size w w' := by
 have HK := hd_ (fun (W : World) (b cp : Nat) (hr : Blk W b #[.int .u8 v.k, .int .i64 v.n, .int .u64 v.r, .string v.t] 47) (hW : Below w.heap.size w W) => lkey_1 118 k v hv b cp W hr (hL.ext hW))
 clear hL hv
 unfold verR V.agg
 have hln : lkOk k [v] = true → (lkL 118 k [v]).length ≤ 1626 := fun h => by
  unfold lkOk at h
  rw [Bool.and_eq_true] at h
  have := keyLs_length h.2
  unfold lkL
  simp only [List.length_append, List.length_cons, List.length_nil]
  omega
 unfold lkB at HK
 obtain ⟨vk, vn, vr, vt⟩ := v
 simp only at HK hln ⊢
 generalize lkL 118 k [(⟨vk, vn, vr, vt⟩ : V)] = R1 at HK hln ⊢
 generalize lkOk k [(⟨vk, vn, vr, vt⟩ : V)] = ok at HK hln ⊢
 cases ok
 · simp only [Bool.false_eq_true, if_false, okE] at HK ⊢
   clear hln
   go_enter Tryz.func30, Tryz.ntmps30
   go_wp2_with (go_at_call 41; ((with_reducible refine (HK.out _ _ _ (by repeat (first | exact Blk.at (by simp) | assumption | refine Blk.drew ?_ | refine Blk.old ?_ _)) (by repeat (first | exact Below.refl _ _ | assumption | refine Below.drew ?_ | refine below_drewN ?_ _ | refine Below.alloc ?_ (by simp <;> omega) _))).mono ?_); rintro e w1 ⟨rfl, hb1⟩))
   go_ret2
   exact ⟨rfl, bt ((by repeat (first | exact Below.refl _ _ | assumption | refine Below.drew ?_ | refine below_drewN ?_ _ | refine Below.alloc ?_ (by simp <;> omega) _))) hb1⟩
 · simp only [if_true, okE] at HK ⊢
   have hl := hln rfl
   clear hln
   have hcv := conv1
   obtain ⟨R, hR⟩ : ∃ R : ByteArray, R = ⟨R1.toArray⟩ := ⟨_, rfl⟩
   have hRs : R.size = R1.length := by rw [hR]; rfl
   rw [← hR] at HK
   have HR := hd_ hR
   clear hR
   go_enter Tryz.func30, Tryz.ntmps30
   go_wp2_with (go_at_call 41; ((with_reducible refine (HK.out _ _ _ (by repeat (first | exact Blk.at (by simp) | assumption | refine Blk.drew ?_ | refine Blk.old ?_ _)) (by repeat (first | exact Below.refl _ _ | assumption | refine Below.drew ?_ | refine below_drewN ?_ _ | refine Below.alloc ?_ (by simp <;> omega) _))).mono ?_); rintro e w1 ⟨rfl, hb1⟩; have hbw1 : Below w.heap.size w w1 := bt ((by repeat (first | exact Below.refl _ _ | assumption | refine Below.drew ?_ | refine below_drewN ?_ _ | refine Below.alloc ?_ (by simp <;> omega) _))) hb1; clear hb1))
   go_loopw [8, 10] (fun s i wr => ∃ (j : Nat) (sb : ByteArray), j ≤ 8 ∧ i = .int .i64 (56 - 8 * (j : Int)) ∧ s = .string sb ∧ sb.size = R1.length + j ∧ Hid (sb.data.toList = R1 ++ hiN j tx.toNat) ∧ Below w.heap.size w wr) (fun _ k _ => (intOf k + 8).toNat)
   case atStart => exact ⟨0, R, by omega, by go_num, rfl, by omega, by show _ = _; rw [HR.out, hiN]; simp, hbw1⟩
   case round =>
    obtain ⟨j, sb, hj, rfl, rfl, hsz, HS, hbw⟩ := hrel
    clear hbw1
    by_cases hlt : j < 8
    · have hs0 : (0 : Int) ≤ 56 - 8 * (j : Int) := by omega
      have hsn : (56 - 8 * (j : Int)).toNat = 56 - 8 * j := by omega
      have hby := hi_byte tx h0 (56 - 8 * j)
      have HBY := hd_ hby
      have hs1 : ∀ a : Int, (strOfNums [a]).size = 1 := fun _ => rfl
      clear hby
      go_wp2_with fail
      go_roundw
      case rel =>
       refine ⟨j + 1, _, by omega, by go_num, rfl, by rw [ByteArray.size_append, hs1]; omega, ?_, hbw.alloc hbw.size _⟩
       show _ = _
       rw [ByteArray.data_append, Array.toList_append, HS.out, hiN, List.append_assoc]
       congr 2
       unfold strOfNums
       simp only [List.map_cons, List.map_nil]
       rw [HBY.out, Int.toNat_natCast, UInt8.ofNat_toNat]
      case measure => simp [intOf]; omega
    · have hj8 : j = 8 := by omega
      subst hj8
      have hsb : sb = ⟨(R1 ++ hiN 8 tx.toNat).toArray⟩ := ba_of HS.out
      have HSB := hd_ hsb
      clear hsb
      go_wp2_with fail
      go_ret2
      exact ⟨ret_tup2 (congrArg Value.string HSB.out) rfl, hbw⟩
end Go.Proofs.YtceoficoappkpaaGreatDoor
