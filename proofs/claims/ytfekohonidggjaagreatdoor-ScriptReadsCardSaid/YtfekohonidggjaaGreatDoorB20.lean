/- Texts joined by a tool: contracts and walks of this claim. -/
import Derived.Test.YtfekohonidggjaaGreatDoorB19
namespace Go.Proofs.YtfekohonidggjaaGreatDoor
open Go.RowKit
theorem refjoin_own (B : Nat) (lv : Value) (ws : List (List UInt8)) (w : World) (h : w.ownsRow B 9 1 lv ws.length (wsC ws)) (hn : ws.length ≤ 1000000) (hne : ws ≠ []) (hl : (jnW 32 ws).length ≤ 140737488355327) :
 Calls Tryz.prog 43 #[lv] w fun r w' => r = .returned (.string (bsO (jnW 32 ws))) ∧ Below w.heap.size w w' := by
 have hpos : 0 < ws.length := List.length_pos_iff.2 hne
 obtain ⟨g, cap, rfl, _, hlt⟩ := h.form hpos
 refine refjoin_any ws (some ⟨g, 0, none⟩) cap w hn (by omega) (fun _ => ⟨g, 0, rfl, hlt, fun j x hx => ?_⟩)
 have hc := h.cells (g := g) rfl j (.string (bsO x)) (by unfold wsC; rw [List.getElem?_map, hx]; rfl)
 rw [addr_addS] at hc
 exact hc
theorem opN_op {k : Int} (h : 1 ≤ k ∧ k ≤ 3) : opN k = opW k := by
 have : k = 1 ∨ k = 2 ∨ k = 3 := by omega
 rcases this with rfl | rfl | rfl <;> rfl
theorem opW_ne {k : Int} : ((bsO (opW k)).toList == []) = false := by
 unfold opW
 rw [ByteArray.toList_eq]
 split
 · rfl
 · split <;> rfl
theorem str_emp {s : ByteArray} (h : ¬ s.size = 0) : (s.toList == []) = false := by
 refine Bool.eq_false_iff.2 fun e => h ?_
 rw [ByteArray.toList_eq] at e
 have : s.data.toList.length = 0 := by rw [beq_iff_eq.1 e]; rfl
 simpa using this
set_option maxRecDepth 100000 in
set_option maxHeartbeats 6400000 in
theorem refact_opno (a : Ac) (hw : a.wf) (hd : a.d = 2) (hp : ¬ opPre a) (A : Option Addr) (c : Nat) (w : World) :
 Calls Tryz.prog 16 #[a.agg A c] w fun r w' => r = .returned (actP (actT a)) ∧ Below w.heap.size w w' := by
 have HN : Hid (actT a = none) := by show _ = _; unfold actT; rw [actW_pre hd hp]; rfl
 obtain ⟨d, k, tb, row, n, m, q, nm⟩ := a
 obtain ⟨_, hk, htb, _, _⟩ := hw
 unfold opPre at hp
 simp only at hd hp hk htb
 subst hd
 unfold Ac.agg
 simp only
 generalize actT ⟨2, k, tb, row, n, m, q, nm⟩ = O at HN ⊢
 have HOP := hd_ (refop_any k hk)
 have HK0 := hd_ (Blk.new w #[.int .u8 2, .int .u8 k, .int .i64 tb, .slice A row.length c, .int .i64 n, .int .i64 m, .int .i64 q, .string nm] 42)
 have hb0 : Below w.heap.size w (w.alloc (.cells #[.int .u8 2, .int .u8 k, .int .i64 tb, .slice A row.length c, .int .i64 n, .int .i64 m, .int .i64 q, .string nm] 42)) := bel1 _ _
 have HB0 := hd_ hb0
 have hz : 1 ≤ k ∧ k ≤ 3 ∨ opN k = [] := by
  by_cases h : 1 ≤ k ∧ k ≤ 3
  · exact Or.inl h
  · right; unfold opN; rw [if_neg (by omega), if_neg (by omega), if_neg (by omega)]
 clear hb0 hk htb
 go_enter Tryz.func16, Tryz.ntmps16
 go_upto_region 2 with fail
 generalize w.alloc (.cells #[.int .u8 2, .int .u8 k, .int .i64 tb, .slice A row.length c, .int .i64 n, .int .i64 m, .int .i64 q, .string nm] 42) = w1 at HK0 HB0 ⊢
 obtain ⟨y8, y0, y1, y2, y3, y4, y5, y6, y7⟩ := blkA HK0.out
 go_wp2_with fail
 refine (HOP.out _).mono ?_
 rintro r w2 ⟨rfl, hb2⟩
 obtain ⟨y8, y0, y1, y2, y3, y4, y5, y6, y7⟩ := blkA (HK0.out.ext hb2)
 have HB2 := hd_ (bt HB0.out hb2)
 clear hb2 HOP
 rcases hz with hk3 | hk0
 · rw [opN_op hk3]
   obtain ⟨x, hx⟩ : ∃ x, x = bsO (opW k) := ⟨_, rfl⟩
   have hxn : (x.toList == []) = false := by rw [hx]; exact opW_ne
   rw [← hx]
   clear hx
   by_cases h1 : row.length ≤ 8
   · have hlI : ¬ (8 : Int) < row.length := by omega
     by_cases h2 : n = 0
     · subst h2
       by_cases h3 : m = 0
       · subst h3
         by_cases h4 : q = 0
         · subst h4
           have h5 : ¬ nm.size = 0 := fun e => hp ⟨hk3, h1, rfl, rfl, rfl, e⟩
           have hnm := str_emp h5
           clear hp h5 h1 hk3
           go_wp2_with fail
           refine bodyPost_ret (v := actP none) (by simp [results, Tryz.results16, go_sem, actP]) rfl ?_
           exact ⟨by rw [HN.out], HB2.out⟩
         · have hq : (q != 0) = true := by simp [h4]
           have hqb : (q == 0) = false := by simp [h4]
           clear hp h4 h1 hk3
           go_wp2_with fail
           refine bodyPost_ret (v := actP none) (by simp [results, Tryz.results16, go_sem, actP]) rfl ?_
           exact ⟨by rw [HN.out], HB2.out⟩
       · have hq : (m != 0) = true := by simp [h3]
         have hqb : (m == 0) = false := by simp [h3]
         clear hp h3 h1 hk3
         go_wp2_with fail
         refine bodyPost_ret (v := actP none) (by simp [results, Tryz.results16, go_sem, actP]) rfl ?_
         exact ⟨by rw [HN.out], HB2.out⟩
     · have hq : (n != 0) = true := by simp [h2]
       have hqb : (n == 0) = false := by simp [h2]
       clear hp h2 h1 hk3
       go_wp2_with fail
       refine bodyPost_ret (v := actP none) (by simp [results, Tryz.results16, go_sem, actP]) rfl ?_
       exact ⟨by rw [HN.out], HB2.out⟩
   · have hlI : (8 : Int) < row.length := by omega
     clear hp h1 hk3
     go_wp2_with fail
     refine bodyPost_ret (v := actP none) (by simp [results, Tryz.results16, go_sem, actP]) rfl ?_
     exact ⟨by rw [HN.out], HB2.out⟩
 · rw [hk0, show bsO [] = (⟨#[]⟩ : ByteArray) from rfl]
   clear hp hk0
   go_wp2_with fail
   refine bodyPost_ret (v := actP none) (by simp [results, Tryz.results16, go_sem, actP]) rfl ?_
   exact ⟨by rw [HN.out], HB2.out⟩
set_option maxRecDepth 100000 in
set_option maxHeartbeats 6400000 in
theorem refact_op (a : Ac) (hw : a.wf) (hd : a.d = 2) (hp : opPre a) (A : Option Addr) (c : Nat) (w : World) (hr : VRow w A a.row) (hL : LayS w) :
 Calls Tryz.prog 16 #[a.agg A c] w fun r w' => r = .returned (actP (actT a)) ∧ Below w.heap.size w w' := by
 have HLN := hd_ (fun ws h => actW_len (a := a) (ws := ws) hw h)
 have hO := actW_op hd
 have hB : opB a = a.row.all mayB := by
  cases h : a.row.all mayB
  · exact Bool.eq_false_iff.2 fun e => by rw [(opB_pre.1 e).2] at h; cases h
  · exact opB_pre.2 ⟨hp, h⟩
 rw [hB] at hO
 unfold actT
 obtain ⟨d, k, tb, row, n, m, q, nm⟩ := a
 obtain ⟨⟨k1, k3⟩, hl8, h1, h2, h3, h4⟩ := hp
 obtain ⟨_, hk, htb, _, _⟩ := hw
 simp only at hd k1 k3 hl8 h1 h2 h3 h4 htb hr hO hk
 subst hd h1 h2 h3
 obtain rfl := empty_of_size h4
 clear h4 hB
 unfold Ac.agg
 simp only
 generalize actW ⟨2, k, tb, row, 0, 0, 0, ByteArray.empty⟩ = O at hO HLN ⊢
 have HO := hd_ hO
 have HOP := hd_ (refop_any k hk)
 have HNU := hd_ (fun (W : World) => refNumber_any tb htb W)
 have HCK := hd_ (fun (v : V) (hv : v.wf) (W : World) (hW : Below w.heap.size w W) => may_any v hv W (hL.ext hW).tabs)
 have HVL := hd_ (fun (v : V) (hv : v.wf) (W : World) (hW : Below w.heap.size w W) => refvalueT_any v hv W (hL.ext hW).tabs)
 have HVR := hd_ hr
 obtain ⟨i0, hi0, hz0, hz1, hz2⟩ := info_parts info_txt
 rw [opN_op ⟨k1, k3⟩] at HOP
 have HKK : Hid (1 ≤ k ∧ k ≤ 3) := ⟨k1, k3⟩
 have hlI : ¬ (8 : Int) < row.length := by omega
 obtain ⟨x, hx⟩ : ∃ x, x = bsO (opW k) := ⟨_, rfl⟩
 have hxn : (x.toList == []) = false := by rw [hx]; exact opW_ne
 rw [← hx] at HOP
 have HX := hd_ hx
 have HL8 := hd_ hl8
 clear hO hL hr htb hx hl8
 have HK0 := hd_ (Blk.new w #[.int .u8 2, .int .u8 k, .int .i64 tb, .slice A row.length c, .int .i64 0, .int .i64 0, .int .i64 0, .string ByteArray.empty] 42)
 have hb0 : Below w.heap.size w (w.alloc (.cells #[.int .u8 2, .int .u8 k, .int .i64 tb, .slice A row.length c, .int .i64 0, .int .i64 0, .int .i64 0, .string ByteArray.empty] 42)) := bel1 _ _
 have HB0 := hd_ hb0
 clear hb0
 go_enter Tryz.func16, Tryz.ntmps16
 go_upto_region 2 with fail
 generalize w.alloc (.cells #[.int .u8 2, .int .u8 k, .int .i64 tb, .slice A row.length c, .int .i64 0, .int .i64 0, .int .i64 0, .string ByteArray.empty] 42) = w1 at HK0 HB0 ⊢
 obtain ⟨y8, y0, y1, y2, y3, y4, y5, y6, y7⟩ := blkA HK0.out
 go_wp2_with fail
 refine (HOP.out _).mono ?_
 rintro r w2 ⟨rfl, hb2⟩
 have HBK := hd_ (HK0.out.ext hb2)
 have HBW := hd_ (bt HB0.out hb2)
 obtain ⟨y8, y0, y1, y2, y3, y4, y5, y6, y7⟩ := blkA HBK.out
 clear hb2
 go_upto_region 4 with fail
 clear y8 y0 y1 y2 y3 y4 y5 y6 y7 HK0 HB0 hlI hxn
 refine region_grow [false, false, false, false, true, false, false, false, false, false, false, false, false, false, false, false, false, false, false, false, false, false, false, false, false, false, false, false, false, false, false, false, false, false, false, false, false, false, false, false, false, false, false, false, false, false, true, true, true, true, true, true, true, true, true, false, false, false, false, false, false, false, false, false, false, false, false, false, false, false, false, false, false, false, false, false, false, false, false, false, false, false, false, false, false, false, false, false, false, false, false, false, false, false, false, false, false, false, false, false, false, false, false, false, false, false, false, false, false, false, false, false, false, false, false, false, false, false, false, false, false, false, false, false, false, false, false, false, false, false, false, false, false, false, false, false, false, false, false, false, false, false, false, false, false, false, false, false, false, false, false, false, false, false, false, false, false, false, false, false, false, false, false, false, false, false, false, false, false, false, false, false, false, false, false, false, false, false, false, false, false, false] [46, 47, 48, 49, 50, 51, 52, 53, 54, 4] [.val (.pointer (some ⟨w.heap.size, 1, none⟩)), .val (.pointer (some ⟨w.heap.size, 1, none⟩)), .val (.int .u8 k), .val (.string x), .val (.pointer (some ⟨w.heap.size, 1, none⟩)), .val (.pointer (some ⟨w.heap.size, 2, none⟩)), .val (.int .i64 tb), .val (.string (bsO (Lib.itoa tb))), kRow (w.heap.size + 1) [opW k, Lib.itoa tb], kRow (w.heap.size + 1) [opW k, Lib.itoa tb]] [9] (by kernel_rfl) (by kernel_rfl) (by kernel_rfl) (by kernel_rfl) (by kernel_rfl) ⟨?_, ?_, ?_, ?_, ?_, ?_, ?_, ?_, ?_, ?_, trivial⟩ ?done
 case done =>
  intro z w3 hb3
  unfold kRow
  simp only [StepGoal, overlay, upd, cond_true, cond_false, List.getD_cons_zero, List.getD_cons_succ, Nat.zero_add, Nat.reduceAdd, Nat.reduceEqDiff, reduceIte]
  intro v hv
  have hv' : w3.ownsRow (w.heap.size + 1) 9 1 v (2 + 0) (wsC (opW k :: Lib.itoa tb :: (row.take 0).map valW)) := hv
  have hbw3 := bt HBW.out hb3
  have HBK3 := hd_ (HBK.out.ext hb3)
  have HC : Hid ((row.take 0).all mayB = true) := rfl
  clear hv hb3 HBK HBW
  go_wp2_with fail
  go_loopw [4, 5] (fun lv i wr => ∃ j : Nat, j ≤ row.length ∧ i = .int .i64 j ∧ Hid ((row.take j).all mayB = true) ∧ wr.ownsRow (w.heap.size + 1) 9 1 lv (2 + j) (wsC (opW k :: Lib.itoa tb :: (row.take j).map valW)) ∧ Hid (Blk wr w.heap.size #[.int .u8 2, .int .u8 k, .int .i64 tb, .slice A row.length c, .int .i64 0, .int .i64 0, .int .i64 0, .string ByteArray.empty] 42) ∧ Below w.heap.size w wr) (fun _ i _ => row.length - (intOf i).toNat)
  case atStart => exact ⟨0, by omega, rfl, HC, hv', HBK3.out, hbw3⟩
  case round =>
   obtain ⟨j, hj, rfl, HJ, hown, HBr, hbw⟩ := hrel
   clear hv' hbw3 HBK3 HC
   obtain ⟨y8, y0, y1, y2, y3, y4, y5, y6, y7⟩ := blkA HBr.out
   by_cases hlt : j < row.length
   · obtain ⟨b, off, v, rfl, hb, hlk, hmem, hwf, c0, c1, c2, c3⟩ := (HVR.out.ext hbw).at_ hlt
     have HLK := hd_ hlk
     have HCV := hd_ (HCK.out v hwf)
     have HVV := hd_ (HVL.out v hwf)
     have htk : row.take (j + 1) = row.take j ++ [v] := by
      obtain ⟨h1, h2⟩ := List.getElem?_eq_some_iff.1 hlk
      rw [List.take_succ_eq_append_getElem h1, h2]
     have HTK := hd_ htk
     have hltI : (j : Int) < row.length := by omega
     cases hmv : mayB v with
     | false =>
      have hN : O = none := by
       rw [HO.out, if_neg]
       intro e
       have := List.all_eq_true.1 e v hmem
       rw [hmv] at this; cases this
      have HN := hd_ hN
      rw [hmv] at HCV
      obtain ⟨vk, vn, vr, vt⟩ := v
      unfold V.agg at HCV
      simp only at c0 c1 c2 c3
      clear hlk hmem hwf htk hmv hN
      go_wp2_with fail
      refine (HCV.out _ hbw).mono ?_
      rintro r w4 ⟨rfl, hb4⟩
      have hbw4 := bt hbw hb4
      clear hb4 hown hbw y8 y0 y1 y2 y3 y4 y5 y6 y7 c0 c1 c2 c3
      go_wp2_with fail
      refine bodyPost_ret (v := actP none) (by simp [results, Tryz.results16, go_sem, actP]) rfl ?_
      exact ⟨by rw [HN.out]; rfl, hbw4⟩
     | true =>
      rw [hmv] at HCV
      have HTJ : Hid ((row.take (j + 1)).all mayB = true) := by
       show _ = _
       rw [HTK.out, List.all_append, HJ.out]
       simp [hmv]
      have hvt := valT_yes hmv
      rw [hvt] at HVV
      obtain ⟨q, hq⟩ : ∃ q, q = valW v := ⟨_, rfl⟩
      rw [← hq] at HVV
      have HQ := hd_ hq
      have HMP : Hid (wsC (opW k :: Lib.itoa tb :: (row.take (j + 1)).map valW) = wsC (opW k :: Lib.itoa tb :: (row.take j).map valW) ++ [.string (bsO q)]) := by
       show _ = _
       rw [HTK.out, List.map_append, HQ.out]
       simp [wsC]
      obtain ⟨vk, vn, vr, vt⟩ := v
      unfold V.agg at HCV HVV
      simp only at c0 c1 c2 c3
      clear hlk hmem hwf htk hmv hvt hq
      go_wp2_with fail
      refine (HCV.out _ hbw).mono ?_
      rintro r w4 ⟨rfl, hb4⟩
      have hbw4 := bt hbw hb4
      have hown4 := own_ext hown hb4
      have HBr4 := hd_ (HBr.out.ext hb4)
      have c0 := (hb4.cell (p := ⟨b, _, none⟩) hb).trans c0
      have c1 := (hb4.cell (p := ⟨b, _, none⟩) hb).trans c1
      have c2 := (hb4.cell (p := ⟨b, _, none⟩) hb).trans c2
      have c3 := (hb4.cell (p := ⟨b, _, none⟩) hb).trans c3
      have hb' := Nat.lt_of_lt_of_le hb hb4.size
      clear hb hb4 hown hbw HBr y8 y0 y1 y2 y3 y4 y5 y6 y7
      obtain ⟨y8, y0, y1, y2, y3, y4, y5, y6, y7⟩ := blkA HBr4.out
      go_wp2_with fail
      refine (HVV.out _ hbw4).mono ?_
      rintro r w5 ⟨rfl, hb5⟩
      have hbw5 := bt hbw4 hb5
      have hown5 := own_ext hown4 hb5
      have HBr5 := hd_ (HBr4.out.ext hb5)
      clear hb5 hown4 hbw4 HBr4 c0 c1 c2 c3 y8 y0 y1 y2 y3 y4 y5 y6 y7 hb'
      have hj8 : j ≤ 8 := by have := HL8.out; omega
      have hsz5 : w.heap.size + 1 ≤ w5.heap.size := HBr5.out.lt
      go_wp2_with (at_builtin; refine wpList_append_own _ rfl _ _ 63 rfl (w.heap.size + 1) 9 i0 (.string ByteArray.empty) 1 16 Tryz.underlying63 hi0 hz0 hz1 hz2 rfl (by decide) _ (2 + j) (wsC (opW k :: Lib.itoa tb :: (row.take j).map valW)) rfl (World.ownsRow.alloc hown5 _) ⟨w5.heap.size, 0, none⟩ 1 1 [.string (bsO q)] rfl rfl ?xc1 ?xc2 ?xc3 ?xc4 ?xc5 ?_)
      case xc1 => exact cell_one_new _ _ _
      case xc2 => simp [Value.oneCell']
      case xc3 => simp only [maxLen]; omega
      case xc4 => omega
      case xc5 => simp; omega
      intro v' w6 hown6 hg6 _
      rw [← List.map_take, ← HMP.out] at hown6
      have hbw6 : Below w.heap.size w w6 := (hbw5.alloc hbw5.size _).grown hg6 (by have := hbw5.size; simp; omega) (fun g hg => by have := own_ge hown5 g hg; omega)
      have HBr6 := hd_ (blk_grown (HBr5.out.old (.cells #[.string (bsO q)] 9)) hg6 (fun e => by have := own_ge hown5 _ e; omega))
      clear hown5 hg6 hbw5 HBr5
      go_wp2_with fail
      go_roundw
      case rel => exact ⟨j + 1, by omega, by go_num, HTJ, hown6, HBr6, hbw6⟩
      case measure => simp [intOf]; omega
   · have hjn : j = row.length := by omega
     subst hjn
     have hN : O = some (opW k :: Lib.itoa tb :: row.map valW) := by
      have := HJ.out
      rw [List.take_length] at this
      rw [HO.out, if_pos this]
     have HN := hd_ hN
     rw [List.take_length] at hown
     have hll : (opW k :: Lib.itoa tb :: row.map valW).length = 2 + row.length := by simp; omega
     have HJN := hd_ (refjoin_own (w.heap.size + 1) _ (opW k :: Lib.itoa tb :: row.map valW) _ (by rw [hll]; exact hown) (by have := HL8.out; rw [hll]; omega) (by simp) (by have := HLN.out _ hN; omega))
     clear hN hll
     go_wp2_with fail
     refine HJN.out.mono ?_
     rintro r w4 ⟨rfl, hb4⟩
     have hbw4 := bt hbw hb4
     clear hb4 hown hbw y8 y0 y1 y2 y3 y4 y5 y6 y7 HJN
     go_wp2_with fail
     refine bodyPost_ret (v := actP (some (jnW 32 (opW k :: Lib.itoa tb :: row.map valW)))) (by simp [results, Tryz.results16, go_sem, actP]) rfl ?_
     exact ⟨by rw [HN.out]; rfl, hbw4⟩
 all_goals
  intro z w3 hb3
  have hbw3 := bt HBW.out hb3
  have hk3 := HBK.out.ext hb3
  have hsz3 : w.heap.size + 1 ≤ w3.heap.size := hk3.lt
  obtain ⟨y8, y0, y1, y2, y3, y4, y5, y6, y7⟩ := blkA hk3
  first
   | (intro K hK
      rw [if_pos (by rfl)]; simp only [overlay, upd, cond_true, cond_false, List.getD_cons_zero, List.getD_cons_succ, Nat.reduceEqDiff, reduceIte]
      go_simp
      first
       | exact hK.out _ _ (Below.refl _ _) rfl
       | (refine hK.out _ _ (by repeat (first | exact Below.refl _ _ | assumption | refine Below.drew ?_ | refine below_drewN ?_ _ | refine Below.alloc ?_ (by simp <;> omega) _)) ?_; show World.ownsRow _ _ _ _ _ _ _; rw [HX.out]; exact own_new _ _ [opW k, Lib.itoa tb] hsz3 (by simp))
       | ((with_reducible refine (HOP.out _).mono ?_); rintro e wa ⟨rfl, hba⟩; go_wp2_with fail; exact hK.out _ _ hba rfl)
       | ((with_reducible refine (HNU.out _).mono ?_); rintro e wa ⟨rfl, hba⟩; go_wp2_with fail; exact hK.out _ _ hba rfl))
   | (intro v hv K hK
      rw [if_pos (by rfl)]; simp only [overlay, upd, cond_true, cond_false, List.getD_cons_zero, List.getD_cons_succ, Nat.reduceEqDiff, reduceIte]
      go_simp
      exact hK.out _ _ (Below.refl _ _) hv)
   | (intro v hv v' hv' K hK
      rw [if_pos (by rfl)]; simp only [overlay, upd, cond_true, cond_false, List.getD_cons_zero, List.getD_cons_succ, Nat.reduceEqDiff, reduceIte]
      go_simp
      exact hK.out _ _ (Below.refl _ _) hv')
end Go.Proofs.YtfekohonidggjaaGreatDoor
