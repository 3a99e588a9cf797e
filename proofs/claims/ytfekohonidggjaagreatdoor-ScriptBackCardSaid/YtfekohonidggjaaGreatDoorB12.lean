/- Texts joined by a tool: contracts and walks of this claim. -/
import Derived.Test.YtfekohonidggjaaGreatDoorB11
namespace Go.Proofs.YtfekohonidggjaaGreatDoor
open Go.RowKit
theorem valT_yes {v : V} (h : mayB v = true) : valT v = valW v := by unfold valT; rw [if_pos h]
theorem bs_cons (c : UInt8) (l : List UInt8) : (⟨#[c]⟩ : ByteArray) ++ bsO l = bsO (c :: l) := bsO_app [c] l
set_option maxRecDepth 100000 in
set_option maxHeartbeats 1600000 in
theorem valueT_any (v : V) (hv : v.wf) (w : World) (hL : LayS w) :
 Calls Tryz.prog 24 #[v.agg] w fun r w' => r = .returned (.string (bsO (valT v))) ∧ Below w.heap.size w w' := by
 generalize hR : bsO (valT v) = R
 have HR := hd_ hR
 have HLW := hd_ (fun (W : World) (hW : Below w.heap.size w W) => hL.ext hW)
 have HCK := hd_ (fun (W : World) (hW : Below w.heap.size w W) => check_any v hv W (hL.ext hW).tabs)
 have HV := hd_ hv
 obtain ⟨w0, w1, w2, w3, w4, w5, w6⟩ := hv
 have hsz100 := fun h : mayB v = true => may_size h
 have HS := hd_ hsz100
 have hkn := fun h : mayB v = true => mayA_kind HV.out h
 have HKN := hd_ hkn
 have hvt := fun h : mayB v = true => valT_yes h
 have HVT := hd_ hvt
 clear hR hL hsz100 hkn hvt
 go_enter Tryz.func24, Tryz.ntmps24
 unfold V.agg at *
 go_wp2_with fail
 have hS0 := Blk.new w #[.int .u8 v.k, .int .i64 v.n, .int .u64 v.r, .string v.t] 48
 have hA0 : Below w.heap.size w (w.alloc (.cells #[.int .u8 v.k, .int .i64 v.n, .int .u64 v.r, .string v.t] 48)) := bel1 _ _
 refine (HCK.out _ hA0).mono ?_
 rintro r w1 ⟨rfl, hb1⟩
 obtain ⟨l0, y0, y1, y2, y3⟩ := mk4 (hS0.ext hb1)
 have HB1 := hd_ (bt hA0 hb1)
 clear hb1 hS0 hA0
 unfold okE
 by_cases hm : mayB v = true
 · rw [if_pos hm]
   have hvt := HVT.out hm
   have hk := HKN.out hm
   have h100 := HS.out hm
   have HM := hd_ hm
   have HRW : Hid (R = bsO (valW v)) := by show _ = _; rw [← HR.out, hvt]
   clear hm hvt
   rcases hk with e | e | e | e | e | e
   · have HW : Hid (R = bsO tNull) := by show _ = _; rw [HRW.out]; unfold valW; rw [if_pos e]
     rw [e] at y0
     go_wp2_with fail
     go_ret
     exact ⟨by rw [HW.out]; rfl, HB1.out⟩
   · rw [e] at y0
     have HE := hd_ e
     clear e
     by_cases h1 : v.n = 1
     · have HW : Hid (R = bsO tTrue) := by show _ = _; rw [HRW.out]; unfold valW; rw [HE.out, if_neg (by decide), if_pos rfl, if_pos h1]
       rw [h1] at y1
       have HFB := hd_ (Tryz.strconv_FormatBool true w1)
       go_wp2_with fail
       refine HFB.out.mono ?_
       rintro r w2 ⟨rfl, rfl⟩
       go_wp2_with fail
       go_ret
       exact ⟨by rw [HW.out]; rfl, HB1.out⟩
     · have HW : Hid (R = bsO tFalse) := by show _ = _; rw [HRW.out]; unfold valW; rw [HE.out, if_neg (by decide), if_pos rfl, if_neg h1]
       have hb : (v.n == 1) = false := by simpa using h1
       have HFB := hd_ (Tryz.strconv_FormatBool false w1)
       go_wp2_with fail
       refine HFB.out.mono ?_
       rintro r w2 ⟨rfl, rfl⟩
       go_wp2_with fail
       go_ret
       exact ⟨by rw [HW.out]; rfl, HB1.out⟩
   · rw [e] at y0
     have HW : Hid (R = bsO (Lib.itoa v.n)) := by show _ = _; rw [HRW.out]; unfold valW; rw [e, if_neg (by decide), if_neg (by decide), if_pos rfl]
     have HF := hd_ (formatInt_any v.n ⟨w2, w3⟩ w1 (HLW.out w1 HB1.out))
     go_wp2_with fail
     refine HF.out.mono ?_
     rintro r w8 ⟨rfl, hb⟩
     have hb2 := bt HB1.out hb
     go_wp2_with fail
     go_ret
     exact ⟨by rw [HW.out]; rfl, hb2⟩
   · rw [e] at y0
     have hcz : canonZ v.r = v.r := by
      have := HM.out
      unfold mayB at this
      rw [e, if_neg (by decide), if_neg (by decide), if_neg (by decide), if_pos rfl] at this
      simp only [Bool.and_eq_true, decide_eq_true_eq] at this
      exact this.1.2.symm
     have HW : Hid (R = bsO (114 :: hexN 16 v.r.toNat)) := by show _ = _; rw [HRW.out]; unfold valW; rw [e, if_neg (by decide), if_neg (by decide), if_neg (by decide), if_pos rfl]
     have HF := hd_ (realtext_any v.r w4 w5 w1)
     rw [hcz] at HF
     have hcat : (⟨#[114]⟩ : ByteArray).size + (bsO (hexN 16 v.r.toNat)).size ≤ 9223372036854775807 := by rw [bsO_size, hexN_length]; decide
     have hnew := bs_cons 114 (hexN 16 v.r.toNat)
     rw [← HW.out] at hnew
     have HN := hd_ hnew
     clear hcz hnew
     generalize bsO (hexN 16 v.r.toNat) = z at HF hcat HN
     go_wp2_with fail
     refine HF.out.mono ?_
     rintro r w8 ⟨rfl, hb⟩
     have hb2 := bt HB1.out hb
     go_wp2_with fail
     go_ret
     exact ⟨by show Ending.returned (.string (_ ++ z)) = _; rw [HN.out], hb2⟩
   · rw [e] at y0
     have HW : Hid (R = bsO (120 :: hexL v.t.data.toList)) := by show _ = _; rw [HRW.out]; unfold valW; rw [e, if_neg (by decide), if_neg (by decide), if_neg (by decide), if_neg (by decide), if_pos rfl]
     have HF := hd_ (hexT_any v.t (by omega) w1)
     have hcat : (⟨#[120]⟩ : ByteArray).size + (bsO (hexL v.t.data.toList)).size ≤ 9223372036854775807 := by
      rw [bsO_size, hexL_length, len_data]
      show 1 + _ ≤ _
      omega
     have hnew := bs_cons 120 (hexL v.t.data.toList)
     rw [← HW.out] at hnew
     have HN := hd_ hnew
     clear hnew
     generalize bsO (hexL v.t.data.toList) = z at HF hcat HN
     go_wp2_with fail
     refine HF.out.mono ?_
     rintro r w8 ⟨rfl, hb⟩
     have hb2 := bt HB1.out hb
     go_wp2_with fail
     go_ret
     exact ⟨by show Ending.returned (.string (_ ++ z)) = _; rw [HN.out], hb2⟩
   · rw [e] at y0
     have HW : Hid (R = bsO (115 :: hexL v.t.data.toList)) := by show _ = _; rw [HRW.out]; unfold valW; rw [e, if_neg (by decide), if_neg (by decide), if_neg (by decide), if_neg (by decide), if_neg (by decide)]
     have HF := hd_ (hexT_any v.t (by omega) w1)
     have hcat : (⟨#[115]⟩ : ByteArray).size + (bsO (hexL v.t.data.toList)).size ≤ 9223372036854775807 := by
      rw [bsO_size, hexL_length, len_data]
      show 1 + _ ≤ _
      omega
     have hnew := bs_cons 115 (hexL v.t.data.toList)
     rw [← HW.out] at hnew
     have HN := hd_ hnew
     clear hnew
     generalize bsO (hexL v.t.data.toList) = z at HF hcat HN
     go_wp2_with fail
     refine HF.out.mono ?_
     rintro r w8 ⟨rfl, hb⟩
     have hb2 := bt HB1.out hb
     go_wp2_with fail
     go_ret
     exact ⟨by show Ending.returned (.string (_ ++ z)) = _; rw [HN.out], hb2⟩
 · rw [if_neg hm]
   have HM := hd_ hm
   clear hm
   go_wp2_with fail
   go_ret
   exact ⟨by rw [← HR.out]; unfold valT; rw [if_neg HM.out]; rfl, HB1.out⟩
set_option maxRecDepth 100000 in
set_option maxHeartbeats 1600000 in
theorem refvalueT_any (v : V) (hv : v.wf) (w : World) (hT : Tabs w) :
 Calls Tryz.prog 25 #[v.agg] w fun r w' => r = .returned (.string (bsO (valT v))) ∧ Below w.heap.size w w' := by
 generalize hR : bsO (valT v) = R
 have HR := hd_ hR
 have HLW := hd_ (fun (W : World) (hW : Below w.heap.size w W) => hT.ext hW)
 have HCK := hd_ (fun (W : World) (hW : Below w.heap.size w W) => may_any v hv W (hT.ext hW))
 have HV := hd_ hv
 obtain ⟨w0, w1, w2, w3, w4, w5, w6⟩ := hv
 have hsz100 := fun h : mayB v = true => may_size h
 have HS := hd_ hsz100
 have hkn := fun h : mayB v = true => mayA_kind HV.out h
 have HKN := hd_ hkn
 have hvt := fun h : mayB v = true => valT_yes h
 have HVT := hd_ hvt
 clear hR hT hsz100 hkn hvt
 go_enter Tryz.func25, Tryz.ntmps25
 unfold V.agg at *
 go_wp2_with fail
 have hS0 := Blk.new w #[.int .u8 v.k, .int .i64 v.n, .int .u64 v.r, .string v.t] 48
 have hA0 : Below w.heap.size w (w.alloc (.cells #[.int .u8 v.k, .int .i64 v.n, .int .u64 v.r, .string v.t] 48)) := bel1 _ _
 refine (HCK.out _ hA0).mono ?_
 rintro r w1 ⟨rfl, hb1⟩
 obtain ⟨l0, y0, y1, y2, y3⟩ := mk4 (hS0.ext hb1)
 have HB1 := hd_ (bt hA0 hb1)
 clear hb1 hS0 hA0
 by_cases hm : mayB v = true
 · rw [hm]
   have hvt := HVT.out hm
   have hk := HKN.out hm
   have h100 := HS.out hm
   have HM := hd_ hm
   have HRW : Hid (R = bsO (valW v)) := by show _ = _; rw [← HR.out, hvt]
   clear hm hvt
   rcases hk with e | e | e | e | e | e
   · have HW : Hid (R = bsO tNull) := by show _ = _; rw [HRW.out]; unfold valW; rw [if_pos e]
     rw [e] at y0
     go_wp2_with fail
     go_ret
     exact ⟨by rw [HW.out]; rfl, HB1.out⟩
   · rw [e] at y0
     have HE := hd_ e
     clear e
     by_cases h1 : v.n = 1
     · have HW : Hid (R = bsO tTrue) := by show _ = _; rw [HRW.out]; unfold valW; rw [HE.out, if_neg (by decide), if_pos rfl, if_pos h1]
       rw [h1] at y1
       go_wp2_with fail
       go_ret
       exact ⟨by rw [HW.out]; rfl, HB1.out⟩
     · have HW : Hid (R = bsO tFalse) := by show _ = _; rw [HRW.out]; unfold valW; rw [HE.out, if_neg (by decide), if_pos rfl, if_neg h1]
       have hb : (v.n == 1) = false := by simpa using h1
       go_wp2_with fail
       go_ret
       exact ⟨by rw [HW.out]; rfl, HB1.out⟩
   · rw [e] at y0
     have HW : Hid (R = bsO (Lib.itoa v.n)) := by show _ = _; rw [HRW.out]; unfold valW; rw [e, if_neg (by decide), if_neg (by decide), if_pos rfl]
     have HF := hd_ (refNumber_any v.n ⟨w2, w3⟩ w1)
     go_wp2_with fail
     refine HF.out.mono ?_
     rintro r w8 ⟨rfl, hb⟩
     have hb2 := bt HB1.out hb
     go_wp2_with fail
     go_ret
     exact ⟨by rw [HW.out]; rfl, hb2⟩
   · rw [e] at y0
     have hcz : canonZ v.r = v.r := by
      have := HM.out
      unfold mayB at this
      rw [e, if_neg (by decide), if_neg (by decide), if_neg (by decide), if_pos rfl] at this
      simp only [Bool.and_eq_true, decide_eq_true_eq] at this
      exact this.1.2.symm
     have HW : Hid (R = bsO (114 :: hexN 16 v.r.toNat)) := by show _ = _; rw [HRW.out]; unfold valW; rw [e, if_neg (by decide), if_neg (by decide), if_neg (by decide), if_pos rfl]
     have HF := hd_ (reftext_any v.r w4 w5 w1)
     rw [hcz] at HF
     have hcat : (⟨#[114]⟩ : ByteArray).size + (bsO (hexN 16 v.r.toNat)).size ≤ 9223372036854775807 := by rw [bsO_size, hexN_length]; decide
     have hnew := bs_cons 114 (hexN 16 v.r.toNat)
     rw [← HW.out] at hnew
     have HN := hd_ hnew
     clear hcz hnew
     generalize bsO (hexN 16 v.r.toNat) = z at HF hcat HN
     go_wp2_with fail
     refine HF.out.mono ?_
     rintro r w8 ⟨rfl, hb⟩
     have hb2 := bt HB1.out hb
     go_wp2_with fail
     go_ret
     exact ⟨by show Ending.returned (.string (_ ++ z)) = _; rw [HN.out], hb2⟩
   · rw [e] at y0
     have HW : Hid (R = bsO (120 :: hexL v.t.data.toList)) := by show _ = _; rw [HRW.out]; unfold valW; rw [e, if_neg (by decide), if_neg (by decide), if_neg (by decide), if_neg (by decide), if_pos rfl]
     have HF := hd_ (refhexT_any v.t (by omega) w1)
     have hcat : (⟨#[120]⟩ : ByteArray).size + (bsO (hexL v.t.data.toList)).size ≤ 9223372036854775807 := by
      rw [bsO_size, hexL_length, len_data]
      show 1 + _ ≤ _
      omega
     have hnew := bs_cons 120 (hexL v.t.data.toList)
     rw [← HW.out] at hnew
     have HN := hd_ hnew
     clear hnew
     generalize bsO (hexL v.t.data.toList) = z at HF hcat HN
     go_wp2_with fail
     refine HF.out.mono ?_
     rintro r w8 ⟨rfl, hb⟩
     have hb2 := bt HB1.out hb
     go_wp2_with fail
     go_ret
     exact ⟨by show Ending.returned (.string (_ ++ z)) = _; rw [HN.out], hb2⟩
   · rw [e] at y0
     have HW : Hid (R = bsO (115 :: hexL v.t.data.toList)) := by show _ = _; rw [HRW.out]; unfold valW; rw [e, if_neg (by decide), if_neg (by decide), if_neg (by decide), if_neg (by decide), if_neg (by decide)]
     have HF := hd_ (refhexT_any v.t (by omega) w1)
     have hcat : (⟨#[115]⟩ : ByteArray).size + (bsO (hexL v.t.data.toList)).size ≤ 9223372036854775807 := by
      rw [bsO_size, hexL_length, len_data]
      show 1 + _ ≤ _
      omega
     have hnew := bs_cons 115 (hexL v.t.data.toList)
     rw [← HW.out] at hnew
     have HN := hd_ hnew
     clear hnew
     generalize bsO (hexL v.t.data.toList) = z at HF hcat HN
     go_wp2_with fail
     refine HF.out.mono ?_
     rintro r w8 ⟨rfl, hb⟩
     have hb2 := bt HB1.out hb
     go_wp2_with fail
     go_ret
     exact ⟨by show Ending.returned (.string (_ ++ z)) = _; rw [HN.out], hb2⟩
 · have HM := hd_ hm
   rw [Bool.eq_false_iff.2 hm]
   clear hm
   go_wp2_with fail
   go_ret
   exact ⟨by rw [← HR.out]; unfold valT; rw [if_neg HM.out]; rfl, HB1.out⟩
end Go.Proofs.YtfekohonidggjaaGreatDoor
