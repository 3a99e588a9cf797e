/- Texts joined by a tool: contracts and walks of this claim. -/
import Derived.Test.YtceoficoappkpaaGreatDoorF2
import Derived.Test.YtceoficoappkpaaGreatDoorF3
import Derived.Test.YtceoficoappkpaaGreatDoorB13
namespace Go.Proofs.YtceoficoappkpaaGreatDoor
open Go.RowKit

set_option maxRecDepth 100000 in
theorem refcolfits_any (c : Co) (v : V) (w : World) (hv : v.wf) (hT : Tabs w) :
  Calls Tryz.prog 66 #[.agg #[.string c.nm, .int .u8 c.k, .bool c.nl], v.agg] w fun r w' => r = .returned (.bool (fitB c v)) ∧ Below w.heap.size w w' := by
 obtain ⟨R, hR⟩ : ∃ q, q = fitB c v := ⟨_, rfl⟩
 rw [← hR]
 have HMY := hd_ (fun (W : World) (hW : Below w.heap.size w W) => may_any v hv W (hT.ext hW))
 unfold fitB at hR
 obtain ⟨cn, ck, cl⟩ := c
 obtain ⟨vk, vn, vr, vt⟩ := v
 unfold V.agg at HMY ⊢
 simp only at hR HMY ⊢
 clear hv hT
 go_enter Tryz.func66, Tryz.ntmps66
 go_upto_region 1 with fail
 have hB0 : Blk ((w.alloc (.cells #[.string cn, .int .u8 ck, .bool cl] 98)).alloc (.cells #[.int .u8 vk, .int .i64 vn, .int .u64 vr, .string vt] 47)) w.heap.size #[.string cn, .int .u8 ck, .bool cl] 98 := (Blk.new w _ _).old _
 have hB1 : Blk ((w.alloc (.cells #[.string cn, .int .u8 ck, .bool cl] 98)).alloc (.cells #[.int .u8 vk, .int .i64 vn, .int .u64 vr, .string vt] 47)) (w.heap.size + 1) #[.int .u8 vk, .int .i64 vn, .int .u64 vr, .string vt] 47 := (by repeat (first | exact Blk.at (by simp) | assumption | refine Blk.drew ?_ | refine Blk.old ?_ _))
 have hC : Below w.heap.size w ((w.alloc (.cells #[.string cn, .int .u8 ck, .bool cl] 98)).alloc (.cells #[.int .u8 vk, .int .i64 vn, .int .u64 vr, .string vt] 47)) := (by repeat (first | exact Below.refl _ _ | assumption | refine Below.drew ?_ | refine below_drewN ?_ _ | refine Below.alloc ?_ (by simp <;> omega) _))
 have HB0 := hd_ hB0
 have HB1 := hd_ hB1
 have HC := hd_ hC
 have z0 := hB1.cell 0
 have z1 := hB1.cell 1
 have z2 := hB1.cell 2
 have z3 := hB1.cell 3
 have l1 := hB1.lt
 simp only [List.getElem?_toArray, List.getElem?_cons_zero, List.getElem?_cons_succ] at z0 z1 z2 z3
 clear hB0 hB1 hC
 generalize (w.alloc (.cells #[.string cn, .int .u8 ck, .bool cl] 98)).alloc (.cells #[.int .u8 vk, .int .i64 vn, .int .u64 vr, .string vt] 47) = Wq at HB0 HB1 HC z0 z1 z2 z3 l1 ⊢
 generalize w.heap.size + 1 = b1 at HB1 z0 z1 z2 z3 l1 ⊢
 go_wp2_with fail
 refine (HMY.out _ HC.out).mono ?_
 rintro r w1 ⟨rfl, hb⟩
 have hB0 := HB0.out.ext hb
 have hB1 := HB1.out.ext hb
 have HC := hd_ (bt HC.out hb)
 clear z0 z1 z2 z3 l1 hb HMY
 have y1 := hB0.cell 1
 have y2 := hB0.cell 2
 have z0 := hB1.cell 0
 have l0 := hB0.lt
 have l1 := hB1.lt
 simp only [List.getElem?_toArray, List.getElem?_cons_zero, List.getElem?_cons_succ] at y1 y2 z0
 clear hB0 hB1 HB0 HB1
 cases hm : mayB ⟨vk, vn, vr, vt⟩
 · rw [hm] at hR
   have HR : Hid (R = false) := hR
   clear hR hm
   go_wp2_with fail
   go_ret
   exact ⟨ret_bool HR.out.symm, HC.out⟩
 · rw [hm] at hR
   by_cases hk : vk = ck
   · subst hk
     have HR : Hid (R = true) := by show _ = _; rw [hR]; simp
     clear hR hm
     go_wp2_with fail
     go_ret
     exact ⟨ret_bool HR.out.symm, HC.out⟩
   · have q1 : (vk == ck) = false := by rw [beq_eq_false_iff_ne]; exact hk
     cases cl
     · have HR : Hid (R = false) := by show _ = _; rw [hR]; simp [hk]
       clear hR hm hk
       go_wp2_with fail
       go_ret
       exact ⟨ret_bool HR.out.symm, HC.out⟩
     · by_cases hk0 : vk = 0
       · have HR : Hid (R = true) := by show _ = _; rw [hR]; simp [hk0]
         have q2 : (vk == 0) = true := by rw [hk0]; rfl
         clear hR hm hk hk0
         go_wp2_with fail
         go_ret
         exact ⟨ret_bool HR.out.symm, HC.out⟩
       · have HR : Hid (R = false) := by show _ = _; rw [hR]; simp [hk, hk0]
         have q2 : (vk == 0) = false := by rw [beq_eq_false_iff_ne]; exact hk0
         clear hR hm hk hk0
         go_wp2_with fail
         go_ret
         exact ⟨ret_bool HR.out.symm, HC.out⟩
end Go.Proofs.YtceoficoappkpaaGreatDoor

namespace Go.Proofs.YtceoficoappkpaaGreatDoor
open Go.RowKit


end Go.Proofs.YtceoficoappkpaaGreatDoor

namespace Go.Proofs.YtceoficoappkpaaGreatDoor
open Go.RowKit

set_option maxRecDepth 100000 in
theorem refhas13_any (ts : List Ta) (A : Option Addr) (c : Nat) (k : Int) (w : World) (ht : TRow w A c ts) :
  Calls Tryz.prog 47 #[.agg #[.slice A ts.length c], .int .i64 k] w fun r w' => r = .returned (.bool (hasS ts k)) ∧ Below w.heap.size w w' := by
 obtain ⟨R, hR⟩ : ∃ q, q = hasS ts k := ⟨_, rfl⟩
 rw [← hR]
 have HMY := hd_ (fun (W : World) (hW : Below w.heap.size w W) => refmay_any ts A c W (ht.ext hW))
 have hlen := ht.2.1
 unfold hasS hasI at hR
 have h0 : Blk (w.alloc (.cells #[.slice A ts.length c] 24)) w.heap.size #[.slice A ts.length c] 24 := Blk.new w #[.slice A ts.length c] 24
 have hC : Below w.heap.size w (w.alloc (.cells #[.slice A ts.length c] 24)) := bel1 _ _
 have HA := hd_ h0
 have HC := hd_ hC
 clear ht h0 hC
 go_enter Tryz.func47, Tryz.ntmps47
 go_wp2_with fail
 refine (HMY.out _ HC.out).mono ?_
 rintro r w1 ⟨rfl, hb⟩
 have hA1 := HA.out.ext hb
 have HC1 := hd_ (bt HC.out hb)
 have s0 := hA1.cell 0
 simp only [List.getElem?_toArray, List.getElem?_cons_zero] at s0
 have l0 := hA1.lt
 clear hb hA1 HA HC HMY
 cases hs : schB ts
 · rw [hs] at hR
   have HR : Hid (R = false) := hR
   clear hR hs
   go_wp2_with fail
   go_ret
   exact ⟨ret_bool HR.out.symm, HC1.out⟩
 · rw [hs, Bool.true_and] at hR
   clear hs
   by_cases h0 : 0 ≤ k
   · by_cases h1 : k < ts.length
     · have HR : Hid (R = true) := by show _ = _; rw [hR]; exact decide_eq_true ⟨h0, h1⟩
       clear hR
       go_wp2_with fail
       go_ret
       exact ⟨ret_bool HR.out.symm, HC1.out⟩
     · have HR : Hid (R = false) := by show _ = _; rw [hR]; exact decide_eq_false (by omega)
       clear hR
       go_wp2_with fail
       go_ret
       exact ⟨ret_bool (by rw [HR.out]; exact decide_eq_false (by omega)), HC1.out⟩
   · have HR : Hid (R = false) := by show _ = _; rw [hR]; exact decide_eq_false (by omega)
     clear hR
     go_wp2_with fail
     go_ret
     exact ⟨ret_bool HR.out.symm, HC1.out⟩
end Go.Proofs.YtceoficoappkpaaGreatDoor

namespace Go.Proofs.YtceoficoappkpaaGreatDoor
open Go.RowKit

set_option maxRecDepth 100000 in
set_option maxHeartbeats 3200000 in
theorem refrow13_any (ts : List Ta) (A B : Option Addr) (c d : Nat) (i : Int) (l : List V) (w : World) (ht : TRow w A c ts) (hr : VRow w B l) (hT : Tabs w) :
  Calls Tryz.prog 28 #[.agg #[.slice A ts.length c], .int .i64 i, .slice B l.length d] w fun r w' => r = .returned (.bool (rowS ts i l)) ∧ Below w.heap.size w w' := by
 have HH := hd_ (fun (W : World) (hW : Below w.heap.size w W) => refhas13_any ts A c i W (ht.ext hW))
 have HF := hd_ (fun (c : Co) (v : V) (W : World) (hW : Below w.heap.size w W) (hv : v.wf) => refcolfits_any c v W hv (hT.ext hW))
 have HT := hd_ ht
 have HVR := hd_ hr
 have hlen := ht.2.1
 have hvl := hr.2.1
 have h0 : Blk (w.alloc (.cells #[.slice A ts.length c] 24)) w.heap.size #[.slice A ts.length c] 24 := Blk.new w #[.slice A ts.length c] 24
 have hC : Below w.heap.size w (w.alloc (.cells #[.slice A ts.length c] 24)) := bel1 _ _
 have HA := hd_ h0
 have HC := hd_ hC
 clear ht hr hT h0 hC
 cases hh : hasS ts i
 · rw [hh] at HH
   have hR := rowS_no (l := l) hh
   rw [hR]
   clear hh hR
   go_enter Tryz.func28, Tryz.ntmps28
   go_wp2_with fail
   refine (HH.out _ HC.out).mono ?_
   rintro r w1 ⟨rfl, hb⟩
   have HC2 := hd_ (bt HC.out hb)
   clear hb
   go_wp2_with fail
   go_ret
   exact ⟨rfl, HC2.out⟩
 · rw [hh] at HH
   obtain ⟨j, t, rfl, hj, htj, hcb, _⟩ := has_at hh
   obtain ⟨R, hR⟩ : ∃ q, q = rowS ts j l := ⟨_, rfl⟩
   rw [← hR]
   rw [rowS_at hh htj] at hR
   have HLEN := hd_ (fun h => hR.trans (rowF_len (cs := t.cs) (l := l) h))
   have HNOT := hd_ (fun (k : Nat) (c : Co) (v : V) (h1 : t.cs[k]? = some c) (h2 : l[k]? = some v) h => hR.trans (rowF_not h1 h2 h))
   have HEND := hd_ (fun h1 h2 => hR.trans (rowF_end (cs := t.cs) (l := l) h1 h2))
   obtain ⟨b, off, u, rfl, hbb, hu, _, _, hcr, c0, c1, c2, c3, c4⟩ := HT.out.at_ hj
   obtain rfl : u = t := Option.some.inj (hu.symm.trans htj)
   have HC1 := hd_ c1
   have HCR := hd_ hcr
   have hcl := hcr.2.1
   obtain ⟨nm, cs, key, ref, par, TA, uc⟩ := u
   simp only at HLEN HNOT HEND HC1 HCR hcl
   have i1 : (j : Int) < ts.length := by omega
   clear hh htj hcb hu hcr c0 c1 c2 c3 c4 hR
   go_enter Tryz.func28, Tryz.ntmps28
   go_wp2_with fail
   refine (HH.out _ HC.out).mono ?_
   rintro r w1 ⟨rfl, hb⟩
   have HA1 := hd_ (HA.out.ext hb)
   have HBW := hd_ (bt HC.out hb)
   have s0 := HA1.out.cell 0
   simp only [List.getElem?_toArray, List.getElem?_cons_zero] at s0
   have l0 := HA1.out.lt
   have c1 := (HBW.out.cell (p := ⟨b, off + j * 5 + 1, none⟩) hbb).trans HC1.out
   clear hb HA HC HH
   by_cases hl : cs.length = l.length
   · have q1 : ((l.length : Int) != (cs.length : Int)) = false := by simp [hl]
     have HLL := hd_ hl
     have hle : cs.length ≤ l.length := by omega
     have hle2 : l.length ≤ cs.length := by omega
     clear hl HLEN
     go_wp2_with fail
     clear q1
     generalize hb0 : w.heap.size = b0 at HA1 ⊢
     have HW0 := hd_ hb0
     clear hb0 s0 l0 c1
     go_loopw [7] (fun v wr => ∃ k : Nat, k ≤ cs.length ∧ v = .int .i64 k ∧ Hid ((List.range k).all (fitAt cs l) = true) ∧ Hid (Blk wr b0 #[.slice (some ⟨b, off, none⟩) ts.length c] 24) ∧ Hid (Below w.heap.size w wr)) (fun v _ => cs.length - (intOf v).toNat)
     case atStart => exact ⟨0, by omega, rfl, (by simp : _ = _), HA1, HBW⟩
     case round =>
      clear HA1 HBW
      obtain ⟨k, hk1, rfl, HS, HA1, HBW⟩ := hrel
      by_cases hlt : k < cs.length
      · obtain ⟨tb, toff, cv, rfl, htb, hck, _, _, e0, e1, e2⟩ := HCR.out.at_ hlt
        obtain ⟨vb, voff, v, rfl, hvb, hvk, _, hvw, d0, d1, d2, d3⟩ := HVR.out.at_ (Nat.lt_of_lt_of_le hlt hle)
        obtain ⟨cn, ck, cl⟩ := cv
        obtain ⟨vk, vn, vr, vt⟩ := v
        have HCK := hd_ hck
        have HVK := hd_ hvk
        have HFX := hd_ (fun (W : World) (hW : Below w.heap.size w W) => HF.out ⟨cn, ck, cl⟩ ⟨vk, vn, vr, vt⟩ W hW hvw)
        simp only at e0 e1 e2 d0 d1 d2 d3
        have HE0 := hd_ e0
        have HE1 := hd_ e1
        have HE2 := hd_ e2
        have HD0 := hd_ d0
        have HD1 := hd_ d1
        have HD2 := hd_ d2
        have HD3 := hd_ d3
        clear hck hvk hvw e0 e1 e2 d0 d1 d2 d3
        unfold V.agg at HFX
        simp only at HFX
        have i2 : (k : Int) < cs.length := by omega
        have i3 : (k : Int) < l.length := by omega
        cases hf : fitB ⟨cn, ck, cl⟩ ⟨vk, vn, vr, vt⟩
        · rw [hf] at HFX
          have HRF : Hid (R = false) := HNOT.out k _ _ HCK.out HVK.out hf
          clear hf
          go_upto_region 6 with fail
          refine region_grow [false, false, false, false, false, false, false, false, false, false, false, false, false, false, false, false, false, false, false, false, false, false, false, false, false, false, false, false, false, false, true, true, true, true, true, true, true, true, true, true, true, true, true, true, true] [30, 31, 32, 33, 34, 35, 36, 37, 38, 39, 40, 41, 42, 43, 44] [.val (.pointer (some ⟨b0, 0, none⟩)), .val (.slice (some ⟨b, off, none⟩) ts.length c), .val (.int .i64 j), .val (.pointer (some ⟨b, off + j * 5, none⟩)), .val (.pointer (some ⟨b, off + j * 5 + 1, none⟩)), .val (.slice (some ⟨tb, toff, none⟩) cs.length uc), .val (.int .i64 k), .val (.pointer (some ⟨tb, toff + k * 3, none⟩)), .val (.agg #[.string cn, .int .u8 ck, .bool cl]), .val (.slice (some ⟨vb, voff, none⟩) l.length d), .val (.int .i64 k), .val (.pointer (some ⟨vb, voff + k * 4, none⟩)), .val (.agg #[.int .u8 vk, .int .i64 vn, .int .u64 vr, .string vt]), .val (.bool false), .val (.bool true)] [14] (by kernel_rfl) (by kernel_rfl) (by kernel_rfl) (by kernel_rfl) (by kernel_rfl) ⟨?_, ?_, ?_, ?_, ?_, ?_, ?_, ?_, ?_, ?_, ?_, ?_, ?_, ?_, ?_, trivial⟩ ?done
          case done =>
           intro x w5 hb5
           simp only [StepGoal, overlay, upd, cond_true, cond_false, List.getD_cons_zero, List.getD_cons_succ, Nat.zero_add, Nat.reduceAdd, Nat.reduceEqDiff, reduceIte]
           go_wp2_with fail
           go_ret
           exact ⟨ret_bool HRF.out.symm, bt HBW.out hb5⟩
          all_goals
           intro x w5 hb5
           intro K hK
           have hA := HA1.out.ext hb5
           have s0 := hA.cell 0
           simp only [List.getElem?_toArray, List.getElem?_cons_zero] at s0
           have l0 := hA.lt
           have HB5 := bt HBW.out hb5
           have c1 := (HB5.cell (p := ⟨b, off + j * 5 + 1, none⟩) hbb).trans HC1.out
           have e0 := (HB5.cell (p := ⟨tb, toff + k * 3, none⟩) htb).trans HE0.out
           have e1 := (HB5.cell (p := ⟨tb, toff + k * 3 + 1, none⟩) htb).trans HE1.out
           have e2 := (HB5.cell (p := ⟨tb, toff + k * 3 + 2, none⟩) htb).trans HE2.out
           have d0 := (HB5.cell (p := ⟨vb, voff + k * 4, none⟩) hvb).trans HD0.out
           have d1 := (HB5.cell (p := ⟨vb, voff + k * 4 + 1, none⟩) hvb).trans HD1.out
           have d2 := (HB5.cell (p := ⟨vb, voff + k * 4 + 2, none⟩) hvb).trans HD2.out
           have d3 := (HB5.cell (p := ⟨vb, voff + k * 4 + 3, none⟩) hvb).trans HD3.out
           rw [if_pos (by rfl)]; simp only [overlay, upd, cond_true, cond_false, List.getD_cons_zero, List.getD_cons_succ, Nat.reduceEqDiff, reduceIte]
           go_simp
           first
            | exact hK.out _ _ (Below.refl _ _) rfl
            | ((with_reducible refine (HFX.out _ HB5).mono ?_); rintro e wa ⟨rfl, hba⟩; go_wp2_with fail; exact hK.out _ _ hba rfl)
        · rw [hf] at HFX
          have HS' := fit_next HCK.out HVK.out hf HS.out
          clear hf
          go_upto_region 6 with fail
          refine region_grow [false, false, false, false, false, false, false, false, false, false, false, false, false, false, false, false, false, false, false, false, false, false, false, false, false, false, false, false, false, false, true, true, true, true, true, true, true, true, true, true, true, true, true, true, true] [30, 31, 32, 33, 34, 35, 36, 37, 38, 39, 40, 41, 42, 43, 44] [.val (.pointer (some ⟨b0, 0, none⟩)), .val (.slice (some ⟨b, off, none⟩) ts.length c), .val (.int .i64 j), .val (.pointer (some ⟨b, off + j * 5, none⟩)), .val (.pointer (some ⟨b, off + j * 5 + 1, none⟩)), .val (.slice (some ⟨tb, toff, none⟩) cs.length uc), .val (.int .i64 k), .val (.pointer (some ⟨tb, toff + k * 3, none⟩)), .val (.agg #[.string cn, .int .u8 ck, .bool cl]), .val (.slice (some ⟨vb, voff, none⟩) l.length d), .val (.int .i64 k), .val (.pointer (some ⟨vb, voff + k * 4, none⟩)), .val (.agg #[.int .u8 vk, .int .i64 vn, .int .u64 vr, .string vt]), .val (.bool true), .val (.bool false)] [14] (by kernel_rfl) (by kernel_rfl) (by kernel_rfl) (by kernel_rfl) (by kernel_rfl) ⟨?_, ?_, ?_, ?_, ?_, ?_, ?_, ?_, ?_, ?_, ?_, ?_, ?_, ?_, ?_, trivial⟩ ?done
          case done =>
           intro x w5 hb5
           simp only [StepGoal, overlay, upd, cond_true, cond_false, List.getD_cons_zero, List.getD_cons_succ, Nat.zero_add, Nat.reduceAdd, Nat.reduceEqDiff, reduceIte]
           go_wp2_with fail
           go_roundw
           case rel => exact ⟨k + 1, by omega, by go_num, HS', HA1.out.ext hb5, bt HBW.out hb5⟩
           case measure => simp [intOf]; omega
          all_goals
           intro x w5 hb5
           intro K hK
           have hA := HA1.out.ext hb5
           have s0 := hA.cell 0
           simp only [List.getElem?_toArray, List.getElem?_cons_zero] at s0
           have l0 := hA.lt
           have HB5 := bt HBW.out hb5
           have c1 := (HB5.cell (p := ⟨b, off + j * 5 + 1, none⟩) hbb).trans HC1.out
           have e0 := (HB5.cell (p := ⟨tb, toff + k * 3, none⟩) htb).trans HE0.out
           have e1 := (HB5.cell (p := ⟨tb, toff + k * 3 + 1, none⟩) htb).trans HE1.out
           have e2 := (HB5.cell (p := ⟨tb, toff + k * 3 + 2, none⟩) htb).trans HE2.out
           have d0 := (HB5.cell (p := ⟨vb, voff + k * 4, none⟩) hvb).trans HD0.out
           have d1 := (HB5.cell (p := ⟨vb, voff + k * 4 + 1, none⟩) hvb).trans HD1.out
           have d2 := (HB5.cell (p := ⟨vb, voff + k * 4 + 2, none⟩) hvb).trans HD2.out
           have d3 := (HB5.cell (p := ⟨vb, voff + k * 4 + 3, none⟩) hvb).trans HD3.out
           rw [if_pos (by rfl)]; simp only [overlay, upd, cond_true, cond_false, List.getD_cons_zero, List.getD_cons_succ, Nat.reduceEqDiff, reduceIte]
           go_simp
           first
            | exact hK.out _ _ (Below.refl _ _) rfl
            | ((with_reducible refine (HFX.out _ HB5).mono ?_); rintro e wa ⟨rfl, hba⟩; go_wp2_with fail; exact hK.out _ _ hba rfl)
      · have hke : k = cs.length := by omega
        have HRT : Hid (R = true) := HEND.out HLL.out (by rw [← hke]; exact HS.out)
        clear hke
        go_wp2_with fail
        go_ret
        exact ⟨ret_bool HRT.out.symm, HBW.out⟩
   · have q1 : ((l.length : Int) != (cs.length : Int)) = true := by rw [bne_iff_ne]; omega
     have HRF : Hid (R = false) := HLEN.out hl
     clear hl
     go_wp2_with fail
     go_ret
     exact ⟨ret_bool HRF.out.symm, HBW.out⟩
set_option maxRecDepth 100000 in
set_option maxHeartbeats 3200000 in
theorem refkey13_any (ts : List Ta) (A : Option Addr) (c : Nat) (k : Int) (v : V) (w : World) (ht : TRow w A c ts) (hv : v.wf) (hT : Tabs w) :
  Calls Tryz.prog 23 #[.agg #[.slice A ts.length c], .int .i64 k, v.agg] w fun r w' => r = .returned (.bool (keyS ts k v)) ∧ Below w.heap.size w w' := by
 have HH := hd_ (fun (W : World) (hW : Below w.heap.size w W) => refhas13_any ts A c k W (ht.ext hW))
 have HF := hd_ (fun (c : Co) (W : World) (hW : Below w.heap.size w W) => refcolfits_any c v W hv (hT.ext hW))
 have HT := hd_ ht
 have hlen := ht.2.1
 obtain ⟨vk, vn, vr, vt⟩ := v
 unfold V.agg at HF ⊢
 simp only at HF ⊢
 have h0 : Blk ((w.alloc (.cells #[.slice A ts.length c] 24)).alloc (.cells #[.int .u8 vk, .int .i64 vn, .int .u64 vr, .string vt] 47)) w.heap.size #[.slice A ts.length c] 24 := (Blk.new w _ _).old _
 have h1 : Blk ((w.alloc (.cells #[.slice A ts.length c] 24)).alloc (.cells #[.int .u8 vk, .int .i64 vn, .int .u64 vr, .string vt] 47)) (w.heap.size + 1) #[.int .u8 vk, .int .i64 vn, .int .u64 vr, .string vt] 47 := (by repeat (first | exact Blk.at (by simp) | assumption | refine Blk.drew ?_ | refine Blk.old ?_ _))
 have hC : Below w.heap.size w ((w.alloc (.cells #[.slice A ts.length c] 24)).alloc (.cells #[.int .u8 vk, .int .i64 vn, .int .u64 vr, .string vt] 47)) := (by repeat (first | exact Below.refl _ _ | assumption | refine Below.drew ?_ | refine below_drewN ?_ _ | refine Below.alloc ?_ (by simp <;> omega) _))
 have HB0 := hd_ h0
 have HB1 := hd_ h1
 have HC := hd_ hC
 clear ht hv hT h0 h1 hC
 cases hh : hasS ts k
 · rw [hh] at HH
   have HR : Hid (keyS ts k ⟨vk, vn, vr, vt⟩ = false) := keyS_no hh
   clear hh HF
   generalize keyS ts k ⟨vk, vn, vr, vt⟩ = R at HR ⊢
   go_enter Tryz.func23, Tryz.ntmps23
   go_upto_region 1 with fail
   generalize (w.alloc (.cells #[.slice A ts.length c] 24)).alloc (.cells #[.int .u8 vk, .int .i64 vn, .int .u64 vr, .string vt] 47) = W0 at HB0 HB1 HC ⊢
   generalize w.heap.size + 1 = b1 at HB1 ⊢
   generalize hb0 : w.heap.size = b0 at HB0 ⊢
   clear hb0
   refine region_grow [false, false, false, false, false, false, true, true, true, true, true, true, true, true, true, true, true, true, true, true, true, true, true, true, true, true, true, true] [7, 8, 9, 10, 11, 12, 13, 14, 15, 16, 17, 18, 19, 20, 21, 22, 23, 24, 25, 26, 27, 6] [.val (.agg #[.slice A ts.length c]), .val (.int .i64 k), .val (.bool false), .val (.bool false), .val undef, .val undef, .val undef, .val undef, .val undef, .val undef, .val undef, .val undef, .val undef, .val undef, .val undef, .val undef, .val undef, .val undef, .val undef, .val undef, .val (.bool false), .val (.bool false)] [21] (by kernel_rfl) (by kernel_rfl) (by kernel_rfl) (by kernel_rfl) (by kernel_rfl) ⟨?_, ?_, ?_, ?_, ?_, ?_, ?_, ?_, ?_, ?_, ?_, ?_, ?_, ?_, ?_, ?_, ?_, ?_, ?_, ?_, ?_, ?_, trivial⟩ ?done
   case done =>
    intro x w5 hb5
    simp only [StepGoal, overlay, upd, cond_true, cond_false, List.getD_cons_zero, List.getD_cons_succ, Nat.zero_add, Nat.reduceAdd, Nat.reduceEqDiff, reduceIte]
    go_wp2_with fail
    go_ret
    exact ⟨ret_bool HR.out.symm, bt HC.out hb5⟩
   all_goals
    intro x w5 hb5
    intro K hK
    have hA := HB0.out.ext hb5
    have hB := HB1.out.ext hb5
    have s0 := hA.cell 0
    have z0 := hB.cell 0
    have z1 := hB.cell 1
    have z2 := hB.cell 2
    have z3 := hB.cell 3
    have l0 := hA.lt
    have l1 := hB.lt
    simp only [List.getElem?_toArray, List.getElem?_cons_zero, List.getElem?_cons_succ] at s0 z0 z1 z2 z3
    first
     | (rw [if_neg (by exact Bool.false_ne_true)]; exact hK.out _ _ (Below.refl _ _) rfl)
     | (rw [if_pos (by rfl)]; simp only [overlay, upd, cond_true, cond_false, List.getD_cons_zero, List.getD_cons_succ, Nat.reduceEqDiff, reduceIte]
        go_simp
        first
         | exact hK.out _ _ (Below.refl _ _) rfl
         | ((with_reducible refine (HH.out _ (bt HC.out hb5)).mono ?_); rintro e wa ⟨rfl, hba⟩; go_wp2_with fail; exact hK.out _ _ hba rfl))
 · rw [hh] at HH
   obtain ⟨j, t, rfl, hj, htj, hcb, _⟩ := has_at hh
   obtain ⟨_, _, _, ⟨k0, k1⟩, _⟩ := cols_parts hcb
   obtain ⟨ke, hke⟩ : ∃ ke : Nat, t.key = ke := ⟨t.key.toNat, by omega⟩
   have hkl : ke < t.cs.length := by omega
   obtain ⟨co, hco⟩ : ∃ co, t.cs[ke]? = some co := ⟨_, List.getElem?_eq_getElem hkl⟩
   have hks := keyS_at (v := ⟨vk, vn, vr, vt⟩) hh htj (c := co) (by rw [hke, Int.toNat_natCast]; exact hco)
   rw [hks]
   have HTJ := hd_ htj
   have HFC := hd_ (fun (W : World) (hW : Below w.heap.size w W) => HF.out co W hW)
   have HT0 := HT.out.at_ hj
   obtain ⟨b, off, u, rfl, hbb, hu, _, _, hcr, c0, c1, c2, c3, c4⟩ := HT0
   obtain rfl : u = t := Option.some.inj (hu.symm.trans HTJ.out)
   rw [hke] at c2
   obtain ⟨tb, toff, cv, hTA, htb, hcv, _, _, e0, e1, e2⟩ := hcr.at_ hkl
   obtain rfl : cv = co := Option.some.inj (hcv.symm.trans hco)
   rw [hTA] at c1
   obtain ⟨cn, ck, cl⟩ := cv
   simp only at e0 e1 e2
   have HC1 := hd_ c1
   have HC2 := hd_ c2
   have HE0 := hd_ e0
   have HE1 := hd_ e1
   have HE2 := hd_ e2
   obtain ⟨n, hn⟩ : ∃ n, n = u.cs.length := ⟨_, rfl⟩
   rw [← hn] at HC1 hkl
   obtain ⟨uc, huc⟩ : ∃ q, q = u.c := ⟨_, rfl⟩
   rw [← huc] at HC1
   have i1 : (j : Int) < ts.length := by omega
   have i2 : (ke : Int) < n := by omega
   obtain ⟨R, hR⟩ : ∃ q, q = fitB ⟨cn, ck, cl⟩ ⟨vk, vn, vr, vt⟩ := ⟨_, rfl⟩
   rw [← hR]
   cases hf : fitB ⟨cn, ck, cl⟩ ⟨vk, vn, vr, vt⟩
   · rw [hf] at HFC hR
     have HR : Hid (R = false) := hR
     clear hh hcb hke hco hks htj hu hcr c0 c1 c2 c3 c4 hcv e0 e1 e2 hf hn huc HF k0 k1 hR
     go_enter Tryz.func23, Tryz.ntmps23
     go_upto_region 1 with fail
     generalize (w.alloc (.cells #[.slice (some ⟨b, off, none⟩) ts.length c] 24)).alloc (.cells #[.int .u8 vk, .int .i64 vn, .int .u64 vr, .string vt] 47) = W0 at HB0 HB1 HC ⊢
     generalize w.heap.size + 1 = b1 at HB1 ⊢
     generalize hb0 : w.heap.size = b0 at HB0 ⊢
     clear hb0
     refine region_grow [false, false, false, false, false, false, true, true, true, true, true, true, true, true, true, true, true, true, true, true, true, true, true, true, true, true, true, true] [7, 8, 9, 10, 11, 12, 13, 14, 15, 16, 17, 18, 19, 20, 21, 22, 23, 24, 25, 26, 27, 6] [.val (.agg #[.slice (some ⟨b, off, none⟩) ts.length c]), .val (.int .i64 j), .val (.bool true), .val (.bool true), .val (.pointer (some ⟨b0, 0, none⟩)), .val (.slice (some ⟨b, off, none⟩) ts.length c), .val (.int .i64 j), .val (.pointer (some ⟨b, off + j * 5, none⟩)), .val (.pointer (some ⟨b, off + j * 5 + 1, none⟩)), .val (.slice (some ⟨tb, toff, none⟩) n uc), .val (.pointer (some ⟨b0, 0, none⟩)), .val (.slice (some ⟨b, off, none⟩) ts.length c), .val (.int .i64 j), .val (.pointer (some ⟨b, off + j * 5, none⟩)), .val (.pointer (some ⟨b, off + j * 5 + 2, none⟩)), .val (.int .i64 ke), .val (.pointer (some ⟨tb, toff + ke * 3, none⟩)), .val (.agg #[.string cn, .int .u8 ck, .bool cl]), .val (.agg #[.int .u8 vk, .int .i64 vn, .int .u64 vr, .string vt]), .val (.bool false), .val (.bool false), .val (.bool false)] [21] (by kernel_rfl) (by kernel_rfl) (by kernel_rfl) (by kernel_rfl) (by kernel_rfl) ⟨?_, ?_, ?_, ?_, ?_, ?_, ?_, ?_, ?_, ?_, ?_, ?_, ?_, ?_, ?_, ?_, ?_, ?_, ?_, ?_, ?_, ?_, trivial⟩ ?done
     case done =>
      intro x w5 hb5
      simp only [StepGoal, overlay, upd, cond_true, cond_false, List.getD_cons_zero, List.getD_cons_succ, Nat.zero_add, Nat.reduceAdd, Nat.reduceEqDiff, reduceIte]
      go_wp2_with fail
      go_ret
      exact ⟨ret_bool HR.out.symm, bt HC.out hb5⟩
     all_goals
      intro x w5 hb5
      intro K hK
      have hA := HB0.out.ext hb5
      have hB := HB1.out.ext hb5
      have s0 := hA.cell 0
      have z0 := hB.cell 0
      have z1 := hB.cell 1
      have z2 := hB.cell 2
      have z3 := hB.cell 3
      have l0 := hA.lt
      have l1 := hB.lt
      simp only [List.getElem?_toArray, List.getElem?_cons_zero, List.getElem?_cons_succ] at s0 z0 z1 z2 z3
      have c1 := ((bt HC.out hb5).cell (p := ⟨b, off + j * 5 + 1, none⟩) hbb).trans HC1.out
      have c2 := ((bt HC.out hb5).cell (p := ⟨b, off + j * 5 + 2, none⟩) hbb).trans HC2.out
      have e0 := ((bt HC.out hb5).cell (p := ⟨tb, toff + ke * 3, none⟩) htb).trans HE0.out
      have e1 := ((bt HC.out hb5).cell (p := ⟨tb, toff + ke * 3 + 1, none⟩) htb).trans HE1.out
      have e2 := ((bt HC.out hb5).cell (p := ⟨tb, toff + ke * 3 + 2, none⟩) htb).trans HE2.out
      first
       | (rw [if_neg (by exact Bool.false_ne_true)]; exact hK.out _ _ (Below.refl _ _) rfl)
       | (rw [if_pos (by rfl)]; simp only [overlay, upd, cond_true, cond_false, List.getD_cons_zero, List.getD_cons_succ, Nat.reduceEqDiff, reduceIte]
          go_simp
          first
           | exact hK.out _ _ (Below.refl _ _) rfl
           | ((with_reducible refine (HH.out _ (bt HC.out hb5)).mono ?_); rintro e wa ⟨rfl, hba⟩; go_wp2_with fail; exact hK.out _ _ hba rfl)
           | ((with_reducible refine (HFC.out _ (bt HC.out hb5)).mono ?_); rintro e wa ⟨rfl, hba⟩; go_wp2_with fail; exact hK.out _ _ hba rfl))
   · rw [hf] at HFC hR
     have HR : Hid (R = true) := hR
     clear hh hcb hke hco hks htj hu hcr c0 c1 c2 c3 c4 hcv e0 e1 e2 hf hn huc HF k0 k1 hR
     go_enter Tryz.func23, Tryz.ntmps23
     go_upto_region 1 with fail
     generalize (w.alloc (.cells #[.slice (some ⟨b, off, none⟩) ts.length c] 24)).alloc (.cells #[.int .u8 vk, .int .i64 vn, .int .u64 vr, .string vt] 47) = W0 at HB0 HB1 HC ⊢
     generalize w.heap.size + 1 = b1 at HB1 ⊢
     generalize hb0 : w.heap.size = b0 at HB0 ⊢
     clear hb0
     refine region_grow [false, false, false, false, false, false, true, true, true, true, true, true, true, true, true, true, true, true, true, true, true, true, true, true, true, true, true, true] [7, 8, 9, 10, 11, 12, 13, 14, 15, 16, 17, 18, 19, 20, 21, 22, 23, 24, 25, 26, 27, 6] [.val (.agg #[.slice (some ⟨b, off, none⟩) ts.length c]), .val (.int .i64 j), .val (.bool true), .val (.bool true), .val (.pointer (some ⟨b0, 0, none⟩)), .val (.slice (some ⟨b, off, none⟩) ts.length c), .val (.int .i64 j), .val (.pointer (some ⟨b, off + j * 5, none⟩)), .val (.pointer (some ⟨b, off + j * 5 + 1, none⟩)), .val (.slice (some ⟨tb, toff, none⟩) n uc), .val (.pointer (some ⟨b0, 0, none⟩)), .val (.slice (some ⟨b, off, none⟩) ts.length c), .val (.int .i64 j), .val (.pointer (some ⟨b, off + j * 5, none⟩)), .val (.pointer (some ⟨b, off + j * 5 + 2, none⟩)), .val (.int .i64 ke), .val (.pointer (some ⟨tb, toff + ke * 3, none⟩)), .val (.agg #[.string cn, .int .u8 ck, .bool cl]), .val (.agg #[.int .u8 vk, .int .i64 vn, .int .u64 vr, .string vt]), .val (.bool true), .val (.bool true), .val (.bool true)] [21] (by kernel_rfl) (by kernel_rfl) (by kernel_rfl) (by kernel_rfl) (by kernel_rfl) ⟨?_, ?_, ?_, ?_, ?_, ?_, ?_, ?_, ?_, ?_, ?_, ?_, ?_, ?_, ?_, ?_, ?_, ?_, ?_, ?_, ?_, ?_, trivial⟩ ?done
     case done =>
      intro x w5 hb5
      simp only [StepGoal, overlay, upd, cond_true, cond_false, List.getD_cons_zero, List.getD_cons_succ, Nat.zero_add, Nat.reduceAdd, Nat.reduceEqDiff, reduceIte]
      go_wp2_with fail
      go_ret
      exact ⟨ret_bool HR.out.symm, bt HC.out hb5⟩
     all_goals
      intro x w5 hb5
      intro K hK
      have hA := HB0.out.ext hb5
      have hB := HB1.out.ext hb5
      have s0 := hA.cell 0
      have z0 := hB.cell 0
      have z1 := hB.cell 1
      have z2 := hB.cell 2
      have z3 := hB.cell 3
      have l0 := hA.lt
      have l1 := hB.lt
      simp only [List.getElem?_toArray, List.getElem?_cons_zero, List.getElem?_cons_succ] at s0 z0 z1 z2 z3
      have c1 := ((bt HC.out hb5).cell (p := ⟨b, off + j * 5 + 1, none⟩) hbb).trans HC1.out
      have c2 := ((bt HC.out hb5).cell (p := ⟨b, off + j * 5 + 2, none⟩) hbb).trans HC2.out
      have e0 := ((bt HC.out hb5).cell (p := ⟨tb, toff + ke * 3, none⟩) htb).trans HE0.out
      have e1 := ((bt HC.out hb5).cell (p := ⟨tb, toff + ke * 3 + 1, none⟩) htb).trans HE1.out
      have e2 := ((bt HC.out hb5).cell (p := ⟨tb, toff + ke * 3 + 2, none⟩) htb).trans HE2.out
      first
       | (rw [if_neg (by exact Bool.false_ne_true)]; exact hK.out _ _ (Below.refl _ _) rfl)
       | (rw [if_pos (by rfl)]; simp only [overlay, upd, cond_true, cond_false, List.getD_cons_zero, List.getD_cons_succ, Nat.reduceEqDiff, reduceIte]
          go_simp
          first
           | exact hK.out _ _ (Below.refl _ _) rfl
           | ((with_reducible refine (HH.out _ (bt HC.out hb5)).mono ?_); rintro e wa ⟨rfl, hba⟩; go_wp2_with fail; exact hK.out _ _ hba rfl)
           | ((with_reducible refine (HFC.out _ (bt HC.out hb5)).mono ?_); rintro e wa ⟨rfl, hba⟩; go_wp2_with fail; exact hK.out _ _ hba rfl))
end Go.Proofs.YtceoficoappkpaaGreatDoor

namespace Go.Proofs.YtceoficoappkpaaGreatDoor
open Go.RowKit

end Go.Proofs.YtceoficoappkpaaGreatDoor
