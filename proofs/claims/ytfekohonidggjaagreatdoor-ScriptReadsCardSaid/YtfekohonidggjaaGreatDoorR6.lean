/- Joined texts. -/
import Derived.Test.YtfekohonidggjaaGreatDoorR5
namespace Go.Proofs.YtfekohonidggjaaGreatDoor
open Go.RowKit
set_option maxRecDepth 100000
set_option maxHeartbeats 6400000
theorem refhead_1 (st : Ls) (hn : st.n = 1) (hI : HdI st) (s : ByteArray) (hs : s.size ≤ 1000000) (A : Option Addr) (nT kT : Nat) (c : Value) (N b : Nat) (w : World) (hB : Blk w b (rdArr (.slice A nT kT) c st N) 91) :
  Calls Tryz.prog 91 #[.pointer (some ⟨b, 0, none⟩), .int .i64 1, .string s] w (HeadR st s.data.toList (.slice A nT kT) c N b w) := by
 have HWD := hd_ (refwords_any s (by omega) w)
 have HR0 : Hid (Blk w b #[.slice A nT kT, .int .i64 st.seg, .int .i64 st.bd, .int .i64 st.r0, .int .i64 st.r1, .int .i64 st.r2, c, .int .i64 N, .bool st.acts] 91) := hB
 have hbl := hB.lt
 have HIN := hd_ hI
 clear hB hI
 go_enter Tryz.func91, Tryz.ntmps91
 go_wp2_with fail
 refine HWD.out.mono ?_
 rintro r w1 ⟨hr, hb1⟩
 have HB1 := hd_ hb1
 have HR1 := hd_ (HR0.out.ext hb1)
 clear hb1 HR0 HWD
 rcases hr with ⟨ws, sv, hws, rfl, hown⟩ | ⟨sv, hws, rfl⟩
 · obtain ⟨hne, _, hjn⟩ := wordsF_some.1 hws
   have hsl : s.data.toList.length = s.size := by simp
   have hlw : ws.length ≤ 1000001 := by
    have := jn_ge 32 ws
    rw [hjn] at this
    omega
   obtain ⟨x0, wr, rfl⟩ : ∃ x rest, ws = x :: rest := by
    cases ws with
    | nil => exact absurd rfl hne
    | cons x rest => exact ⟨x, rest, rfl⟩
   obtain ⟨g, cap, rfl, hgb, hglt⟩ := hown.form (by simp)
   have hwr : WRo w1 g (x0 :: wr) := ⟨hglt, fun j y hj => by
    have hc := hown.cells (g := g) rfl j (.string (bsO y)) (by unfold wsC; rw [List.getElem?_map, hj]; rfl)
    rw [addr_addS, Nat.zero_add] at hc
    exact hc⟩
   have HW1 := hd_ hwr
   have HWF := hd_ hws
   have HGB : Hid (g ≠ b) := by show _ ≠ _; omega
   have HHN := hd_ (fun hx => headF_name (st := st) hws (by omega) hx)
   rw [hn] at HHN
   clear hown hne hjn hwr hws hsl
   simp only [List.length_cons] at hlw ⊢
   go_upto_region 2 with fail
   go_cut [47] (fun v wx => ∃ bad : Bool, v = .bool bad ∧ (bad = true → headF st s.data.toList = none) ∧ (bad = false → x0 = hdN 1 ∧ (x0 :: wr).length = hdK 1) ∧ Hid (Blk wx b #[.slice A nT kT, .int .i64 st.seg, .int .i64 st.bd, .int .i64 st.r0, .int .i64 st.r1, .int .i64 st.r2, c, .int .i64 N, .bool st.acts] 91) ∧ Hid (WRo wx g (x0 :: wr)) ∧ Hid (Below w.heap.size w wx))
   case first =>
    by_cases hcn : (x0 :: wr).length = hdK 1
    · have HCN := hd_ hcn
      have hcB : ((wr.length : Int) + 1 != 2) = false := by
       have hcL : wr.length = 1 := by simpa [hdK] using hcn
       rw [hcL]
       decide
      have hcE : ((wr.length : Int) + 1 == 2) = true := by
       have hcL : wr.length = 1 := by simpa [hdK] using hcn
       rw [hcL]
       decide
      clear hcn
      obtain ⟨bn, hbn⟩ : ∃ bn, bn = !decide (x0 = hdN 1) := ⟨_, rfl⟩
      have hcmp : ((bsO x0).toList == (bsO (hdN 1)).toList) = !bn := by rw [str_eqb, hbn]; simp
      have HBT : Hid (bn = true → headF st s.data.toList = none) := fun e => HHN.out (fun h => by rw [hbn, h.1] at e; simp at e)
      have HBF : Hid (bn = false → x0 = hdN 1 ∧ (x0 :: wr).length = hdK 1) := fun e => ⟨by rw [hbn] at e; simpa using e, HCN.out⟩
      clear hbn
      refine region_grow mHd [18, 19, 20, 21, 22, 23, 24, 25, 26, 27, 28, 29, 30, 31, 32, 33, 34, 35, 36, 37, 38, 39, 40, 41, 42, 43, 44, 45, 46, 47] [.val (.bool true), .val (.bool false), .val (.bool false), .val (.int .i64 1), .val (.bool true), .val (.bool true), .val (.slice (some ⟨g, 0, none⟩) (wr.length + 1) cap), .val (.int .i64 ((wr.length + 1 : Nat) : Int)), .val (.bool false), .val (.bool false), .val (.bool false), .val (.bool false), .val (.int .i64 1), .val (.bool false), .val (.bool false), kU, kU, kU, .val (.bool false), .val (.bool false), .val (.bool false), .val (.slice (some ⟨g, 0, none⟩) (wr.length + 1) cap), .val (.pointer (some ⟨g, 0, none⟩)), .val (.string (bsO x0)), .new (fun g => .slice (some ⟨g, 0, none⟩) 3 3) namesC 9, .val (.int .i64 1), kNmAt 1, .val (.string (bsO (hdN 1))), .val (.bool bn), .val (.bool bn)] [29] (by kernel_rfl) (by kernel_rfl) (by kernel_rfl) (by kernel_rfl) (by kernel_rfl) ⟨?_, ?_, ?_, ?_, ?_, ?_, ?_, ?_, ?_, ?_, ?_, ?_, ?_, ?_, ?_, ?_, ?_, ?_, ?_, ?_, ?_, ?_, ?_, ?_, ?_, ?_, ?_, ?_, ?_, ?_, trivial⟩ ?done
      case done =>
       intro z w2 hb2
       simp only [StepGoal, overlay, upd, k_1, k_2, k_3, k_4, Nat.zero_add, Nat.reduceAdd, Nat.reduceEqDiff, reduceIte]
       have HX := hd_ (bt HB1.out hb2)
       have HY := hd_ (HR1.out.ext hb2)
       have HW := hd_ (HW1.out.ext hb2)
       clear hb2
       go_wp2_with fail
       go_meet
       exact ⟨bn, rfl, HBT.out, HBF.out, HY, HW, HX⟩
      all_goals
       intro z w2 hb2
       have e0 := (HW1.out.ext hb2).2 0 x0 rfl
       have gl := (HW1.out.ext hb2).1
       have h01 : (0 : Int) < (wr.length : Int) + 1 := by omega
       first
        | (intro K hK
           rw [if_pos (by rfl)]; simp only [overlay, upd, k_1, k_2, k_3, k_4, Nat.reduceEqDiff, reduceIte]
           go_simp
           first
            | exact hK.out _ _ (Below.refl _ _) rfl
            | exact hK.out _ _ (bel1 _ _) ⟨_, rfl, Blk.new _ _ _⟩)
        | (intro K hK
           rw [if_neg (by intro e; cases e)]
           exact hK.out undef _ (Below.refl _ _) rfl)
        | (intro bq hq K hK
           have hlt := hq.lt
           rw [if_pos (by rfl)]; simp only [overlay, upd, k_1, k_2, k_3, k_4, Nat.reduceEqDiff, reduceIte]
           go_simp
           exact hK.out _ _ (Below.refl _ _) ⟨_, rfl, hq⟩)
        | (rintro v ⟨g2, rfl, hg2⟩ K hK
           have hce := names_cell hg2 (show 1 < 3 by omega)
           have hlt := hg2.lt
           rw [if_pos (by rfl)]; simp only [overlay, upd, k_1, k_2, k_3, k_4, Nat.reduceEqDiff, reduceIte]
           go_simp
           exact hK.out _ _ (Below.refl _ _) rfl)
    · have hcI : ¬ ((wr.length : Int) + 1 = 2) := by simp [hdK] at hcn; omega
      have hcB : ((wr.length : Int) + 1 != 2) = true := by simpa using hcI
      have hcE : ((wr.length : Int) + 1 == 2) = false := by simpa using hcI
      have HN : Hid (headF st s.data.toList = none) := HHN.out (fun e => hcn e.2)
      refine region_grow mHd [18, 19, 20, 21, 22, 23, 24, 25, 26, 27, 28, 29, 30, 31, 32, 33, 34, 35, 36, 37, 38, 39, 40, 41, 42, 43, 44, 45, 46, 47] [.val (.bool true), .val (.bool false), .val (.bool false), .val (.int .i64 1), .val (.bool true), .val (.bool true), .val (.slice (some ⟨g, 0, none⟩) (wr.length + 1) cap), .val (.int .i64 ((wr.length + 1 : Nat) : Int)), .val (.bool true), .val (.bool true), .val (.bool true), .val (.bool true), kU, kU, kU, kU, kU, kU, kU, .val (.bool true), .val (.bool true), kU, kU, kU, kU, kU, kU, kU, kU, .val (.bool true)] [29] (by kernel_rfl) (by kernel_rfl) (by kernel_rfl) (by kernel_rfl) (by kernel_rfl) ⟨?_, ?_, ?_, ?_, ?_, ?_, ?_, ?_, ?_, ?_, ?_, ?_, ?_, ?_, ?_, ?_, ?_, ?_, ?_, ?_, ?_, ?_, ?_, ?_, ?_, ?_, ?_, ?_, ?_, ?_, trivial⟩ ?done
      case done =>
       intro z w2 hb2
       simp only [StepGoal, overlay, upd, k_1, k_2, k_3, k_4, Nat.zero_add, Nat.reduceAdd, Nat.reduceEqDiff, reduceIte]
       have HX := hd_ (bt HB1.out hb2)
       have HY := hd_ (HR1.out.ext hb2)
       have HW := hd_ (HW1.out.ext hb2)
       clear hb2
       go_wp2_with fail
       go_meet
       exact ⟨true, rfl, (fun _ => HN.out), (fun e => nomatch e), HY, HW, HX⟩
      all_goals
       intro z w2 hb2
       have e0 := (HW1.out.ext hb2).2 0 x0 rfl
       have gl := (HW1.out.ext hb2).1
       have h01 : (0 : Int) < (wr.length : Int) + 1 := by omega
       first
        | (intro K hK
           rw [if_pos (by rfl)]; simp only [overlay, upd, k_1, k_2, k_3, k_4, Nat.reduceEqDiff, reduceIte]
           go_simp
           first
            | exact hK.out _ _ (Below.refl _ _) rfl
            | exact hK.out _ _ (bel1 _ _) ⟨_, rfl, Blk.new _ _ _⟩)
        | (intro K hK
           rw [if_neg (by intro e; cases e)]
           exact hK.out undef _ (Below.refl _ _) rfl)
        | (intro bq hq K hK
           have hlt := hq.lt
           rw [if_pos (by rfl)]; simp only [overlay, upd, k_1, k_2, k_3, k_4, Nat.reduceEqDiff, reduceIte]
           go_simp
           exact hK.out _ _ (Below.refl _ _) ⟨_, rfl, hq⟩)
        | (rintro v ⟨g2, rfl, hg2⟩ K hK
           have hce := names_cell hg2 (show 1 < 3 by omega)
           have hlt := hg2.lt
           rw [if_pos (by rfl)]; simp only [overlay, upd, k_1, k_2, k_3, k_4, Nat.reduceEqDiff, reduceIte]
           go_simp
           exact hK.out _ _ (Below.refl _ _) rfl)
   case rest =>
    obtain ⟨bad, rfl, hbad, hgood, HY, HW, HXb⟩ := hcut
    cases bad with
    | true =>
     have HN := hd_ (hbad rfl)
     clear hbad hgood
     go_wp2_with fail
     go_ret
     exact Or.inr ⟨HN.out, rfl, gr_below HXb.out, st, HY.out⟩
    | false =>
     obtain ⟨hx0, hcn⟩ := hgood rfl
     clear hbad hgood
     obtain ⟨x1, rfl⟩ : ∃ x1, wr = [x1] := by
      rcases wr with _ | ⟨x1, _ | ⟨x2, wr⟩⟩
      · simp [hdK] at hcn
      · exact ⟨x1, rfl⟩
      · simp [hdK] at hcn
     have HR := hd_ (headF_bd (x := x1) (by rw [HWF.out, hx0]; rfl) hn)
     clear hcn hx0 HR1 HW1 HB1 HWF HHN
     simp only [List.length_cons, List.length_nil, Nat.zero_add, Nat.reduceAdd]
     have HX : Hid (w.grownBy wc (some b)) := gr_below HXb.out
     clear HXb
     obtain ⟨WS, hWS⟩ : ∃ WS, WS = x0 :: [x1] := ⟨_, rfl⟩
     have HNB := hd_ (fun (t : List UInt8) (W : World) => refnumber_any (bsO t) W)
     rw [← hWS] at HW
     have HWS := hd_ hWS
     go_wp2_with fail
     refine wp_loop_rounds 2 ?_
     rw [rounds_succ]
     have e1 := HW.out.2 1 x1 (by rw [HWS.out]; rfl)
     have gl := HW.out.1
     go_wp2_with fail
     clear e1 gl
     refine (HNB.out x1 _).mono ?_
     rintro r w1a ⟨⟨v, hxv, hor⟩, hb⟩
     have HW1 := hd_ (HW.out.ext hb)
     have HY1 := hd_ (HY.out.ext hb)
     have HX1 := hd_ (gr_trans HX.out (gr_below (row := some b) hb))
     clear hb HW HY HX
     have hor : (longZ x1 = some v ∧ _) ∨ (longZ x1 = none ∧ _) := hor
     rcases hor with ⟨hzv, rfl⟩ | ⟨hzv, rfl⟩
     case inr =>
      have HN : Hid (headF st s.data.toList = none) := by
       show _ = _
       rw [HR.out, hzv]
      clear hzv hxv
      go_wp2_with fail
      go_ret
      exact Or.inr ⟨HN.out, rfl, HX1.out, st, HY1.out⟩
     have HZv := hd_ hzv
     have HIv := hd_ hxv
     clear hzv hxv
     have hy1 : Blk w1a b #[.slice A nT kT, .int .i64 st.seg, .int .i64 st.bd, .int .i64 st.r0, .int .i64 st.r1, .int .i64 st.r2, c, .int .i64 N, .bool st.acts] 91 := HY1.out
     obtain ⟨w1b, rfl, lt⟩ := blk_put hy1
     obtain ⟨pc, pf, pS⟩ := putBlk_facts (w := w1b) 91 lt
     have HY := hd_ (putBlk_blk (w := w1b) (b := b) #[.slice A nT kT, .int .i64 st.seg, .int .i64 v, .int .i64 st.r0, .int .i64 st.r1, .int .i64 st.r2, c, .int .i64 N, .bool st.acts] 91 lt)
     have HX := hd_ (gr_trans HX1.out (gr_put w1b b #[.slice A nT kT, .int .i64 st.seg, .int .i64 st.bd, .int .i64 st.r0, .int .i64 st.r1, .int .i64 st.r2, c, .int .i64 N, .bool st.acts] #[.slice A nT kT, .int .i64 st.seg, .int .i64 v, .int .i64 st.r0, .int .i64 st.r1, .int .i64 st.r2, c, .int .i64 N, .bool st.acts] 91))
     have HW : Hid (WRo (putBlk w1b b #[.slice A nT kT, .int .i64 st.seg, .int .i64 v, .int .i64 st.r0, .int .i64 st.r1, .int .i64 st.r2, c, .int .i64 N, .bool st.acts] 91) g WS) := ⟨by have := HW1.out.1; rw [putBlk_size] at this ⊢; exact this, fun j y hj => (putBlk_cell_ne HGB.out _ _ _ _).trans (HW1.out.2 j y hj)⟩
     clear hy1 HY1 HX1 HW1
     go_wp2_with fail
     clear pc pf pS lt
     generalize putBlk w1b b #[.slice A nT kT, .int .i64 st.seg, .int .i64 v, .int .i64 st.r0, .int .i64 st.r1, .int .i64 st.r2, c, .int .i64 N, .bool st.acts] 91 = w1c at HY HX HW ⊢
     rw [rounds_succ]
     obtain ⟨bl, y0, y1, y2, y3, y4, y5, y6, y7, y8⟩ := blk9 HY.out
     have hbn : Below w1c.heap.size w1c (w1c.alloc (.cells #[.slice A nT kT, .int .i64 st.seg, .int .i64 v, .int .i64 st.r0, .int .i64 st.r1, .int .i64 st.r2] 27)) := bel1 _ _
     have HY4 := hd_ (HY.out.ext hbn)
     have HXL := hd_ HX.out
     have HBL := hd_ hbn
     have HC4 := hd_ (Blk.new w1c #[.slice A nT kT, .int .i64 st.seg, .int .i64 v, .int .i64 st.r0, .int .i64 st.r1, .int .i64 st.r2] 27)
     have hxc : b ≠ w1c.heap.size := by omega
     clear hbn HX HY HW HNB
     go_upto_region 17 with fail
     clear bl y0 y1 y2 y3 y4 y5 y6 y7 y8
     generalize w1c.alloc (.cells #[.slice A nT kT, .int .i64 st.seg, .int .i64 v, .int .i64 st.r0, .int .i64 st.r1, .int .i64 st.r2] 27) = w5 at HY4 HBL HC4 ⊢
     obtain ⟨xc, hxe⟩ : ∃ xc, xc = w1c.heap.size := ⟨_, rfl⟩
     rw [← hxe] at hxc HC4 ⊢
     have hxl : w1c.heap.size ≤ xc := by omega
     clear hxe
     go_wp2_with fail
     refine (refone_any _).mono ?_
     rintro r w6 ⟨⟨g1, t1, rfl, hT1, hs1⟩, hb6⟩
     have hy6 := HY4.out.ext hb6
     have hl5 := HC4.out.lt
     have hc6 := HC4.out.ext hb6
     have hb6' := bt HBL.out hb6
     obtain ⟨w7, rfl, lt⟩ := blk_put hc6
     obtain ⟨pc, pf, pS⟩ := putBlk_facts (w := w7) 27 lt
     have HYF := hd_ (putBlk_old hy6 hxc #[.slice (some ⟨g1, 0, none⟩) 1 1, .int .i64 st.seg, .int .i64 v, .int .i64 st.r0, .int .i64 st.r1, .int .i64 st.r2])
     have HBF := hd_ (putBlk_belows hb6' hxl #[.slice (some ⟨g1, 0, none⟩) 1 1, .int .i64 st.seg, .int .i64 v, .int .i64 st.r0, .int .i64 st.r1, .int .i64 st.r2])
     have HCF := hd_ (putBlk_blk (w := w7) (b := xc) #[.slice (some ⟨g1, 0, none⟩) 1 1, .int .i64 st.seg, .int .i64 v, .int .i64 st.r0, .int .i64 st.r1, .int .i64 st.r2] 27 lt)
     have HTF := hd_ (hT1 (putBlk w7 xc #[.slice (some ⟨g1, 0, none⟩) 1 1, .int .i64 st.seg, .int .i64 v, .int .i64 st.r0, .int .i64 st.r1, .int .i64 st.r2] 27) (Since.put hl5 #[.slice (some ⟨g1, 0, none⟩) 1 1, .int .i64 st.seg, .int .i64 v, .int .i64 st.r0, .int .i64 st.r1, .int .i64 st.r2]))
     have HS1 := hd_ hs1
     clear hy6 hc6 hb6 hb6' hT1 hs1 hl5 HY4 HC4 HBL
     go_upto_region 20 with fail
     clear pc pf pS lt
     generalize putBlk w7 xc #[.slice (some ⟨g1, 0, none⟩) 1 1, .int .i64 st.seg, .int .i64 v, .int .i64 st.r0, .int .i64 st.r1, .int .i64 st.r2] 27 = w8 at HYF HBF HCF HTF ⊢
     obtain ⟨d9, d0, d1, d2, d3, d4, d5⟩ := blk6 HCF.out
     have HMY := hd_ (refconf_any st.seg v st.r0 st.r1 st.r2 [t1] (some ⟨g1, 0, none⟩) 1 w8 HTF.out)
     obtain ⟨tst, htst⟩ : ∃ q, q = (bdB v) := ⟨_, rfl⟩
     rw [show confB ⟨st.seg, v, st.r0, st.r1, st.r2, [t1]⟩ = tst by
      obtain ⟨i1, i2, i3⟩ := HIN.out
      rw [htst]
      obtain ⟨j0, j1, j2⟩ := i3 (by omega)
      simp [confB, rmB, HS1.out, i1 (by omega), j0, j1, j2]] at HMY
     unfold Cf.agg at HMY
     simp only [List.length_singleton] at HMY
     have HTS := hd_ htst
     clear htst
     go_wp2_with fail
     refine HMY.out.mono ?_
     rintro r w9 ⟨rfl, hb9⟩
     have HXZ := hd_ (gr_trans HXL.out (gr_below (row := some b) (bt HBF.out hb9)))
     have HYZ := hd_ (HYF.out.ext hb9)
     clear hb9 d9 d0 d1 d2 d3 d4 d5 HMY
     go_wp2_with fail
     go_ret
     cases tst with
     | true => exact Or.inl ⟨{ st with bd := v, n := 2 }, by have h := HTS.out; rw [HR.out, HZv.out]; simp only; rw [if_pos h.symm], rfl, HXZ.out, HYZ.out⟩
     | false => exact Or.inr ⟨by have h := HTS.out; rw [HR.out, HZv.out]; simp only; rw [if_neg (by rw [← h]; simp)], rfl, HXZ.out, { st with bd := v }, HYZ.out⟩
 · have HN : Hid (headF st s.data.toList = none) := by show _ = _; unfold headF; rw [hws]
   clear hws
   go_upto_region 2 with fail
   refine region_grow mHd [18, 19, 20, 21, 22, 23, 24, 25, 26, 27, 28, 29, 30, 31, 32, 33, 34, 35, 36, 37, 38, 39, 40, 41, 42, 43, 44, 45, 46, 47] [.val (.bool false), .val (.bool true), .val (.bool true), kU, kU, kU, kU, kU, kU, kU, .val (.bool true), .val (.bool true), kU, kU, kU, kU, kU, kU, kU, .val (.bool true), .val (.bool true), kU, kU, kU, kU, kU, kU, kU, kU, .val (.bool true)] [29] (by kernel_rfl) (by kernel_rfl) (by kernel_rfl) (by kernel_rfl) (by kernel_rfl) ⟨?_, ?_, ?_, ?_, ?_, ?_, ?_, ?_, ?_, ?_, ?_, ?_, ?_, ?_, ?_, ?_, ?_, ?_, ?_, ?_, ?_, ?_, ?_, ?_, ?_, ?_, ?_, ?_, ?_, ?_, trivial⟩ ?done
   case done =>
    intro z w2 hb2
    simp only [StepGoal, overlay, upd, k_1, k_2, k_3, k_4, Nat.zero_add, Nat.reduceAdd, Nat.reduceEqDiff, reduceIte]
    have HX := hd_ (bt HB1.out hb2)
    have HY := hd_ (HR1.out.ext hb2)
    clear hb2 HB1 HR1
    go_wp2_with fail
    go_ret
    exact Or.inr ⟨HN.out, rfl, gr_below HX.out, st, HY.out⟩
   all_goals
    intro z w2 hb2
    first
     | (intro K hK
        rw [if_pos (by rfl)]; simp only [overlay, upd, k_1, k_2, k_3, k_4, Nat.reduceEqDiff, reduceIte]
        go_simp
        exact hK.out _ _ (Below.refl _ _) rfl)
     | (intro K hK
        rw [if_neg (by intro e; cases e)]
        exact hK.out undef _ (Below.refl _ _) rfl)
theorem refhead_2 (st : Ls) (hn : st.n = 2) (hI : HdI st) (s : ByteArray) (hs : s.size ≤ 1000000) (A : Option Addr) (nT kT : Nat) (c : Value) (N b : Nat) (w : World) (hB : Blk w b (rdArr (.slice A nT kT) c st N) 91) :
  Calls Tryz.prog 91 #[.pointer (some ⟨b, 0, none⟩), .int .i64 2, .string s] w (HeadR st s.data.toList (.slice A nT kT) c N b w) := by
 have HWD := hd_ (refwords_any s (by omega) w)
 have HR0 : Hid (Blk w b #[.slice A nT kT, .int .i64 st.seg, .int .i64 st.bd, .int .i64 st.r0, .int .i64 st.r1, .int .i64 st.r2, c, .int .i64 N, .bool st.acts] 91) := hB
 have hbl := hB.lt
 have HIN := hd_ hI
 clear hB hI
 go_enter Tryz.func91, Tryz.ntmps91
 go_wp2_with fail
 refine HWD.out.mono ?_
 rintro r w1 ⟨hr, hb1⟩
 have HB1 := hd_ hb1
 have HR1 := hd_ (HR0.out.ext hb1)
 clear hb1 HR0 HWD
 rcases hr with ⟨ws, sv, hws, rfl, hown⟩ | ⟨sv, hws, rfl⟩
 · obtain ⟨hne, _, hjn⟩ := wordsF_some.1 hws
   have hsl : s.data.toList.length = s.size := by simp
   have hlw : ws.length ≤ 1000001 := by
    have := jn_ge 32 ws
    rw [hjn] at this
    omega
   obtain ⟨x0, wr, rfl⟩ : ∃ x rest, ws = x :: rest := by
    cases ws with
    | nil => exact absurd rfl hne
    | cons x rest => exact ⟨x, rest, rfl⟩
   obtain ⟨g, cap, rfl, hgb, hglt⟩ := hown.form (by simp)
   have hwr : WRo w1 g (x0 :: wr) := ⟨hglt, fun j y hj => by
    have hc := hown.cells (g := g) rfl j (.string (bsO y)) (by unfold wsC; rw [List.getElem?_map, hj]; rfl)
    rw [addr_addS, Nat.zero_add] at hc
    exact hc⟩
   have HW1 := hd_ hwr
   have HWF := hd_ hws
   have HGB : Hid (g ≠ b) := by show _ ≠ _; omega
   have HHN := hd_ (fun hx => headF_name (st := st) hws (by omega) hx)
   rw [hn] at HHN
   clear hown hne hjn hwr hws hsl
   simp only [List.length_cons] at hlw ⊢
   go_upto_region 2 with fail
   go_cut [47] (fun v wx => ∃ bad : Bool, v = .bool bad ∧ (bad = true → headF st s.data.toList = none) ∧ (bad = false → x0 = hdN 2 ∧ (x0 :: wr).length = hdK 2) ∧ Hid (Blk wx b #[.slice A nT kT, .int .i64 st.seg, .int .i64 st.bd, .int .i64 st.r0, .int .i64 st.r1, .int .i64 st.r2, c, .int .i64 N, .bool st.acts] 91) ∧ Hid (WRo wx g (x0 :: wr)) ∧ Hid (Below w.heap.size w wx))
   case first =>
    by_cases hcn : (x0 :: wr).length = hdK 2
    · have HCN := hd_ hcn
      have hcB : ((wr.length : Int) + 1 != 4) = false := by
       have hcL : wr.length = 3 := by simpa [hdK] using hcn
       rw [hcL]
       decide
      have hcE : ((wr.length : Int) + 1 == 4) = true := by
       have hcL : wr.length = 3 := by simpa [hdK] using hcn
       rw [hcL]
       decide
      clear hcn
      obtain ⟨bn, hbn⟩ : ∃ bn, bn = !decide (x0 = hdN 2) := ⟨_, rfl⟩
      have hcmp : ((bsO x0).toList == (bsO (hdN 2)).toList) = !bn := by rw [str_eqb, hbn]; simp
      have HBT : Hid (bn = true → headF st s.data.toList = none) := fun e => HHN.out (fun h => by rw [hbn, h.1] at e; simp at e)
      have HBF : Hid (bn = false → x0 = hdN 2 ∧ (x0 :: wr).length = hdK 2) := fun e => ⟨by rw [hbn] at e; simpa using e, HCN.out⟩
      clear hbn
      refine region_grow mHd [18, 19, 20, 21, 22, 23, 24, 25, 26, 27, 28, 29, 30, 31, 32, 33, 34, 35, 36, 37, 38, 39, 40, 41, 42, 43, 44, 45, 46, 47] [.val (.bool true), .val (.bool false), .val (.bool false), .val (.int .i64 2), .val (.bool false), .val (.bool false), kU, kU, kU, .val (.bool false), .val (.bool false), .val (.bool false), .val (.int .i64 2), .val (.bool true), .val (.bool true), .val (.slice (some ⟨g, 0, none⟩) (wr.length + 1) cap), .val (.int .i64 ((wr.length + 1 : Nat) : Int)), .val (.bool false), .val (.bool false), .val (.bool false), .val (.bool false), .val (.slice (some ⟨g, 0, none⟩) (wr.length + 1) cap), .val (.pointer (some ⟨g, 0, none⟩)), .val (.string (bsO x0)), .new (fun g => .slice (some ⟨g, 0, none⟩) 3 3) namesC 9, .val (.int .i64 2), kNmAt 2, .val (.string (bsO (hdN 2))), .val (.bool bn), .val (.bool bn)] [29] (by kernel_rfl) (by kernel_rfl) (by kernel_rfl) (by kernel_rfl) (by kernel_rfl) ⟨?_, ?_, ?_, ?_, ?_, ?_, ?_, ?_, ?_, ?_, ?_, ?_, ?_, ?_, ?_, ?_, ?_, ?_, ?_, ?_, ?_, ?_, ?_, ?_, ?_, ?_, ?_, ?_, ?_, ?_, trivial⟩ ?done
      case done =>
       intro z w2 hb2
       simp only [StepGoal, overlay, upd, k_1, k_2, k_3, k_4, Nat.zero_add, Nat.reduceAdd, Nat.reduceEqDiff, reduceIte]
       have HX := hd_ (bt HB1.out hb2)
       have HY := hd_ (HR1.out.ext hb2)
       have HW := hd_ (HW1.out.ext hb2)
       clear hb2
       go_wp2_with fail
       go_meet
       exact ⟨bn, rfl, HBT.out, HBF.out, HY, HW, HX⟩
      all_goals
       intro z w2 hb2
       have e0 := (HW1.out.ext hb2).2 0 x0 rfl
       have gl := (HW1.out.ext hb2).1
       have h01 : (0 : Int) < (wr.length : Int) + 1 := by omega
       first
        | (intro K hK
           rw [if_pos (by rfl)]; simp only [overlay, upd, k_1, k_2, k_3, k_4, Nat.reduceEqDiff, reduceIte]
           go_simp
           first
            | exact hK.out _ _ (Below.refl _ _) rfl
            | exact hK.out _ _ (bel1 _ _) ⟨_, rfl, Blk.new _ _ _⟩)
        | (intro K hK
           rw [if_neg (by intro e; cases e)]
           exact hK.out undef _ (Below.refl _ _) rfl)
        | (intro bq hq K hK
           have hlt := hq.lt
           rw [if_pos (by rfl)]; simp only [overlay, upd, k_1, k_2, k_3, k_4, Nat.reduceEqDiff, reduceIte]
           go_simp
           exact hK.out _ _ (Below.refl _ _) ⟨_, rfl, hq⟩)
        | (rintro v ⟨g2, rfl, hg2⟩ K hK
           have hce := names_cell hg2 (show 2 < 3 by omega)
           have hlt := hg2.lt
           rw [if_pos (by rfl)]; simp only [overlay, upd, k_1, k_2, k_3, k_4, Nat.reduceEqDiff, reduceIte]
           go_simp
           exact hK.out _ _ (Below.refl _ _) rfl)
    · have hcI : ¬ ((wr.length : Int) + 1 = 4) := by simp [hdK] at hcn; omega
      have hcB : ((wr.length : Int) + 1 != 4) = true := by simpa using hcI
      have hcE : ((wr.length : Int) + 1 == 4) = false := by simpa using hcI
      have HN : Hid (headF st s.data.toList = none) := HHN.out (fun e => hcn e.2)
      refine region_grow mHd [18, 19, 20, 21, 22, 23, 24, 25, 26, 27, 28, 29, 30, 31, 32, 33, 34, 35, 36, 37, 38, 39, 40, 41, 42, 43, 44, 45, 46, 47] [.val (.bool true), .val (.bool false), .val (.bool false), .val (.int .i64 2), .val (.bool false), .val (.bool false), kU, kU, kU, .val (.bool false), .val (.bool false), .val (.bool false), .val (.int .i64 2), .val (.bool true), .val (.bool true), .val (.slice (some ⟨g, 0, none⟩) (wr.length + 1) cap), .val (.int .i64 ((wr.length + 1 : Nat) : Int)), .val (.bool true), .val (.bool true), .val (.bool true), .val (.bool true), kU, kU, kU, kU, kU, kU, kU, kU, .val (.bool true)] [29] (by kernel_rfl) (by kernel_rfl) (by kernel_rfl) (by kernel_rfl) (by kernel_rfl) ⟨?_, ?_, ?_, ?_, ?_, ?_, ?_, ?_, ?_, ?_, ?_, ?_, ?_, ?_, ?_, ?_, ?_, ?_, ?_, ?_, ?_, ?_, ?_, ?_, ?_, ?_, ?_, ?_, ?_, ?_, trivial⟩ ?done
      case done =>
       intro z w2 hb2
       simp only [StepGoal, overlay, upd, k_1, k_2, k_3, k_4, Nat.zero_add, Nat.reduceAdd, Nat.reduceEqDiff, reduceIte]
       have HX := hd_ (bt HB1.out hb2)
       have HY := hd_ (HR1.out.ext hb2)
       have HW := hd_ (HW1.out.ext hb2)
       clear hb2
       go_wp2_with fail
       go_meet
       exact ⟨true, rfl, (fun _ => HN.out), (fun e => nomatch e), HY, HW, HX⟩
      all_goals
       intro z w2 hb2
       have e0 := (HW1.out.ext hb2).2 0 x0 rfl
       have gl := (HW1.out.ext hb2).1
       have h01 : (0 : Int) < (wr.length : Int) + 1 := by omega
       first
        | (intro K hK
           rw [if_pos (by rfl)]; simp only [overlay, upd, k_1, k_2, k_3, k_4, Nat.reduceEqDiff, reduceIte]
           go_simp
           first
            | exact hK.out _ _ (Below.refl _ _) rfl
            | exact hK.out _ _ (bel1 _ _) ⟨_, rfl, Blk.new _ _ _⟩)
        | (intro K hK
           rw [if_neg (by intro e; cases e)]
           exact hK.out undef _ (Below.refl _ _) rfl)
        | (intro bq hq K hK
           have hlt := hq.lt
           rw [if_pos (by rfl)]; simp only [overlay, upd, k_1, k_2, k_3, k_4, Nat.reduceEqDiff, reduceIte]
           go_simp
           exact hK.out _ _ (Below.refl _ _) ⟨_, rfl, hq⟩)
        | (rintro v ⟨g2, rfl, hg2⟩ K hK
           have hce := names_cell hg2 (show 2 < 3 by omega)
           have hlt := hg2.lt
           rw [if_pos (by rfl)]; simp only [overlay, upd, k_1, k_2, k_3, k_4, Nat.reduceEqDiff, reduceIte]
           go_simp
           exact hK.out _ _ (Below.refl _ _) rfl)
   case rest =>
    obtain ⟨bad, rfl, hbad, hgood, HY, HW, HXb⟩ := hcut
    cases bad with
    | true =>
     have HN := hd_ (hbad rfl)
     clear hbad hgood
     go_wp2_with fail
     go_ret
     exact Or.inr ⟨HN.out, rfl, gr_below HXb.out, st, HY.out⟩
    | false =>
     obtain ⟨hx0, hcn⟩ := hgood rfl
     clear hbad hgood
     obtain ⟨x1, x2, x3, rfl⟩ : ∃ x1 x2 x3, wr = [x1, x2, x3] := by
      rcases wr with _ | ⟨x1, _ | ⟨x2, _ | ⟨x3, _ | ⟨x4, wr⟩⟩⟩⟩
      · simp [hdK] at hcn
      · simp [hdK] at hcn
      · simp [hdK] at hcn
      · exact ⟨x1, x2, x3, rfl⟩
      · simp [hdK] at hcn
     have HR := hd_ (headF_rm (x := x1) (y := x2) (z := x3) (by rw [HWF.out, hx0]; rfl) hn)
     clear hcn hx0 HR1 HW1 HB1 HWF HHN
     simp only [List.length_cons, List.length_nil, Nat.zero_add, Nat.reduceAdd]
     have HX : Hid (w.grownBy wc (some b)) := gr_below HXb.out
     clear HXb
     obtain ⟨WS, hWS⟩ : ∃ WS, WS = x0 :: [x1, x2, x3] := ⟨_, rfl⟩
     have HNB := hd_ (fun (t : List UInt8) (W : World) => refnumber_any (bsO t) W)
     rw [← hWS] at HW
     have HWS := hd_ hWS
     go_wp2_with fail
     refine wp_loop_rounds 4 ?_
     rw [rounds_succ]
     have e1 := HW.out.2 1 x1 (by rw [HWS.out]; rfl)
     have gl := HW.out.1
     go_wp2_with fail
     clear e1 gl
     refine (HNB.out x1 _).mono ?_
     rintro r w1a ⟨⟨v1, hxv1, hor⟩, hb⟩
     have HW1 := hd_ (HW.out.ext hb)
     have HY1 := hd_ (HY.out.ext hb)
     have HX1 := hd_ (gr_trans HX.out (gr_below (row := some b) hb))
     clear hb HW HY HX
     have hor : (longZ x1 = some v1 ∧ _) ∨ (longZ x1 = none ∧ _) := hor
     rcases hor with ⟨hzv1, rfl⟩ | ⟨hzv1, rfl⟩
     case inr =>
      have HN : Hid (headF st s.data.toList = none) := by
       show _ = _
       rw [HR.out, hzv1]
      clear hzv1 hxv1
      go_wp2_with fail
      go_ret
      exact Or.inr ⟨HN.out, rfl, HX1.out, st, HY1.out⟩
     have HZv1 := hd_ hzv1
     have HIv1 := hd_ hxv1
     clear hzv1 hxv1
     have hy1 : Blk w1a b #[.slice A nT kT, .int .i64 st.seg, .int .i64 st.bd, .int .i64 st.r0, .int .i64 st.r1, .int .i64 st.r2, c, .int .i64 N, .bool st.acts] 91 := HY1.out
     obtain ⟨w1b, rfl, lt⟩ := blk_put hy1
     obtain ⟨pc, pf, pS⟩ := putBlk_facts (w := w1b) 91 lt
     have HY := hd_ (putBlk_blk (w := w1b) (b := b) #[.slice A nT kT, .int .i64 st.seg, .int .i64 st.bd, .int .i64 v1, .int .i64 st.r1, .int .i64 st.r2, c, .int .i64 N, .bool st.acts] 91 lt)
     have HX := hd_ (gr_trans HX1.out (gr_put w1b b #[.slice A nT kT, .int .i64 st.seg, .int .i64 st.bd, .int .i64 st.r0, .int .i64 st.r1, .int .i64 st.r2, c, .int .i64 N, .bool st.acts] #[.slice A nT kT, .int .i64 st.seg, .int .i64 st.bd, .int .i64 v1, .int .i64 st.r1, .int .i64 st.r2, c, .int .i64 N, .bool st.acts] 91))
     have HW : Hid (WRo (putBlk w1b b #[.slice A nT kT, .int .i64 st.seg, .int .i64 st.bd, .int .i64 v1, .int .i64 st.r1, .int .i64 st.r2, c, .int .i64 N, .bool st.acts] 91) g WS) := ⟨by have := HW1.out.1; rw [putBlk_size] at this ⊢; exact this, fun j y hj => (putBlk_cell_ne HGB.out _ _ _ _).trans (HW1.out.2 j y hj)⟩
     clear hy1 HY1 HX1 HW1
     go_wp2_with fail
     clear pc pf pS lt
     generalize putBlk w1b b #[.slice A nT kT, .int .i64 st.seg, .int .i64 st.bd, .int .i64 v1, .int .i64 st.r1, .int .i64 st.r2, c, .int .i64 N, .bool st.acts] 91 = w1c at HY HX HW ⊢
     rw [rounds_succ]
     have e2 := HW.out.2 2 x2 (by rw [HWS.out]; rfl)
     have gl := HW.out.1
     go_wp2_with fail
     clear e2 gl
     refine (HNB.out x2 _).mono ?_
     rintro r w2a ⟨⟨v2, hxv2, hor⟩, hb⟩
     have HW2 := hd_ (HW.out.ext hb)
     have HY2 := hd_ (HY.out.ext hb)
     have HX2 := hd_ (gr_trans HX.out (gr_below (row := some b) hb))
     clear hb HW HY HX
     have hor : (longZ x2 = some v2 ∧ _) ∨ (longZ x2 = none ∧ _) := hor
     rcases hor with ⟨hzv2, rfl⟩ | ⟨hzv2, rfl⟩
     case inr =>
      have HN : Hid (headF st s.data.toList = none) := by
       show _ = _
       rw [HR.out, HZv1.out, hzv2]
      clear hzv2 hxv2
      go_wp2_with fail
      go_ret
      exact Or.inr ⟨HN.out, rfl, HX2.out, { st with r0 := v1 }, HY2.out⟩
     have HZv2 := hd_ hzv2
     have HIv2 := hd_ hxv2
     clear hzv2 hxv2
     have hy2 : Blk w2a b #[.slice A nT kT, .int .i64 st.seg, .int .i64 st.bd, .int .i64 v1, .int .i64 st.r1, .int .i64 st.r2, c, .int .i64 N, .bool st.acts] 91 := HY2.out
     obtain ⟨w2b, rfl, lt⟩ := blk_put hy2
     obtain ⟨pc, pf, pS⟩ := putBlk_facts (w := w2b) 91 lt
     have HY := hd_ (putBlk_blk (w := w2b) (b := b) #[.slice A nT kT, .int .i64 st.seg, .int .i64 st.bd, .int .i64 v1, .int .i64 v2, .int .i64 st.r2, c, .int .i64 N, .bool st.acts] 91 lt)
     have HX := hd_ (gr_trans HX2.out (gr_put w2b b #[.slice A nT kT, .int .i64 st.seg, .int .i64 st.bd, .int .i64 v1, .int .i64 st.r1, .int .i64 st.r2, c, .int .i64 N, .bool st.acts] #[.slice A nT kT, .int .i64 st.seg, .int .i64 st.bd, .int .i64 v1, .int .i64 v2, .int .i64 st.r2, c, .int .i64 N, .bool st.acts] 91))
     have HW : Hid (WRo (putBlk w2b b #[.slice A nT kT, .int .i64 st.seg, .int .i64 st.bd, .int .i64 v1, .int .i64 v2, .int .i64 st.r2, c, .int .i64 N, .bool st.acts] 91) g WS) := ⟨by have := HW2.out.1; rw [putBlk_size] at this ⊢; exact this, fun j y hj => (putBlk_cell_ne HGB.out _ _ _ _).trans (HW2.out.2 j y hj)⟩
     clear hy2 HY2 HX2 HW2
     go_wp2_with fail
     clear pc pf pS lt
     generalize putBlk w2b b #[.slice A nT kT, .int .i64 st.seg, .int .i64 st.bd, .int .i64 v1, .int .i64 v2, .int .i64 st.r2, c, .int .i64 N, .bool st.acts] 91 = w2c at HY HX HW ⊢
     rw [rounds_succ]
     have e3 := HW.out.2 3 x3 (by rw [HWS.out]; rfl)
     have gl := HW.out.1
     go_wp2_with fail
     clear e3 gl
     refine (HNB.out x3 _).mono ?_
     rintro r w3a ⟨⟨v3, hxv3, hor⟩, hb⟩
     have HW3 := hd_ (HW.out.ext hb)
     have HY3 := hd_ (HY.out.ext hb)
     have HX3 := hd_ (gr_trans HX.out (gr_below (row := some b) hb))
     clear hb HW HY HX
     have hor : (longZ x3 = some v3 ∧ _) ∨ (longZ x3 = none ∧ _) := hor
     rcases hor with ⟨hzv3, rfl⟩ | ⟨hzv3, rfl⟩
     case inr =>
      have HN : Hid (headF st s.data.toList = none) := by
       show _ = _
       rw [HR.out, HZv1.out, HZv2.out, hzv3]
      clear hzv3 hxv3
      go_wp2_with fail
      go_ret
      exact Or.inr ⟨HN.out, rfl, HX3.out, { st with r0 := v1, r1 := v2 }, HY3.out⟩
     have HZv3 := hd_ hzv3
     have HIv3 := hd_ hxv3
     clear hzv3 hxv3
     have hy3 : Blk w3a b #[.slice A nT kT, .int .i64 st.seg, .int .i64 st.bd, .int .i64 v1, .int .i64 v2, .int .i64 st.r2, c, .int .i64 N, .bool st.acts] 91 := HY3.out
     obtain ⟨w3b, rfl, lt⟩ := blk_put hy3
     obtain ⟨pc, pf, pS⟩ := putBlk_facts (w := w3b) 91 lt
     have HY := hd_ (putBlk_blk (w := w3b) (b := b) #[.slice A nT kT, .int .i64 st.seg, .int .i64 st.bd, .int .i64 v1, .int .i64 v2, .int .i64 v3, c, .int .i64 N, .bool st.acts] 91 lt)
     have HX := hd_ (gr_trans HX3.out (gr_put w3b b #[.slice A nT kT, .int .i64 st.seg, .int .i64 st.bd, .int .i64 v1, .int .i64 v2, .int .i64 st.r2, c, .int .i64 N, .bool st.acts] #[.slice A nT kT, .int .i64 st.seg, .int .i64 st.bd, .int .i64 v1, .int .i64 v2, .int .i64 v3, c, .int .i64 N, .bool st.acts] 91))
     have HW : Hid (WRo (putBlk w3b b #[.slice A nT kT, .int .i64 st.seg, .int .i64 st.bd, .int .i64 v1, .int .i64 v2, .int .i64 v3, c, .int .i64 N, .bool st.acts] 91) g WS) := ⟨by have := HW3.out.1; rw [putBlk_size] at this ⊢; exact this, fun j y hj => (putBlk_cell_ne HGB.out _ _ _ _).trans (HW3.out.2 j y hj)⟩
     clear hy3 HY3 HX3 HW3
     go_wp2_with fail
     clear pc pf pS lt
     generalize putBlk w3b b #[.slice A nT kT, .int .i64 st.seg, .int .i64 st.bd, .int .i64 v1, .int .i64 v2, .int .i64 v3, c, .int .i64 N, .bool st.acts] 91 = w3c at HY HX HW ⊢
     rw [rounds_succ]
     obtain ⟨bl, y0, y1, y2, y3, y4, y5, y6, y7, y8⟩ := blk9 HY.out
     have hbn : Below w3c.heap.size w3c (w3c.alloc (.cells #[.slice A nT kT, .int .i64 st.seg, .int .i64 st.bd, .int .i64 v1, .int .i64 v2, .int .i64 v3] 27)) := bel1 _ _
     have HY4 := hd_ (HY.out.ext hbn)
     have HXL := hd_ HX.out
     have HBL := hd_ hbn
     have HC4 := hd_ (Blk.new w3c #[.slice A nT kT, .int .i64 st.seg, .int .i64 st.bd, .int .i64 v1, .int .i64 v2, .int .i64 v3] 27)
     have hxc : b ≠ w3c.heap.size := by omega
     clear hbn HX HY HW HNB
     go_upto_region 17 with fail
     clear bl y0 y1 y2 y3 y4 y5 y6 y7 y8
     generalize w3c.alloc (.cells #[.slice A nT kT, .int .i64 st.seg, .int .i64 st.bd, .int .i64 v1, .int .i64 v2, .int .i64 v3] 27) = w5 at HY4 HBL HC4 ⊢
     obtain ⟨xc, hxe⟩ : ∃ xc, xc = w3c.heap.size := ⟨_, rfl⟩
     rw [← hxe] at hxc HC4 ⊢
     have hxl : w3c.heap.size ≤ xc := by omega
     clear hxe
     go_wp2_with fail
     refine (refone_any _).mono ?_
     rintro r w6 ⟨⟨g1, t1, rfl, hT1, hs1⟩, hb6⟩
     have hy6 := HY4.out.ext hb6
     have hl5 := HC4.out.lt
     have hc6 := HC4.out.ext hb6
     have hb6' := bt HBL.out hb6
     obtain ⟨w7, rfl, lt⟩ := blk_put hc6
     obtain ⟨pc, pf, pS⟩ := putBlk_facts (w := w7) 27 lt
     have HYF := hd_ (putBlk_old hy6 hxc #[.slice (some ⟨g1, 0, none⟩) 1 1, .int .i64 st.seg, .int .i64 st.bd, .int .i64 v1, .int .i64 v2, .int .i64 v3])
     have HBF := hd_ (putBlk_belows hb6' hxl #[.slice (some ⟨g1, 0, none⟩) 1 1, .int .i64 st.seg, .int .i64 st.bd, .int .i64 v1, .int .i64 v2, .int .i64 v3])
     have HCF := hd_ (putBlk_blk (w := w7) (b := xc) #[.slice (some ⟨g1, 0, none⟩) 1 1, .int .i64 st.seg, .int .i64 st.bd, .int .i64 v1, .int .i64 v2, .int .i64 v3] 27 lt)
     have HTF := hd_ (hT1 (putBlk w7 xc #[.slice (some ⟨g1, 0, none⟩) 1 1, .int .i64 st.seg, .int .i64 st.bd, .int .i64 v1, .int .i64 v2, .int .i64 v3] 27) (Since.put hl5 #[.slice (some ⟨g1, 0, none⟩) 1 1, .int .i64 st.seg, .int .i64 st.bd, .int .i64 v1, .int .i64 v2, .int .i64 v3]))
     have HS1 := hd_ hs1
     clear hy6 hc6 hb6 hb6' hT1 hs1 hl5 HY4 HC4 HBL
     go_upto_region 20 with fail
     clear pc pf pS lt
     generalize putBlk w7 xc #[.slice (some ⟨g1, 0, none⟩) 1 1, .int .i64 st.seg, .int .i64 st.bd, .int .i64 v1, .int .i64 v2, .int .i64 v3] 27 = w8 at HYF HBF HCF HTF ⊢
     obtain ⟨d9, d0, d1, d2, d3, d4, d5⟩ := blk6 HCF.out
     have HMY := hd_ (refconf_any st.seg st.bd v1 v2 v3 [t1] (some ⟨g1, 0, none⟩) 1 w8 HTF.out)
     obtain ⟨tst, htst⟩ : ∃ q, q = (rmB v1 && (rmB v2 && rmB v3)) := ⟨_, rfl⟩
     rw [show confB ⟨st.seg, st.bd, v1, v2, v3, [t1]⟩ = tst by
      obtain ⟨i1, i2, i3⟩ := HIN.out
      rw [htst]
      simp [confB, HS1.out, i1 (by omega), i2 (by omega)]] at HMY
     unfold Cf.agg at HMY
     simp only [List.length_singleton] at HMY
     have HTS := hd_ htst
     clear htst
     go_wp2_with fail
     refine HMY.out.mono ?_
     rintro r w9 ⟨rfl, hb9⟩
     have HXZ := hd_ (gr_trans HXL.out (gr_below (row := some b) (bt HBF.out hb9)))
     have HYZ := hd_ (HYF.out.ext hb9)
     clear hb9 d9 d0 d1 d2 d3 d4 d5 HMY
     go_wp2_with fail
     go_ret
     cases tst with
     | true => exact Or.inl ⟨{ st with r0 := v1, r1 := v2, r2 := v3, n := 3 }, by have h := HTS.out; rw [HR.out, HZv1.out, HZv2.out, HZv3.out]; simp only; rw [if_pos h.symm], rfl, HXZ.out, HYZ.out⟩
     | false => exact Or.inr ⟨by have h := HTS.out; rw [HR.out, HZv1.out, HZv2.out, HZv3.out]; simp only; rw [if_neg (by rw [← h]; simp)], rfl, HXZ.out, { st with r0 := v1, r1 := v2, r2 := v3 }, HYZ.out⟩
 · have HN : Hid (headF st s.data.toList = none) := by show _ = _; unfold headF; rw [hws]
   clear hws
   go_upto_region 2 with fail
   refine region_grow mHd [18, 19, 20, 21, 22, 23, 24, 25, 26, 27, 28, 29, 30, 31, 32, 33, 34, 35, 36, 37, 38, 39, 40, 41, 42, 43, 44, 45, 46, 47] [.val (.bool false), .val (.bool true), .val (.bool true), kU, kU, kU, kU, kU, kU, kU, .val (.bool true), .val (.bool true), kU, kU, kU, kU, kU, kU, kU, .val (.bool true), .val (.bool true), kU, kU, kU, kU, kU, kU, kU, kU, .val (.bool true)] [29] (by kernel_rfl) (by kernel_rfl) (by kernel_rfl) (by kernel_rfl) (by kernel_rfl) ⟨?_, ?_, ?_, ?_, ?_, ?_, ?_, ?_, ?_, ?_, ?_, ?_, ?_, ?_, ?_, ?_, ?_, ?_, ?_, ?_, ?_, ?_, ?_, ?_, ?_, ?_, ?_, ?_, ?_, ?_, trivial⟩ ?done
   case done =>
    intro z w2 hb2
    simp only [StepGoal, overlay, upd, k_1, k_2, k_3, k_4, Nat.zero_add, Nat.reduceAdd, Nat.reduceEqDiff, reduceIte]
    have HX := hd_ (bt HB1.out hb2)
    have HY := hd_ (HR1.out.ext hb2)
    clear hb2 HB1 HR1
    go_wp2_with fail
    go_ret
    exact Or.inr ⟨HN.out, rfl, gr_below HX.out, st, HY.out⟩
   all_goals
    intro z w2 hb2
    first
     | (intro K hK
        rw [if_pos (by rfl)]; simp only [overlay, upd, k_1, k_2, k_3, k_4, Nat.reduceEqDiff, reduceIte]
        go_simp
        exact hK.out _ _ (Below.refl _ _) rfl)
     | (intro K hK
        rw [if_neg (by intro e; cases e)]
        exact hK.out undef _ (Below.refl _ _) rfl)
end Go.Proofs.YtfekohonidggjaaGreatDoor
