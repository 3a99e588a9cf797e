/- Texts joined by a tool: contracts and walks of this claim. -/
import Derived.Test.YtfekohonidggjaaGreatDoorB20
namespace Go.Proofs.YtfekohonidggjaaGreatDoor
open Go.RowKit
def tlW (f : Bool) (a : Ac) : Nat → List (List UInt8)
 | 0 => []
 | 1 => Lib.itoa a.n :: (if f then [a.nm.data.toList] else [])
 | 2 => Lib.itoa a.n :: ((if f then [a.nm.data.toList] else []) ++ [Lib.itoa a.m])
 | _ => Lib.itoa a.n :: ((if f then [a.nm.data.toList] else []) ++ [Lib.itoa a.m, Lib.itoa a.q])
theorem tlW_tail {c : Nat} {f : Bool} (a : Ac) (hc : c ≤ 3) (hf : f = true → c = 3) : tlW f a c = tailW c f a := by
 have : c = 0 ∨ c = 1 ∨ c = 2 ∨ c = 3 := by omega
 cases f
 · rcases this with rfl | rfl | rfl | rfl <;> rfl
 · rw [hf rfl]
   rfl
set_option maxRecDepth 100000 in
set_option maxHeartbeats 6400000 in
theorem refact_fm (a : Ac) (hw : a.wf) (hd : ¬ a.d = 2) (A : Option Addr) (ca : Nat) (w : World) :
 Calls Tryz.prog 16 #[a.agg A ca] w fun r w' => r = .returned (actP (actT a)) ∧ Below w.heap.size w w' := by
 have HLN := hd_ (fun ws h => actW_len (a := a) (ws := ws) hw h)
 have hO := actW_form hd
 have HK := hd_ (refkind_any a.d hw.1)
 unfold actT
 obtain ⟨d, k, tb, row, n, m, q, nm⟩ := a
 obtain ⟨_, hk, htb, _, hn, hm, hq, hnz⟩ := hw
 simp only at hd hk htb hn hm hq hnz hO HK
 unfold Ac.agg
 simp only
 have HNP := hd_ (refnoop_any k tb A row.length ca)
 have HNM := hd_ (fun (W : World) => refName_any nm W (by omega))
 have HNU := hd_ (fun (v : Int) (hv : i64B v) (W : World) => refNumber_any v hv W)
 have HIN : Hid (i64B n ∧ i64B m ∧ i64B q) := ⟨hn, hm, hq⟩
 obtain ⟨i0, hi0, hz0, hz1, hz2⟩ := info_parts info_txt
 generalize hOO : actW ⟨d, k, tb, row, n, m, q, nm⟩ = O at hO HLN ⊢
 have HO := hd_ hO
 have hdb : (d == 2) = false := by simp [hd]
 clear hO htb hOO hd hn hm hq hnz
 have HK0 := hd_ (Blk.new w #[.int .u8 d, .int .u8 k, .int .i64 tb, .slice A row.length ca, .int .i64 n, .int .i64 m, .int .i64 q, .string nm] 42)
 have hb0 : Below w.heap.size w (w.alloc (.cells #[.int .u8 d, .int .u8 k, .int .i64 tb, .slice A row.length ca, .int .i64 n, .int .i64 m, .int .i64 q, .string nm] 42)) := bel1 _ _
 have HB0 := hd_ hb0
 clear hb0
 go_enter Tryz.func16, Tryz.ntmps16
 go_upto_region 1 with fail
 generalize w.alloc (.cells #[.int .u8 d, .int .u8 k, .int .i64 tb, .slice A row.length ca, .int .i64 n, .int .i64 m, .int .i64 q, .string nm] 42) = w1 at HK0 HB0 ⊢
 obtain ⟨y8, y0, y1, y2, y3, y4, y5, y6, y7⟩ := blkA HK0.out
 go_wp2_with fail
 refine (HK.out _).mono ?_
 rintro r w2 ⟨rfl, hb2⟩
 cases hfo : formOf d with
 | none =>
  have HN : Hid (O = none) := by show _ = _; rw [HO.out, hfo]
  have HB3 := hd_ (bt HB0.out (bt hb2 ((by repeat (first | exact Below.refl _ _ | assumption | refine Below.drew ?_ | refine below_drewN ?_ _ | refine Below.alloc ?_ (by simp <;> omega) _)) : Below w2.heap.size w2 (w2.alloc (.cells #[.string ⟨#[]⟩, .int .i64 0, .bool false] 78)))))
  clear hb2 hfo
  unfold kindV
  simp only
  go_wp2_with fail
  refine bodyPost_ret (v := actP none) (by simp [results, Tryz.results16, go_sem, actP]) rfl ?_
  exact ⟨by rw [HN.out]; rfl, HB3.out⟩
 | some x =>
  obtain ⟨wd, c, f⟩ := x
  obtain ⟨hc3, hf3⟩ := formOf_le hfo
  have HF3 := hd_ hf3
  have HO2 : Hid (O = if noOpB ⟨d, k, tb, row, n, m, q, nm⟩ && (zeroB c ⟨d, k, tb, row, n, m, q, nm⟩ && nmB f ⟨d, k, tb, row, n, m, q, nm⟩) then some (wd :: tailW c f ⟨d, k, tb, row, n, m, q, nm⟩) else none) := by show _ = _; rw [HO.out, hfo]
  have hbn : Below w2.heap.size w2 (w2.alloc (.cells #[.string (bsO wd), .int .i64 c, .bool f] 78)) := bel1 _ _
  have HB3 := hd_ (bt HB0.out (bt hb2 hbn))
  have HA3 := hd_ (HK0.out.ext (bt hb2 hbn))
  have HF := hd_ (Blk.new w2 #[.string (bsO wd), .int .i64 c, .bool f] 78)
  have hl3 : w.heap.size < w2.heap.size := (HK0.out.ext hb2).lt
  clear hb2 hbn hfo hf3 HK0 HB0 HK
  unfold kindV
  simp only
  go_upto_region 13 with fail
  generalize w2.alloc (.cells #[.string (bsO wd), .int .i64 c, .bool f] 78) = w3 at HB3 HA3 HF ⊢
  go_cut [144] (fun v wx => ∃ bad : Bool, v = .bool bad ∧ (bad = true → O = none) ∧ (bad = false → O = some (wd :: tailW c f ⟨d, k, tb, row, n, m, q, nm⟩)) ∧ Blk wx w.heap.size #[.int .u8 d, .int .u8 k, .int .i64 tb, .slice A row.length ca, .int .i64 n, .int .i64 m, .int .i64 q, .string nm] 42 ∧ Blk wx w2.heap.size #[.string (bsO wd), .int .i64 c, .bool f] 78 ∧ Below w.heap.size w wx)
  case first =>
   obtain ⟨y8, y0, y1, y2, y3, y4, y5, y6, y7⟩ := blkA HA3.out
   obtain ⟨f9, f0, f1, f2⟩ := (⟨HF.out.lt, HF.out.cell 0, HF.out.cell 1, HF.out.cell 2⟩ : w2.heap.size < w3.heap.size ∧ w3.cell? ⟨w2.heap.size, 0, none⟩ = some (.string (bsO wd)) ∧ w3.cell? ⟨w2.heap.size, 1, none⟩ = some (.int .i64 c) ∧ w3.cell? ⟨w2.heap.size, 2, none⟩ = some (.bool f))
   go_wp2_with fail
   refine (HNP.out _).mono ?_
   rintro r w4 ⟨rfl, hb4⟩
   have HB4 := hd_ (bt HB3.out hb4)
   have HA4 := hd_ (HA3.out.ext hb4)
   have HF4 := hd_ (HF.out.ext hb4)
   clear hb4 HB3 HA3 HF y8 y0 y1 y2 y3 y4 y5 y6 y7 f9 f0 f1 f2 HNP
   obtain ⟨y8, y0, y1, y2, y3, y4, y5, y6, y7⟩ := blkA HA4.out
   obtain ⟨f9, f0, f1, f2⟩ := (⟨HF4.out.lt, HF4.out.cell 0, HF4.out.cell 1, HF4.out.cell 2⟩ : w2.heap.size < w4.heap.size ∧ w4.cell? ⟨w2.heap.size, 0, none⟩ = some (.string (bsO wd)) ∧ w4.cell? ⟨w2.heap.size, 1, none⟩ = some (.int .i64 c) ∧ w4.cell? ⟨w2.heap.size, 2, none⟩ = some (.bool f))
   obtain ⟨b1, hb1⟩ : ∃ b1, b1 = decide (k = 0 ∧ tb = 0 ∧ row.length = 0) := ⟨_, rfl⟩
   have HB1 : Hid (noOpB ⟨d, k, tb, row, n, m, q, nm⟩ = b1) := hb1.symm
   rw [← hb1]
   clear hb1
   cases b1 with
   | false =>
    have HN : Hid (O = none) := by show _ = _; rw [HO2.out, HB1.out]; rfl
    go_wp2_with fail
    go_meet
    exact ⟨true, rfl, (fun _ => HN.out), (fun e => nomatch e), HA4.out, HF4.out, HB4.out⟩
   | true =>
    cases f with
    | true =>
     obtain rfl : c = 3 := HF3.out rfl
     by_cases hz : nm.size = 0
     · have HN : Hid (O = none) := by
        show _ = _
        rw [HO2.out, HB1.out]
        obtain rfl := empty_of_size hz
        rfl
       obtain rfl : nm = ⟨#[]⟩ := empty_of_size hz
       clear hz HNM
       go_wp2_with fail
       go_meet
       exact ⟨true, rfl, (fun _ => HN.out), (fun e => nomatch e), HA4.out, HF4.out, HB4.out⟩
     · have hnm := str_emp hz
       clear hz
       obtain ⟨b2, hb2⟩ : ∃ b2, b2 = fileB nm.data.toList := ⟨_, rfl⟩
       have HFB := hd_ hb2
       rw [← hb2] at HNM
       clear hb2
       cases b2 with
       | false =>
        have HN : Hid (O = none) := by
         show _ = _
         rw [HO2.out, HB1.out]
         show (if (true && (zeroB 3 _ && fileB nm.data.toList)) = true then _ else none) = none
         rw [← HFB.out]
         simp
        go_wp2_with fail
        refine (HNM.out _).mono ?_
        rintro r w5 ⟨rfl, hb5⟩
        have HB5 := hd_ (bt HB4.out hb5)
        have HA5 := hd_ (HA4.out.ext hb5)
        have HF5 := hd_ (HF4.out.ext hb5)
        clear hb5
        go_wp2_with fail
        go_meet
        exact ⟨true, rfl, (fun _ => HN.out), (fun e => nomatch e), HA5.out, HF5.out, HB5.out⟩
       | true =>
        have HY : Hid (O = some (wd :: tailW 3 true ⟨d, k, tb, row, n, m, q, nm⟩)) := by
         show _ = _
         rw [HO2.out, HB1.out]
         show (if (true && (zeroB 3 _ && fileB nm.data.toList)) = true then _ else none) = _
         rw [← HFB.out]
         rfl
        go_wp2_with fail
        refine (HNM.out _).mono ?_
        rintro r w5 ⟨rfl, hb5⟩
        have HB5 := hd_ (bt HB4.out hb5)
        have HA5 := hd_ (HA4.out.ext hb5)
        have HF5 := hd_ (HF4.out.ext hb5)
        clear hb5 y8 y0 y1 y2 y3 y4 y5 y6 y7 f9 f0 f1 f2 HB4 HA4 HF4
        obtain ⟨y8, y0, y1, y2, y3, y4, y5, y6, y7⟩ := blkA HA5.out
        obtain ⟨f9, f0, f1, f2⟩ := (⟨HF5.out.lt, HF5.out.cell 0, HF5.out.cell 1, HF5.out.cell 2⟩ : w2.heap.size < w5.heap.size ∧ w5.cell? ⟨w2.heap.size, 0, none⟩ = some (.string (bsO wd)) ∧ w5.cell? ⟨w2.heap.size, 1, none⟩ = some (.int .i64 (3 : Nat)) ∧ w5.cell? ⟨w2.heap.size, 2, none⟩ = some (.bool true))
        go_wp2_with fail
        go_meet
        exact ⟨false, rfl, (fun e => nomatch e), (fun _ => HY.out), HA5.out, HF5.out, HB5.out⟩
    | false =>
     by_cases hz : nm.size = 0
     · obtain rfl : nm = ⟨#[]⟩ := empty_of_size hz
       clear hz HNM
       have hzz : c = 0 ∨ c = 1 ∨ c = 2 ∨ c = 3 := by omega
       by_cases hZ : zeroB c ⟨d, k, tb, row, n, m, q, ⟨#[]⟩⟩ = true
       · have HY : Hid (O = some (wd :: tailW c false ⟨d, k, tb, row, n, m, q, ⟨#[]⟩⟩)) := by
          show _ = _
          rw [HO2.out, HB1.out, hZ]
          rfl
         rcases hzz with rfl | rfl | rfl | rfl
         · obtain ⟨rfl, rfl, rfl⟩ : n = 0 ∧ m = 0 ∧ q = 0 := by simpa [zeroB] using hZ
           clear hZ
           go_wp2_with fail
           go_meet
           exact ⟨false, rfl, (fun e => nomatch e), (fun _ => HY.out), HA4.out, HF4.out, HB4.out⟩
         · obtain ⟨rfl, rfl⟩ : m = 0 ∧ q = 0 := by simpa [zeroB] using hZ
           clear hZ
           go_wp2_with fail
           go_meet
           exact ⟨false, rfl, (fun e => nomatch e), (fun _ => HY.out), HA4.out, HF4.out, HB4.out⟩
         · obtain rfl : q = 0 := by simpa [zeroB] using hZ
           clear hZ
           go_wp2_with fail
           go_meet
           exact ⟨false, rfl, (fun e => nomatch e), (fun _ => HY.out), HA4.out, HF4.out, HB4.out⟩
         · clear hZ
           go_wp2_with fail
           go_meet
           exact ⟨false, rfl, (fun e => nomatch e), (fun _ => HY.out), HA4.out, HF4.out, HB4.out⟩
       · have HN : Hid (O = none) := by
          show _ = _
          rw [HO2.out, HB1.out, Bool.eq_false_iff.2 hZ]
          rfl
         by_cases hq : q = 0
         · subst hq
           by_cases hm : m = 0
           · subst hm
             by_cases hn : n = 0
             · exfalso
               apply hZ
               subst hn
               rcases hzz with rfl | rfl | rfl | rfl <;> rfl
             · have hnb : (n == 0) = false := by simp [hn]
               have hnc : (n != 0) = true := by simp [hn]
               obtain rfl : c = 0 := by
                rcases hzz with rfl | rfl | rfl | rfl
                · rfl
                all_goals exact absurd rfl hZ
               clear hn hZ hzz
               go_wp2_with fail
               go_meet
               exact ⟨true, rfl, (fun _ => HN.out), (fun e => nomatch e), HA4.out, HF4.out, HB4.out⟩
           · have hmb : (m == 0) = false := by simp [hm]
             have hmc : (m != 0) = true := by simp [hm]
             have hc2 : c = 0 ∨ c = 1 := by
              rcases hzz with rfl | rfl | rfl | rfl
              · exact Or.inl rfl
              · exact Or.inr rfl
              all_goals exact absurd rfl hZ
             clear hZ hzz hm
             rcases hc2 with rfl | rfl
             · go_wp2_with fail
               go_meet
               exact ⟨true, rfl, (fun _ => HN.out), (fun e => nomatch e), HA4.out, HF4.out, HB4.out⟩
             · go_wp2_with fail
               go_meet
               exact ⟨true, rfl, (fun _ => HN.out), (fun e => nomatch e), HA4.out, HF4.out, HB4.out⟩
         · have hqb : (q == 0) = false := by simp [hq]
           have hqc : (q != 0) = true := by simp [hq]
           have hc2 : c = 0 ∨ c = 1 ∨ c = 2 := by
            rcases hzz with rfl | rfl | rfl | rfl
            · exact Or.inl rfl
            · exact Or.inr (Or.inl rfl)
            · exact Or.inr (Or.inr rfl)
            · exact absurd rfl hZ
           clear hZ hzz hq
           rcases hc2 with rfl | rfl | rfl
           · go_wp2_with fail
             go_meet
             exact ⟨true, rfl, (fun _ => HN.out), (fun e => nomatch e), HA4.out, HF4.out, HB4.out⟩
           · go_wp2_with fail
             go_meet
             exact ⟨true, rfl, (fun _ => HN.out), (fun e => nomatch e), HA4.out, HF4.out, HB4.out⟩
           · go_wp2_with fail
             go_meet
             exact ⟨true, rfl, (fun _ => HN.out), (fun e => nomatch e), HA4.out, HF4.out, HB4.out⟩
     · have HN : Hid (O = none) := by
        show _ = _
        rw [HO2.out, HB1.out]
        show (if (true && (zeroB c _ && decide (nm.size = 0))) = true then _ else none) = none
        rw [decide_eq_false hz]
        simp
       have hnm := str_emp hz
       clear hz HNM
       go_wp2_with fail
       go_meet
       exact ⟨true, rfl, (fun _ => HN.out), (fun e => nomatch e), HA4.out, HF4.out, HB4.out⟩
  case rest =>
   obtain ⟨bad, rfl, hbad, hgood, hA, hF, hb⟩ := hcut
   have HAc := hd_ hA
   have HFc := hd_ hF
   have HBc := hd_ hb
   clear hA hF hb HB3 HA3 HF HO HO2
   cases bad with
   | true =>
    have HN : Hid (O = none) := hbad rfl
    clear hbad hgood
    go_wp2_with fail
    refine bodyPost_ret (v := actP none) (by simp [results, Tryz.results16, go_sem, actP]) rfl ?_
    exact ⟨by rw [HN.out]; rfl, HBc.out⟩
   | false =>
    have HY : Hid (O = some (wd :: tlW f ⟨d, k, tb, row, n, m, q, nm⟩ c)) := by show _ = _; rw [hgood rfl, tlW_tail _ hc3 HF3.out]
    clear hbad hgood
    obtain ⟨y8, y0, y1, y2, y3, y4, y5, y6, y7⟩ := blkA HAc.out
    obtain ⟨f9, f0, f1, f2⟩ := (⟨HFc.out.lt, HFc.out.cell 0, HFc.out.cell 1, HFc.out.cell 2⟩ : w2.heap.size < wc.heap.size ∧ wc.cell? ⟨w2.heap.size, 0, none⟩ = some (.string (bsO wd)) ∧ wc.cell? ⟨w2.heap.size, 1, none⟩ = some (.int .i64 c) ∧ wc.cell? ⟨w2.heap.size, 2, none⟩ = some (.bool f))
    have hbn : Below wc.heap.size wc ((wc.alloc (.cells #[.string (bsO wd)] 9)).alloc (.cells #[.int .i64 n, .int .i64 m, .int .i64 q] 3)) := (by repeat (first | exact Below.refl _ _ | assumption | refine Below.drew ?_ | refine below_drewN ?_ _ | refine Below.alloc ?_ (by simp <;> omega) _))
    have HO8 : Hid (World.ownsRow ((wc.alloc (.cells #[.string (bsO wd)] 9)).alloc (.cells #[.int .i64 n, .int .i64 m, .int .i64 q] 3)) w.heap.size 9 1 (.slice (some ⟨wc.heap.size, 0, none⟩) 1 1) (1 + (tlW f ⟨d, k, tb, row, n, m, q, nm⟩ 0).length) (wsC (wd :: tlW f ⟨d, k, tb, row, n, m, q, nm⟩ 0))) := (own_new wc w.heap.size [wd] HBc.out.size (by simp)).alloc _
    have HI8 : Hid (Blk ((wc.alloc (.cells #[.string (bsO wd)] 9)).alloc (.cells #[.int .i64 n, .int .i64 m, .int .i64 q] 3)) (wc.heap.size + 1) #[.int .i64 n, .int .i64 m, .int .i64 q] 3) := (by repeat (first | exact Blk.at (by simp) | assumption | refine Blk.drew ?_ | refine Blk.old ?_ _))
    have HA8 := hd_ (HAc.out.ext hbn)
    have HF8 := hd_ (HFc.out.ext hbn)
    have HB8 := hd_ (bt HBc.out hbn)
    clear hbn HAc HFc HBc
    go_upto_region 17 with fail
    clear y8 y0 y1 y2 y3 y4 y5 y6 y7 f9 f0 f1 f2
    generalize (wc.alloc (.cells #[.string (bsO wd)] 9)).alloc (.cells #[.int .i64 n, .int .i64 m, .int .i64 q] 3) = w8 at HO8 HI8 HA8 HF8 HB8 ⊢
    generalize wc.heap.size = gs at HO8 HI8 ⊢
    go_wp2_with fail
    go_loopw [8, 10] (fun lv i wr => ∃ j : Nat, j ≤ c ∧ i = .int .i64 j ∧ wr.ownsRow w.heap.size 9 1 lv (1 + (tlW f ⟨d, k, tb, row, n, m, q, nm⟩ j).length) (wsC (wd :: tlW f ⟨d, k, tb, row, n, m, q, nm⟩ j)) ∧ Hid (Blk wr w.heap.size #[.int .u8 d, .int .u8 k, .int .i64 tb, .slice A row.length ca, .int .i64 n, .int .i64 m, .int .i64 q, .string nm] 42) ∧ Hid (Blk wr w2.heap.size #[.string (bsO wd), .int .i64 c, .bool f] 78) ∧ Hid (Blk wr (gs + 1) #[.int .i64 n, .int .i64 m, .int .i64 q] 3) ∧ Below w.heap.size w wr) (fun _ i _ => c - (intOf i).toNat)
    case atStart => exact ⟨0, by omega, rfl, HO8.out, HA8.out, HF8.out, HI8.out, HB8.out⟩
    case round =>
     obtain ⟨j, hj, rfl, hown, HAr, HFr, HIr, hbw⟩ := hrel
     clear HO8 HI8 HA8 HF8 HB8
     obtain ⟨y8, y0, y1, y2, y3, y4, y5, y6, y7⟩ := blkA HAr.out
     obtain ⟨f9, f0, f1, f2⟩ := (⟨HFr.out.lt, HFr.out.cell 0, HFr.out.cell 1, HFr.out.cell 2⟩ : w2.heap.size < wr.heap.size ∧ wr.cell? ⟨w2.heap.size, 0, none⟩ = some (.string (bsO wd)) ∧ wr.cell? ⟨w2.heap.size, 1, none⟩ = some (.int .i64 c) ∧ wr.cell? ⟨w2.heap.size, 2, none⟩ = some (.bool f))
     obtain ⟨g9, g0, g1, g2⟩ := (⟨HIr.out.lt, HIr.out.cell 0, HIr.out.cell 1, HIr.out.cell 2⟩ : gs + 1 < wr.heap.size ∧ wr.cell? ⟨gs + 1, 0, none⟩ = some (.int .i64 n) ∧ wr.cell? ⟨gs + 1, 1, none⟩ = some (.int .i64 m) ∧ wr.cell? ⟨gs + 1, 2, none⟩ = some (.int .i64 q))
     by_cases hlt : j < c
     · have hltI : (j : Int) < c := by omega
       have hj3 : j = 0 ∨ j = 1 ∨ j = 2 := by omega
       cases f with
       | true =>
        rcases hj3 with rfl | rfl | rfl
        · go_wp2_with fail
          refine (HNU.out n HIN.out.1 _).mono ?_
          rintro r w4 ⟨rfl, hb4⟩
          replace hown := own_ext hown hb4
          replace HAr := hd_ (HAr.out.ext hb4)
          replace HFr := hd_ (HFr.out.ext hb4)
          replace HIr := hd_ (HIr.out.ext hb4)
          replace hbw := bt hbw hb4
          clear hb4 y8 y0 y1 y2 y3 y4 y5 y6 y7 f9 f0 f1 f2 g9 g0 g1 g2
          have hown : w4.ownsRow w.heap.size 9 1 _ (1) (wsC [wd]) := hown
          go_wp2_with (at_builtin; refine wpList_append_own _ rfl _ _ 63 rfl w.heap.size 9 i0 (.string ByteArray.empty) 1 16 Tryz.underlying63 hi0 hz0 hz1 hz2 rfl (by decide) _ (1) (wsC ([wd])) rfl (World.ownsRow.alloc hown _) ⟨w4.heap.size, 0, none⟩ 1 1 [.string (bsO (Lib.itoa n))] rfl rfl ?p01c1 ?p01c2 ?p01c3 ?p01c4 ?p01c5 ?_)
          case p01c1 => exact cell_one_new _ _ _
          case p01c2 => simp [Value.oneCell']
          case p01c3 => simp only [maxLen]; omega
          case p01c4 => omega
          case p01c5 => have := hbw.size; simp; omega
          intro lv6 w6 hown6 hg6 _
          have hbw6 : Below w.heap.size w w6 := (hbw.alloc hbw.size _).grown hg6 (by have := hbw.size; simp; omega) (own_ge hown)
          have HA6 := hd_ (blk_grown ((HAr.out).old (.cells #[.string (bsO (Lib.itoa n))] 9)) hg6 (own_ne hown HAr.out (by decide)))
          have HF6 := hd_ (blk_grown ((HFr.out).old (.cells #[.string (bsO (Lib.itoa n))] 9)) hg6 (own_ne hown HFr.out (by decide)))
          have HI6 := hd_ (blk_grown ((HIr.out).old (.cells #[.string (bsO (Lib.itoa n))] 9)) hg6 (own_ne hown HIr.out (by decide)))
          obtain ⟨y8, y0, y1, y2, y3, y4, y5, y6, y7⟩ := blkA HA6.out
          obtain ⟨f9, f0, f1, f2⟩ := (⟨HF6.out.lt, HF6.out.cell 0, HF6.out.cell 1, HF6.out.cell 2⟩ : w2.heap.size < w6.heap.size ∧ w6.cell? ⟨w2.heap.size, 0, none⟩ = some (.string (bsO wd)) ∧ w6.cell? ⟨w2.heap.size, 1, none⟩ = some (.int .i64 c) ∧ w6.cell? ⟨w2.heap.size, 2, none⟩ = some (.bool true))
          clear hown hbw HAr HFr HIr hg6
          have hown := hown6
          have hbw := hbw6
          have HAr := HA6
          have HFr := HF6
          have HIr := HI6
          clear hown6 hbw6 HA6 HF6 HI6
          have hown : w6.ownsRow w.heap.size 9 1 lv6 2 (wsC [wd, Lib.itoa n]) := hown
          go_wp2_with (at_builtin; refine wpList_append_own _ rfl _ _ 63 rfl w.heap.size 9 i0 (.string ByteArray.empty) 1 16 Tryz.underlying63 hi0 hz0 hz1 hz2 rfl (by decide) _ (2) (wsC ([wd, Lib.itoa n])) rfl (World.ownsRow.alloc hown _) ⟨w6.heap.size, 0, none⟩ 1 1 [.string (bsO (nm.data.toList))] rfl rfl ?pnc1 ?pnc2 ?pnc3 ?pnc4 ?pnc5 ?_)
          case pnc1 => exact cell_one_new _ _ _
          case pnc2 => simp [Value.oneCell']
          case pnc3 => simp only [maxLen]; omega
          case pnc4 => omega
          case pnc5 => have := hbw.size; simp; omega
          intro lv7 w7 hown7 hg7 _
          have hbw7 : Below w.heap.size w w7 := (hbw.alloc hbw.size _).grown hg7 (by have := hbw.size; simp; omega) (own_ge hown)
          have HA7 := hd_ (blk_grown ((HAr.out).old (.cells #[.string (bsO (nm.data.toList))] 9)) hg7 (own_ne hown HAr.out (by decide)))
          have HF7 := hd_ (blk_grown ((HFr.out).old (.cells #[.string (bsO (nm.data.toList))] 9)) hg7 (own_ne hown HFr.out (by decide)))
          have HI7 := hd_ (blk_grown ((HIr.out).old (.cells #[.string (bsO (nm.data.toList))] 9)) hg7 (own_ne hown HIr.out (by decide)))
          clear hown hbw HAr HFr HIr hg7 y8 y0 y1 y2 y3 y4 y5 y6 y7 f9 f0 f1 f2
          go_wp2_with fail
          go_roundw
          case rel => exact ⟨1, by omega, by go_num, hown7, HA7, HF7, HI7, hbw7⟩
          case measure => simp [intOf]; omega
        · go_wp2_with fail
          refine (HNU.out m HIN.out.2.1 _).mono ?_
          rintro r w4 ⟨rfl, hb4⟩
          replace hown := own_ext hown hb4
          replace HAr := hd_ (HAr.out.ext hb4)
          replace HFr := hd_ (HFr.out.ext hb4)
          replace HIr := hd_ (HIr.out.ext hb4)
          replace hbw := bt hbw hb4
          clear hb4 y8 y0 y1 y2 y3 y4 y5 y6 y7 f9 f0 f1 f2 g9 g0 g1 g2
          have hown : w4.ownsRow w.heap.size 9 1 _ (3) (wsC [wd, Lib.itoa n, nm.data.toList]) := hown
          go_wp2_with (at_builtin; refine wpList_append_own _ rfl _ _ 63 rfl w.heap.size 9 i0 (.string ByteArray.empty) 1 16 Tryz.underlying63 hi0 hz0 hz1 hz2 rfl (by decide) _ (3) (wsC ([wd, Lib.itoa n, nm.data.toList])) rfl (World.ownsRow.alloc hown _) ⟨w4.heap.size, 0, none⟩ 1 1 [.string (bsO (Lib.itoa m))] rfl rfl ?p11c1 ?p11c2 ?p11c3 ?p11c4 ?p11c5 ?_)
          case p11c1 => exact cell_one_new _ _ _
          case p11c2 => simp [Value.oneCell']
          case p11c3 => simp only [maxLen]; omega
          case p11c4 => omega
          case p11c5 => have := hbw.size; simp; omega
          intro lv6 w6 hown6 hg6 _
          have hbw6 : Below w.heap.size w w6 := (hbw.alloc hbw.size _).grown hg6 (by have := hbw.size; simp; omega) (own_ge hown)
          have HA6 := hd_ (blk_grown ((HAr.out).old (.cells #[.string (bsO (Lib.itoa m))] 9)) hg6 (own_ne hown HAr.out (by decide)))
          have HF6 := hd_ (blk_grown ((HFr.out).old (.cells #[.string (bsO (Lib.itoa m))] 9)) hg6 (own_ne hown HFr.out (by decide)))
          have HI6 := hd_ (blk_grown ((HIr.out).old (.cells #[.string (bsO (Lib.itoa m))] 9)) hg6 (own_ne hown HIr.out (by decide)))
          obtain ⟨y8, y0, y1, y2, y3, y4, y5, y6, y7⟩ := blkA HA6.out
          obtain ⟨f9, f0, f1, f2⟩ := (⟨HF6.out.lt, HF6.out.cell 0, HF6.out.cell 1, HF6.out.cell 2⟩ : w2.heap.size < w6.heap.size ∧ w6.cell? ⟨w2.heap.size, 0, none⟩ = some (.string (bsO wd)) ∧ w6.cell? ⟨w2.heap.size, 1, none⟩ = some (.int .i64 c) ∧ w6.cell? ⟨w2.heap.size, 2, none⟩ = some (.bool true))
          clear hown hbw HAr HFr HIr hg6
          go_wp2_with fail
          go_roundw
          case rel => exact ⟨2, by omega, by go_num, hown6, HA6, HF6, HI6, hbw6⟩
          case measure => simp [intOf]; omega
        · go_wp2_with fail
          refine (HNU.out q HIN.out.2.2 _).mono ?_
          rintro r w4 ⟨rfl, hb4⟩
          replace hown := own_ext hown hb4
          replace HAr := hd_ (HAr.out.ext hb4)
          replace HFr := hd_ (HFr.out.ext hb4)
          replace HIr := hd_ (HIr.out.ext hb4)
          replace hbw := bt hbw hb4
          clear hb4 y8 y0 y1 y2 y3 y4 y5 y6 y7 f9 f0 f1 f2 g9 g0 g1 g2
          have hown : w4.ownsRow w.heap.size 9 1 _ (4) (wsC [wd, Lib.itoa n, nm.data.toList, Lib.itoa m]) := hown
          go_wp2_with (at_builtin; refine wpList_append_own _ rfl _ _ 63 rfl w.heap.size 9 i0 (.string ByteArray.empty) 1 16 Tryz.underlying63 hi0 hz0 hz1 hz2 rfl (by decide) _ (4) (wsC ([wd, Lib.itoa n, nm.data.toList, Lib.itoa m])) rfl (World.ownsRow.alloc hown _) ⟨w4.heap.size, 0, none⟩ 1 1 [.string (bsO (Lib.itoa q))] rfl rfl ?p21c1 ?p21c2 ?p21c3 ?p21c4 ?p21c5 ?_)
          case p21c1 => exact cell_one_new _ _ _
          case p21c2 => simp [Value.oneCell']
          case p21c3 => simp only [maxLen]; omega
          case p21c4 => omega
          case p21c5 => have := hbw.size; simp; omega
          intro lv6 w6 hown6 hg6 _
          have hbw6 : Below w.heap.size w w6 := (hbw.alloc hbw.size _).grown hg6 (by have := hbw.size; simp; omega) (own_ge hown)
          have HA6 := hd_ (blk_grown ((HAr.out).old (.cells #[.string (bsO (Lib.itoa q))] 9)) hg6 (own_ne hown HAr.out (by decide)))
          have HF6 := hd_ (blk_grown ((HFr.out).old (.cells #[.string (bsO (Lib.itoa q))] 9)) hg6 (own_ne hown HFr.out (by decide)))
          have HI6 := hd_ (blk_grown ((HIr.out).old (.cells #[.string (bsO (Lib.itoa q))] 9)) hg6 (own_ne hown HIr.out (by decide)))
          obtain ⟨y8, y0, y1, y2, y3, y4, y5, y6, y7⟩ := blkA HA6.out
          obtain ⟨f9, f0, f1, f2⟩ := (⟨HF6.out.lt, HF6.out.cell 0, HF6.out.cell 1, HF6.out.cell 2⟩ : w2.heap.size < w6.heap.size ∧ w6.cell? ⟨w2.heap.size, 0, none⟩ = some (.string (bsO wd)) ∧ w6.cell? ⟨w2.heap.size, 1, none⟩ = some (.int .i64 c) ∧ w6.cell? ⟨w2.heap.size, 2, none⟩ = some (.bool true))
          clear hown hbw HAr HFr HIr hg6
          go_wp2_with fail
          go_roundw
          case rel => exact ⟨3, by omega, by go_num, hown6, HA6, HF6, HI6, hbw6⟩
          case measure => simp [intOf]; omega
       | false =>
        rcases hj3 with rfl | rfl | rfl
        · go_wp2_with fail
          refine (HNU.out n HIN.out.1 _).mono ?_
          rintro r w4 ⟨rfl, hb4⟩
          replace hown := own_ext hown hb4
          replace HAr := hd_ (HAr.out.ext hb4)
          replace HFr := hd_ (HFr.out.ext hb4)
          replace HIr := hd_ (HIr.out.ext hb4)
          replace hbw := bt hbw hb4
          clear hb4 y8 y0 y1 y2 y3 y4 y5 y6 y7 f9 f0 f1 f2 g9 g0 g1 g2
          have hown : w4.ownsRow w.heap.size 9 1 _ (1) (wsC [wd]) := hown
          go_wp2_with (at_builtin; refine wpList_append_own _ rfl _ _ 63 rfl w.heap.size 9 i0 (.string ByteArray.empty) 1 16 Tryz.underlying63 hi0 hz0 hz1 hz2 rfl (by decide) _ (1) (wsC ([wd])) rfl (World.ownsRow.alloc hown _) ⟨w4.heap.size, 0, none⟩ 1 1 [.string (bsO (Lib.itoa n))] rfl rfl ?p00c1 ?p00c2 ?p00c3 ?p00c4 ?p00c5 ?_)
          case p00c1 => exact cell_one_new _ _ _
          case p00c2 => simp [Value.oneCell']
          case p00c3 => simp only [maxLen]; omega
          case p00c4 => omega
          case p00c5 => have := hbw.size; simp; omega
          intro lv6 w6 hown6 hg6 _
          have hbw6 : Below w.heap.size w w6 := (hbw.alloc hbw.size _).grown hg6 (by have := hbw.size; simp; omega) (own_ge hown)
          have HA6 := hd_ (blk_grown ((HAr.out).old (.cells #[.string (bsO (Lib.itoa n))] 9)) hg6 (own_ne hown HAr.out (by decide)))
          have HF6 := hd_ (blk_grown ((HFr.out).old (.cells #[.string (bsO (Lib.itoa n))] 9)) hg6 (own_ne hown HFr.out (by decide)))
          have HI6 := hd_ (blk_grown ((HIr.out).old (.cells #[.string (bsO (Lib.itoa n))] 9)) hg6 (own_ne hown HIr.out (by decide)))
          obtain ⟨y8, y0, y1, y2, y3, y4, y5, y6, y7⟩ := blkA HA6.out
          obtain ⟨f9, f0, f1, f2⟩ := (⟨HF6.out.lt, HF6.out.cell 0, HF6.out.cell 1, HF6.out.cell 2⟩ : w2.heap.size < w6.heap.size ∧ w6.cell? ⟨w2.heap.size, 0, none⟩ = some (.string (bsO wd)) ∧ w6.cell? ⟨w2.heap.size, 1, none⟩ = some (.int .i64 c) ∧ w6.cell? ⟨w2.heap.size, 2, none⟩ = some (.bool false))
          clear hown hbw HAr HFr HIr hg6
          go_wp2_with fail
          go_roundw
          case rel => exact ⟨1, by omega, by go_num, hown6, HA6, HF6, HI6, hbw6⟩
          case measure => simp [intOf]; omega
        · go_wp2_with fail
          refine (HNU.out m HIN.out.2.1 _).mono ?_
          rintro r w4 ⟨rfl, hb4⟩
          replace hown := own_ext hown hb4
          replace HAr := hd_ (HAr.out.ext hb4)
          replace HFr := hd_ (HFr.out.ext hb4)
          replace HIr := hd_ (HIr.out.ext hb4)
          replace hbw := bt hbw hb4
          clear hb4 y8 y0 y1 y2 y3 y4 y5 y6 y7 f9 f0 f1 f2 g9 g0 g1 g2
          have hown : w4.ownsRow w.heap.size 9 1 _ (2) (wsC [wd, Lib.itoa n]) := hown
          go_wp2_with (at_builtin; refine wpList_append_own _ rfl _ _ 63 rfl w.heap.size 9 i0 (.string ByteArray.empty) 1 16 Tryz.underlying63 hi0 hz0 hz1 hz2 rfl (by decide) _ (2) (wsC ([wd, Lib.itoa n])) rfl (World.ownsRow.alloc hown _) ⟨w4.heap.size, 0, none⟩ 1 1 [.string (bsO (Lib.itoa m))] rfl rfl ?p10c1 ?p10c2 ?p10c3 ?p10c4 ?p10c5 ?_)
          case p10c1 => exact cell_one_new _ _ _
          case p10c2 => simp [Value.oneCell']
          case p10c3 => simp only [maxLen]; omega
          case p10c4 => omega
          case p10c5 => have := hbw.size; simp; omega
          intro lv6 w6 hown6 hg6 _
          have hbw6 : Below w.heap.size w w6 := (hbw.alloc hbw.size _).grown hg6 (by have := hbw.size; simp; omega) (own_ge hown)
          have HA6 := hd_ (blk_grown ((HAr.out).old (.cells #[.string (bsO (Lib.itoa m))] 9)) hg6 (own_ne hown HAr.out (by decide)))
          have HF6 := hd_ (blk_grown ((HFr.out).old (.cells #[.string (bsO (Lib.itoa m))] 9)) hg6 (own_ne hown HFr.out (by decide)))
          have HI6 := hd_ (blk_grown ((HIr.out).old (.cells #[.string (bsO (Lib.itoa m))] 9)) hg6 (own_ne hown HIr.out (by decide)))
          obtain ⟨y8, y0, y1, y2, y3, y4, y5, y6, y7⟩ := blkA HA6.out
          obtain ⟨f9, f0, f1, f2⟩ := (⟨HF6.out.lt, HF6.out.cell 0, HF6.out.cell 1, HF6.out.cell 2⟩ : w2.heap.size < w6.heap.size ∧ w6.cell? ⟨w2.heap.size, 0, none⟩ = some (.string (bsO wd)) ∧ w6.cell? ⟨w2.heap.size, 1, none⟩ = some (.int .i64 c) ∧ w6.cell? ⟨w2.heap.size, 2, none⟩ = some (.bool false))
          clear hown hbw HAr HFr HIr hg6
          go_wp2_with fail
          go_roundw
          case rel => exact ⟨2, by omega, by go_num, hown6, HA6, HF6, HI6, hbw6⟩
          case measure => simp [intOf]; omega
        · go_wp2_with fail
          refine (HNU.out q HIN.out.2.2 _).mono ?_
          rintro r w4 ⟨rfl, hb4⟩
          replace hown := own_ext hown hb4
          replace HAr := hd_ (HAr.out.ext hb4)
          replace HFr := hd_ (HFr.out.ext hb4)
          replace HIr := hd_ (HIr.out.ext hb4)
          replace hbw := bt hbw hb4
          clear hb4 y8 y0 y1 y2 y3 y4 y5 y6 y7 f9 f0 f1 f2 g9 g0 g1 g2
          have hown : w4.ownsRow w.heap.size 9 1 _ (3) (wsC [wd, Lib.itoa n, Lib.itoa m]) := hown
          go_wp2_with (at_builtin; refine wpList_append_own _ rfl _ _ 63 rfl w.heap.size 9 i0 (.string ByteArray.empty) 1 16 Tryz.underlying63 hi0 hz0 hz1 hz2 rfl (by decide) _ (3) (wsC ([wd, Lib.itoa n, Lib.itoa m])) rfl (World.ownsRow.alloc hown _) ⟨w4.heap.size, 0, none⟩ 1 1 [.string (bsO (Lib.itoa q))] rfl rfl ?p20c1 ?p20c2 ?p20c3 ?p20c4 ?p20c5 ?_)
          case p20c1 => exact cell_one_new _ _ _
          case p20c2 => simp [Value.oneCell']
          case p20c3 => simp only [maxLen]; omega
          case p20c4 => omega
          case p20c5 => have := hbw.size; simp; omega
          intro lv6 w6 hown6 hg6 _
          have hbw6 : Below w.heap.size w w6 := (hbw.alloc hbw.size _).grown hg6 (by have := hbw.size; simp; omega) (own_ge hown)
          have HA6 := hd_ (blk_grown ((HAr.out).old (.cells #[.string (bsO (Lib.itoa q))] 9)) hg6 (own_ne hown HAr.out (by decide)))
          have HF6 := hd_ (blk_grown ((HFr.out).old (.cells #[.string (bsO (Lib.itoa q))] 9)) hg6 (own_ne hown HFr.out (by decide)))
          have HI6 := hd_ (blk_grown ((HIr.out).old (.cells #[.string (bsO (Lib.itoa q))] 9)) hg6 (own_ne hown HIr.out (by decide)))
          obtain ⟨y8, y0, y1, y2, y3, y4, y5, y6, y7⟩ := blkA HA6.out
          obtain ⟨f9, f0, f1, f2⟩ := (⟨HF6.out.lt, HF6.out.cell 0, HF6.out.cell 1, HF6.out.cell 2⟩ : w2.heap.size < w6.heap.size ∧ w6.cell? ⟨w2.heap.size, 0, none⟩ = some (.string (bsO wd)) ∧ w6.cell? ⟨w2.heap.size, 1, none⟩ = some (.int .i64 c) ∧ w6.cell? ⟨w2.heap.size, 2, none⟩ = some (.bool false))
          clear hown hbw HAr HFr HIr hg6
          go_wp2_with fail
          go_roundw
          case rel => exact ⟨3, by omega, by go_num, hown6, HA6, HF6, HI6, hbw6⟩
          case measure => simp [intOf]; omega
     · obtain rfl : j = c := by omega
       have hltI : ¬ (j : Int) < j := by omega
       have hY := HY.out
       have hl1 : (wd :: tlW f ⟨d, k, tb, row, n, m, q, nm⟩ j).length = 1 + (tlW f ⟨d, k, tb, row, n, m, q, nm⟩ j).length := by simp; omega
       have hl5 : (tlW f ⟨d, k, tb, row, n, m, q, nm⟩ j).length ≤ 5 := by
        rcases j with _ | _ | _ | j <;> cases f <;> simp [tlW]
       have HJN := hd_ (refjoin_own w.heap.size _ (wd :: tlW f ⟨d, k, tb, row, n, m, q, nm⟩ j) _ (by rw [hl1]; exact hown) (by rw [hl1]; omega) (by simp) (by have := HLN.out _ hY; omega))
       clear hY hl1 hl5 hlt
       go_wp2_with fail
       refine HJN.out.mono ?_
       rintro r w9 ⟨rfl, hb9⟩
       have hbw9 := bt hbw hb9
       clear hb9 hown hbw y8 y0 y1 y2 y3 y4 y5 y6 y7 f9 f0 f1 f2 g9 g0 g1 g2 HJN
       go_wp2_with fail
       refine bodyPost_ret (v := actP (some (jnW 32 (wd :: tlW f ⟨d, k, tb, row, n, m, q, nm⟩ j)))) (by simp [results, Tryz.results16, go_sem, actP]) rfl ?_
       exact ⟨by rw [HY.out]; rfl, hbw9⟩
theorem refact_any (a : Ac) (hw : a.wf) (A : Option Addr) (c : Nat) (w : World) (hr : VRow w A a.row) (hL : LayS w) :
 Calls Tryz.prog 16 #[a.agg A c] w fun r w' => r = .returned (actP (actT a)) ∧ Below w.heap.size w w' := by
 by_cases hd : a.d = 2
 · by_cases hp : opPre a
   · exact refact_op a hw hd hp A c w hr hL
   · exact refact_opno a hw hd hp A c w
 · exact refact_fm a hw hd A c w
end Go.Proofs.YtfekohonidggjaaGreatDoor
