/- Texts joined by a tool: contracts and walks of this claim. -/
import Derived.Test.YtfekohonidggjaaGreatDoorQ2
import Derived.Test.YtfekohonidggjaaGreatDoorB21
namespace Go.Proofs.YtfekohonidggjaaGreatDoor
open Go.RowKit
set_option maxRecDepth 100000 in
set_option maxHeartbeats 3200000 in
theorem refconf_any (seg bd r0 r1 r2 : Int) (ts : List Ta) (A : Option Addr) (k : Nat) (w : World) (ht : TRow w A k ts) :
  Calls Tryz.prog 36 #[Cf.agg ⟨seg, bd, r0, r1, r2, ts⟩ A k] w fun r w' => r = .returned (.bool (confB ⟨seg, bd, r0, r1, r2, ts⟩)) ∧ Below w.heap.size w w' := by
 have HCK := hd_ (fun (W : World) (hW : Below w.heap.size w W) => refmay_any ts A k W (ht.ext hW))
 have hb0 : Below w.heap.size w (w.alloc (.cells #[.slice A ts.length k, .int .i64 seg, .int .i64 bd, .int .i64 r0, .int .i64 r1, .int .i64 r2] 27)) := bel1 _ _
 have hB := Blk.new w #[.slice A ts.length k, .int .i64 seg, .int .i64 bd, .int .i64 r0, .int .i64 r1, .int .i64 r2] 27
 have HBW := hd_ hb0
 have HB := hd_ hB
 clear ht hb0 hB
 unfold Cf.agg
 simp only
 go_enter Tryz.func36, Tryz.ntmps36
 go_upto_region 1 with fail
 generalize w.alloc (.cells #[.slice A ts.length k, .int .i64 seg, .int .i64 bd, .int .i64 r0, .int .i64 r1, .int .i64 r2] 27) = w1 at HBW HB ⊢
 obtain ⟨d9, d0, d1, d2, d3, d4, d5⟩ := blk6 HB.out
 go_wp2_with fail
 refine wp_loop_rounds 4 ?_
 rw [rounds_succ]
 by_cases a0 : r0 < 0
 · have hN : confB ⟨seg, bd, r0, r1, r2, ts⟩ = false := by simp [confB, rmB]; omega
   have HN := hd_ hN
   clear hN
   go_wp2_with fail
   go_ret
   exact ⟨by rw [HN.out]; rfl, HBW.out⟩
 by_cases b0 : 16777216 < r0
 · have hN : confB ⟨seg, bd, r0, r1, r2, ts⟩ = false := by simp [confB, rmB]; omega
   have HN := hd_ hN
   clear hN
   go_wp2_with fail
   go_ret
   exact ⟨by rw [HN.out]; rfl, HBW.out⟩
 go_wp2_with fail
 rw [rounds_succ]
 by_cases a1 : r1 < 0
 · have hN : confB ⟨seg, bd, r0, r1, r2, ts⟩ = false := by simp [confB, rmB]; omega
   have HN := hd_ hN
   clear hN
   go_wp2_with fail
   go_ret
   exact ⟨by rw [HN.out]; rfl, HBW.out⟩
 by_cases b1 : 16777216 < r1
 · have hN : confB ⟨seg, bd, r0, r1, r2, ts⟩ = false := by simp [confB, rmB]; omega
   have HN := hd_ hN
   clear hN
   go_wp2_with fail
   go_ret
   exact ⟨by rw [HN.out]; rfl, HBW.out⟩
 go_wp2_with fail
 rw [rounds_succ]
 by_cases a2 : r2 < 0
 · have hN : confB ⟨seg, bd, r0, r1, r2, ts⟩ = false := by simp [confB, rmB]; omega
   have HN := hd_ hN
   clear hN
   go_wp2_with fail
   go_ret
   exact ⟨by rw [HN.out]; rfl, HBW.out⟩
 by_cases b2 : 16777216 < r2
 · have hN : confB ⟨seg, bd, r0, r1, r2, ts⟩ = false := by simp [confB, rmB]; omega
   have HN := hd_ hN
   clear hN
   go_wp2_with fail
   go_ret
   exact ⟨by rw [HN.out]; rfl, HBW.out⟩
 go_wp2_with fail
 rw [rounds_succ]
 go_wp2_with fail
 refine (HCK.out w1 HBW.out).mono ?_
 rintro r w2 ⟨rfl, hb2⟩
 have HB2 := hd_ (HB.out.ext hb2)
 have HBW2 := hd_ (bt HBW.out hb2)
 clear hb2 d9 d0 d1 d2 d3 d4 d5
 obtain ⟨d9, d0, d1, d2, d3, d4, d5⟩ := blk6 HB2.out
 cases hs : schB ts with
 | false =>
  have hN : confB ⟨seg, bd, r0, r1, r2, ts⟩ = false := by simp [confB, hs]
  have HN := hd_ hN
  clear hN hs
  go_wp2_with fail
  go_ret
  exact ⟨by rw [HN.out]; rfl, HBW2.out⟩
 | true =>
  by_cases c1 : 1 ≤ seg
  · by_cases c2 : seg ≤ 65536
    · by_cases c3 : 1 ≤ bd
      · by_cases c4 : bd ≤ 4096
        · have hN : confB ⟨seg, bd, r0, r1, r2, ts⟩ = true := by
           simp [confB, rmB, segB, bdB, hs]
           omega
          have HN := hd_ hN
          clear hN hs
          go_wp2_with fail
          go_ret
          exact ⟨by rw [HN.out]; first | rfl | (simp [c4]), HBW2.out⟩
        · have hN : confB ⟨seg, bd, r0, r1, r2, ts⟩ = false := by
           refine Bool.eq_false_iff.2 fun e => ?_
           simp only [confB, rmB, segB, bdB, hs, Bool.and_eq_true, decide_eq_true_eq] at e
           omega
          have HN := hd_ hN
          have c4d : decide (bd ≤ 4096) = false := decide_eq_false c4
          clear hN hs
          go_wp2_with fail
          go_ret
          exact ⟨by rw [HN.out]; first | rfl | (simp [c4]), HBW2.out⟩
      · have hN : confB ⟨seg, bd, r0, r1, r2, ts⟩ = false := by
         refine Bool.eq_false_iff.2 fun e => ?_
         simp only [confB, rmB, segB, bdB, hs, Bool.and_eq_true, decide_eq_true_eq] at e
         omega
        have HN := hd_ hN
        clear hN hs
        go_wp2_with fail
        go_ret
        exact ⟨by rw [HN.out]; rfl, HBW2.out⟩
    · have hN : confB ⟨seg, bd, r0, r1, r2, ts⟩ = false := by
       refine Bool.eq_false_iff.2 fun e => ?_
       simp only [confB, rmB, segB, bdB, hs, Bool.and_eq_true, decide_eq_true_eq] at e
       omega
      have HN := hd_ hN
      clear hN hs
      go_wp2_with fail
      go_ret
      exact ⟨by rw [HN.out]; rfl, HBW2.out⟩
  · have hN : confB ⟨seg, bd, r0, r1, r2, ts⟩ = false := by
     refine Bool.eq_false_iff.2 fun e => ?_
     simp only [confB, rmB, segB, bdB, hs, Bool.and_eq_true, decide_eq_true_eq] at e
     omega
    have HN := hd_ hN
    clear hN hs
    go_wp2_with fail
    go_ret
    exact ⟨by rw [HN.out]; rfl, HBW2.out⟩
theorem kinds_lit : (#[.string ⟨#[]⟩, .string ⟨#[98, 111, 111, 108]⟩, .string ⟨#[105, 110, 116]⟩, .string ⟨#[114, 101, 97, 108]⟩, .string ⟨#[98, 121, 116, 101, 115]⟩, .string ⟨#[115, 116, 114, 105, 110, 103]⟩] : Array Value) = kindsC := rfl
set_option maxRecDepth 100000 in
set_option maxHeartbeats 1600000 in
theorem refcol_any (cl : List UInt8) (ck : Int) (cnl : Bool) (hk : 1 ≤ ck ∧ ck ≤ 5) (hz : cl.length ≤ 140737488355328) (w : World) :
  Calls Tryz.prog 74 #[.agg #[.string (bsO cl), .int .u8 ck, .bool cnl]] w fun r w' => r = .returned (.string (bsO (cl ++ 58 :: kindW ck cnl))) ∧ Below w.heap.size w w' := by
 have W : ∀ W2 : World, W2 = (w.alloc (.cells #[.string (bsO cl), .int .u8 ck, .bool cnl] 111)).alloc (.cells #[.string ⟨#[]⟩, .string ⟨#[98, 111, 111, 108]⟩, .string ⟨#[105, 110, 116]⟩, .string ⟨#[114, 101, 97, 108]⟩, .string ⟨#[98, 121, 116, 101, 115]⟩, .string ⟨#[115, 116, 114, 105, 110, 103]⟩] 9) → Blk W2 w.heap.size #[.string (bsO cl), .int .u8 ck, .bool cnl] 111 ∧ Blk W2 (w.heap.size + 1) #[.string ⟨#[]⟩, .string ⟨#[98, 111, 111, 108]⟩, .string ⟨#[105, 110, 116]⟩, .string ⟨#[114, 101, 97, 108]⟩, .string ⟨#[98, 121, 116, 101, 115]⟩, .string ⟨#[115, 116, 114, 105, 110, 103]⟩] 9 ∧ Below w.heap.size w W2 := by
  rintro W2 rfl
  exact ⟨(by repeat (first | exact Blk.at (by simp) | assumption | refine Blk.drew ?_ | refine Blk.old ?_ _)), (by repeat (first | exact Blk.at (by simp) | assumption | refine Blk.drew ?_ | refine Blk.old ?_ _)), (by repeat (first | exact Below.refl _ _ | assumption | refine Below.drew ?_ | refine below_drewN ?_ _ | refine Below.alloc ?_ (by simp <;> omega) _))⟩
 have hs1 : (bsO cl).size + (⟨#[58]⟩ : ByteArray).size ≤ 9223372036854775807 := by
  rw [bsO_size]
  show _ + 1 ≤ _
  omega
 have hkl := kind_len7 hk false
 have hs2 : (bsO cl ++ ⟨#[58]⟩).size + (bsO (kindW ck false)).size ≤ 9223372036854775807 := by
  rw [ByteArray.size_append, bsO_size (kindW ck false), bsO_size]
  show _ + 1 + _ ≤ _
  omega
 have hcat : bsO cl ++ ⟨#[58]⟩ ++ bsO (kindW ck false) = bsO (cl ++ 58 :: kindW ck false) := by
  rw [show (⟨#[58]⟩ : ByteArray) = bsO [58] from rfl, bsO_app, bsO_app]
  simp
 have HS1 := hd_ hs1
 have HS2 := hd_ hs2
 have HCAT := hd_ hcat
 have HK := hd_ hk
 have HZ := hd_ hz
 have HKL := hd_ hkl
 clear hs1 hs2 hcat hkl hk hz
 go_enter Tryz.func74, Tryz.ntmps74
 go_upto_region 2 with fail
 obtain ⟨hc, hg, hb⟩ := W _ rfl
 clear W
 generalize (w.alloc (.cells #[.string (bsO cl), .int .u8 ck, .bool cnl] 111)).alloc (.cells #[.string ⟨#[]⟩, .string ⟨#[98, 111, 111, 108]⟩, .string ⟨#[105, 110, 116]⟩, .string ⟨#[114, 101, 97, 108]⟩, .string ⟨#[98, 121, 116, 101, 115]⟩, .string ⟨#[115, 116, 114, 105, 110, 103]⟩] 9) = w2 at hc hg hb ⊢
 rw [kinds_lit] at hg
 have HC := hd_ hc
 have HG := hd_ hg
 have HB := hd_ hb
 clear hc hg hb
 refine region_grow [false, false, false, false, true, false, true, true, true, true, true, true, true, true, true, false, false, false, false, false] [6, 7, 8, 9, 10, 11, 12, 13, 14, 4] [.val (.pointer (some ⟨w.heap.size, 0, none⟩)), .val (.string (bsO cl)), .val (.string (bsO cl ++ ⟨#[58]⟩)), .val (.slice (some ⟨w.heap.size + 1, 0, none⟩) 6 6), .val (.pointer (some ⟨w.heap.size, 1, none⟩)), .val (.int .u8 ck), .val (.pointer (some ⟨w.heap.size + 1, ck.toNat, none⟩)), .val (.string (bsO (kindW ck false))), .val (.string (bsO cl ++ ⟨#[58]⟩ ++ bsO (kindW ck false))), .val (.string (bsO cl ++ ⟨#[58]⟩ ++ bsO (kindW ck false)))] [9] (by kernel_rfl) (by kernel_rfl) (by kernel_rfl) (by kernel_rfl) (by kernel_rfl) ⟨?_, ?_, ?_, ?_, ?_, ?_, ?_, ?_, ?_, ?_, trivial⟩ ?done
 case done =>
  intro x w3 hb3
  simp only [StepGoal, overlay, upd, cond_true, cond_false, List.getD_cons_zero, List.getD_cons_succ, Nat.zero_add, Nat.reduceAdd, Nat.reduceEqDiff, reduceIte]
  have HB3 := hd_ (bt HB.out hb3)
  obtain ⟨cL, c0, c1, c2⟩ := blkC (HC.out.ext hb3)
  rw [HCAT.out]
  clear hb3
  cases cnl with
  | false =>
   go_wp2_with fail
   go_ret
   exact ⟨rfl, HB3.out⟩
  | true =>
   have hs3 : (bsO (cl ++ 58 :: kindW ck false)).size + (⟨#[63]⟩ : ByteArray).size ≤ 9223372036854775807 := by
    rw [bsO_size]
    have := HZ.out
    have := HKL.out
    simp only [List.length_append, List.length_cons]
    show _ + 1 ≤ _
    omega
   have hc3 : bsO (cl ++ 58 :: kindW ck false) ++ ⟨#[63]⟩ = bsO (cl ++ 58 :: kindW ck true) := by
    rw [show (⟨#[63]⟩ : ByteArray) = bsO [63] from rfl, bsO_app, kind_null HK.out]
    simp
   have HC3 := hd_ hc3
   clear hc3
   generalize bsO (cl ++ 58 :: kindW ck false) = X at HC3 hs3 ⊢
   go_wp2_with fail
   go_ret
   exact ⟨by rw [← HC3.out]; rfl, HB3.out⟩
 all_goals
  intro x w3 hb3
  obtain ⟨cL, c0, c1, c2⟩ := blkC (HC.out.ext hb3)
  have hr1 := fun W => run_string_add_sum (P := Tryz.prog) W (bsO cl) ⟨#[58]⟩ HS1.out
  have hr2 := fun W => run_string_add_sum (P := Tryz.prog) W (bsO cl ++ ⟨#[58]⟩) (bsO (kindW ck false)) HS2.out
  have hg3 := HG.out.ext hb3
  have hce := kind_cell hg3 HK.out
  have gl := hg3.lt
  have k0 : 0 ≤ ck := by have := HK.out; omega
  have k6 : ck < 6 := by have := HK.out; omega
  intro K hK
  rw [if_pos (by rfl)]; simp only [overlay, upd, cond_true, cond_false, List.getD_cons_zero, List.getD_cons_succ, Nat.reduceEqDiff, reduceIte]
  go_simp
  first
   | exact hK.out _ _ (Below.refl _ _) rfl
set_option maxRecDepth 100000 in
set_option maxHeartbeats 6400000 in
theorem reftab_any (t : Ta) (ht : TabS t) (w : World) (hc : CRow w t.A t.cs) :
  Calls Tryz.prog 34 #[.agg t.cells] w fun r w' => r = .returned (.string (bsO (tabT t))) ∧ Below w.heap.size w w' := by
 have hlen := tab_len ht
 obtain ⟨⟨_, hk, hr, hp⟩, hn, hcs, hcc⟩ := ht
 generalize hT : tabT t = T at hlen ⊢
 have HT := hd_ hT
 obtain ⟨nm, cs, key, ref, par, A, c⟩ := t
 obtain ⟨nl, rfl⟩ : ∃ nl, nm = bsO nl := ⟨_, (bsO_of nm).symm⟩
 simp only at hk hr hp hn hcs hcc hc
 have HNU := hd_ (fun (v : Int) (hv : i64B v) (W : World) => refNumber_any v hv W)
 have HK : Hid (i64B key ∧ i64B ref ∧ i64B par) := ⟨hk, hr, hp⟩
 have HCR := hd_ hc
 have HCC := hd_ hcc
 have HLN := hd_ hlen
 have HCO := hd_ (fun (cl : List UInt8) (ck : Int) (cnl : Bool) (h : 1 ≤ ck ∧ ck ≤ 5) (hz : cl.length ≤ 140737488355328) (W : World) => refcol_any cl ck cnl h hz W)
 obtain ⟨i0, hi0, hz0, hz1, hz2⟩ := info_parts info_txt
 clear hT hk hr hp hcc hc hlen
 unfold Ta.cells
 simp only
 go_enter Tryz.func34, Tryz.ntmps34
 go_upto_region 1 with fail
 have hBk := Blk.new w #[.string (bsO nl), .slice A cs.length c, .int .i64 key, .int .i64 ref, .int .i64 par] 66
 have hBw : Below w.heap.size w (w.alloc (.cells #[.string (bsO nl), .slice A cs.length c, .int .i64 key, .int .i64 ref, .int .i64 par] 66)) := bel1 _ _
 generalize w.alloc (.cells #[.string (bsO nl), .slice A cs.length c, .int .i64 key, .int .i64 ref, .int .i64 par] 66) = w1 at hBk hBw ⊢
 have HBK := hd_ hBk
 have HBW := hd_ hBw
 clear hBk hBw
 refine region_grow [false, false, false, true, false, true, true, true, true, true, true, true, true, true, true, true, true, false, false, false, false, false, false, false, false, false, false, false, false, false, false, false, false, false, false] [5, 6, 7, 8, 9, 10, 11, 12, 13, 14, 15, 16, 3] [.val (.pointer (some ⟨w.heap.size, 0, none⟩)), .val (.string (bsO nl)), .val (.pointer (some ⟨w.heap.size, 2, none⟩)), .val (.int .i64 key), .val (.string (bsO (Lib.itoa key))), .val (.pointer (some ⟨w.heap.size, 3, none⟩)), .val (.int .i64 ref), .val (.string (bsO (Lib.itoa ref))), .val (.pointer (some ⟨w.heap.size, 4, none⟩)), .val (.int .i64 par), .val (.string (bsO (Lib.itoa par))), kRow w.heap.size [tTable, nl, Lib.itoa key, Lib.itoa ref, Lib.itoa par], kRow w.heap.size [tTable, nl, Lib.itoa key, Lib.itoa ref, Lib.itoa par]] [12] (by kernel_rfl) (by kernel_rfl) (by kernel_rfl) (by kernel_rfl) (by kernel_rfl) ⟨?_, ?_, ?_, ?_, ?_, ?_, ?_, ?_, ?_, ?_, ?_, ?_, ?_, trivial⟩ ?done
 case done =>
  intro x w2 hb2
  unfold kRow
  simp only [StepGoal, overlay, upd, cond_true, cond_false, List.getD_cons_zero, List.getD_cons_succ, Nat.zero_add, Nat.reduceAdd, Nat.reduceEqDiff, reduceIte]
  intro v hv
  have hv' : w2.ownsRow w.heap.size 9 1 v (5 + 0) (wsC ([tTable, nl, Lib.itoa key, Lib.itoa ref, Lib.itoa par] ++ (cs.take 0).map colW)) := hv
  have HB2 := hd_ (bt HBW.out hb2)
  have HK2 := hd_ (HBK.out.ext hb2)
  clear hv hb2 HBK HBW
  go_wp2_with fail
  go_loopw [3, 4] (fun lv i wr => ∃ j : Nat, j ≤ cs.length ∧ i = .int .i64 j ∧ wr.ownsRow w.heap.size 9 1 lv (5 + j) (wsC ([tTable, nl, Lib.itoa key, Lib.itoa ref, Lib.itoa par] ++ (cs.take j).map colW)) ∧ Hid (Blk wr w.heap.size #[.string (bsO nl), .slice A cs.length c, .int .i64 key, .int .i64 ref, .int .i64 par] 66) ∧ Hid (Below w.heap.size w wr)) (fun _ i _ => cs.length - (intOf i).toNat)
  case atStart => exact ⟨0, by omega, rfl, hv', HK2, HB2⟩
  case round =>
   obtain ⟨j, hj, rfl, hown, HKr, HBr⟩ := hrel
   clear hv' HB2 HK2
   have tl := HKr.out.lt
   obtain ⟨y0, y1, y2, y3, y4⟩ := blk5 HKr.out
   by_cases hlt : j < cs.length
   · obtain ⟨b, off, cc, rfl, hb, hlk, hmem, hwf, c0, c1, c2⟩ := (HCR.out.ext HBr.out).at_ hlt
     obtain ⟨hk, hnz⟩ := HCC.out cc hmem
     have htk : cs.take (j + 1) = cs.take j ++ [cc] := by
      obtain ⟨h1, h2⟩ := List.getElem?_eq_some_iff.1 hlk
      rw [List.take_succ_eq_append_getElem h1, h2]
     have hltI : (j : Int) < cs.length := by omega
     obtain ⟨cn, ck, cnl⟩ := cc
     obtain ⟨cl, rfl⟩ : ∃ cl, cn = bsO cl := ⟨_, (bsO_of cn).symm⟩
     simp only at c0 c1 c2 hk hnz
     have HC1 := hd_ (HCO.out cl ck cnl hk (by rw [bsO_size] at hnz; omega) wr)
     have HMP : Hid (wsC ([tTable, nl, Lib.itoa key, Lib.itoa ref, Lib.itoa par] ++ (cs.take (j + 1)).map colW) = wsC ([tTable, nl, Lib.itoa key, Lib.itoa ref, Lib.itoa par] ++ (cs.take j).map colW) ++ [.string (bsO (cl ++ 58 :: kindW ck cnl))]) := by
      show _ = _
      rw [htk, List.map_append, ← List.append_assoc, wsC_app]
      rfl
     generalize cl ++ 58 :: kindW ck cnl = X at HC1 HMP
     have HOW := hd_ hown
     clear hlk hmem hwf htk hk hnz hown
     go_wp2_with fail
     refine HC1.out.mono ?_
     rintro r w5 ⟨rfl, hb5⟩
     have hown5 := own_ext HOW.out hb5
     have HK5 := hd_ (HKr.out.ext hb5)
     have hbw5 := bt HBr.out hb5
     have hj8 : j ≤ 8 := by omega
     clear hb5 HOW HKr HBr HC1 tl y0 y1 y2 y3 y4 c0 c1 c2
     generalize hxs : ([tTable, nl, Lib.itoa key, Lib.itoa ref, Lib.itoa par] ++ (cs.take j).map colW) = xs at hown5 HMP
     clear hxs
     go_wp2_with (at_builtin; refine wpList_append_own _ rfl _ _ 63 rfl w.heap.size 9 i0 (.string ByteArray.empty) 1 16 Tryz.underlying63 hi0 hz0 hz1 hz2 rfl (by decide) _ (5 + j) (wsC xs) rfl (World.ownsRow.alloc hown5 _) ⟨w5.heap.size, 0, none⟩ 1 1 [.string (bsO X)] rfl rfl ?zc1 ?zc2 ?zc3 ?zc4 ?zc5 ?_)
     case zc1 => exact cell_one_new _ _ _
     case zc2 => simp [Value.oneCell']
     case zc3 => simp only [maxLen]; omega
     case zc4 => omega
     case zc5 => have := hbw5.size; simp; omega
     intro v' w6 hown6 hg6 _
     rw [← HMP.out] at hown6
     have hbw6 : Below w.heap.size w w6 := (hbw5.alloc hbw5.size _).grown hg6 (by have := hbw5.size; simp; omega) (own_ge hown5)
     have HK6 := hd_ (blk_grown (HK5.out.old (.cells #[.string (bsO X)] 9)) hg6 (own_ne hown5 HK5.out (by decide)))
     have HB6 := hd_ hbw6
     clear hown5 hg6 hbw5 hbw6 HK5
     go_wp2_with fail
     go_roundw
     case rel => exact ⟨j + 1, by omega, by go_num, hown6, HK6, HB6⟩
     case measure => simp [intOf]; omega
   · obtain rfl : j = cs.length := by omega
     rw [List.take_length] at hown
     have hTT : T = jnW 32 ([tTable, nl, Lib.itoa key, Lib.itoa ref, Lib.itoa par] ++ cs.map colW) := HT.out.symm
     obtain ⟨g, cap, rfl, hgb, hglt⟩ := hown.form (by omega)
     have hcl := hown.cells (g := g) rfl
     have hJ := refjoin_any ([tTable, nl, Lib.itoa key, Lib.itoa ref, Lib.itoa par] ++ cs.map colW) (some ⟨g, 0, none⟩) cap wr (by simp; omega) (by rw [← hTT]; have := HLN.out; omega) (fun _ => ⟨g, 0, rfl, hglt, fun j y hj => by
      have hc := hcl j (.string (bsO y)) (by unfold wsC; rw [List.getElem?_map, hj]; rfl)
      rw [addr_addS] at hc
      exact hc⟩)
     rw [← hTT, show ([tTable, nl, Lib.itoa key, Lib.itoa ref, Lib.itoa par] ++ cs.map colW).length = 5 + cs.length by simp; omega] at hJ
     have HJ := hd_ hJ
     clear hown hTT hJ hcl
     go_wp2_with fail
     refine HJ.out.mono ?_
     rintro r w5 ⟨rfl, hb5⟩
     have hb6 := bt HBr.out hb5
     clear hb5 HBr HJ
     go_wp2_with fail
     go_ret
     exact ⟨rfl, hb6⟩
 all_goals
  intro x w2 hb2
  have hbw2 := bt HBW.out hb2
  have tl := (HBK.out.ext hb2).lt
  obtain ⟨y0, y1, y2, y3, y4⟩ := blk5 (HBK.out.ext hb2)
  first
   | (intro K hK
      rw [if_pos (by rfl)]; simp only [overlay, upd, cond_true, cond_false, List.getD_cons_zero, List.getD_cons_succ, Nat.reduceEqDiff, reduceIte]
      go_simp
      first
       | exact hK.out _ _ (Below.refl _ _) rfl
       | exact hK.out _ _ (by repeat (first | exact Below.refl _ _ | assumption | refine Below.drew ?_ | refine below_drewN ?_ _ | refine Below.alloc ?_ (by simp <;> omega) _)) (own_new _ _ [tTable, nl, Lib.itoa key, Lib.itoa ref, Lib.itoa par] hbw2.size (by simp))
       | ((with_reducible refine (HNU.out _ HK.out.1 _).mono ?_); rintro e wa ⟨rfl, hba⟩; go_wp2_with fail; exact hK.out _ _ hba rfl)
       | ((with_reducible refine (HNU.out _ HK.out.2.1 _).mono ?_); rintro e wa ⟨rfl, hba⟩; go_wp2_with fail; exact hK.out _ _ hba rfl)
       | ((with_reducible refine (HNU.out _ HK.out.2.2 _).mono ?_); rintro e wa ⟨rfl, hba⟩; go_wp2_with fail; exact hK.out _ _ hba rfl))
   | (intro v hv K hK
      rw [if_pos (by rfl)]; simp only [overlay, upd, cond_true, cond_false, List.getD_cons_zero, List.getD_cons_succ, Nat.reduceEqDiff, reduceIte]
      go_simp
      exact hK.out _ _ (Below.refl _ _) hv)
   | (intro v hv v2 hv2 K hK
      rw [if_pos (by rfl)]; simp only [overlay, upd, cond_true, cond_false, List.getD_cons_zero, List.getD_cons_succ, Nat.reduceEqDiff, reduceIte]
      go_simp
      exact hK.out _ _ (Below.refl _ _) hv2)
set_option maxRecDepth 100000 in
set_option maxHeartbeats 3200000 in
theorem refcheck31_any (seg bd r0 r1 r2 : Int) (ts : List Ta) (A : Option Addr) (k : Nat) (l : List Am) (L : Option Addr) (lc : Nat) (w : World) (ht : TRow w A k ts) (hl : AmRow w L l) (hL : LayS w) :
  Calls Tryz.prog 13 #[Cf.agg ⟨seg, bd, r0, r1, r2, ts⟩ A k, .slice L l.length lc] w fun r w' => r = .returned (.int .i64 (okE (confB ⟨seg, bd, r0, r1, r2, ts⟩ && actsB l))) ∧ Below w.heap.size w w' := by
 have HCF := hd_ (fun (W : World) (hW : Below w.heap.size w W) => refconf_any seg bd r0 r1 r2 ts A k W (ht.ext hW))
 have HAC := hd_ (fun (x : Am) (hx : x.a.wf) (W : World) (hW : Below w.heap.size w W) (hr : VRow W x.A x.a.row) => refact_any x.a hx x.A x.c W hr (hL.ext hW))
 have HAM := hd_ hl
 have h40 := hl.2.1
 clear ht hl hL
 unfold Cf.agg at HCF ⊢
 simp only at HCF ⊢
 go_enter Tryz.func13, Tryz.ntmps13
 go_wp2_with fail
 have hb0 : Below w.heap.size w (w.alloc (.cells #[.slice A ts.length k, .int .i64 seg, .int .i64 bd, .int .i64 r0, .int .i64 r1, .int .i64 r2] 27)) := bel1 _ _
 refine (HCF.out _ hb0).mono ?_
 cases hcf : confB ⟨seg, bd, r0, r1, r2, ts⟩ with
 | false =>
  rintro r w1 ⟨rfl, hb1⟩
  have hb2 := bt hb0 hb1
  clear hb1 hb0
  have HCC := hd_ hcf
  clear hcf
  go_wp2_with fail
  go_ret
  exact ⟨by rw [HCC.out]; rfl, hb2⟩
 | true =>
  rintro r w1 ⟨rfl, hb1⟩
  have hb2 := bt hb0 hb1
  have HCC := hd_ hcf
  clear hb1 hb0 hcf
  go_wp2_with fail
  go_loopw [5] (fun i wr => ∃ j : Nat, j ≤ l.length ∧ i = .int .i64 j ∧ Hid (actsB (l.take j) = true) ∧ Below w.heap.size w wr) (fun i _ => l.length - (intOf i).toNat)
  case atStart => exact ⟨0, by omega, rfl, (rfl : _ = _), hb2⟩
  case round =>
   obtain ⟨j, hj, rfl, HJ, hbw⟩ := hrel
   clear hb2
   by_cases hlt : j < l.length
   · obtain ⟨b, off, x, rfl, hb, hlk, hmem, hwf, hvr, c0, c1, c2, c3, c4, c5, c6, c7⟩ := (HAM.out.ext hbw).at_ hlt
     have hbA := hbw
     have hAC := HAC.out x hwf wr hbw hvr
     have htk : l.take (j + 1) = l.take j ++ [x] := by
      obtain ⟨h1, h2⟩ := List.getElem?_eq_some_iff.1 hlk
      rw [List.take_succ_eq_append_getElem h1, h2]
     have HTK := hd_ htk
     have HME := hd_ hmem
     have hltI : (j : Int) < l.length := by omega
     obtain ⟨ac, xA, xc⟩ := x
     unfold Ac.agg at hAC
     simp only at c0 c1 c2 c3 c4 c5 c6 c7 hAC
     have HAC2 := hd_ hAC
     have HBA := hd_ hbA
     clear hlk hmem hwf hvr htk hAC hbA hbw
     cases hat : actT ac with
     | none =>
      rw [hat] at HAC2
      have hN : actsB l = false := by
       refine Bool.eq_false_iff.2 fun e => ?_
       have := List.all_eq_true.1 e _ HME.out
       simp only [hat] at this
       cases this
      have HN := hd_ hN
      clear hat hN
      go_wp2_with fail
      refine HAC2.out.mono ?_
      rintro r w3 ⟨rfl, hb3⟩
      have hb4 := HBA.out.trans (hb3.mono HBA.out.size)
      unfold actP
      clear hb3
      go_wp2_with fail
      go_ret
      exact ⟨by rw [HCC.out, HN.out]; rfl, hb4⟩
     | some s =>
      rw [hat] at HAC2
      have HJ2 : Hid (actsB (l.take (j + 1)) = true) := by
       show _ = _
       rw [HTK.out]
       unfold actsB
       rw [List.all_append]
       have := HJ.out
       unfold actsB at this
       rw [this]
       simp [hat]
      clear hat
      go_wp2_with fail
      refine HAC2.out.mono ?_
      rintro r w3 ⟨rfl, hb3⟩
      have hb4 := HBA.out.trans (hb3.mono HBA.out.size)
      unfold actP
      clear hb3
      go_wp2_with fail
      go_roundw
      case rel => exact ⟨j + 1, by omega, by go_num, HJ2, hb4⟩
      case measure => simp [intOf]; omega
   · obtain rfl : j = l.length := by omega
     have hN := HJ.out
     rw [List.take_length] at hN
     have HN := hd_ hN
     clear hN
     go_wp2_with fail
     go_ret
     exact ⟨by rw [HCC.out, HN.out]; rfl, hbw⟩
theorem txF_app (a b : List (List UInt8)) : textF (a ++ b) = textF a ++ textF b := by unfold textF; rw [List.flatMap_append]
theorem txF_one (a : List UInt8) : textF [a] = a ++ [10] := by simp [textF]
theorem txF_len {ls : List (List UInt8)} {B : Nat} (h : ∀ w ∈ ls, w.length ≤ B) : (textF ls).length ≤ ls.length * (B + 1) := by
 induction ls with
 | nil => simp [textF]
 | cons a l ih =>
  have h1 := h a (by simp)
  have h2 := ih (fun w hw => h w (by simp [hw]))
  have h3 : (a :: l).length * (B + 1) = l.length * (B + 1) + (B + 1) := by rw [List.length_cons, Nat.add_mul, Nat.one_mul]
  rw [h3]
  show (textF ([a] ++ l)).length ≤ _
  rw [txF_app, txF_one, List.length_append, List.length_append]
  simp only [List.length_cons, List.length_nil]
  omega
theorem headTx {seg bd r0 r1 r2 : Int} (n1 : i64B seg) (n2 : i64B bd) (n3 : i64B r0) (n4 : i64B r1) (n5 : i64B r2) : ∃ P1 P2 P3 P4 P5 P6 P7 P8 P9 PA PB : List UInt8,
  (((⟨#[115, 101, 103, 32]⟩ : ByteArray) ++ bsO (Lib.itoa seg) = bsO P1) ∧ (bsO P1 ++ ⟨#[10, 98, 111, 117, 110, 100, 32]⟩ = bsO P2) ∧ (bsO P2 ++ bsO (Lib.itoa bd) = bsO P3) ∧ (bsO P3 ++ ⟨#[10, 114, 111, 111, 109, 115, 32]⟩ = bsO P4) ∧ (bsO P4 ++ bsO (Lib.itoa r0) = bsO P5) ∧ (bsO P5 ++ ⟨#[32]⟩ = bsO P6) ∧ (bsO P6 ++ bsO (Lib.itoa r1) = bsO P7) ∧ (bsO P7 ++ ⟨#[32]⟩ = bsO P8) ∧ (bsO P8 ++ bsO (Lib.itoa r2) = bsO P9) ∧ (bsO P9 ++ ⟨#[10]⟩ = bsO PA)) ∧
  (((⟨#[115, 101, 103, 32]⟩ : ByteArray).size + (bsO (Lib.itoa seg)).size ≤ 9223372036854775807) ∧ ((bsO P1).size + (⟨#[10, 98, 111, 117, 110, 100, 32]⟩ : ByteArray).size ≤ 9223372036854775807) ∧ ((bsO P2).size + (bsO (Lib.itoa bd)).size ≤ 9223372036854775807) ∧ ((bsO P3).size + (⟨#[10, 114, 111, 111, 109, 115, 32]⟩ : ByteArray).size ≤ 9223372036854775807) ∧ ((bsO P4).size + (bsO (Lib.itoa r0)).size ≤ 9223372036854775807) ∧ ((bsO P5).size + (⟨#[32]⟩ : ByteArray).size ≤ 9223372036854775807) ∧ ((bsO P6).size + (bsO (Lib.itoa r1)).size ≤ 9223372036854775807) ∧ ((bsO P7).size + (⟨#[32]⟩ : ByteArray).size ≤ 9223372036854775807) ∧ ((bsO P8).size + (bsO (Lib.itoa r2)).size ≤ 9223372036854775807) ∧ ((bsO P9).size + (⟨#[10]⟩ : ByteArray).size ≤ 9223372036854775807)) ∧
  (∀ ts, textF (headLs (mid ⟨seg, bd, r0, r1, r2, ts⟩ [] [])) = PA) ∧ PA.length ≤ 200 ∧ PB = [] := by
 have s1 := itoa_len n1
 have s2 := itoa_len n2
 have s3 := itoa_len n3
 have s4 := itoa_len n4
 have s5 := itoa_len n5
 refine ⟨_, _, _, _, _, _, _, _, _, _, _, ⟨bsO_app [115, 101, 103, 32] _, bsO_app _ [10, 98, 111, 117, 110, 100, 32], bsO_app _ _, bsO_app _ [10, 114, 111, 111, 109, 115, 32], bsO_app _ _, bsO_app _ [32], bsO_app _ _, bsO_app _ [32], bsO_app _ _, bsO_app _ [10]⟩, ⟨?_, ?_, ?_, ?_, ?_, ?_, ?_, ?_, ?_, ?_⟩, ?_, ?_, rfl⟩
 · rw [bsO_size]; show 4 + _ ≤ _; omega
 · rw [bsO_size]; simp only [List.length_append, List.length_cons, List.length_nil]; show _ + 7 ≤ _; omega
 · rw [bsO_size, bsO_size]; simp only [List.length_append, List.length_cons, List.length_nil]; omega
 · rw [bsO_size]; simp only [List.length_append, List.length_cons, List.length_nil]; show _ + 7 ≤ _; omega
 · rw [bsO_size, bsO_size]; simp only [List.length_append, List.length_cons, List.length_nil]; omega
 · rw [bsO_size]; simp only [List.length_append, List.length_cons, List.length_nil]; show _ + 1 ≤ _; omega
 · rw [bsO_size, bsO_size]; simp only [List.length_append, List.length_cons, List.length_nil]; omega
 · rw [bsO_size]; simp only [List.length_append, List.length_cons, List.length_nil]; show _ + 1 ≤ _; omega
 · rw [bsO_size, bsO_size]; simp only [List.length_append, List.length_cons, List.length_nil]; omega
 · rw [bsO_size]; simp only [List.length_append, List.length_cons, List.length_nil]; show _ + 1 ≤ _; omega
 · intro ts; simp [headLs, mid, jnW, tSeg, tBound, tRooms, textF]
 · simp only [List.length_append, List.length_cons, List.length_nil]; omega
set_option maxRecDepth 100000 in
set_option maxHeartbeats 6400000 in
theorem refwrite_any (seg bd r0 r1 r2 : Int) (ts : List Ta) (A : Option Addr) (k : Nat) (l : List Am) (L : Option Addr) (lc : Nat) (w : World) (ht : TRow w A k ts) (hl : AmRow w L l) (hL : LayS w) (hln : l.length ≤ 100000) :
  Calls Tryz.prog 11 #[Cf.agg ⟨seg, bd, r0, r1, r2, ts⟩ A k, .slice L l.length lc] w fun r w' => r = .returned (writeV ⟨seg, bd, r0, r1, r2, ts⟩ (l.map (·.a))) ∧ Below w.heap.size w w' := by
 have HCK := hd_ (fun (W : World) (hW : Below w.heap.size w W) => refcheck31_any seg bd r0 r1 r2 ts A k l L lc W (ht.ext hW) (hl.ext hW) (hL.ext hW))
 have HAC := hd_ (fun (x : Am) (hx : x.a.wf) (W : World) (hW : Below w.heap.size w W) (hr : VRow W x.A x.a.row) => refact_any x.a hx x.A x.c W hr (hL.ext hW))
 have HTB := hd_ (fun (t : Ta) (hx : TabS t) (W : World) (hr : CRow W t.A t.cs) => reftab_any t hx W hr)
 have HNU := hd_ (fun (v : Int) (hv : i64B v) (W : World) => refNumber_any v hv W)
 have HAM := hd_ hl
 have HTR := hd_ ht
 have haw : ∀ a ∈ l.map (·.a), a.wf := fun a ha => by
  obtain ⟨x, hx, rfl⟩ := List.mem_map.1 ha
  exact (hl.1 x hx).1
 have hall : actsB l = (l.map (·.a)).all (fun a => (actT a).isSome) := by unfold actsB; rw [List.all_map]; rfl
 generalize hWV : writeV ⟨seg, bd, r0, r1, r2, ts⟩ (l.map (·.a)) = WV
 have hb0 : Below w.heap.size w (w.alloc (.cells #[.slice A ts.length k, .int .i64 seg, .int .i64 bd, .int .i64 r0, .int .i64 r1, .int .i64 r2] 27)) := bel1 _ _
 have HB0 := hd_ hb0
 have HC0 := hd_ (Blk.new w #[.slice A ts.length k, .int .i64 seg, .int .i64 bd, .int .i64 r0, .int .i64 r1, .int .i64 r2] 27)
 unfold Cf.agg at HCK ⊢
 simp only at HCK ⊢
 cases hok : confB ⟨seg, bd, r0, r1, r2, ts⟩ && actsB l with
 | false =>
  have hN : WV = .tuple #[.string ⟨#[]⟩, .int .i64 2] := by
   rw [← hWV]
   unfold writeV
   rw [← hall, hok]
   rfl
  have HN := hd_ hN
  rw [hok] at HCK
  clear hWV hN hok hall haw ht hl hL hb0
  simp only [okE] at HCK
  go_enter Tryz.func11, Tryz.ntmps11
  go_upto_region 1 with fail
  generalize w.alloc (.cells #[.slice A ts.length k, .int .i64 seg, .int .i64 bd, .int .i64 r0, .int .i64 r1, .int .i64 r2] 27) = w0 at HB0 HC0 ⊢
  obtain ⟨d9, d0, d1, d2, d3, d4, d5⟩ := blk6 HC0.out
  go_wp2_with fail
  refine (HCK.out _ HB0.out).mono ?_
  rintro r w1 ⟨rfl, hb1⟩
  have hb2 := bt HB0.out hb1
  clear hb1 d9 d0 d1 d2 d3 d4 d5 HB0 HC0
  go_wp2_with fail
  go_ret2
  exact ⟨by rw [HN.out]; rfl, hb2⟩
 | true =>
  obtain ⟨hcf, hac⟩ := (Bool.and_eq_true _ _ ▸ hok : confB ⟨seg, bd, r0, r1, r2, ts⟩ = true ∧ actsB l = true)
  have hpar := conf_parts hcf
  obtain ⟨P1, P2, P3, P4, P5, P6, P7, P8, P9, PA, PB, hEQ, hSZ, hHD, hPA, -⟩ := headTx hpar.1.1 hpar.1.2 hpar.2.1.1 hpar.2.1.2.1 hpar.2.1.2.2
  have hN : WV = if (PA ++ textF (ts.map tabT) ++ textF ((l.map (·.a)).map fun a => (actT a).getD [])).length ≤ 1048576 then .tuple #[.string (bsO (PA ++ textF (ts.map tabT) ++ textF ((l.map (·.a)).map fun a => (actT a).getD []))), .int .i64 0] else .tuple #[.string ⟨#[]⟩, .int .i64 5] := by
   rw [← hWV]
   unfold writeV
   rw [← hall, hok, WL_lines]
   unfold WL
   rw [txF_app, txF_app, hHD ts, ← List.append_assoc]
   rfl
  have HN := hd_ hN
  have HPA := hd_ hpar
  have HACT := hd_ hac
  have HEQ := hd_ hEQ
  have HSZ := hd_ hSZ
  have htw : ∀ t ∈ ts, TabS t := fun t h => sch_tabS hpar.2.2 h (ht.1 t h).1
  have hn12 : ts.length ≤ 12 := by
   have := hpar.2.2
   unfold schB at this
   simp only [Bool.and_eq_true, decide_eq_true_eq] at this
   exact this.1.2
  have HTL : Hid (∀ j, (textF ((ts.take j).map tabT)).length ≤ 12 * 100001) := fun j => by
   have h1 := txF_len (ls := (ts.take j).map tabT) (B := 100000) (fun w hw => by
    obtain ⟨t, ht, rfl⟩ := List.mem_map.1 hw
    exact tab_len (htw t (List.mem_of_mem_take ht)))
   have h2 : ((ts.take j).map tabT).length ≤ 12 := by rw [List.length_map, List.length_take]; omega
   exact Nat.le_trans h1 (Nat.mul_le_mul_right _ h2)
  have HAL : Hid (∀ j, (textF ((l.take j).map fun x => (actT x.a).getD [])).length ≤ 100000 * 10001) := fun j => by
   have h1 := txF_len (ls := (l.take j).map fun x => (actT x.a).getD []) (B := 10000) (fun w hw => by
    obtain ⟨x, hx, rfl⟩ := List.mem_map.1 hw
    cases ho : actT x.a with
    | none => simp
    | some s => have := act_len (haw _ (List.mem_map.2 ⟨x, List.mem_of_mem_take hx, rfl⟩)) ho; simpa using this)
   have h2 : ((l.take j).map fun x => (actT x.a).getD []).length ≤ 100000 := by rw [List.length_map, List.length_take]; omega
   exact Nat.le_trans h1 (Nat.mul_le_mul_right _ h2)
  have HTW := hd_ htw
  rw [hok] at HCK
  clear hWV hN hok hall haw ht hl hL hb0 hcf hac hpar hEQ hSZ hHD htw
  simp only [okE] at HCK
  go_enter Tryz.func11, Tryz.ntmps11
  go_upto_region 1 with fail
  generalize w.alloc (.cells #[.slice A ts.length k, .int .i64 seg, .int .i64 bd, .int .i64 r0, .int .i64 r1, .int .i64 r2] 27) = w0 at HB0 HC0 ⊢
  obtain ⟨d9, d0, d1, d2, d3, d4, d5⟩ := blk6 HC0.out
  go_wp2_with fail
  refine (HCK.out _ HB0.out).mono ?_
  rintro r w1 ⟨rfl, hb1⟩
  have HBW := hd_ (bt HB0.out hb1)
  have HCW := hd_ (HC0.out.ext hb1)
  clear hb1 HB0 HC0 HCK d9 d0 d1 d2 d3 d4 d5
  go_upto_region 4 with fail
  refine region_grow [false, false, false, false, false, false, false, true, false, false, false, false, false, false, false, false, false, false, true, true, true, true, true, true, true, true, true, true, true, true, true, true, true, true, true, true, true, true, true, true, true, true, true, true, true, true, false, false, false, false, false, false, false, false, false, false, false, false, false, false, false, false, false, false, false, false, false, false, false, false, false, false, false, false, false, false, false, false, false, false, false, false, false, false, false, false] [18, 19, 20, 21, 22, 23, 24, 25, 26, 27, 28, 29, 30, 31, 32, 33, 34, 35, 36, 37, 38, 39, 40, 41, 42, 43, 44, 45, 7] [.val (.pointer (some ⟨w.heap.size, 1, none⟩)), .val (.int .i64 seg), .val (.string (bsO (Lib.itoa seg))), .val (.string (bsO P1)), .val (.string (bsO P2)), .val (.pointer (some ⟨w.heap.size, 2, none⟩)), .val (.int .i64 bd), .val (.string (bsO (Lib.itoa bd))), .val (.string (bsO P3)), .val (.string (bsO P4)), .val (.pointer (some ⟨w.heap.size, 3, none⟩)), .val (.pointer (some ⟨w.heap.size, 3, none⟩)), .val (.int .i64 r0), .val (.string (bsO (Lib.itoa r0))), .val (.string (bsO P5)), .val (.string (bsO P6)), .val (.pointer (some ⟨w.heap.size, 3, none⟩)), .val (.pointer (some ⟨w.heap.size, 4, none⟩)), .val (.int .i64 r1), .val (.string (bsO (Lib.itoa r1))), .val (.string (bsO P7)), .val (.string (bsO P8)), .val (.pointer (some ⟨w.heap.size, 3, none⟩)), .val (.pointer (some ⟨w.heap.size, 5, none⟩)), .val (.int .i64 r2), .val (.string (bsO (Lib.itoa r2))), .val (.string (bsO P9)), .val (.string (bsO PA)), .val (.string (bsO PA))] [28] (by kernel_rfl) (by kernel_rfl) (by kernel_rfl) (by kernel_rfl) (by kernel_rfl) ⟨?_, ?_, ?_, ?_, ?_, ?_, ?_, ?_, ?_, ?_, ?_, ?_, ?_, ?_, ?_, ?_, ?_, ?_, ?_, ?_, ?_, ?_, ?_, ?_, ?_, ?_, ?_, ?_, ?_, trivial⟩ ?done
  case done =>
   intro x w2 hb2
   simp only [StepGoal, overlay, upd, cond_true, cond_false, List.getD_cons_zero, List.getD_cons_succ, Nat.zero_add, Nat.reduceAdd, Nat.reduceEqDiff, reduceIte]
   have HB2 := hd_ (bt HBW.out hb2)
   have HC2 := hd_ (HCW.out.ext hb2)
   clear hb2 HBW HCW HSZ HEQ
   go_wp2_with fail
   go_loopw [7, 8] (fun sv i wr => ∃ (j : Nat) (X : List UInt8), j ≤ ts.length ∧ i = .int .i64 j ∧ sv = .string (bsO X) ∧ Hid (X = PA ++ textF ((ts.take j).map tabT)) ∧ Hid (Blk wr w.heap.size #[.slice A ts.length k, .int .i64 seg, .int .i64 bd, .int .i64 r0, .int .i64 r1, .int .i64 r2] 27) ∧ Hid (Below w.heap.size w wr)) (fun _ i _ => ts.length - (intOf i).toNat)
   case atStart => exact ⟨0, PA, by omega, rfl, rfl, (by show _ = _; simp [textF]), HC2, HB2⟩
   case round =>
    obtain ⟨j, X, hj, rfl, rfl, HX, HCr, HBr⟩ := hrel
    clear HB2 HC2
    obtain ⟨d9, d0, d1, d2, d3, d4, d5⟩ := blk6 HCr.out
    have hxl : X.length ≤ 2000000 := by
     have := HTL.out j
     rw [HX.out, List.length_append]
     omega
    by_cases hlt : j < ts.length
    · obtain ⟨b, off, t, rfl, hb, hlk, hmem, hwf, hcr, c0, c1, c2, c3, c4⟩ := (HTR.out.ext HBr.out).at_ hlt
      have hts := HTW.out t hmem
      have htl := tab_len hts
      have htk : ts.take (j + 1) = ts.take j ++ [t] := by
       obtain ⟨h1, h2⟩ := List.getElem?_eq_some_iff.1 hlk
       rw [List.take_succ_eq_append_getElem h1, h2]
      have HX2 : Hid (X ++ tabT t ++ [10] = PA ++ textF ((ts.take (j + 1)).map tabT)) := by
       show _ = _
       rw [htk, List.map_append, txF_app, HX.out, List.append_assoc, List.append_assoc]
       congr 2
       exact (txF_one (tabT t)).symm
      have hltI : (j : Int) < ts.length := by omega
      have hTB := HTB.out t hts wr hcr
      obtain ⟨tn, tcs, tk, tr, tp, tA, tc⟩ := t
      generalize tabT ⟨tn, tcs, tk, tr, tp, tA, tc⟩ = Y at HX2 hTB htl
      unfold Ta.cells at hTB
      simp only at c0 c1 c2 c3 c4 hTB
      have HTB2 := hd_ hTB
      have hs1 : (bsO X).size + (bsO Y).size ≤ 9223372036854775807 := by rw [bsO_size, bsO_size]; omega
      have hs2 : (bsO (X ++ Y)).size + (⟨#[10]⟩ : ByteArray).size ≤ 9223372036854775807 := by rw [bsO_size, List.length_append]; show _ + 1 ≤ _; omega
      have hc1 : bsO X ++ bsO Y = bsO (X ++ Y) := bsO_app _ _
      have hc2 : bsO (X ++ Y) ++ ⟨#[10]⟩ = bsO (X ++ Y ++ [10]) := by rw [show (⟨#[10]⟩ : ByteArray) = bsO [10] from rfl, bsO_app]
      have HC12 : Hid (bsO X ++ bsO Y ++ ⟨#[10]⟩ = bsO (X ++ Y ++ [10])) := by show _ = _; rw [hc1, hc2]
      have hs2' : (bsO X ++ bsO Y).size + (⟨#[10]⟩ : ByteArray).size ≤ 9223372036854775807 := by rw [hc1]; exact hs2
      have hq1 := fun W => run_string_add_sum (P := Tryz.prog) W (bsO X) (bsO Y) hs1
      have hq2 := fun W => run_string_add_sum (P := Tryz.prog) W (bsO X ++ bsO Y) ⟨#[10]⟩ hs2'
      clear hlk hmem hwf hcr htk hTB hts hs1 hs2 hs2' hc1 hc2 htl hxl
      go_wp2_with fail
      refine HTB2.out.mono ?_
      rintro r w5 ⟨rfl, hb5⟩
      have HC5 := hd_ (HCr.out.ext hb5)
      have HB5 := hd_ (bt HBr.out hb5)
      clear hb5 HCr HBr d9 d0 d1 d2 d3 d4 d5 c0 c1 c2 c3 c4
      go_wp2_with fail
      go_roundw
      case rel => exact ⟨j + 1, X ++ Y ++ [10], by omega, by go_num, by rw [← HC12.out], HX2, HC5, HB5⟩
      case measure => simp [intOf]; omega
    · obtain rfl : j = ts.length := by omega
      have HXT : Hid (X = PA ++ textF (ts.map tabT)) := by
       have := HX.out
       rw [List.take_length] at this
       exact this
      clear HX
      have HBR := HBr
      go_wp2_with fail
      clear d9 d0 d1 d2 d3 d4 d5
      go_loopw [7, 9] (fun sv i wr => ∃ (j : Nat) (Z : List UInt8), j ≤ l.length ∧ i = .int .i64 j ∧ sv = .string (bsO Z) ∧ Hid (Z = X ++ textF ((l.take j).map fun x => (actT x.a).getD [])) ∧ Hid (Below w.heap.size w wr)) (fun _ i _ => l.length - (intOf i).toNat)
      case atStart => exact ⟨0, X, by omega, rfl, rfl, (by show _ = _; simp [textF]), HBR⟩
      case round =>
       obtain ⟨j, Z, hj, rfl, rfl, HZ, HBq⟩ := hrel
       clear HBR
       have hzl : Z.length ≤ 2000000000 := by
        have := HAL.out j
        rw [HZ.out, List.length_append]
        omega
       by_cases hlt : j < l.length
       · obtain ⟨b, off, x, rfl, hb, hlk, hmem, hwf, hvr, c0, c1, c2, c3, c4, c5, c6, c7⟩ := (HAM.out.ext HBq.out).at_ hlt
         have hAC := HAC.out x hwf wr HBq.out hvr
         obtain ⟨Y, hY⟩ : ∃ X, actT x.a = some X := Option.isSome_iff_exists.1 (List.all_eq_true.1 HACT.out x hmem)
         rw [hY] at hAC
         have hyl := act_len hwf hY
         have htk : l.take (j + 1) = l.take j ++ [x] := by
          obtain ⟨h1, h2⟩ := List.getElem?_eq_some_iff.1 hlk
          rw [List.take_succ_eq_append_getElem h1, h2]
         have HZ2 : Hid (Z ++ Y ++ [10] = X ++ textF ((l.take (j + 1)).map fun x => (actT x.a).getD [])) := by
          show _ = _
          rw [htk, List.map_append, txF_app, HZ.out, List.append_assoc, List.append_assoc]
          congr 2
          have := txF_one Y
          rw [← this]
          simp [hY]
         have hltI : (j : Int) < l.length := by omega
         obtain ⟨ac, xA, xc⟩ := x
         unfold Ac.agg actP at hAC
         simp only at c0 c1 c2 c3 c4 c5 c6 c7 hAC
         have HAC2 := hd_ hAC
         have hs1 : (bsO Z).size + (bsO Y).size ≤ 9223372036854775807 := by rw [bsO_size, bsO_size]; omega
         have hc1 : bsO Z ++ bsO Y = bsO (Z ++ Y) := bsO_app _ _
         have hs2' : (bsO Z ++ bsO Y).size + (⟨#[10]⟩ : ByteArray).size ≤ 9223372036854775807 := by rw [hc1, bsO_size, List.length_append]; show _ + 1 ≤ _; omega
         have HC12 : Hid (bsO Z ++ bsO Y ++ ⟨#[10]⟩ = bsO (Z ++ Y ++ [10])) := by show _ = _; rw [hc1, show (⟨#[10]⟩ : ByteArray) = bsO [10] from rfl, bsO_app]
         have hq1 := fun W => run_string_add_sum (P := Tryz.prog) W (bsO Z) (bsO Y) hs1
         have hq2 := fun W => run_string_add_sum (P := Tryz.prog) W (bsO Z ++ bsO Y) ⟨#[10]⟩ hs2'
         clear hlk hmem hwf hvr htk hAC hs1 hs2' hc1 hyl hzl hY
         go_wp2_with fail
         refine HAC2.out.mono ?_
         rintro r w5 ⟨rfl, hb5⟩
         have HB5 := hd_ (bt HBq.out hb5)
         clear hb5 HBq c0 c1 c2 c3 c4 c5 c6 c7
         go_wp2_with fail
         go_roundw
         case rel => exact ⟨j + 1, Z ++ Y ++ [10], by omega, by go_num, by rw [← HC12.out], HZ2, HB5⟩
         case measure => simp [intOf]; omega
       · obtain rfl : j = l.length := by omega
         have hZT : Z = PA ++ textF (ts.map tabT) ++ textF ((l.map (·.a)).map fun a => (actT a).getD []) := by
          have := HZ.out
          rw [List.take_length, HXT.out] at this
          rw [this, List.map_map]
          rfl
         have hN := HN.out
         rw [← hZT] at hN
         have HN2 := hd_ hN
         clear hZT hN HN HZ HXT
         by_cases hbig : Z.length ≤ 1048576
         · have hN2 := HN2.out
           rw [if_pos hbig] at hN2
           have HN3 := hd_ hN2
           have hbI : ¬ (1048576 : Int) < (bsO Z).size := by rw [bsO_size]; omega
           clear hN2 HN2
           go_wp2_with fail
           go_ret2
           exact ⟨by rw [HN3.out]; rfl, HBq.out⟩
         · have hN2 := HN2.out
           rw [if_neg hbig] at hN2
           have HN3 := hd_ hN2
           have hbI : (1048576 : Int) < (bsO Z).size := by rw [bsO_size]; omega
           clear hN2 HN2
           go_wp2_with fail
           go_ret2
           exact ⟨by rw [HN3.out]; rfl, HBq.out⟩
  all_goals
   intro x w2 hb2
   obtain ⟨d9, d0, d1, d2, d3, d4, d5⟩ := blk6 (HCW.out.ext hb2)
   obtain ⟨⟨n1, n2⟩, ⟨n3, n4, n5⟩, _⟩ := HPA.out
   obtain ⟨z1, z2, z3, z4, z5, z6, z7, z8, z9, za⟩ := HSZ.out
   obtain ⟨e1, e2, e3, e4, e5, e6, e7, e8, e9, ea⟩ := HEQ.out
   have q1 := fun W => run_string_add_sum (P := Tryz.prog) W _ _ z1
   have q2 := fun W => run_string_add_sum (P := Tryz.prog) W _ _ z2
   have q3 := fun W => run_string_add_sum (P := Tryz.prog) W _ _ z3
   have q4 := fun W => run_string_add_sum (P := Tryz.prog) W _ _ z4
   have q5 := fun W => run_string_add_sum (P := Tryz.prog) W _ _ z5
   have q6 := fun W => run_string_add_sum (P := Tryz.prog) W _ _ z6
   have q7 := fun W => run_string_add_sum (P := Tryz.prog) W _ _ z7
   have q8 := fun W => run_string_add_sum (P := Tryz.prog) W _ _ z8
   have q9 := fun W => run_string_add_sum (P := Tryz.prog) W _ _ z9
   have qa := fun W => run_string_add_sum (P := Tryz.prog) W _ _ za
   rw [e1] at q1
   rw [e2] at q2
   rw [e3] at q3
   rw [e4] at q4
   rw [e5] at q5
   rw [e6] at q6
   rw [e7] at q7
   rw [e8] at q8
   rw [e9] at q9
   rw [ea] at qa
   clear z1 z2 z3 z4 z5 z6 z7 z8 z9 za e1 e2 e3 e4 e5 e6 e7 e8 e9 ea
   intro K hK
   rw [if_pos (by rfl)]; simp only [overlay, upd, cond_true, cond_false, List.getD_cons_zero, List.getD_cons_succ, Nat.reduceEqDiff, reduceIte]
   go_simp
   first
    | exact hK.out _ _ (Below.refl _ _) rfl
    | ((with_reducible refine (HNU.out _ n1 _).mono ?_); rintro e wa ⟨rfl, hba⟩; go_wp2_with fail; exact hK.out _ _ hba rfl)
    | ((with_reducible refine (HNU.out _ n2 _).mono ?_); rintro e wa ⟨rfl, hba⟩; go_wp2_with fail; exact hK.out _ _ hba rfl)
    | ((with_reducible refine (HNU.out _ n3 _).mono ?_); rintro e wa ⟨rfl, hba⟩; go_wp2_with fail; exact hK.out _ _ hba rfl)
    | ((with_reducible refine (HNU.out _ n4 _).mono ?_); rintro e wa ⟨rfl, hba⟩; go_wp2_with fail; exact hK.out _ _ hba rfl)
    | ((with_reducible refine (HNU.out _ n5 _).mono ?_); rintro e wa ⟨rfl, hba⟩; go_wp2_with fail; exact hK.out _ _ hba rfl)
end Go.Proofs.YtfekohonidggjaaGreatDoor
