/- Texts joined by a tool: contracts and walks of this claim. -/
import Derived.Test.YtfekohonidggjaaGreatDoorB18
import Derived.ChangeKeysEq
namespace Go.Proofs.YtfekohonidggjaaGreatDoor
open Go.RowKit
def kindsC : Array Value := #[kd [], kd (kindW 1 false), kd (kindW 2 false), kd (kindW 3 false), kd (kindW 4 false), kd (kindW 5 false)]
def kKindAt (k : Int) : Known := .mem (fun v w => ∃ g, v = .pointer (some ⟨g, k.toNat, none⟩) ∧ Blk w g kindsC 9) (fun _ _ _ ⟨g, h1, h2⟩ hb => ⟨g, h1, h2.ext hb⟩)
theorem kind_cell {w : World} {g : Nat} {k : Int} (h : Blk w g kindsC 9) (hk : 1 ≤ k ∧ k ≤ 5) : w.cell? ⟨g, k.toNat, none⟩ = some (.string (bsO (kindW k false))) := by
 rw [h.cell]
 have : k = 1 ∨ k = 2 ∨ k = 3 ∨ k = 4 ∨ k = 5 := by omega
 rcases this with rfl | rfl | rfl | rfl | rfl <;> rfl
theorem kind_null {k : Int} (hk : 1 ≤ k ∧ k ≤ 5) : kindW k true = kindW k false ++ [63] := by
 have : k = 1 ∨ k = 2 ∨ k = 3 ∨ k = 4 ∨ k = 5 := by omega
 rcases this with rfl | rfl | rfl | rfl | rfl <;> decide
theorem kind_len7 {k : Int} (hk : 1 ≤ k ∧ k ≤ 5) (nl : Bool) : (kindW k nl).length ≤ 7 := by
 have : k = 1 ∨ k = 2 ∨ k = 3 ∨ k = 4 ∨ k = 5 := by omega
 rcases this with rfl | rfl | rfl | rfl | rfl <;> cases nl <;> decide
theorem blkC {w : World} {b : Nat} {a : ByteArray} {k : Int} {n : Bool} {t : TypeId} (h : Blk w b #[.string a, .int .u8 k, .bool n] t) :
 b < w.heap.size ∧ w.cell? ⟨b, 0, none⟩ = some (.string a) ∧ w.cell? ⟨b, 1, none⟩ = some (.int .u8 k) ∧ w.cell? ⟨b, 2, none⟩ = some (.bool n) := by
 have e0 := h.cell 0
 have e1 := h.cell 1
 have e2 := h.cell 2
 simp only [List.getElem?_toArray, List.getElem?_cons_zero, List.getElem?_cons_succ] at e0 e1 e2
 exact ⟨h.lt, e0, e1, e2⟩
structure TabS (t : Ta) : Prop where
 wf : t.wf
 nm : t.nm.size ≤ 1000
 n : t.cs.length ≤ 8
 cs : ∀ c ∈ t.cs, (1 ≤ c.k ∧ c.k ≤ 5) ∧ c.nm.size ≤ 1000
theorem tab_len {t : Ta} (h : TabS t) : (tabT t).length ≤ 100000 := by
 unfold tabT
 have key : ∀ w ∈ tabW t, w.length ≤ 2000 := by
  intro w hw
  obtain ⟨_, h1, h2, h3⟩ := h.wf
  have hl : t.nm.data.toList.length = t.nm.size := by simp
  unfold tabW at hw
  simp only [List.mem_cons, List.mem_map] at hw
  rcases hw with rfl | rfl | rfl | rfl | rfl | ⟨c, hc, rfl⟩
  · decide
  · have := h.nm; omega
  · have := itoa_len h1; omega
  · have := itoa_len h2; omega
  · have := itoa_len h3; omega
  · obtain ⟨hk, hn⟩ := h.cs c hc
    have := kind_len7 hk c.nl
    have hl2 : c.nm.data.toList.length = c.nm.size := by simp
    unfold colW
    simp only [List.length_append, List.length_cons]
    omega
 have hc : (tabW t).length ≤ 13 := by
  have := h.n
  unfold tabW
  simp
  omega
 have h1 := jn_le 32 2000 (tabW t) key
 have h2 : (tabW t).length * (2000 + 1) ≤ 13 * 2001 := Nat.mul_le_mul_right _ hc
 omega
set_option maxRecDepth 100000 in
set_option maxHeartbeats 6400000 in
theorem tabT_any (t : Ta) (ht : TabS t) (w : World) (hc : CRow w t.A t.cs) (hL : LayS w) :
 Calls Tryz.prog 31 #[.agg t.cells] w fun r w' => r = .returned (.string (bsO (tabT t))) ∧ Below w.heap.size w w' := by
 have hlen := tab_len ht
 obtain ⟨⟨_, hk, hr, hp⟩, hn, hcs, hcc⟩ := ht
 generalize hT : tabT t = T at hlen ⊢
 have HT := hd_ hT
 obtain ⟨nm, cs, key, ref, par, A, c⟩ := t
 obtain ⟨nl, rfl⟩ : ∃ nl, nm = bsO nl := ⟨_, (bsO_of nm).symm⟩
 simp only at hk hr hp hn hcs hcc hc
 have HNU := hd_ (fun (v : Int) (hv : i64B v) (W : World) (hW : Below w.heap.size w W) => number_any v hv W (hL.ext hW))
 have HK : Hid (i64B key ∧ i64B ref ∧ i64B par) := ⟨hk, hr, hp⟩
 have HKI := hd_ (fun W : World => kinds_any W)
 have HCR := hd_ hc
 have HCC := hd_ hcc
 have HLN := hd_ hlen
 obtain ⟨i0, hi0, hz0, hz1, hz2⟩ := info_parts info_txt
 clear hT hk hr hp hcc hc hL hlen
 unfold Ta.cells
 simp only
 go_enter Tryz.func31, Tryz.ntmps31
 go_upto_region 1 with fail
 have hBk := Blk.new w #[.string (bsO nl), .slice A cs.length c, .int .i64 key, .int .i64 ref, .int .i64 par] 66
 have hBw : Below w.heap.size w (w.alloc (.cells #[.string (bsO nl), .slice A cs.length c, .int .i64 key, .int .i64 ref, .int .i64 par] 66)) := bel1 _ _
 generalize w.alloc (.cells #[.string (bsO nl), .slice A cs.length c, .int .i64 key, .int .i64 ref, .int .i64 par] 66) = w1 at hBk hBw ⊢
 have HBK := hd_ hBk
 have HBW := hd_ hBw
 clear hBk hBw
 refine region_grow [false, false, false, true, false, false, false, true, true, true, true, true, true, true, true, true, true, true, true, false, false, false, false, false, false, false, false, false, false, false, false, false, false, false, false, false, false, false, false, false, false, false, false, false, false, false] [7, 8, 9, 10, 11, 12, 13, 14, 15, 16, 17, 18, 3] [.val (.pointer (some ⟨w.heap.size, 0, none⟩)), .val (.string (bsO nl)), .val (.pointer (some ⟨w.heap.size, 2, none⟩)), .val (.int .i64 key), .val (.string (bsO (Lib.itoa key))), .val (.pointer (some ⟨w.heap.size, 3, none⟩)), .val (.int .i64 ref), .val (.string (bsO (Lib.itoa ref))), .val (.pointer (some ⟨w.heap.size, 4, none⟩)), .val (.int .i64 par), .val (.string (bsO (Lib.itoa par))), kRow w.heap.size [tTable, nl, Lib.itoa key, Lib.itoa ref, Lib.itoa par], kRow w.heap.size [tTable, nl, Lib.itoa key, Lib.itoa ref, Lib.itoa par]] [12] (by kernel_rfl) (by kernel_rfl) (by kernel_rfl) (by kernel_rfl) (by kernel_rfl) ⟨?_, ?_, ?_, ?_, ?_, ?_, ?_, ?_, ?_, ?_, ?_, ?_, ?_, trivial⟩ ?done
 case done =>
  intro x w2 hb2
  unfold kRow
  simp only [StepGoal, overlay, upd, cond_true, cond_false, List.getD_cons_zero, List.getD_cons_succ, Nat.zero_add, Nat.reduceAdd, Nat.reduceEqDiff, reduceIte]
  intro v hv
  have hv' : w2.ownsRow w.heap.size 9 1 v (5 + 0) (wsC ([tTable, nl, Lib.itoa key, Lib.itoa ref, Lib.itoa par] ++ (cs.take 0).map colW)) := hv
  have hbw2 := bt HBW.out hb2
  obtain ⟨y0, y1, y2, y3, y4⟩ := blk5 (HBK.out.ext hb2)
  clear hv hb2
  go_wp2_with fail
  clear y0 y1 y2 y3 y4
  go_loopw [3, 22] (fun lv i wr => ∃ j : Nat, j ≤ cs.length ∧ i = .int .i64 j ∧ wr.ownsRow w.heap.size 9 1 lv (5 + j) (wsC ([tTable, nl, Lib.itoa key, Lib.itoa ref, Lib.itoa par] ++ (cs.take j).map colW)) ∧ Below w.heap.size w wr) (fun _ i _ => cs.length - (intOf i).toNat)
  case atStart => exact ⟨0, by omega, rfl, hv', hbw2⟩
  case round =>
   obtain ⟨j, hj, rfl, hown, hbw⟩ := hrel
   clear hv' hbw2
   by_cases hlt : j < cs.length
   · obtain ⟨b, off, cc, rfl, hb, hlk, hmem, hwf, c0, c1, c2⟩ := (HCR.out.ext hbw).at_ hlt
     obtain ⟨hk, hnz⟩ := HCC.out cc hmem
     have htk : cs.take (j + 1) = cs.take j ++ [cc] := by
      obtain ⟨h1, h2⟩ := List.getElem?_eq_some_iff.1 hlk
      rw [List.take_succ_eq_append_getElem h1, h2]
     have HTK := hd_ htk
     have hltI : (j : Int) < cs.length := by omega
     obtain ⟨cn, ck, cnl⟩ := cc
     obtain ⟨cl, rfl⟩ : ∃ cl, cn = bsO cl := ⟨_, (bsO_of cn).symm⟩
     simp only at c0 c1 c2 hk hnz
     have HKK := hd_ hk
     have hs1 : (bsO cl).size + (⟨#[58]⟩ : ByteArray).size ≤ 9223372036854775807 := by
      show _ + 1 ≤ _
      omega
     have hkl := kind_len7 hk false
     have hs2 : (bsO cl ++ ⟨#[58]⟩).size + (bsO (kindW ck false)).size ≤ 9223372036854775807 := by
      rw [ByteArray.size_append, bsO_size (kindW ck false)]
      show _ + 1 + _ ≤ _
      omega
     have hcat : bsO cl ++ ⟨#[58]⟩ ++ bsO (kindW ck false) = bsO (cl ++ 58 :: kindW ck false) := by
      rw [show (⟨#[58]⟩ : ByteArray) = bsO [58] from rfl, bsO_app, bsO_app]
      simp
     have HS1 := hd_ hs1
     have HS2 := hd_ hs2
     have HCAT := hd_ hcat
     have HOW := hd_ hown
     have HBR := hd_ hbw
     have HSZ : Hid (cl.length ≤ 1000) := by rw [bsO_size] at hnz; exact hnz
     clear hlk hmem hwf htk hk hnz hs1 hs2 hkl hcat hown hbw
     go_upto_region 5 with fail
     have hCB := Blk.new wr #[.string (bsO cl), .int .u8 ck, .bool cnl] 111
     have hbC := HBR.out.alloc HBR.out.size (.cells #[.string (bsO cl), .int .u8 ck, .bool cnl] 111)
     have hownC := HOW.out.alloc (.cells #[.string (bsO cl), .int .u8 ck, .bool cnl] 111)
     have HCB := hd_ hCB
     have HBC := hd_ hbC
     have HOC := hd_ hownC
     clear hCB hbC hownC HOW HBR c0 c1 c2
     generalize wr.heap.size = cb at HCB ⊢
     generalize wr.alloc (.cells #[.string (bsO cl), .int .u8 ck, .bool cnl] 111) = w4 at HCB HBC HOC ⊢
     refine region_grow [false, false, false, false, false, false, true, false, false, false, false, false, false, false, false, false, false, false, false, false, false, false, false, false, false, false, true, true, true, true, true, true, true, true, true, false, false, false, false, false, false, false, false, false, false, false] [26, 27, 28, 29, 30, 31, 32, 33, 34, 6] [.val (.pointer (some ⟨cb, 0, none⟩)), .val (.string (bsO cl)), .val (.string (bsO cl ++ ⟨#[58]⟩)), .new (fun g => .slice (some ⟨g, 0, none⟩) 6 6) kindsC 9, .val (.pointer (some ⟨cb, 1, none⟩)), .val (.int .u8 ck), kKindAt ck, .val (.string (bsO (kindW ck false))), .val (.string (bsO cl ++ ⟨#[58]⟩ ++ bsO (kindW ck false))), .val (.string (bsO cl ++ ⟨#[58]⟩ ++ bsO (kindW ck false)))] [9] (by kernel_rfl) (by kernel_rfl) (by kernel_rfl) (by kernel_rfl) (by kernel_rfl) ⟨?_, ?_, ?_, ?_, ?_, ?_, ?_, ?_, ?_, ?_, trivial⟩ ?done
     case done =>
      intro x w5 hb5
      simp only [StepGoal, overlay, upd, cond_true, cond_false, List.getD_cons_zero, List.getD_cons_succ, Nat.zero_add, Nat.reduceAdd, Nat.reduceEqDiff, reduceIte]
      have HBC5 := hd_ (bt HBC.out hb5)
      have HOC5 := hd_ (own_ext HOC.out hb5)
      have HCB5 := hd_ (HCB.out.ext hb5)
      obtain ⟨cL, c0, c1, c2⟩ := blkC HCB5.out
      have hle : (cl ++ 58 :: kindW ck false).length ≤ 1010 := by
       have := HSZ.out
       have := kind_len7 HKK.out false
       simp only [List.length_append, List.length_cons]
       omega
      rw [HCAT.out]
      clear hb5 HBC HOC HCB HS1 HS2
      generalize hX : cl ++ 58 :: kindW ck false = X at hle ⊢
      have HX := hd_ hX
      clear hX
      cases cnl with
      | false =>
       have HMP : Hid (wsC ([tTable, nl, Lib.itoa key, Lib.itoa ref, Lib.itoa par] ++ (cs.take (j + 1)).map colW) = wsC ([tTable, nl, Lib.itoa key, Lib.itoa ref, Lib.itoa par] ++ (cs.take j).map colW) ++ [.string (bsO X)]) := by
        show _ = _
        rw [HTK.out, List.map_append, ← List.append_assoc, wsC_app]
        congr 1
        show [Value.string (bsO (cl ++ 58 :: kindW ck false))] = _
        rw [HX.out]
       clear hle
       generalize hxs : ([tTable, nl, Lib.itoa key, Lib.itoa ref, Lib.itoa par] ++ (cs.take j).map colW) = xs at HOC5 HMP
       clear hxs
       have hown5 := HOC5.out
       have hj8 : j ≤ 8 := by omega
       go_wp2_with (at_builtin; refine wpList_append_own _ rfl _ _ 63 rfl w.heap.size 9 i0 (.string ByteArray.empty) 1 16 Tryz.underlying63 hi0 hz0 hz1 hz2 rfl (by decide) _ (5 + j) (wsC xs) rfl (World.ownsRow.alloc hown5 _) ⟨w5.heap.size, 0, none⟩ 1 1 [.string (bsO X)] rfl rfl ?zc1 ?zc2 ?zc3 ?zc4 ?zc5 ?_)
       case zc1 => exact cell_one_new _ _ _
       case zc2 => simp [Value.oneCell']
       case zc3 => simp only [maxLen]; omega
       case zc4 => omega
       case zc5 => have := HBC5.out.size; simp; omega
       intro v' w6 hown6 hg6 _
       rw [← HMP.out] at hown6
       have hbw6 : Below w.heap.size w w6 := (HBC5.out.alloc HBC5.out.size _).grown hg6 (by have := HBC5.out.size; simp; omega) (own_ge hown5)
       clear hown5 hg6 HOC5 HBC5 HCB5 c0 c1 c2
       go_wp2_with fail
       go_roundw
       case rel => exact ⟨j + 1, by omega, by go_num, hown6, hbw6⟩
       case measure => simp [intOf]; omega
      | true =>
       have hs3 : (bsO X).size + (⟨#[63]⟩ : ByteArray).size ≤ 9223372036854775807 := by
        rw [bsO_size]
        show _ + 1 ≤ _
        omega
       have hc3 : bsO X ++ ⟨#[63]⟩ = bsO (X ++ [63]) := by rw [show (⟨#[63]⟩ : ByteArray) = bsO [63] from rfl, bsO_app]
       have HMP : Hid (wsC ([tTable, nl, Lib.itoa key, Lib.itoa ref, Lib.itoa par] ++ (cs.take (j + 1)).map colW) = wsC ([tTable, nl, Lib.itoa key, Lib.itoa ref, Lib.itoa par] ++ (cs.take j).map colW) ++ [.string (bsO (X ++ [63]))]) := by
        show _ = _
        rw [HTK.out, List.map_append, ← List.append_assoc, wsC_app]
        congr 1
        show [Value.string (bsO (cl ++ 58 :: kindW ck true))] = _
        rw [← HX.out, kind_null HKK.out]
        simp
       have HC3 := hd_ hc3
       clear hle hc3
       generalize hxs : ([tTable, nl, Lib.itoa key, Lib.itoa ref, Lib.itoa par] ++ (cs.take j).map colW) = xs at HOC5 HMP
       clear hxs
       go_upto_region 8 with fail
       rw [HC3.out]
       have hown5 := HOC5.out
       have hj8 : j ≤ 8 := by omega
       go_wp2_with (at_builtin; refine wpList_append_own _ rfl _ _ 63 rfl w.heap.size 9 i0 (.string ByteArray.empty) 1 16 Tryz.underlying63 hi0 hz0 hz1 hz2 rfl (by decide) _ (5 + j) (wsC xs) rfl (World.ownsRow.alloc hown5 _) ⟨w5.heap.size, 0, none⟩ 1 1 [.string (bsO (X ++ [63]))] rfl rfl ?zc1 ?zc2 ?zc3 ?zc4 ?zc5 ?_)
       case zc1 => exact cell_one_new _ _ _
       case zc2 => simp [Value.oneCell']
       case zc3 => simp only [maxLen]; omega
       case zc4 => omega
       case zc5 => have := HBC5.out.size; simp; omega
       intro v' w6 hown6 hg6 _
       rw [← HMP.out] at hown6
       have hbw6 : Below w.heap.size w w6 := (HBC5.out.alloc HBC5.out.size _).grown hg6 (by have := HBC5.out.size; simp; omega) (own_ge hown5)
       clear hown5 hg6 HOC5 HBC5 HCB5 c0 c1 c2
       go_wp2_with fail
       go_roundw
       case rel => exact ⟨j + 1, by omega, by go_num, hown6, hbw6⟩
       case measure => simp [intOf]; omega
     all_goals
      intro x w5 hb5
      obtain ⟨_, c0, c1, c2⟩ := blkC (HCB.out.ext hb5)
      have hr1 := fun W => run_string_add_sum (P := Tryz.prog) W (bsO cl) ⟨#[58]⟩ HS1.out
      have hr2 := fun W => run_string_add_sum (P := Tryz.prog) W (bsO cl ++ ⟨#[58]⟩) (bsO (kindW ck false)) HS2.out
      have k0 : 0 ≤ ck := by have := HKK.out; omega
      have k6 : ck < 6 := by have := HKK.out; omega
      first
       | (intro K hK
          rw [if_pos (by rfl)]; simp only [overlay, upd, cond_true, cond_false, List.getD_cons_zero, List.getD_cons_succ, Nat.reduceEqDiff, reduceIte]
          go_simp
          first
           | exact hK.out _ _ (Below.refl _ _) rfl
           | ((with_reducible refine (HKI.out _).mono ?_); rintro e wa ⟨rfl, hbk, hba⟩; go_wp2_with fail; exact hK.out _ _ hba ⟨_, rfl, hbk⟩))
       | (intro bq hq K hK
          have hlt := hq.lt
          rw [if_pos (by rfl)]; simp only [overlay, upd, cond_true, cond_false, List.getD_cons_zero, List.getD_cons_succ, Nat.reduceEqDiff, reduceIte]
          go_simp
          first
           | exact hK.out _ _ (Below.refl _ _) ⟨_, rfl, hq⟩
           | exact hK.out _ _ (Below.refl _ _) rfl)
       | (rintro v ⟨g, rfl, hg⟩ K hK
          have hce := kind_cell hg HKK.out
          rw [if_pos (by rfl)]; simp only [overlay, upd, cond_true, cond_false, List.getD_cons_zero, List.getD_cons_succ, Nat.reduceEqDiff, reduceIte]
          go_simp
          exact hK.out _ _ (Below.refl _ _) rfl)
       | (intro bq hq v hv K hK
          rw [if_pos (by rfl)]; simp only [overlay, upd, cond_true, cond_false, List.getD_cons_zero, List.getD_cons_succ, Nat.reduceEqDiff, reduceIte]
          go_simp
          exact hK.out _ _ (Below.refl _ _) rfl)
       | (intro bq hq bq2 hq2 v hv K hK
          rw [if_pos (by rfl)]; simp only [overlay, upd, cond_true, cond_false, List.getD_cons_zero, List.getD_cons_succ, Nat.reduceEqDiff, reduceIte]
          go_simp
          exact hK.out _ _ (Below.refl _ _) rfl)
   · obtain rfl : j = cs.length := by omega
     rw [List.take_length] at hown
     have hTT : T = jnW 32 ([tTable, nl, Lib.itoa key, Lib.itoa ref, Lib.itoa par] ++ cs.map colW) := HT.out.symm
     have hJ := join_own w.heap.size _ ([tTable, nl, Lib.itoa key, Lib.itoa ref, Lib.itoa par] ++ cs.map colW) 32 wr (by
      rw [show ([tTable, nl, Lib.itoa key, Lib.itoa ref, Lib.itoa par] ++ cs.map colW).length = 5 + cs.length by simp; omega]
      exact hown) (by simp) (by rw [← hTT]; have := HLN.out; omega)
     rw [← hTT] at hJ
     have HJ := hd_ hJ
     clear hown hTT hJ
     go_wp2_with fail
     refine HJ.out.mono ?_
     rintro r w5 ⟨rfl, hb5⟩
     have hb6 := bt hbw hb5
     clear hb5 hbw HJ
     go_wp2_with fail
     go_ret
     exact ⟨rfl, hb6⟩
 all_goals
  intro x w2 hb2
  have hbw2 := bt HBW.out hb2
  obtain ⟨y0, y1, y2, y3, y4⟩ := blk5 (HBK.out.ext hb2)
  first
   | (intro K hK
      rw [if_pos (by rfl)]; simp only [overlay, upd, cond_true, cond_false, List.getD_cons_zero, List.getD_cons_succ, Nat.reduceEqDiff, reduceIte]
      go_simp
      first
       | exact hK.out _ _ (Below.refl _ _) rfl
       | exact hK.out _ _ (by repeat (first | exact Below.refl _ _ | assumption | refine Below.drew ?_ | refine below_drewN ?_ _ | refine Below.alloc ?_ (by simp <;> omega) _)) (own_new _ _ [tTable, nl, Lib.itoa key, Lib.itoa ref, Lib.itoa par] hbw2.size (by simp))
       | ((with_reducible refine (HNU.out _ HK.out.1 _ hbw2).mono ?_); rintro e wa ⟨rfl, hba⟩; go_wp2_with fail; exact hK.out _ _ hba rfl)
       | ((with_reducible refine (HNU.out _ HK.out.2.1 _ hbw2).mono ?_); rintro e wa ⟨rfl, hba⟩; go_wp2_with fail; exact hK.out _ _ hba rfl)
       | ((with_reducible refine (HNU.out _ HK.out.2.2 _ hbw2).mono ?_); rintro e wa ⟨rfl, hba⟩; go_wp2_with fail; exact hK.out _ _ hba rfl))
   | (intro v hv K hK
      rw [if_pos (by rfl)]; simp only [overlay, upd, cond_true, cond_false, List.getD_cons_zero, List.getD_cons_succ, Nat.reduceEqDiff, reduceIte]
      go_simp
      exact hK.out _ _ (Below.refl _ _) hv)
   | (intro v hv v2 hv2 K hK
      rw [if_pos (by rfl)]; simp only [overlay, upd, cond_true, cond_false, List.getD_cons_zero, List.getD_cons_succ, Nat.reduceEqDiff, reduceIte]
      go_simp
      exact hK.out _ _ (Below.refl _ _) hv2)
def Cf.agg (c : Cf) (A : Option Addr) (k : Nat) : Value := .agg #[.slice A c.ts.length k, .int .i64 c.seg, .int .i64 c.bd, .int .i64 c.r0, .int .i64 c.r1, .int .i64 c.r2]
theorem idx_rooms0 (a b c : Int) (w : World) : (Instr.index 25 (.agg #[.int .i64 a, .int .i64 b, .int .i64 c]) (.int .i64 0)).run Tryz.prog w = .ok (.int .i64 a) w := by kernel_rfl
theorem idx_rooms1 (a b c : Int) (w : World) : (Instr.index 25 (.agg #[.int .i64 a, .int .i64 b, .int .i64 c]) (.int .i64 1)).run Tryz.prog w = .ok (.int .i64 b) w := by kernel_rfl
theorem idx_rooms2 (a b c : Int) (w : World) : (Instr.index 25 (.agg #[.int .i64 a, .int .i64 b, .int .i64 c]) (.int .i64 2)).run Tryz.prog w = .ok (.int .i64 c) w := by kernel_rfl
set_option maxRecDepth 100000 in
set_option maxHeartbeats 3200000 in
theorem conf_any (seg bd r0 r1 r2 : Int) (ts : List Ta) (A : Option Addr) (k : Nat) (w : World) (ht : TRow w A k ts) :
 Calls Tryz.prog 35 #[Cf.agg ⟨seg, bd, r0, r1, r2, ts⟩ A k] w fun r w' => r = .returned (.bool (confB ⟨seg, bd, r0, r1, r2, ts⟩)) ∧ Below w.heap.size w w' := by
 have HCK := hd_ (fun (W : World) (hW : Below w.heap.size w W) => check13_any ts A k W (ht.ext hW))
 have hb0 : Below w.heap.size w (w.alloc (.cells #[.slice A ts.length k, .int .i64 seg, .int .i64 bd, .int .i64 r0, .int .i64 r1, .int .i64 r2] 27)) := bel1 _ _
 have hB := Blk.new w #[.slice A ts.length k, .int .i64 seg, .int .i64 bd, .int .i64 r0, .int .i64 r1, .int .i64 r2] 27
 have HBW := hd_ hb0
 have HB := hd_ hB
 have hx0 := idx_rooms0 r0 r1 r2
 have hx1 := idx_rooms1 r0 r1 r2
 have hx2 := idx_rooms2 r0 r1 r2
 clear ht hb0 hB
 unfold Cf.agg
 simp only
 go_enter Tryz.func35, Tryz.ntmps35
 go_upto_region 1 with fail
 generalize w.alloc (.cells #[.slice A ts.length k, .int .i64 seg, .int .i64 bd, .int .i64 r0, .int .i64 r1, .int .i64 r2] 27) = w1 at HBW HB ⊢
 obtain ⟨d9, d0, d1, d2, d3, d4, d5⟩ := blk6 HB.out
 go_wp2_with fail
 refine wp_loop_rounds 4 ?_
 rw [rounds_succ]
 by_cases a0 : r0 < 0
 · have hN : confB ⟨seg, bd, r0, r1, r2, ts⟩ = false := by simp [confB, rmB]; omega
   have HN := hd_ hN
   clear hN
   go_wp2_with fail
   go_ret
   exact ⟨by rw [HN.out]; rfl, HBW.out⟩
 by_cases b0 : 16777216 < r0
 · have hN : confB ⟨seg, bd, r0, r1, r2, ts⟩ = false := by simp [confB, rmB]; omega
   have HN := hd_ hN
   clear hN
   go_wp2_with fail
   go_ret
   exact ⟨by rw [HN.out]; rfl, HBW.out⟩
 go_wp2_with fail
 rw [rounds_succ]
 by_cases a1 : r1 < 0
 · have hN : confB ⟨seg, bd, r0, r1, r2, ts⟩ = false := by simp [confB, rmB]; omega
   have HN := hd_ hN
   clear hN
   go_wp2_with fail
   go_ret
   exact ⟨by rw [HN.out]; rfl, HBW.out⟩
 by_cases b1 : 16777216 < r1
 · have hN : confB ⟨seg, bd, r0, r1, r2, ts⟩ = false := by simp [confB, rmB]; omega
   have HN := hd_ hN
   clear hN
   go_wp2_with fail
   go_ret
   exact ⟨by rw [HN.out]; rfl, HBW.out⟩
 go_wp2_with fail
 rw [rounds_succ]
 by_cases a2 : r2 < 0
 · have hN : confB ⟨seg, bd, r0, r1, r2, ts⟩ = false := by simp [confB, rmB]; omega
   have HN := hd_ hN
   clear hN
   go_wp2_with fail
   go_ret
   exact ⟨by rw [HN.out]; rfl, HBW.out⟩
 by_cases b2 : 16777216 < r2
 · have hN : confB ⟨seg, bd, r0, r1, r2, ts⟩ = false := by simp [confB, rmB]; omega
   have HN := hd_ hN
   clear hN
   go_wp2_with fail
   go_ret
   exact ⟨by rw [HN.out]; rfl, HBW.out⟩
 go_wp2_with fail
 rw [rounds_succ]
 go_wp2_with fail
 refine (HCK.out w1 HBW.out).mono ?_
 rintro r w2 ⟨rfl, hb2⟩
 have HB2 := hd_ (HB.out.ext hb2)
 have HBW2 := hd_ (bt HBW.out hb2)
 clear hb2 d9 d0 d1 d2 d3 d4 d5
 obtain ⟨d9, d0, d1, d2, d3, d4, d5⟩ := blk6 HB2.out
 cases hs : schB ts with
 | false =>
  have hN : confB ⟨seg, bd, r0, r1, r2, ts⟩ = false := by simp [confB, hs]
  have HN := hd_ hN
  clear hN hs
  simp only [okE]
  go_wp2_with fail
  go_ret
  exact ⟨by rw [HN.out]; rfl, HBW2.out⟩
 | true =>
  simp only [okE]
  by_cases c1 : 1 ≤ seg
  · by_cases c2 : seg ≤ 65536
    · by_cases c3 : 1 ≤ bd
      · by_cases c4 : bd ≤ 4096
        · have hN : confB ⟨seg, bd, r0, r1, r2, ts⟩ = true := by
           simp [confB, rmB, segB, bdB, hs]
           omega
          have HN := hd_ hN
          clear hN hs
          go_wp2_with fail
          go_ret
          exact ⟨by rw [HN.out]; rfl, HBW2.out⟩
        · have hN : confB ⟨seg, bd, r0, r1, r2, ts⟩ = false := by
           refine Bool.eq_false_iff.2 fun e => ?_
           simp only [confB, rmB, segB, bdB, hs, Bool.and_eq_true, decide_eq_true_eq] at e
           omega
          have HN := hd_ hN
          clear hN hs
          go_wp2_with fail
          go_ret
          exact ⟨by rw [HN.out]; rfl, HBW2.out⟩
      · have hN : confB ⟨seg, bd, r0, r1, r2, ts⟩ = false := by
         refine Bool.eq_false_iff.2 fun e => ?_
         simp only [confB, rmB, segB, bdB, hs, Bool.and_eq_true, decide_eq_true_eq] at e
         omega
        have HN := hd_ hN
        clear hN hs
        go_wp2_with fail
        go_ret
        exact ⟨by rw [HN.out]; rfl, HBW2.out⟩
    · have hN : confB ⟨seg, bd, r0, r1, r2, ts⟩ = false := by
       refine Bool.eq_false_iff.2 fun e => ?_
       simp only [confB, rmB, segB, bdB, hs, Bool.and_eq_true, decide_eq_true_eq] at e
       omega
      have HN := hd_ hN
      clear hN hs
      go_wp2_with fail
      go_ret
      exact ⟨by rw [HN.out]; rfl, HBW2.out⟩
  · have hN : confB ⟨seg, bd, r0, r1, r2, ts⟩ = false := by
     refine Bool.eq_false_iff.2 fun e => ?_
     simp only [confB, rmB, segB, bdB, hs, Bool.and_eq_true, decide_eq_true_eq] at e
     omega
    have HN := hd_ hN
    clear hN hs
    go_wp2_with fail
    go_ret
    exact ⟨by rw [HN.out]; rfl, HBW2.out⟩
def actsB (l : List Am) : Bool := l.all fun x => (actT x.a).isSome
set_option maxRecDepth 100000 in
set_option maxHeartbeats 3200000 in
theorem check31_any (seg bd r0 r1 r2 : Int) (ts : List Ta) (A : Option Addr) (k : Nat) (l : List Am) (L : Option Addr) (lc : Nat) (w : World) (ht : TRow w A k ts) (hl : AmRow w L l) (hL : LayS w) :
 Calls Tryz.prog 12 #[Cf.agg ⟨seg, bd, r0, r1, r2, ts⟩ A k, .slice L l.length lc] w fun r w' => r = .returned (.int .i64 (okE (confB ⟨seg, bd, r0, r1, r2, ts⟩ && actsB l))) ∧ Below w.heap.size w w' := by
 have HCF := hd_ (fun (W : World) (hW : Below w.heap.size w W) => conf_any seg bd r0 r1 r2 ts A k W (ht.ext hW))
 have HAC := hd_ (fun (x : Am) (hx : x.a.wf) (W : World) (hW : Below w.heap.size w W) (hr : VRow W x.A x.a.row) => act_any x.a hx x.A x.c W hr (hL.ext hW))
 have HAM := hd_ hl
 have h40 := hl.2.1
 clear ht hl hL
 unfold Cf.agg at HCF ⊢
 simp only at HCF ⊢
 go_enter Tryz.func12, Tryz.ntmps12
 go_wp2_with fail
 have hb0 : Below w.heap.size w (w.alloc (.cells #[.slice A ts.length k, .int .i64 seg, .int .i64 bd, .int .i64 r0, .int .i64 r1, .int .i64 r2] 27)) := bel1 _ _
 refine (HCF.out _ hb0).mono ?_
 cases hcf : confB ⟨seg, bd, r0, r1, r2, ts⟩ with
 | false =>
  rintro r w1 ⟨rfl, hb1⟩
  have hb2 := bt hb0 hb1
  clear hb1 hb0
  have HCC := hd_ hcf
  clear hcf
  go_wp2_with fail
  go_ret
  exact ⟨by rw [HCC.out]; rfl, hb2⟩
 | true =>
  rintro r w1 ⟨rfl, hb1⟩
  have hb2 := bt hb0 hb1
  have HCC := hd_ hcf
  clear hb1 hb0 hcf
  go_wp2_with fail
  go_loopw [14] (fun i wr => ∃ j : Nat, j ≤ l.length ∧ i = .int .i64 j ∧ Hid (actsB (l.take j) = true) ∧ Below w.heap.size w wr) (fun i _ => l.length - (intOf i).toNat)
  case atStart => exact ⟨0, by omega, rfl, (rfl : _ = _), hb2⟩
  case round =>
   obtain ⟨j, hj, rfl, HJ, hbw⟩ := hrel
   clear hb2
   by_cases hlt : j < l.length
   · obtain ⟨b, off, x, rfl, hb, hlk, hmem, hwf, hvr, c0, c1, c2, c3, c4, c5, c6, c7⟩ := (HAM.out.ext hbw).at_ hlt
     have hbA := hbw.alloc hbw.size (.cells (Am.arr x.a x.A x.c) 42)
     have hAC := HAC.out x hwf (wr.alloc (.cells (Am.arr x.a x.A x.c) 42)) hbA (hvr.ext (Below.alloc (Below.refl _ _) (Nat.le_refl _) _))
     have htk : l.take (j + 1) = l.take j ++ [x] := by
      obtain ⟨h1, h2⟩ := List.getElem?_eq_some_iff.1 hlk
      rw [List.take_succ_eq_append_getElem h1, h2]
     have HTK := hd_ htk
     have HME := hd_ hmem
     have hltI : (j : Int) < l.length := by omega
     obtain ⟨ac, xA, xc⟩ := x
     unfold Am.arr at hAC hbA
     unfold Ac.agg at hAC
     simp only at c0 c1 c2 c3 c4 c5 c6 c7 hAC hbA
     have HAC2 := hd_ hAC
     have HBA := hd_ hbA
     clear hlk hmem hwf hvr htk hAC hbA hbw
     cases hat : actT ac with
     | none =>
      rw [hat] at HAC2
      have hN : actsB l = false := by
       refine Bool.eq_false_iff.2 fun e => ?_
       have := List.all_eq_true.1 e _ HME.out
       simp only [hat] at this
       cases this
      have HN := hd_ hN
      clear hat hN
      go_wp2_with fail
      refine HAC2.out.mono ?_
      rintro r w3 ⟨rfl, hb3⟩
      have hb4 := HBA.out.trans (hb3.mono HBA.out.size)
      unfold actP
      clear hb3
      go_wp2_with fail
      go_ret
      exact ⟨by rw [HCC.out, HN.out]; rfl, hb4⟩
     | some s =>
      rw [hat] at HAC2
      have HJ2 : Hid (actsB (l.take (j + 1)) = true) := by
       show _ = _
       rw [HTK.out]
       unfold actsB
       rw [List.all_append]
       have := HJ.out
       unfold actsB at this
       rw [this]
       simp [hat]
      clear hat
      go_wp2_with fail
      refine HAC2.out.mono ?_
      rintro r w3 ⟨rfl, hb3⟩
      have hb4 := HBA.out.trans (hb3.mono HBA.out.size)
      unfold actP
      clear hb3
      go_wp2_with fail
      go_roundw
      case rel => exact ⟨j + 1, by omega, by go_num, HJ2, hb4⟩
      case measure => simp [intOf]; omega
   · obtain rfl : j = l.length := by omega
     have hN := HJ.out
     rw [List.take_length] at hN
     have HN := hd_ hN
     clear hN
     go_wp2_with fail
     go_ret
     exact ⟨by rw [HCC.out, HN.out]; rfl, hbw⟩
theorem am_map_len {l m : List Am} (h : l.map (·.a) = m.map (·.a)) : l.length = m.length := by simpa using congrArg List.length h
theorem am_map_at {l m : List Am} (h : l.map (·.a) = m.map (·.a)) {k : Nat} {x y : Am} (hx : l[k]? = some x) (hy : m[k]? = some y) : x.a = y.a := by
 have := congrArg (fun q => q[k]?) h
 simp only [List.getElem?_map, hx, hy, Option.map_some, Option.some.injEq] at this
 exact this
theorem info_int3 : (Tryz.prog.info? 3).isSome = true := by kernel_rfl
theorem cells_int3 : Tryz.prog.cellsOf 3 = 1 := by kernel_rfl
theorem part0 (a b c : Int) (w : World) : (part 3 #[.int .i64 a, .int .i64 b, .int .i64 c] 0).run Tryz.prog w = .ok (.int .i64 a) w := by kernel_rfl
theorem part1 (a b c : Int) (w : World) : (part 3 #[.int .i64 a, .int .i64 b, .int .i64 c] 1).run Tryz.prog w = .ok (.int .i64 b) w := by kernel_rfl
theorem part2 (a b c : Int) (w : World) : (part 3 #[.int .i64 a, .int .i64 b, .int .i64 c] 2).run Tryz.prog w = .ok (.int .i64 c) w := by kernel_rfl
theorem neq_rooms (a b c : Int) (w : World) : (binOp .neq 25 (.agg #[.int .i64 a, .int .i64 b, .int .i64 c]) (.agg #[.int .i64 a, .int .i64 b, .int .i64 c])).run Tryz.prog w = .ok (.bool false) w := by
 obtain ⟨ii, hii⟩ := Option.isSome_iff_exists.1 info_int3
 go_simp
 rw [run_equalIn_array w 9999 _ _ Tryz.underlying25 hii, cells_int3]
 rw [show List.range 3 = [0, 1, 2] from rfl]
 have e := fun x => run_equalIn_int (P := Tryz.prog) w 9998 3 .i64 .i64 x x Tryz.underlying3
 simp only [Op.eqItems, Sem.run_bind, Nat.reduceMul, part0, part1, part2, Result.andThen_ok, e, beq_self_eq_true, Bool.not_true, Bool.false_eq_true, if_false, Sem.run_pure]
set_option maxRecDepth 100000 in
set_option maxHeartbeats 1600000 in
theorem sameC_yes (seg bd r0 r1 r2 : Int) (ts us : List Ta) (hs : sameS ts us = true) (l m : List Am) (hlm : l.map (·.a) = m.map (·.a)) (A B C E : Option Addr) (c e g k : Nat) (w : World) (ht : TRow w A c ts) (hu : TRow w B e us) (hl : AmRow w C l) (hm : AmRow w E m) :
 Calls Tryz.prog 14 #[Cf.agg ⟨seg, bd, r0, r1, r2, ts⟩ A c, Cf.agg ⟨seg, bd, r0, r1, r2, us⟩ B e, .slice C l.length g, .slice E m.length k] w fun r w' => r = .returned (.bool true) ∧ Below w.heap.size w w' := by
 have HS := hd_ (fun (W : World) (hW : Below w.heap.size w W) => sameS_any ts us A B c e W (ht.ext hW) (hu.ext hW))
 rw [hs] at HS
 have hlen := am_map_len hlm
 have HL := hd_ hl
 have HM := hd_ hm
 have HLM := hd_ hlm
 have hlI : (l.length : Int) = m.length := by omega
 have hb1 : ((l.length : Int) != (m.length : Int)) = false := by simp [hlen]
 have h40 := hl.2.1
 have hnr := neq_rooms r0 r1 r2
 clear hs hlm hl hm ht hu
 unfold Cf.agg
 simp only
 go_enter Tryz.func14, Tryz.ntmps14
 go_wp2_with fail
 refine (HS.out _ (by repeat (first | exact Below.refl _ _ | assumption | refine Below.drew ?_ | refine below_drewN ?_ _ | refine Below.alloc ?_ (by simp <;> omega) _))).mono ?_
 rintro r w1 ⟨rfl, hb⟩
 have hB0 : Below w.heap.size w ((w.alloc (.cells #[.slice A ts.length c, .int .i64 seg, .int .i64 bd, .int .i64 r0, .int .i64 r1, .int .i64 r2] 27)).alloc (.cells #[.slice B us.length e, .int .i64 seg, .int .i64 bd, .int .i64 r0, .int .i64 r1, .int .i64 r2] 27)) := (by repeat (first | exact Below.refl _ _ | assumption | refine Below.drew ?_ | refine below_drewN ?_ _ | refine Below.alloc ?_ (by simp <;> omega) _))
 have hB1 := bt hB0 hb
 clear hB0 hb hnr
 go_wp2_with fail
 clear hb1 hlI
 go_loopw [9] (fun i wr => ∃ k : Nat, k ≤ l.length ∧ i = .int .i64 k ∧ Below w.heap.size w wr) (fun i _ => l.length - (intOf i).toNat)
 case atStart => exact ⟨0, by omega, rfl, hB1⟩
 case round =>
  obtain ⟨j, hj, rfl, hbw⟩ := hrel
  by_cases hlt : j < l.length
  · obtain ⟨b, off, x, rfl, hb, hlk, hmem, hwf, hvr, c0, c1, c2, c3, c4, c5, c6, c7⟩ := (HL.out.ext hbw).at_ hlt
    obtain ⟨b', off', y, rfl, hb', hlk', hmem', hwf', hvr', d0, d1, d2, d3, d4, d5, d6, d7⟩ := (HM.out.ext hbw).at_ (by omega : j < m.length)
    have hxy := am_map_at HLM.out hlk hlk'
    obtain ⟨a, A1, q1⟩ := x
    obtain ⟨a', A2, q2⟩ := y
    simp only at hxy
    subst hxy
    have HC := hd_ (fun (W : World) (hW : Below wr.heap.size wr W) => same1_yes a A1 A2 q1 q2 W (hvr.ext hW) (hvr'.ext hW))
    unfold Ac.agg at HC
    simp only at c0 c1 c2 c3 c4 c5 c6 c7 d0 d1 d2 d3 d4 d5 d6 d7
    have i0 : (0 : Int) ≤ j := by omega
    have i1 : (j : Int) < l.length := by omega
    have i2 : (j : Int) < m.length := by omega
    have HBW := hd_ hbw
    clear hlk hlk' hmem hmem' hwf hwf' hvr hvr' hbw
    go_upto_region 6 with fail
    go_still_tail 8, (by kernel_rfl)
    change wpList _ _ _ _ _ wr.drew
    go_wp2_with fail
    refine (HC.out _ (Below.drew (Below.refl _ _))).mono ?_
    rintro r w2 ⟨rfl, hb2⟩
    go_wp2_with fail
    go_roundw
    case rel => exact ⟨j + 1, by omega, by go_num, (HBW.out.drew).trans (hb2.mono HBW.out.size)⟩
    case measure => simp [intOf]; omega
  · go_wp2_with fail
    go_ret
    exact ⟨rfl, hbw⟩
end Go.Proofs.YtfekohonidggjaaGreatDoor
