/- Several texts in one: see each part's head. -/
import Derived.Test.YtfekohonidggjaaGreatDoorJ23
/- Contracts: script.table. -/
namespace Go.Proofs.YtfekohonidggjaaGreatDoor
open Go.RowKit

def kindsC : Array Value := #[kd [], kd (kindW 1 false), kd (kindW 2 false), kd (kindW 3 false), kd (kindW 4 false), kd (kindW 5 false)]
def kKindAt (k : Int) : Known := .mem (fun v w => ∃ g, v = .pointer (some ⟨g, k.toNat, none⟩) ∧ Blk w g kindsC 9) (fun _ _ _ ⟨g, h1, h2⟩ hb => ⟨g, h1, h2.ext hb⟩)
theorem kind_cell {w : World} {g : Nat} {k : Int} (h : Blk w g kindsC 9) (hk : 1 ≤ k ∧ k ≤ 5) : w.cell? ⟨g, k.toNat, none⟩ = some (.string (bsO (kindW k false))) := by
  rw [h.cell]
  have : k = 1 ∨ k = 2 ∨ k = 3 ∨ k = 4 ∨ k = 5 := by omega
  rcases this with rfl | rfl | rfl | rfl | rfl <;> rfl
theorem kind_null {k : Int} (hk : 1 ≤ k ∧ k ≤ 5) : kindW k true = kindW k false ++ [63] := by
  have : k = 1 ∨ k = 2 ∨ k = 3 ∨ k = 4 ∨ k = 5 := by omega
  rcases this with rfl | rfl | rfl | rfl | rfl <;> decide
theorem kind_len7 {k : Int} (hk : 1 ≤ k ∧ k ≤ 5) (nl : Bool) : (kindW k nl).length ≤ 7 := by
  have : k = 1 ∨ k = 2 ∨ k = 3 ∨ k = 4 ∨ k = 5 := by omega
  rcases this with rfl | rfl | rfl | rfl | rfl <;> cases nl <;> decide
theorem blkC {w : World} {b : Nat} {a : ByteArray} {k : Int} {n : Bool} {t : TypeId} (h : Blk w b #[.string a, .int .u8 k, .bool n] t) :
    b < w.heap.size ∧ w.cell? ⟨b, 0, none⟩ = some (.string a) ∧ w.cell? ⟨b, 1, none⟩ = some (.int .u8 k) ∧ w.cell? ⟨b, 2, none⟩ = some (.bool n) := by
  have e0 := h.cell 0
  have e1 := h.cell 1
  have e2 := h.cell 2
  simp only [List.getElem?_toArray, List.getElem?_cons_zero, List.getElem?_cons_succ] at e0 e1 e2
  exact ⟨h.lt, e0, e1, e2⟩
/-- What a table must have for its line to be short. -/
structure TabS (t : Ta) : Prop where
  wf : t.wf
  nm : t.nm.size ≤ 1000
  n : t.cs.length ≤ 8
  cs : ∀ c ∈ t.cs, (1 ≤ c.k ∧ c.k ≤ 5) ∧ c.nm.size ≤ 1000
theorem tab_len {t : Ta} (h : TabS t) : (tabT t).length ≤ 100000 := by
  unfold tabT
  have key : ∀ w ∈ tabW t, w.length ≤ 2000 := by
    intro w hw
    obtain ⟨_, h1, h2, h3⟩ := h.wf
    have hl : t.nm.data.toList.length = t.nm.size := by simp
    unfold tabW at hw
    simp only [List.mem_cons, List.mem_map] at hw
    rcases hw with rfl | rfl | rfl | rfl | rfl | ⟨c, hc, rfl⟩
    · decide
    · have := h.nm; omega
    · have := itoa_len h1; omega
    · have := itoa_len h2; omega
    · have := itoa_len h3; omega
    · obtain ⟨hk, hn⟩ := h.cs c hc
      have := kind_len7 hk c.nl
      have hl2 : c.nm.data.toList.length = c.nm.size := by simp
      unfold colW
      simp only [List.length_append, List.length_cons]
      omega
  have hc : (tabW t).length ≤ 13 := by
    have := h.n
    unfold tabW
    simp
    omega
  have h1 := jn_le 32 2000 (tabW t) key
  have h2 : (tabW t).length * (2000 + 1) ≤ 13 * 2001 := Nat.mul_le_mul_right _ hc
  omega
set_option maxRecDepth 100000 in
set_option maxHeartbeats 6400000 in
theorem tabT_any (t : Ta) (ht : TabS t) (w : World) (hc : CRow w t.A t.cs) (hL : LayS w) :
    Calls Tryz.prog 31 #[.agg t.cells] w fun r w' => r = .returned (.string (bsO (tabT t))) ∧ Below w.heap.size w w' := by
  have hlen := tab_len ht
  obtain ⟨⟨_, hk, hr, hp⟩, hn, hcs, hcc⟩ := ht
  generalize hT : tabT t = T at hlen ⊢
  have HT := Lib.hid hT
  obtain ⟨nm, cs, key, ref, par, A, c⟩ := t
  obtain ⟨nl, rfl⟩ : ∃ nl, nm = bsO nl := ⟨_, (bsO_of nm).symm⟩
  simp only at hk hr hp hn hcs hcc hc
  have HNU := Lib.hid (fun (v : Int) (hv : i64B v) (W : World) (hW : Below w.heap.size w W) => number_any v hv W (hL.ext hW))
  have HK : Hid (i64B key ∧ i64B ref ∧ i64B par) := ⟨hk, hr, hp⟩
  have HKI := Lib.hid (fun W : World => kinds_any W)
  have HCR := Lib.hid hc
  have HCC := Lib.hid hcc
  have HLN := Lib.hid hlen
  obtain ⟨i0, hi0, hz0, hz1, hz2⟩ := info_parts info_txt
  clear hT hk hr hp hcc hc hL hlen
  unfold Ta.cells
  simp only
  go_enter Tryz.func31, Tryz.ntmps31
  go_upto_region 1 with fail
  have hBk := Blk.new w #[.string (bsO nl), .slice A cs.length c, .int .i64 key, .int .i64 ref, .int .i64 par] 66
  have hBw : Below w.heap.size w (w.alloc (.cells #[.string (bsO nl), .slice A cs.length c, .int .i64 key, .int .i64 ref, .int .i64 par] 66)) := (by repeat (first | exact Below.refl _ _ | assumption | refine Below.drew ?_ | refine below_drewN ?_ _ | refine Below.alloc ?_ (by simp <;> omega) _))
  generalize w.alloc (.cells #[.string (bsO nl), .slice A cs.length c, .int .i64 key, .int .i64 ref, .int .i64 par] 66) = w1 at hBk hBw ⊢
  have HBK := Lib.hid hBk
  have HBW := Lib.hid hBw
  clear hBk hBw
  refine region_grow [false, false, false, true, false, false, false, true, true, true, true, true, true, true, true, true, true, true, true, false, false, false, false, false, false, false, false, false, false, false, false, false, false, false, false, false, false, false, false, false, false, false, false, false, false, false] [7, 8, 9, 10, 11, 12, 13, 14, 15, 16, 17, 18, 3] [.val (.pointer (some ⟨w.heap.size, 0, none⟩)), .val (.string (bsO nl)), .val (.pointer (some ⟨w.heap.size, 2, none⟩)), .val (.int .i64 key), .val (.string (bsO (Lib.itoa key))), .val (.pointer (some ⟨w.heap.size, 3, none⟩)), .val (.int .i64 ref), .val (.string (bsO (Lib.itoa ref))), .val (.pointer (some ⟨w.heap.size, 4, none⟩)), .val (.int .i64 par), .val (.string (bsO (Lib.itoa par))), kRow w.heap.size [tTable, nl, Lib.itoa key, Lib.itoa ref, Lib.itoa par], kRow w.heap.size [tTable, nl, Lib.itoa key, Lib.itoa ref, Lib.itoa par]] [12] (by kernel_rfl) (by kernel_rfl) (by kernel_rfl) (by kernel_rfl) (by kernel_rfl) ⟨?_, ?_, ?_, ?_, ?_, ?_, ?_, ?_, ?_, ?_, ?_, ?_, ?_, trivial⟩ ?done
  case done =>
    intro x w2 hb2
    unfold kRow
    simp only [StepGoal, overlay, upd, cond_true, cond_false, List.getD_cons_zero, List.getD_cons_succ, Nat.zero_add, Nat.reduceAdd, Nat.reduceEqDiff, reduceIte]
    intro v hv
    have hv' : w2.ownsRow w.heap.size 9 1 v (5 + 0) (wsC ([tTable, nl, Lib.itoa key, Lib.itoa ref, Lib.itoa par] ++ (cs.take 0).map colW)) := hv
    have hbw2 := bt HBW.out hb2
    obtain ⟨y0, y1, y2, y3, y4⟩ := blk5 (HBK.out.ext hb2)
    clear hv hb2
    go_wp2_with fail
    clear y0 y1 y2 y3 y4
    go_loopw [3, 22] (fun lv i wr => ∃ j : Nat, j ≤ cs.length ∧ i = .int .i64 j ∧ wr.ownsRow w.heap.size 9 1 lv (5 + j) (wsC ([tTable, nl, Lib.itoa key, Lib.itoa ref, Lib.itoa par] ++ (cs.take j).map colW)) ∧ Below w.heap.size w wr) (fun _ i _ => cs.length - (intOf i).toNat)
    case atStart => exact ⟨0, by omega, rfl, hv', hbw2⟩
    case round =>
      obtain ⟨j, hj, rfl, hown, hbw⟩ := hrel
      clear hv' hbw2
      by_cases hlt : j < cs.length
      · obtain ⟨b, off, cc, rfl, hb, hlk, hmem, hwf, c0, c1, c2⟩ := (HCR.out.ext hbw).at_ hlt
        obtain ⟨hk, hnz⟩ := HCC.out cc hmem
        have htk : cs.take (j + 1) = cs.take j ++ [cc] := by
          obtain ⟨h1, h2⟩ := List.getElem?_eq_some_iff.1 hlk
          rw [List.take_succ_eq_append_getElem h1, h2]
        have HTK := Lib.hid htk
        have hltI : (j : Int) < cs.length := by omega
        obtain ⟨cn, ck, cnl⟩ := cc
        obtain ⟨cl, rfl⟩ : ∃ cl, cn = bsO cl := ⟨_, (bsO_of cn).symm⟩
        simp only at c0 c1 c2 hk hnz
        have HKK := Lib.hid hk
        have hs1 : (bsO cl).size + (⟨#[58]⟩ : ByteArray).size ≤ 9223372036854775807 := by
          show _ + 1 ≤ _
          omega
        have hkl := kind_len7 hk false
        have hs2 : (bsO cl ++ ⟨#[58]⟩).size + (bsO (kindW ck false)).size ≤ 9223372036854775807 := by
          rw [ByteArray.size_append, bsO_size (kindW ck false)]
          show _ + 1 + _ ≤ _
          omega
        have hcat : bsO cl ++ ⟨#[58]⟩ ++ bsO (kindW ck false) = bsO (cl ++ 58 :: kindW ck false) := by
          rw [show (⟨#[58]⟩ : ByteArray) = bsO [58] from rfl, bsO_app, bsO_app]
          simp
        have HS1 := Lib.hid hs1
        have HS2 := Lib.hid hs2
        have HCAT := Lib.hid hcat
        have HOW := Lib.hid hown
        have HBR := Lib.hid hbw
        have HSZ : Hid (cl.length ≤ 1000) := by rw [bsO_size] at hnz; exact hnz
        clear hlk hmem hwf htk hk hnz hs1 hs2 hkl hcat hown hbw
        go_upto_region 5 with fail
        have hCB := Blk.new wr #[.string (bsO cl), .int .u8 ck, .bool cnl] 111
        have hbC := HBR.out.alloc HBR.out.size (.cells #[.string (bsO cl), .int .u8 ck, .bool cnl] 111)
        have hownC := HOW.out.alloc (.cells #[.string (bsO cl), .int .u8 ck, .bool cnl] 111)
        have HCB := Lib.hid hCB
        have HBC := Lib.hid hbC
        have HOC := Lib.hid hownC
        clear hCB hbC hownC HOW HBR c0 c1 c2
        generalize wr.heap.size = cb at HCB ⊢
        generalize wr.alloc (.cells #[.string (bsO cl), .int .u8 ck, .bool cnl] 111) = w4 at HCB HBC HOC ⊢
        refine region_grow [false, false, false, false, false, false, true, false, false, false, false, false, false, false, false, false, false, false, false, false, false, false, false, false, false, false, true, true, true, true, true, true, true, true, true, false, false, false, false, false, false, false, false, false, false, false] [26, 27, 28, 29, 30, 31, 32, 33, 34, 6] [.val (.pointer (some ⟨cb, 0, none⟩)), .val (.string (bsO cl)), .val (.string (bsO cl ++ ⟨#[58]⟩)), .new (fun g => .slice (some ⟨g, 0, none⟩) 6 6) kindsC 9, .val (.pointer (some ⟨cb, 1, none⟩)), .val (.int .u8 ck), kKindAt ck, .val (.string (bsO (kindW ck false))), .val (.string (bsO cl ++ ⟨#[58]⟩ ++ bsO (kindW ck false))), .val (.string (bsO cl ++ ⟨#[58]⟩ ++ bsO (kindW ck false)))] [9] (by kernel_rfl) (by kernel_rfl) (by kernel_rfl) (by kernel_rfl) (by kernel_rfl) ⟨?_, ?_, ?_, ?_, ?_, ?_, ?_, ?_, ?_, ?_, trivial⟩ ?done
        case done =>
          intro x w5 hb5
          simp only [StepGoal, overlay, upd, cond_true, cond_false, List.getD_cons_zero, List.getD_cons_succ, Nat.zero_add, Nat.reduceAdd, Nat.reduceEqDiff, reduceIte]
          have HBC5 := Lib.hid (bt HBC.out hb5)
          have HOC5 := Lib.hid (own_ext HOC.out hb5)
          have HCB5 := Lib.hid (HCB.out.ext hb5)
          obtain ⟨cL, c0, c1, c2⟩ := blkC HCB5.out
          have hle : (cl ++ 58 :: kindW ck false).length ≤ 1010 := by
            have := HSZ.out
            have := kind_len7 HKK.out false
            simp only [List.length_append, List.length_cons]
            omega
          rw [HCAT.out]
          clear hb5 HBC HOC HCB HS1 HS2
          generalize hX : cl ++ 58 :: kindW ck false = X at hle ⊢
          have HX := Lib.hid hX
          clear hX
          cases cnl with
          | false =>
            have HMP : Hid (wsC ([tTable, nl, Lib.itoa key, Lib.itoa ref, Lib.itoa par] ++ (cs.take (j + 1)).map colW) = wsC ([tTable, nl, Lib.itoa key, Lib.itoa ref, Lib.itoa par] ++ (cs.take j).map colW) ++ [.string (bsO X)]) := by
              show _ = _
              rw [HTK.out, List.map_append, ← List.append_assoc, wsC_app]
              congr 1
              show [Value.string (bsO (cl ++ 58 :: kindW ck false))] = _
              rw [HX.out]
            clear hle
            generalize hxs : ([tTable, nl, Lib.itoa key, Lib.itoa ref, Lib.itoa par] ++ (cs.take j).map colW) = xs at HOC5 HMP
            clear hxs
            have hown5 := HOC5.out
            have hj8 : j ≤ 8 := by omega
            go_wp2_with (at_builtin; refine wpList_append_own _ rfl _ _ 63 rfl w.heap.size 9 i0 (.string ByteArray.empty) 1 16 Tryz.underlying63 hi0 hz0 hz1 hz2 rfl (by decide) _ (5 + j) (wsC xs) rfl (World.ownsRow.alloc hown5 _) ⟨w5.heap.size, 0, none⟩ 1 1 [.string (bsO X)] rfl rfl ?zc1 ?zc2 ?zc3 ?zc4 ?zc5 ?_)
            case zc1 => exact cell_one_new _ _ _
            case zc2 => simp [Value.oneCell']
            case zc3 => simp only [maxLen]; omega
            case zc4 => omega
            case zc5 => have := HBC5.out.size; simp; omega
            intro v' w6 hown6 hg6 _
            rw [← HMP.out] at hown6
            have hbw6 : Below w.heap.size w w6 := (HBC5.out.alloc HBC5.out.size _).grown hg6 (by have := HBC5.out.size; simp; omega) (own_ge hown5)
            clear hown5 hg6 HOC5 HBC5 HCB5 c0 c1 c2
            go_wp2_with fail
            go_roundw
            case rel => exact ⟨j + 1, by omega, by go_num, hown6, hbw6⟩
            case measure => simp [intOf]; omega
          | true =>
            have hs3 : (bsO X).size + (⟨#[63]⟩ : ByteArray).size ≤ 9223372036854775807 := by
              rw [bsO_size]
              show _ + 1 ≤ _
              omega
            have hc3 : bsO X ++ ⟨#[63]⟩ = bsO (X ++ [63]) := by rw [show (⟨#[63]⟩ : ByteArray) = bsO [63] from rfl, bsO_app]
            have HMP : Hid (wsC ([tTable, nl, Lib.itoa key, Lib.itoa ref, Lib.itoa par] ++ (cs.take (j + 1)).map colW) = wsC ([tTable, nl, Lib.itoa key, Lib.itoa ref, Lib.itoa par] ++ (cs.take j).map colW) ++ [.string (bsO (X ++ [63]))]) := by
              show _ = _
              rw [HTK.out, List.map_append, ← List.append_assoc, wsC_app]
              congr 1
              show [Value.string (bsO (cl ++ 58 :: kindW ck true))] = _
              rw [← HX.out, kind_null HKK.out]
              simp
            have HC3 := Lib.hid hc3
            clear hle hc3
            generalize hxs : ([tTable, nl, Lib.itoa key, Lib.itoa ref, Lib.itoa par] ++ (cs.take j).map colW) = xs at HOC5 HMP
            clear hxs
            go_upto_region 8 with fail
            rw [HC3.out]
            have hown5 := HOC5.out
            have hj8 : j ≤ 8 := by omega
            go_wp2_with (at_builtin; refine wpList_append_own _ rfl _ _ 63 rfl w.heap.size 9 i0 (.string ByteArray.empty) 1 16 Tryz.underlying63 hi0 hz0 hz1 hz2 rfl (by decide) _ (5 + j) (wsC xs) rfl (World.ownsRow.alloc hown5 _) ⟨w5.heap.size, 0, none⟩ 1 1 [.string (bsO (X ++ [63]))] rfl rfl ?zc1 ?zc2 ?zc3 ?zc4 ?zc5 ?_)
            case zc1 => exact cell_one_new _ _ _
            case zc2 => simp [Value.oneCell']
            case zc3 => simp only [maxLen]; omega
            case zc4 => omega
            case zc5 => have := HBC5.out.size; simp; omega
            intro v' w6 hown6 hg6 _
            rw [← HMP.out] at hown6
            have hbw6 : Below w.heap.size w w6 := (HBC5.out.alloc HBC5.out.size _).grown hg6 (by have := HBC5.out.size; simp; omega) (own_ge hown5)
            clear hown5 hg6 HOC5 HBC5 HCB5 c0 c1 c2
            go_wp2_with fail
            go_roundw
            case rel => exact ⟨j + 1, by omega, by go_num, hown6, hbw6⟩
            case measure => simp [intOf]; omega
        all_goals
          intro x w5 hb5
          obtain ⟨_, c0, c1, c2⟩ := blkC (HCB.out.ext hb5)
          have hr1 := fun W => run_string_add_sum (P := Tryz.prog) W (bsO cl) ⟨#[58]⟩ HS1.out
          have hr2 := fun W => run_string_add_sum (P := Tryz.prog) W (bsO cl ++ ⟨#[58]⟩) (bsO (kindW ck false)) HS2.out
          have k0 : 0 ≤ ck := by have := HKK.out; omega
          have k6 : ck < 6 := by have := HKK.out; omega
          first
            | (intro K hK
               rw [if_pos (by rfl)]; simp only [overlay, upd, cond_true, cond_false, List.getD_cons_zero, List.getD_cons_succ, Nat.reduceEqDiff, reduceIte]
               go_simp
               first
                 | exact hK.out _ _ (Below.refl _ _) rfl
                 | ((with_reducible refine (HKI.out _).mono ?_); rintro e wa ⟨rfl, hbk, hba⟩; go_wp2_with fail; exact hK.out _ _ hba ⟨_, rfl, hbk⟩))
            | (intro bq hq K hK
               have hlt := hq.lt
               rw [if_pos (by rfl)]; simp only [overlay, upd, cond_true, cond_false, List.getD_cons_zero, List.getD_cons_succ, Nat.reduceEqDiff, reduceIte]
               go_simp
               first
                 | exact hK.out _ _ (Below.refl _ _) ⟨_, rfl, hq⟩
                 | exact hK.out _ _ (Below.refl _ _) rfl)
            | (rintro v ⟨g, rfl, hg⟩ K hK
               have hce := kind_cell hg HKK.out
               rw [if_pos (by rfl)]; simp only [overlay, upd, cond_true, cond_false, List.getD_cons_zero, List.getD_cons_succ, Nat.reduceEqDiff, reduceIte]
               go_simp
               exact hK.out _ _ (Below.refl _ _) rfl)
            | (intro bq hq v hv K hK
               rw [if_pos (by rfl)]; simp only [overlay, upd, cond_true, cond_false, List.getD_cons_zero, List.getD_cons_succ, Nat.reduceEqDiff, reduceIte]
               go_simp
               exact hK.out _ _ (Below.refl _ _) rfl)
            | (intro bq hq bq2 hq2 v hv K hK
               rw [if_pos (by rfl)]; simp only [overlay, upd, cond_true, cond_false, List.getD_cons_zero, List.getD_cons_succ, Nat.reduceEqDiff, reduceIte]
               go_simp
               exact hK.out _ _ (Below.refl _ _) rfl)
      · obtain rfl : j = cs.length := by omega
        rw [List.take_length] at hown
        have hTT : T = jnW 32 ([tTable, nl, Lib.itoa key, Lib.itoa ref, Lib.itoa par] ++ cs.map colW) := HT.out.symm
        have hJ := join_own w.heap.size _ ([tTable, nl, Lib.itoa key, Lib.itoa ref, Lib.itoa par] ++ cs.map colW) 32 wr (by
          rw [show ([tTable, nl, Lib.itoa key, Lib.itoa ref, Lib.itoa par] ++ cs.map colW).length = 5 + cs.length by simp; omega]
          exact hown) (by simp) (by rw [← hTT]; have := HLN.out; omega)
        rw [← hTT] at hJ
        have HJ := Lib.hid hJ
        clear hown hTT hJ
        go_wp2_with fail
        refine HJ.out.mono ?_
        rintro r w5 ⟨rfl, hb5⟩
        have hb6 := bt hbw hb5
        clear hb5 hbw HJ
        go_wp2_with fail
        go_ret
        exact ⟨rfl, hb6⟩
  all_goals
    intro x w2 hb2
    have hbw2 := bt HBW.out hb2
    obtain ⟨y0, y1, y2, y3, y4⟩ := blk5 (HBK.out.ext hb2)
    first
      | (intro K hK
         rw [if_pos (by rfl)]; simp only [overlay, upd, cond_true, cond_false, List.getD_cons_zero, List.getD_cons_succ, Nat.reduceEqDiff, reduceIte]
         go_simp
         first
           | exact hK.out _ _ (Below.refl _ _) rfl
           | exact hK.out _ _ (by repeat (first | exact Below.refl _ _ | assumption | refine Below.drew ?_ | refine below_drewN ?_ _ | refine Below.alloc ?_ (by simp <;> omega) _)) (own_new _ _ [tTable, nl, Lib.itoa key, Lib.itoa ref, Lib.itoa par] hbw2.size (by simp))
           | ((with_reducible refine (HNU.out _ HK.out.1 _ hbw2).mono ?_); rintro e wa ⟨rfl, hba⟩; go_wp2_with fail; exact hK.out _ _ hba rfl)
           | ((with_reducible refine (HNU.out _ HK.out.2.1 _ hbw2).mono ?_); rintro e wa ⟨rfl, hba⟩; go_wp2_with fail; exact hK.out _ _ hba rfl)
           | ((with_reducible refine (HNU.out _ HK.out.2.2 _ hbw2).mono ?_); rintro e wa ⟨rfl, hba⟩; go_wp2_with fail; exact hK.out _ _ hba rfl))
      | (intro v hv K hK
         rw [if_pos (by rfl)]; simp only [overlay, upd, cond_true, cond_false, List.getD_cons_zero, List.getD_cons_succ, Nat.reduceEqDiff, reduceIte]
         go_simp
         exact hK.out _ _ (Below.refl _ _) hv)
      | (intro v hv v2 hv2 K hK
         rw [if_pos (by rfl)]; simp only [overlay, upd, cond_true, cond_false, List.getD_cons_zero, List.getD_cons_succ, Nat.reduceEqDiff, reduceIte]
         go_simp
         exact hK.out _ _ (Below.refl _ _) hv2)
end Go.Proofs.YtfekohonidggjaaGreatDoor
