/- Texts joined by a tool: contracts and walks of this claim. -/
import Derived.Test.YtfekohonidggjaaGreatDoorB16
namespace Go.Proofs.YtfekohonidggjaaGreatDoor
open Go.RowKit
theorem actW_form {a : Ac} (hd : a.d ≠ 2) : actW a = match formOf a.d with
 | none => none
 | some (w, c, f) => if noOpB a && (zeroB c a && nmB f a) then some (w :: tailW c f a) else none := by
 unfold actW; rw [if_neg hd]; rfl
theorem formOf_le {k : Int} {w : List UInt8} {c : Nat} {f : Bool} (h : formOf k = some (w, c, f)) : c ≤ 3 ∧ (f = true → c = 3) := by
 obtain ⟨_, _, _, _, h1, h2, _⟩ := formAt_of h
 exact ⟨h2, h1⟩
theorem nums_at {w : World} {g : Nat} {n m q : Int} {t : TypeId} (h : Blk w g #[.int .i64 n, .int .i64 m, .int .i64 q] t) (c : Nat) : ∀ (j : Nat) v, ([n, m, q].drop c)[j]? = some v → w.cell? ⟨g, c + j, none⟩ = some (.int .i64 v) := by
 intro j v hj
 rw [List.getElem?_drop] at hj
 rw [h.cell]
 have e : (#[Value.int .i64 n, .int .i64 m, .int .i64 q] : Array Value)[c + j]? = ([n, m, q][c + j]?).map (Value.int .i64) := by
  rw [← List.getElem?_map]
  simp
 rw [e, hj]
 rfl
theorem own_not {w : World} {base e size n : Nat} {v : Value} {xs : List Value} (h : w.ownsRow base e size v n xs) : v.ownBlock ≠ some w.heap.size := by
 obtain ⟨_, ⟨rfl, _⟩ | ⟨g, cap, cur, rfl, _, hg, _⟩⟩ := h
 · intro e; cases e
 · intro e
   have hlt := (Array.getElem?_eq_some_iff.1 hg).1
   simp only [Value.ownBlock, Option.some.injEq] at e
   omega
theorem blkF {w : World} {b : Nat} {a : ByteArray} {n : Int} {f : Bool} {t : TypeId} (h : Blk w b #[.string a, .int .i64 n, .bool f] t) :
 b < w.heap.size ∧ w.cell? ⟨b, 0, none⟩ = some (.string a) ∧ w.cell? ⟨b, 1, none⟩ = some (.int .i64 n) ∧ w.cell? ⟨b, 2, none⟩ = some (.bool f) := by
 have e0 := h.cell 0
 have e1 := h.cell 1
 have e2 := h.cell 2
 simp only [List.getElem?_toArray, List.getElem?_cons_zero, List.getElem?_cons_succ] at e0 e1 e2
 exact ⟨h.lt, e0, e1, e2⟩
set_option maxRecDepth 100000 in
set_option maxHeartbeats 6400000 in
theorem tell_form (a : Ac) (hw : a.wf) (hd : a.d ≠ 2) (A : Option Addr) (c : Nat) (w : World) (hL : LayS w) :
 Calls Tryz.prog 40 #[a.agg A c] w fun r w' => TellP (actW a) w.heap.size r w' ∧ Below w.heap.size w w' := by
 have hO := actW_form hd
 obtain ⟨d, k, tb, row, n, m, q, nm⟩ := a
 obtain ⟨hdr, _, _, _, hn, hm, hq, hnm⟩ := hw
 simp only at hd hdr hn hm hq hnm hO
 unfold Ac.agg
 simp only
 generalize actW ⟨d, k, tb, row, n, m, q, nm⟩ = O at hO ⊢
 have HO := hd_ hO
 have HDR := hd_ hdr
 have HFO := hd_ (fun W : World => forms_any W)
 have HNU := hd_ (fun (v : Int) (hv : i64B v) (W : World) (hW : Below w.heap.size w W) => number_any v hv W (hL.ext hW))
 have HNM := hd_ (fun (W : World) => fnamed_any nm hnm W)
 have HI : Hid (i64B n ∧ i64B m ∧ i64B q) := ⟨hn, hm, hq⟩
 have HFL := hd_ (forms_look d hdr.1)
 obtain ⟨i0, hi0, hz0, hz1, hz2⟩ := info_parts info_txt
 have hb2 : (d == 2) = false := by simpa using hd
 obtain ⟨fo, hfo⟩ : ∃ fo, fo = formOf d := ⟨_, rfl⟩
 rw [← hfo] at HO HFL
 obtain ⟨fa, fb, fc, hfx⟩ : ∃ fa fb fc, fxC fo = #[.string fa, .int .i64 fb, .bool fc] := by
  cases fo with
  | none => exact ⟨_, _, _, rfl⟩
  | some x => exact ⟨_, _, _, rfl⟩
 rw [hfx] at HFL
 have HFX := hd_ hfx
 have HFF := hd_ hfo
 clear hO hL hn hm hq hnm hdr hd hfo hfx
 go_enter Tryz.func40, Tryz.ntmps40
 go_upto_region 11 with fail
 have hBk := Blk.new w #[.int .u8 d, .int .u8 k, .int .i64 tb, .slice A row.length c, .int .i64 n, .int .i64 m, .int .i64 q, .string nm] 42
 have hBw : Below w.heap.size w (w.alloc (.cells #[.int .u8 d, .int .u8 k, .int .i64 tb, .slice A row.length c, .int .i64 n, .int .i64 m, .int .i64 q, .string nm] 42)) := bel1 _ _
 generalize w.alloc (.cells #[.int .u8 d, .int .u8 k, .int .i64 tb, .slice A row.length c, .int .i64 n, .int .i64 m, .int .i64 q, .string nm] 42) = w1 at hBk hBw ⊢
 have HBK := hd_ hBk
 have HBW := hd_ hBw
 clear hBk hBw
 go_cut [6, 7] (fun p b wx => ∃ g, p = .pointer (some ⟨g, 0, none⟩) ∧ b = .bool fo.isSome ∧ Blk wx g #[.string fa, .int .i64 fb, .bool fc] 129 ∧ w1.heap.size ≤ g ∧ Below w1.heap.size w1 wx)
 case first =>
  refine region_pair 7 8 #[.string ⟨#[]⟩, .int .i64 0, .bool false] #[.string fa, .int .i64 fb, .bool fc] 129 [false, false, false, false, false, false, true, true, false, false, false, false, false, false, false, false, false, false, false, false, false, false, false, false, false, false, false, false, false, false, false, false, false, false, false, false, false, false, false, false, false, false, false, false, false, false, false, false, false, false, false, false, false, false, false, false, false, false, false, false, false, false, false, false, false, false, false, false, false, false, false, false, false, false, false, false, false, false, false, false, false, false, false, true, true, true, true, true, true, true, false, false, false, false, false, false, false, false, false, false, false, false, false, false, false, false, false, false, false, false, false, false, false, false, false, false, false, false, false, false, false, false, false, false, false, false, false, false, false, false, false, false, false, false, false, false, false, false, false, false, false, false, false, false, false, false, false, false, false, false, false, false, false, false, false, false, false, false, false, false, false, false, false, false, false, false, false, false, false] [84, 85, 86, 87, 83, 88, 89, 6, 0, 7] [kForms, .val (.pointer (some ⟨w.heap.size, 0, none⟩)), .val (.int .u8 d), .val (.tuple #[.agg #[.string fa, .int .i64 fb, .bool fc], .bool fo.isSome]), .val (.tuple #[.agg #[.string fa, .int .i64 fb, .bool fc], .bool fo.isSome]), .val (.agg #[.string fa, .int .i64 fb, .bool fc]), .val (.bool fo.isSome), kPair w1.heap.size #[.string ⟨#[]⟩, .int .i64 0, .bool false] 129, kAny, .val (.bool fo.isSome)] [9] rfl ?kp (by kernel_rfl) (show 7 < 10 by decide) (show 8 < 10 by decide) (by kernel_rfl) (by kernel_rfl) (by kernel_rfl) (by kernel_rfl) (by kernel_rfl) ⟨?_, ?_, ?_, ?_, ?_, ?_, ?_, ?_, ?store, ?_, trivial⟩ ?done
  case kp =>
   intro i h7 h8
   match i, h7, h8 with
   | 0, _, _ => exact fun v w g _ hg ⟨M, e, h⟩ => ⟨M, e, h.putne hg _⟩
   | 1, _, _ | 2, _, _ | 3, _, _ | 4, _, _ | 5, _, _ | 6, _, _ | 9, _, _ => exact KP.val _
   | n + 10, _, _ => exact fun _ _ _ _ _ _ => trivial
  case done =>
   intro x w2 g hb2 hg hB
   simp only [StepGoal, overlay, upd, cond_true, cond_false, List.getD_cons_zero, List.getD_cons_succ, Nat.zero_add, Nat.reduceAdd, Nat.reduceEqDiff, reduceIte]
   go_wp2_with fail
   go_meet
   exact ⟨g, rfl, rfl, hB, hg, hb2⟩
  case store =>
   intro x w2 g hb2 hg hB v hv v' hv' K hK
   obtain ⟨w5, rfl, lt⟩ := blk_put hB
   obtain ⟨pc, pf, pS⟩ := putBlk_facts (w := w5) 129 lt
   rw [putputS] at hK
   clear hB hb2
   rw [if_pos (by rfl)]; simp only [overlay, upd, cond_true, cond_false, List.getD_cons_zero, List.getD_cons_succ, Nat.reduceEqDiff, reduceIte]
   go_simp
   exact hK.out undef
  all_goals
   intro x w2 hb2
   obtain ⟨y0, y1, y2, y3, y4, y5, y6, y7, y8⟩ := blkA (HBK.out.ext hb2)
   first
    | (intro K hK
       rw [if_pos (by rfl)]; simp only [overlay, upd, cond_true, cond_false, List.getD_cons_zero, List.getD_cons_succ, Nat.reduceEqDiff, reduceIte]
       go_simp
       first
        | exact hK.out _ _ (Below.refl _ _) rfl
        | exact hK.out _ _ (by repeat (first | exact Below.refl _ _ | assumption | refine Below.drew ?_ | refine below_drewN ?_ _ | refine Below.alloc ?_ (by simp <;> omega) _)) ⟨_, rfl, hb2.size, Blk.new _ _ _⟩
        | ((with_reducible refine (HFO.out _).mono ?_); rintro e wa ⟨rfl, hm, hba⟩; go_wp2_with fail; exact hK.out _ _ hba ⟨_, rfl, hm⟩))
    | (rintro v ⟨M, rfl, hM⟩ K hK
       have hlk := hM.look d HDR.out
       rw [HFL.out] at hlk
       rw [if_pos (by rfl)]; simp only [overlay, upd, cond_true, cond_false, List.getD_cons_zero, List.getD_cons_succ, Nat.reduceEqDiff, reduceIte]
       go_simp
       exact hK.out _ _ (Below.refl _ _) rfl)
    | (rintro v hv v' hv' K hK
       rw [if_pos (by rfl)]; simp only [overlay, upd, cond_true, cond_false, List.getD_cons_zero, List.getD_cons_succ, Nat.reduceEqDiff, reduceIte]
       go_simp
       exact hK.out _ _ (Below.refl _ _) rfl)
    | (rintro v hv K hK
       rw [if_pos (by rfl)]; simp only [overlay, upd, cond_true, cond_false, List.getD_cons_zero, List.getD_cons_succ, Nat.reduceEqDiff, reduceIte]
       go_simp
       first
        | exact hK.out _ _ (Below.refl _ _) rfl
        | exact hK.out _ _ (by repeat (first | exact Below.refl _ _ | assumption | refine Below.drew ?_ | refine below_drewN ?_ _ | refine Below.alloc ?_ (by simp <;> omega) _)) ⟨_, rfl, hb2.size, Blk.new _ _ _⟩)
 case rest =>
  obtain ⟨g, rfl, rfl, hB, hg, hb⟩ := hcut
  have HBL := hd_ (bt HBW.out hb)
  have HFB := hd_ hB
  have HAB := hd_ (HBK.out.ext hb)
  obtain ⟨y0, y1, y2, y3, y4, y5, y6, y7, y8⟩ := blkA HAB.out
  obtain ⟨g9, g0, g1, g2⟩ := blkF hB
  clear hB hg hb HBK HBW
  cases hfo : fo with
  | none =>
   rw [hfo] at HO
   have HN := HO
   go_wp2_with fail
   refine (need_no _).mono ?_
   rintro r w9 ⟨rfl, rfl⟩
   unfold gaveW
   go_wp2_with fail
   exact ⟨rfl, by rw [HN.out]; rfl, HBL.out⟩
  | some o =>
   obtain ⟨wd, fn, ff⟩ := o
   rw [hfo] at HO HFF HFX
   obtain ⟨hc3, hff⟩ := formOf_le HFF.out.symm
   have hfx := HFX.out
   simp only [fxC, Array.mk.injEq, List.cons.injEq, Value.string.injEq, Value.int.injEq, Value.bool.injEq, true_and, and_true] at hfx
   obtain ⟨rfl, rfl, rfl⟩ := hfx
   have hO2 := HO.out
   simp only at hO2
   clear HO
   by_cases hk : k = 0
   · by_cases ht : tb = 0
     · by_cases hr : row.length = 0
       · subst hk
         subst ht
         obtain rfl := List.eq_nil_of_length_eq_zero hr
         have hO3 : O = if zeroB fn ⟨d, 0, 0, [], n, m, q, nm⟩ && nmB ff ⟨d, 0, 0, [], n, m, q, nm⟩ then some (wd :: tailW fn ff ⟨d, 0, 0, [], n, m, q, nm⟩) else none := by rw [hO2]; rfl
         clear hO2 hr
         have hcI : (fn : Int) ≤ 3 := by omega
         have hc0 : (0 : Int) ≤ fn := by omega
         have hcc : (fn = 0 ∧ ff = false) ∨ (fn = 1 ∧ ff = false) ∨ (fn = 2 ∧ ff = false) ∨ (fn = 3 ∧ ff = false) ∨ (fn = 3 ∧ ff = true) := by
          cases ff
          · have : fn = 0 ∨ fn = 1 ∨ fn = 2 ∨ fn = 3 := by omega
            rcases this with h | h | h | h
            · exact Or.inl ⟨h, rfl⟩
            · exact Or.inr (Or.inl ⟨h, rfl⟩)
            · exact Or.inr (Or.inr (Or.inl ⟨h, rfl⟩))
            · exact Or.inr (Or.inr (Or.inr (Or.inl ⟨h, rfl⟩)))
          · exact Or.inr (Or.inr (Or.inr (Or.inr ⟨hff rfl, rfl⟩)))
         clear hff hc3 hcI hc0
         rcases hcc with ⟨rfl, rfl⟩ | ⟨rfl, rfl⟩ | ⟨rfl, rfl⟩ | ⟨rfl, rfl⟩ | ⟨rfl, rfl⟩
         · go_wp2_with fail
           refine (need_yes _).mono ?_
           rintro r w2 ⟨rfl, rfl⟩
           go_wp2_with fail
           have hNB := Blk.new w2 #[.int .i64 n, .int .i64 m, .int .i64 q] 3
           have hCN := containsNz_any ([n, m, q].drop 0) w2.heap.size 0 (3 - 0) (w2.alloc (.cells #[.int .i64 n, .int .i64 m, .int .i64 q] 3)) (by simp) (by simp) (nums_at hNB 0)
           have hbA := HBL.out.alloc HBL.out.size (.cells #[.int .i64 n, .int .i64 m, .int .i64 q] 3)
           have HNB := hd_ hNB
           have HABB := hd_ (HAB.out.old (.cells #[.int .i64 n, .int .i64 m, .int .i64 q] 3))
           have HFBB := hd_ (HFB.out.old (.cells #[.int .i64 n, .int .i64 m, .int .i64 q] 3))
           have HBA := hd_ hbA
           have HCN := hd_ hCN
           clear hNB hCN hbA y0 y1 y2 y3 y4 y5 y6 y7 y8 g9 g0 g1 g2
           generalize w2.alloc (.cells #[.int .i64 n, .int .i64 m, .int .i64 q] 3) = w3 at HNB HABB HFBB HBA HCN ⊢
           refine HCN.out.mono ?_
           rintro r w4 ⟨rfl, hb4⟩
           have hBL4 := bt HBA.out hb4
           have HAB4 := hd_ (HABB.out.ext hb4)
           have HFB4 := hd_ (HFBB.out.ext hb4)
           have HNB4 := hd_ (HNB.out.ext hb4)
           have HBL4 := hd_ hBL4
           clear hb4 hBL4 HCN HABB HFBB HNB HBA
           obtain ⟨y0, y1, y2, y3, y4, y5, y6, y7, y8⟩ := blkA HAB4.out
           obtain ⟨g9, g0, g1, g2⟩ := blkF HFB4.out
           cases hz : nzB ([n, m, q].drop 0) with
           | true =>
            have hN : O = none := by
             rw [hO3, if_neg]
             intro e
             have e1 := (Bool.and_eq_true _ _ ▸ e).1
             have e2 := nz_zero ([n, m, q].drop 0)
             rw [hz] at e2
             change List.all ([n, m, q].drop 0) _ = true at e1
             rw [e1] at e2
             cases e2
            have HN := hd_ hN
            clear hN hO3 hz
            go_wp2_with fail
            refine (need_no _).mono ?_
            rintro r w9 ⟨rfl, rfl⟩
            unfold gaveW
            go_wp2_with fail
            exact ⟨rfl, by rw [HN.out]; rfl, HBL4.out⟩
           | false =>
            have hzz : zeroB 0 ⟨d, 0, 0, [], n, m, q, nm⟩ = true := by
             have e2 := nz_zero ([n, m, q].drop 0)
             rw [hz] at e2
             change List.all ([n, m, q].drop 0) _ = true
             cases h : List.all ([n, m, q].drop 0) (· == 0)
             · rw [h] at e2; cases e2
             · rfl
            rw [hzz, Bool.true_and] at hO3
            clear hz hzz
            go_wp2_with fail
            refine (need_yes _).mono ?_
            rintro r w5 ⟨rfl, rfl⟩
            have hem := txt_empty (t := nm)
            by_cases h4 : nm.size = 0
            · rw [decide_eq_true h4] at hem
              rw [show nmB false ⟨d, 0, 0, [], n, m, q, nm⟩ = true from decide_eq_true h4, if_pos rfl] at hO3
              have HN := hd_ hO3
              clear hO3
              go_wp2_with fail
              refine (need_yes _).mono ?_
              rintro r w6 ⟨rfl, rfl⟩
              clear y0 y1 y2 y3 y4 y5 y6 y7 y8 hem h4 hb2
              go_upto_region 18 with fail
              have hl0 := own_new w6 w6.heap.size [wd] (Nat.le_refl _) (by simp)
              have hb0 : Below w6.heap.size w6 (w6.alloc (.cells #[.string (bsO wd)] 9)) := bel1 _ _
              have hl0' : (w6.alloc (.cells #[.string (bsO wd)] 9)).ownsRow w6.heap.size 9 1 (.slice (some ⟨w6.heap.size, 0, none⟩) 1 1) (1 + 0) (wsC (wd :: ([n, m, q].take 0).map Lib.itoa)) := hl0
              clear hl0 g9 g0 g1 g2
              go_loopw [9, 151] (fun lv i wr => ∃ j : Nat, j ≤ 0 ∧ i = .int .i64 j ∧ wr.ownsRow w6.heap.size 9 1 lv (1 + j) (wsC (wd :: ([n, m, q].take j).map Lib.itoa)) ∧ Below w6.heap.size w6 wr) (fun _ i _ => 0 - (intOf i).toNat)
              case atStart => exact ⟨0, by omega, rfl, hl0', hb0⟩
              case round =>
               obtain ⟨j, hj, rfl, hown, hbr⟩ := hrel
               clear hl0' hb0
               by_cases hlt : j < 0
               · omega
               · obtain rfl : j = 0 := by omega
                 have hfm := HFB4.out.ext hbr
                 obtain ⟨g9, g0, g1, g2⟩ := blkF hfm
                 clear hfm
                 go_wp2_with fail
                 go_ret
                 refine ⟨?_, HBL4.out.trans (hbr.mono HBL4.out.size)⟩
                 rw [HN.out]
                 exact ⟨_, rfl, own_wk hown HBL4.out.size⟩
            · rw [decide_eq_false h4] at hem
              rw [show nmB false ⟨d, 0, 0, [], n, m, q, nm⟩ = false from decide_eq_false h4, if_neg (by decide)] at hO3
              have HN := hd_ hO3
              clear hO3
              go_wp2_with fail
              refine (need_no _).mono ?_
              rintro r w9 ⟨rfl, rfl⟩
              unfold gaveW
              go_wp2_with fail
              exact ⟨rfl, by rw [HN.out]; rfl, HBL4.out⟩
         · go_wp2_with fail
           refine (need_yes _).mono ?_
           rintro r w2 ⟨rfl, rfl⟩
           go_wp2_with fail
           have hNB := Blk.new w2 #[.int .i64 n, .int .i64 m, .int .i64 q] 3
           have hCN := containsNz_any ([n, m, q].drop 1) w2.heap.size 1 (3 - 1) (w2.alloc (.cells #[.int .i64 n, .int .i64 m, .int .i64 q] 3)) (by simp) (by simp) (nums_at hNB 1)
           have hbA := HBL.out.alloc HBL.out.size (.cells #[.int .i64 n, .int .i64 m, .int .i64 q] 3)
           have HNB := hd_ hNB
           have HABB := hd_ (HAB.out.old (.cells #[.int .i64 n, .int .i64 m, .int .i64 q] 3))
           have HFBB := hd_ (HFB.out.old (.cells #[.int .i64 n, .int .i64 m, .int .i64 q] 3))
           have HBA := hd_ hbA
           have HCN := hd_ hCN
           clear hNB hCN hbA y0 y1 y2 y3 y4 y5 y6 y7 y8 g9 g0 g1 g2
           generalize w2.alloc (.cells #[.int .i64 n, .int .i64 m, .int .i64 q] 3) = w3 at HNB HABB HFBB HBA HCN ⊢
           refine HCN.out.mono ?_
           rintro r w4 ⟨rfl, hb4⟩
           have hBL4 := bt HBA.out hb4
           have HAB4 := hd_ (HABB.out.ext hb4)
           have HFB4 := hd_ (HFBB.out.ext hb4)
           have HNB4 := hd_ (HNB.out.ext hb4)
           have HBL4 := hd_ hBL4
           clear hb4 hBL4 HCN HABB HFBB HNB HBA
           obtain ⟨y0, y1, y2, y3, y4, y5, y6, y7, y8⟩ := blkA HAB4.out
           obtain ⟨g9, g0, g1, g2⟩ := blkF HFB4.out
           cases hz : nzB ([n, m, q].drop 1) with
           | true =>
            have hN : O = none := by
             rw [hO3, if_neg]
             intro e
             have e1 := (Bool.and_eq_true _ _ ▸ e).1
             have e2 := nz_zero ([n, m, q].drop 1)
             rw [hz] at e2
             change List.all ([n, m, q].drop 1) _ = true at e1
             rw [e1] at e2
             cases e2
            have HN := hd_ hN
            clear hN hO3 hz
            go_wp2_with fail
            refine (need_no _).mono ?_
            rintro r w9 ⟨rfl, rfl⟩
            unfold gaveW
            go_wp2_with fail
            exact ⟨rfl, by rw [HN.out]; rfl, HBL4.out⟩
           | false =>
            have hzz : zeroB 1 ⟨d, 0, 0, [], n, m, q, nm⟩ = true := by
             have e2 := nz_zero ([n, m, q].drop 1)
             rw [hz] at e2
             change List.all ([n, m, q].drop 1) _ = true
             cases h : List.all ([n, m, q].drop 1) (· == 0)
             · rw [h] at e2; cases e2
             · rfl
            rw [hzz, Bool.true_and] at hO3
            clear hz hzz
            go_wp2_with fail
            refine (need_yes _).mono ?_
            rintro r w5 ⟨rfl, rfl⟩
            have hem := txt_empty (t := nm)
            by_cases h4 : nm.size = 0
            · rw [decide_eq_true h4] at hem
              rw [show nmB false ⟨d, 0, 0, [], n, m, q, nm⟩ = true from decide_eq_true h4, if_pos rfl] at hO3
              have HN := hd_ hO3
              clear hO3
              go_wp2_with fail
              refine (need_yes _).mono ?_
              rintro r w6 ⟨rfl, rfl⟩
              clear y0 y1 y2 y3 y4 y5 y6 y7 y8 hem h4 hb2
              go_upto_region 18 with fail
              have hl0 := own_new w6 w6.heap.size [wd] (Nat.le_refl _) (by simp)
              have hb0 : Below w6.heap.size w6 (w6.alloc (.cells #[.string (bsO wd)] 9)) := bel1 _ _
              have hl0' : (w6.alloc (.cells #[.string (bsO wd)] 9)).ownsRow w6.heap.size 9 1 (.slice (some ⟨w6.heap.size, 0, none⟩) 1 1) (1 + 0) (wsC (wd :: ([n, m, q].take 0).map Lib.itoa)) := hl0
              clear hl0 g9 g0 g1 g2
              go_loopw [9, 151] (fun lv i wr => ∃ j : Nat, j ≤ 1 ∧ i = .int .i64 j ∧ wr.ownsRow w6.heap.size 9 1 lv (1 + j) (wsC (wd :: ([n, m, q].take j).map Lib.itoa)) ∧ Below w6.heap.size w6 wr) (fun _ i _ => 1 - (intOf i).toNat)
              case atStart => exact ⟨0, by omega, rfl, hl0', hb0⟩
              case round =>
               obtain ⟨j, hj, rfl, hown, hbr⟩ := hrel
               clear hl0' hb0
               by_cases hlt : j < 1
               · obtain ⟨v, hv, hvb⟩ : ∃ v, [n, m, q][j]? = some v ∧ i64B v := by
                  obtain ⟨h1, h2, h3⟩ := HI.out
                  rcases j with _ | _ | _ | j
                  · exact ⟨_, rfl, h1⟩
                  · exact ⟨_, rfl, h2⟩
                  · exact ⟨_, rfl, h3⟩
                  · omega
                 have hce := nums_at (HNB4.out.ext hbr) 0 j v hv
                 rw [Nat.zero_add] at hce
                 have htk : ([n, m, q].take (j + 1)) = [n, m, q].take j ++ [v] := by
                  obtain ⟨h1, h2⟩ := List.getElem?_eq_some_iff.1 hv
                  rw [List.take_succ_eq_append_getElem h1, h2]
                 have HMP : Hid (wsC (wd :: ([n, m, q].take (j + 1)).map Lib.itoa) = wsC (wd :: ([n, m, q].take j).map Lib.itoa) ++ [.string (bsO (Lib.itoa v))]) := by
                  show _ = _
                  rw [htk, List.map_append]
                  simp [wsC]
                 have hltI : (j : Int) < 1 := by omega
                 have hlw := (HNB4.out.ext hbr).lt
                 clear hv htk
                 generalize hxs : (wd :: ([n, m, q].take j).map Lib.itoa) = xs at hown HMP
                 clear hxs
                 go_wp2_with fail
                 refine (HNU.out v hvb _ (HBL4.out.trans (hbr.mono HBL4.out.size))).mono ?_
                 rintro r w7 ⟨rfl, hb7⟩
                 have hown7 := own_ext hown hb7
                 have hb7' := bt hbr hb7
                 clear hb7 hown hbr hce
                 go_wp2_with (at_builtin; refine wpList_append_own _ rfl _ _ 63 rfl w6.heap.size 9 i0 (.string ByteArray.empty) 1 16 Tryz.underlying63 hi0 hz0 hz1 hz2 rfl (by decide) _ (1 + j) (wsC xs) rfl (World.ownsRow.alloc hown7 _) ⟨w7.heap.size, 0, none⟩ 1 1 [.string (bsO (Lib.itoa v))] rfl rfl ?yc1 ?yc2 ?yc3 ?yc4 ?yc5 ?_)
                 case yc1 => exact cell_one_new _ _ _
                 case yc2 => simp [Value.oneCell']
                 case yc3 => simp only [maxLen]; omega
                 case yc4 => omega
                 case yc5 => have := hb7'.size; simp; omega
                 intro v' w8 hown8 hg8 _
                 rw [← HMP.out] at hown8
                 have hb8 : Below w6.heap.size w6 w8 := (hb7'.alloc hb7'.size _).grown hg8 (by have := hb7'.size; simp; omega) (own_ge hown7)
                 clear hown7 hg8 hb7'
                 go_wp2_with fail
                 go_roundw
                 case rel => exact ⟨j + 1, by omega, by go_num, hown8, hb8⟩
                 case measure => simp [intOf]; omega
               · obtain rfl : j = 1 := by omega
                 have hfm := HFB4.out.ext hbr
                 obtain ⟨g9, g0, g1, g2⟩ := blkF hfm
                 clear hfm
                 go_wp2_with fail
                 go_ret
                 refine ⟨?_, HBL4.out.trans (hbr.mono HBL4.out.size)⟩
                 rw [HN.out]
                 exact ⟨_, rfl, own_wk hown HBL4.out.size⟩
            · rw [decide_eq_false h4] at hem
              rw [show nmB false ⟨d, 0, 0, [], n, m, q, nm⟩ = false from decide_eq_false h4, if_neg (by decide)] at hO3
              have HN := hd_ hO3
              clear hO3
              go_wp2_with fail
              refine (need_no _).mono ?_
              rintro r w9 ⟨rfl, rfl⟩
              unfold gaveW
              go_wp2_with fail
              exact ⟨rfl, by rw [HN.out]; rfl, HBL4.out⟩
         · go_wp2_with fail
           refine (need_yes _).mono ?_
           rintro r w2 ⟨rfl, rfl⟩
           go_wp2_with fail
           have hNB := Blk.new w2 #[.int .i64 n, .int .i64 m, .int .i64 q] 3
           have hCN := containsNz_any ([n, m, q].drop 2) w2.heap.size 2 (3 - 2) (w2.alloc (.cells #[.int .i64 n, .int .i64 m, .int .i64 q] 3)) (by simp) (by simp) (nums_at hNB 2)
           have hbA := HBL.out.alloc HBL.out.size (.cells #[.int .i64 n, .int .i64 m, .int .i64 q] 3)
           have HNB := hd_ hNB
           have HABB := hd_ (HAB.out.old (.cells #[.int .i64 n, .int .i64 m, .int .i64 q] 3))
           have HFBB := hd_ (HFB.out.old (.cells #[.int .i64 n, .int .i64 m, .int .i64 q] 3))
           have HBA := hd_ hbA
           have HCN := hd_ hCN
           clear hNB hCN hbA y0 y1 y2 y3 y4 y5 y6 y7 y8 g9 g0 g1 g2
           generalize w2.alloc (.cells #[.int .i64 n, .int .i64 m, .int .i64 q] 3) = w3 at HNB HABB HFBB HBA HCN ⊢
           refine HCN.out.mono ?_
           rintro r w4 ⟨rfl, hb4⟩
           have hBL4 := bt HBA.out hb4
           have HAB4 := hd_ (HABB.out.ext hb4)
           have HFB4 := hd_ (HFBB.out.ext hb4)
           have HNB4 := hd_ (HNB.out.ext hb4)
           have HBL4 := hd_ hBL4
           clear hb4 hBL4 HCN HABB HFBB HNB HBA
           obtain ⟨y0, y1, y2, y3, y4, y5, y6, y7, y8⟩ := blkA HAB4.out
           obtain ⟨g9, g0, g1, g2⟩ := blkF HFB4.out
           cases hz : nzB ([n, m, q].drop 2) with
           | true =>
            have hN : O = none := by
             rw [hO3, if_neg]
             intro e
             have e1 := (Bool.and_eq_true _ _ ▸ e).1
             have e2 := nz_zero ([n, m, q].drop 2)
             rw [hz] at e2
             change List.all ([n, m, q].drop 2) _ = true at e1
             rw [e1] at e2
             cases e2
            have HN := hd_ hN
            clear hN hO3 hz
            go_wp2_with fail
            refine (need_no _).mono ?_
            rintro r w9 ⟨rfl, rfl⟩
            unfold gaveW
            go_wp2_with fail
            exact ⟨rfl, by rw [HN.out]; rfl, HBL4.out⟩
           | false =>
            have hzz : zeroB 2 ⟨d, 0, 0, [], n, m, q, nm⟩ = true := by
             have e2 := nz_zero ([n, m, q].drop 2)
             rw [hz] at e2
             change List.all ([n, m, q].drop 2) _ = true
             cases h : List.all ([n, m, q].drop 2) (· == 0)
             · rw [h] at e2; cases e2
             · rfl
            rw [hzz, Bool.true_and] at hO3
            clear hz hzz
            go_wp2_with fail
            refine (need_yes _).mono ?_
            rintro r w5 ⟨rfl, rfl⟩
            have hem := txt_empty (t := nm)
            by_cases h4 : nm.size = 0
            · rw [decide_eq_true h4] at hem
              rw [show nmB false ⟨d, 0, 0, [], n, m, q, nm⟩ = true from decide_eq_true h4, if_pos rfl] at hO3
              have HN := hd_ hO3
              clear hO3
              go_wp2_with fail
              refine (need_yes _).mono ?_
              rintro r w6 ⟨rfl, rfl⟩
              clear y0 y1 y2 y3 y4 y5 y6 y7 y8 hem h4 hb2
              go_upto_region 18 with fail
              have hl0 := own_new w6 w6.heap.size [wd] (Nat.le_refl _) (by simp)
              have hb0 : Below w6.heap.size w6 (w6.alloc (.cells #[.string (bsO wd)] 9)) := bel1 _ _
              have hl0' : (w6.alloc (.cells #[.string (bsO wd)] 9)).ownsRow w6.heap.size 9 1 (.slice (some ⟨w6.heap.size, 0, none⟩) 1 1) (1 + 0) (wsC (wd :: ([n, m, q].take 0).map Lib.itoa)) := hl0
              clear hl0 g9 g0 g1 g2
              go_loopw [9, 151] (fun lv i wr => ∃ j : Nat, j ≤ 2 ∧ i = .int .i64 j ∧ wr.ownsRow w6.heap.size 9 1 lv (1 + j) (wsC (wd :: ([n, m, q].take j).map Lib.itoa)) ∧ Below w6.heap.size w6 wr) (fun _ i _ => 2 - (intOf i).toNat)
              case atStart => exact ⟨0, by omega, rfl, hl0', hb0⟩
              case round =>
               obtain ⟨j, hj, rfl, hown, hbr⟩ := hrel
               clear hl0' hb0
               by_cases hlt : j < 2
               · obtain ⟨v, hv, hvb⟩ : ∃ v, [n, m, q][j]? = some v ∧ i64B v := by
                  obtain ⟨h1, h2, h3⟩ := HI.out
                  rcases j with _ | _ | _ | j
                  · exact ⟨_, rfl, h1⟩
                  · exact ⟨_, rfl, h2⟩
                  · exact ⟨_, rfl, h3⟩
                  · omega
                 have hce := nums_at (HNB4.out.ext hbr) 0 j v hv
                 rw [Nat.zero_add] at hce
                 have htk : ([n, m, q].take (j + 1)) = [n, m, q].take j ++ [v] := by
                  obtain ⟨h1, h2⟩ := List.getElem?_eq_some_iff.1 hv
                  rw [List.take_succ_eq_append_getElem h1, h2]
                 have HMP : Hid (wsC (wd :: ([n, m, q].take (j + 1)).map Lib.itoa) = wsC (wd :: ([n, m, q].take j).map Lib.itoa) ++ [.string (bsO (Lib.itoa v))]) := by
                  show _ = _
                  rw [htk, List.map_append]
                  simp [wsC]
                 have hltI : (j : Int) < 2 := by omega
                 have hlw := (HNB4.out.ext hbr).lt
                 clear hv htk
                 generalize hxs : (wd :: ([n, m, q].take j).map Lib.itoa) = xs at hown HMP
                 clear hxs
                 go_wp2_with fail
                 refine (HNU.out v hvb _ (HBL4.out.trans (hbr.mono HBL4.out.size))).mono ?_
                 rintro r w7 ⟨rfl, hb7⟩
                 have hown7 := own_ext hown hb7
                 have hb7' := bt hbr hb7
                 clear hb7 hown hbr hce
                 go_wp2_with (at_builtin; refine wpList_append_own _ rfl _ _ 63 rfl w6.heap.size 9 i0 (.string ByteArray.empty) 1 16 Tryz.underlying63 hi0 hz0 hz1 hz2 rfl (by decide) _ (1 + j) (wsC xs) rfl (World.ownsRow.alloc hown7 _) ⟨w7.heap.size, 0, none⟩ 1 1 [.string (bsO (Lib.itoa v))] rfl rfl ?yc1 ?yc2 ?yc3 ?yc4 ?yc5 ?_)
                 case yc1 => exact cell_one_new _ _ _
                 case yc2 => simp [Value.oneCell']
                 case yc3 => simp only [maxLen]; omega
                 case yc4 => omega
                 case yc5 => have := hb7'.size; simp; omega
                 intro v' w8 hown8 hg8 _
                 rw [← HMP.out] at hown8
                 have hb8 : Below w6.heap.size w6 w8 := (hb7'.alloc hb7'.size _).grown hg8 (by have := hb7'.size; simp; omega) (own_ge hown7)
                 clear hown7 hg8 hb7'
                 go_wp2_with fail
                 go_roundw
                 case rel => exact ⟨j + 1, by omega, by go_num, hown8, hb8⟩
                 case measure => simp [intOf]; omega
               · obtain rfl : j = 2 := by omega
                 have hfm := HFB4.out.ext hbr
                 obtain ⟨g9, g0, g1, g2⟩ := blkF hfm
                 clear hfm
                 go_wp2_with fail
                 go_ret
                 refine ⟨?_, HBL4.out.trans (hbr.mono HBL4.out.size)⟩
                 rw [HN.out]
                 exact ⟨_, rfl, own_wk hown HBL4.out.size⟩
            · rw [decide_eq_false h4] at hem
              rw [show nmB false ⟨d, 0, 0, [], n, m, q, nm⟩ = false from decide_eq_false h4, if_neg (by decide)] at hO3
              have HN := hd_ hO3
              clear hO3
              go_wp2_with fail
              refine (need_no _).mono ?_
              rintro r w9 ⟨rfl, rfl⟩
              unfold gaveW
              go_wp2_with fail
              exact ⟨rfl, by rw [HN.out]; rfl, HBL4.out⟩
         · go_wp2_with fail
           refine (need_yes _).mono ?_
           rintro r w2 ⟨rfl, rfl⟩
           go_wp2_with fail
           have hNB := Blk.new w2 #[.int .i64 n, .int .i64 m, .int .i64 q] 3
           have hCN := containsNz_any ([n, m, q].drop 3) w2.heap.size 0 (3 - 3) (w2.alloc (.cells #[.int .i64 n, .int .i64 m, .int .i64 q] 3)) (by simp) (by simp) (fun j v hj => by simp at hj)
           have hbA := HBL.out.alloc HBL.out.size (.cells #[.int .i64 n, .int .i64 m, .int .i64 q] 3)
           have HNB := hd_ hNB
           have HABB := hd_ (HAB.out.old (.cells #[.int .i64 n, .int .i64 m, .int .i64 q] 3))
           have HFBB := hd_ (HFB.out.old (.cells #[.int .i64 n, .int .i64 m, .int .i64 q] 3))
           have HBA := hd_ hbA
           have HCN := hd_ hCN
           clear hNB hCN hbA y0 y1 y2 y3 y4 y5 y6 y7 y8 g9 g0 g1 g2
           generalize w2.alloc (.cells #[.int .i64 n, .int .i64 m, .int .i64 q] 3) = w3 at HNB HABB HFBB HBA HCN ⊢
           refine HCN.out.mono ?_
           rintro r w4 ⟨rfl, hb4⟩
           have hBL4 := bt HBA.out hb4
           have HAB4 := hd_ (HABB.out.ext hb4)
           have HFB4 := hd_ (HFBB.out.ext hb4)
           have HNB4 := hd_ (HNB.out.ext hb4)
           have HBL4 := hd_ hBL4
           clear hb4 hBL4 HCN HABB HFBB HNB HBA
           obtain ⟨y0, y1, y2, y3, y4, y5, y6, y7, y8⟩ := blkA HAB4.out
           obtain ⟨g9, g0, g1, g2⟩ := blkF HFB4.out
           cases hz : nzB ([n, m, q].drop 3) with
           | true =>
            have hN : O = none := by
             rw [hO3, if_neg]
             intro e
             have e1 := (Bool.and_eq_true _ _ ▸ e).1
             have e2 := nz_zero ([n, m, q].drop 3)
             rw [hz] at e2
             change List.all ([n, m, q].drop 3) _ = true at e1
             rw [e1] at e2
             cases e2
            have HN := hd_ hN
            clear hN hO3 hz
            go_wp2_with fail
            refine (need_no _).mono ?_
            rintro r w9 ⟨rfl, rfl⟩
            unfold gaveW
            go_wp2_with fail
            exact ⟨rfl, by rw [HN.out]; rfl, HBL4.out⟩
           | false =>
            have hzz : zeroB 3 ⟨d, 0, 0, [], n, m, q, nm⟩ = true := by
             have e2 := nz_zero ([n, m, q].drop 3)
             rw [hz] at e2
             change List.all ([n, m, q].drop 3) _ = true
             cases h : List.all ([n, m, q].drop 3) (· == 0)
             · rw [h] at e2; cases e2
             · rfl
            rw [hzz, Bool.true_and] at hO3
            clear hz hzz
            go_wp2_with fail
            refine (need_yes _).mono ?_
            rintro r w5 ⟨rfl, rfl⟩
            have hem := txt_empty (t := nm)
            by_cases h4 : nm.size = 0
            · rw [decide_eq_true h4] at hem
              rw [show nmB false ⟨d, 0, 0, [], n, m, q, nm⟩ = true from decide_eq_true h4, if_pos rfl] at hO3
              have HN := hd_ hO3
              clear hO3
              go_wp2_with fail
              refine (need_yes _).mono ?_
              rintro r w6 ⟨rfl, rfl⟩
              clear y0 y1 y2 y3 y4 y5 y6 y7 y8 hem h4 hb2
              go_upto_region 18 with fail
              have hl0 := own_new w6 w6.heap.size [wd] (Nat.le_refl _) (by simp)
              have hb0 : Below w6.heap.size w6 (w6.alloc (.cells #[.string (bsO wd)] 9)) := bel1 _ _
              have hl0' : (w6.alloc (.cells #[.string (bsO wd)] 9)).ownsRow w6.heap.size 9 1 (.slice (some ⟨w6.heap.size, 0, none⟩) 1 1) (1 + 0) (wsC (wd :: ([n, m, q].take 0).map Lib.itoa)) := hl0
              clear hl0 g9 g0 g1 g2
              go_loopw [9, 151] (fun lv i wr => ∃ j : Nat, j ≤ 3 ∧ i = .int .i64 j ∧ wr.ownsRow w6.heap.size 9 1 lv (1 + j) (wsC (wd :: ([n, m, q].take j).map Lib.itoa)) ∧ Below w6.heap.size w6 wr) (fun _ i _ => 3 - (intOf i).toNat)
              case atStart => exact ⟨0, by omega, rfl, hl0', hb0⟩
              case round =>
               obtain ⟨j, hj, rfl, hown, hbr⟩ := hrel
               clear hl0' hb0
               by_cases hlt : j < 3
               · obtain ⟨v, hv, hvb⟩ : ∃ v, [n, m, q][j]? = some v ∧ i64B v := by
                  obtain ⟨h1, h2, h3⟩ := HI.out
                  rcases j with _ | _ | _ | j
                  · exact ⟨_, rfl, h1⟩
                  · exact ⟨_, rfl, h2⟩
                  · exact ⟨_, rfl, h3⟩
                  · omega
                 have hce := nums_at (HNB4.out.ext hbr) 0 j v hv
                 rw [Nat.zero_add] at hce
                 have htk : ([n, m, q].take (j + 1)) = [n, m, q].take j ++ [v] := by
                  obtain ⟨h1, h2⟩ := List.getElem?_eq_some_iff.1 hv
                  rw [List.take_succ_eq_append_getElem h1, h2]
                 have HMP : Hid (wsC (wd :: ([n, m, q].take (j + 1)).map Lib.itoa) = wsC (wd :: ([n, m, q].take j).map Lib.itoa) ++ [.string (bsO (Lib.itoa v))]) := by
                  show _ = _
                  rw [htk, List.map_append]
                  simp [wsC]
                 have hltI : (j : Int) < 3 := by omega
                 have hlw := (HNB4.out.ext hbr).lt
                 clear hv htk
                 generalize hxs : (wd :: ([n, m, q].take j).map Lib.itoa) = xs at hown HMP
                 clear hxs
                 go_wp2_with fail
                 refine (HNU.out v hvb _ (HBL4.out.trans (hbr.mono HBL4.out.size))).mono ?_
                 rintro r w7 ⟨rfl, hb7⟩
                 have hown7 := own_ext hown hb7
                 have hb7' := bt hbr hb7
                 clear hb7 hown hbr hce
                 go_wp2_with (at_builtin; refine wpList_append_own _ rfl _ _ 63 rfl w6.heap.size 9 i0 (.string ByteArray.empty) 1 16 Tryz.underlying63 hi0 hz0 hz1 hz2 rfl (by decide) _ (1 + j) (wsC xs) rfl (World.ownsRow.alloc hown7 _) ⟨w7.heap.size, 0, none⟩ 1 1 [.string (bsO (Lib.itoa v))] rfl rfl ?yc1 ?yc2 ?yc3 ?yc4 ?yc5 ?_)
                 case yc1 => exact cell_one_new _ _ _
                 case yc2 => simp [Value.oneCell']
                 case yc3 => simp only [maxLen]; omega
                 case yc4 => omega
                 case yc5 => have := hb7'.size; simp; omega
                 intro v' w8 hown8 hg8 _
                 rw [← HMP.out] at hown8
                 have hb8 : Below w6.heap.size w6 w8 := (hb7'.alloc hb7'.size _).grown hg8 (by have := hb7'.size; simp; omega) (own_ge hown7)
                 clear hown7 hg8 hb7'
                 go_wp2_with fail
                 go_roundw
                 case rel => exact ⟨j + 1, by omega, by go_num, hown8, hb8⟩
                 case measure => simp [intOf]; omega
               · obtain rfl : j = 3 := by omega
                 have hfm := HFB4.out.ext hbr
                 obtain ⟨g9, g0, g1, g2⟩ := blkF hfm
                 clear hfm
                 go_wp2_with fail
                 go_ret
                 refine ⟨?_, HBL4.out.trans (hbr.mono HBL4.out.size)⟩
                 rw [HN.out]
                 exact ⟨_, rfl, own_wk hown HBL4.out.size⟩
            · rw [decide_eq_false h4] at hem
              rw [show nmB false ⟨d, 0, 0, [], n, m, q, nm⟩ = false from decide_eq_false h4, if_neg (by decide)] at hO3
              have HN := hd_ hO3
              clear hO3
              go_wp2_with fail
              refine (need_no _).mono ?_
              rintro r w9 ⟨rfl, rfl⟩
              unfold gaveW
              go_wp2_with fail
              exact ⟨rfl, by rw [HN.out]; rfl, HBL4.out⟩
         · go_wp2_with fail
           refine (need_yes _).mono ?_
           rintro r w2 ⟨rfl, rfl⟩
           go_wp2_with fail
           have hNB := Blk.new w2 #[.int .i64 n, .int .i64 m, .int .i64 q] 3
           have hCN := containsNz_any ([n, m, q].drop 3) w2.heap.size 0 (3 - 3) (w2.alloc (.cells #[.int .i64 n, .int .i64 m, .int .i64 q] 3)) (by simp) (by simp) (fun j v hj => by simp at hj)
           have hbA := HBL.out.alloc HBL.out.size (.cells #[.int .i64 n, .int .i64 m, .int .i64 q] 3)
           have HNB := hd_ hNB
           have HABB := hd_ (HAB.out.old (.cells #[.int .i64 n, .int .i64 m, .int .i64 q] 3))
           have HFBB := hd_ (HFB.out.old (.cells #[.int .i64 n, .int .i64 m, .int .i64 q] 3))
           have HBA := hd_ hbA
           have HCN := hd_ hCN
           clear hNB hCN hbA y0 y1 y2 y3 y4 y5 y6 y7 y8 g9 g0 g1 g2
           generalize w2.alloc (.cells #[.int .i64 n, .int .i64 m, .int .i64 q] 3) = w3 at HNB HABB HFBB HBA HCN ⊢
           refine HCN.out.mono ?_
           rintro r w4 ⟨rfl, hb4⟩
           have hBL4 := bt HBA.out hb4
           have HAB4 := hd_ (HABB.out.ext hb4)
           have HFB4 := hd_ (HFBB.out.ext hb4)
           have HNB4 := hd_ (HNB.out.ext hb4)
           have HBL4 := hd_ hBL4
           clear hb4 hBL4 HCN HABB HFBB HNB HBA
           obtain ⟨y0, y1, y2, y3, y4, y5, y6, y7, y8⟩ := blkA HAB4.out
           obtain ⟨g9, g0, g1, g2⟩ := blkF HFB4.out
           cases hz : nzB ([n, m, q].drop 3) with
           | true =>
            have hN : O = none := by
             rw [hO3, if_neg]
             intro e
             have e1 := (Bool.and_eq_true _ _ ▸ e).1
             have e2 := nz_zero ([n, m, q].drop 3)
             rw [hz] at e2
             change List.all ([n, m, q].drop 3) _ = true at e1
             rw [e1] at e2
             cases e2
            have HN := hd_ hN
            clear hN hO3 hz
            go_wp2_with fail
            refine (need_no _).mono ?_
            rintro r w9 ⟨rfl, rfl⟩
            unfold gaveW
            go_wp2_with fail
            exact ⟨rfl, by rw [HN.out]; rfl, HBL4.out⟩
           | false =>
            have hzz : zeroB 3 ⟨d, 0, 0, [], n, m, q, nm⟩ = true := by
             have e2 := nz_zero ([n, m, q].drop 3)
             rw [hz] at e2
             change List.all ([n, m, q].drop 3) _ = true
             cases h : List.all ([n, m, q].drop 3) (· == 0)
             · rw [h] at e2; cases e2
             · rfl
            rw [hzz, Bool.true_and] at hO3
            clear hz hzz
            go_wp2_with fail
            refine (need_yes _).mono ?_
            rintro r w5 ⟨rfl, rfl⟩
            cases hfi : fileB nm.data.toList with
            | false =>
             rw [show nmB true ⟨d, 0, 0, [], n, m, q, nm⟩ = false from hfi, if_neg (by decide)] at hO3
             have HN := hd_ hO3
             rw [hfi] at HNM
             clear hO3 hfi
             go_wp2_with fail
             refine (HNM.out _).mono ?_
             rintro r w6 ⟨rfl, hb6⟩
             have hBL6 := bt HBL4.out hb6
             obtain ⟨z9, z0, z1, z2⟩ := blkF (HFB4.out.ext hb6)
             clear hb6
             go_wp2_with fail
             refine (need_no _).mono ?_
             rintro r w9 ⟨rfl, rfl⟩
             unfold gaveW
             go_wp2_with fail
             exact ⟨rfl, by rw [HN.out]; rfl, hBL6⟩
            | true =>
             rw [show nmB true ⟨d, 0, 0, [], n, m, q, nm⟩ = true from hfi, if_pos rfl] at hO3
             have HN := hd_ hO3
             rw [hfi] at HNM
             clear hO3 hfi
             go_wp2_with fail
             refine (HNM.out _).mono ?_
             rintro r w5 ⟨rfl, hb5⟩
             have hBL5 := bt HBL4.out hb5
             have HAB5 := hd_ (HAB4.out.ext hb5)
             have HFB5 := hd_ (HFB4.out.ext hb5)
             have HNB5 := hd_ (HNB4.out.ext hb5)
             have HBL5 := hd_ hBL5
             clear hb5 hBL5 HAB4 HFB4 HNB4 HBL4 y0 y1 y2 y3 y4 y5 y6 y7 y8 g9 g0 g1 g2
             have HAB4 := HAB5
             have HFB4 := HFB5
             have HNB4 := HNB5
             have HBL4 := HBL5
             clear HAB5 HFB5 HNB5 HBL5
             obtain ⟨g9, g0, g1, g2⟩ := blkF HFB4.out
             go_wp2_with fail
             refine (need_yes _).mono ?_
             rintro r w6 ⟨rfl, rfl⟩
             clear hb2
             go_upto_region 18 with fail
             have hl0 := own_new w6 w6.heap.size [wd] (Nat.le_refl _) (by simp)
             have hb0 : Below w6.heap.size w6 (w6.alloc (.cells #[.string (bsO wd)] 9)) := bel1 _ _
             have hl0' : (w6.alloc (.cells #[.string (bsO wd)] 9)).ownsRow w6.heap.size 9 1 (.slice (some ⟨w6.heap.size, 0, none⟩) 1 1) (1 + 0) (wsC (wd :: ([n, m, q].take 0).map Lib.itoa)) := hl0
             clear hl0 g9 g0 g1 g2
             go_loopw [9, 151] (fun lv i wr => ∃ j : Nat, j ≤ 3 ∧ i = .int .i64 j ∧ wr.ownsRow w6.heap.size 9 1 lv (1 + j) (wsC (wd :: ([n, m, q].take j).map Lib.itoa)) ∧ Below w6.heap.size w6 wr) (fun _ i _ => 3 - (intOf i).toNat)
             case atStart => exact ⟨0, by omega, rfl, hl0', hb0⟩
             case round =>
              obtain ⟨j, hj, rfl, hown, hbr⟩ := hrel
              clear hl0' hb0
              by_cases hlt : j < 3
              · obtain ⟨v, hv, hvb⟩ : ∃ v, [n, m, q][j]? = some v ∧ i64B v := by
                 obtain ⟨h1, h2, h3⟩ := HI.out
                 rcases j with _ | _ | _ | j
                 · exact ⟨_, rfl, h1⟩
                 · exact ⟨_, rfl, h2⟩
                 · exact ⟨_, rfl, h3⟩
                 · omega
                have hce := nums_at (HNB4.out.ext hbr) 0 j v hv
                rw [Nat.zero_add] at hce
                have htk : ([n, m, q].take (j + 1)) = [n, m, q].take j ++ [v] := by
                 obtain ⟨h1, h2⟩ := List.getElem?_eq_some_iff.1 hv
                 rw [List.take_succ_eq_append_getElem h1, h2]
                have HMP : Hid (wsC (wd :: ([n, m, q].take (j + 1)).map Lib.itoa) = wsC (wd :: ([n, m, q].take j).map Lib.itoa) ++ [.string (bsO (Lib.itoa v))]) := by
                 show _ = _
                 rw [htk, List.map_append]
                 simp [wsC]
                have hltI : (j : Int) < 3 := by omega
                have hlw := (HNB4.out.ext hbr).lt
                clear hv htk
                generalize hxs : (wd :: ([n, m, q].take j).map Lib.itoa) = xs at hown HMP
                clear hxs
                go_wp2_with fail
                refine (HNU.out v hvb _ (HBL4.out.trans (hbr.mono HBL4.out.size))).mono ?_
                rintro r w7 ⟨rfl, hb7⟩
                have hown7 := own_ext hown hb7
                have hb7' := bt hbr hb7
                clear hb7 hown hbr hce
                go_wp2_with (at_builtin; refine wpList_append_own _ rfl _ _ 63 rfl w6.heap.size 9 i0 (.string ByteArray.empty) 1 16 Tryz.underlying63 hi0 hz0 hz1 hz2 rfl (by decide) _ (1 + j) (wsC xs) rfl (World.ownsRow.alloc hown7 _) ⟨w7.heap.size, 0, none⟩ 1 1 [.string (bsO (Lib.itoa v))] rfl rfl ?yc1 ?yc2 ?yc3 ?yc4 ?yc5 ?_)
                case yc1 => exact cell_one_new _ _ _
                case yc2 => simp [Value.oneCell']
                case yc3 => simp only [maxLen]; omega
                case yc4 => omega
                case yc5 => have := hb7'.size; simp; omega
                intro v' w8 hown8 hg8 _
                rw [← HMP.out] at hown8
                have hb8 : Below w6.heap.size w6 w8 := (hb7'.alloc hb7'.size _).grown hg8 (by have := hb7'.size; simp; omega) (own_ge hown7)
                clear hown7 hg8 hb7'
                go_wp2_with fail
                go_roundw
                case rel => exact ⟨j + 1, by omega, by go_num, hown8, hb8⟩
                case measure => simp [intOf]; omega
              · obtain rfl : j = 3 := by omega
                have hfm := HFB4.out.ext hbr
                obtain ⟨g9, g0, g1, g2⟩ := blkF hfm
                obtain ⟨y0, y1, y2, y3, y4, y5, y6, y7, y8⟩ := blkA (HAB4.out.ext hbr)
                have HOW := hd_ hown
                have HBR := hd_ hbr
                clear hfm hown hbr
                go_wp2_with fail
                have hne : Value.ownBlock _ ≠ some wr.heap.size := own_not HOW.out
                refine (insert_any w6.heap.size wr.heap.size _ (.string (bsO wd)) (.string (bsO (Lib.itoa n))) (.string (bsO (Lib.itoa m))) (.string (bsO (Lib.itoa q))) (.string nm) _ (World.ownsRow.alloc HOW.out _) (Blk.new _ _ _) hne (by have := HBR.out.size; simp; omega) (by simp [Value.oneCell']) rfl).mono ?_
                rintro r w9 ⟨⟨lv', rfl, hown9⟩, hb9⟩
                have HO9 := hd_ hown9
                have HB9 := hd_ ((HBR.out.alloc HBR.out.size (.cells #[.string nm] 9)).trans hb9)
                clear hown9 hb9 hne y0 y1 y2 y3 y4 y5 y6 y7 y8 g9 g0 g1 g2
                go_wp2_with fail
                go_ret
                refine ⟨?_, HBL4.out.trans (HB9.out.mono HBL4.out.size)⟩
                rw [HN.out]
                refine ⟨_, rfl, ?_⟩
                have := own_wk HO9.out HBL4.out.size
                rw [← bsO_of nm] at this
                exact this
       · have hN : O = none := by rw [hO2, if_neg (by simp [noOpB, hr])]
         have hb : ((row.length : Int) == 0) = false := by simp only [beq_eq_false_iff_ne, ne_eq]; omega
         have HN := hd_ hN
         subst hk
         subst ht
         clear hN hO2 hr
         go_wp2_with fail
         refine (need_no _).mono ?_
         rintro r w9 ⟨rfl, rfl⟩
         unfold gaveW
         go_wp2_with fail
         exact ⟨rfl, by rw [HN.out]; rfl, HBL.out⟩
     · have hN : O = none := by rw [hO2, if_neg (by simp [noOpB, ht])]
       have hb : (tb == 0) = false := by simpa using ht
       have HN := hd_ hN
       subst hk
       clear hN hO2
       go_wp2_with fail
       refine (need_no _).mono ?_
       rintro r w9 ⟨rfl, rfl⟩
       unfold gaveW
       go_wp2_with fail
       exact ⟨rfl, by rw [HN.out]; rfl, HBL.out⟩
   · have hN : O = none := by rw [hO2, if_neg (by simp [noOpB, hk])]
     have hb : (k == 0) = false := by simpa using hk
     have HN := hd_ hN
     clear hN hO2
     go_wp2_with fail
     refine (need_no _).mono ?_
     rintro r w9 ⟨rfl, rfl⟩
     unfold gaveW
     go_wp2_with fail
     exact ⟨rfl, by rw [HN.out]; rfl, HBL.out⟩
end Go.Proofs.YtfekohonidggjaaGreatDoor
