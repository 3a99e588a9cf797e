/- Texts joined by a tool: contracts and walks of this claim. -/
import Derived.Test.YtceoficoappkpaaGreatDoorB10
import Derived.Lib.AppendStr
namespace Go.Proofs.YtceoficoappkpaaGreatDoor
open Go.RowKit
def DepPost (ts : List Ta) (w : World) (r : Ending) (w' : World) : Prop :=
 Below w.heap.size w w' ∧ ∃ (D : List Int) (A : Option Addr) (c : Nat), r = .returned (.tuple #[.slice A D.length c, .bool (schB ts)]) ∧ NRow .i64 w' A D ∧ (schB ts = true → D = deps ts)
theorem pre_full {ts : List Ta} (h1 : 1 ≤ ts.length) (h2 : ts.length ≤ 12) (h : preB ts ts.length = true) : schB ts = namedB (ts.map (·.nm)) := by
 unfold schB
 rw [decide_eq_true ⟨h1, h2⟩, h]
 rfl
set_option maxRecDepth 100000 in
set_option maxHeartbeats 1600000 in
theorem depths_any (ts : List Ta) (A : Option Addr) (c : Nat) (w : World) (ht : TRow w A c ts) :
  Calls Tryz.prog 90 #[.agg #[.slice A ts.length c]] w (DepPost ts w) := by
 have hlen := ht.2.1
 have hcap := ht.2.2.1
 by_cases h1 : ts.length < 1
 · have hf := sch_len (ts := ts) (by omega)
   have HF := hd_ hf
   clear hf ht
   go_enter Tryz.func90, Tryz.ntmps90
   go_wp2
   go_step3
   go_wp2
   (try rw [Exit.noGoto_ret])
   go_ret2
   refine ⟨(by repeat (first | exact Below.refl _ _ | assumption | refine Below.drew ?_ | refine below_drewN ?_ _ | refine Below.alloc ?_ (by simp <;> omega) _)), [], none, 0, ?_, NRow.nil _ _ _, fun h => by rw [HF.out] at h; cases h⟩
   rw [HF.out]
   rfl
 · by_cases h12 : 12 < ts.length
   · have hf := sch_len (ts := ts) (by omega)
     have HF := hd_ hf
     have h12' : 12 < (ts.length : Int) := by omega
     clear hf ht
     go_enter Tryz.func90, Tryz.ntmps90
     go_wp2
     go_step3
     go_wp2
     (try rw [Exit.noGoto_ret])
     go_ret2
     refine ⟨(by repeat (first | exact Below.refl _ _ | assumption | refine Below.drew ?_ | refine below_drewN ?_ _ | refine Below.alloc ?_ (by simp <;> omega) _)), [], none, 0, ?_, NRow.nil _ _ _, fun h => by rw [HF.out] at h; cases h⟩
     rw [HF.out]
     rfl
   · have HTR := hd_ ht
     have HTAB := hd_ (fun (k : Nat) (hk : k ≤ ts.length) (hp : preB ts k = true) (D : Option Addr) (cd : Nat) (t : Ta) (W : World) (hW : Below w.heap.size w W) (hw : t.wf) (hd : NRow .i64 W D (deps (ts.take k))) (hc : CRow W t.A t.cs) =>
      table_any (ts.take k) A D c cd (deps (ts.take k)) t W hw ((ht.ext hW).take k) hd hc
       (fun p hpm => by
         obtain ⟨i, hi, e⟩ := List.mem_iff_getElem.1 hpm
         have hil : i < k := by simp at hi; omega
         have hi2 : i < ts.length := by omega
         have hpp := pre_at hp hil (List.getElem?_eq_getElem hi2)
         rw [List.getElem_take] at e
         rw [← e]
         exact (tab_parts hpp).1)
       (deps_length _)
       (fun d hd => by
         obtain ⟨i, hi, e⟩ := List.mem_iff_getElem.1 hd
         have hil : i < k := by rw [deps_length] at hi; simp at hi; omega
         have := dep_range hp (i + 1) i (by omega) hil hk
         have h2 : depA ts i = d := by
          have hi2 : i < ts.length := by omega
          rw [depA_at (List.getElem?_eq_getElem hi2), ← deps_at (List.getElem?_eq_getElem hi2) hil hk, List.getD_eq_getElem?_getD, List.getElem?_eq_getElem hi, e]
          rfl
         rw [← h2]
         exact this))
     obtain ⟨i0, hi0, hz0, hz1, hz2⟩ := info_parts info_str
     obtain ⟨i3, hi3, hy0, hy1, hy2⟩ := info_parts info_i64
     have hlen2 : 1 ≤ ts.length ∧ ts.length ≤ 12 := ⟨by omega, by omega⟩
     obtain ⟨hl1, hl2⟩ := hlen2
     have hl1' : ¬ (ts.length : Int) < 1 := by omega
     have hl2' : ¬ 12 < (ts.length : Int) := by omega
     clear ht h1 h12 hlen
     go_enter Tryz.func90, Tryz.ntmps90
     go_wp2
     go_step3
     go_wp2
     go_step3
     go_wp2
     have hB0 := Blk.new w #[.slice A ts.length c] 24
     have hC0 : Below w.heap.size w (w.alloc (.cells #[.slice A ts.length c] 24)) := bel1 _ _
     generalize w.alloc (.cells #[.slice A ts.length c] 24) = Wq at hB0 hC0 ⊢
     have HB0 := hd_ hB0
     clear hB0
     go_loopw [2, 3, 4, 22] (fun o s l i wr => ∃ (k : Nat) (Ao An : Option Addr) (co cn : Nat), k ≤ ts.length ∧ i = .int .i64 k ∧ o = .slice Ao k co ∧ l = .slice An k cn ∧ s = .bool (decide (0 < k)) ∧ Hid (preB ts k = true) ∧ Hid (wr.ownsRow w.heap.size 3 1 (.slice Ao k co) k ((deps (ts.take k)).map (Value.int .i64))) ∧ Hid (wr.ownsRow w.heap.size 9 1 (.slice An k cn) k ((ts.take k).map fun t => Value.string t.nm)) ∧ Hid (Blk wr w.heap.size #[.slice A ts.length c] 24) ∧ Below w.heap.size w wr) (fun _ _ _ i _ => ts.length - (intOf i).toNat)
     case atStart => exact ⟨0, none, none, 0, 0, by omega, rfl, rfl, rfl, rfl, pre_zero ts, World.ownsRow_nil _ _ _ _, World.ownsRow_nil _ _ _ _, HB0, hC0⟩
     case round =>
      clear HB0 hC0
      obtain ⟨k, Ao, An, co, cn, hk, rfl, rfl, rfl, rfl, HP, HO, HN, HB, hbw⟩ := hrel
      by_cases hlt : k < ts.length
      · obtain ⟨b, off, t, hA, hb, hlk, _, hwf, hcr, c0, c1, c2, c3, c4⟩ := (HTR.out.ext hbw).at_ hlt
        subst hA
        have h00 := (HB.out).cell 0
        simp only [List.getElem?_toArray, List.getElem?_cons_zero] at h00
        have hlB := HB.out.lt
        have hdl : (deps (ts.take k)).length = k := by rw [deps_length]; simp; omega
        have hown := HO.out
        have hnr := (NRow.of_own (by rw [hdl]; omega) hown).1
        have HTW := hd_ (HTAB.out k hk HP.out Ao co t)
        rw [hdl, show (ts.take k).length = k by simp; omega] at HTW
        have HWF := hd_ hwf
        have HCR := hd_ hcr
        have HNR := hd_ hnr
        have HLK := hd_ hlk
        have hk' : (k : Int) ≤ ts.length := by omega
        clear hwf hcr hnr hlk hown hdl hb
        have hkc : (k : Int) ≤ c := by omega
        have hBT : Below w.heap.size w (wr.alloc (.cells #[.string t.nm, .slice t.A t.cs.length t.c, .int .i64 t.key, .int .i64 t.ref, .int .i64 t.par] 73)) := bt hbw (by repeat (first | exact Below.refl _ _ | assumption | refine Below.drew ?_ | refine below_drewN ?_ _ | refine Below.alloc ?_ (by simp <;> omega) _))
        have HBT := hd_ (Blk.new wr #[.string t.nm, .slice t.A t.cs.length t.c, .int .i64 t.key, .int .i64 t.ref, .int .i64 t.par] 73)
        have HBW2 := hd_ hBT
        clear hBT
        obtain ⟨M, hM⟩ : ∃ q, q = tabB (ts.take k) (deps (ts.take k)) t := ⟨_, rfl⟩
        obtain ⟨dI, hI⟩ : ∃ q, q = depI (deps (ts.take k)) t := ⟨_, rfl⟩
        unfold Ta.cells TabPost at HTW
        rw [← hM, ← hI] at HTW
        have HM := hd_ hM
        have HI := hd_ hI
        clear hM hI
        have HNR2 := hd_ (HNR.out.ext (w' := (wr.alloc (.cells #[.string t.nm, .slice t.A t.cs.length t.c, .int .i64 t.key, .int .i64 t.ref, .int .i64 t.par] 73))) (by repeat (first | exact Below.refl _ _ | assumption | refine Below.drew ?_ | refine below_drewN ?_ _ | refine Below.alloc ?_ (by simp <;> omega) _)))
        have HCR2 := hd_ (HCR.out.ext (w' := (wr.alloc (.cells #[.string t.nm, .slice t.A t.cs.length t.c, .int .i64 t.key, .int .i64 t.ref, .int .i64 t.par] 73))) (by repeat (first | exact Below.refl _ _ | assumption | refine Below.drew ?_ | refine below_drewN ?_ _ | refine Below.alloc ?_ (by simp <;> omega) _)))
        have HB2 := hd_ (HB.out.old (.cells #[.string t.nm, .slice t.A t.cs.length t.c, .int .i64 t.key, .int .i64 t.ref, .int .i64 t.par] 73))
        have HO2 := hd_ (HO.out.alloc (.cells #[.string t.nm, .slice t.A t.cs.length t.c, .int .i64 t.key, .int .i64 t.ref, .int .i64 t.par] 73))
        have HN2 := hd_ (HN.out.alloc (.cells #[.string t.nm, .slice t.A t.cs.length t.c, .int .i64 t.key, .int .i64 t.ref, .int .i64 t.par] 73))
        go_upto_region 7 with fail
        generalize wr.alloc (.cells #[.string t.nm, .slice t.A t.cs.length t.c, .int .i64 t.key, .int .i64 t.ref, .int .i64 t.par] 73) = W1 at HBT HBW2 HNR2 HCR2 HB2 HO2 HN2 ⊢
        generalize wr.heap.size = tb at HBT ⊢
        clear h00 hlB c0 c1 c2 c3 c4 HNR HCR HB HO HN hbw
        cases M
        · refine region_grow [false, false, false, false, false, false, false, true, true, false, false, false, false, false, false, false, false, false, false, false, false, false, false, false, false, false, false, true, true, true, true, true, true, true, true, true, true, false, false, false, false, false, false, false, false, false, false, false, false, false, false, false, false, false, false, false] [28, 29, 30, 31, 32, 33, 34, 27, 35, 36, 7, 8] [.val (.pointer (some ⟨w.heap.size, 0, none⟩)), .val (.slice (some ⟨b, off, none⟩) ts.length c), .val (.int .i64 k), .val (.slice (some ⟨b, off, none⟩) k c), .val (.slice Ao k co), .val (.agg #[.string t.nm, .slice t.A t.cs.length t.c, .int .i64 t.key, .int .i64 t.ref, .int .i64 t.par]), .mem (fun v _ => ∃ d : Int, v = .tuple #[.int .i64 d, .bool false]) (fun _ _ _ h _ => h), .mem (fun v _ => ∃ d : Int, v = .tuple #[.int .i64 d, .bool false]) (fun _ _ _ h _ => h), .mem (fun v _ => ∃ d : Int, v = .int .i64 d) (fun _ _ _ h _ => h), .val (.bool false), .mem (fun v _ => ∃ d : Int, v = .int .i64 d) (fun _ _ _ h _ => h), .val (.bool false)] [10, 11] (by kernel_rfl) (by kernel_rfl) (by kernel_rfl) (by kernel_rfl) (by kernel_rfl) ⟨?_, ?_, ?_, ?_, ?_, ?_, ?_, ?_, ?_, ?_, ?_, ?_, trivial⟩ ?done
          case done =>
           intro x w2 hb2
           simp only [StepGoal, overlay, upd, cond_true, cond_false, List.getD_cons_zero, List.getD_cons_succ, Nat.zero_add, Nat.reduceAdd, Nat.reduceEqDiff, reduceIte]
           rintro v ⟨d, rfl⟩
           have hF := pre_not HLK.out HM.out.symm
           have HF := hd_ hF
           have hbw2 := bt HBW2.out hb2
           have HO3 := hd_ (own_below HO2.out hb2)
           clear hF HB2 HN2 HO2 HNR2 HCR2 HTW HBT HBW2
           go_wp2_with fail
           (try rw [Exit.noGoto_ret])
           go_ret2
           have hdl : (deps (ts.take k)).length = k := by rw [deps_length]; simp; omega
           refine ⟨hbw2, deps (ts.take k), Ao, co, ?_, (NRow.of_own (by rw [hdl]; omega) HO3.out).1, fun h => by rw [HF.out] at h; cases h⟩
           rw [HF.out, hdl]
           rfl
          all_goals
           intro x w2 hb2
           repeat (intro v hv; obtain ⟨d, rfl⟩ := hv)
           intro K hK
           have h00 := (HB2.out.ext hb2).cell 0
           simp only [List.getElem?_toArray, List.getElem?_cons_zero] at h00
           obtain ⟨y0, y1, y2, y3, y4⟩ := blk5 (HBT.out.ext hb2)
           rw [if_pos (by rfl)]; simp only [overlay, upd, cond_true, cond_false, List.getD_cons_zero, List.getD_cons_succ, Nat.reduceEqDiff, reduceIte]
           go_simp
           first
            | exact hK.out _ _ (Below.refl _ _) rfl
            | exact hK.out _ _ (Below.refl _ _) ⟨_, rfl⟩
            | ((refine (HTW.out _ (bt HBW2.out hb2) HWF.out (HNR2.out.ext hb2) (HCR2.out.ext hb2)).mono ?_); rintro e wa ⟨hba, d, rfl, _⟩; go_wp2_with fail; exact hK.out _ _ hba ⟨d, rfl⟩)
        · refine region_grow [false, false, false, false, false, false, false, true, true, false, false, false, false, false, false, false, false, false, false, false, false, false, false, false, false, false, false, true, true, true, true, true, true, true, true, true, true, false, false, false, false, false, false, false, false, false, false, false, false, false, false, false, false, false, false, false] [28, 29, 30, 31, 32, 33, 34, 27, 35, 36, 7, 8] [.val (.pointer (some ⟨w.heap.size, 0, none⟩)), .val (.slice (some ⟨b, off, none⟩) ts.length c), .val (.int .i64 k), .val (.slice (some ⟨b, off, none⟩) k c), .val (.slice Ao k co), .val (.agg #[.string t.nm, .slice t.A t.cs.length t.c, .int .i64 t.key, .int .i64 t.ref, .int .i64 t.par]), .val (.tuple #[.int .i64 dI, .bool true]), .val (.tuple #[.int .i64 dI, .bool true]), .val (.int .i64 dI), .val (.bool true), .val (.int .i64 dI), .val (.bool true)] [10, 11] (by kernel_rfl) (by kernel_rfl) (by kernel_rfl) (by kernel_rfl) (by kernel_rfl) ⟨?_, ?_, ?_, ?_, ?_, ?_, ?_, ?_, ?_, ?_, ?_, ?_, trivial⟩ ?done
          case done =>
           intro x w2 hb2
           simp only [StepGoal, overlay, upd, cond_true, cond_false, List.getD_cons_zero, List.getD_cons_succ, Nat.zero_add, Nat.reduceAdd, Nat.reduceEqDiff, reduceIte]
           have hdl : (deps (ts.take k)).length = k := by rw [deps_length]; simp; omega
           have HP' : Hid (preB ts (k + 1) = true) := by show _ = _; rw [pre_succ HLK.out, HP.out, ← HM.out]; rfl
           have HTS := hd_ (take_snoc HLK.out)
           have HD' : Hid (deps (ts.take (k + 1)) = deps (ts.take k) ++ [dI]) := by show _ = _; rw [HTS.out, deps_snoc, ← HI.out]
           have hbw2 := bt HBW2.out hb2
           have hO3 := own_below HO2.out hb2
           have hN3 := own_below HN2.out hb2
           have hB3 := HB2.out.ext hb2
           have hT3 := HBT.out.ext hb2
           clear HB2 HN2 HO2 HNR2 HCR2 HTW HBT HBW2 hb2 HM HI HP
           have hsz := hbw2.size
           go_wp2_with (at_builtin; refine wpList_append_own _ rfl _ _ 166 rfl w.heap.size 3 i3 _ 1 8 Tryz.underlying166 hi3 hy0 hy1 hy2 rfl (by decide) _ k _ rfl (hO3.alloc _) ⟨w2.heap.size, 0, none⟩ 1 1 [.int .i64 dI] rfl rfl (cells_new1 _ _ _) ?c2 ?c3 ?c4 ?c5 ?_)
           case c2 => simp [Value.oneCell']
           case c3 => simp only [maxLen]; omega
           case c4 => omega
           case c5 => simp; omega
           intro v' w3 hown3 hg3 _
           obtain ⟨Ao2, co2, rfl⟩ := own_form hown3
           have hoL := hO3.alloc (.cells #[.int .i64 dI] 3)
           have hN4 := own_grown (hN3.alloc (.cells #[.int .i64 dI] 3)) hg3 (own_far (hN3.alloc _) hoL (by decide))
           have hB4 := (hB3.old _).grown hoL (by decide) hg3
           have hT4 := (hT3.old _).grown hoL (by decide) hg3
           have hbw3 : Below w.heap.size w w3 := (hbw2.alloc hbw2.size _).grown hg3 (by simp; omega) (own_ge hO3)
           have HO4 : Hid (w3.ownsRow w.heap.size 3 1 (.slice Ao2 (k + 1) co2) (k + 1) ((deps (ts.take (k + 1))).map (Value.int .i64))) := by
            show World.ownsRow _ _ _ _ _ _ _
            rw [HD'.out, List.map_append]
            exact hown3
           clear hown3 hg3 hoL hO3 hN3 hB3 hT3 hbw2 hsz
           obtain ⟨y0, y1, y2, y3, y4⟩ := blk5 hT4
           have HT4 := hd_ hT4
           have HB4 := hd_ hB4
           clear hT4 hB4
           have hsz := hbw3.size
           go_wp2_with (at_builtin; refine wpList_append_own _ rfl _ _ 217 rfl w.heap.size 9 i0 _ 1 16 Tryz.underlying217 hi0 hz0 hz1 hz2 rfl (by decide) _ k _ rfl (hN4.alloc _) ⟨w3.heap.size, 0, none⟩ 1 1 [.string t.nm] rfl rfl (cells_new1 _ _ _) ?d2 ?d3 ?d4 ?d5 ?_)
           case d2 => simp [Value.oneCell']
           case d3 => simp only [maxLen]; omega
           case d4 => omega
           case d5 => simp; omega
           intro v' w5 hown5 hg5 _
           obtain ⟨An2, cn2, rfl⟩ := own_form hown5
           have hoL := hN4.alloc (.cells #[.string t.nm] 9)
           have HO5 := hd_ (own_grown (HO4.out.alloc (.cells #[.string t.nm] 9)) hg5 (own_far (HO4.out.alloc _) hoL (by decide)))
           have HB5 := hd_ ((HB4.out.old _).grown hoL (by decide) hg5)
           have hbw5 : Below w.heap.size w w5 := (hbw3.alloc hbw3.size _).grown hg5 (by simp; omega) (own_ge hN4)
           have HN5 : Hid (w5.ownsRow w.heap.size 9 1 (.slice An2 (k + 1) cn2) (k + 1) ((ts.take (k + 1)).map fun t => Value.string t.nm)) := by
            show World.ownsRow _ _ _ _ _ _ _
            rw [HTS.out, List.map_append]
            first | exact hown5 | (rw [← List.map_take] at hown5; exact hown5)
           clear hown5 hg5 hoL hN4 HO4 HB4 HT4 hbw3 hsz y0 y1 y2 y3 y4
           have hk0 : (true = decide (0 < k + 1)) := by simp
           go_wp2_with fail
           go_roundw
           case rel => exact ⟨k + 1, Ao2, An2, co2, cn2, by omega, by go_num, rfl, rfl, by rw [← hk0], HP', HO5, HN5, HB5, hbw5⟩
           case measure => simp [intOf]; omega
          all_goals
           intro x w2 hb2
           intro K hK
           have h00 := (HB2.out.ext hb2).cell 0
           simp only [List.getElem?_toArray, List.getElem?_cons_zero] at h00
           obtain ⟨y0, y1, y2, y3, y4⟩ := blk5 (HBT.out.ext hb2)
           rw [if_pos (by rfl)]; simp only [overlay, upd, cond_true, cond_false, List.getD_cons_zero, List.getD_cons_succ, Nat.reduceEqDiff, reduceIte]
           go_simp
           first
            | exact hK.out _ _ (Below.refl _ _) rfl
            | ((refine (HTW.out _ (bt HBW2.out hb2) HWF.out (HNR2.out.ext hb2) (HCR2.out.ext hb2)).mono ?_); rintro e wa ⟨hba, d, rfl, hd⟩; obtain rfl := hd rfl; go_wp2_with fail; exact hK.out _ _ hba rfl)
      · obtain rfl : k = ts.length := by omega
        have hO := HO.out
        have hN := HN.out
        rw [List.take_length] at hO hN
        have hdl := deps_length ts
        have HNR := hd_ (NRow.of_own (by rw [hdl]; omega) hO).1
        rw [show (ts.map fun t => Value.string t.nm) = (ts.map (·.nm)).map Value.string by simp] at hN
        have hN' := hN
        rw [show ts.length = (ts.map (·.nm)).length by simp] at hN'
        have HNM := hd_ (named_any (ts.map (·.nm)) An cn wr (SRow.of_own (by simp; omega) hN').1 (fun s hs => by obtain ⟨t, ht, rfl⟩ := List.mem_map.1 hs; exact (HTR.out.1 t ht).1.1))
        rw [List.length_map, ← pre_full hl1 hl2 HP.out] at HNM
        have hk0 : decide (0 < ts.length) = true := by simp; omega
        have hk1 : 0 < ts.length := by omega
        clear hO hN hN' HO HN HP HTAB
        go_wp2_with fail
        refine HNM.out.mono ?_
        rintro r w1 ⟨rfl, hb1⟩
        have hbw1 := bt hbw hb1
        clear HNM
        go_wp2_with fail
        (try rw [Exit.noGoto_ret])
        go_ret2
        refine ⟨hbw1, deps ts, Ao, co, ?_, HNR.out.ext hb1, fun _ => rfl⟩
        rw [hdl]
        rfl
set_option maxRecDepth 100000 in
theorem check13_any (ts : List Ta) (A : Option Addr) (c : Nat) (w : World) (ht : TRow w A c ts) :
  Calls Tryz.prog 57 #[.agg #[.slice A ts.length c]] w fun r w' => r = .returned (.int .i64 (okE (schB ts))) ∧ Below w.heap.size w w' := by
 have HD := hd_ (fun (W : World) (hW : Below w.heap.size w W) => depths_any ts A c W (ht.ext hW))
 have hlen := ht.2.1
 unfold DepPost at HD
 generalize schB ts = M at HD ⊢
 clear ht
 cases M
 all_goals
  go_enter Tryz.func57, Tryz.ntmps57
  go_wp2_with fail
  refine (HD.out _ (by repeat (first | exact Below.refl _ _ | assumption | refine Below.drew ?_ | refine below_drewN ?_ _ | refine Below.alloc ?_ (by simp <;> omega) _))).mono ?_
  rintro r w1 ⟨hb1, D, Ao, co, rfl, _, _⟩
  have hbw : Below w.heap.size w w1 := bt (by repeat (first | exact Below.refl _ _ | assumption | refine Below.drew ?_ | refine below_drewN ?_ _ | refine Below.alloc ?_ (by simp <;> omega) _)) hb1
  clear hb1
  go_wp2_with fail
  go_ret
  exact ⟨rfl, hbw⟩
def hasS (ts : List Ta) (k : Int) : Bool := schB ts && hasI ts.length k
set_option maxRecDepth 100000 in
theorem has_any (ts : List Ta) (A : Option Addr) (c : Nat) (k : Int) (w : World) (ht : TRow w A c ts) :
  Calls Tryz.prog 84 #[.agg #[.slice A ts.length c], .int .i64 k] w fun r w' => r = .returned (.bool (hasS ts k)) ∧ Below w.heap.size w w' := by
 have HD := hd_ (fun (W : World) (hW : Below w.heap.size w W) => check13_any ts A c W (ht.ext hW))
 have hlen := ht.2.1
 unfold hasS
 generalize schB ts = M at HD ⊢
 clear ht
 cases M
 · rw [okE_f' rfl] at HD
   go_enter Tryz.func84, Tryz.ntmps84
   go_wp2_with fail
   refine (HD.out _ (by repeat (first | exact Below.refl _ _ | assumption | refine Below.drew ?_ | refine below_drewN ?_ _ | refine Below.alloc ?_ (by simp <;> omega) _))).mono ?_
   rintro r w1 ⟨rfl, hb1⟩
   have hbw : Below w.heap.size w w1 := bt (by repeat (first | exact Below.refl _ _ | assumption | refine Below.drew ?_ | refine below_drewN ?_ _ | refine Below.alloc ?_ (by simp <;> omega) _)) hb1
   clear hb1
   go_wp2_with fail
   go_ret
   exact ⟨rfl, hbw⟩
 · rw [okE_t' rfl] at HD
   rw [Bool.true_and]
   unfold hasI
   by_cases h0 : 0 ≤ k
   · rw [decide_eq_decide.2 (show 0 ≤ k ∧ k < ts.length ↔ k < ts.length by omega)]
     go_enter Tryz.func84, Tryz.ntmps84
     go_wp2_with fail
     refine (HD.out _ (by repeat (first | exact Below.refl _ _ | assumption | refine Below.drew ?_ | refine below_drewN ?_ _ | refine Below.alloc ?_ (by simp <;> omega) _))).mono ?_
     rintro r w1 ⟨rfl, hb1⟩
     have hbw : Below w.heap.size w w1 := bt (by repeat (first | exact Below.refl _ _ | assumption | refine Below.drew ?_ | refine below_drewN ?_ _ | refine Below.alloc ?_ (by simp <;> omega) _)) hb1
     have h00 := ((Blk.new w #[.slice A ts.length c] 24).ext hb1).cell 0
     simp only [List.getElem?_toArray, List.getElem?_cons_zero] at h00
     clear hb1
     go_wp2_with fail
     go_ret
     exact ⟨rfl, hbw⟩
   · rw [decide_eq_false (by omega)]
     go_enter Tryz.func84, Tryz.ntmps84
     go_wp2_with fail
     refine (HD.out _ (by repeat (first | exact Below.refl _ _ | assumption | refine Below.drew ?_ | refine below_drewN ?_ _ | refine Below.alloc ?_ (by simp <;> omega) _))).mono ?_
     rintro r w1 ⟨rfl, hb1⟩
     have hbw : Below w.heap.size w w1 := bt (by repeat (first | exact Below.refl _ _ | assumption | refine Below.drew ?_ | refine below_drewN ?_ _ | refine Below.alloc ?_ (by simp <;> omega) _)) hb1
     clear hb1
     go_wp2_with fail
     go_ret
     exact ⟨rfl, hbw⟩
end Go.Proofs.YtceoficoappkpaaGreatDoor
namespace Go.Proofs.YtceoficoappkpaaGreatDoor
open Go.Sort (SWO)

def zV : V := ⟨0, 0, 0, ⟨#[]⟩⟩
def keyN (ts : List Ta) (t : Nat) (row : List V) : V := match ts[t]? with
 | some u => row.getD u.key.toNat zV
 | none => zV
def plN (ts : List Ta) (x : Rw) : Nat × V := (x.1, keyN ts x.1 x.2)
end Go.Proofs.YtceoficoappkpaaGreatDoor
namespace Go.Proofs.YtceoficoappkpaaGreatDoor
open Go.RowKit
def Steps2 (P : Program) (ops : Array Oper) (Q : Exit → Act → World → Prop) (mask : List Bool) (L : List Value) (df : List Deferred) (ps : List Known) (dst : Nat → Nat) (a : Nat) (J V0 : World → Prop) (V1 : Value → World → Prop) (T : World → World → Prop) : Nat → List Oper → Prop
 | _, [] => True
 | i, o :: os => (if i = a then ∀ x w, J w → V0 w → StepGoal ps dst w (TurnBody P ops Q mask L df (fun v w' => T w w' ∧ V1 v w') w (dst i) o) (depsOf o) x
  else ∀ x w, J w → StepGoal ps dst w (StepBody P ops Q mask L df (ps.getD i kAny) w (dst i) o) (depsOf o) x) ∧ Steps2 P ops Q mask L df ps dst a J V0 V1 T (i + 1) os
theorem Steps2.at_ {P : Program} {ops : Array Oper} {Q : Exit → Act → World → Prop} {mask : List Bool} {L : List Value} {df : List Deferred} {ps : List Known} {dst : Nat → Nat} {a : Nat} {J V0 : World → Prop} {V1 : Value → World → Prop} {T : World → World → Prop} :
  ∀ (os : List Oper) (n i : Nat) (o : Oper), Steps2 P ops Q mask L df ps dst a J V0 V1 T n os → os[i]? = some o → (if n + i = a then ∀ x w, J w → V0 w → StepGoal ps dst w (TurnBody P ops Q mask L df (fun v w' => T w w' ∧ V1 v w') w (dst (n + i)) o) (depsOf o) x
   else ∀ x w, J w → StepGoal ps dst w (StepBody P ops Q mask L df (ps.getD (n + i) kAny) w (dst (n + i)) o) (depsOf o) x)
 | [], _, _, _, _, h => by simp at h
 | o' :: os, n, 0, o, hs, h => by
  simp only [List.getElem?_cons_zero, Option.some.injEq] at h
  subst h
  exact hs.1
 | o' :: os, n, i + 1, o, hs, h => by
  have := Steps2.at_ os (n + 1) i o hs.2 (by simpa using h)
  rw [show n + 1 + i = n + (i + 1) by omega] at this
  exact this
end Go.Proofs.YtceoficoappkpaaGreatDoor
namespace Go.Proofs.YtceoficoappkpaaGreatDoor
open Go.RowKit

def bv (l : List UInt8) : List Value := l.map fun c => Value.int .u8 (c.toNat : Int)
end Go.Proofs.YtceoficoappkpaaGreatDoor
namespace Go.Proofs.YtceoficoappkpaaGreatDoor
open Go.RowKit
theorem cells_blk3 {w : World} {b : Nat} {a c d : Value} {t : TypeId} (h : Blk w b #[a, c, d] t) : ∀ j u, [a, c, d][j]? = some u → w.cell? ((⟨b, 0, none⟩ : Addr).add j) = some u := by
 intro j u hu
 match j with
 | 0 => exact (h.cell 0).trans (by simpa using hu)
 | 1 => exact (h.cell 1).trans (by simpa using hu)
 | 2 => exact (h.cell 2).trans (by simpa using hu)
 | j + 3 => simp at hu
structure Rds (rb bb : Nat) (w w' : World) (s : ByteArray) (bd : Bool) : Prop where
 os : w'.os = w.os
 tape : w'.tape = w.tape
 output : w'.output = w.output
 size : w.heap.size ≤ w'.heap.size
 block : ∀ c, c < w.heap.size → c ≠ rb → c ≠ bb → w'.heap[c]? = w.heap[c]?
 r : Blk w' rb #[.string s] 9
 b : Blk w' bb #[.bool bd] 4
theorem Rds.blk {rb bb : Nat} {w w' : World} {s : ByteArray} {bd : Bool} (h : Rds rb bb w w' s bd) {x : Nat} {cs : Array Value} {t : TypeId} (hx : Blk w x cs t) (h1 : x ≠ rb) (h2 : x ≠ bb) : Blk w' x cs t := (h.block x hx.lt h1 h2).trans hx
theorem Rds.own {rb bb : Nat} {w w' : World} {s s0 : ByteArray} {bd bd0 : Bool} (h : Rds rb bb w w' s bd) (hr : Blk w rb #[.string s0] 9) (hb : Blk w bb #[.bool bd0] 4) {base : Nat} {e : TypeId} {size n : Nat} {v : Value} {xs : List Value}
  (ho : w.ownsRow base e size v n xs) (h1 : e ≠ 9) (h2 : e ≠ 4) : w'.ownsRow base e size v n xs := by
 have n1 := own_ne ho hr h1
 have n2 := own_ne ho hb h2
 refine ⟨ho.1, ?_⟩
 rcases ho.2 with h0 | ⟨g, cap, cur, hv, hbg, hh, h4⟩
 · exact .inl h0
 · subst hv
   have hlt : g < w.heap.size := by
    rcases Nat.lt_or_ge g w.heap.size with h' | h'
    · exact h'
    · rw [Array.getElem?_eq_none h'] at hh; cases hh
   refine .inr ⟨g, cap, cur, rfl, hbg, (h.block g hlt ?_ ?_).trans hh, h4⟩
   · intro e; apply n1; rw [e]; rfl
   · intro e; apply n2; rw [e]; rfl
theorem Rds.below {rb bb : Nat} {w w' : World} {s : ByteArray} {bd : Bool} (h : Rds rb bb w w' s bd) {B : Nat} (h0 : B ≤ w.heap.size) (h1 : B ≤ rb) (h2 : B ≤ bb) : Below B w w' :=
 ⟨h.os, h.tape, h.output, h.size, fun c hc => h.block c (by omega) (by omega) (by omega)⟩
theorem Rds.of_below {rb bb : Nat} {w w' : World} {s : ByteArray} {bd : Bool} (hb : Below w.heap.size w w') (h1 : Blk w rb #[.string s] 9) (h2 : Blk w bb #[.bool bd] 4) : Rds rb bb w w' s bd :=
 ⟨hb.os, hb.tape, hb.output, hb.size, fun c hc _ _ => hb.block c hc, h1.ext hb, h2.ext hb⟩
theorem Rds.trans {rb bb : Nat} {w w1 w2 : World} {s1 s2 : ByteArray} {b1 b2 : Bool} (h : Rds rb bb w w1 s1 b1) (k : Rds rb bb w1 w2 s2 b2) : Rds rb bb w w2 s2 b2 :=
 ⟨k.os.trans h.os, k.tape.trans h.tape, k.output.trans h.output, Nat.le_trans h.size k.size, fun c hc h1 h2 => (k.block c (Nat.lt_of_lt_of_le hc h.size) h1 h2).trans (h.block c hc h1 h2), k.r, k.b⟩
end Go.Proofs.YtceoficoappkpaaGreatDoor
