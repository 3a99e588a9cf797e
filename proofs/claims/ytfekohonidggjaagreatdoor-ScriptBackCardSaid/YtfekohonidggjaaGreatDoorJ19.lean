/- Several texts in one: see each part's head. -/
import Derived.Laws.EntriesVeiled
import Derived.Test.YtfekohonidggjaaGreatDoorJ18
/- Contracts: script.named. -/
namespace Go.Proofs.YtfekohonidggjaaGreatDoor
open Go.RowKit

set_option maxRecDepth 100000 in
set_option maxHeartbeats 1600000 in
theorem diskNew_any (w : World) :
    Calls Tryz.prog 115 #[.int .i64 0] w fun r w' => ∃ D M1 M2, r = .returned (.tuple #[.pointer (some ⟨D, 0, none⟩), .int .i64 0]) ∧ Blk w' D (dkC M1 M2 (.slice none 0 0) 0) 211 ∧ MN w' M1 ∧ w.heap.size ≤ D ∧ w.heap.size ≤ M1 ∧ M1 ≠ D ∧ Below w.heap.size w w' := by
  have hmm := @run_makeMap Tryz.prog
  go_enter Tryz.func115, Tryz.ntmps115
  go_wp2_with fail
  go_ret2
  have h1 : MN (w.alloc (.map #[] 0)) w.heap.size := World.ownsMap_made _ _ _ _
  refine ⟨w.heap.size + 1 + 1, w.heap.size, w.heap.size + 1, rfl, (by repeat (first | exact Blk.at (by simp) | assumption | refine Blk.drew ?_ | refine Blk.old ?_ _)), ?_, by omega, by omega, by omega, (by repeat (first | exact Below.refl _ _ | assumption | refine Below.drew ?_ | refine below_drewN ?_ _ | refine Below.alloc ?_ (by simp <;> omega) _))⟩
  exact own_map_below h1 ((by repeat (first | exact Below.refl _ _ | assumption | refine Below.drew ?_ | refine below_drewN ?_ _ | refine Below.alloc ?_ (by simp <;> omega) _)))
theorem blk_grown {w w' : World} {b : Nat} {cs : Array Value} {t : TypeId} {row : Option Nat} (h : Blk w b cs t) (hg : w.grownBy w' row) (hne : row ≠ some b) : Blk w' b cs t := by
  have h1 := hg.block b (Blk.lt h) (fun e => hne e.symm)
  unfold Blk at h ⊢
  rw [h1]
  exact h
theorem info_call : (Tryz.prog.info? 220).map (fun i => (i.zero.isSome, i.size, i.bytes)) = some (true, 2, 16) := by kernel_rfl
theorem call_parts : ∃ i z, Tryz.prog.info? 220 = some i ∧ i.zero = some z ∧ i.size = 2 ∧ i.bytes = 16 := by
  obtain ⟨i, h, e⟩ := Option.map_eq_some_iff.1 info_call
  simp only [Prod.mk.injEq] at e
  obtain ⟨z, hz⟩ := Option.isSome_iff_exists.1 e.1
  exact ⟨i, z, h, hz, e.2.1, e.2.2⟩
set_option maxRecDepth 100000 in
set_option maxHeartbeats 1600000 in
theorem diskDo_any (s : ByteArray) (hs : s.size ≤ 140737488355328) (a b f M1 M2 D : Nat) {T : TypeId} (lay : Value) (room : Int) (w : World) (ha : Blk w a #[.string s] 9) (hb : Blk w b #[.string ⟨#[]⟩] 9) (hf : Blk w f #[.func (Fn.func 150) #[] #[.pointer (some ⟨a, 0, none⟩), .pointer (some ⟨b, 0, none⟩)]] T) (hM : MN w M1) (hD : Blk w D (dkC M1 M2 (.slice none 0 0) room) 211) (hne : M1 ≠ D) :
    Calls Tryz.prog 151 #[.pointer (some ⟨D, 0, none⟩), .agg #[.func (Fn.func 152) #[] #[.pointer (some ⟨f, 0, none⟩), .pointer (some ⟨b, 0, none⟩)], lay]] w fun r w' => r = .returned (.int .i64 0) ∧ (∀ B, B ≤ M1 → B ≤ D → B ≤ w.heap.size → Below B w w') := by
  have HBU := Lib.hid (fun (W : World) (hW : Below w.heap.size w W) => burn_any D M1 M2 (.slice none 0 0) room W (hD.ext hW))
  have HL2 := Lib.hid (fun (W : World) (hW : Below w.heap.size w W) => lay2_any s hs a b f M1 W (ha.ext hW) (hb.ext hW) (hf.ext hW) (own_map_below hM hW))
  have HDD := Lib.hid hD
  have HLT := Lib.hid (World.ownsMap.lt hM)
  obtain ⟨ic, zc, hic, hzc, hsc, hbc⟩ := call_parts
  clear ha hb hf hM hD
  go_enter Tryz.func151, Tryz.ntmps151
  go_wp2_with fail
  have hb0 : Below w.heap.size w (w.alloc (.cells #[.func (Fn.func 152) #[] #[.pointer (some ⟨f, 0, none⟩), .pointer (some ⟨b, 0, none⟩)], lay] 220)) := (by repeat (first | exact Below.refl _ _ | assumption | refine Below.drew ?_ | refine below_drewN ?_ _ | refine Below.alloc ?_ (by simp <;> omega) _))
  refine (HBU.out _ hb0).mono ?_
  rintro r w1 ⟨rfl, rfl⟩
  have HB0 := Lib.hid hb0
  have HP0 := Lib.hid (Blk.new w #[.func (Fn.func 152) #[] #[.pointer (some ⟨f, 0, none⟩), .pointer (some ⟨b, 0, none⟩)], lay] 220)
  obtain ⟨q9, q0, q1⟩ := (show _ ∧ _ ∧ _ from by
    have h := Blk.new w #[.func (Fn.func 152) #[] #[.pointer (some ⟨f, 0, none⟩), .pointer (some ⟨b, 0, none⟩)], lay] 220
    have e0 := h.cell 0
    have e1 := h.cell 1
    simp only [List.getElem?_toArray, List.getElem?_cons_zero, List.getElem?_cons_succ] at e0 e1
    exact ⟨h.lt, e0, e1⟩)
  have hD1 := HDD.out.ext hb0
  unfold dkC at hD1
  obtain ⟨d9, d0, d1, d2, d3, d4, d5⟩ := blk6 hD1
  clear hb0 hD1
  go_upto_region 4 with fail
  generalize w.alloc (.cells #[.func (Fn.func 152) #[] #[.pointer (some ⟨f, 0, none⟩), .pointer (some ⟨b, 0, none⟩)], lay] 220) = W at HB0 HP0 q9 q0 q1 d9 d0 d1 d2 d3 d4 d5 ⊢
  go_still_tail 6, (by kernel_rfl)
  change wpList _ _ _ _ _ W.drew
  have HBD : Hid (Below w.heap.size w W.drew) := HB0.out.drew
  go_wp2_with fail
  refine (HL2.out _ HBD.out).mono ?_
  rintro r w2 ⟨rfl, hg2⟩
  have hq2 : Blk w2 D (dkC M1 M2 (.slice none 0 0) room) 211 := blk_grown (HDD.out.ext HBD.out) hg2 (by intro e; injection e with e; exact hne e)
  have hp2 : Blk w2 w.heap.size #[.func (Fn.func 152) #[] #[.pointer (some ⟨f, 0, none⟩), .pointer (some ⟨b, 0, none⟩)], lay] 220 := blk_grown (Blk.drew HP0.out) hg2 (by have := HLT.out; intro e; injection e with e; omega)
  have HBM : Hid (∀ B, B ≤ M1 → B ≤ D → B ≤ w.heap.size → Below B w w2) := fun B h1 h2 h3 => (HBD.out.mono h3).grown hg2 (Nat.le_trans h3 HBD.out.size) (fun g hg => by injection hg with hg; omega)
  have HQ2 := Lib.hid hq2
  have HP2 := Lib.hid hp2
  have HG2 := Lib.hid hg2
  clear hq2 hp2 hg2 q9 q0 q1 d9 d0 d1 d2 d3 d4 d5
  go_upto_region 5 with fail
  refine region_last 10 _ [false, false, false, false, false, false, false, false, false, false, false, false, false, false, false, false, false, false, true, true, true, true, true, true, true, true, true, true] [18, 19, 20, 21, 22, 23, 24, 25, 26, 27] [.val (.pointer (some ⟨D, 0, none⟩)), .val (.pointer (some ⟨D, 0, none⟩)), .val (.pointer (some ⟨D, 0, none⟩)), .val (.pointer (some ⟨D, 2, none⟩)), .val (.slice none 0 0), .val (.agg #[.func (Fn.func 152) #[] #[.pointer (some ⟨f, 0, none⟩), .pointer (some ⟨b, 0, none⟩)], lay]), .new (fun g => .slice (some ⟨g, 0, none⟩) 1 1) #[.func (Fn.func 152) #[] #[.pointer (some ⟨f, 0, none⟩), .pointer (some ⟨b, 0, none⟩)], lay] 220, .mem (fun v _ => ∃ A c, v = .slice A 1 c) (fun _ _ _ h _ => h), .val (.pointer (some ⟨D, 0, none⟩)), .val (.pointer (some ⟨D, 2, none⟩))] [7, 9] (by kernel_rfl) rfl rfl (by kernel_rfl) (by kernel_rfl) (by kernel_rfl) (by kernel_rfl) (by kernel_rfl) ⟨?_, ?_, ?_, ?_, ?_, ?_, ?_, ?_, ?_, ?_, trivial⟩ ?done
  case done =>
    intro x w3 hb3
    have hD3 := HQ2.out.ext hb3
    unfold dkC at hD3
    have HB3 := Lib.hid hb3
    clear hb3
    obtain ⟨w5, rfl, lt⟩ := blk_put hD3
    obtain ⟨pc, pf, pS⟩ := putBlk_facts (w := w5) 211 lt
    simp only [StepGoal, List.getD_cons_zero, List.getD_cons_succ]
    rintro v ⟨A, cA, rfl⟩ K hK
    rw [if_pos (by rfl)]; simp only [overlay, upd, cond_true, cond_false, Nat.reduceEqDiff, reduceIte]
    go_simp
    refine hK.out _ _ ?_
    have HBF : Hid (∀ B, B ≤ M1 → B ≤ D → B ≤ w.heap.size → Below B w (putBlk w5 D #[.map (some M1), .map (some M2), .slice A 1 cA, .int .i64 room, .int .i64 (-1), .bool false] 211)) := fun B h1 h2 h3 => putBlk_belows ((HBM.out B h1 h2 h3).trans (HB3.out.mono (Nat.le_trans h3 (Nat.le_trans HBD.out.size HG2.out.size)))) h2 _
    clear hK pc pf pS hD3
    go_wp2_with fail
    go_ret
    exact ⟨rfl, HBF.out⟩
  all_goals
    intro x w3 hb3
    have hD3 := HQ2.out.ext hb3
    have hP3 := HP2.out.ext hb3
    unfold dkC at hD3
    obtain ⟨d9, d0, d1, d2, d3, d4, d5⟩ := blk6 hD3
    have q0 := hP3.cell 0
    have q1 := hP3.cell 1
    have q9 := hP3.lt
    simp only [List.getElem?_toArray, List.getElem?_cons_zero, List.getElem?_cons_succ] at q0 q1
    clear hD3 hP3
    first
      | (intro K hK
         rw [if_pos (by rfl)]; simp only [overlay, upd, cond_true, cond_false, List.getD_cons_zero, List.getD_cons_succ, Nat.reduceEqDiff, reduceIte]
         go_simp
         first
           | exact hK.out _ _ (Below.refl _ _) rfl
           | exact hK.out _ _ (by repeat (first | exact Below.refl _ _ | assumption | refine Below.drew ?_ | refine below_drewN ?_ _ | refine Below.alloc ?_ (by simp <;> omega) _)) ⟨_, rfl, Blk.new _ _ _⟩)
      | (intro bq hq v hv K hK
         rw [if_pos (by rfl)]; simp only [overlay, upd, cond_true, cond_false, List.getD_cons_zero, List.getD_cons_succ, Nat.reduceEqDiff, reduceIte]
         go_simp
         exact hK.out _ _ (Below.refl _ _) rfl)
      | (intro bq hq K hK
         have z0 := hq.cell 0
         have z1 := hq.cell 1
         simp only [List.getElem?_toArray, List.getElem?_cons_zero, List.getElem?_cons_succ] at z0 z1
         have hap := fun ty => Go.run_append_nil (P := Tryz.prog) w3 209 ty 220 ic zc Tryz.underlying209 hic hzc ⟨bq, 0, none⟩ 1 1 [.func (Fn.func 152) #[] #[.pointer (some ⟨f, 0, none⟩), .pointer (some ⟨b, 0, none⟩)], lay] (by rw [hsc]; rfl) (by intro j v hj; match j, hj with | 0, hj => simp at hj; subst hj; exact z0 | 1, hj => simp at hj; subst hj; exact z1) (by omega) (by omega) (by rw [hbc]; omega)
         rw [if_pos (by rfl)]; simp only [overlay, upd, cond_true, cond_false, List.getD_cons_zero, List.getD_cons_succ, Nat.reduceEqDiff, reduceIte]
         go_simp
         exact hK.out _ _ (by repeat (first | exact Below.refl _ _ | assumption | refine Below.drew ?_ | refine below_drewN ?_ _ | refine Below.alloc ?_ (by simp <;> omega) _)) ⟨_, _, rfl⟩)
set_option maxRecDepth 100000 in
set_option maxHeartbeats 1600000 in
theorem diskAppend_any (s : ByteArray) (hs : s.size ≤ 140737488355328) (M1 M2 D : Nat) (room : Int) (w : World) (hM : MN w M1) (hD : Blk w D (dkC M1 M2 (.slice none 0 0) room) 211) (hne : M1 ≠ D) :
    Calls Tryz.prog 116 #[.pointer (some ⟨D, 0, none⟩), .string s, .string ⟨#[]⟩] w fun r w' => r = .returned (.int .i64 (if fileB s.data.toList then 0 else 2)) ∧ (∀ B, B ≤ M1 → B ≤ D → B ≤ w.heap.size → Below B w w') := by
  have HLV := Lib.hid (fun (g : Nat) (W : World) (hW : Below w.heap.size w W) (hg : Blk W g #[.string s] 9) => live_any s hs D M1 M2 g 1 (.slice none 0 0) room W (hD.ext hW) hg)
  have HDO := Lib.hid (fun (a b f : Nat) (T : TypeId) (lay : Value) (W : World) (hW : Below w.heap.size w W) (ha : Blk W a #[.string s] 9) (hb : Blk W b #[.string ⟨#[]⟩] 9) (hf : Blk W f #[.func (Fn.func 150) #[] #[.pointer (some ⟨a, 0, none⟩), .pointer (some ⟨b, 0, none⟩)]] T) => diskDo_any s hs a b f M1 M2 D lay room W ha hb hf (own_map_below hM hW) (hD.ext hW) hne)
  have hb3 : Below w.heap.size w (((w.alloc (.cells #[.string s] 9)).alloc (.cells #[.string ⟨#[]⟩] 9)).alloc (.cells #[.string s] 9)) := (by repeat (first | exact Below.refl _ _ | assumption | refine Below.drew ?_ | refine below_drewN ?_ _ | refine Below.alloc ?_ (by simp <;> omega) _))
  have hA : Blk (((w.alloc (.cells #[.string s] 9)).alloc (.cells #[.string ⟨#[]⟩] 9)).alloc (.cells #[.string s] 9)) w.heap.size #[.string s] 9 := ((Blk.new w _ _).old _).old _
  have hB : Blk (((w.alloc (.cells #[.string s] 9)).alloc (.cells #[.string ⟨#[]⟩] 9)).alloc (.cells #[.string s] 9)) (w.heap.size + 1) #[.string ⟨#[]⟩] 9 := (by repeat (first | exact Blk.at (by simp) | assumption | refine Blk.drew ?_ | refine Blk.old ?_ _))
  have hC : Blk (((w.alloc (.cells #[.string s] 9)).alloc (.cells #[.string ⟨#[]⟩] 9)).alloc (.cells #[.string s] 9)) (w.heap.size + 2) #[.string s] 9 := (by repeat (first | exact Blk.at (by simp) | assumption | refine Blk.drew ?_ | refine Blk.old ?_ _))
  have HB3 := Lib.hid hb3
  have HA := Lib.hid hA
  have HB := Lib.hid hB
  have HC := Lib.hid hC
  clear hM hD hne hb3 hA hB hC
  obtain ⟨e, he⟩ : ∃ e : Int, e = if fileB s.data.toList then 0 else 2 := ⟨_, rfl⟩
  have hec : (e = 0) ∨ (e = 2) := by rw [he]; split <;> simp
  rw [← he] at HLV ⊢
  clear he
  go_enter Tryz.func116, Tryz.ntmps116
  go_wp2_with fail
  generalize (((w.alloc (.cells #[.string s] 9)).alloc (.cells #[.string ⟨#[]⟩] 9)).alloc (.cells #[.string s] 9)) = W3 at HB3 HA HB HC ⊢
  refine (HLV.out _ W3 HB3.out HC.out).mono ?_
  rintro r w1 ⟨rfl, hb1⟩
  have hB1 := bt HB3.out hb1
  have HA1 := Lib.hid (HA.out.ext hb1)
  have HB1 := Lib.hid (HB.out.ext hb1)
  have HBW := Lib.hid hB1
  clear hb1 hB1 HB3 HA HB HC HLV
  rcases hec with rfl | rfl
  · go_wp2_with fail
    go_upto_region 4 with fail
    obtain ⟨b0, b1, b2⟩ := blk1c HB1.out
    go_region
    have HA2 := Lib.hid (Blk.drew HA1.out)
    have HB2 := Lib.hid (Blk.drew HB1.out)
    have HW2 : Hid (Below w.heap.size w w1.drew) := HBW.out.drew
    clear HA1 HB1 HBW b0 b1 b2
    generalize w1.drew = w2 at HA2 HB2 HW2 ⊢
    have hF := fun T : TypeId => Blk.new w2 #[.func (Fn.func 150) #[] #[.pointer (some ⟨w.heap.size, 0, none⟩), .pointer (some ⟨w.heap.size + 1, 0, none⟩)]] T
    have HFF := Lib.hid hF
    clear hF
    go_wp2_with fail
    refine (HDO.out w.heap.size (w.heap.size + 1) w2.heap.size _ _ _ (HW2.out.alloc HW2.out.size _) (HA2.out.old _) (HB2.out.old _) (HFF.out _)).mono ?_
    rintro r w3 ⟨rfl, hb3⟩
    have HB3 := Lib.hid hb3
    clear hb3
    go_wp2_with fail
    go_ret
    exact ⟨rfl, fun B h1 h2 h3 => ((HW2.out.alloc HW2.out.size _).mono h3).trans (HB3.out B h1 h2 (Nat.le_trans h3 (by have := HW2.out.size; simp; omega)))⟩
  · go_wp2_with fail
    go_ret
    exact ⟨rfl, fun B _ _ h => HBW.out.mono h⟩
set_option maxRecDepth 100000 in
set_option maxHeartbeats 1600000 in
theorem fnamed_any (s : ByteArray) (hs : s.size ≤ 140737488355328) (w : World) :
    Calls Tryz.prog 83 #[.string s] w fun r w' => r = .returned (.bool (fileB s.data.toList)) ∧ Below w.heap.size w w' := by
  have HNW := Lib.hid (diskNew_any w)
  have HAP := Lib.hid (fun (M1 M2 D : Nat) (W : World) (hM : MN W M1) (hD : Blk W D (dkC M1 M2 (.slice none 0 0) 0) 211) (hne : M1 ≠ D) => diskAppend_any s hs M1 M2 D 0 W hM hD hne)
  go_enter Tryz.func83, Tryz.ntmps83
  go_wp2_with fail
  refine HNW.out.mono ?_
  rintro r w1 ⟨D, M1, M2, rfl, hD, hM, hd, hm, hne, hb⟩
  have HX := Lib.hid (HAP.out M1 M2 D w1 hM hD hne)
  have HBB := Lib.hid hb
  clear hD hM hne hb
  cases hf : fileB s.data.toList with
  | false =>
    rw [hf] at HX
    simp only [Bool.false_eq_true, if_false] at HX
    have HF := Lib.hid hf
    clear hf
    go_wp2_with fail
    refine HX.out.mono ?_
    rintro r w2 ⟨rfl, hb2⟩
    go_wp2_with fail
    go_ret
    exact ⟨by rw [HF.out]; rfl, HBB.out.trans (hb2 _ hm hd HBB.out.size)⟩
  | true =>
    rw [hf] at HX
    simp only [if_true] at HX
    have HF := Lib.hid hf
    clear hf
    go_wp2_with fail
    refine HX.out.mono ?_
    rintro r w2 ⟨rfl, hb2⟩
    go_wp2_with fail
    go_ret
    exact ⟨by rw [HF.out]; rfl, HBB.out.trans (hb2 _ hm hd HBB.out.size)⟩
end Go.Proofs.YtfekohonidggjaaGreatDoor

/- Contracts: small functions of scripts: noOp, ops, kinds. -/
namespace Go.Proofs.YtfekohonidggjaaGreatDoor
open Go.RowKit

theorem ops_any (w : World) : Calls Tryz.prog 79 #[] w fun r w' => r = .returned (.slice (some ⟨w.heap.size, 0, none⟩) 4 4) ∧ Blk w' w.heap.size #[.string ⟨#[]⟩, .string (bsO tOp1), .string (bsO tOp2), .string (bsO tOp3)] 9 ∧ Below w.heap.size w w' := by
  go_enter Tryz.func79, Tryz.ntmps79
  go_wp2_with fail
  go_ret
  exact ⟨rfl, Blk.new _ _ _, (by repeat (first | exact Below.refl _ _ | assumption | refine Below.drew ?_ | refine below_drewN ?_ _ | refine Below.alloc ?_ (by simp <;> omega) _))⟩
def kd (l : List UInt8) : Value := .string (bsO l)
theorem kinds_any (w : World) : Calls Tryz.prog 69 #[] w fun r w' => r = .returned (.slice (some ⟨w.heap.size, 0, none⟩) 6 6) ∧ Blk w' w.heap.size #[kd [], kd (kindW 1 false), kd (kindW 2 false), kd (kindW 3 false), kd (kindW 4 false), kd (kindW 5 false)] 9 ∧ Below w.heap.size w w' := by
  go_enter Tryz.func69, Tryz.ntmps69
  go_wp2_with fail
  go_ret
  exact ⟨rfl, Blk.new _ _ _, (by repeat (first | exact Below.refl _ _ | assumption | refine Below.drew ?_ | refine below_drewN ?_ _ | refine Below.alloc ?_ (by simp <;> omega) _))⟩
theorem tell1_any (x : Int) (w : World) : Calls Tryz.prog 82 #[.int .i64 x] w fun r w' => r = .returned (.bool (!decide (x = 0))) ∧ Below w.heap.size w w' := by
  by_cases h : x = 0
  · subst h
    go_enter Tryz.func82, Tryz.ntmps82
    go_wp2_with fail
    go_ret
    exact ⟨rfl, (by repeat (first | exact Below.refl _ _ | assumption | refine Below.drew ?_ | refine below_drewN ?_ _ | refine Below.alloc ?_ (by simp <;> omega) _))⟩
  · have hb : (x != 0) = true := by simpa using h
    go_enter Tryz.func82, Tryz.ntmps82
    go_wp2_with fail
    go_ret
    exact ⟨by simp [h], (by repeat (first | exact Below.refl _ _ | assumption | refine Below.drew ?_ | refine below_drewN ?_ _ | refine Below.alloc ?_ (by simp <;> omega) _))⟩
def nzB (l : List Int) : Bool := l.any fun x => !decide (x = 0)
set_option maxRecDepth 100000 in
set_option maxHeartbeats 1600000 in
theorem indexNz_any (l : List Int) (g o c : Nat) (w : World) (hl : l.length ≤ 3) (hg : g < w.heap.size) (hc : ∀ (j : Nat) v, l[j]? = some v → w.cell? ⟨g, o + j, none⟩ = some (.int .i64 v)) :
    Calls Tryz.prog 114 #[.slice (some ⟨g, o, none⟩) l.length c, .func (Fn.func 82) #[] #[]] w fun r w' => (∃ i : Int, r = .returned (.int .i64 i) ∧ ((nzB l = true ∧ 0 ≤ i) ∨ (nzB l = false ∧ i = -1))) ∧ Below w.heap.size w w' := by
  have HC := Lib.hid hc
  clear hc
  go_enter Tryz.func114, Tryz.ntmps114
  go_wp2_with fail
  go_loopw [8] (fun i wr => ∃ (j : Nat), j ≤ l.length ∧ i = .int .i64 j ∧ Hid (nzB (l.take j) = false) ∧ Below w.heap.size w wr) (fun i _ => l.length - (intOf i).toNat)
  case atStart => exact ⟨0, by omega, rfl, (rfl : _ = _), Below.refl _ _⟩
  case round =>
    obtain ⟨j, hj, rfl, HZ, hbw⟩ := hrel
    by_cases hlt : j < l.length
    · obtain ⟨x, hx⟩ : ∃ x, x = l[j] := ⟨_, rfl⟩
      have hget := List.getElem?_eq_getElem hlt
      rw [← hx] at hget
      have c0 := (hbw.cell (p := ⟨g, o + j, none⟩) hg).trans (HC.out j x hget)
      have lW := Nat.lt_of_lt_of_le hg hbw.size
      have htk : l.take (j + 1) = l.take j ++ [x] := by rw [List.take_succ_eq_append_getElem hlt, ← hx]
      have hspl : l = l.take j ++ x :: l.drop (j + 1) := by rw [hx, List.getElem_cons_drop, List.take_append_drop]
      have HTK := Lib.hid htk
      have HSP := Lib.hid hspl
      have HT1 := Lib.hid (tell1_any x wr)
      have hltI : (j : Int) < l.length := by omega
      clear htk hspl hget hx
      by_cases h0 : x = 0
      · have hz : nzB (l.take (j + 1)) = false := by rw [HTK.out]; unfold nzB; rw [List.any_append]; simp [h0]; simpa [nzB] using HZ.out
        have HZ2 := Lib.hid hz
        rw [h0] at HT1 c0
        simp only [decide_true, Bool.not_true] at HT1
        clear hz
        go_wp2_with fail
        refine HT1.out.mono ?_
        rintro r w1 ⟨rfl, hb⟩
        have hb2 := bt hbw hb
        clear hb hbw c0 lW
        go_wp2_with fail
        go_roundw
        case rel => exact ⟨j + 1, by omega, by go_num, HZ2, hb2⟩
        case measure => simp [intOf]; omega
      · have hz : nzB l = true := by rw [HSP.out]; unfold nzB; rw [List.any_append, List.any_cons]; simp [h0]
        have HZ2 := Lib.hid hz
        simp only [h0, decide_false, Bool.not_false] at HT1
        clear hz
        go_wp2_with fail
        refine HT1.out.mono ?_
        rintro r w1 ⟨rfl, hb⟩
        have hb2 := bt hbw hb
        clear hb hbw c0 lW
        go_wp2_with fail
        go_ret
        exact ⟨⟨j, rfl, Or.inl ⟨HZ2.out, by omega⟩⟩, hb2⟩
    · have hjn : j = l.length := by omega
      subst hjn
      have hz := HZ.out
      rw [List.take_of_length_le (Nat.le_refl _)] at hz
      have HZ2 := Lib.hid hz
      clear hz
      go_wp2_with fail
      go_ret
      exact ⟨⟨-1, rfl, Or.inr ⟨HZ2.out, rfl⟩⟩, hbw⟩
theorem containsNz_any (l : List Int) (g o c : Nat) (w : World) (hl : l.length ≤ 3) (hg : g < w.heap.size) (hc : ∀ (j : Nat) v, l[j]? = some v → w.cell? ⟨g, o + j, none⟩ = some (.int .i64 v)) :
    Calls Tryz.prog 81 #[.slice (some ⟨g, o, none⟩) l.length c, .func (Fn.func 82) #[] #[]] w fun r w' => r = .returned (.bool (nzB l)) ∧ Below w.heap.size w w' := by
  have HI := Lib.hid (indexNz_any l g o c w hl hg hc)
  clear hc
  go_enter Tryz.func81, Tryz.ntmps81
  go_wp2_with fail
  refine HI.out.mono ?_
  rintro r w1 ⟨⟨i, rfl, ⟨hz, hi⟩ | ⟨hz, rfl⟩⟩, hb⟩
  · have HZ := Lib.hid hz
    clear hz
    go_wp2_with fail
    go_ret
    exact ⟨by rw [HZ.out]; rfl, hb⟩
  · have HZ := Lib.hid hz
    clear hz
    go_wp2_with fail
    go_ret
    exact ⟨by rw [HZ.out]; rfl, hb⟩
end Go.Proofs.YtfekohonidggjaaGreatDoor
