/- Texts joined by a tool: contracts and walks of this claim. -/
import Derived.Test.YtfekohonidggjaaGreatDoorB14
import Derived.Laws.EntriesVeiled
namespace Go.Proofs.YtfekohonidggjaaGreatDoor
open Go.RowKit
theorem zero_file (w : World) : (zeroValue 215).run Tryz.prog w = .ok (.agg #[.string ⟨#[]⟩]) w := by kernel_rfl
theorem file_text (t : ByteArray) (w : World) : (Instr.field 215 (.agg #[.string t]) 0).run Tryz.prog w = .ok (.string t) w := by kernel_rfl
theorem key_str (s : ByteArray) (hs : s.size ≤ 140737488355328) : keyOf Tryz.prog 9 (.string s) = some (.string s.data.toList) := WideMaps.keyOf_string_mk Tryz.underlying9 (by unfold maxLen; omega)
def MN (w : World) (M : Nat) : Prop := w.ownsMap Tryz.prog 9 RW M 0 (.map [])
theorem file_look {w : World} {M : Nat} (s : ByteArray) (hs : s.size ≤ 140737488355328) (h : MN w M) : (Instr.lookup 208 (.map (some M)) (.string s) false).run Tryz.prog w = .ok (.agg #[.string ⟨#[]⟩]) w := by
 obtain ⟨u, ps, hrun, hu⟩ := World.ownsMap.lookup h (Maps.string_keyed Tryz.underlying9) Tryz.underlying208 (zero_file w) (zd := .held (.agg #[.string ⟨#[]⟩])) (zp := []) rfl (key_str s hs)
 rw [show (DataW.map (H := Value) []).atKey (Lit.string s.data.toList) (DataW.held (Value.agg #[Value.string ⟨#[]⟩])) = DataW.held (Value.agg #[Value.string ⟨#[]⟩]) from rfl] at hu
 unfold RW at hu
 simp only [Option.some.injEq, Prod.mk.injEq, DataW.held.injEq] at hu
 have this := hu.1
 rw [this] at hrun
 exact hrun
theorem file_put {w : World} {M : Nat} (s : ByteArray) (hs : s.size ≤ 140737488355328) (h : MN w M) (v : Value) : ∃ w', (Instr.mapUpdate 208 (.map (some M)) (.string s) v).run Tryz.prog w = .ok () w' ∧ w.grownBy w' (some M) := by
 obtain ⟨w', e, _, g⟩ := World.ownsMap.update h (Maps.string_keyed Tryz.underlying9) Tryz.underlying208 (by unfold maxLen; omega) (key_str s hs) (show RW v = some (.held v, []) from rfl)
 exact ⟨w', e, g⟩
set_option maxRecDepth 100000 in
set_option maxHeartbeats 1600000 in
theorem lay_any (s : ByteArray) (hs : s.size ≤ 140737488355328) (a b M : Nat) (w : World) (ha : Blk w a #[.string s] 9) (hb : Blk w b #[.string ⟨#[]⟩] 9) (hM : MN w M) :
 Calls Tryz.prog 150 #[.map (some M), .int .i64 0, .pointer (some ⟨a, 0, none⟩), .pointer (some ⟨b, 0, none⟩)] w fun r w' => r = .returned (.tuple #[]) ∧ w.grownBy w' (some M) := by
 have hMd : MN w.drew M := World.ownsMap.drew hM
 have hlk := file_look s hs hMd
 obtain ⟨w', hup, hg⟩ := file_put s hs hMd (.agg #[.string ⟨#[]⟩])
 obtain ⟨y0, y1, y2⟩ := blk1c ha
 obtain ⟨z0, z1, z2⟩ := blk1c hb
 have HG := hd_ hg
 have hfd := file_text ⟨#[]⟩
 clear ha hb hM hMd hg
 go_enter Tryz.func150, Tryz.ntmps150
 go_wp2_with fail
 go_region
 go_wp2_with fail
 go_end0
 exact ⟨rfl, only_trans (only_below (Below.drew (Below.refl _ _)) _) HG.out⟩
set_option maxRecDepth 100000 in
set_option maxHeartbeats 1600000 in
theorem lay2_any {T : TypeId} (s : ByteArray) (hs : s.size ≤ 140737488355328) (a b f M : Nat) (w : World) (ha : Blk w a #[.string s] 9) (hb : Blk w b #[.string ⟨#[]⟩] 9) (hf : Blk w f #[.func (Fn.func 150) #[] #[.pointer (some ⟨a, 0, none⟩), .pointer (some ⟨b, 0, none⟩)]] T) (hM : MN w M) :
 Calls Tryz.prog 152 #[.map (some M), .pointer (some ⟨f, 0, none⟩), .pointer (some ⟨b, 0, none⟩)] w fun r w' => r = .returned (.tuple #[]) ∧ w.grownBy w' (some M) := by
 have HL := hd_ (lay_any s hs a b M w ha hb hM)
 obtain ⟨z0, z1, z2⟩ := blk1c hb
 obtain ⟨f0, f1, f2⟩ := blk1c hf
 clear ha hb hM hf
 go_enter Tryz.func152, Tryz.ntmps152
 go_wp2_with fail
 refine HL.out.mono ?_
 rintro r w1 ⟨rfl, hg⟩
 go_wp2_with fail
 go_end0
 exact ⟨rfl, hg⟩
set_option maxRecDepth 100000 in
set_option maxHeartbeats 1600000 in
theorem diskNew_any (w : World) :
 Calls Tryz.prog 115 #[.int .i64 0] w fun r w' => ∃ D M1 M2, r = .returned (.tuple #[.pointer (some ⟨D, 0, none⟩), .int .i64 0]) ∧ Blk w' D (dkC M1 M2 (.slice none 0 0) 0) 211 ∧ MN w' M1 ∧ w.heap.size ≤ D ∧ w.heap.size ≤ M1 ∧ M1 ≠ D ∧ Below w.heap.size w w' := by
 have hmm := @run_makeMap Tryz.prog
 go_enter Tryz.func115, Tryz.ntmps115
 go_wp2_with fail
 go_ret2
 have h1 : MN (w.alloc (.map #[] 0)) w.heap.size := World.ownsMap_made _ _ _ _
 refine ⟨w.heap.size + 1 + 1, w.heap.size, w.heap.size + 1, rfl, (by repeat (first | exact Blk.at (by simp) | assumption | refine Blk.drew ?_ | refine Blk.old ?_ _)), ?_, by omega, by omega, by omega, (by repeat (first | exact Below.refl _ _ | assumption | refine Below.drew ?_ | refine below_drewN ?_ _ | refine Below.alloc ?_ (by simp <;> omega) _))⟩
 exact own_map_below h1 ((by repeat (first | exact Below.refl _ _ | assumption | refine Below.drew ?_ | refine below_drewN ?_ _ | refine Below.alloc ?_ (by simp <;> omega) _)))
theorem blk_grown {w w' : World} {b : Nat} {cs : Array Value} {t : TypeId} {row : Option Nat} (h : Blk w b cs t) (hg : w.grownBy w' row) (hne : row ≠ some b) : Blk w' b cs t := by
 have h1 := hg.block b (Blk.lt h) (fun e => hne e.symm)
 unfold Blk at h ⊢
 rw [h1]
 exact h
theorem info_call : (Tryz.prog.info? 220).map (fun i => (i.zero.isSome, i.size, i.bytes)) = some (true, 2, 16) := by kernel_rfl
theorem call_parts : ∃ i z, Tryz.prog.info? 220 = some i ∧ i.zero = some z ∧ i.size = 2 ∧ i.bytes = 16 := by
 obtain ⟨i, h, e⟩ := Option.map_eq_some_iff.1 info_call
 simp only [Prod.mk.injEq] at e
 obtain ⟨z, hz⟩ := Option.isSome_iff_exists.1 e.1
 exact ⟨i, z, h, hz, e.2.1, e.2.2⟩
set_option maxRecDepth 100000 in
set_option maxHeartbeats 1600000 in
theorem diskDo_any (s : ByteArray) (hs : s.size ≤ 140737488355328) (a b f M1 M2 D : Nat) {T : TypeId} (lay : Value) (room : Int) (w : World) (ha : Blk w a #[.string s] 9) (hb : Blk w b #[.string ⟨#[]⟩] 9) (hf : Blk w f #[.func (Fn.func 150) #[] #[.pointer (some ⟨a, 0, none⟩), .pointer (some ⟨b, 0, none⟩)]] T) (hM : MN w M1) (hD : Blk w D (dkC M1 M2 (.slice none 0 0) room) 211) (hne : M1 ≠ D) :
 Calls Tryz.prog 151 #[.pointer (some ⟨D, 0, none⟩), .agg #[.func (Fn.func 152) #[] #[.pointer (some ⟨f, 0, none⟩), .pointer (some ⟨b, 0, none⟩)], lay]] w fun r w' => r = .returned (.int .i64 0) ∧ (∀ B, B ≤ M1 → B ≤ D → B ≤ w.heap.size → Below B w w') := by
 have HBU := hd_ (fun (W : World) (hW : Below w.heap.size w W) => burn_any D M1 M2 (.slice none 0 0) room W (hD.ext hW))
 have HL2 := hd_ (fun (W : World) (hW : Below w.heap.size w W) => lay2_any s hs a b f M1 W (ha.ext hW) (hb.ext hW) (hf.ext hW) (own_map_below hM hW))
 have HDD := hd_ hD
 have HLT := hd_ (World.ownsMap.lt hM)
 obtain ⟨ic, zc, hic, hzc, hsc, hbc⟩ := call_parts
 clear ha hb hf hM hD
 go_enter Tryz.func151, Tryz.ntmps151
 go_wp2_with fail
 have hb0 : Below w.heap.size w (w.alloc (.cells #[.func (Fn.func 152) #[] #[.pointer (some ⟨f, 0, none⟩), .pointer (some ⟨b, 0, none⟩)], lay] 220)) := bel1 _ _
 refine (HBU.out _ hb0).mono ?_
 rintro r w1 ⟨rfl, rfl⟩
 have HB0 := hd_ hb0
 have HP0 := hd_ (Blk.new w #[.func (Fn.func 152) #[] #[.pointer (some ⟨f, 0, none⟩), .pointer (some ⟨b, 0, none⟩)], lay] 220)
 obtain ⟨q9, q0, q1⟩ := (show _ ∧ _ ∧ _ from by
  have h := Blk.new w #[.func (Fn.func 152) #[] #[.pointer (some ⟨f, 0, none⟩), .pointer (some ⟨b, 0, none⟩)], lay] 220
  have e0 := h.cell 0
  have e1 := h.cell 1
  simp only [List.getElem?_toArray, List.getElem?_cons_zero, List.getElem?_cons_succ] at e0 e1
  exact ⟨h.lt, e0, e1⟩)
 have hD1 := HDD.out.ext hb0
 unfold dkC at hD1
 obtain ⟨d9, d0, d1, d2, d3, d4, d5⟩ := blk6 hD1
 clear hb0 hD1
 go_upto_region 4 with fail
 generalize w.alloc (.cells #[.func (Fn.func 152) #[] #[.pointer (some ⟨f, 0, none⟩), .pointer (some ⟨b, 0, none⟩)], lay] 220) = W at HB0 HP0 q9 q0 q1 d9 d0 d1 d2 d3 d4 d5 ⊢
 go_still_tail 6, (by kernel_rfl)
 change wpList _ _ _ _ _ W.drew
 have HBD : Hid (Below w.heap.size w W.drew) := HB0.out.drew
 go_wp2_with fail
 refine (HL2.out _ HBD.out).mono ?_
 rintro r w2 ⟨rfl, hg2⟩
 have hq2 : Blk w2 D (dkC M1 M2 (.slice none 0 0) room) 211 := blk_grown (HDD.out.ext HBD.out) hg2 (by intro e; injection e with e; exact hne e)
 have hp2 : Blk w2 w.heap.size #[.func (Fn.func 152) #[] #[.pointer (some ⟨f, 0, none⟩), .pointer (some ⟨b, 0, none⟩)], lay] 220 := blk_grown (Blk.drew HP0.out) hg2 (by have := HLT.out; intro e; injection e with e; omega)
 have HBM : Hid (∀ B, B ≤ M1 → B ≤ D → B ≤ w.heap.size → Below B w w2) := fun B h1 h2 h3 => (HBD.out.mono h3).grown hg2 (Nat.le_trans h3 HBD.out.size) (fun g hg => by injection hg with hg; omega)
 have HQ2 := hd_ hq2
 have HP2 := hd_ hp2
 have HG2 := hd_ hg2
 clear hq2 hp2 hg2 q9 q0 q1 d9 d0 d1 d2 d3 d4 d5
 go_upto_region 5 with fail
 refine region_last 10 _ [false, false, false, false, false, false, false, false, false, false, false, false, false, false, false, false, false, false, true, true, true, true, true, true, true, true, true, true] [18, 19, 20, 21, 22, 23, 24, 25, 26, 27] [.val (.pointer (some ⟨D, 0, none⟩)), .val (.pointer (some ⟨D, 0, none⟩)), .val (.pointer (some ⟨D, 0, none⟩)), .val (.pointer (some ⟨D, 2, none⟩)), .val (.slice none 0 0), .val (.agg #[.func (Fn.func 152) #[] #[.pointer (some ⟨f, 0, none⟩), .pointer (some ⟨b, 0, none⟩)], lay]), .new (fun g => .slice (some ⟨g, 0, none⟩) 1 1) #[.func (Fn.func 152) #[] #[.pointer (some ⟨f, 0, none⟩), .pointer (some ⟨b, 0, none⟩)], lay] 220, .mem (fun v _ => ∃ A c, v = .slice A 1 c) (fun _ _ _ h _ => h), .val (.pointer (some ⟨D, 0, none⟩)), .val (.pointer (some ⟨D, 2, none⟩))] [7, 9] (by kernel_rfl) rfl rfl (by kernel_rfl) (by kernel_rfl) (by kernel_rfl) (by kernel_rfl) (by kernel_rfl) ⟨?_, ?_, ?_, ?_, ?_, ?_, ?_, ?_, ?_, ?_, trivial⟩ ?done
 case done =>
  intro x w3 hb3
  have hD3 := HQ2.out.ext hb3
  unfold dkC at hD3
  have HB3 := hd_ hb3
  clear hb3
  obtain ⟨w5, rfl, lt⟩ := blk_put hD3
  obtain ⟨pc, pf, pS⟩ := putBlk_facts (w := w5) 211 lt
  simp only [StepGoal, List.getD_cons_zero, List.getD_cons_succ]
  rintro v ⟨A, cA, rfl⟩ K hK
  rw [if_pos (by rfl)]; simp only [overlay, upd, cond_true, cond_false, Nat.reduceEqDiff, reduceIte]
  go_simp
  refine hK.out _ _ ?_
  have HBF : Hid (∀ B, B ≤ M1 → B ≤ D → B ≤ w.heap.size → Below B w (putBlk w5 D #[.map (some M1), .map (some M2), .slice A 1 cA, .int .i64 room, .int .i64 (-1), .bool false] 211)) := fun B h1 h2 h3 => putBlk_belows ((HBM.out B h1 h2 h3).trans (HB3.out.mono (Nat.le_trans h3 (Nat.le_trans HBD.out.size HG2.out.size)))) h2 _
  clear hK pc pf pS hD3
  go_wp2_with fail
  go_ret
  exact ⟨rfl, HBF.out⟩
 all_goals
  intro x w3 hb3
  have hD3 := HQ2.out.ext hb3
  have hP3 := HP2.out.ext hb3
  unfold dkC at hD3
  obtain ⟨d9, d0, d1, d2, d3, d4, d5⟩ := blk6 hD3
  have q0 := hP3.cell 0
  have q1 := hP3.cell 1
  have q9 := hP3.lt
  simp only [List.getElem?_toArray, List.getElem?_cons_zero, List.getElem?_cons_succ] at q0 q1
  clear hD3 hP3
  first
   | (intro K hK
      rw [if_pos (by rfl)]; simp only [overlay, upd, cond_true, cond_false, List.getD_cons_zero, List.getD_cons_succ, Nat.reduceEqDiff, reduceIte]
      go_simp
      first
       | exact hK.out _ _ (Below.refl _ _) rfl
       | exact hK.out _ _ (by repeat (first | exact Below.refl _ _ | assumption | refine Below.drew ?_ | refine below_drewN ?_ _ | refine Below.alloc ?_ (by simp <;> omega) _)) ⟨_, rfl, Blk.new _ _ _⟩)
   | (intro bq hq v hv K hK
      rw [if_pos (by rfl)]; simp only [overlay, upd, cond_true, cond_false, List.getD_cons_zero, List.getD_cons_succ, Nat.reduceEqDiff, reduceIte]
      go_simp
      exact hK.out _ _ (Below.refl _ _) rfl)
   | (intro bq hq K hK
      have z0 := hq.cell 0
      have z1 := hq.cell 1
      simp only [List.getElem?_toArray, List.getElem?_cons_zero, List.getElem?_cons_succ] at z0 z1
      have hap := fun ty => Go.run_append_nil (P := Tryz.prog) w3 209 ty 220 ic zc Tryz.underlying209 hic hzc ⟨bq, 0, none⟩ 1 1 [.func (Fn.func 152) #[] #[.pointer (some ⟨f, 0, none⟩), .pointer (some ⟨b, 0, none⟩)], lay] (by rw [hsc]; rfl) (by intro j v hj; match j, hj with | 0, hj => simp at hj; subst hj; exact z0 | 1, hj => simp at hj; subst hj; exact z1) (by omega) (by omega) (by rw [hbc]; omega)
      rw [if_pos (by rfl)]; simp only [overlay, upd, cond_true, cond_false, List.getD_cons_zero, List.getD_cons_succ, Nat.reduceEqDiff, reduceIte]
      go_simp
      exact hK.out _ _ (by repeat (first | exact Below.refl _ _ | assumption | refine Below.drew ?_ | refine below_drewN ?_ _ | refine Below.alloc ?_ (by simp <;> omega) _)) ⟨_, _, rfl⟩)
set_option maxRecDepth 100000 in
set_option maxHeartbeats 1600000 in
theorem diskAppend_any (s : ByteArray) (hs : s.size ≤ 140737488355328) (M1 M2 D : Nat) (room : Int) (w : World) (hM : MN w M1) (hD : Blk w D (dkC M1 M2 (.slice none 0 0) room) 211) (hne : M1 ≠ D) :
 Calls Tryz.prog 116 #[.pointer (some ⟨D, 0, none⟩), .string s, .string ⟨#[]⟩] w fun r w' => r = .returned (.int .i64 (if fileB s.data.toList then 0 else 2)) ∧ (∀ B, B ≤ M1 → B ≤ D → B ≤ w.heap.size → Below B w w') := by
 have HLV := hd_ (fun (g : Nat) (W : World) (hW : Below w.heap.size w W) (hg : Blk W g #[.string s] 9) => live_any s hs D M1 M2 g 1 (.slice none 0 0) room W (hD.ext hW) hg)
 have HDO := hd_ (fun (a b f : Nat) (T : TypeId) (lay : Value) (W : World) (hW : Below w.heap.size w W) (ha : Blk W a #[.string s] 9) (hb : Blk W b #[.string ⟨#[]⟩] 9) (hf : Blk W f #[.func (Fn.func 150) #[] #[.pointer (some ⟨a, 0, none⟩), .pointer (some ⟨b, 0, none⟩)]] T) => diskDo_any s hs a b f M1 M2 D lay room W ha hb hf (own_map_below hM hW) (hD.ext hW) hne)
 have hb3 : Below w.heap.size w (((w.alloc (.cells #[.string s] 9)).alloc (.cells #[.string ⟨#[]⟩] 9)).alloc (.cells #[.string s] 9)) := (by repeat (first | exact Below.refl _ _ | assumption | refine Below.drew ?_ | refine below_drewN ?_ _ | refine Below.alloc ?_ (by simp <;> omega) _))
 have hA : Blk (((w.alloc (.cells #[.string s] 9)).alloc (.cells #[.string ⟨#[]⟩] 9)).alloc (.cells #[.string s] 9)) w.heap.size #[.string s] 9 := ((Blk.new w _ _).old _).old _
 have hB : Blk (((w.alloc (.cells #[.string s] 9)).alloc (.cells #[.string ⟨#[]⟩] 9)).alloc (.cells #[.string s] 9)) (w.heap.size + 1) #[.string ⟨#[]⟩] 9 := (by repeat (first | exact Blk.at (by simp) | assumption | refine Blk.drew ?_ | refine Blk.old ?_ _))
 have hC : Blk (((w.alloc (.cells #[.string s] 9)).alloc (.cells #[.string ⟨#[]⟩] 9)).alloc (.cells #[.string s] 9)) (w.heap.size + 2) #[.string s] 9 := (by repeat (first | exact Blk.at (by simp) | assumption | refine Blk.drew ?_ | refine Blk.old ?_ _))
 have HB3 := hd_ hb3
 have HA := hd_ hA
 have HB := hd_ hB
 have HC := hd_ hC
 clear hM hD hne hb3 hA hB hC
 obtain ⟨e, he⟩ : ∃ e : Int, e = if fileB s.data.toList then 0 else 2 := ⟨_, rfl⟩
 have hec : (e = 0) ∨ (e = 2) := by rw [he]; split <;> simp
 rw [← he] at HLV ⊢
 clear he
 go_enter Tryz.func116, Tryz.ntmps116
 go_wp2_with fail
 generalize (((w.alloc (.cells #[.string s] 9)).alloc (.cells #[.string ⟨#[]⟩] 9)).alloc (.cells #[.string s] 9)) = W3 at HB3 HA HB HC ⊢
 refine (HLV.out _ W3 HB3.out HC.out).mono ?_
 rintro r w1 ⟨rfl, hb1⟩
 have hB1 := bt HB3.out hb1
 have HA1 := hd_ (HA.out.ext hb1)
 have HB1 := hd_ (HB.out.ext hb1)
 have HBW := hd_ hB1
 clear hb1 hB1 HB3 HA HB HC HLV
 rcases hec with rfl | rfl
 · go_wp2_with fail
   go_upto_region 4 with fail
   obtain ⟨b0, b1, b2⟩ := blk1c HB1.out
   go_region
   have HA2 := hd_ (Blk.drew HA1.out)
   have HB2 := hd_ (Blk.drew HB1.out)
   have HW2 : Hid (Below w.heap.size w w1.drew) := HBW.out.drew
   clear HA1 HB1 HBW b0 b1 b2
   generalize w1.drew = w2 at HA2 HB2 HW2 ⊢
   have hF := fun T : TypeId => Blk.new w2 #[.func (Fn.func 150) #[] #[.pointer (some ⟨w.heap.size, 0, none⟩), .pointer (some ⟨w.heap.size + 1, 0, none⟩)]] T
   have HFF := hd_ hF
   clear hF
   go_wp2_with fail
   refine (HDO.out w.heap.size (w.heap.size + 1) w2.heap.size _ _ _ (HW2.out.alloc HW2.out.size _) (HA2.out.old _) (HB2.out.old _) (HFF.out _)).mono ?_
   rintro r w3 ⟨rfl, hb3⟩
   have HB3 := hd_ hb3
   clear hb3
   go_wp2_with fail
   go_ret
   exact ⟨rfl, fun B h1 h2 h3 => ((HW2.out.alloc HW2.out.size _).mono h3).trans (HB3.out B h1 h2 (Nat.le_trans h3 (by have := HW2.out.size; simp; omega)))⟩
 · go_wp2_with fail
   go_ret
   exact ⟨rfl, fun B _ _ h => HBW.out.mono h⟩
set_option maxRecDepth 100000 in
set_option maxHeartbeats 1600000 in
theorem fnamed_any (s : ByteArray) (hs : s.size ≤ 140737488355328) (w : World) :
 Calls Tryz.prog 83 #[.string s] w fun r w' => r = .returned (.bool (fileB s.data.toList)) ∧ Below w.heap.size w w' := by
 have HNW := hd_ (diskNew_any w)
 have HAP := hd_ (fun (M1 M2 D : Nat) (W : World) (hM : MN W M1) (hD : Blk W D (dkC M1 M2 (.slice none 0 0) 0) 211) (hne : M1 ≠ D) => diskAppend_any s hs M1 M2 D 0 W hM hD hne)
 go_enter Tryz.func83, Tryz.ntmps83
 go_wp2_with fail
 refine HNW.out.mono ?_
 rintro r w1 ⟨D, M1, M2, rfl, hD, hM, hd, hm, hne, hb⟩
 have HX := hd_ (HAP.out M1 M2 D w1 hM hD hne)
 have HBB := hd_ hb
 clear hD hM hne hb
 cases hf : fileB s.data.toList with
 | false =>
  rw [hf] at HX
  simp only [Bool.false_eq_true, if_false] at HX
  have HF := hd_ hf
  clear hf
  go_wp2_with fail
  refine HX.out.mono ?_
  rintro r w2 ⟨rfl, hb2⟩
  go_wp2_with fail
  go_ret
  exact ⟨by rw [HF.out]; rfl, HBB.out.trans (hb2 _ hm hd HBB.out.size)⟩
 | true =>
  rw [hf] at HX
  simp only [if_true] at HX
  have HF := hd_ hf
  clear hf
  go_wp2_with fail
  refine HX.out.mono ?_
  rintro r w2 ⟨rfl, hb2⟩
  go_wp2_with fail
  go_ret
  exact ⟨by rw [HF.out]; rfl, HBB.out.trans (hb2 _ hm hd HBB.out.size)⟩
theorem ops_any (w : World) : Calls Tryz.prog 79 #[] w fun r w' => r = .returned (.slice (some ⟨w.heap.size, 0, none⟩) 4 4) ∧ Blk w' w.heap.size #[.string ⟨#[]⟩, .string (bsO tOp1), .string (bsO tOp2), .string (bsO tOp3)] 9 ∧ Below w.heap.size w w' := by
 go_enter Tryz.func79, Tryz.ntmps79
 go_wp2_with fail
 go_ret
 exact ⟨rfl, Blk.new _ _ _, (by repeat (first | exact Below.refl _ _ | assumption | refine Below.drew ?_ | refine below_drewN ?_ _ | refine Below.alloc ?_ (by simp <;> omega) _))⟩
def kd (l : List UInt8) : Value := .string (bsO l)
theorem kinds_any (w : World) : Calls Tryz.prog 69 #[] w fun r w' => r = .returned (.slice (some ⟨w.heap.size, 0, none⟩) 6 6) ∧ Blk w' w.heap.size #[kd [], kd (kindW 1 false), kd (kindW 2 false), kd (kindW 3 false), kd (kindW 4 false), kd (kindW 5 false)] 9 ∧ Below w.heap.size w w' := by
 go_enter Tryz.func69, Tryz.ntmps69
 go_wp2_with fail
 go_ret
 exact ⟨rfl, Blk.new _ _ _, (by repeat (first | exact Below.refl _ _ | assumption | refine Below.drew ?_ | refine below_drewN ?_ _ | refine Below.alloc ?_ (by simp <;> omega) _))⟩
theorem tell1_any (x : Int) (w : World) : Calls Tryz.prog 82 #[.int .i64 x] w fun r w' => r = .returned (.bool (!decide (x = 0))) ∧ Below w.heap.size w w' := by
 by_cases h : x = 0
 · subst h
   go_enter Tryz.func82, Tryz.ntmps82
   go_wp2_with fail
   go_ret
   exact ⟨rfl, (by repeat (first | exact Below.refl _ _ | assumption | refine Below.drew ?_ | refine below_drewN ?_ _ | refine Below.alloc ?_ (by simp <;> omega) _))⟩
 · have hb : (x != 0) = true := by simpa using h
   go_enter Tryz.func82, Tryz.ntmps82
   go_wp2_with fail
   go_ret
   exact ⟨by simp [h], (by repeat (first | exact Below.refl _ _ | assumption | refine Below.drew ?_ | refine below_drewN ?_ _ | refine Below.alloc ?_ (by simp <;> omega) _))⟩
def nzB (l : List Int) : Bool := l.any fun x => !decide (x = 0)
set_option maxRecDepth 100000 in
set_option maxHeartbeats 1600000 in
theorem indexNz_any (l : List Int) (g o c : Nat) (w : World) (hl : l.length ≤ 3) (hg : g < w.heap.size) (hc : ∀ (j : Nat) v, l[j]? = some v → w.cell? ⟨g, o + j, none⟩ = some (.int .i64 v)) :
 Calls Tryz.prog 114 #[.slice (some ⟨g, o, none⟩) l.length c, .func (Fn.func 82) #[] #[]] w fun r w' => (∃ i : Int, r = .returned (.int .i64 i) ∧ ((nzB l = true ∧ 0 ≤ i) ∨ (nzB l = false ∧ i = -1))) ∧ Below w.heap.size w w' := by
 have HC := hd_ hc
 clear hc
 go_enter Tryz.func114, Tryz.ntmps114
 go_wp2_with fail
 go_loopw [8] (fun i wr => ∃ (j : Nat), j ≤ l.length ∧ i = .int .i64 j ∧ Hid (nzB (l.take j) = false) ∧ Below w.heap.size w wr) (fun i _ => l.length - (intOf i).toNat)
 case atStart => exact ⟨0, by omega, rfl, (rfl : _ = _), Below.refl _ _⟩
 case round =>
  obtain ⟨j, hj, rfl, HZ, hbw⟩ := hrel
  by_cases hlt : j < l.length
  · obtain ⟨x, hx⟩ : ∃ x, x = l[j] := ⟨_, rfl⟩
    have hget := List.getElem?_eq_getElem hlt
    rw [← hx] at hget
    have c0 := (hbw.cell (p := ⟨g, o + j, none⟩) hg).trans (HC.out j x hget)
    have lW := Nat.lt_of_lt_of_le hg hbw.size
    have htk : l.take (j + 1) = l.take j ++ [x] := by rw [List.take_succ_eq_append_getElem hlt, ← hx]
    have hspl : l = l.take j ++ x :: l.drop (j + 1) := by rw [hx, List.getElem_cons_drop, List.take_append_drop]
    have HTK := hd_ htk
    have HSP := hd_ hspl
    have HT1 := hd_ (tell1_any x wr)
    have hltI : (j : Int) < l.length := by omega
    clear htk hspl hget hx
    by_cases h0 : x = 0
    · have hz : nzB (l.take (j + 1)) = false := by rw [HTK.out]; unfold nzB; rw [List.any_append]; simp [h0]; simpa [nzB] using HZ.out
      have HZ2 := hd_ hz
      rw [h0] at HT1 c0
      simp only [decide_true, Bool.not_true] at HT1
      clear hz
      go_wp2_with fail
      refine HT1.out.mono ?_
      rintro r w1 ⟨rfl, hb⟩
      have hb2 := bt hbw hb
      clear hb hbw c0 lW
      go_wp2_with fail
      go_roundw
      case rel => exact ⟨j + 1, by omega, by go_num, HZ2, hb2⟩
      case measure => simp [intOf]; omega
    · have hz : nzB l = true := by rw [HSP.out]; unfold nzB; rw [List.any_append, List.any_cons]; simp [h0]
      have HZ2 := hd_ hz
      simp only [h0, decide_false, Bool.not_false] at HT1
      clear hz
      go_wp2_with fail
      refine HT1.out.mono ?_
      rintro r w1 ⟨rfl, hb⟩
      have hb2 := bt hbw hb
      clear hb hbw c0 lW
      go_wp2_with fail
      go_ret
      exact ⟨⟨j, rfl, Or.inl ⟨HZ2.out, by omega⟩⟩, hb2⟩
  · have hjn : j = l.length := by omega
    subst hjn
    have hz := HZ.out
    rw [List.take_of_length_le (Nat.le_refl _)] at hz
    have HZ2 := hd_ hz
    clear hz
    go_wp2_with fail
    go_ret
    exact ⟨⟨-1, rfl, Or.inr ⟨HZ2.out, rfl⟩⟩, hbw⟩
theorem containsNz_any (l : List Int) (g o c : Nat) (w : World) (hl : l.length ≤ 3) (hg : g < w.heap.size) (hc : ∀ (j : Nat) v, l[j]? = some v → w.cell? ⟨g, o + j, none⟩ = some (.int .i64 v)) :
 Calls Tryz.prog 81 #[.slice (some ⟨g, o, none⟩) l.length c, .func (Fn.func 82) #[] #[]] w fun r w' => r = .returned (.bool (nzB l)) ∧ Below w.heap.size w w' := by
 have HI := hd_ (indexNz_any l g o c w hl hg hc)
 clear hc
 go_enter Tryz.func81, Tryz.ntmps81
 go_wp2_with fail
 refine HI.out.mono ?_
 rintro r w1 ⟨⟨i, rfl, ⟨hz, hi⟩ | ⟨hz, rfl⟩⟩, hb⟩
 · have HZ := hd_ hz
   clear hz
   go_wp2_with fail
   go_ret
   exact ⟨by rw [HZ.out]; rfl, hb⟩
 · have HZ := hd_ hz
   clear hz
   go_wp2_with fail
   go_ret
   exact ⟨by rw [HZ.out]; rfl, hb⟩
def Ac.agg (a : Ac) (A : Option Addr) (c : Nat) : Value := .agg #[.int .u8 a.d, .int .u8 a.k, .int .i64 a.tb, .slice A a.row.length c, .int .i64 a.n, .int .i64 a.m, .int .i64 a.q, .string a.nm]
structure Am where
 a : Ac
 A : Option Addr
 c : Nat
def Am.cells (x : Am) : List Value := [.int .u8 x.a.d, .int .u8 x.a.k, .int .i64 x.a.tb, .slice x.A x.a.row.length x.c, .int .i64 x.a.n, .int .i64 x.a.m, .int .i64 x.a.q, .string x.a.nm]
def AmRow (w : World) (A : Option Addr) (l : List Am) : Prop :=
 (∀ x ∈ l, x.a.wf ∧ VRow w x.A x.a.row) ∧ l.length ≤ 1599289640401 ∧ (l ≠ [] → ∃ b off, A = some ⟨b, off, none⟩ ∧ b < w.heap.size ∧ ∀ i x, l[i]? = some x → ∀ j, j < 8 → w.cell? ⟨b, off + (i * 8 + j), none⟩ = x.cells[j]?)
theorem AmRow.ext {w w' : World} {A : Option Addr} {l : List Am} (h : AmRow w A l) (hb : Below w.heap.size w w') : AmRow w' A l := by
 refine ⟨fun x hx => ⟨(h.1 x hx).1, (h.1 x hx).2.ext hb⟩, h.2.1, fun hl => ?_⟩
 obtain ⟨b, off, rfl, hlt, hc⟩ := h.2.2 hl
 exact ⟨b, off, rfl, Nat.lt_of_lt_of_le hlt hb.size, fun i v hi j hj => (hb.cell (p := ⟨b, _, none⟩) hlt).trans (hc i v hi j hj)⟩
theorem AmRow.at_ {w : World} {A : Option Addr} {l : List Am} (h : AmRow w A l) {k : Nat} (hk : k < l.length) :
 ∃ (b off : Nat) (x : Am), A = some ⟨b, off, none⟩ ∧ b < w.heap.size ∧ l[k]? = some x ∧ x ∈ l ∧ x.a.wf ∧ VRow w x.A x.a.row ∧
  w.cell? ⟨b, off + k * 8, none⟩ = some (.int .u8 x.a.d) ∧ w.cell? ⟨b, off + k * 8 + 1, none⟩ = some (.int .u8 x.a.k) ∧ w.cell? ⟨b, off + k * 8 + 2, none⟩ = some (.int .i64 x.a.tb) ∧ w.cell? ⟨b, off + k * 8 + 3, none⟩ = some (.slice x.A x.a.row.length x.c) ∧ w.cell? ⟨b, off + k * 8 + 4, none⟩ = some (.int .i64 x.a.n) ∧ w.cell? ⟨b, off + k * 8 + 5, none⟩ = some (.int .i64 x.a.m) ∧ w.cell? ⟨b, off + k * 8 + 6, none⟩ = some (.int .i64 x.a.q) ∧ w.cell? ⟨b, off + k * 8 + 7, none⟩ = some (.string x.a.nm) := by
 obtain ⟨b, off, rfl, hlt, hc⟩ := h.2.2 (by intro e; simp [e] at hk)
 have hv := List.getElem?_eq_getElem hk
 have hm := h.1 _ (List.getElem_mem hk)
 have hh := hc k _ hv
 exact ⟨b, off, l[k], rfl, hlt, hv, List.getElem_mem hk, hm.1, hm.2, hh 0 (by omega), hh 1 (by omega), hh 2 (by omega), hh 3 (by omega), hh 4 (by omega), hh 5 (by omega), hh 6 (by omega), hh 7 (by omega)⟩
theorem blkA {w : World} {b : Nat} {d k tb : Int} {A : Option Addr} {l c : Nat} {n m q : Int} {nm : ByteArray} {t : TypeId} (h : Blk w b #[.int .u8 d, .int .u8 k, .int .i64 tb, .slice A l c, .int .i64 n, .int .i64 m, .int .i64 q, .string nm] t) :
 b < w.heap.size ∧ w.cell? ⟨b, 0, none⟩ = some (.int .u8 d) ∧ w.cell? ⟨b, 1, none⟩ = some (.int .u8 k) ∧ w.cell? ⟨b, 2, none⟩ = some (.int .i64 tb) ∧ w.cell? ⟨b, 3, none⟩ = some (.slice A l c) ∧ w.cell? ⟨b, 4, none⟩ = some (.int .i64 n) ∧ w.cell? ⟨b, 5, none⟩ = some (.int .i64 m) ∧ w.cell? ⟨b, 6, none⟩ = some (.int .i64 q) ∧ w.cell? ⟨b, 7, none⟩ = some (.string nm) := by
 have e0 := h.cell 0
 have e1 := h.cell 1
 have e2 := h.cell 2
 have e3 := h.cell 3
 have e4 := h.cell 4
 have e5 := h.cell 5
 have e6 := h.cell 6
 have e7 := h.cell 7
 simp only [List.getElem?_toArray, List.getElem?_cons_zero, List.getElem?_cons_succ] at e0 e1 e2 e3 e4 e5 e6 e7
 exact ⟨h.lt, e0, e1, e2, e3, e4, e5, e6, e7⟩
set_option maxRecDepth 100000 in
set_option maxHeartbeats 1600000 in
theorem same1_yes (a : Ac) (A B : Option Addr) (c e : Nat) (w : World) (hr : VRow w A a.row) (hs : VRow w B a.row) :
 Calls Tryz.prog 23 #[a.agg A c, a.agg B e] w fun r w' => r = .returned (.bool true) ∧ Below w.heap.size w w' := by
 have HS := hd_ (fun (W : World) (hW : Below w.heap.size w W) => same_any a.row a.row A B c e W (hr.ext hW) (hs.ext hW))
 simp only [decide_true] at HS
 clear hr hs
 obtain ⟨d, k, tb, row, n, m, q, nm⟩ := a
 unfold Ac.agg
 simp only at HS ⊢
 go_enter Tryz.func23, Tryz.ntmps23
 go_wp2_with fail
 refine (HS.out _ (by repeat (first | exact Below.refl _ _ | assumption | refine Below.drew ?_ | refine below_drewN ?_ _ | refine Below.alloc ?_ (by simp <;> omega) _))).mono ?_
 rintro r w1 ⟨rfl, hb⟩
 go_wp2_with fail
 go_ret
 exact ⟨rfl, ((by repeat (first | exact Below.refl _ _ | assumption | refine Below.drew ?_ | refine below_drewN ?_ _ | refine Below.alloc ?_ (by simp <;> omega) _)) : Below w.heap.size w ((w.alloc (.cells #[.int .u8 d, .int .u8 k, .int .i64 tb, .slice A row.length c, .int .i64 n, .int .i64 m, .int .i64 q, .string nm] 42)).alloc (.cells #[.int .u8 d, .int .u8 k, .int .i64 tb, .slice B row.length e, .int .i64 n, .int .i64 m, .int .i64 q, .string nm] 42))).trans (hb.mono (by simp; omega))⟩
def TellP (o : Option (List (List UInt8))) (B : Nat) (r : Ending) (w' : World) : Prop := match o with
 | some ws => ∃ lv, r = .returned lv ∧ w'.ownsRow B 9 1 lv ws.length (wsC ws)
 | none => r = gaveW
def opPre (a : Ac) : Prop := (1 ≤ a.k ∧ a.k ≤ 3) ∧ a.row.length ≤ 8 ∧ a.n = 0 ∧ a.m = 0 ∧ a.q = 0 ∧ a.nm.size = 0
theorem opB_pre {a : Ac} : opB a = true ↔ (opPre a ∧ a.row.all mayB = true) := by
 unfold opB opPre
 simp only [Bool.and_eq_true, decide_eq_true_eq]
 constructor
 · rintro ⟨h1, h2, ⟨h3, h4, h5⟩, h6, h7⟩; exact ⟨⟨h1, h2, h3, h4, h5, h6⟩, h7⟩
 · rintro ⟨⟨h1, h2, h3, h4, h5, h6⟩, h7⟩; exact ⟨h1, h2, ⟨h3, h4, h5⟩, h6, h7⟩
theorem actW_op {a : Ac} (hd : a.d = 2) : actW a = if opB a then some (opW a.k :: Lib.itoa a.tb :: a.row.map valW) else none := by
 unfold actW; rw [if_pos hd]
theorem actW_pre {a : Ac} (hd : a.d = 2) (h : ¬ opPre a) : actW a = none := by
 rw [actW_op hd, if_neg]
 intro e
 exact h (opB_pre.1 e).1
set_option maxRecDepth 100000 in
set_option maxHeartbeats 3200000 in
theorem tell_pre (a : Ac) (hd : a.d = 2) (hn : ¬ opPre a) (A : Option Addr) (c : Nat) (w : World) :
 Calls Tryz.prog 40 #[a.agg A c] w fun r w' => TellP (actW a) w.heap.size r w' ∧ Below w.heap.size w w' := by
 have hN := actW_pre hd hn
 obtain ⟨d, k, tb, row, n, m, q, nm⟩ := a
 generalize actW ⟨d, k, tb, row, n, m, q, nm⟩ = O at hN
 have HN := hd_ hN
 simp only at hd
 subst hd
 unfold opPre at hn
 simp only at hn
 unfold Ac.agg
 simp only
 clear hN
 by_cases k1 : 1 ≤ k
 · by_cases k3 : k ≤ 3
   · by_cases hl : row.length ≤ 8
     · have hlI : (row.length : Int) ≤ 8 := by omega
       by_cases h1 : n = 0
       · subst h1
         by_cases h2 : m = 0
         · subst h2
           by_cases h3 : q = 0
           · subst h3
             by_cases h4 : nm.size = 0
             · exact absurd ⟨⟨k1, k3⟩, hl, rfl, rfl, rfl, h4⟩ hn
             · have hem := txt_empty (t := nm)
               rw [decide_eq_false h4] at hem
               clear hn
               go_enter Tryz.func40, Tryz.ntmps40
               go_wp2_with fail
               refine (need_no _).mono ?_
               rintro r w2 ⟨rfl, rfl⟩
               unfold gaveW
               go_wp2_with fail
               exact ⟨rfl, by rw [HN.out]; rfl, (by repeat (first | exact Below.refl _ _ | assumption | refine Below.drew ?_ | refine below_drewN ?_ _ | refine Below.alloc ?_ (by simp <;> omega) _))⟩
           · have hb : (q == 0) = false := by simpa using h3
             clear hn
             go_enter Tryz.func40, Tryz.ntmps40
             go_wp2_with fail
             refine (need_no _).mono ?_
             rintro r w2 ⟨rfl, rfl⟩
             unfold gaveW
             go_wp2_with fail
             exact ⟨rfl, by rw [HN.out]; rfl, (by repeat (first | exact Below.refl _ _ | assumption | refine Below.drew ?_ | refine below_drewN ?_ _ | refine Below.alloc ?_ (by simp <;> omega) _))⟩
         · have hb : (m == 0) = false := by simpa using h2
           clear hn
           go_enter Tryz.func40, Tryz.ntmps40
           go_wp2_with fail
           refine (need_no _).mono ?_
           rintro r w2 ⟨rfl, rfl⟩
           unfold gaveW
           go_wp2_with fail
           exact ⟨rfl, by rw [HN.out]; rfl, (by repeat (first | exact Below.refl _ _ | assumption | refine Below.drew ?_ | refine below_drewN ?_ _ | refine Below.alloc ?_ (by simp <;> omega) _))⟩
       · have hb : (n == 0) = false := by simpa using h1
         clear hn
         go_enter Tryz.func40, Tryz.ntmps40
         go_wp2_with fail
         refine (need_no _).mono ?_
         rintro r w2 ⟨rfl, rfl⟩
         unfold gaveW
         go_wp2_with fail
         exact ⟨rfl, by rw [HN.out]; rfl, (by repeat (first | exact Below.refl _ _ | assumption | refine Below.drew ?_ | refine below_drewN ?_ _ | refine Below.alloc ?_ (by simp <;> omega) _))⟩
     · have hlI : ¬ (row.length : Int) ≤ 8 := by omega
       clear hn
       go_enter Tryz.func40, Tryz.ntmps40
       go_wp2_with fail
       refine (need_no _).mono ?_
       rintro r w2 ⟨rfl, rfl⟩
       unfold gaveW
       go_wp2_with fail
       exact ⟨rfl, by rw [HN.out]; rfl, (by repeat (first | exact Below.refl _ _ | assumption | refine Below.drew ?_ | refine below_drewN ?_ _ | refine Below.alloc ?_ (by simp <;> omega) _))⟩
   · clear hn
     go_enter Tryz.func40, Tryz.ntmps40
     go_wp2_with fail
     refine (need_no _).mono ?_
     rintro r w2 ⟨rfl, rfl⟩
     unfold gaveW
     go_wp2_with fail
     exact ⟨rfl, by rw [HN.out]; rfl, (by repeat (first | exact Below.refl _ _ | assumption | refine Below.drew ?_ | refine below_drewN ?_ _ | refine Below.alloc ?_ (by simp <;> omega) _))⟩
 · clear hn
   go_enter Tryz.func40, Tryz.ntmps40
   go_wp2_with fail
   refine (need_no _).mono ?_
   rintro r w2 ⟨rfl, rfl⟩
   unfold gaveW
   go_wp2_with fail
   exact ⟨rfl, by rw [HN.out]; rfl, (by repeat (first | exact Below.refl _ _ | assumption | refine Below.drew ?_ | refine below_drewN ?_ _ | refine Below.alloc ?_ (by simp <;> omega) _))⟩
end Go.Proofs.YtfekohonidggjaaGreatDoor
