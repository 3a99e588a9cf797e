/- The reference's side of events: Copy, Same; the statements' long. -/
import Derived.Test.YtjdfodmialhakaaDoorMk2
import Derived.Test.YtjdfodmialhakaaDoorPutBlk
import Derived.Test.YtjdfodmialhakaaDoorRegApp
namespace Go.Proofs.YtjdfodmialhakaaDoor
open Go.RowKit

theorem info_Ch : (Tryd.prog.info? 50).map (fun i => (i.zero, i.size, i.bytes)) = some (some (.agg #[.int .u8 0, .int .i64 0, .slice none 0 0, .slice none 0 0]), 4, 64) := by kernel_rfl
set_option maxRecDepth 100000 in
set_option maxHeartbeats 400000 in
theorem copy15_one (k tb : Int) (A B : Option Addr) (c d : Nat) (bf af : List V) (g cp : Nat) (w : World) (hg : Blk w g #[.int .u8 k, .int .i64 tb, .slice A bf.length c, .slice B af.length d] 50) (hl : VRow w A bf) (hm : VRow w B af) (h1 : bf.length ≤ 2932031007402) (h2 : af.length ≤ 2932031007402) :
    Calls Tryd.prog 127 #[.slice (some ⟨g, 0, none⟩) 1 cp] w fun r w' => ∃ g' cap A' c' B' d', r = .returned (.slice (some ⟨g', 0, none⟩) 1 cap) ∧ (∀ i v, [Value.int .u8 k, .int .i64 tb, .slice A' bf.length c', .slice B' af.length d'][i]? = some v → w'.cell? ⟨g', i, none⟩ = some v) ∧ (∃ b1, w'.ownsRow b1 24 4 (.slice A' bf.length c') bf.length (rowCells bf)) ∧ (∃ b2, w'.ownsRow b2 24 4 (.slice B' af.length d') af.length (rowCells af)) ∧ Below w.heap.size w w' := by
  obtain ⟨y0, y1, y2, y3⟩ := (mk4 hg).2
  have glt := hg.lt
  have HCB := Lib.hid (fun (W : World) (hW : Below w.heap.size w W) => copy_any bf A c W (hl.ext hW) h1)
  have HCA := Lib.hid (fun (W : World) (hW : Below w.heap.size w W) => copy_any af B d W (hm.ext hW) h2)
  clear hl hm hg
  go_enter Tryd.func127, Tryd.ntmps127
  go_wp2_with fail
  refine wp_loop_rounds 2 ?_
  rw [rounds_succ]
  go_wp2_with fail
  have hA0 : Below w.heap.size w (w.alloc (.cells #[.int .u8 k, .int .i64 tb, .slice A bf.length c, .slice B af.length d] 50)) := (by repeat (first | exact Below.refl _ _ | assumption | refine Below.drew ?_ | refine below_drewN ?_ _ | refine Below.alloc ?_ (by simp <;> omega) _))
  refine (HCB.out _ hA0).mono ?_
  rintro r w1 ⟨A', c', rfl, ho1, hb1⟩
  have hBk := (Blk.new w #[.int .u8 k, .int .i64 tb, .slice A bf.length c, .slice B af.length d] 50).ext hb1
  have hC1 := bt hA0 hb1
  clear hA0 hb1
  obtain ⟨w3, rfl, lt⟩ := blk_put hBk
  obtain ⟨pc, pf, pS⟩ := putBlk_facts (w := w3) 50 lt
  have HO1 := Lib.hid (own_put ho1 lt (by decide) #[.int .u8 k, .int .i64 tb, .slice A' bf.length c', .slice B af.length d])
  have hC2 := putBlk_belows hC1 (Nat.le_refl _) #[.int .u8 k, .int .i64 tb, .slice A' bf.length c', .slice B af.length d]
  clear hBk ho1 hC1
  go_wp2_with fail
  refine (HCA.out _ hC2).mono ?_
  rintro r w4 ⟨B', d', rfl, ho2, hb2⟩
  have hBk := (putBlk_blk #[.int .u8 k, .int .i64 tb, .slice A' bf.length c', .slice B af.length d] 50 lt).ext hb2
  have ho1 := own_below HO1.out hb2
  have hC3 := bt hC2 hb2
  clear hb2 hC2 pc pf pS lt HO1
  obtain ⟨w5, rfl, lt⟩ := blk_put hBk
  obtain ⟨pc, pf, pS⟩ := putBlk_facts (w := w5) 50 lt
  have HO1 := Lib.hid (own_put ho1 lt (by decide) #[.int .u8 k, .int .i64 tb, .slice A' bf.length c', .slice B' af.length d'])
  have HO2 := Lib.hid (own_put ho2 lt (by decide) #[.int .u8 k, .int .i64 tb, .slice A' bf.length c', .slice B' af.length d'])
  have hC4 := putBlk_belows hC3 (Nat.le_refl _) #[.int .u8 k, .int .i64 tb, .slice A' bf.length c', .slice B' af.length d']
  clear hBk ho1 ho2 hC3
  obtain ⟨i0, hi0, hz0, hz1, hz2⟩ := info_parts info_Ch
  obtain ⟨W, hW⟩ : ∃ W, W = putBlk w5 w.heap.size #[.int .u8 k, .int .i64 tb, .slice A' bf.length c', .slice B' af.length d'] 50 := ⟨_, rfl⟩
  have hsz := hC4.size
  go_wp2_with (at_builtin; refine wpList_append_own _ rfl _ _ 168 rfl w.heap.size 50 i0 _ 4 64 Tryd.underlying168 hi0 hz0 hz1 hz2 rfl (by decide) _ 0 [] rfl (World.ownsRow_nil _ _ _ _) ⟨(putBlk w5 w.heap.size #[.int .u8 k, .int .i64 tb, .slice A' bf.length c', .slice B' af.length d'] 50).heap.size, 0, none⟩ 1 1 [.int .u8 k, .int .i64 tb, .slice A' bf.length c', .slice B' af.length d'] rfl rfl ?c1 ?c2 ?c3 ?c4 ?c5 ?_)
  case c1 => exact cells_new4 _ _ _ _ _ _
  case c2 => simp [Value.oneCell']
  case c3 => simp only [maxLen]; omega
  case c4 => omega
  case c5 => simp; omega
  intro v' w6 hown6 hg6 _
  have hB6 : Below (putBlk w5 w.heap.size #[.int .u8 k, .int .i64 tb, .slice A' bf.length c', .slice B' af.length d'] 50).heap.size (putBlk w5 w.heap.size #[.int .u8 k, .int .i64 tb, .slice A' bf.length c', .slice B' af.length d'] 50) w6 :=
    ((Below.refl _ _).alloc (Nat.le_refl _) _).grown hg6 (by simp) (by simp [Value.ownBlock])
  have HR1 := Lib.hid (own_below HO1.out hB6)
  have HR2 := Lib.hid (own_below HO2.out hB6)
  have HC6 := Lib.hid (bt hC4 hB6)
  obtain ⟨g', cap, hv, _, _⟩ := hown6.form (by omega)
  subst hv
  have HCL := Lib.hid (hown6.cells (g := g') rfl)
  clear hown6 hg6 hB6 hC4 HO1 HO2 pc pf pS hW
  go_wp2_with fail
  rw [rounds_succ]
  go_wp2_with fail
  go_ret
  refine ⟨g', cap, A', c', B', d', rfl, fun i v hi => ?_, ⟨_, HR1.out⟩, ⟨_, HR2.out⟩, HC6.out⟩
  have := HCL.out i v (by simpa using hi)
  have e : (⟨g', 0, none⟩ : Addr).add i = ⟨g', i, none⟩ := by
    unfold Addr.add; split
    · next h0 => subst h0; rfl
    · simp
  rwa [e] at this
/-- What Copy gives: the same event, its rows elsewhere. -/
def CopyPost (e : Ev) (w : World) (r : Ending) (w' : World) : Prop :=
  ∃ A c B d, r = .returned (.agg (evCells e (.slice A e.bf.length c) (.slice B e.af.length d))) ∧ VRow w' A e.bf ∧ VRow w' B e.af ∧ Below w.heap.size w w'
set_option maxRecDepth 100000 in
set_option maxHeartbeats 400000 in
theorem copy16_any (e : Ev) (A B : Option Addr) (c d : Nat) (w : World) (hl : VRow w A e.bf) (hm : VRow w B e.af) (h1 : e.bf.length ≤ 2932031007402) (h2 : e.af.length ≤ 2932031007402) :
    Calls Tryd.prog 57 #[.agg (evCells e (.slice A e.bf.length c) (.slice B e.af.length d))] w (CopyPost e w) := by
  obtain ⟨tx, tot, nth, k, tb, bf, af⟩ := e
  simp only at hl hm h1 h2
  have HC := Lib.hid (fun (g cp : Nat) (W : World) (hW : Below w.heap.size w W) (hg : Blk W g #[.int .u8 k, .int .i64 tb, .slice A bf.length c, .slice B af.length d] 50) => copy15_one k tb A B c d bf af g cp W hg (hl.ext hW) (hm.ext hW) h1 h2)
  have b1 := hl.2.1
  have b2 := hm.2.1
  have HW1 := Lib.hid hl.1
  have HW2 := Lib.hid hm.1
  clear hl hm h1 h2
  simp only [evCells]
  go_enter Tryd.func57, Tryd.ntmps57
  go_wp2_with fail
  have hB0 : Below w.heap.size w (((w.alloc (.cells #[.int .u64 tx, .int .i64 tot, .int .i64 nth, .int .u8 k, .int .i64 tb, .slice A bf.length c, .slice B af.length d] 52)).alloc (.cells #[.int .u64 0, .int .i64 0, .int .i64 0, .int .u8 0, .int .i64 0, .slice none 0 0, .slice none 0 0] 52)).alloc (.cells #[.int .u8 k, .int .i64 tb, .slice A bf.length c, .slice B af.length d] 50)) := (by repeat (first | exact Below.refl _ _ | assumption | refine Below.drew ?_ | refine below_drewN ?_ _ | refine Below.alloc ?_ (by simp <;> omega) _))
  have hP0 : Blk (((w.alloc (.cells #[.int .u64 tx, .int .i64 tot, .int .i64 nth, .int .u8 k, .int .i64 tb, .slice A bf.length c, .slice B af.length d] 52)).alloc (.cells #[.int .u64 0, .int .i64 0, .int .i64 0, .int .u8 0, .int .i64 0, .slice none 0 0, .slice none 0 0] 52)).alloc (.cells #[.int .u8 k, .int .i64 tb, .slice A bf.length c, .slice B af.length d] 50)) w.heap.size #[.int .u64 tx, .int .i64 tot, .int .i64 nth, .int .u8 k, .int .i64 tb, .slice A bf.length c, .slice B af.length d] 52 := (by repeat (first | exact Blk.at (by simp) | assumption | refine Blk.drew ?_ | refine Blk.old ?_ _))
  have hR0 : Blk (((w.alloc (.cells #[.int .u64 tx, .int .i64 tot, .int .i64 nth, .int .u8 k, .int .i64 tb, .slice A bf.length c, .slice B af.length d] 52)).alloc (.cells #[.int .u64 0, .int .i64 0, .int .i64 0, .int .u8 0, .int .i64 0, .slice none 0 0, .slice none 0 0] 52)).alloc (.cells #[.int .u8 k, .int .i64 tb, .slice A bf.length c, .slice B af.length d] 50)) (w.heap.size + 1) #[.int .u64 0, .int .i64 0, .int .i64 0, .int .u8 0, .int .i64 0, .slice none 0 0, .slice none 0 0] 52 := (by repeat (first | exact Blk.at (by simp) | assumption | refine Blk.drew ?_ | refine Blk.old ?_ _))
  have hG0 : Blk (((w.alloc (.cells #[.int .u64 tx, .int .i64 tot, .int .i64 nth, .int .u8 k, .int .i64 tb, .slice A bf.length c, .slice B af.length d] 52)).alloc (.cells #[.int .u64 0, .int .i64 0, .int .i64 0, .int .u8 0, .int .i64 0, .slice none 0 0, .slice none 0 0] 52)).alloc (.cells #[.int .u8 k, .int .i64 tb, .slice A bf.length c, .slice B af.length d] 50)) (w.heap.size + 1 + 1) #[.int .u8 k, .int .i64 tb, .slice A bf.length c, .slice B af.length d] 50 := (by repeat (first | exact Blk.at (by simp) | assumption | refine Blk.drew ?_ | refine Blk.old ?_ _))
  refine (HC.out _ _ _ hB0 hG0).mono ?_
  rintro r w1 ⟨g', cap, A', c', B', d', rfl, hcl, ⟨b1', hr1⟩, ⟨b2', hr2⟩, hb1⟩
  have hC1 := bt hB0 hb1
  have hP1 := hP0.ext hb1
  have hR1 := hR0.ext hb1
  have z0 := hcl 0 _ rfl
  have z1 := hcl 1 _ rfl
  have z2 := hcl 2 _ rfl
  have z3 := hcl 3 _ rfl
  clear hcl hb1 hB0 hP0 hR0 hG0 HC
  obtain ⟨w3, rfl, lt⟩ := blk_put hP1
  obtain ⟨pc, pf, pS⟩ := putBlk_facts (w := w3) 52 lt
  have hR2 := putBlk_old hR1 (by omega) #[.int .u64 tx, .int .i64 tot, .int .i64 nth, .int .u8 k, .int .i64 tb, .slice A' bf.length c', .slice B' af.length d']
  have hP2 := putBlk_blk #[.int .u64 tx, .int .i64 tot, .int .i64 nth, .int .u8 k, .int .i64 tb, .slice A' bf.length c', .slice B' af.length d'] 52 lt
  have hC2 := putBlk_belows hC1 (Nat.le_refl _) #[.int .u64 tx, .int .i64 tot, .int .i64 nth, .int .u8 k, .int .i64 tb, .slice A' bf.length c', .slice B' af.length d']
  have hr1' := own_put hr1 lt (by decide) #[.int .u64 tx, .int .i64 tot, .int .i64 nth, .int .u8 k, .int .i64 tb, .slice A' bf.length c', .slice B' af.length d']
  have hr2' := own_put hr2 lt (by decide) #[.int .u64 tx, .int .i64 tot, .int .i64 nth, .int .u8 k, .int .i64 tb, .slice A' bf.length c', .slice B' af.length d']
  have HR1 := Lib.hid hr1'
  have HR2 := Lib.hid hr2'
  have HR := Lib.hid hR2
  have HP := Lib.hid hP2
  have HC2 := Lib.hid hC2
  clear hr1 hr2 hr1' hr2' hR2 hP2 hR1 hP1 hC1 hC2
  go_upto_region 2 with fail
  generalize putBlk w3 w.heap.size #[.int .u64 tx, .int .i64 tot, .int .i64 nth, .int .u8 k, .int .i64 tb, .slice A' bf.length c', .slice B' af.length d'] 52 = W2 at HR1 HR2 HR HP HC2 ⊢
  clear pc pf pS lt z0 z1 z2 z3
  obtain ⟨y0, y1, y2, y3, y4, y5, y6⟩ := blk7 HP.out
  have hRR := HR.out
  clear HR HP
  obtain ⟨w4, rfl, lt⟩ := blk_put hRR
  obtain ⟨pc, pf, pS⟩ := putBlk_facts (w := w4) 52 lt
  clear hRR
  go_wp2_with fail
  refine bodyPost_ret (v := .agg (evCells ⟨tx, tot, nth, k, tb, bf, af⟩ (.slice A' bf.length c') (.slice B' af.length d'))) (by simp [results, Tryd.results57, go_sem, evCells, pc]) rfl ?_
  exact ⟨A', c', B', d', rfl, (VRow.of_own HW1.out (by omega) (own_put HR1.out lt (by decide) _)).1, (VRow.of_own HW2.out (by omega) (own_put HR2.out lt (by decide) _)).1, putBlk_belows HC2.out (by omega) _⟩
set_option maxRecDepth 100000 in
set_option maxHeartbeats 800000 in
theorem same15_one (k tb : Int) (A B A2 B2 : Option Addr) (c d c2 d2 : Nat) (bf af : List V) (g cp g2 cp2 : Nat) (w : World) (hg : Blk w g #[.int .u8 k, .int .i64 tb, .slice A bf.length c, .slice B af.length d] 50) (hg2 : Blk w g2 #[.int .u8 k, .int .i64 tb, .slice A2 bf.length c2, .slice B2 af.length d2] 50)
    (hl : VRow w A bf) (hm : VRow w B af) (hl2 : VRow w A2 bf) (hm2 : VRow w B2 af) :
    Calls Tryd.prog 131 #[.slice (some ⟨g, 0, none⟩) 1 cp, .slice (some ⟨g2, 0, none⟩) 1 cp2] w fun r w' => r = .returned (.bool true) ∧ Below w.heap.size w w' := by
  have HCB := Lib.hid (fun (W : World) (hW : Below w.heap.size w W) => same_self bf A A2 c c2 W (hl.ext hW) (hl2.ext hW))
  have HCA := Lib.hid (fun (W : World) (hW : Below w.heap.size w W) => same_self af B B2 d d2 W (hm.ext hW) (hm2.ext hW))
  have HG := Lib.hid hg
  have HG2 := Lib.hid hg2
  have b1 := hl.2.1
  have b2 := hm.2.1
  clear hl hm hl2 hm2 hg hg2
  go_enter Tryd.func131, Tryd.ntmps131
  go_wp2_with fail
  refine wp_loop_rounds 2 ?_
  rw [rounds_succ]
  go_wp2_with fail
  refine region_grow [false, false, false, false, false, false, false, false, false, false, false, false, false, false, false, false, false, true, true, true, true, true, true, true, true, true, true, true, true, true, true, true, true, true, true, true, true, true, true, true, true, true, true, true, true, true, true, true, true, true, true, true, true, true, true, true, true, true, true, true, true, true, true, true, true, true, true, true, true] [17, 18, 19, 20, 21, 22, 23, 24, 25, 26, 27, 28, 29, 30, 31, 32, 33, 34, 35, 36, 37, 38, 39, 40, 41, 42, 43, 44, 45, 46, 47, 48, 49, 50, 51, 52, 53, 54, 55, 56, 57, 58, 59, 60, 61, 62, 63, 64, 65, 66, 67, 68] [.val (.slice (some ⟨g, 0, none⟩) 1 cp), .val (.int .i64 0), .val (.pointer (some ⟨g, 0, none⟩)), .val (.pointer (some ⟨g, 0, none⟩)), .val (.int .u8 k), .val (.slice (some ⟨g2, 0, none⟩) 1 cp2), .val (.int .i64 0), .val (.pointer (some ⟨g2, 0, none⟩)), .val (.pointer (some ⟨g2, 0, none⟩)), .val (.int .u8 k), .val (.bool false), .val (.bool false), .val (.slice (some ⟨g, 0, none⟩) 1 cp), .val (.int .i64 0), .val (.pointer (some ⟨g, 0, none⟩)), .val (.pointer (some ⟨g, 1, none⟩)), .val (.int .i64 tb), .val (.slice (some ⟨g2, 0, none⟩) 1 cp2), .val (.int .i64 0), .val (.pointer (some ⟨g2, 0, none⟩)), .val (.pointer (some ⟨g2, 1, none⟩)), .val (.int .i64 tb), .val (.bool false), .val (.bool false), .val (.bool false), .val (.slice (some ⟨g, 0, none⟩) 1 cp), .val (.int .i64 0), .val (.pointer (some ⟨g, 0, none⟩)), .val (.pointer (some ⟨g, 2, none⟩)), .val (.slice A bf.length c), .val (.slice (some ⟨g2, 0, none⟩) 1 cp2), .val (.int .i64 0), .val (.pointer (some ⟨g2, 0, none⟩)), .val (.pointer (some ⟨g2, 2, none⟩)), .val (.slice A2 bf.length c2), .val (.bool true), .val (.bool false), .val (.bool false), .val (.bool false), .val (.slice (some ⟨g, 0, none⟩) 1 cp), .val (.int .i64 0), .val (.pointer (some ⟨g, 0, none⟩)), .val (.pointer (some ⟨g, 3, none⟩)), .val (.slice B af.length d), .val (.slice (some ⟨g2, 0, none⟩) 1 cp2), .val (.int .i64 0), .val (.pointer (some ⟨g2, 0, none⟩)), .val (.pointer (some ⟨g2, 3, none⟩)), .val (.slice B2 af.length d2), .val (.bool true), .val (.bool false), .val (.bool false)] [51] (by kernel_rfl) (by kernel_rfl) (by kernel_rfl) (by kernel_rfl) (by kernel_rfl) ⟨?_, ?_, ?_, ?_, ?_, ?_, ?_, ?_, ?_, ?_, ?_, ?_, ?_, ?_, ?_, ?_, ?_, ?_, ?_, ?_, ?_, ?_, ?_, ?_, ?_, ?_, ?_, ?_, ?_, ?_, ?_, ?_, ?_, ?_, ?_, ?_, ?_, ?_, ?_, ?_, ?_, ?_, ?_, ?_, ?_, ?_, ?_, ?_, ?_, ?_, ?_, ?_, trivial⟩ ?done
  case done =>
    intro x w2 hb2
    simp only [StepGoal, overlay, upd, cond_true, cond_false, List.getD_cons_zero, List.getD_cons_succ, Nat.zero_add, Nat.reduceAdd, Nat.reduceEqDiff, reduceIte]
    go_wp2_with fail
    rw [rounds_succ]
    go_wp2_with fail
    go_ret
    exact ⟨rfl, hb2⟩
  all_goals
    intro x w2 hb2
    intro K hK
    obtain ⟨_, y0, y1, y2, y3⟩ := mk4 (HG.out.ext hb2)
    obtain ⟨_, u0, u1, u2, u3⟩ := mk4 (HG2.out.ext hb2)
    rw [if_pos (by rfl)]; simp only [overlay, upd, cond_true, cond_false, List.getD_cons_zero, List.getD_cons_succ, Nat.reduceEqDiff, reduceIte]
    go_simp
    first
      | exact hK.out _ _ (Below.refl _ _) rfl
      | ((with_reducible refine (HCB.out _ hb2).mono ?_); rintro e wa ⟨rfl, hba⟩; go_wp2_with fail; exact hK.out _ _ hba rfl)
      | ((with_reducible refine (HCA.out _ hb2).mono ?_); rintro e wa ⟨rfl, hba⟩; go_wp2_with fail; exact hK.out _ _ hba rfl)
set_option maxRecDepth 100000 in
set_option maxHeartbeats 800000 in
/-- Same of one event, twice. -/
theorem same16_self (e : Ev) (A B A2 B2 : Option Addr) (c d c2 d2 : Nat) (w : World) (hl : VRow w A e.bf) (hm : VRow w B e.af) (hl2 : VRow w A2 e.bf) (hm2 : VRow w B2 e.af) :
    Calls Tryd.prog 60 #[.agg (evCells e (.slice A e.bf.length c) (.slice B e.af.length d)), .agg (evCells e (.slice A2 e.bf.length c2) (.slice B2 e.af.length d2))] w fun r w' => r = .returned (.bool true) ∧ Below w.heap.size w w' := by
  obtain ⟨tx, tot, nth, k, tb, bf, af⟩ := e
  simp only at hl hm hl2 hm2
  have HC := Lib.hid (fun (g cp g2 cp2 : Nat) (W : World) (hW : Below w.heap.size w W) (hg) (hg2) => same15_one k tb A B A2 B2 c d c2 d2 bf af g cp g2 cp2 W hg hg2 (hl.ext hW) (hm.ext hW) (hl2.ext hW) (hm2.ext hW))
  have b1 := hl.2.1
  have b2 := hm.2.1
  clear hl hm hl2 hm2
  simp only [evCells]
  go_enter Tryd.func60, Tryd.ntmps60
  go_wp2_with fail
  refine (HC.out _ _ _ _ _ ?h1 ?h2 ?h3).mono ?_
  case h1 => exact (by repeat (first | exact Below.refl _ _ | assumption | refine Below.drew ?_ | refine below_drewN ?_ _ | refine Below.alloc ?_ (by simp <;> omega) _))
  case h2 => exact (by repeat (first | exact Blk.at (by simp) | assumption | refine Blk.drew ?_ | refine Blk.old ?_ _))
  case h3 => exact (by repeat (first | exact Blk.at (by simp) | assumption | refine Blk.drew ?_ | refine Blk.old ?_ _))
  rintro r w1 ⟨rfl, hb1⟩
  have hbw : Below w.heap.size w w1 := bt (by repeat (first | exact Below.refl _ _ | assumption | refine Below.drew ?_ | refine below_drewN ?_ _ | refine Below.alloc ?_ (by simp <;> omega) _)) hb1
  clear hb1 HC
  go_wp2_with fail
  go_ret
  exact ⟨rfl, hbw⟩
set_option maxRecDepth 100000 in
theorem long16_any (e : Ev) (A B : Option Addr) (c d : Nat) (w : World) (hl : VRow w A e.bf) (hm : VRow w B e.af) :
    Calls Tryd.prog 55 #[.agg (evCells e (.slice A e.bf.length c) (.slice B e.af.length d))] w fun r w' => r = .returned (.bool (decide (4000 < longN e.bf) || decide (4000 < longN e.af))) ∧ Below w.heap.size w w' := by
  obtain ⟨tx, tot, nth, k, tb, bf, af⟩ := e
  simp only at hl hm
  have HB := Lib.hid (fun (W : World) (hW : Below w.heap.size w W) => long_any bf A c W (hl.ext hW))
  have HA := Lib.hid (fun (W : World) (hW : Below w.heap.size w W) => long_any af B d W (hm.ext hW))
  have b1 := hl.2.1
  have b2 := hm.2.1
  clear hl hm
  simp only [evCells]
  generalize decide (4000 < longN bf) = x1 at HB
  generalize decide (4000 < longN af) = x2 at HA
  cases x1
  · go_enter Tryd.func55, Tryd.ntmps55
    go_wp2_with fail
    refine (HB.out _ (by repeat (first | exact Below.refl _ _ | assumption | refine Below.drew ?_ | refine below_drewN ?_ _ | refine Below.alloc ?_ (by simp <;> omega) _))).mono ?_
    rintro r w1 ⟨rfl, rfl⟩
    go_wp2_with fail
    refine (HA.out _ (by repeat (first | exact Below.refl _ _ | assumption | refine Below.drew ?_ | refine below_drewN ?_ _ | refine Below.alloc ?_ (by simp <;> omega) _))).mono ?_
    rintro r w1 ⟨rfl, rfl⟩
    go_wp2_with fail
    go_ret
    exact ⟨rfl, (by repeat (first | exact Below.refl _ _ | assumption | refine Below.drew ?_ | refine below_drewN ?_ _ | refine Below.alloc ?_ (by simp <;> omega) _))⟩
  · go_enter Tryd.func55, Tryd.ntmps55
    go_wp2_with fail
    refine (HB.out _ (by repeat (first | exact Below.refl _ _ | assumption | refine Below.drew ?_ | refine below_drewN ?_ _ | refine Below.alloc ?_ (by simp <;> omega) _))).mono ?_
    rintro r w1 ⟨rfl, rfl⟩
    go_wp2_with fail
    go_ret
    exact ⟨rfl, (by repeat (first | exact Below.refl _ _ | assumption | refine Below.drew ?_ | refine below_drewN ?_ _ | refine Below.alloc ?_ (by simp <;> omega) _))⟩
end Go.Proofs.YtjdfodmialhakaaDoor
