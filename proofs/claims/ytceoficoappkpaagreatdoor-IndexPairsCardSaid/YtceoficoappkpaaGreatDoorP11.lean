/- Texts joined by a tool: contracts and walks of this claim. -/
import Derived.Test.YtceoficoappkpaaGreatDoorP10
namespace Go.Proofs.YtceoficoappkpaaGreatDoor
open Go.RowKit
theorem info_Ch : (Tryz.prog.info? 27).map (fun i => (i.zero, i.size, i.bytes)) = some (some (.agg #[.int .u8 0, .int .i64 0, .slice none 0 0, .slice none 0 0]), 4, 64) := by kernel_rfl
set_option maxRecDepth 100000 in
set_option maxHeartbeats 400000 in
theorem copy15_one (k tb : Int) (A B : Option Addr) (c d : Nat) (bf af : List V) (g cp : Nat) (w : World) (hg : Blk w g #[.int .u8 k, .int .i64 tb, .slice A bf.length c, .slice B af.length d] 27) (hl : VRow w A bf) (hm : VRow w B af) (h1 : bf.length ≤ 2932031007402) (h2 : af.length ≤ 2932031007402) :
  Calls Tryz.prog 9 #[.slice (some ⟨g, 0, none⟩) 1 cp] w fun r w' => ∃ g' cap A' c' B' d', r = .returned (.slice (some ⟨g', 0, none⟩) 1 cap) ∧ (∀ i v, [Value.int .u8 k, .int .i64 tb, .slice A' bf.length c', .slice B' af.length d'][i]? = some v → w'.cell? ⟨g', i, none⟩ = some v) ∧ (∃ b1, w'.ownsRow b1 47 4 (.slice A' bf.length c') bf.length (rowCells bf)) ∧ (∃ b2, w'.ownsRow b2 47 4 (.slice B' af.length d') af.length (rowCells af)) ∧ Below w.heap.size w w' := by
 obtain ⟨y0, y1, y2, y3⟩ := (mk4 hg).2
 have glt := hg.lt
 have HCB := hd_ (fun (W : World) (hW : Below w.heap.size w W) => copy_any bf A c W (hl.ext hW) h1)
 have HCA := hd_ (fun (W : World) (hW : Below w.heap.size w W) => copy_any af B d W (hm.ext hW) h2)
 clear hl hm hg
 go_enter Tryz.func9, Tryz.ntmps9
 go_wp2_with fail
 refine wp_loop_rounds 2 ?_
 rw [rounds_succ]
 go_wp2_with fail
 have hA0 : Below w.heap.size w (w.alloc (.cells #[.int .u8 k, .int .i64 tb, .slice A bf.length c, .slice B af.length d] 27)) := bel1 _ _
 refine (HCB.out _ hA0).mono ?_
 rintro r w1 ⟨A', c', rfl, ho1, hb1⟩
 have hBk := (Blk.new w #[.int .u8 k, .int .i64 tb, .slice A bf.length c, .slice B af.length d] 27).ext hb1
 have hC1 := bt hA0 hb1
 clear hA0 hb1
 obtain ⟨w3, rfl, lt⟩ := blk_put hBk
 obtain ⟨pc, pf, pS⟩ := putBlk_facts (w := w3) 27 lt
 have HO1 := hd_ (own_put ho1 lt (by decide) #[.int .u8 k, .int .i64 tb, .slice A' bf.length c', .slice B af.length d])
 have hC2 := putBlk_belows hC1 (Nat.le_refl _) #[.int .u8 k, .int .i64 tb, .slice A' bf.length c', .slice B af.length d]
 clear hBk ho1 hC1
 go_wp2_with fail
 refine (HCA.out _ hC2).mono ?_
 rintro r w4 ⟨B', d', rfl, ho2, hb2⟩
 have hBk := (putBlk_blk #[.int .u8 k, .int .i64 tb, .slice A' bf.length c', .slice B af.length d] 27 lt).ext hb2
 have ho1 := own_below HO1.out hb2
 have hC3 := bt hC2 hb2
 clear hb2 hC2 pc pf pS lt HO1
 obtain ⟨w5, rfl, lt⟩ := blk_put hBk
 obtain ⟨pc, pf, pS⟩ := putBlk_facts (w := w5) 27 lt
 have HO1 := hd_ (own_put ho1 lt (by decide) #[.int .u8 k, .int .i64 tb, .slice A' bf.length c', .slice B' af.length d'])
 have HO2 := hd_ (own_put ho2 lt (by decide) #[.int .u8 k, .int .i64 tb, .slice A' bf.length c', .slice B' af.length d'])
 have hC4 := putBlk_belows hC3 (Nat.le_refl _) #[.int .u8 k, .int .i64 tb, .slice A' bf.length c', .slice B' af.length d']
 clear hBk ho1 ho2 hC3
 obtain ⟨i0, hi0, hz0, hz1, hz2⟩ := info_parts info_Ch
 obtain ⟨W, hW⟩ : ∃ W, W = putBlk w5 w.heap.size #[.int .u8 k, .int .i64 tb, .slice A' bf.length c', .slice B' af.length d'] 27 := ⟨_, rfl⟩
 have hsz := hC4.size
 go_wp2_with (at_builtin; refine wpList_append_own _ rfl _ _ 33 rfl w.heap.size 27 i0 _ 4 64 Tryz.underlying33 hi0 hz0 hz1 hz2 rfl (by decide) _ 0 [] rfl (World.ownsRow_nil _ _ _ _) ⟨(putBlk w5 w.heap.size #[.int .u8 k, .int .i64 tb, .slice A' bf.length c', .slice B' af.length d'] 27).heap.size, 0, none⟩ 1 1 [.int .u8 k, .int .i64 tb, .slice A' bf.length c', .slice B' af.length d'] rfl rfl ?c1 ?c2 ?c3 ?c4 ?c5 ?_)
 case c1 => exact cells_new4 _ _ _ _ _ _
 case c2 => simp [Value.oneCell']
 case c3 => simp only [maxLen]; omega
 case c4 => omega
 case c5 => simp; omega
 intro v' w6 hown6 hg6 _
 have hB6 : Below (putBlk w5 w.heap.size #[.int .u8 k, .int .i64 tb, .slice A' bf.length c', .slice B' af.length d'] 27).heap.size (putBlk w5 w.heap.size #[.int .u8 k, .int .i64 tb, .slice A' bf.length c', .slice B' af.length d'] 27) w6 :=
  ((Below.refl _ _).alloc (Nat.le_refl _) _).grown hg6 (by simp) (by simp [Value.ownBlock])
 have HR1 := hd_ (own_below HO1.out hB6)
 have HR2 := hd_ (own_below HO2.out hB6)
 have HC6 := hd_ (bt hC4 hB6)
 obtain ⟨g', cap, hv, _, _⟩ := hown6.form (by omega)
 subst hv
 have HCL := hd_ (hown6.cells (g := g') rfl)
 clear hown6 hg6 hB6 hC4 HO1 HO2 pc pf pS hW
 go_wp2_with fail
 rw [rounds_succ]
 go_wp2_with fail
 go_ret
 refine ⟨g', cap, A', c', B', d', rfl, fun i v hi => ?_, ⟨_, HR1.out⟩, ⟨_, HR2.out⟩, HC6.out⟩
 have := HCL.out i v (by simpa using hi)
 have e : (⟨g', 0, none⟩ : Addr).add i = ⟨g', i, none⟩ := by
  unfold Addr.add; split
  · next h0 => subst h0; rfl
  · simp
 rwa [e] at this
structure RowS where
 A : Option Addr
 c : Nat
 l : List V
def RowS.val (p : RowS) : Value := .slice p.A p.l.length p.c
def RowS.ok (p : RowS) (w : World) : Prop := (∀ v ∈ p.l, v.wf) ∧ p.l.length ≤ 8 ∧ ∃ base, w.ownsRow base 47 4 p.val p.l.length (rowCells p.l)
theorem RowS.ok.below {p : RowS} {w w' : World} (h : p.ok w) (hb : Below w.heap.size w w') : p.ok w' := by
 obtain ⟨h1, h2, base, h3⟩ := h
 exact ⟨h1, h2, base, own_below h3 hb⟩
theorem RowS.ok.grown {p : RowS} {w w' : World} {b : Nat} {e : TypeId} {sz n : Nat} {v : Value} {xs : List Value} (h : p.ok w) (ho : w.ownsRow b e sz v n xs) (hne : 47 ≠ e) (hg : w.grownBy w' v.ownBlock) : p.ok w' := by
 obtain ⟨h1, h2, base, h3⟩ := h
 exact ⟨h1, h2, base, own_grown h3 hg (own_far h3 ho hne)⟩
theorem RowS.ok.put {p : RowS} {w : World} {b : Nat} {cs : Array Value} {t : TypeId} (h : p.ok (putBlk w b cs t)) (hb : b < w.heap.size) (hne : 47 ≠ t) (ds : Array Value) : p.ok (putBlk w b ds t) := by
 obtain ⟨h1, h2, base, h3⟩ := h
 have hfar := own_ne h3 (putBlk_blk cs t hb) hne
 refine ⟨h1, h2, base, h3.1, ?_⟩
 rcases h3.2 with h0 | ⟨g, cap, cur, hv, hbg, hh, h4⟩
 · exact .inl h0
 · refine .inr ⟨g, cap, cur, hv, hbg, ?_, h4⟩
   have hgb : b ≠ g := by
    intro e
    apply hfar
    rw [hv, e]
    rfl
   unfold putBlk at hh ⊢
   simp only at hh ⊢
   rw [Array.getElem?_setIfInBounds_ne hgb] at hh ⊢
   exact hh
theorem VRow.nil (w : World) (A : Option Addr) : VRow w A [] := ⟨(fun v hv => by cases hv), (by simp), fun h => absurd rfl h⟩
theorem longN_le {l : List V} (h : ¬ 4000 < longN l) : l.length ≤ 4000 := by
 unfold longN at h
 have h2 : ∀ m : List V, 0 ≤ (m.map fun v => (v.t.size : Int) / 8).sum := by
  intro m
  induction m with
  | nil => simp
  | cons v m ih => simp only [List.map_cons, List.sum_cons]; omega
 have := h2 (l.take 100)
 omega
end Go.Proofs.YtceoficoappkpaaGreatDoor
namespace Go.Proofs.YtceoficoappkpaaGreatDoor
open Go.RowKit Go.Shelf
attribute [local go_sem] Oper.semAt_some

def ChCell (w : World) (b : Nat) (k tb : Int) (A1 A2 : Option Addr) (n1 n2 c1 c2 : Nat) : Prop :=
 b < w.heap.size ∧ w.cell? ⟨b, 0, none⟩ = some (.int .u8 k) ∧ w.cell? ⟨b, 1, none⟩ = some (.int .i64 tb) ∧ w.cell? ⟨b, 2, none⟩ = some (.slice A1 n1 c1) ∧ w.cell? ⟨b, 3, none⟩ = some (.slice A2 n2 c2)
theorem ChCell.ext {w w' : World} {b n1 n2 c1 c2 : Nat} {k tb : Int} {A1 A2 : Option Addr} (h : ChCell w b k tb A1 A2 n1 n2 c1 c2) (hb : Below w.heap.size w w') : ChCell w' b k tb A1 A2 n1 n2 c1 c2 := by
 obtain ⟨hlt, h1, h2, h3, h4⟩ := h
 exact ⟨Nat.lt_of_lt_of_le hlt hb.size, (hb.cell (p := ⟨b, _, none⟩) hlt).trans h1, (hb.cell (p := ⟨b, _, none⟩) hlt).trans h2, (hb.cell (p := ⟨b, _, none⟩) hlt).trans h3, (hb.cell (p := ⟨b, _, none⟩) hlt).trans h4⟩
set_option maxRecDepth 100000 in
set_option maxHeartbeats 800000 in
theorem same15_cells (k tb : Int) (A B A2 B2 : Option Addr) (c d c2 d2 : Nat) (bf af : List V) (g cp g2 cp2 : Nat) (w : World) (hg : ChCell w g k tb A B bf.length af.length c d) (hg2 : ChCell w g2 k tb A2 B2 bf.length af.length c2 d2)
  (hl : VRow w A bf) (hm : VRow w B af) (hl2 : VRow w A2 bf) (hm2 : VRow w B2 af) :
  Calls Tryz.prog 11 #[.slice (some ⟨g, 0, none⟩) 1 cp, .slice (some ⟨g2, 0, none⟩) 1 cp2] w fun r w' => r = .returned (.bool true) ∧ Below w.heap.size w w' := by
 have HCB := hd_ (fun (W : World) (hW : Below w.heap.size w W) => same_self bf A A2 c c2 W (hl.ext hW) (hl2.ext hW))
 have HCA := hd_ (fun (W : World) (hW : Below w.heap.size w W) => same_self af B B2 d d2 W (hm.ext hW) (hm2.ext hW))
 have HG := hd_ hg
 have HG2 := hd_ hg2
 have b1 := hl.2.1
 have b2 := hm.2.1
 clear hl hm hl2 hm2 hg hg2
 go_enter Tryz.func11, Tryz.ntmps11
 go_wp2_with fail
 refine wp_loop_rounds 2 ?_
 rw [rounds_succ]
 go_wp2_with fail
 refine region_grow [false, false, false, false, false, false, false, false, false, false, false, false, false, false, false, false, false, true, true, true, true, true, true, true, true, true, true, true, true, true, true, true, true, true, true, true, true, true, true, true, true, true, true, true, true, true, true, true, true, true, true, true, true, true, true, true, true, true, true, true, true, true, true, true, true, true, true, true, true] [17, 18, 19, 20, 21, 22, 23, 24, 25, 26, 27, 28, 29, 30, 31, 32, 33, 34, 35, 36, 37, 38, 39, 40, 41, 42, 43, 44, 45, 46, 47, 48, 49, 50, 51, 52, 53, 54, 55, 56, 57, 58, 59, 60, 61, 62, 63, 64, 65, 66, 67, 68] [.val (.slice (some ⟨g, 0, none⟩) 1 cp), .val (.int .i64 0), .val (.pointer (some ⟨g, 0, none⟩)), .val (.pointer (some ⟨g, 0, none⟩)), .val (.int .u8 k), .val (.slice (some ⟨g2, 0, none⟩) 1 cp2), .val (.int .i64 0), .val (.pointer (some ⟨g2, 0, none⟩)), .val (.pointer (some ⟨g2, 0, none⟩)), .val (.int .u8 k), .val (.bool false), .val (.bool false), .val (.slice (some ⟨g, 0, none⟩) 1 cp), .val (.int .i64 0), .val (.pointer (some ⟨g, 0, none⟩)), .val (.pointer (some ⟨g, 1, none⟩)), .val (.int .i64 tb), .val (.slice (some ⟨g2, 0, none⟩) 1 cp2), .val (.int .i64 0), .val (.pointer (some ⟨g2, 0, none⟩)), .val (.pointer (some ⟨g2, 1, none⟩)), .val (.int .i64 tb), .val (.bool false), .val (.bool false), .val (.bool false), .val (.slice (some ⟨g, 0, none⟩) 1 cp), .val (.int .i64 0), .val (.pointer (some ⟨g, 0, none⟩)), .val (.pointer (some ⟨g, 2, none⟩)), .val (.slice A bf.length c), .val (.slice (some ⟨g2, 0, none⟩) 1 cp2), .val (.int .i64 0), .val (.pointer (some ⟨g2, 0, none⟩)), .val (.pointer (some ⟨g2, 2, none⟩)), .val (.slice A2 bf.length c2), .val (.bool true), .val (.bool false), .val (.bool false), .val (.bool false), .val (.slice (some ⟨g, 0, none⟩) 1 cp), .val (.int .i64 0), .val (.pointer (some ⟨g, 0, none⟩)), .val (.pointer (some ⟨g, 3, none⟩)), .val (.slice B af.length d), .val (.slice (some ⟨g2, 0, none⟩) 1 cp2), .val (.int .i64 0), .val (.pointer (some ⟨g2, 0, none⟩)), .val (.pointer (some ⟨g2, 3, none⟩)), .val (.slice B2 af.length d2), .val (.bool true), .val (.bool false), .val (.bool false)] [51] (by kernel_rfl) (by kernel_rfl) (by kernel_rfl) (by kernel_rfl) (by kernel_rfl) ⟨?_, ?_, ?_, ?_, ?_, ?_, ?_, ?_, ?_, ?_, ?_, ?_, ?_, ?_, ?_, ?_, ?_, ?_, ?_, ?_, ?_, ?_, ?_, ?_, ?_, ?_, ?_, ?_, ?_, ?_, ?_, ?_, ?_, ?_, ?_, ?_, ?_, ?_, ?_, ?_, ?_, ?_, ?_, ?_, ?_, ?_, ?_, ?_, ?_, ?_, ?_, ?_, trivial⟩ ?done
 case done =>
  intro x w2 hb2
  simp only [StepGoal, overlay, upd, cond_true, cond_false, List.getD_cons_zero, List.getD_cons_succ, Nat.zero_add, Nat.reduceAdd, Nat.reduceEqDiff, reduceIte]
  go_wp2_with fail
  rw [rounds_succ]
  go_wp2_with fail
  go_ret
  exact ⟨rfl, hb2⟩
 all_goals
  intro x w2 hb2
  intro K hK
  obtain ⟨_, y0, y1, y2, y3⟩ := HG.out.ext hb2
  obtain ⟨_, u0, u1, u2, u3⟩ := HG2.out.ext hb2
  rw [if_pos (by rfl)]; simp only [overlay, upd, cond_true, cond_false, List.getD_cons_zero, List.getD_cons_succ, Nat.reduceEqDiff, reduceIte]
  go_simp
  first
   | exact hK.out _ _ (Below.refl _ _) rfl
   | ((with_reducible refine (HCB.out _ hb2).mono ?_); rintro e wa ⟨rfl, hba⟩; go_wp2_with fail; exact hK.out _ _ hba rfl)
   | ((with_reducible refine (HCA.out _ hb2).mono ?_); rintro e wa ⟨rfl, hba⟩; go_wp2_with fail; exact hK.out _ _ hba rfl)
def HvP (bf af : List V) (w : World) (r : Ending) (w' : World) : Prop := (∃ v, r = .returned (.bool v) ∧ (v = false → ¬ 4000 < longN bf ∧ ¬ 4000 < longN af)) ∧ Below w.heap.size w w'
set_option maxRecDepth 100000 in
set_option maxHeartbeats 1600000 in
theorem heavy20_one (ts : List Ta) (A : Option Addr) (c g cp : Nat) (kd tb : Int) (A0 A1 : Option Addr) (d0 d1 : Nat) (l0 l1 : List V) (w : World) (hT : TRow w A c ts) (h0 : VRow w A0 l0) (h1 : VRow w A1 l1) (hg : Blk w g #[.int .u8 kd, .int .i64 tb, .slice A0 l0.length d0, .slice A1 l1.length d1] 27) :
  Calls Tryz.prog 7 #[.agg #[.slice A ts.length c], .agg #[.int .u64 0, .slice none 0 0], .slice (some ⟨g, 0, none⟩) 1 cp] w (HvP l0 l1 w) := by
 have HLG := hd_ (fun (W : World) (hW : Below w.heap.size w W) => large13_any ts A c W (hT.ext hW))
 have HL1 := hd_ (fun (W : World) (hW : Below w.heap.size w W) => long_any l0 A0 d0 W (h0.ext hW))
 have HL2 := hd_ (fun (W : World) (hW : Below w.heap.size w W) => long_any l1 A1 d1 W (h1.ext hW))
 have hb1 := h0.2.1
 have hb2 := h1.2.1
 have HG := hd_ hg
 clear hT h0 h1 hg
 generalize hq1 : decide (4000 < longN l0) = q1 at HL1
 generalize hq2 : decide (4000 < longN l1) = q2 at HL2
 have HQ1 := hd_ hq1
 have HQ2 := hd_ hq2
 clear hq1 hq2
 go_enter Tryz.func7, Tryz.ntmps7
 go_wp2_with fail
 have HS : Hid (Blk ((w.alloc (.cells #[.slice A ts.length c] 24)).alloc (.cells #[.int .u64 0, .slice none 0 0] 32)) w.heap.size #[.slice A ts.length c] 24) := (by repeat (first | exact Blk.at (by simp) | assumption | refine Blk.drew ?_ | refine Blk.old ?_ _))
 have HP : Hid (Blk ((w.alloc (.cells #[.slice A ts.length c] 24)).alloc (.cells #[.int .u64 0, .slice none 0 0] 32)) (w.heap.size + 1) #[.int .u64 0, .slice none 0 0] 32) := (by repeat (first | exact Blk.at (by simp) | assumption | refine Blk.drew ?_ | refine Blk.old ?_ _))
 have hC : Below w.heap.size w ((w.alloc (.cells #[.slice A ts.length c] 24)).alloc (.cells #[.int .u64 0, .slice none 0 0] 32)) := (by repeat (first | exact Below.refl _ _ | assumption | refine Below.drew ?_ | refine below_drewN ?_ _ | refine Below.alloc ?_ (by simp <;> omega) _))
 have HC := hd_ hC
 clear hC
 generalize (w.alloc (.cells #[.slice A ts.length c] 24)).alloc (.cells #[.int .u64 0, .slice none 0 0] 32) = W0 at HS HP HC ⊢
 obtain ⟨lg, g0, g1, g2, g3⟩ := blk4' (HG.out.ext HC.out)
 refine wp_loop_rounds 2 ?_
 rw [rounds_succ]
 go_wp2_with fail
 refine (HL1.out _ HC.out).mono ?_
 rintro r w1 ⟨rfl, rfl⟩
 cases q1 with
 | true =>
  go_wp2_with fail
  go_ret
  exact ⟨⟨_, rfl, fun h => by cases h⟩, HC.out⟩
 | false =>
  go_wp2_with fail
  refine (HL2.out _ HC.out).mono ?_
  rintro r w1 ⟨rfl, rfl⟩
  cases q2 with
  | true =>
   go_wp2_with fail
   go_ret
   exact ⟨⟨_, rfl, fun h => by cases h⟩, HC.out⟩
  | false =>
   have HQ : Hid (¬ 4000 < longN l0 ∧ ¬ 4000 < longN l1) := ⟨of_decide_eq_false HQ1.out, of_decide_eq_false HQ2.out⟩
   generalize l0.length = n0 at *
   generalize l1.length = n1 at *
   go_upto_region 7 with fail
   go_quiet (fail)
   have HC2 : Hid (Below W0.heap.size W0 (W0.drewN nq)) := below_drewN (Below.refl _ _) _
   generalize W0.drewN nq = W1 at HC2 ⊢
   have HFL := hd_ (HLG.out W1 (bt HC.out HC2.out))
   have hS := HS.out.ext HC2.out
   have hP := HP.out.ext HC2.out
   have s0 := hS.cell 0
   have lS := hS.lt
   have p1 := hP.cell 1
   have lP := hP.lt
   simp only [List.getElem?_toArray, List.getElem?_cons_zero, List.getElem?_cons_succ] at s0 p1
   clear hS hP lg g0 g1 g2 g3
   go_wp2_with fail
   rw [rounds_succ]
   go_wp2_with fail
   refine (HFL.out).mono ?_
   rintro r w1 ⟨⟨v, rfl⟩, hb⟩
   have hC1 := bt (bt HC.out HC2.out) hb
   have p1' := (hb.cell (p := ⟨w.heap.size + 1, 1, none⟩) lP).trans p1
   have lP' := Nat.lt_of_lt_of_le lP hb.size
   clear hb p1
   cases v with
   | true =>
    go_wp2_with fail
    go_ret
    exact ⟨⟨_, rfl, fun _ => ⟨by have := HQ.out.1; omega, by have := HQ.out.2; omega⟩⟩, hC1⟩
   | false =>
    go_wp2_with fail
    go_ret
    exact ⟨⟨_, rfl, fun _ => ⟨by have := HQ.out.1; omega, by have := HQ.out.2; omega⟩⟩, hC1⟩
theorem lt_of_cellq {w : World} {a : Addr} {v : Value} (h : w.cell? a = some v) : a.block < w.heap.size := by
 rcases Nat.lt_or_ge a.block w.heap.size with h' | h'
 · exact h'
 · simp [World.cell?, Array.getElem?_eq_none h'] at h
theorem pairsF_len (ts : List Ta) (kd tb : Int) (l0 l1 : List V) : (pairsF ts kd tb l0 l1).length ≤ 1000000 := by
 unfold pairsF
 split
 · split
   · unfold pairsT
     simp only [List.length_append]
     have h1 : ∀ (p : Prop) [Decidable p] (x : Pr), (if p then [x] else []).length ≤ 1 := fun p _ x => by split <;> simp
     split <;> (repeat' split) <;> simp
   · simp
 · simp
set_option maxRecDepth 100000 in
set_option maxHeartbeats 6400000 in
theorem ixpairs_walk (ts : List Ta) (A A0 A1 : Option Addr) (c d0 d1 : Nat) (kd tb : Int) (l0 l1 : List V) (w : World) (hL : LayX w) (ht : TRow w A c ts) (h0 : VRow w A0 l0) (h1 : VRow w A1 l1) :
  Calls Tryz.prog 3 #[.agg #[.slice A ts.length c], .agg #[.int .u8 kd, .int .i64 tb, .slice A0 l0.length d0, .slice A1 l1.length d1]] w fun q w' => q = .returned (.bool true) ∧ Below w.heap.size w w' := by
 have HAL := hd_ (fun (W : World) (hW : Below w.heap.size w W) => alive26_any W (hL.ext hW))
 have HH := hd_ (fun (g cp : Nat) (W : World) (hW : Below w.heap.size w W) (hg) => heavy20_one ts A c g cp kd tb A0 A1 d0 d1 l0 l1 W (ht.ext hW) (h0.ext hW) (h1.ext hW) hg)
 have HCP := hd_ (fun (hq : ¬ 4000 < longN l0 ∧ ¬ 4000 < longN l1) (g cp : Nat) (W : World) (hW : Below w.heap.size w W) (hg) => copy15_one kd tb A0 A1 d0 d1 l0 l1 g cp W hg (h0.ext hW) (h1.ext hW) (by have := longN_le hq.1; omega) (by have := longN_le hq.2; omega))
 have HPA := hd_ (fun (B0 B1 : Option Addr) (e0 e1 : Nat) (W : World) (hW : Below w.heap.size w W) (r0 : VRow W B0 l0) (r1 : VRow W B1 l1) => pairs_any ts A B0 B1 c e0 e1 kd tb l0 l1 W (ht.ext hW) r0 r1 (hL.ext hW))
 have HMA := hd_ (fun (W : World) (hW : Below w.heap.size w W) => refmay26_any ts A A0 A1 c d0 d1 kd tb l0 l1 W (ht.ext hW) (h0.ext hW) (h1.ext hW) (hL.ext hW).1)
 have HRP := hd_ (fun (hf : chFit ts kd tb l0 l1 = true) (W : World) (hW : Below w.heap.size w W) => refpairs_any ts A A0 A1 c d0 d1 kd tb l0 l1 W (ht.ext hW) (h0.ext hW) (h1.ext hW) (hL.ext hW) hf)
 have HSA := hd_ (fun (B0 B1 : Option Addr) (e0 e1 g cp g2 cp2 : Nat) (W : World) (hW : Below w.heap.size w W) (hg) (hg2) (r0 : VRow W B0 l0) (r1 : VRow W B1 l1) => same15_cells kd tb B0 B1 A0 A1 e0 e1 d0 d1 l0 l1 g cp g2 cp2 W hg hg2 r0 r1 (h0.ext hW) (h1.ext hW))
 have HRW := hd_ (And.intro (And.intro h0.1 h0.2.1) (And.intro h1.1 h1.2.1))
 clear ht h0 h1 hL
 go_enter Tryz.func3, Tryz.ntmps3
 go_upto_region 1 with fail
 have b2 : Blk ((w.alloc (.cells #[.slice A ts.length c] 24)).alloc (.cells #[.int .u8 kd, .int .i64 tb, .slice A0 l0.length d0, .slice A1 l1.length d1] 27)) w.heap.size #[.slice A ts.length c] 24 := (by repeat (first | exact Blk.at (by simp) | assumption | refine Blk.drew ?_ | refine Blk.old ?_ _))
 have b3 : Blk ((w.alloc (.cells #[.slice A ts.length c] 24)).alloc (.cells #[.int .u8 kd, .int .i64 tb, .slice A0 l0.length d0, .slice A1 l1.length d1] 27)) (w.heap.size + 1) #[.int .u8 kd, .int .i64 tb, .slice A0 l0.length d0, .slice A1 l1.length d1] 27 := (by repeat (first | exact Blk.at (by simp) | assumption | refine Blk.drew ?_ | refine Blk.old ?_ _))
 have hb : Below w.heap.size w ((w.alloc (.cells #[.slice A ts.length c] 24)).alloc (.cells #[.int .u8 kd, .int .i64 tb, .slice A0 l0.length d0, .slice A1 l1.length d1] 27)) := (by repeat (first | exact Below.refl _ _ | assumption | refine Below.drew ?_ | refine below_drewN ?_ _ | refine Below.alloc ?_ (by simp <;> omega) _))
 generalize ((w.alloc (.cells #[.slice A ts.length c] 24)).alloc (.cells #[.int .u8 kd, .int .i64 tb, .slice A0 l0.length d0, .slice A1 l1.length d1] 27)) = W at b2 b3 hb ⊢
 obtain ⟨q2, hq2⟩ : ∃ b, b = w.heap.size := ⟨_, rfl⟩
 obtain ⟨q3, hq3⟩ : ∃ b, b = w.heap.size + 1 := ⟨_, rfl⟩
 rw [← hq3] at b3 ⊢
 rw [← hq2] at b2 ⊢
 clear hq2 hq3
 have HB2 := hd_ b2
 have HB3 := hd_ b3
 have HB := hd_ hb
 have HC : Hid (∀ X, Below W.heap.size W X → (q3 < X.heap.size ∧ X.cell? ⟨q3, 0, none⟩ = some (.int .u8 kd) ∧ X.cell? ⟨q3, 1, none⟩ = some (.int .i64 tb) ∧ X.cell? ⟨q3, 2, none⟩ = some (.slice A0 l0.length d0) ∧ X.cell? ⟨q3, 3, none⟩ = some (.slice A1 l1.length d1)) ∧ (q2 < X.heap.size ∧ X.cell? ⟨q2, 0, none⟩ = some (.slice A ts.length c))) := fun X hX => ⟨blk4' (HB3.out.ext hX), ⟨(HB2.out.ext hX).lt, (HB2.out.ext hX).cell 0⟩⟩
 clear b2 b3 hb HB2 HB3
 obtain ⟨⟨l3, k0, k1, k2, k3⟩, l2, e2⟩ := HC.out W (Below.refl _ _)
 go_wp2_with fail
 refine (HH.out _ _ _ (bt HB.out ((by repeat (first | exact Below.refl _ _ | assumption | refine Below.drew ?_ | refine below_drewN ?_ _ | refine Below.alloc ?_ (by simp <;> omega) _)))) (Blk.new _ _ _)).mono ?_
 rintro r w1 ⟨⟨v, rfl, hv⟩, hb1⟩
 have HX1 : Hid (Below W.heap.size W w1) := bt ((by repeat (first | exact Below.refl _ _ | assumption | refine Below.drew ?_ | refine below_drewN ?_ _ | refine Below.alloc ?_ (by simp <;> omega) _))) hb1
 have HVV := hd_ hv
 clear hv hb1 l3 k0 k1 k2 k3 l2 e2
 cases v with
 | true =>
  go_wp2_with fail
  refine (HAL.out _ (bt HB.out HX1.out)).mono ?_
  rintro r w2 ⟨rfl, hb2⟩
  go_wp2_with fail
  go_ret
  exact ⟨rfl, bt (bt HB.out HX1.out) hb2⟩
 | false =>
  obtain ⟨⟨l3, k0, k1, k2, k3⟩, l2, e2⟩ := HC.out w1 HX1.out
  go_wp2_with fail
  refine (HCP.out (HVV.out (by trivial)) _ _ _ (bt (bt HB.out HX1.out) ((by repeat (first | exact Below.refl _ _ | assumption | refine Below.drew ?_ | refine below_drewN ?_ _ | refine Below.alloc ?_ (by simp <;> omega) _)))) (Blk.new _ _ _)).mono ?_
  rintro r w2 ⟨g5, c5, B0, e0, B1, e1, rfl, hcl, ⟨bb0, ho0⟩, ⟨bb1, ho1⟩, hb2⟩
  have HX2 : Hid (Below W.heap.size W w2) := bt (bt HX1.out ((by repeat (first | exact Below.refl _ _ | assumption | refine Below.drew ?_ | refine below_drewN ?_ _ | refine Below.alloc ?_ (by simp <;> omega) _)))) hb2
  have hcell : ChCell w2 g5 kd tb B0 B1 l0.length l1.length e0 e1 := by
   have h0 : w2.cell? ⟨g5, 0, none⟩ = some (.int .u8 kd) := hcl 0 _ rfl
   exact ⟨lt_of_cellq h0, h0, hcl 1 _ rfl, hcl 2 _ rfl, hcl 3 _ rfl⟩
  have HCC := hd_ hcell
  have hwf0 := (HRW.out).1
  have hwf1 := (HRW.out).2
  have HR0 := hd_ (VRow.of_own hwf0.1 hwf0.2 ho0).1
  have HR1 := hd_ (VRow.of_own hwf1.1 hwf1.2 ho1).1
  clear hcl ho0 ho1 hb2 l3 k0 k1 k2 k3 l2 e2 hcell hwf0 hwf1
  have HPC := hd_ (HPA.out B0 B1 e0 e1 w2.drew (bt (bt HB.out HX2.out) ((by repeat (first | exact Below.refl _ _ | assumption | refine Below.drew ?_ | refine below_drewN ?_ _ | refine Below.alloc ?_ (by simp <;> omega) _)))) (HR0.out.ext (by repeat (first | exact Below.refl _ _ | assumption | refine Below.drew ?_ | refine below_drewN ?_ _ | refine Below.alloc ?_ (by simp <;> omega) _))) (HR1.out.ext (by repeat (first | exact Below.refl _ _ | assumption | refine Below.drew ?_ | refine below_drewN ?_ _ | refine Below.alloc ?_ (by simp <;> omega) _))))
  obtain ⟨n, hn⟩ : ∃ n, n = (pairsF ts kd tb l0 l1).length := ⟨_, rfl⟩
  obtain ⟨er, her⟩ : ∃ er, er = okE (chFit ts kd tb l0 l1) := ⟨_, rfl⟩
  rw [← hn, ← her] at HPC
  have HN := hd_ (And.intro hn her)
  clear hn her
  go_upto_region 4 with fail
  let Iv : Nat → (Option Addr × Nat) → World → Prop := fun k g W1 => match k with
   | 0 => W1 = w2.drew
   | _ => W1.ownsRow w2.heap.size 45 3 (.slice g.1 n g.2) n (cellsP (pairsF ts kd tb l0 l1)) ∧ Below w2.heap.size w2 W1
  refine region_phase (Iv) (fun k a b => k = 0 ∨ b = a) ((none, 0)) (fun g => [.agg #[.slice A ts.length c], .slice (some ⟨g5, 0, none⟩) 1 c5, .pointer (some ⟨g5, 0, none⟩), .agg #[.int .u8 kd, .int .i64 tb, .slice B0 l0.length e0, .slice B1 l1.length e1], .tuple #[.slice g.1 n g.2, .int .i64 er], .tuple #[.slice g.1 n g.2, .int .i64 er], .slice g.1 n g.2, .int .i64 er, .slice g.1 n g.2, .int .i64 er]) [4] [(0, 0), (0, 0), (0, 0), (0, 0), (0, 1), (1, 1), (1, 1), (1, 1), (1, 1), (1, 1)] [false, false, false, false, false, false, true, true, false, false, false, false, false, false, false, false, false, true, true, true, true, true, true, true, true, false, false, false, false, false, false, false, false, false, false, false, false, false, false, false, false, false, false, false, false, false, false, false, false, false, false, false, false, false, false, false] [18, 19, 20, 21, 22, 17, 23, 24, 6, 7] [8, 9] rfl (fun _ => rfl) (fun k ga gb hr j c hc hne hcl => hr.elim (fun hk => by subst hk; obtain rfl : 4 = c := (by simpa using hc); exact (match j, hne, hcl with | 0, _, _ => rfl | 1, _, _ => rfl | 2, _, _ => rfl | 3, _, _ => rfl | 4, hne, _ => absurd rfl hne | 5, _, hcl => absurd (hcl.symm.trans (by kernel_rfl)) Bool.false_ne_true | 6, _, hcl => absurd (hcl.symm.trans (by kernel_rfl)) Bool.false_ne_true | 7, _, hcl => absurd (hcl.symm.trans (by kernel_rfl)) Bool.false_ne_true | 8, _, hcl => absurd (hcl.symm.trans (by kernel_rfl)) Bool.false_ne_true | 9, _, hcl => absurd (hcl.symm.trans (by kernel_rfl)) Bool.false_ne_true | j + 10, _, _ => rfl)) (fun h => by rw [h])) (by kernel_rfl) (by kernel_rfl) (by kernel_rfl) (by decide) (by kernel_rfl) (by kernel_rfl) (by kernel_rfl) (by kernel_rfl) (by kernel_rfl) ⟨PhStep.pure rfl ?_, PhStep.pure rfl ?_, PhStep.pure rfl ?_, PhStep.pure rfl ?_, PhStep.chain 0 rfl ?c4_4, PhStep.pure rfl ?_, PhStep.pure rfl ?_, PhStep.pure rfl ?_, PhStep.pure rfl ?_, PhStep.pure rfl ?_, trivial⟩ ?done4
  case done4 =>
   intro g x V hiv
   have hF : V.ownsRow w2.heap.size 45 3 (.slice g.1 n g.2) n (cellsP (pairsF ts kd tb l0 l1)) ∧ Below w2.heap.size w2 V := hiv
   simp only [StepGoal, List.map_cons, List.map_nil, overlay, upd, cond_true, cond_false, List.getD_cons_zero, List.getD_cons_succ, Nat.zero_add, Nat.reduceAdd, Nat.reduceEqDiff, reduceIte]
   clear hiv Iv
   obtain ⟨hF1, hF2⟩ := hF
   have HO := hd_ hF1
   have HX3 := hd_ (bt HX2.out hF2)
   have HR0 := hd_ (HR0.out.ext hF2)
   have HR1 := hd_ (HR1.out.ext hF2)
   have HCC := hd_ (HCC.out.ext hF2)
   obtain ⟨gA, gc⟩ := g
   simp only at HO
   clear hF1 hF2 HPC
   obtain ⟨⟨l3, k0, k1, k2, k3⟩, l2, e2⟩ := HC.out V HX3.out
   go_wp2_with fail
   have hba : Below V.heap.size V (V.alloc (.cells #[.int .u8 kd, .int .i64 tb, .slice A0 l0.length d0, .slice A1 l1.length d1] 27)) := bel1 _ _
   have hnb := blk4' (Blk.new V #[.int .u8 kd, .int .i64 tb, .slice A0 l0.length d0, .slice A1 l1.length d1] 27)
   refine (HSA.out B0 B1 e0 e1 _ _ _ _ _ (bt (bt HB.out HX3.out) hba) (HCC.out.ext hba) hnb (HR0.out.ext hba) (HR1.out.ext hba)).mono ?_
   rintro r w4 ⟨rfl, hb4⟩
   have HX4 : Hid (Below W.heap.size W w4) := bt (bt HX3.out hba) hb4
   have HO4 := hd_ (own_below (own_below HO.out hba) hb4)
   clear hba hnb hb4 l3 k0 k1 k2 k3 l2 e2 HO HX3
   obtain ⟨⟨l3, k0, k1, k2, k3⟩, l2, e2⟩ := HC.out w4 HX4.out
   cases hfb : chFit ts kd tb l0 l1 with
   | false =>
    rw [hfb] at HMA
    have hn0 : n = 0 := by rw [HN.out.1]; unfold pairsF; rw [hfb]; rfl
    have he2 : er = 2 := by rw [HN.out.2, hfb]; rfl
    subst hn0 he2
    clear hfb
    go_wp2_with fail
    refine (HMA.out _ (bt HB.out HX4.out)).mono ?_
    rintro r w5 ⟨rfl, hb5⟩
    have HX5 := hd_ (bt HX4.out hb5)
    clear hb5
    go_wp2_with fail
    refine (HAL.out _ (bt HB.out HX5.out)).mono ?_
    rintro r w6 ⟨rfl, hb6⟩
    go_wp2_with fail
    go_ret
    exact ⟨rfl, bt (bt HB.out HX5.out) hb6⟩
   | true =>
    rw [hfb] at HMA
    have he2 : er = 0 := by rw [HN.out.2, hfb]; rfl
    have HFB := hd_ hfb
    subst he2
    clear hfb
    go_wp2_with fail
    refine (HMA.out _ (bt HB.out HX4.out)).mono ?_
    rintro r w5 ⟨rfl, hb5⟩
    have HX5 := hd_ (bt HX4.out hb5)
    have HO5 := hd_ (own_below HO4.out hb5)
    clear hb5 l3 k0 k1 k2 k3 l2 e2
    obtain ⟨⟨l3, k0, k1, k2, k3⟩, l2, e2⟩ := HC.out w5 HX5.out
    go_wp2_with fail
    refine (HRP.out HFB.out _ (bt HB.out HX5.out)).mono ?_
    rintro r w6 ⟨A', c', b6, rfl, ho6, hb6⟩
    have HX6 := hd_ (bt HX5.out hb6)
    have hoA := own_below HO5.out hb6
    have hnl := HN.out.1
    rw [hnl] at hoA ⊢
    have hsm : (pairsF ts kd tb l0 l1).length ≤ 1000000 := pairsF_len ts kd tb l0 l1
    generalize pairsF ts kd tb l0 l1 = PS at hoA ho6 hsm ⊢
    have HSP := hd_ (same26P_self PS gA A' gc c' _ _ w6 hoA ho6 hsm)
    clear hb6 hoA ho6 hnl hsm l3 k0 k1 k2 k3 l2 e2
    go_wp2_with fail
    refine (HSP.out).mono ?_
    rintro r w7 ⟨rfl, hb7⟩
    have HX7 := hd_ (bt HX6.out hb7)
    clear hb7
    go_wp2_with fail
    refine (HAL.out _ (bt HB.out HX7.out)).mono ?_
    rintro r w8 ⟨rfl, hb8⟩
    go_wp2_with fail
    go_ret
    exact ⟨rfl, bt (bt HB.out HX7.out) hb8⟩
  case c4_4 =>
   intro g x W1 hiv
   have hW1 : W1 = w2.drew := hiv
   subst hW1
   intro K hK
   rw [if_pos (by rfl)]; simp only [overlay, upd, cond_true, cond_false, List.getD_cons_zero, List.getD_cons_succ, Nat.reduceEqDiff, reduceIte]
   go_simp
   refine HPC.out.mono ?_
   rintro e W' ⟨A', c', rfl, h1, h2⟩
   exact hK.out _ _ (A', c') ⟨own_base' h1 (by simp), bt ((by repeat (first | exact Below.refl _ _ | assumption | refine Below.drew ?_ | refine below_drewN ?_ _ | refine Below.alloc ?_ (by simp <;> omega) _))) h2⟩ (Or.inl rfl) rfl
  all_goals
   intro q hk1 hk2 g x W1 hiv
   intro K hK
   first
    | (rw [if_pos (by rfl)]; simp only [overlay, upd, cond_true, cond_false, List.getD_cons_zero, List.getD_cons_succ, Nat.reduceEqDiff, reduceIte]
       go_simp
       exact hK.out _ _ _ hiv rfl rfl)
    | (rw [if_pos (by rfl)]; simp only [overlay, cond_true, cond_false]
       go_simp
       exact hK.out _ _ _ hiv rfl rfl)
    | (have hX : Below w2.heap.size w2 W1 := by
        have hq : q = 0 ∨ 0 < q := by omega
        rcases hq with rfl | hq
        · have h : W1 = w2.drew := hiv
          rw [h]; exact (by repeat (first | exact Below.refl _ _ | assumption | refine Below.drew ?_ | refine below_drewN ?_ _ | refine Below.alloc ?_ (by simp <;> omega) _))
        · match q, hq, hiv with
          | q + 1, _, hiv => exact hiv.2
       obtain ⟨⟨l3, k0, k1, k2, k3⟩, l2, e2⟩ := HC.out W1 (bt HX2.out hX)
       obtain ⟨l5, t0, t1, t2, t3⟩ := HCC.out.ext hX
       first
        | (rw [if_pos (by rfl)]; simp only [overlay, upd, cond_true, cond_false, List.getD_cons_zero, List.getD_cons_succ, Nat.reduceEqDiff, reduceIte]
           go_simp
           exact hK.out _ _ _ hiv rfl rfl)
        | (rw [if_pos (by rfl)]; simp only [overlay, cond_true, cond_false]
           go_simp
           exact hK.out _ _ _ hiv rfl rfl))
end Go.Proofs.YtceoficoappkpaaGreatDoor
