/- Texts joined by a tool: contracts and walks of this claim. -/
import Derived.Test.YtceoficoappkpaaGreatDoorF5
namespace Go.Proofs.YtceoficoappkpaaGreatDoor
open Go.RowKit Go.Shelf
attribute [local go_sem] Oper.semAt_some

set_option maxRecDepth 100000 in
set_option maxHeartbeats 3200000 in
theorem row_bad (B v kk m : Nat) (t : Tr) (ts : List Ta) (tb0 off : Nat) (c : Nat) (j : Nat) (k : V) (p : Pr) (w : World) (h : VwR w B v kk m t) (ht : TRow w (some ⟨tb0, off, none⟩) c ts) (hk : k.wf) (hL : LayX w) (hyes : keyS ts j k = true) (hlk : lkOk j [k] = true) (hf : findP (lkB 114 j [k]) t.toL = some p) (hg : p.g = false) (hsz : p.v.size ≤ 140737488355328)
  (R : Int × List V × Nat) (hgr : getRow p.v.data.toList = R) (hbad : R.1 ≠ 0 ∨ (R.1 = 0 ∧ R.2.2 ≠ p.v.size) ∨ (R.1 = 0 ∧ R.2.2 = p.v.size ∧ rowS ts j R.2.1 = false)) (hlwf : R.1 = 0 → (∀ v ∈ R.2.1, v.wf) ∧ R.2.1.length ≤ 8) :
  Calls Tryz.prog 19 #[.pointer (some ⟨v, 0, none⟩), .agg #[.slice (some ⟨tb0, off, none⟩) ts.length c], .int .i64 j, k.agg] w fun r w' => r = .returned (.tuple #[.slice none 0 0, .bool false, .int .i64 7]) ∧ Below w.heap.size w w' := by
 have HS := hd_ (fun (W : World) (hW : Below w.heap.size w W) => schkey_any ts (some ⟨tb0, off, none⟩) c j k W (ht.ext hW) hk (hL.ext hW).1)
 have HR := hd_ (fun (W : World) (hW : Below w.heap.size w W) => ixrow_any j k hk W (hL.ext hW))
 have HG := hd_ (fun (W : World) (hW : Below w.heap.size w W) => vget_any B v kk m t (lkB 114 j [k]) p W (h.ext hW) hf)
 have HGR := hd_ (fun (W : World) (hW : Below w.heap.size w W) => getrow_any p.v W hsz (hL.ext hW).1)
 have HSR := hd_ (fun (W : World) (A2 : Option Addr) (c2 : Nat) (hW : Below w.heap.size w W) (hv : VRow W A2 R.2.1) => schrow_any ts (some ⟨tb0, off, none⟩) A2 c c2 j R.2.1 W (ht.ext hW) hv (hL.ext hW).1)
 have hts := ht.2.1
 have HLW := hd_ hlwf
 rw [hyes] at HS
 unfold lkR at HR
 rw [hlk] at HR
 rw [hg] at HG
 rw [hgr] at HGR
 unfold V.agg at *
 unfold okE at HS HR
 simp only [if_true, Bool.not_false] at HS HR HG
 generalize lkB 114 j [k] = ky at HR HG
 clear hyes hlk hf hg ht hL h hgr hlwf
 go_enter Tryz.func19, Tryz.ntmps19
 go_wp2_with fail
 have h5 : Blk ((w.alloc (.cells #[.slice (some ⟨tb0, off, none⟩) ts.length c] 24)).alloc (.cells #[.int .u8 k.k, .int .i64 k.n, .int .u64 k.r, .string k.t] 47)) w.heap.size #[.slice (some ⟨tb0, off, none⟩) ts.length c] 24 := (by repeat (first | exact Blk.at (by simp) | assumption | refine Blk.drew ?_ | refine Blk.old ?_ _))
 have h7 : Blk ((w.alloc (.cells #[.slice (some ⟨tb0, off, none⟩) ts.length c] 24)).alloc (.cells #[.int .u8 k.k, .int .i64 k.n, .int .u64 k.r, .string k.t] 47)) (w.heap.size + 1) #[.int .u8 k.k, .int .i64 k.n, .int .u64 k.r, .string k.t] 47 := (by repeat (first | exact Blk.at (by simp) | assumption | refine Blk.drew ?_ | refine Blk.old ?_ _))
 refine (HS.out _ (by repeat (first | exact Below.refl _ _ | assumption | refine Below.drew ?_ | refine below_drewN ?_ _ | refine Below.alloc ?_ (by simp <;> omega) _))).mono ?_
 rintro r w1 ⟨rfl, hb⟩
 have hW1 : Below w.heap.size w w1 := bt ((by repeat (first | exact Below.refl _ _ | assumption | refine Below.drew ?_ | refine below_drewN ?_ _ | refine Below.alloc ?_ (by simp <;> omega) _))) hb
 have h71 := h7.ext hb
 have h51 := h5.ext hb
 obtain ⟨l7, a0, a1, a2, a3, _⟩ := blk4f h71
 clear hb h7 h5
 obtain ⟨b5, hb5⟩ : ∃ b, b = w.heap.size := ⟨_, rfl⟩
 obtain ⟨b7, hb7⟩ : ∃ b, b = w.heap.size + 1 := ⟨_, rfl⟩
 rw [← hb7] at h71 l7 a0 a1 a2 a3 ⊢
 have HB57 : Hid (b5 = w.heap.size ∧ b7 = w.heap.size + 1) := ⟨hb5, hb7⟩
 rw [← hb5] at h51 ⊢
 clear hb5 hb7
 have H5 := hd_ h51
 have H7 := hd_ h71
 clear h51 h71
 go_wp2_with fail
 refine (HR.out _ hW1).mono ?_
 rintro r w2 ⟨rfl, hb⟩
 have hW2 : Below w.heap.size w w2 := bt hW1 hb
 have H52 := hd_ (H5.out.ext hb)
 have H72 := hd_ (H7.out.ext hb)
 clear hb hW1 l7 a0 a1 a2 a3 H5 H7
 go_wp2_with fail
 refine (HG.out _ hW2).mono ?_
 rintro r w3 ⟨rfl, hb⟩
 have hW3 : Below w.heap.size w w3 := bt hW2 hb
 have H53 := hd_ (H52.out.ext hb)
 have H73 := hd_ (H72.out.ext hb)
 clear hb hW2 H52 H72
 go_wp2_with fail
 refine (HGR.out _ hW3).mono ?_
 rintro r w4 ⟨hb, hcase⟩
 have hW4 : Below w.heap.size w w4 := bt hW3 hb
 have H54 := hd_ (H53.out.ext hb)
 have H74 := hd_ (H73.out.ext hb)
 have HW4 := hd_ hW4
 clear hb hW3 H53 H73 HS HR HG HGR hW4
 rcases hbad with h1 | ⟨h1, h2⟩ | ⟨h1, h2, h3⟩
 · obtain rfl : r = .returned (.tuple #[.slice none 0 0, .int .i64 0, .int .i64 R.1]) := by
    rcases hcase with ⟨h, _⟩ | ⟨_, h⟩
    · exact absurd h h1
    · exact h
   have hne : (R.1 != 0) = true := by simp [bne, h1]
   clear hcase h1 HSR HLW
   generalize R.1 = r0 at *
   go_upto_region 11 with fail
   let Iv : Nat → Unit → World → Prop := fun k _ W => match k with
    | 0 => W = w4.drew
    | _ => Below w4.heap.size w4 W
   refine region_phase (Iv) (fun _ _ _ => True) (()) (fun _ => [.int .i64 r0, .bool true, .bool true, undef, undef, undef, undef, .bool true, .bool true, undef, undef, undef, undef, undef, .bool true, .bool true, undef, undef, undef, undef, undef, undef, undef, undef, undef, undef, undef, .bool true]) [12] [(0, 0), (0, 0), (0, 0), (0, 0), (0, 0), (0, 0), (0, 0), (0, 0), (0, 0), (0, 0), (0, 0), (0, 0), (0, 1), (1, 1), (1, 1), (1, 1), (1, 1), (1, 1), (1, 1), (1, 1), (1, 1), (1, 1), (1, 1), (1, 1), (1, 1), (1, 1), (1, 1), (1, 1)] [false, false, false, false, false, false, false, false, false, false, false, false, false, false, false, false, false, false, false, false, false, false, false, false, false, false, false, false, false, false, false, false, false, false, false, false, false, false, false, false, false, false, false, false, false, false, false, false, false, false, false, false, false, false, true, true, true, true, true, true, true, true, true, true, true, true, true, true, true, true, true, true, true, true, true, true, true, true, true, true, true, true, false] [54, 55, 56, 57, 58, 59, 60, 61, 62, 63, 64, 65, 66, 67, 68, 69, 70, 71, 72, 73, 74, 75, 76, 77, 78, 79, 80, 81] [27] rfl (fun _ => rfl) (fun _ _ _ _ _ _ _ _ _ => rfl) (by kernel_rfl) (by kernel_rfl) (by kernel_rfl) (by decide) (by kernel_rfl) (by kernel_rfl) (by kernel_rfl) (by kernel_rfl) (by kernel_rfl) ⟨PhStep.pure rfl ?_, PhStep.pure rfl ?_, PhStep.pure rfl ?_, PhStep.pure rfl ?_, PhStep.pure rfl ?_, PhStep.pure rfl ?_, PhStep.pure rfl ?_, PhStep.pure rfl ?_, PhStep.pure rfl ?_, PhStep.pure rfl ?_, PhStep.pure rfl ?_, PhStep.pure rfl ?_, PhStep.chain 0 rfl ?c11_12, PhStep.pure rfl ?_, PhStep.pure rfl ?_, PhStep.pure rfl ?_, PhStep.pure rfl ?_, PhStep.pure rfl ?_, PhStep.pure rfl ?_, PhStep.pure rfl ?_, PhStep.pure rfl ?_, PhStep.pure rfl ?_, PhStep.pure rfl ?_, PhStep.pure rfl ?_, PhStep.pure rfl ?_, PhStep.pure rfl ?_, PhStep.pure rfl ?_, PhStep.pure rfl ?_, trivial⟩ ?done11
   case done11 =>
    intro g y W hiv
    have hW : Below w4.heap.size w4 W := hiv
    simp only [StepGoal, List.map_cons, List.map_nil, overlay, upd, cond_true, cond_false, List.getD_cons_zero, List.getD_cons_succ, Nat.zero_add, Nat.reduceAdd, Nat.reduceEqDiff, reduceIte]
    clear hiv Iv
    have HB : Hid (Below w.heap.size w W) := bt HW4.out hW
    clear hW HW4
    go_wp2_with fail
    refine bodyPost_ret (v := .tuple #[.slice none 0 0, .bool false, .int .i64 7]) (by simp [results, Tryz.results19, go_sem]) rfl ?_
    exact ⟨rfl, HB.out⟩
   case c11_12 =>
    intro g y W1 hiv
    have hW1 : W1 = w4.drew := hiv
    subst hW1
    intro K hK
    rw [if_neg (by exact Bool.false_ne_true)]
    exact hK.out _ _ () (show Below w4.heap.size w4 w4.drew from (by repeat (first | exact Below.refl _ _ | assumption | refine Below.drew ?_ | refine below_drewN ?_ _ | refine Below.alloc ?_ (by simp <;> omega) _))) trivial rfl
   all_goals
    intro q hk1 hk2 g y W1 hiv
    intro K hK
    first
     | (rw [if_neg (by exact Bool.false_ne_true)]
        exact hK.out _ _ _ hiv rfl rfl)
     | (rw [if_pos (by rfl)]; simp only [overlay, upd, cond_true, cond_false, List.getD_cons_zero, List.getD_cons_succ, Nat.reduceEqDiff, reduceIte]
        go_simp
        exact hK.out _ _ _ hiv rfl rfl)
     | (rw [if_pos (by rfl)]; simp only [overlay, cond_true, cond_false]
        go_simp
        exact hK.out _ _ _ hiv rfl rfl)
     | (have hX : Below w4.heap.size w4 W1 := by
         have hq : q = 0 ∨ 0 < q := by omega
         rcases hq with rfl | hq
         · have h : W1 = w4.drew := hiv
           rw [h]; exact (by repeat (first | exact Below.refl _ _ | assumption | refine Below.drew ?_ | refine below_drewN ?_ _ | refine Below.alloc ?_ (by simp <;> omega) _))
         · match q, hq, hiv with
           | q + 1, _, hiv => exact hiv
        obtain ⟨l5, e5⟩ : b5 < W1.heap.size ∧ W1.cell? ⟨b5, 0, none⟩ = some (.slice (some ⟨tb0, off, none⟩) ts.length c) := ⟨(H54.out.ext hX).lt, (H54.out.ext hX).cell 0⟩
        first
         | (rw [if_pos (by rfl)]; simp only [overlay, upd, cond_true, cond_false, List.getD_cons_zero, List.getD_cons_succ, Nat.reduceEqDiff, reduceIte]
            go_simp
            exact hK.out _ _ _ hiv rfl rfl)
         | (rw [if_pos (by rfl)]; simp only [overlay, cond_true, cond_false]
            go_simp
            exact hK.out _ _ _ hiv rfl rfl))
 · obtain ⟨A2, c2, rfl⟩ : ∃ A2 c2, r = .returned (.tuple #[.slice A2 R.2.1.length c2, .int .i64 R.2.2, .int .i64 0]) := by
    rcases hcase with ⟨_, A2, c2, h, _⟩ | ⟨h, _⟩
    · exact ⟨A2, c2, h⟩
    · exact absurd h1 h
   have hne : (((R.2.2 : Int)) != p.v.size) = true := by simp [bne]; omega
   have hne2 : ((R.2.2 : Int) == p.v.size) = false := beq_eq_false_iff_ne.2 (by omega)
   have hne3 : (R.2.2 == p.v.size) = false := beq_eq_false_iff_ne.2 h2
   clear hcase h1 HSR HLW
   generalize R.2.2 = n0 at *
   generalize R.2.1 = l at *
   go_upto_region 11 with fail
   let Iv : Nat → Unit → World → Prop := fun k _ W => match k with
    | 0 => W = w4.drew
    | _ => Below w4.heap.size w4 W
   refine region_phase (Iv) (fun _ _ _ => True) (()) (fun _ => [.int .i64 0, .bool false, .bool false, .int .i64 n0, .string p.v, .int .i64 p.v.size, .bool true, .bool true, .bool true, undef, undef, undef, undef, undef, .bool true, .bool true, undef, undef, undef, undef, undef, undef, undef, undef, undef, undef, undef, .bool true]) [12] [(0, 0), (0, 0), (0, 0), (0, 0), (0, 0), (0, 0), (0, 0), (0, 0), (0, 0), (0, 0), (0, 0), (0, 0), (0, 1), (1, 1), (1, 1), (1, 1), (1, 1), (1, 1), (1, 1), (1, 1), (1, 1), (1, 1), (1, 1), (1, 1), (1, 1), (1, 1), (1, 1), (1, 1)] [false, false, false, false, false, false, false, false, false, false, false, false, false, false, false, false, false, false, false, false, false, false, false, false, false, false, false, false, false, false, false, false, false, false, false, false, false, false, false, false, false, false, false, false, false, false, false, false, false, false, false, false, false, false, true, true, true, true, true, true, true, true, true, true, true, true, true, true, true, true, true, true, true, true, true, true, true, true, true, true, true, true, false] [54, 55, 56, 57, 58, 59, 60, 61, 62, 63, 64, 65, 66, 67, 68, 69, 70, 71, 72, 73, 74, 75, 76, 77, 78, 79, 80, 81] [27] rfl (fun _ => rfl) (fun _ _ _ _ _ _ _ _ _ => rfl) (by kernel_rfl) (by kernel_rfl) (by kernel_rfl) (by decide) (by kernel_rfl) (by kernel_rfl) (by kernel_rfl) (by kernel_rfl) (by kernel_rfl) ⟨PhStep.pure rfl ?_, PhStep.pure rfl ?_, PhStep.pure rfl ?_, PhStep.pure rfl ?_, PhStep.pure rfl ?_, PhStep.pure rfl ?_, PhStep.pure rfl ?_, PhStep.pure rfl ?_, PhStep.pure rfl ?_, PhStep.pure rfl ?_, PhStep.pure rfl ?_, PhStep.pure rfl ?_, PhStep.chain 0 rfl ?c11_12, PhStep.pure rfl ?_, PhStep.pure rfl ?_, PhStep.pure rfl ?_, PhStep.pure rfl ?_, PhStep.pure rfl ?_, PhStep.pure rfl ?_, PhStep.pure rfl ?_, PhStep.pure rfl ?_, PhStep.pure rfl ?_, PhStep.pure rfl ?_, PhStep.pure rfl ?_, PhStep.pure rfl ?_, PhStep.pure rfl ?_, PhStep.pure rfl ?_, PhStep.pure rfl ?_, trivial⟩ ?done11
   case done11 =>
    intro g y W hiv
    have hW : Below w4.heap.size w4 W := hiv
    simp only [StepGoal, List.map_cons, List.map_nil, overlay, upd, cond_true, cond_false, List.getD_cons_zero, List.getD_cons_succ, Nat.zero_add, Nat.reduceAdd, Nat.reduceEqDiff, reduceIte]
    clear hiv Iv
    have HB : Hid (Below w.heap.size w W) := bt HW4.out hW
    clear hW HW4
    go_wp2_with fail
    refine bodyPost_ret (v := .tuple #[.slice none 0 0, .bool false, .int .i64 7]) (by simp [results, Tryz.results19, go_sem]) rfl ?_
    exact ⟨rfl, HB.out⟩
   case c11_12 =>
    intro g y W1 hiv
    have hW1 : W1 = w4.drew := hiv
    subst hW1
    intro K hK
    rw [if_neg (by exact Bool.false_ne_true)]
    exact hK.out _ _ () (show Below w4.heap.size w4 w4.drew from (by repeat (first | exact Below.refl _ _ | assumption | refine Below.drew ?_ | refine below_drewN ?_ _ | refine Below.alloc ?_ (by simp <;> omega) _))) trivial rfl
   all_goals
    intro q hk1 hk2 g y W1 hiv
    intro K hK
    first
     | (rw [if_neg (by exact Bool.false_ne_true)]
        exact hK.out _ _ _ hiv rfl rfl)
     | (rw [if_pos (by rfl)]; simp only [overlay, upd, cond_true, cond_false, List.getD_cons_zero, List.getD_cons_succ, Nat.reduceEqDiff, reduceIte]
        go_simp
        exact hK.out _ _ _ hiv rfl rfl)
     | (rw [if_pos (by rfl)]; simp only [overlay, cond_true, cond_false]
        go_simp
        exact hK.out _ _ _ hiv rfl rfl)
     | (have hX : Below w4.heap.size w4 W1 := by
         have hq : q = 0 ∨ 0 < q := by omega
         rcases hq with rfl | hq
         · have h : W1 = w4.drew := hiv
           rw [h]; exact (by repeat (first | exact Below.refl _ _ | assumption | refine Below.drew ?_ | refine below_drewN ?_ _ | refine Below.alloc ?_ (by simp <;> omega) _))
         · match q, hq, hiv with
           | q + 1, _, hiv => exact hiv
        obtain ⟨l5, e5⟩ : b5 < W1.heap.size ∧ W1.cell? ⟨b5, 0, none⟩ = some (.slice (some ⟨tb0, off, none⟩) ts.length c) := ⟨(H54.out.ext hX).lt, (H54.out.ext hX).cell 0⟩
        first
         | (rw [if_pos (by rfl)]; simp only [overlay, upd, cond_true, cond_false, List.getD_cons_zero, List.getD_cons_succ, Nat.reduceEqDiff, reduceIte]
            go_simp
            exact hK.out _ _ _ hiv rfl rfl)
         | (rw [if_pos (by rfl)]; simp only [overlay, cond_true, cond_false]
            go_simp
            exact hK.out _ _ _ hiv rfl rfl))
 · obtain ⟨A2, c2, rfl, hown⟩ : ∃ A2 c2, r = .returned (.tuple #[.slice A2 R.2.1.length c2, .int .i64 R.2.2, .int .i64 0]) ∧ w4.ownsRow w3.heap.size 47 4 (.slice A2 R.2.1.length c2) R.2.1.length (rowCells R.2.1) := by
    rcases hcase with ⟨_, A2, c2, h, ho⟩ | ⟨h, _⟩
    · exact ⟨A2, c2, h, ho⟩
    · exact absurd h1 h
   have HVR := hd_ (VRow.of_own (HLW.out h1).1 (by have := (HLW.out h1).2; omega) hown).1
   rw [h2]
   have HSQ := hd_ (HSR.out w4.drew A2 c2 (HW4.out.drew) (HVR.out.ext (by repeat (first | exact Below.refl _ _ | assumption | refine Below.drew ?_ | refine below_drewN ?_ _ | refine Below.alloc ?_ (by simp <;> omega) _))))
   rw [h3] at HSQ
   unfold okE at HSQ
   simp only [Bool.false_eq_true, if_false] at HSQ
   clear hcase h1 h2 h3 HSR HLW hown HVR
   generalize R.2.1 = l at *
   go_upto_region 11 with fail
   let Iv : Nat → Unit → World → Prop := fun k _ W => match k with
    | 0 => W = w4.drew
    | _ => Below w4.heap.size w4 W
   refine region_phase (Iv) (fun _ _ _ => True) (()) (fun _ => [.int .i64 0, .bool false, .bool false, .int .i64 p.v.size, .string p.v, .int .i64 p.v.size, .bool false, .bool false, .bool false, .agg #[.slice (some ⟨tb0, off, none⟩) ts.length c], .int .i64 j, .slice A2 l.length c2, .int .i64 2, .bool true, .bool true, .bool true, undef, undef, undef, undef, undef, undef, undef, undef, undef, undef, undef, .bool true]) [12] [(0, 0), (0, 0), (0, 0), (0, 0), (0, 0), (0, 0), (0, 0), (0, 0), (0, 0), (0, 0), (0, 0), (0, 0), (0, 1), (1, 1), (1, 1), (1, 1), (1, 1), (1, 1), (1, 1), (1, 1), (1, 1), (1, 1), (1, 1), (1, 1), (1, 1), (1, 1), (1, 1), (1, 1)] [false, false, false, false, false, false, false, false, false, false, false, false, false, false, false, false, false, false, false, false, false, false, false, false, false, false, false, false, false, false, false, false, false, false, false, false, false, false, false, false, false, false, false, false, false, false, false, false, false, false, false, false, false, false, true, true, true, true, true, true, true, true, true, true, true, true, true, true, true, true, true, true, true, true, true, true, true, true, true, true, true, true, false] [54, 55, 56, 57, 58, 59, 60, 61, 62, 63, 64, 65, 66, 67, 68, 69, 70, 71, 72, 73, 74, 75, 76, 77, 78, 79, 80, 81] [27] rfl (fun _ => rfl) (fun _ _ _ _ _ _ _ _ _ => rfl) (by kernel_rfl) (by kernel_rfl) (by kernel_rfl) (by decide) (by kernel_rfl) (by kernel_rfl) (by kernel_rfl) (by kernel_rfl) (by kernel_rfl) ⟨PhStep.pure rfl ?_, PhStep.pure rfl ?_, PhStep.pure rfl ?_, PhStep.pure rfl ?_, PhStep.pure rfl ?_, PhStep.pure rfl ?_, PhStep.pure rfl ?_, PhStep.pure rfl ?_, PhStep.pure rfl ?_, PhStep.pure rfl ?_, PhStep.pure rfl ?_, PhStep.pure rfl ?_, PhStep.chain 0 rfl ?c11_12, PhStep.pure rfl ?_, PhStep.pure rfl ?_, PhStep.pure rfl ?_, PhStep.pure rfl ?_, PhStep.pure rfl ?_, PhStep.pure rfl ?_, PhStep.pure rfl ?_, PhStep.pure rfl ?_, PhStep.pure rfl ?_, PhStep.pure rfl ?_, PhStep.pure rfl ?_, PhStep.pure rfl ?_, PhStep.pure rfl ?_, PhStep.pure rfl ?_, PhStep.pure rfl ?_, trivial⟩ ?done11
   case done11 =>
    intro g y W hiv
    have hW : Below w4.heap.size w4 W := hiv
    simp only [StepGoal, List.map_cons, List.map_nil, overlay, upd, cond_true, cond_false, List.getD_cons_zero, List.getD_cons_succ, Nat.zero_add, Nat.reduceAdd, Nat.reduceEqDiff, reduceIte]
    clear hiv Iv
    have HB : Hid (Below w.heap.size w W) := bt HW4.out hW
    clear hW HW4
    go_wp2_with fail
    refine bodyPost_ret (v := .tuple #[.slice none 0 0, .bool false, .int .i64 7]) (by simp [results, Tryz.results19, go_sem]) rfl ?_
    exact ⟨rfl, HB.out⟩
   case c11_12 =>
    intro g y W1 hiv
    have hW1 : W1 = w4.drew := hiv
    subst hW1
    intro K hK
    rw [if_pos (by rfl)]; simp only [overlay, upd, cond_true, cond_false, List.getD_cons_zero, List.getD_cons_succ, Nat.reduceEqDiff, reduceIte]
    go_simp
    refine HSQ.out.mono ?_
    rintro e W' ⟨rfl, h1⟩
    exact hK.out _ _ () (⟨h1.os, h1.tape, h1.output, h1.size, h1.block⟩ : Below w4.heap.size w4 W') trivial rfl
   all_goals
    intro q hk1 hk2 g y W1 hiv
    intro K hK
    first
     | (rw [if_neg (by exact Bool.false_ne_true)]
        exact hK.out _ _ _ hiv rfl rfl)
     | (rw [if_pos (by rfl)]; simp only [overlay, upd, cond_true, cond_false, List.getD_cons_zero, List.getD_cons_succ, Nat.reduceEqDiff, reduceIte]
        go_simp
        exact hK.out _ _ _ hiv rfl rfl)
     | (rw [if_pos (by rfl)]; simp only [overlay, cond_true, cond_false]
        go_simp
        exact hK.out _ _ _ hiv rfl rfl)
     | (have hX : Below w4.heap.size w4 W1 := by
         have hq : q = 0 ∨ 0 < q := by omega
         rcases hq with rfl | hq
         · have h : W1 = w4.drew := hiv
           rw [h]; exact (by repeat (first | exact Below.refl _ _ | assumption | refine Below.drew ?_ | refine below_drewN ?_ _ | refine Below.alloc ?_ (by simp <;> omega) _))
         · match q, hq, hiv with
           | q + 1, _, hiv => exact hiv
        obtain ⟨l5, e5⟩ : b5 < W1.heap.size ∧ W1.cell? ⟨b5, 0, none⟩ = some (.slice (some ⟨tb0, off, none⟩) ts.length c) := ⟨(H54.out.ext hX).lt, (H54.out.ext hX).cell 0⟩
        first
         | (rw [if_pos (by rfl)]; simp only [overlay, upd, cond_true, cond_false, List.getD_cons_zero, List.getD_cons_succ, Nat.reduceEqDiff, reduceIte]
            go_simp
            exact hK.out _ _ _ hiv rfl rfl)
         | (rw [if_pos (by rfl)]; simp only [overlay, cond_true, cond_false]
            go_simp
            exact hK.out _ _ _ hiv rfl rfl))
end Go.Proofs.YtceoficoappkpaaGreatDoor
