/- Texts joined by a tool: contracts and walks of this claim. -/
import Derived.Test.YtceoficoappkpaaGreatDoorB29
import Derived.Test.YtceoficoappkpaaGreatDoorShelfC
namespace Go.Proofs.YtceoficoappkpaaGreatDoor
open Go.RowKit Go.Shelf
attribute [local go_sem] Oper.semAt_some

theorem info_call : (Tryz.prog.info? 296).map (fun i => (i.zero, i.size, i.bytes)) = some (some (.agg #[.nilFunc, .nilFunc]), 2, 16) := by kernel_rfl
theorem chg_below {S : List Nat} {w w' : World} {B : Nat} (h : Chg S w w') (hS : ∀ x ∈ S, B ≤ x) (hB : B ≤ w.heap.size) : Below B w w' :=
 ⟨h.os, h.tape, h.output, h.size, fun i hi => h.block i (by omega) (fun hm => by have := hS i hm; omega)⟩
theorem below_chg {S : List Nat} {w w' w'' : World} (h : Below w.heap.size w w') (k : Chg S w' w'') : Chg S w w'' :=
 ⟨k.os.trans h.os, k.tape.trans h.tape, k.output.trans h.output, Nat.le_trans h.size k.size, fun i hi hn => (k.block i (Nat.lt_of_lt_of_le hi h.size) hn).trans (h.block i hi)⟩
theorem chg_tr {S : List Nat} {w w1 w2 : World} (h : Chg S w w1) (k : Chg S w1 w2) : Chg S w w2 :=
 ⟨k.os.trans h.os, k.tape.trans h.tape, k.output.trans h.output, Nat.le_trans h.size k.size, fun i hi hn => (k.block i (Nat.lt_of_lt_of_le hi h.size) hn).trans (h.block i hi hn)⟩
theorem chg_mono {S S' : List Nat} {w w1 : World} (h : Chg S w w1) (hS : ∀ i ∈ S, i ∈ S') : Chg S' w w1 := ⟨h.os, h.tape, h.output, h.size, fun i hi hn => h.block i hi (fun hm => hn (hS i hm))⟩
theorem chg_put1 {W X' : World} {d : Nat} {ds : Array Value} {t : TypeId} (h : Below W.heap.size W X') : Chg [d] W (putBlk X' d ds t) := by
 refine ⟨h.os, h.tape, h.output, by rw [putBlk_size]; exact h.size, fun i hi hn => ?_⟩
 have hne : d ≠ i := fun e => hn (by simp [e])
 unfold putBlk
 simp only
 rw [Array.getElem?_setIfInBounds_ne hne]
 exact h.block i hi
set_option maxRecDepth 100000 in
set_option maxHeartbeats 1600000 in
theorem do_app (b4 b5 b8 : Nat) (d F : Nat) (u : Value) (ks ks' : List ByteArray) (sz sz' : ByteArray → Nat) (w : World) (hd : DkW w d F u (.slice none 0 0) ks sz)
  (HC0 : ∀ W, Below w.heap.size w W → Calls Tryz.prog 227 #[.map (some F), .pointer (some ⟨b8, 0, none⟩), .pointer (some ⟨b5, 0, none⟩)] W fun r w' => r = .returned (.tuple #[]) ∧ Chg [F] W w' ∧ MapS w' F ks' (FE sz')) :
  Calls Tryz.prog 197 #[.pointer (some ⟨d, 0, none⟩), .agg #[.func (.func 227) #[] #[.pointer (some ⟨b8, 0, none⟩), .pointer (some ⟨b5, 0, none⟩)], .func (.func 226) #[] #[.pointer (some ⟨b4, 0, none⟩), .pointer (some ⟨b5, 0, none⟩)]]] w fun r w' => r = .returned (.int .i64 0) ∧ (∃ lo, DkW w' d F u lo ks' sz') ∧ Chg [d, F] w w' := by
 obtain ⟨i0, hi0, hz0, hz1, hz2⟩ := info_parts info_call
 have HC := hd_ HC0
 have HD := hd_ hd
 have hne := hd.ne
 clear hd HC0
 go_enter Tryz.func197, Tryz.ntmps197
 go_wp2_with fail
 refine (dburn_any d F u (.slice none 0 0) ks sz _ (HD.out.ext (by repeat (first | exact Below.refl _ _ | assumption | refine Below.drew ?_ | refine below_drewN ?_ _ | refine Below.alloc ?_ (by simp <;> omega) _)))).mono ?_
 rintro r W0 ⟨rfl, rfl⟩
 have h3 : Blk (w.alloc (.cells #[.func (.func 227) #[] #[.pointer (some ⟨b8, 0, none⟩), .pointer (some ⟨b5, 0, none⟩)], .func (.func 226) #[] #[.pointer (some ⟨b4, 0, none⟩), .pointer (some ⟨b5, 0, none⟩)]] 296)) w.heap.size #[.func (.func 227) #[] #[.pointer (some ⟨b8, 0, none⟩), .pointer (some ⟨b5, 0, none⟩)], .func (.func 226) #[] #[.pointer (some ⟨b4, 0, none⟩), .pointer (some ⟨b5, 0, none⟩)]] 296 := Blk.new _ _ _
 have hbw : Below w.heap.size w (w.alloc (.cells #[.func (.func 227) #[] #[.pointer (some ⟨b8, 0, none⟩), .pointer (some ⟨b5, 0, none⟩)], .func (.func 226) #[] #[.pointer (some ⟨b4, 0, none⟩), .pointer (some ⟨b5, 0, none⟩)]] 296)) := bel1 _ _
 have hd0 := HD.out.ext hbw
 have HDL := hd_ HD.out.b.lt
 have hFL := hd_ HD.out.files.lt
 generalize (w.alloc (.cells #[.func (.func 227) #[] #[.pointer (some ⟨b8, 0, none⟩), .pointer (some ⟨b5, 0, none⟩)], .func (.func 226) #[] #[.pointer (some ⟨b4, 0, none⟩), .pointer (some ⟨b5, 0, none⟩)]] 296)) = W0 at h3 hbw hd0 ⊢
 obtain ⟨b3, hb3⟩ : ∃ b, b = w.heap.size := ⟨_, rfl⟩
 rw [← hb3] at h3 ⊢
 have HB3 := hd_ hb3
 clear hb3
 obtain ⟨l3, p0, p1, f3⟩ := blk2f h3
 obtain ⟨ld, d0, d1, d2, d3, d4, d5, df⟩ := blk6f hd0.b
 have HCC := hd_ (HC.out W0.drew ((hbw : Below w.heap.size w W0).drew))
 have HBW := hd_ hbw
 have H3 := hd_ h3
 have HD0 := hd_ hd0
 clear hbw h3 hd0
 go_upto_region 4 with fail
 let Iv : Nat → Unit → World → Prop := fun k _ W => match k with
  | 0 => W = W0.drew
  | _ => Chg [F] W0 W ∧ MapS W F ks' (FE sz')
 refine region_phase (Iv) (fun _ _ _ => True) (()) (fun _ => [.pointer (some ⟨b3, 0, none⟩), .func (.func 227) #[] #[.pointer (some ⟨b8, 0, none⟩), .pointer (some ⟨b5, 0, none⟩)], .pointer (some ⟨d, 0, none⟩), .pointer (some ⟨d, 0, none⟩), .pointer (some ⟨d, 0, none⟩), .map (some F), .tuple #[]]) [6] [(0, 0), (0, 0), (0, 0), (0, 0), (0, 0), (0, 0), (0, 1)] [false, false, false, false, false, false, false, false, false, false, false, true, true, true, true, true, true, true, false, false, false, false, false, false, false, false, false, false] [11, 12, 13, 14, 15, 16, 17] [] rfl (fun _ => rfl) (fun _ _ _ _ _ _ _ _ _ => rfl) (by kernel_rfl) (by kernel_rfl) (by kernel_rfl) (by decide) (by kernel_rfl) (by kernel_rfl) (by kernel_rfl) (by kernel_rfl) (by kernel_rfl) ⟨PhStep.pure rfl ?_, PhStep.pure rfl ?_, PhStep.pure rfl ?_, PhStep.pure rfl ?_, PhStep.pure rfl ?_, PhStep.pure rfl ?_, PhStep.chain 0 rfl ?c4_6, trivial⟩ ?done4
 case done4 =>
  intro g x W hiv
  have hF : Chg [F] W0 W ∧ MapS W F ks' (FE sz') := hiv
  simp only [StepGoal, overlay, cond_true, cond_false]
  clear hiv Iv
  have h31 : Blk W b3 #[.func (.func 227) #[] #[.pointer (some ⟨b8, 0, none⟩), .pointer (some ⟨b5, 0, none⟩)], .func (.func 226) #[] #[.pointer (some ⟨b4, 0, none⟩), .pointer (some ⟨b5, 0, none⟩)]] 296 := H3.out.chg hF.1 (by have := HB3.out; have := hFL.out; simp; omega)
  have hd1 : Blk W d #[.map (some F), u, .slice none 0 0, .int .i64 8388608, .int .i64 (-1), .bool false] 184 := HD0.out.b.chg hF.1 (by simpa using fun e => hne e.symm)
  clear l3 p0 p1 f3 ld d0 d1 d2 d3 d4 d5 df
  obtain ⟨l3, p0, p1, f3⟩ := blk2f h31
  obtain ⟨ld, d0, d1, d2, d3, d4, d5, df⟩ := blk6f hd1
  have HF := hd_ hF
  have H31 := hd_ h31
  have HD1 := hd_ hd1
  clear hF h31 hd1
  go_upto_region 5 with fail
  obtain ⟨hsN, hhs⟩ : ∃ n, n = W.heap.size := ⟨_, rfl⟩
  have HHS := hd_ hhs
  clear hhs
  let Iv : Nat → (Nat × Nat) → World → Prop := fun k g X => match k with
   | 0 => X = W.drew
   | 1 => X = W.drew.alloc (.cells #[.func (.func 227) #[] #[.pointer (some ⟨b8, 0, none⟩), .pointer (some ⟨b5, 0, none⟩)], .func (.func 226) #[] #[.pointer (some ⟨b4, 0, none⟩), .pointer (some ⟨b5, 0, none⟩)]] 296)
   | 2 => Below W.heap.size W X
   | _ => ∃ X', Below W.heap.size W X' ∧ X = putBlk X' d #[.map (some F), u, .slice (some ⟨g.1, 0, none⟩) 1 g.2, .int .i64 8388608, .int .i64 (-1), .bool false] 184
  refine region_phase (Iv) (fun k a b => k = 1 ∨ b = a) ((0, 0)) (fun g => [.pointer (some ⟨d, 0, none⟩), .pointer (some ⟨d, 0, none⟩), .pointer (some ⟨d, 0, none⟩), .pointer (some ⟨d, 2, none⟩), .slice none 0 0, .agg #[.func (.func 227) #[] #[.pointer (some ⟨b8, 0, none⟩), .pointer (some ⟨b5, 0, none⟩)], .func (.func 226) #[] #[.pointer (some ⟨b4, 0, none⟩), .pointer (some ⟨b5, 0, none⟩)]], .slice (some ⟨hsN, 0, none⟩) 1 1, .slice (some ⟨g.1, 0, none⟩) 1 g.2, .pointer (some ⟨d, 0, none⟩), .pointer (some ⟨d, 2, none⟩), undef]) [6, 7, 10] [(0, 2), (0, 1), (0, 1), (0, 1), (0, 1), (0, 0), (0, 3), (0, 3), (2, 2), (2, 2), (0, 3)] [false, false, false, false, false, false, false, false, false, false, false, false, false, false, false, false, false, false, true, true, true, true, true, true, true, true, true, true] [18, 19, 20, 21, 22, 23, 24, 25, 26, 27, 0] [] rfl (fun _ => rfl) (fun k ga gb hr j c hc hne hcl => hr.elim (fun hk => by subst hk; obtain rfl : 7 = c := (by simpa using hc); exact (match j, hne, hcl with | 0, _, _ => rfl | 1, _, _ => rfl | 2, _, _ => rfl | 3, _, _ => rfl | 4, _, _ => rfl | 5, _, _ => rfl | 6, _, _ => rfl | 7, hne, _ => absurd rfl hne | 8, _, hcl => absurd (hcl.symm.trans (by kernel_rfl)) Bool.false_ne_true | 9, _, hcl => absurd (hcl.symm.trans (by kernel_rfl)) Bool.false_ne_true | 10, _, hcl => absurd (hcl.symm.trans (by kernel_rfl)) Bool.false_ne_true | j + 11, _, _ => rfl)) (fun h => by rw [h])) (by kernel_rfl) (by kernel_rfl) (by kernel_rfl) (by decide) (by kernel_rfl) (by kernel_rfl) (by kernel_rfl) (by kernel_rfl) (by kernel_rfl) ⟨PhStep.pure rfl ?_, PhStep.pure rfl ?_, PhStep.pure rfl ?_, PhStep.pure rfl ?_, PhStep.pure rfl ?_, PhStep.pure rfl ?_, PhStep.chain 0 rfl ?c5_6, PhStep.chain 1 rfl ?c5_7, PhStep.pure rfl ?_, PhStep.pure rfl ?_, PhStep.chain 2 rfl ?c5_10, trivial⟩ ?done5
  case done5 =>
   intro g x X hiv
   obtain ⟨X', hX, rfl⟩ : ∃ X', Below W.heap.size W X' ∧ X = putBlk X' d #[.map (some F), u, .slice (some ⟨g.1, 0, none⟩) 1 g.2, .int .i64 8388608, .int .i64 (-1), .bool false] 184 := hiv
   simp only [StepGoal, overlay, cond_true, cond_false]
   clear Iv
   have HX := hd_ hX
   clear hX
   go_wp2_with fail
   go_ret
   have hX := HX.out
   have k1 : Chg [d] W (putBlk X' d #[.map (some F), u, .slice (some ⟨g.1, 0, none⟩) 1 g.2, .int .i64 8388608, .int .i64 (-1), .bool false] 184) := chg_put1 hX
   refine ⟨rfl, ⟨_, putBlk_blk _ _ (Nat.lt_of_lt_of_le HD1.out.lt hX.size), HF.out.2.chg k1 (by simpa using hne) fun _ _ _ h => h⟩, ?_⟩
   exact chg_tr (chg_mono (Chg.of_below (S := []) HBW.out) (by simp)) (chg_tr (chg_mono HF.out.1 (by simp)) (chg_mono k1 (by simp)))
  case c5_6 =>
   intro g x W1 hiv
   have hW1 : W1 = W.drew := hiv
   subst hW1
   intro K hK
   rw [if_pos (by rfl)]; simp only [overlay, upd, cond_true, cond_false, List.getD_cons_zero, List.getD_cons_succ, Nat.reduceEqDiff, reduceIte]
   go_simp
   exact hK.out _ _ g rfl (Or.inr rfl) (by rw [HHS.out]; rfl)
  case c5_7 =>
   intro g x W1 hiv
   have hW1 : W1 = W.drew.alloc (.cells #[.func (.func 227) #[] #[.pointer (some ⟨b8, 0, none⟩), .pointer (some ⟨b5, 0, none⟩)], .func (.func 226) #[] #[.pointer (some ⟨b4, 0, none⟩), .pointer (some ⟨b5, 0, none⟩)]] 296) := hiv
   subst hW1
   intro K hK
   rw [if_pos (by rfl)]; simp only [overlay, upd, cond_true, cond_false, List.getD_cons_zero, List.getD_cons_succ, Nat.reduceEqDiff, reduceIte]
   refine (wp_append_own _ _ _ _ rfl W.heap.size 296 i0 _ 2 16 Tryz.underlying182 hi0 hz0 hz1 hz2 rfl (by decide) (.slice none 0 0) 0 [] rfl (World.ownsRow_nil _ _ _ _) ⟨hsN, 0, none⟩ 1 1 [.func (.func 227) #[] #[.pointer (some ⟨b8, 0, none⟩), .pointer (some ⟨b5, 0, none⟩)], .func (.func 226) #[] #[.pointer (some ⟨b4, 0, none⟩), .pointer (some ⟨b5, 0, none⟩)]] rfl rfl ?_ (by simp [Value.oneCell']) ?_ ?_ ?_ ?_)
   · rw [HHS.out]
     intro j v hj
     have h0 : Blk (W.drew.alloc (.cells #[.func (.func 227) #[] #[.pointer (some ⟨b8, 0, none⟩), .pointer (some ⟨b5, 0, none⟩)], .func (.func 226) #[] #[.pointer (some ⟨b4, 0, none⟩), .pointer (some ⟨b5, 0, none⟩)]] 296)) W.heap.size #[.func (.func 227) #[] #[.pointer (some ⟨b8, 0, none⟩), .pointer (some ⟨b5, 0, none⟩)], .func (.func 226) #[] #[.pointer (some ⟨b4, 0, none⟩), .pointer (some ⟨b5, 0, none⟩)]] 296 := Blk.new W.drew _ _
     have ha : (⟨W.heap.size, 0, none⟩ : Addr).add j = ⟨W.heap.size, j, none⟩ := by unfold Addr.add; split <;> simp_all
     rw [ha]
     exact (h0.cell j).trans (by simpa using hj)
   · simp only [maxLen]; omega
   · omega
   · simp only [World.size_alloc]; exact Nat.le_succ_of_le (Nat.le_refl _)
   · intro v1 w4 hown1 hg1 _
     obtain ⟨g', c', rfl, _⟩ := hown1.form (by omega)
     exact hK.out _ _ (g', c') (Below.grown ((by repeat (first | exact Below.refl _ _ | assumption | refine Below.drew ?_ | refine below_drewN ?_ _ | refine Below.alloc ?_ (by simp <;> omega) _))) hg1 (by simp only [World.size_alloc]; exact Nat.le_succ_of_le (Nat.le_refl _)) (fun k e => by cases e)) (Or.inl rfl) rfl
  case c5_10 =>
   intro g x W1 hiv
   have hX : Below W.heap.size W W1 := hiv
   intro K hK
   obtain ⟨w5, rfl, l5⟩ := blk_put (HD1.out.ext hX)
   obtain ⟨pc5, pf5, pS5⟩ := putBlk_facts (w := w5) 184 l5
   rw [if_pos (by rfl)]; simp only [overlay, upd, cond_true, cond_false, List.getD_cons_zero, List.getD_cons_succ, Nat.reduceEqDiff, reduceIte]
   go_simp
   refine hK.out _ _ g ⟨_, hX, ?_⟩ (Or.inr rfl) rfl
   rw [put_put']
  all_goals
   intro q hk1 hk2 g x W1 hiv
   intro K hK
   first
    | (rw [if_pos (by rfl)]; simp only [overlay, upd, cond_true, cond_false, List.getD_cons_zero, List.getD_cons_succ, Nat.reduceEqDiff, reduceIte]
       go_simp
       exact hK.out _ _ _ hiv rfl rfl)
    | (rw [if_pos (by rfl)]; simp only [overlay, cond_true, cond_false]
       go_simp
       exact hK.out _ _ _ hiv rfl rfl)
    | (have hX : Below W.heap.size W W1 := by
        have hq : q = 0 ∨ q = 1 ∨ q = 2 := by simp at hk1 hk2; omega
        rcases hq with rfl | rfl | rfl
        · have h : W1 = W.drew := hiv
          rw [h]; exact (by repeat (first | exact Below.refl _ _ | assumption | refine Below.drew ?_ | refine below_drewN ?_ _ | refine Below.alloc ?_ (by simp <;> omega) _))
        · have h : W1 = W.drew.alloc (.cells #[.func (.func 227) #[] #[.pointer (some ⟨b8, 0, none⟩), .pointer (some ⟨b5, 0, none⟩)], .func (.func 226) #[] #[.pointer (some ⟨b4, 0, none⟩), .pointer (some ⟨b5, 0, none⟩)]] 296) := hiv
          rw [h]; exact (by repeat (first | exact Below.refl _ _ | assumption | refine Below.drew ?_ | refine below_drewN ?_ _ | refine Below.alloc ?_ (by simp <;> omega) _))
        · exact hiv
       obtain ⟨lq, e0, e1, e2, e3, e4, e5, ef⟩ := blk6f (HD1.out.ext hX)
       obtain ⟨lq3, r0, r1, rf⟩ := blk2f (H31.out.ext hX)
       rw [if_pos (by rfl)]; simp only [overlay, upd, cond_true, cond_false, List.getD_cons_zero, List.getD_cons_succ, Nat.reduceEqDiff, reduceIte]
       go_simp
       exact hK.out _ _ _ hiv rfl rfl)
 case c4_6 =>
  intro g x W1 hiv
  have hW1 : W1 = W0.drew := hiv
  subst hW1
  intro K hK
  rw [if_pos (by rfl)]; simp only [overlay, upd, cond_true, cond_false, List.getD_cons_zero, List.getD_cons_succ, Nat.reduceEqDiff, reduceIte]
  go_simp
  refine HCC.out.mono ?_
  rintro e W' ⟨rfl, h1, h2⟩
  exact hK.out _ _ () ⟨⟨h1.os, h1.tape, h1.output, h1.size, h1.block⟩, h2⟩ trivial rfl
 all_goals
  intro q hk1 hk2 g x W1 hiv
  intro K hK
  first
   | (rw [if_pos (by rfl)]; simp only [overlay, upd, cond_true, cond_false, List.getD_cons_zero, List.getD_cons_succ, Nat.reduceEqDiff, reduceIte]
      go_simp
      exact hK.out _ _ _ hiv rfl rfl)
   | (obtain rfl : q = 0 := by simp at hk2; omega
      have hW : W1 = W0.drew := hiv
      subst hW
      rw [if_pos (by rfl)]; simp only [overlay, upd, cond_true, cond_false, List.getD_cons_zero, List.getD_cons_succ, Nat.reduceEqDiff, reduceIte]
      go_simp
      exact hK.out _ _ _ rfl rfl rfl)
set_option maxRecDepth 100000 in
set_option maxHeartbeats 1600000 in
theorem do_ren (b4 b5 : Nat) (d F : Nat) (u : Value) (ks ks' : List ByteArray) (sz sz' : ByteArray → Nat) (w : World) (hd : DkW w d F u (.slice none 0 0) ks sz)
  (HC0 : ∀ W, Below w.heap.size w W → Calls Tryz.prog 228 #[.map (some F), .pointer (some ⟨b4, 0, none⟩), .pointer (some ⟨b5, 0, none⟩)] W fun r w' => r = .returned (.tuple #[]) ∧ Chg [F] W w' ∧ MapS w' F ks' (FE sz')) :
  Calls Tryz.prog 197 #[.pointer (some ⟨d, 0, none⟩), .agg #[.func (.func 228) #[] #[.pointer (some ⟨b4, 0, none⟩), .pointer (some ⟨b5, 0, none⟩)], .nilFunc]] w fun r w' => r = .returned (.int .i64 0) ∧ (∃ lo, DkW w' d F u lo ks' sz') ∧ Chg [d, F] w w' := by
 obtain ⟨i0, hi0, hz0, hz1, hz2⟩ := info_parts info_call
 have HC := hd_ HC0
 have HD := hd_ hd
 have hne := hd.ne
 clear hd HC0
 go_enter Tryz.func197, Tryz.ntmps197
 go_wp2_with fail
 refine (dburn_any d F u (.slice none 0 0) ks sz _ (HD.out.ext (by repeat (first | exact Below.refl _ _ | assumption | refine Below.drew ?_ | refine below_drewN ?_ _ | refine Below.alloc ?_ (by simp <;> omega) _)))).mono ?_
 rintro r W0 ⟨rfl, rfl⟩
 have h3 : Blk (w.alloc (.cells #[.func (.func 228) #[] #[.pointer (some ⟨b4, 0, none⟩), .pointer (some ⟨b5, 0, none⟩)], .nilFunc] 296)) w.heap.size #[.func (.func 228) #[] #[.pointer (some ⟨b4, 0, none⟩), .pointer (some ⟨b5, 0, none⟩)], .nilFunc] 296 := Blk.new _ _ _
 have hbw : Below w.heap.size w (w.alloc (.cells #[.func (.func 228) #[] #[.pointer (some ⟨b4, 0, none⟩), .pointer (some ⟨b5, 0, none⟩)], .nilFunc] 296)) := bel1 _ _
 have hd0 := HD.out.ext hbw
 have HDL := hd_ HD.out.b.lt
 have hFL := hd_ HD.out.files.lt
 generalize (w.alloc (.cells #[.func (.func 228) #[] #[.pointer (some ⟨b4, 0, none⟩), .pointer (some ⟨b5, 0, none⟩)], .nilFunc] 296)) = W0 at h3 hbw hd0 ⊢
 obtain ⟨b3, hb3⟩ : ∃ b, b = w.heap.size := ⟨_, rfl⟩
 rw [← hb3] at h3 ⊢
 have HB3 := hd_ hb3
 clear hb3
 obtain ⟨l3, p0, p1, f3⟩ := blk2f h3
 obtain ⟨ld, d0, d1, d2, d3, d4, d5, df⟩ := blk6f hd0.b
 have HCC := hd_ (HC.out W0.drew ((hbw : Below w.heap.size w W0).drew))
 have HBW := hd_ hbw
 have H3 := hd_ h3
 have HD0 := hd_ hd0
 clear hbw h3 hd0
 go_upto_region 4 with fail
 let Iv : Nat → Unit → World → Prop := fun k _ W => match k with
  | 0 => W = W0.drew
  | _ => Chg [F] W0 W ∧ MapS W F ks' (FE sz')
 refine region_phase (Iv) (fun _ _ _ => True) (()) (fun _ => [.pointer (some ⟨b3, 0, none⟩), .func (.func 228) #[] #[.pointer (some ⟨b4, 0, none⟩), .pointer (some ⟨b5, 0, none⟩)], .pointer (some ⟨d, 0, none⟩), .pointer (some ⟨d, 0, none⟩), .pointer (some ⟨d, 0, none⟩), .map (some F), .tuple #[]]) [6] [(0, 0), (0, 0), (0, 0), (0, 0), (0, 0), (0, 0), (0, 1)] [false, false, false, false, false, false, false, false, false, false, false, true, true, true, true, true, true, true, false, false, false, false, false, false, false, false, false, false] [11, 12, 13, 14, 15, 16, 17] [] rfl (fun _ => rfl) (fun _ _ _ _ _ _ _ _ _ => rfl) (by kernel_rfl) (by kernel_rfl) (by kernel_rfl) (by decide) (by kernel_rfl) (by kernel_rfl) (by kernel_rfl) (by kernel_rfl) (by kernel_rfl) ⟨PhStep.pure rfl ?_, PhStep.pure rfl ?_, PhStep.pure rfl ?_, PhStep.pure rfl ?_, PhStep.pure rfl ?_, PhStep.pure rfl ?_, PhStep.chain 0 rfl ?c4_6, trivial⟩ ?done4
 case done4 =>
  intro g x W hiv
  have hF : Chg [F] W0 W ∧ MapS W F ks' (FE sz') := hiv
  simp only [StepGoal, overlay, cond_true, cond_false]
  clear hiv Iv
  have h31 : Blk W b3 #[.func (.func 228) #[] #[.pointer (some ⟨b4, 0, none⟩), .pointer (some ⟨b5, 0, none⟩)], .nilFunc] 296 := H3.out.chg hF.1 (by have := HB3.out; have := hFL.out; simp; omega)
  have hd1 : Blk W d #[.map (some F), u, .slice none 0 0, .int .i64 8388608, .int .i64 (-1), .bool false] 184 := HD0.out.b.chg hF.1 (by simpa using fun e => hne e.symm)
  clear l3 p0 p1 f3 ld d0 d1 d2 d3 d4 d5 df
  obtain ⟨l3, p0, p1, f3⟩ := blk2f h31
  obtain ⟨ld, d0, d1, d2, d3, d4, d5, df⟩ := blk6f hd1
  have HF := hd_ hF
  have H31 := hd_ h31
  have HD1 := hd_ hd1
  clear hF h31 hd1
  go_upto_region 5 with fail
  obtain ⟨hsN, hhs⟩ : ∃ n, n = W.heap.size := ⟨_, rfl⟩
  have HHS := hd_ hhs
  clear hhs
  let Iv : Nat → (Nat × Nat) → World → Prop := fun k g X => match k with
   | 0 => X = W.drew
   | 1 => X = W.drew.alloc (.cells #[.func (.func 228) #[] #[.pointer (some ⟨b4, 0, none⟩), .pointer (some ⟨b5, 0, none⟩)], .nilFunc] 296)
   | 2 => Below W.heap.size W X
   | _ => ∃ X', Below W.heap.size W X' ∧ X = putBlk X' d #[.map (some F), u, .slice (some ⟨g.1, 0, none⟩) 1 g.2, .int .i64 8388608, .int .i64 (-1), .bool false] 184
  refine region_phase (Iv) (fun k a b => k = 1 ∨ b = a) ((0, 0)) (fun g => [.pointer (some ⟨d, 0, none⟩), .pointer (some ⟨d, 0, none⟩), .pointer (some ⟨d, 0, none⟩), .pointer (some ⟨d, 2, none⟩), .slice none 0 0, .agg #[.func (.func 228) #[] #[.pointer (some ⟨b4, 0, none⟩), .pointer (some ⟨b5, 0, none⟩)], .nilFunc], .slice (some ⟨hsN, 0, none⟩) 1 1, .slice (some ⟨g.1, 0, none⟩) 1 g.2, .pointer (some ⟨d, 0, none⟩), .pointer (some ⟨d, 2, none⟩), undef]) [6, 7, 10] [(0, 2), (0, 1), (0, 1), (0, 1), (0, 1), (0, 0), (0, 3), (0, 3), (2, 2), (2, 2), (0, 3)] [false, false, false, false, false, false, false, false, false, false, false, false, false, false, false, false, false, false, true, true, true, true, true, true, true, true, true, true] [18, 19, 20, 21, 22, 23, 24, 25, 26, 27, 0] [] rfl (fun _ => rfl) (fun k ga gb hr j c hc hne hcl => hr.elim (fun hk => by subst hk; obtain rfl : 7 = c := (by simpa using hc); exact (match j, hne, hcl with | 0, _, _ => rfl | 1, _, _ => rfl | 2, _, _ => rfl | 3, _, _ => rfl | 4, _, _ => rfl | 5, _, _ => rfl | 6, _, _ => rfl | 7, hne, _ => absurd rfl hne | 8, _, hcl => absurd (hcl.symm.trans (by kernel_rfl)) Bool.false_ne_true | 9, _, hcl => absurd (hcl.symm.trans (by kernel_rfl)) Bool.false_ne_true | 10, _, hcl => absurd (hcl.symm.trans (by kernel_rfl)) Bool.false_ne_true | j + 11, _, _ => rfl)) (fun h => by rw [h])) (by kernel_rfl) (by kernel_rfl) (by kernel_rfl) (by decide) (by kernel_rfl) (by kernel_rfl) (by kernel_rfl) (by kernel_rfl) (by kernel_rfl) ⟨PhStep.pure rfl ?_, PhStep.pure rfl ?_, PhStep.pure rfl ?_, PhStep.pure rfl ?_, PhStep.pure rfl ?_, PhStep.pure rfl ?_, PhStep.chain 0 rfl ?c5_6, PhStep.chain 1 rfl ?c5_7, PhStep.pure rfl ?_, PhStep.pure rfl ?_, PhStep.chain 2 rfl ?c5_10, trivial⟩ ?done5
  case done5 =>
   intro g x X hiv
   obtain ⟨X', hX, rfl⟩ : ∃ X', Below W.heap.size W X' ∧ X = putBlk X' d #[.map (some F), u, .slice (some ⟨g.1, 0, none⟩) 1 g.2, .int .i64 8388608, .int .i64 (-1), .bool false] 184 := hiv
   simp only [StepGoal, overlay, cond_true, cond_false]
   clear Iv
   have HX := hd_ hX
   clear hX
   go_wp2_with fail
   go_ret
   have hX := HX.out
   have k1 : Chg [d] W (putBlk X' d #[.map (some F), u, .slice (some ⟨g.1, 0, none⟩) 1 g.2, .int .i64 8388608, .int .i64 (-1), .bool false] 184) := chg_put1 hX
   refine ⟨rfl, ⟨_, putBlk_blk _ _ (Nat.lt_of_lt_of_le HD1.out.lt hX.size), HF.out.2.chg k1 (by simpa using hne) fun _ _ _ h => h⟩, ?_⟩
   exact chg_tr (chg_mono (Chg.of_below (S := []) HBW.out) (by simp)) (chg_tr (chg_mono HF.out.1 (by simp)) (chg_mono k1 (by simp)))
  case c5_6 =>
   intro g x W1 hiv
   have hW1 : W1 = W.drew := hiv
   subst hW1
   intro K hK
   rw [if_pos (by rfl)]; simp only [overlay, upd, cond_true, cond_false, List.getD_cons_zero, List.getD_cons_succ, Nat.reduceEqDiff, reduceIte]
   go_simp
   exact hK.out _ _ g rfl (Or.inr rfl) (by rw [HHS.out]; rfl)
  case c5_7 =>
   intro g x W1 hiv
   have hW1 : W1 = W.drew.alloc (.cells #[.func (.func 228) #[] #[.pointer (some ⟨b4, 0, none⟩), .pointer (some ⟨b5, 0, none⟩)], .nilFunc] 296) := hiv
   subst hW1
   intro K hK
   rw [if_pos (by rfl)]; simp only [overlay, upd, cond_true, cond_false, List.getD_cons_zero, List.getD_cons_succ, Nat.reduceEqDiff, reduceIte]
   refine (wp_append_own _ _ _ _ rfl W.heap.size 296 i0 _ 2 16 Tryz.underlying182 hi0 hz0 hz1 hz2 rfl (by decide) (.slice none 0 0) 0 [] rfl (World.ownsRow_nil _ _ _ _) ⟨hsN, 0, none⟩ 1 1 [.func (.func 228) #[] #[.pointer (some ⟨b4, 0, none⟩), .pointer (some ⟨b5, 0, none⟩)], .nilFunc] rfl rfl ?_ (by simp [Value.oneCell']) ?_ ?_ ?_ ?_)
   · rw [HHS.out]
     intro j v hj
     have h0 : Blk (W.drew.alloc (.cells #[.func (.func 228) #[] #[.pointer (some ⟨b4, 0, none⟩), .pointer (some ⟨b5, 0, none⟩)], .nilFunc] 296)) W.heap.size #[.func (.func 228) #[] #[.pointer (some ⟨b4, 0, none⟩), .pointer (some ⟨b5, 0, none⟩)], .nilFunc] 296 := Blk.new W.drew _ _
     have ha : (⟨W.heap.size, 0, none⟩ : Addr).add j = ⟨W.heap.size, j, none⟩ := by unfold Addr.add; split <;> simp_all
     rw [ha]
     exact (h0.cell j).trans (by simpa using hj)
   · simp only [maxLen]; omega
   · omega
   · simp only [World.size_alloc]; exact Nat.le_succ_of_le (Nat.le_refl _)
   · intro v1 w4 hown1 hg1 _
     obtain ⟨g', c', rfl, _⟩ := hown1.form (by omega)
     exact hK.out _ _ (g', c') (Below.grown ((by repeat (first | exact Below.refl _ _ | assumption | refine Below.drew ?_ | refine below_drewN ?_ _ | refine Below.alloc ?_ (by simp <;> omega) _))) hg1 (by simp only [World.size_alloc]; exact Nat.le_succ_of_le (Nat.le_refl _)) (fun k e => by cases e)) (Or.inl rfl) rfl
  case c5_10 =>
   intro g x W1 hiv
   have hX : Below W.heap.size W W1 := hiv
   intro K hK
   obtain ⟨w5, rfl, l5⟩ := blk_put (HD1.out.ext hX)
   obtain ⟨pc5, pf5, pS5⟩ := putBlk_facts (w := w5) 184 l5
   rw [if_pos (by rfl)]; simp only [overlay, upd, cond_true, cond_false, List.getD_cons_zero, List.getD_cons_succ, Nat.reduceEqDiff, reduceIte]
   go_simp
   refine hK.out _ _ g ⟨_, hX, ?_⟩ (Or.inr rfl) rfl
   rw [put_put']
  all_goals
   intro q hk1 hk2 g x W1 hiv
   intro K hK
   first
    | (rw [if_pos (by rfl)]; simp only [overlay, upd, cond_true, cond_false, List.getD_cons_zero, List.getD_cons_succ, Nat.reduceEqDiff, reduceIte]
       go_simp
       exact hK.out _ _ _ hiv rfl rfl)
    | (rw [if_pos (by rfl)]; simp only [overlay, cond_true, cond_false]
       go_simp
       exact hK.out _ _ _ hiv rfl rfl)
    | (have hX : Below W.heap.size W W1 := by
        have hq : q = 0 ∨ q = 1 ∨ q = 2 := by simp at hk1 hk2; omega
        rcases hq with rfl | rfl | rfl
        · have h : W1 = W.drew := hiv
          rw [h]; exact (by repeat (first | exact Below.refl _ _ | assumption | refine Below.drew ?_ | refine below_drewN ?_ _ | refine Below.alloc ?_ (by simp <;> omega) _))
        · have h : W1 = W.drew.alloc (.cells #[.func (.func 228) #[] #[.pointer (some ⟨b4, 0, none⟩), .pointer (some ⟨b5, 0, none⟩)], .nilFunc] 296) := hiv
          rw [h]; exact (by repeat (first | exact Below.refl _ _ | assumption | refine Below.drew ?_ | refine below_drewN ?_ _ | refine Below.alloc ?_ (by simp <;> omega) _))
        · exact hiv
       obtain ⟨lq, e0, e1, e2, e3, e4, e5, ef⟩ := blk6f (HD1.out.ext hX)
       obtain ⟨lq3, r0, r1, rf⟩ := blk2f (H31.out.ext hX)
       rw [if_pos (by rfl)]; simp only [overlay, upd, cond_true, cond_false, List.getD_cons_zero, List.getD_cons_succ, Nat.reduceEqDiff, reduceIte]
       go_simp
       exact hK.out _ _ _ hiv rfl rfl)
 case c4_6 =>
  intro g x W1 hiv
  have hW1 : W1 = W0.drew := hiv
  subst hW1
  intro K hK
  rw [if_pos (by rfl)]; simp only [overlay, upd, cond_true, cond_false, List.getD_cons_zero, List.getD_cons_succ, Nat.reduceEqDiff, reduceIte]
  go_simp
  refine HCC.out.mono ?_
  rintro e W' ⟨rfl, h1, h2⟩
  exact hK.out _ _ () ⟨⟨h1.os, h1.tape, h1.output, h1.size, h1.block⟩, h2⟩ trivial rfl
 all_goals
  intro q hk1 hk2 g x W1 hiv
  intro K hK
  first
   | (rw [if_pos (by rfl)]; simp only [overlay, upd, cond_true, cond_false, List.getD_cons_zero, List.getD_cons_succ, Nat.reduceEqDiff, reduceIte]
      go_simp
      exact hK.out _ _ _ hiv rfl rfl)
   | (obtain rfl : q = 0 := by simp at hk2; omega
      have hW : W1 = W0.drew := hiv
      subst hW
      rw [if_pos (by rfl)]; simp only [overlay, upd, cond_true, cond_false, List.getD_cons_zero, List.getD_cons_succ, Nat.reduceEqDiff, reduceIte]
      go_simp
      exact hK.out _ _ _ rfl rfl rfl)
set_option maxRecDepth 100000 in
theorem settle_any (d F : Nat) (u lo : Value) (ks : List ByteArray) (sz : ByteArray → Nat) (w : World) (hd : DkW w d F u lo ks sz) :
  Calls Tryz.prog 200 #[.pointer (some ⟨d, 0, none⟩)] w fun r w' => r = .returned (.tuple #[]) ∧ (∃ u', DkW w' d F u' (.slice none 0 0) ks sz) ∧ Chg [d] w w' := by
 obtain ⟨D, ⟨es, clock, hb, hrest⟩, hmr⟩ := hd.files.map
 have HK := hd_ (AnyW.maps_Clone Tryz.cloneM F es clock w hb)
 have HD := hd_ hd
 obtain ⟨ld, d0, d1, d2, d3, d4, d5, df⟩ := blk6f hd.b
 clear hd hb hrest hmr
 go_enter Tryz.func200, Tryz.ntmps200
 go_wp2_with fail
 refine HK.out.mono ?_
 rintro r w1 ⟨rfl, rfl⟩
 have hx := HD.out.ext ((by repeat (first | exact Below.refl _ _ | assumption | refine Below.drew ?_ | refine below_drewN ?_ _ | refine Below.alloc ?_ (by simp <;> omega) _)) : Below w.heap.size w (w.alloc (.map es clock)))
 have HB : Hid (Below w.heap.size w (w.alloc (.map es clock))) := (by repeat (first | exact Below.refl _ _ | assumption | refine Below.drew ?_ | refine below_drewN ?_ _ | refine Below.alloc ?_ (by simp <;> omega) _))
 have HX := hd_ hx
 have HN := hd_ hx.ne
 obtain ⟨w3, hw3, l3⟩ := blk_put hx.b
 generalize (w.alloc (.map es clock)) = W1 at hw3 HB HX
 subst hw3
 obtain ⟨pc, pf, pS⟩ := putBlk_facts (w := w3) 184 l3
 clear ld d0 d1 d2 d3 d4 d5 df hx
 go_wp2_with fail
 refine bodyPost_end (v := .tuple #[]) (by simp [results, Tryz.results200, go_sem]) rfl ?_
 refine ⟨rfl, ⟨_, putBlk_blk _ _ l3, HX.out.files.chg chg_put0 (by simpa using HN.out) fun _ _ _ h => h⟩, chg_tr (chg_mono (Chg.of_below (S := []) HB.out) (by simp)) chg_put0⟩
theorem sync_any (d F : Nat) (u lo : Value) (ks : List ByteArray) (sz : ByteArray → Nat) (w : World) (hd : DkW w d F u lo ks sz) :
  Calls Tryz.prog 150 #[.pointer (some ⟨d, 0, none⟩)] w fun r w' => r = .returned (.int .i64 0) ∧ (∃ u', DkW w' d F u' (.slice none 0 0) ks sz) ∧ Chg [d] w w' := by
 have HL := hd_ (dlive_any d F u lo ks sz [] (by simp) (by simp) none 0 w (by intro h; exact absurd rfl h) hd)
 have HD := hd_ hd
 clear hd
 go_enter Tryz.func150, Tryz.ntmps150
 go_wp2_with fail
 refine HL.out.mono ?_
 rintro r w1 ⟨rfl, hb1⟩
 have HB1 := hd_ hb1
 have HD1 := hd_ (HD.out.ext hb1)
 clear hb1
 go_wp2_with fail
 refine (dburn_any d F u lo ks sz _ HD1.out).mono ?_
 rintro r w2 ⟨rfl, rfl⟩
 go_wp2_with fail
 refine (settle_any d F u lo ks sz _ HD1.out).mono ?_
 rintro r w2 ⟨rfl, hx, hc⟩
 go_wp2_with fail
 go_ret
 exact ⟨rfl, hx, below_chg HB1.out hc⟩
end Go.Proofs.YtceoficoappkpaaGreatDoor
