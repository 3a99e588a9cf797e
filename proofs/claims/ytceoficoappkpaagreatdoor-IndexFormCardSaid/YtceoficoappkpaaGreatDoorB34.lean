/- Texts joined by a tool: contracts and walks of this claim. -/
import Derived.Test.YtceoficoappkpaaGreatDoorB33
namespace Go.Proofs.YtceoficoappkpaaGreatDoor
open Go.RowKit Go.Shelf
attribute [local go_sem] Oper.semAt_some

def nmW : ByteArray := ⟨#[115, 46, 119, 97, 108, 46, 48, 48, 48, 48, 48, 48, 48, 48, 48, 48, 48, 49]⟩
theorem nmOk_W : NmOk nmW := nmOk_of (l := [115, 46, 119, 97, 108, 46, 48, 48, 48, 48, 48, 48, 48, 48, 48, 48, 48, 49]) (by decide) (by decide) (by decide)
theorem loose_any (d F : Nat) (u : Value) (ks : List ByteArray) (sz : ByteArray → Nat) (w : World) (hd : DkW w d F u (.slice none 0 0) ks sz) :
  Calls Tryz.prog 204 #[.pointer (some ⟨d, 0, none⟩)] w fun r w' => r = .returned (.int .i64 0) ∧ w' = w := by
 obtain ⟨ld, d0, d1, d2, d3, d4, d5, df⟩ := blk6f hd.b
 clear hd
 go_enter Tryz.func204, Tryz.ntmps204
 go_wp2_with fail
 go_ret
 exact ⟨rfl, rfl⟩
set_option maxRecDepth 100000 in
set_option maxHeartbeats 800000 in
theorem walopen_any (d F : Nat) (u : Value) (ks : List ByteArray) (sz : ByteArray → Nat) (s : ByteArray) (hs : NmOk s) (hn : s ∉ ks) (w : World) (hd : DkW w d F u (.slice none 0 0) ks sz) :
  Calls Tryz.prog 153 #[.pointer (some ⟨d, 0, none⟩), .string s] w fun r w' => (∃ b, r = .returned (.tuple #[.pointer (some ⟨b, 0, none⟩), .slice none 0 0, .int .i64 0])) ∧ Below w.heap.size w w' := by
 have HR := hd_ (read_none d F u (.slice none 0 0) ks sz s hs hn w hd)
 have HL := hd_ (fun (W : World) (hW : Below w.heap.size w W) => loose_any d F u ks sz W (hd.ext hW))
 clear hd hs hn
 go_enter Tryz.func153, Tryz.ntmps153
 go_wp2_with fail
 refine HR.out.mono ?_
 rintro r w1 ⟨rfl, hb⟩
 have HB := hd_ hb
 clear hb
 go_wp2_with fail
 refine (fscan_nil _).mono ?_
 rintro r w2 ⟨rfl, hb⟩
 have HB2 : Hid (Below w.heap.size w w2) := bt HB.out hb
 clear hb
 go_wp2_with fail
 refine (HL.out _ HB2.out).mono ?_
 rintro r w3 ⟨rfl, rfl⟩
 go_wp2_with fail
 refine bodyPost_ret (v := .tuple #[.pointer (some ⟨w3.heap.size, 0, none⟩), .slice none 0 0, .int .i64 0]) (by simp [results, Tryz.results153, go_sem]) rfl ?_
 exact ⟨⟨_, rfl⟩, bt HB2.out ((by repeat (first | exact Below.refl _ _ | assumption | refine Below.drew ?_ | refine below_drewN ?_ _ | refine Below.alloc ?_ (by simp <;> omega) _)))⟩
end Go.Proofs.YtceoficoappkpaaGreatDoor
namespace Go.Proofs.YtceoficoappkpaaGreatDoor
open Go.RowKit Go.Shelf
attribute [local go_sem] Oper.semAt_some

theorem fits12 (w : World) : Calls Tryz.prog 207 #[.int .u64 1, .int .i64 12, .int .i64 4] w fun r w' => r = .returned (.bool true) ∧ w' = w := by
 go_enter Tryz.func207, Tryz.ntmps207
 go_wp2_with fail
 go_ret
 exact ⟨rfl, rfl⟩
theorem hex12 (w : World) : Calls Tryz.prog 202 #[.int .u64 1, .int .i64 12] w fun r w' => r = .returned (.tuple #[.string ⟨#[48, 48, 48, 48, 48, 48, 48, 48, 48, 48, 48, 49]⟩, .int .i64 0]) ∧ Below w.heap.size w w' :=
 hex_gen 12 (by omega) (by omega) 1 (by omega) (by omega) (fun W => fits12 W) w
theorem cat_1 : (⟨#[115]⟩ : ByteArray) ++ ⟨#[46]⟩ = ⟨#[115, 46]⟩ := rfl
theorem cat_2 : (⟨#[115, 46]⟩ : ByteArray) ++ ⟨#[119, 97, 108]⟩ = ⟨#[115, 46, 119, 97, 108]⟩ := rfl
theorem cat_3 : (⟨#[115, 46, 119, 97, 108]⟩ : ByteArray) ++ ⟨#[46]⟩ = ⟨#[115, 46, 119, 97, 108, 46]⟩ := rfl
theorem cat_4 : (⟨#[115, 46, 119, 97, 108, 46]⟩ : ByteArray) ++ ⟨#[48, 48, 48, 48, 48, 48, 48, 48, 48, 48, 48, 49]⟩ = nmW := rfl
theorem kfile_any (kk d km : Nat) (m0 m2 : Int) (wl : Value) (w : World) (h : Blk w kk (KvC d km m0 m2 wl) 145) :
  Calls Tryz.prog 152 #[.pointer (some ⟨kk, 0, none⟩), .string ⟨#[119, 97, 108]⟩, .int .u64 1] w fun r w' => r = .returned (.string nmW) ∧ Below w.heap.size w w' := by
 have HH := hd_ h
 clear h
 have z1 : (ByteArray.mk #[115]).size = 1 := rfl
 have z2 : (ByteArray.mk #[115, 46]).size = 2 := rfl
 have z3 : (ByteArray.mk #[115, 46, 119, 97, 108]).size = 5 := rfl
 have z4 : (ByteArray.mk #[115, 46, 119, 97, 108, 46]).size = 6 := rfl
 have h1 := cat_1
 have h2 := cat_2
 have h3 := cat_3
 have h4 := cat_4
 go_enter Tryz.func152, Tryz.ntmps152
 go_wp2_with fail
 refine (hex12 _).mono ?_
 rintro r w1 ⟨rfl, hb⟩
 have HB := hd_ hb
 obtain ⟨l, c0, c1, _⟩ := blk9f (HH.out.ext hb)
 clear hb
 go_wp2_with fail
 go_ret
 exact ⟨rfl, HB.out⟩
set_option maxRecDepth 100000 in
set_option maxHeartbeats 1600000 in
theorem kopen_any (kk d km F : Nat) (u : Value) (wl : Value) (sz : ByteArray → Nat) (w : World) (h : Blk w kk (KvC d km 1 2 wl) 145) (hd : DkW w d F u (.slice none 0 0) [⟨#[115, 46, 109, 97, 110]⟩] sz) :
  Calls Tryz.prog 105 #[.pointer (some ⟨kk, 0, none⟩)] w fun r w' => r = .returned (.int .i64 0) ∧ (∃ b, Blk w' kk (KvC d km 1 2 (.pointer (some ⟨b, 0, none⟩))) 145) ∧ Chg [kk] w w' := by
 have HH := hd_ h
 have HD := hd_ hd
 obtain ⟨l, c0, c1, c2, c3, c4, c5, c6, c7, c8, cf⟩ := blk9f h
 clear h hd
 go_enter Tryz.func105, Tryz.ntmps105
 go_wp2_with fail
 refine wp_loop_rounds 1 ?_
 rw [rounds_succ]
 go_upto_region 9 with fail
 let Iv : Nat → Nat → World → Prop := fun k _ W => match k with
  | 0 => W = w.drew
  | _ => Below w.heap.size w W
 refine region_phase (Iv) (fun k a b => k = 1 ∨ b = a) (0) (fun g => [.pointer (some ⟨kk, 0, none⟩), .pointer (some ⟨kk, 0, none⟩), .pointer (some ⟨kk, 0, none⟩), .pointer (some ⟨d, 0, none⟩), .pointer (some ⟨kk, 0, none⟩), .pointer (some ⟨kk, 0, none⟩), .pointer (some ⟨kk, 0, none⟩), .pointer (some ⟨kk, 2, none⟩), .pointer (some ⟨kk, 2, none⟩), .int .u64 1, .string nmW, .tuple #[.pointer (some ⟨g, 0, none⟩), .slice none 0 0, .int .i64 0], .tuple #[.pointer (some ⟨g, 0, none⟩), .slice none 0 0, .int .i64 0], .pointer (some ⟨g, 0, none⟩), .slice none 0 0, .int .i64 0, .pointer (some ⟨g, 0, none⟩), .slice none 0 0, .int .i64 0]) [10, 11] [(0, 1), (0, 1), (0, 1), (0, 1), (0, 0), (0, 0), (0, 0), (0, 0), (0, 0), (0, 0), (0, 2), (0, 2), (2, 2), (2, 2), (2, 2), (2, 2), (2, 2), (2, 2), (2, 2)] [false, false, false, false, false, false, false, true, true, true, false, false, false, false, false, false, false, false, false, false, false, false, false, false, false, false, false, false, false, false, false, false, false, false, false, false, false, false, false, false, false, false, false, false, false, false, false, false, false, true, true, true, true, true, true, true, true, true, true, true, true, true, true, true, true, false, false, false, false, false, false, false, false, false, false, false, false, false, false, false, false, false, false, false, false, false, false, false, false, false] [50, 51, 52, 53, 54, 55, 56, 57, 58, 59, 60, 61, 49, 62, 63, 64, 7, 8, 9] [16, 17, 18] rfl (fun _ => rfl) (fun k ga gb hr j c hc hne hcl => hr.elim (fun hk => by subst hk; obtain rfl : 11 = c := (by simpa using hc); exact (match j, hne, hcl with | 0, _, _ => rfl | 1, _, _ => rfl | 2, _, _ => rfl | 3, _, _ => rfl | 4, _, _ => rfl | 5, _, _ => rfl | 6, _, _ => rfl | 7, _, _ => rfl | 8, _, _ => rfl | 9, _, _ => rfl | 10, _, _ => rfl | 11, hne, _ => absurd rfl hne | 12, _, hcl => absurd (hcl.symm.trans (by kernel_rfl)) Bool.false_ne_true | 13, _, hcl => absurd (hcl.symm.trans (by kernel_rfl)) Bool.false_ne_true | 14, _, hcl => absurd (hcl.symm.trans (by kernel_rfl)) Bool.false_ne_true | 15, _, hcl => absurd (hcl.symm.trans (by kernel_rfl)) Bool.false_ne_true | 16, _, hcl => absurd (hcl.symm.trans (by kernel_rfl)) Bool.false_ne_true | 17, _, hcl => absurd (hcl.symm.trans (by kernel_rfl)) Bool.false_ne_true | 18, _, hcl => absurd (hcl.symm.trans (by kernel_rfl)) Bool.false_ne_true | j + 19, _, _ => rfl)) (fun h => by rw [h])) (by kernel_rfl) (by kernel_rfl) (by kernel_rfl) (by decide) (by kernel_rfl) (by kernel_rfl) (by kernel_rfl) (by kernel_rfl) (by kernel_rfl) ⟨PhStep.pure rfl ?_, PhStep.pure rfl ?_, PhStep.pure rfl ?_, PhStep.pure rfl ?_, PhStep.pure rfl ?_, PhStep.pure rfl ?_, PhStep.pure rfl ?_, PhStep.pure rfl ?_, PhStep.pure rfl ?_, PhStep.pure rfl ?_, PhStep.chain 0 rfl ?c9_10, PhStep.chain 1 rfl ?c9_11, PhStep.pure rfl ?_, PhStep.pure rfl ?_, PhStep.pure rfl ?_, PhStep.pure rfl ?_, PhStep.pure rfl ?_, PhStep.pure rfl ?_, PhStep.pure rfl ?_, trivial⟩ ?done9
 case done9 =>
  intro g x W hiv
  have hW : Below w.heap.size w W := hiv
  simp only [StepGoal, List.map_cons, List.map_nil, overlay, upd, cond_true, cond_false, List.getD_cons_zero, List.getD_cons_succ, Nat.zero_add, Nat.reduceAdd, Nat.reduceEqDiff, reduceIte]
  clear hiv Iv l c0 c1 c2 c3 c4 c5 c6 c7 c8 cf
  have HW := hd_ hW
  obtain ⟨w3, rfl, l3⟩ := blk_put (HH.out.ext hW)
  obtain ⟨pc, pf, pS⟩ := putBlk_facts (w := w3) 145 l3
  clear hW HH HD
  unfold KvC at *
  go_wp2_with fail
  refine wp_loop_rounds 1 ?_
  rw [rounds_succ]
  go_wp2_with fail
  go_ret
  exact ⟨rfl, ⟨g, putBlk_blk _ _ l3⟩, chg_tr (chg_mono (Chg.of_below (S := []) HW.out) (by simp)) chg_put0⟩
 case c9_10 =>
  intro g x W1 hiv
  have hW1 : W1 = w.drew := hiv
  subst hW1
  intro K hK
  rw [if_pos (by rfl)]; simp only [overlay, upd, cond_true, cond_false, List.getD_cons_zero, List.getD_cons_succ, Nat.reduceEqDiff, reduceIte]
  go_simp
  refine (kfile_any kk d km 1 2 wl w.drew (HH.out.ext (by repeat (first | exact Below.refl _ _ | assumption | refine Below.drew ?_ | refine below_drewN ?_ _ | refine Below.alloc ?_ (by simp <;> omega) _)))).mono ?_
  rintro e W' ⟨rfl, h1⟩
  exact hK.out _ _ g (⟨h1.os, h1.tape, h1.output, h1.size, h1.block⟩ : Below w.heap.size w W') (Or.inr rfl) rfl
 case c9_11 =>
  intro g x W1 hiv
  have hX : Below w.heap.size w W1 := hiv
  intro K hK
  rw [if_pos (by rfl)]; simp only [overlay, upd, cond_true, cond_false, List.getD_cons_zero, List.getD_cons_succ, Nat.reduceEqDiff, reduceIte]
  go_simp
  refine (walopen_any d F u [⟨#[115, 46, 109, 97, 110]⟩] sz nmW nmOk_W (by simp [nmW]) W1 (HD.out.ext hX)).mono ?_
  rintro e W' ⟨⟨b, rfl⟩, h1⟩
  exact hK.out _ _ b (bt hX h1 : Below w.heap.size w W') (Or.inl rfl) rfl
 all_goals
  intro q hk1 hk2 g x W1 hiv
  intro K hK
  first
   | (rw [if_pos (by rfl)]; simp only [overlay, upd, cond_true, cond_false, List.getD_cons_zero, List.getD_cons_succ, Nat.reduceEqDiff, reduceIte]
      go_simp
      exact hK.out _ _ _ hiv rfl rfl)
   | (rw [if_pos (by rfl)]; simp only [overlay, cond_true, cond_false]
      go_simp
      exact hK.out _ _ _ hiv rfl rfl)
   | (have hX : Below w.heap.size w W1 := by
       have hq : q = 0 ∨ 0 < q := by omega
       rcases hq with rfl | hq
       · have h : W1 = w.drew := hiv
         rw [h]; exact (by repeat (first | exact Below.refl _ _ | assumption | refine Below.drew ?_ | refine below_drewN ?_ _ | refine Below.alloc ?_ (by simp <;> omega) _))
       · match q, hq, hiv with
         | q + 1, _, hiv => exact hiv
      obtain ⟨lq, e0, e1, e2, e3, e4, e5, e6, e7, e8, ef⟩ := blk9f (HH.out.ext hX)
      rw [if_pos (by rfl)]; simp only [overlay, upd, cond_true, cond_false, List.getD_cons_zero, List.getD_cons_succ, Nat.reduceEqDiff, reduceIte]
      go_simp
      exact hK.out _ _ _ hiv rfl rfl)
end Go.Proofs.YtceoficoappkpaaGreatDoor
namespace Go.Proofs.YtceoficoappkpaaGreatDoor
open Go.RowKit Go.Shelf
attribute [local go_sem] Oper.semAt_some

set_option maxRecDepth 100000 in
set_option maxHeartbeats 1600000 in
theorem steps_any (x kk d km F : Nat) (u : Value) (sz : ByteArray → Nat) (w0 w : World) (hL : LayX w0) (hb0 : Below w0.heap.size w0 w) (hlo : ∀ i ∈ [kk, d, F], w0.heap.size ≤ i) (h : Blk w kk (KvC d km 0 0 (.pointer none)) 145) (hd : DkW w d F u (.slice none 0 0) [] sz)
  (hx : Blk w x #[.func (.func 103) #[.pointer (some ⟨kk, 0, none⟩)] #[], .func (.func 104) #[.pointer (some ⟨kk, 0, none⟩)] #[], .func (.func 105) #[.pointer (some ⟨kk, 0, none⟩)] #[]] 186) :
  Calls Tryz.prog 102 #[.pointer (some ⟨kk, 0, none⟩), .slice (some ⟨x, 0, none⟩) 3 3] w fun r w' => r = .returned (.int .i64 0) ∧ (∃ b, Blk w' kk (KvC d km 1 2 (.pointer (some ⟨b, 0, none⟩))) 145) ∧ Chg [kk, d, F] w w' := by
 have HLD := hd_ (load_any kk d km F u (.pointer none) sz w h hd)
 have hxn : ∀ i ∈ [kk, d, F], x ≠ i := by
  intro i hi
  simp only [List.mem_cons, List.not_mem_nil, or_false] at hi
  rcases hi with rfl | rfl | rfl
  · exact blk_nt hx h (by decide)
  · exact blk_nt hx hd.b (by decide)
  · exact hd.neF hx
 have hxm : x ∉ [kk, d, F] := fun hm => hxn x hm rfl
 have HX := hd_ hx
 have HXM := hd_ hxm
 have HLO := hd_ hlo
 have HL := hd_ hL
 have HB0 := hd_ hb0
 obtain ⟨lx, x0, x1, x2⟩ : x < w.heap.size ∧ w.cell? ⟨x, 0, none⟩ = some (.func (.func 103) #[.pointer (some ⟨kk, 0, none⟩)] #[]) ∧ w.cell? ⟨x, 1, none⟩ = some (.func (.func 104) #[.pointer (some ⟨kk, 0, none⟩)] #[]) ∧ w.cell? ⟨x, 2, none⟩ = some (.func (.func 105) #[.pointer (some ⟨kk, 0, none⟩)] #[]) := ⟨hx.lt, hx.cell 0, hx.cell 1, hx.cell 2⟩
 clear h hd hx hxn hxm hlo hL hb0
 go_enter Tryz.func102, Tryz.ntmps102
 go_wp2_with fail
 refine wp_loop_rounds 4 ?_
 rw [rounds_succ]
 go_wp2_with fail
 refine HLD.out.mono ?_
 rintro r w1 ⟨rfl, ⟨u1, sz1, hd1⟩, hk1, hc1⟩
 have hx1 := HX.out.chg hc1 HXM.out
 have hb1 : Below w0.heap.size w0 w1 := HB0.out.trans (chg_below hc1 HLO.out HB0.out.size)
 have HSW := hd_ (sweep_any kk d km F u1 (.slice none 0 0) 1 2 (.pointer none) sz1 w1 hk1 hd1 (HL.out.ext hb1))
 have HOP := hd_ (fun (W : World) (hW : Below w1.heap.size w1 W) => kopen_any kk d km F u1 (.pointer none) sz1 W (hk1.ext hW) (hd1.ext hW))
 have HX1 := hd_ hx1
 have HC1 := hd_ hc1
 clear lx x0 x1 x2 hc1 hb1 hk1 hd1
 obtain ⟨lx, x0, x1, x2⟩ : x < w1.heap.size ∧ w1.cell? ⟨x, 0, none⟩ = some (.func (.func 103) #[.pointer (some ⟨kk, 0, none⟩)] #[]) ∧ w1.cell? ⟨x, 1, none⟩ = some (.func (.func 104) #[.pointer (some ⟨kk, 0, none⟩)] #[]) ∧ w1.cell? ⟨x, 2, none⟩ = some (.func (.func 105) #[.pointer (some ⟨kk, 0, none⟩)] #[]) := ⟨hx1.lt, hx1.cell 0, hx1.cell 1, hx1.cell 2⟩
 clear hx1
 go_wp2_with fail
 rw [rounds_succ]
 go_wp2_with fail
 refine HSW.out.mono ?_
 rintro r w2 ⟨rfl, hb2⟩
 have HB2 := hd_ hb2
 have hx2 := HX1.out.ext hb2
 clear lx x0 x1 x2 hb2
 obtain ⟨lx, x0, x1, x2⟩ : x < w2.heap.size ∧ w2.cell? ⟨x, 0, none⟩ = some (.func (.func 103) #[.pointer (some ⟨kk, 0, none⟩)] #[]) ∧ w2.cell? ⟨x, 1, none⟩ = some (.func (.func 104) #[.pointer (some ⟨kk, 0, none⟩)] #[]) ∧ w2.cell? ⟨x, 2, none⟩ = some (.func (.func 105) #[.pointer (some ⟨kk, 0, none⟩)] #[]) := ⟨hx2.lt, hx2.cell 0, hx2.cell 1, hx2.cell 2⟩
 clear hx2
 go_wp2_with fail
 rw [rounds_succ]
 go_wp2_with fail
 refine (HOP.out _ HB2.out).mono ?_
 rintro r w3 ⟨rfl, hk3, hc3⟩
 have HC3 := hd_ hc3
 have HK3 := hd_ hk3
 clear lx x0 x1 x2 hc3 hk3
 go_wp2_with fail
 rw [rounds_succ]
 go_wp2_with fail
 go_ret
 exact ⟨rfl, HK3.out, chg_tr HC1.out (chg_tr (chg_mono (Chg.of_below (S := []) HB2.out) (by simp)) (chg_mono HC3.out (by simp)))⟩
end Go.Proofs.YtceoficoappkpaaGreatDoor
namespace Go.Proofs.YtceoficoappkpaaGreatDoor
open Go.RowKit Go.Shelf
attribute [local go_sem] Oper.semAt_some

set_option maxRecDepth 100000 in
set_option maxHeartbeats 1600000 in
theorem kvopen_any (d F : Nat) (u : Value) (sz : ByteArray → Nat) (w0 w : World) (hL : LayX w0) (hb0 : Below w0.heap.size w0 w) (hd0 : w0.heap.size ≤ d) (hF0 : w0.heap.size ≤ F) (hd : DkW w d F u (.slice none 0 0) [] sz) :
  Calls Tryz.prog 69 #[.pointer (some ⟨d, 0, none⟩), .string ⟨#[115]⟩] w fun r w' => (∃ kk km, r = .returned (.tuple #[.pointer (some ⟨kk, 0, none⟩), .int .i64 0]) ∧ KvR w' kk km) ∧ Below w0.heap.size w0 w' := by
 have HD := hd_ hd
 have HL := hd_ hL
 have HB0 := hd_ hb0
 have HLO := hd_ (And.intro hd0 hF0)
 have z1 : (ByteArray.mk #[115]).size = 1 := rfl
 clear hd hL hb0 hd0 hF0
 go_enter Tryz.func69, Tryz.ntmps69
 go_wp2_with fail
 refine (memnew_any _).mono ?_
 rintro r w1 ⟨rfl, hM, hb⟩
 have HM := hd_ hM
 have HB1 := hd_ hb
 have hl1 : w.heap.size < w1.heap.size := hM.1.lt
 clear hM hb
 go_wp2_with fail
 have hk : Blk ((w1.alloc (.cells #[.pointer (some ⟨d, 0, none⟩), .string ⟨#[115]⟩, .int .u64 0, .slice none 0 0, .int .u64 0, .pointer none, .pointer (some ⟨w.heap.size, 0, none⟩), .slice none 0 0, .int .i64 0] 145)).alloc (.cells #[.func (.func 103) #[.pointer (some ⟨w1.heap.size, 0, none⟩)] #[], .func (.func 104) #[.pointer (some ⟨w1.heap.size, 0, none⟩)] #[], .func (.func 105) #[.pointer (some ⟨w1.heap.size, 0, none⟩)] #[]] 186)) w1.heap.size (KvC d w.heap.size 0 0 (.pointer none)) 145 := Blk.old (Blk.new _ _ _) _
 have hx : Blk ((w1.alloc (.cells #[.pointer (some ⟨d, 0, none⟩), .string ⟨#[115]⟩, .int .u64 0, .slice none 0 0, .int .u64 0, .pointer none, .pointer (some ⟨w.heap.size, 0, none⟩), .slice none 0 0, .int .i64 0] 145)).alloc (.cells #[.func (.func 103) #[.pointer (some ⟨w1.heap.size, 0, none⟩)] #[], .func (.func 104) #[.pointer (some ⟨w1.heap.size, 0, none⟩)] #[], .func (.func 105) #[.pointer (some ⟨w1.heap.size, 0, none⟩)] #[]] 186)) (w1.heap.size + 1) #[.func (.func 103) #[.pointer (some ⟨w1.heap.size, 0, none⟩)] #[], .func (.func 104) #[.pointer (some ⟨w1.heap.size, 0, none⟩)] #[], .func (.func 105) #[.pointer (some ⟨w1.heap.size, 0, none⟩)] #[]] 186 := Blk.at (by simp)
 have hw2 : Below w1.heap.size w1 ((w1.alloc (.cells #[.pointer (some ⟨d, 0, none⟩), .string ⟨#[115]⟩, .int .u64 0, .slice none 0 0, .int .u64 0, .pointer none, .pointer (some ⟨w.heap.size, 0, none⟩), .slice none 0 0, .int .i64 0] 145)).alloc (.cells #[.func (.func 103) #[.pointer (some ⟨w1.heap.size, 0, none⟩)] #[], .func (.func 104) #[.pointer (some ⟨w1.heap.size, 0, none⟩)] #[], .func (.func 105) #[.pointer (some ⟨w1.heap.size, 0, none⟩)] #[]] 186)) := (by repeat (first | exact Below.refl _ _ | assumption | refine Below.drew ?_ | refine below_drewN ?_ _ | refine Below.alloc ?_ (by simp <;> omega) _))
 generalize ((w1.alloc (.cells #[.pointer (some ⟨d, 0, none⟩), .string ⟨#[115]⟩, .int .u64 0, .slice none 0 0, .int .u64 0, .pointer none, .pointer (some ⟨w.heap.size, 0, none⟩), .slice none 0 0, .int .i64 0] 145)).alloc (.cells #[.func (.func 103) #[.pointer (some ⟨w1.heap.size, 0, none⟩)] #[], .func (.func 104) #[.pointer (some ⟨w1.heap.size, 0, none⟩)] #[], .func (.func 105) #[.pointer (some ⟨w1.heap.size, 0, none⟩)] #[]] 186)) = W at hk hx hw2 ⊢
 have hbW : Below w0.heap.size w0 W := bt HB0.out (bt HB1.out hw2)
 have hdW := HD.out.ext (bt HB1.out hw2)
 have hMW : MemB W w.heap.size none 0 0 0 := HM.out.ext hw2
 have hs0 := HB0.out.size
 have hS := steps_any (w1.heap.size + 1) w1.heap.size d w.heap.size F u sz w0 W HL.out hbW (by
  intro i hi
  simp only [List.mem_cons, List.not_mem_nil, or_false] at hi
  rcases hi with rfl | rfl | rfl
  · omega
  · exact HLO.out.1
  · exact HLO.out.2) hk hdW hx
 have HS := hd_ hS
 have HMW := hd_ hMW
 have HBW := hd_ hbW
 have HNE : Hid (w.heap.size ∉ [w1.heap.size, d, F]) := by
  show _ ∉ _
  simp only [List.mem_cons, List.not_mem_nil, or_false, not_or]
  exact ⟨by omega, blk_nt hMW.1 hdW.b (by decide), hdW.neF hMW.1⟩
 have HLK : Hid (∀ i ∈ [w1.heap.size, d, F], w0.heap.size ≤ i) := by
  intro i hi
  simp only [List.mem_cons, List.not_mem_nil, or_false] at hi
  rcases hi with rfl | rfl | rfl
  · omega
  · exact HLO.out.1
  · exact HLO.out.2
 clear hk hx hw2 hbW hdW hMW hS HM HB1 HD hl1
 generalize w1.heap.size = kk at *
 generalize w.heap.size = km at *
 go_wp2_with fail
 refine HS.out.mono ?_
 rintro r w3 ⟨rfl, ⟨b, hk3⟩, hc3⟩
 have HK3 := hd_ hk3
 have HM3 : Hid (MemB w3 km none 0 0 0) := ⟨HMW.out.1.chg hc3 HNE.out, HMW.out.2⟩
 have HB3 : Hid (Below w0.heap.size w0 w3) := HBW.out.trans (chg_below hc3 HLK.out HBW.out.size)
 clear hk3 hc3
 go_wp2_with fail
 refine bodyPost_ret (v := .tuple #[.pointer (some ⟨kk, 0, none⟩), .int .i64 0]) (by simp [results, Tryz.results69, go_sem]) rfl ?_
 exact ⟨⟨kk, km, rfl, ⟨⟨_, _, _, _, _, _, _, HK3.out⟩, MemR.new HM3.out⟩⟩, HB3.out⟩
theorem store_any (w : World) (hL : LayX w) :
  Calls Tryz.prog 25 #[] w fun r w' => (∃ kk km, r = .returned (.pointer (some ⟨kk, 0, none⟩)) ∧ KvR w' kk km) ∧ Below w.heap.size w w' := by
 have HL := hd_ hL
 clear hL
 go_enter Tryz.func25, Tryz.ntmps25
 go_wp2_with fail
 refine (dnew_any (fun _ => 0) _).mono ?_
 rintro r w1 ⟨⟨d, F, u, rfl, hd, h1, h2⟩, hb⟩
 have HO := hd_ (kvopen_any d F u (fun _ => 0) w w1 HL.out hb h1 h2 hd)
 clear hd h1 h2 hb
 go_wp2_with fail
 refine HO.out.mono ?_
 rintro r w2 ⟨⟨kk, km, rfl, hk⟩, hb⟩
 go_wp2_with fail
 go_ret
 exact ⟨⟨kk, km, rfl, hk⟩, hb⟩
end Go.Proofs.YtceoficoappkpaaGreatDoor
