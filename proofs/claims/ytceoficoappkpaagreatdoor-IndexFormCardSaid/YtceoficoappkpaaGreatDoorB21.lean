/- Texts joined by a tool: contracts and walks of this claim. -/
import Derived.Test.YtceoficoappkpaaGreatDoorB20
namespace Go.Proofs.YtceoficoappkpaaGreatDoor
open Go.RowKit Go.Shelf
attribute [local go_sem] Oper.semAt_some

theorem merged_any (a b : Value) (w : World) (ha : ∃ A n c, a = .slice A n c) (hb : ∃ A n c, b = .slice A n c) : Calls Tryz.prog 52 #[a, b] w fun r w' => r = .returned (.func (.func 82) #[] #[.pointer (some ⟨w.heap.size, 0, none⟩), .pointer (some ⟨w.heap.size + 1, 0, none⟩)]) ∧ Blk w' w.heap.size #[a] 36 ∧ Blk w' (w.heap.size + 1) #[b] 36 ∧ Below w.heap.size w w' := by
 obtain ⟨A1, n1, c1, rfl⟩ := ha
 obtain ⟨A2, n2, c2, rfl⟩ := hb
 go_enter Tryz.func52, Tryz.ntmps52
 go_wp2_with fail
 go_ret
 exact ⟨rfl, (by repeat (first | exact Blk.at (by simp) | assumption | refine Blk.drew ?_ | refine Blk.old ?_ _)), (by repeat (first | exact Blk.at (by simp) | assumption | refine Blk.drew ?_ | refine Blk.old ?_ _)), (by repeat (first | exact Below.refl _ _ | assumption | refine Below.drew ?_ | refine below_drewN ?_ _ | refine Below.alloc ?_ (by simp <;> omega) _))⟩
structure KvR (w : World) (kk km : Nat) : Prop where
 b : ∃ d nm m0 m1 m2 wl fa, Blk w kk #[d, nm, m0, m1, m2, wl, .pointer (some ⟨km, 0, none⟩), .slice none 0 0, fa] 145
 mem : MemR w km .nil
theorem KvR.ext {w w' : World} {kk km : Nat} (h : KvR w kk km) (hb : Below w.heap.size w w') : KvR w' kk km := by
 obtain ⟨d, nm, m0, m1, m2, wl, fa, h1⟩ := h.b
 exact ⟨⟨d, nm, m0, m1, m2, wl, fa, h1.ext hb⟩, h.mem.ext hb⟩
theorem KvR.cells {w : World} {kk km : Nat} (h : KvR w kk km) : kk < w.heap.size ∧ w.cell? ⟨kk, 6, none⟩ = some (.pointer (some ⟨km, 0, none⟩)) ∧ w.cell? ⟨kk, 7, none⟩ = some (.slice none 0 0) := by
 obtain ⟨d, nm, m0, m1, m2, wl, fa, h1⟩ := h.b
 exact ⟨h1.lt, h1.cell 6, h1.cell 7⟩
theorem sources_any (kk km : Nat) (w : World) (h : KvR w kk km) : Calls Tryz.prog 81 #[.pointer (some ⟨kk, 0, none⟩)] w fun r w' => r = .returned (.slice none 0 0) ∧ w' = w := by
 obtain ⟨lk, k6, k7⟩ := h.cells
 clear h
 go_enter Tryz.func81, Tryz.ntmps81
 go_wp2_with fail
 go_loopw [2, 10] (fun s i wr => s = .slice none 0 0 ∧ i = .int .i64 0 ∧ wr = w) (fun _ _ _ => 0)
 case atStart => exact ⟨rfl, rfl, rfl⟩
 case round =>
  obtain ⟨rfl, rfl, rfl⟩ := hrel
  go_wp2_with fail
  go_ret
  exact ⟨rfl, rfl⟩
set_option maxRecDepth 100000 in
theorem next_any (km : Nat) (fr tt : ByteArray) (w : World) (h : MemR w km .nil) : Calls Tryz.prog 292 #[.agg #[.pointer (some ⟨km, 0, none⟩)], .string fr, .string tt, .int .i64 4] w fun r w' => (∃ A c, r = .returned (.tuple #[.slice A 0 c, .int .i64 0])) ∧ Below w.heap.size w w' := by
 have HS := hd_ (fun (W : World) (hW : Below w.heap.size w W) => scan_any km .nil fr tt 4 W (h.ext hW) (by decide) (by simp [Tr.fromL]))
 clear h
 go_enter Tryz.func292, Tryz.ntmps292
 go_wp2_with fail
 refine (HS.out _ (by repeat (first | exact Below.refl _ _ | assumption | refine Below.drew ?_ | refine below_drewN ?_ _ | refine Below.alloc ?_ (by simp <;> omega) _))).mono ?_
 rintro r w1 ⟨A, c, rfl, _, hb⟩
 have HB : Hid (Below w.heap.size w w1) := bt ((by repeat (first | exact Below.refl _ _ | assumption | refine Below.drew ?_ | refine below_drewN ?_ _ | refine Below.alloc ?_ (by simp <;> omega) _))) hb
 clear hb
 simp only [Tr.fromL, scanL, List.takeWhile_nil, List.take_nil, List.length_nil]
 go_wp2_with fail
 refine bodyPost_ret (v := .tuple #[.slice A 0 c, .int .i64 0]) (by simp [results, Tryz.results292, go_sem]) rfl ?_
 exact ⟨⟨A, c, rfl⟩, HB.out⟩
theorem meth_next (k km : Nat) (w : World) : Sem.run Tryz.prog (method (k + 1) 156 (.agg #[.pointer (some ⟨km, 0, none⟩)]) "fascicle/kv.next") w = .ok (292, .agg #[.pointer (some ⟨km, 0, none⟩)]) w := by
 kernel_rfl
set_option maxRecDepth 100000 in
set_option maxHeartbeats 1000000 in
theorem fill_any (km cb : Nat) (fr tt : ByteArray) (y : Value) (w : World) (h : MemR w km .nil) (hc : Blk w cb #[.iface 156 (.agg #[.pointer (some ⟨km, 0, none⟩)]), .string tt, .slice none 0 0, y] 210) :
  Calls Tryz.prog 121 #[.pointer (some ⟨cb, 0, none⟩), .string fr] w fun r w' => r = .returned (.int .i64 0) ∧ Chg [cb] w w' ∧ ∃ A c, Blk w' cb #[.iface 156 (.agg #[.pointer (some ⟨km, 0, none⟩)]), .string tt, .slice A 0 c, y] 210 := by
 have HN := hd_ (next_any km fr tt w.drew (h.ext (by repeat (first | exact Below.refl _ _ | assumption | refine Below.drew ?_ | refine below_drewN ?_ _ | refine Below.alloc ?_ (by simp <;> omega) _))))
 have HC := hd_ hc
 obtain ⟨lc, c0, c1, c2, c3, cf⟩ := blk4f hc
 clear hc h
 go_enter Tryz.func121, Tryz.ntmps121
 go_upto_region 1 with fail
 let Iv : Nat → (Option Addr × Nat) → World → Prop := fun q g W1 => match q with
  | 0 => W1 = w.drew
  | 1 => Below w.heap.size w W1
  | _ => Chg [cb] w W1 ∧ Blk W1 cb #[.iface 156 (.agg #[.pointer (some ⟨km, 0, none⟩)]), .string tt, .slice g.1 0 g.2, y] 210
 refine region_phase (Iv) (fun k a b => k = 0 ∨ b = a) ((none, 0)) (fun g => [.pointer (some ⟨cb, 0, none⟩), .pointer (some ⟨cb, 0, none⟩), .pointer (some ⟨cb, 0, none⟩), .pointer (some ⟨cb, 0, none⟩), .iface 156 (.agg #[.pointer (some ⟨km, 0, none⟩)]), .string fr, .pointer (some ⟨cb, 0, none⟩), .pointer (some ⟨cb, 0, none⟩), .pointer (some ⟨cb, 1, none⟩), .string tt, .iface 156 (.agg #[.pointer (some ⟨km, 0, none⟩)]), .iface 156 (.agg #[.pointer (some ⟨km, 0, none⟩)]), .tuple #[.slice g.1 0 g.2, .int .i64 0], .tuple #[.slice g.1 0 g.2, .int .i64 0], .slice g.1 0 g.2, .int .i64 0, .pointer (some ⟨cb, 0, none⟩), .pointer (some ⟨cb, 2, none⟩), undef, .int .i64 0]) [12, 18] [(0, 1), (0, 0), (0, 0), (0, 0), (0, 0), (0, 0), (0, 0), (0, 0), (0, 0), (0, 0), (0, 0), (0, 0), (0, 2), (1, 1), (1, 1), (1, 2), (1, 1), (1, 1), (0, 2), (2, 2)] [false, false, false, false, true, true, true, true, true, true, true, true, true, true, true, true, true, true, true, true, true, true, true, false] [6, 7, 8, 9, 10, 11, 12, 13, 14, 15, 16, 17, 18, 5, 19, 20, 21, 22, 0, 4] [19] rfl (fun _ => rfl) (fun k ga gb hr j c hc hne hcl => hr.elim (fun hk => by subst hk; obtain rfl : 12 = c := (by simpa using hc); exact (match j, hne, hcl with | 0, _, _ => rfl | 1, _, _ => rfl | 2, _, _ => rfl | 3, _, _ => rfl | 4, _, _ => rfl | 5, _, _ => rfl | 6, _, _ => rfl | 7, _, _ => rfl | 8, _, _ => rfl | 9, _, _ => rfl | 10, _, _ => rfl | 11, _, _ => rfl | 12, hne, _ => absurd rfl hne | 13, _, hcl => absurd (hcl.symm.trans (by kernel_rfl)) Bool.false_ne_true | 14, _, hcl => absurd (hcl.symm.trans (by kernel_rfl)) Bool.false_ne_true | 15, _, hcl => absurd (hcl.symm.trans (by kernel_rfl)) Bool.false_ne_true | 16, _, hcl => absurd (hcl.symm.trans (by kernel_rfl)) Bool.false_ne_true | 17, _, hcl => absurd (hcl.symm.trans (by kernel_rfl)) Bool.false_ne_true | 18, _, hcl => absurd (hcl.symm.trans (by kernel_rfl)) Bool.false_ne_true | 19, _, hcl => absurd (hcl.symm.trans (by kernel_rfl)) Bool.false_ne_true | j + 20, _, _ => rfl)) (fun h => by rw [h])) (by kernel_rfl) (by kernel_rfl) (by kernel_rfl) (by decide) (by kernel_rfl) (by kernel_rfl) (by kernel_rfl) (by kernel_rfl) (by kernel_rfl) ⟨PhStep.pure rfl ?_, PhStep.pure rfl ?_, PhStep.pure rfl ?_, PhStep.pure rfl ?_, PhStep.pure rfl ?_, PhStep.pure rfl ?_, PhStep.pure rfl ?_, PhStep.pure rfl ?_, PhStep.pure rfl ?_, PhStep.pure rfl ?_, PhStep.pure rfl ?_, PhStep.pure rfl ?_, PhStep.chain 0 rfl ?c1_12, PhStep.pure rfl ?_, PhStep.pure rfl ?_, PhStep.pure rfl ?_, PhStep.pure rfl ?_, PhStep.pure rfl ?_, PhStep.chain 1 rfl ?c1_18, PhStep.pure rfl ?_, trivial⟩ ?done1
 case done1 =>
  intro g x W1 hiv
  have hF : Chg [cb] w W1 ∧ Blk W1 cb #[.iface 156 (.agg #[.pointer (some ⟨km, 0, none⟩)]), .string tt, .slice g.1 0 g.2, y] 210 := hiv
  simp only [StepGoal, List.map_cons, List.map_nil, overlay, upd, cond_true, cond_false, List.getD_cons_zero, List.getD_cons_succ, Nat.zero_add, Nat.reduceAdd, Nat.reduceEqDiff, reduceIte]
  clear hiv Iv
  have HF := hd_ hF
  clear hF
  go_wp2_with fail
  go_ret
  exact ⟨rfl, HF.out.1, g.1, g.2, HF.out.2⟩
 case c1_12 =>
  intro g x W1 hiv
  have hW1 : W1 = w.drew := hiv
  subst hW1
  intro K hK
  rw [if_pos (by rfl)]; simp only [overlay, upd, cond_true, cond_false, List.getD_cons_zero, List.getD_cons_succ, Nat.reduceEqDiff, reduceIte]
  go_simp
  rw [meth_next]
  go_simp
  refine HN.out.mono ?_
  rintro e W' ⟨⟨A, c, rfl⟩, hb⟩
  exact hK.out _ _ (A, c) (bt ((by repeat (first | exact Below.refl _ _ | assumption | refine Below.drew ?_ | refine below_drewN ?_ _ | refine Below.alloc ?_ (by simp <;> omega) _))) hb) (Or.inl rfl) rfl
 case c1_18 =>
  intro g x W1 hiv
  have hW1 : Below w.heap.size w W1 := hiv
  intro K hK
  obtain ⟨w3, he3, lt⟩ := blk_put (HC.out.ext hW1)
  have HW1 := hd_ hW1
  subst he3
  obtain ⟨pc, pf, pS⟩ := putBlk_facts (w := w3) 210 lt
  clear hiv hW1
  rw [if_pos (by rfl)]; simp only [overlay, upd, cond_true, cond_false, List.getD_cons_zero, List.getD_cons_succ, Nat.reduceEqDiff, reduceIte]
  go_simp
  exact hK.out _ _ g ⟨(Chg.of_below HW1.out).trans (Chg.of_grown (S := [cb]) (Rg.put_only _ _ _ _ _) (by simp)) (by simp), putBlk_blk _ _ lt⟩ (Or.inr rfl) rfl
 all_goals
  intro q hk1 hk2 g x W1 hiv
  intro K hK
  first
   | (rw [if_pos (by rfl)]; simp only [overlay, upd, cond_true, cond_false, List.getD_cons_zero, List.getD_cons_succ, Nat.reduceEqDiff, reduceIte]
      go_simp
      exact hK.out _ _ _ hiv rfl rfl)
   | (obtain rfl : q = 0 := by simp at hk2; omega
      have hW : W1 = w.drew := hiv
      subst hW
      first
       | (rw [if_pos (by rfl)]; simp only [overlay, upd, cond_true, cond_false, List.getD_cons_zero, List.getD_cons_succ, Nat.reduceEqDiff, reduceIte]
          go_simp
          exact hK.out _ _ _ rfl rfl rfl)
       | (rw [if_pos (by rfl)]; simp only [overlay, cond_true, cond_false]
          go_simp
          exact hK.out _ _ _ rfl rfl rfl))
end Go.Proofs.YtceoficoappkpaaGreatDoor
namespace Go.Proofs.YtceoficoappkpaaGreatDoor
open Go.RowKit Go.Shelf
attribute [local go_sem] Oper.semAt_some

theorem info_Cr : (Tryz.prog.info? 208).map (fun i => (i.zero, i.size, i.bytes)) = some (some (.pointer none), 1, 8) := by kernel_rfl
def CrI (mb cb : Nat) (w : World) : Prop := ∃ (B g c : Nat) (A : Option Addr) (ca : Nat) (i y : Value) (tt : ByteArray), Blk w mb #[.slice (some ⟨g, 0, none⟩) 1 c] 205 ∧ w.ownsRow B 208 1 (.slice (some ⟨g, 0, none⟩) 1 c) 1 [.pointer (some ⟨cb, 0, none⟩)] ∧ Blk w cb #[i, .string tt, .slice A 0 ca, y] 210
set_option maxRecDepth 100000 in
theorem least_any (mb cb : Nat) (w : World) (h : CrI mb cb w) : Calls Tryz.prog 122 #[.pointer (some ⟨mb, 0, none⟩)] w fun r w' => r = .returned (.pointer none) ∧ w' = w := by
 obtain ⟨B, g, c, A, ca, i, y, tt, h1, h2, h3⟩ := h
 have m0 : w.cell? ⟨mb, 0, none⟩ = some (.slice (some ⟨g, 0, none⟩) 1 c) := h1.cell 0
 have lm := h1.lt
 have g0 : w.cell? ⟨g, 0, none⟩ = some (.pointer (some ⟨cb, 0, none⟩)) := by have := h2.cellAt 0 (by decide); simpa using this
 have lg : g < w.heap.size := (h2.lt g rfl).2
 obtain ⟨lc, c0, c1, c2, c3, _⟩ := blk4f h3
 clear h1 h2 h3
 go_enter Tryz.func122, Tryz.ntmps122
 go_wp2_with fail
 go_loopw [2, 10] (fun s i wr => s = .pointer none ∧ (i = .int .i64 0 ∨ i = .int .i64 1) ∧ wr = w) (fun _ i _ => 1 - (intOf i).toNat)
 case atStart => exact ⟨rfl, Or.inl rfl, rfl⟩
 case round =>
  obtain ⟨rfl, rfl | rfl, rfl⟩ := hrel
  · go_wp2_with fail
    go_roundw
    case rel => exact ⟨rfl, Or.inr (by go_num), trivial⟩
    case measure => simp [intOf]
  · go_wp2_with fail
    go_ret
    exact ⟨rfl, rfl⟩
set_option maxRecDepth 100000 in
set_option maxHeartbeats 1000000 in
theorem merge_any (km sb so sc : Nat) (fr tt : ByteArray) (most : Int) (w : World) (h : MemR w km .nil) (ls : sb < w.heap.size) (hs : w.cell? ⟨sb, so, none⟩ = some (.iface 156 (.agg #[.pointer (some ⟨km, 0, none⟩)]))) :
  Calls Tryz.prog 80 #[.slice (some ⟨sb, so, none⟩) 1 sc, .string fr, .string tt, .int .i64 most] w fun r w' => r = .returned (.tuple #[.slice none 0 0, .int .i64 0]) ∧ Below w.heap.size w w' := by
 obtain ⟨i0, hi0, hz0, hz1, hz2⟩ := info_parts info_Cr
 have HM := hd_ h
 clear h
 go_enter Tryz.func80, Tryz.ntmps80
 go_wp2_with fail
 go_loopw [8, 22] (fun s i wr => s = .slice none 0 0 ∧ ((i = .int .i64 0 ∧ wr = w.alloc (.cells #[.slice none 0 0] 205)) ∨ (i = .int .i64 1 ∧ ∃ cb, Hid (CrI w.heap.size cb wr) ∧ Hid (Below w.heap.size w wr)))) (fun _ i _ => 1 - (intOf i).toNat)
 case atStart => exact ⟨rfl, Or.inl ⟨rfl, rfl⟩⟩
 case round =>
  rcases hrel with ⟨rfl, ⟨rfl, rfl⟩ | ⟨rfl, cb, HC, HB⟩⟩
  · go_wp2_with fail
    have hcb : Blk ((w.alloc (.cells #[.slice none 0 0] 205)).alloc (.cells #[.iface 156 (.agg #[.pointer (some ⟨km, 0, none⟩)]), .string tt, .slice none 0 0, .int .i64 0] 210)) (w.heap.size + 1) #[.iface 156 (.agg #[.pointer (some ⟨km, 0, none⟩)]), .string tt, .slice none 0 0, .int .i64 0] 210 := (by repeat (first | exact Blk.at (by simp) | assumption | refine Blk.drew ?_ | refine Blk.old ?_ _))
    have hmb : Blk ((w.alloc (.cells #[.slice none 0 0] 205)).alloc (.cells #[.iface 156 (.agg #[.pointer (some ⟨km, 0, none⟩)]), .string tt, .slice none 0 0, .int .i64 0] 210)) w.heap.size #[.slice none 0 0] 205 := (by repeat (first | exact Blk.at (by simp) | assumption | refine Blk.drew ?_ | refine Blk.old ?_ _))
    refine (fill_any km (w.heap.size + 1) fr tt (.int .i64 0) _ (HM.out.ext (by repeat (first | exact Below.refl _ _ | assumption | refine Below.drew ?_ | refine below_drewN ?_ _ | refine Below.alloc ?_ (by simp <;> omega) _))) hcb).mono ?_
    rintro r w1 ⟨rfl, hch, A, c, hc1⟩
    have hW1 : Below w.heap.size w w1 := Below.trans ((by repeat (first | exact Below.refl _ _ | assumption | refine Below.drew ?_ | refine below_drewN ?_ _ | refine Below.alloc ?_ (by simp <;> omega) _))) (hch.below (B := w.heap.size) (by simp; omega) (by simp))
    have hm1 : Blk w1 w.heap.size #[.slice none 0 0] 205 := (hch.block _ hmb.lt (by simp)).trans hmb
    have HC1 := hd_ hc1
    have HW1 := hd_ hW1
    clear hch hcb hmb hc1 hW1
    obtain ⟨w3, he3, lt⟩ := blk_put hm1
    clear hm1
    subst he3
    obtain ⟨pc, pf, pS⟩ := putBlk_facts (w := w3) 205 lt
    have HO0 : Hid (((putBlk w3 w.heap.size #[.slice none 0 0] 205).alloc (.cells #[.pointer (some ⟨w.heap.size + 1, 0, none⟩)] 208)).ownsRow w.heap.size 208 1 (.slice none 0 0) 0 []) := World.ownsRow_nil _ _ _ _
    go_wp2_with (at_builtin; refine wpList_append_own _ rfl _ _ 203 rfl w.heap.size 208 i0 _ 1 8 Tryz.underlying203 hi0 hz0 hz1 hz2 rfl (by decide) (.slice none 0 0) 0 [] rfl HO0.out ⟨_, 0, none⟩ 1 1 [.pointer (some ⟨w.heap.size + 1, 0, none⟩)] rfl rfl ?k1 (by simp [Value.oneCell']) ?k2 ?k3 ?k4 ?_)
    case k1 => exact cells_blk1 (Blk.new _ _ _)
    case k2 => simp only [maxLen]; omega
    case k3 => omega
    case k4 => simp only [World.size_alloc, putBlk_size]; omega
    intro v1 w4 hown1 hg1 _
    have q1 := Blk.old (putBlk_blk (w := w3) #[.slice none 0 0] 205 lt) (.cells #[.pointer (some ⟨w.heap.size + 1, 0, none⟩)] 208)
    have q2 := Blk.old HC1.out (.cells #[.pointer (some ⟨w.heap.size + 1, 0, none⟩)] 208)
    have q3 := Rg.blk_grown q1 HO0.out (by decide) hg1
    have HQ4 := hd_ (Rg.blk_grown q2 HO0.out (by decide) hg1)
    have HW4 : Hid (Below w.heap.size w w4) := (bt HW1.out ((by repeat (first | exact Below.refl _ _ | assumption | refine Below.drew ?_ | refine below_drewN ?_ _ | refine Below.alloc ?_ (by simp <;> omega) _)))).grown hg1 (by simp only [World.size_alloc, putBlk_size]; omega) (fun k e => by cases e)
    obtain ⟨g, c', rfl, _⟩ := hown1.form (by omega)
    have hown2 := hown1
    clear hown1 hg1 q1 q2 HO0 HC1 HW1 pc pf pS lt
    obtain ⟨w5, he5, lt⟩ := blk_put q3
    clear q3
    subst he5
    obtain ⟨pc, pf, pS⟩ := putBlk_facts (w := w5) 205 lt
    have HO := hd_ (own_put hown2 lt (by decide) #[.slice (some ⟨g, 0, none⟩) 1 c'])
    have HQ5 := hd_ (putBlk_old HQ4.out (by omega) #[.slice (some ⟨g, 0, none⟩) 1 c'])
    clear hown2
    go_wp2_with fail
    go_roundw
    case rel => exact ⟨rfl, Or.inr ⟨by go_num, w.heap.size + 1, ⟨_, g, c', A, c, _, _, tt, putBlk_blk _ _ lt, HO.out, HQ5.out⟩, putBlk_belows HW4.out (Nat.le_refl _) _⟩⟩
    case measure => simp [intOf]
  · have HL := hd_ (least_any _ _ _ HC.out)
    go_wp2_with fail
    refine HL.out.mono ?_
    rintro r w' ⟨rfl, rfl⟩
    go_wp2_with fail
    go_loopw [8, 15] (fun s i wr => s = .slice none 0 0 ∧ i = .pointer none ∧ wr = w') (fun _ _ _ => 0)
    case atStart => exact ⟨rfl, rfl, rfl⟩
    case round =>
     obtain ⟨rfl, rfl, rfl⟩ := hrel
     go_wp2_with fail
     refine bodyPost_ret (v := .tuple #[.slice none 0 0, .int .i64 0]) (by simp [results, Tryz.results80, go_sem]) rfl ?_
     exact ⟨rfl, HB.out⟩
end Go.Proofs.YtceoficoappkpaaGreatDoor
namespace Go.Proofs.YtceoficoappkpaaGreatDoor
open Go.RowKit Go.Shelf
attribute [local go_sem] Oper.semAt_some

theorem info_So : (Tryz.prog.info? 207).map (fun i => (i.zero, i.size, i.bytes)) = some (some .nilIface, 1, 16) := by kernel_rfl
set_option maxRecDepth 100000 in
set_option maxHeartbeats 1000000 in
theorem kvscan_any (kk km : Nat) (fr tt : ByteArray) (most : Int) (w : World) (h : KvR w kk km) (hm : 1 ≤ most) : Calls Tryz.prog 51 #[.pointer (some ⟨kk, 0, none⟩), .string fr, .string tt, .int .i64 most] w fun r w' => r = .returned (.tuple #[.slice none 0 0, .int .i64 0]) ∧ Below w.heap.size w w' := by
 obtain ⟨i0, hi0, hz0, hz1, hz2⟩ := info_parts info_So
 have hW : Below w.heap.size w w.drew := (by repeat (first | exact Below.refl _ _ | assumption | refine Below.drew ?_ | refine below_drewN ?_ _ | refine Below.alloc ?_ (by simp <;> omega) _))
 have hK := h.ext hW
 have HSR := hd_ (fun (W1 : World) (hb : Below w.heap.size w W1) => sources_any kk km W1 (h.ext hb))
 have HM := hd_ hK.mem
 obtain ⟨lk, k6, k7⟩ := h.cells
 clear h hK
 have hmost : (most < 1) = False := by simp; omega
 go_enter Tryz.func51, Tryz.ntmps51
 go_upto_region 5 with fail
 obtain ⟨hsN, hhs⟩ : ∃ hsN, hsN = w.heap.size := ⟨_, rfl⟩
 have HHS := hd_ hhs
 clear hhs
 let Iv : Nat → (Nat × Nat) → World → Prop := fun q g W1 => match q with
  | 0 => W1 = w.drew
  | 1 => W1 = w.drew.alloc (.cells #[.iface 156 (.agg #[.pointer (some ⟨km, 0, none⟩)])] 207)
  | 2 => Below w.heap.size w W1 ∧ g.1 < W1.heap.size ∧ W1.cell? ⟨g.1, 0, none⟩ = some (.iface 156 (.agg #[.pointer (some ⟨km, 0, none⟩)]))
  | _ => Below w.heap.size w W1
 refine region_phase (Iv) (fun k a b => k = 1 ∨ b = a) ((0, 0)) (fun g => [.pointer (some ⟨kk, 0, none⟩), .slice none 0 0, .pointer (some ⟨kk, 0, none⟩), .pointer (some ⟨kk, 0, none⟩), .pointer (some ⟨kk, 6, none⟩), .pointer (some ⟨km, 0, none⟩), .agg #[.pointer (some ⟨km, 0, none⟩)], .iface 156 (.agg #[.pointer (some ⟨km, 0, none⟩)]), .slice (some ⟨hsN, 0, none⟩) 1 1, .slice (some ⟨g.1, 0, none⟩) 1 g.2, .string fr, .string tt, .int .i64 most, .tuple #[.slice none 0 0, .int .i64 0], .slice none 0 0, .int .i64 0, .slice none 0 0, .int .i64 0]) [8, 9, 13] [(0, 1), (0, 1), (0, 0), (0, 0), (0, 0), (0, 0), (0, 0), (0, 0), (0, 3), (0, 3), (0, 2), (0, 2), (0, 2), (0, 3), (3, 3), (3, 3), (3, 3), (3, 3)] [false, false, false, false, false, false, false, false, true, true, false, false, false, false, false, false, true, true, true, true, true, true, true, true, true, true, true, true, true, true, true, true] [16, 17, 18, 19, 20, 21, 22, 23, 24, 25, 26, 27, 28, 29, 30, 31, 8, 9] [16, 17] rfl (fun _ => rfl) (fun k ga gb hr j c hc hne hcl => hr.elim (fun hk => by subst hk; obtain rfl : 9 = c := (by simpa using hc); exact (match j, hne, hcl with | 0, _, _ => rfl | 1, _, _ => rfl | 2, _, _ => rfl | 3, _, _ => rfl | 4, _, _ => rfl | 5, _, _ => rfl | 6, _, _ => rfl | 7, _, _ => rfl | 8, _, _ => rfl | 9, hne, _ => absurd rfl hne | 10, _, _ => rfl | 11, _, _ => rfl | 12, _, _ => rfl | 13, _, hcl => absurd (hcl.symm.trans (by kernel_rfl)) Bool.false_ne_true | 14, _, hcl => absurd (hcl.symm.trans (by kernel_rfl)) Bool.false_ne_true | 15, _, hcl => absurd (hcl.symm.trans (by kernel_rfl)) Bool.false_ne_true | 16, _, hcl => absurd (hcl.symm.trans (by kernel_rfl)) Bool.false_ne_true | 17, _, hcl => absurd (hcl.symm.trans (by kernel_rfl)) Bool.false_ne_true | j + 18, _, _ => rfl)) (fun h => by rw [h])) (by kernel_rfl) (by kernel_rfl) (by kernel_rfl) (by decide) (by kernel_rfl) (by kernel_rfl) (by kernel_rfl) (by kernel_rfl) (by kernel_rfl) ⟨PhStep.pure rfl ?_, PhStep.pure rfl ?_, PhStep.pure rfl ?_, PhStep.pure rfl ?_, PhStep.pure rfl ?_, PhStep.pure rfl ?_, PhStep.pure rfl ?_, PhStep.pure rfl ?_, PhStep.chain 0 rfl ?c5_8, PhStep.chain 1 rfl ?c5_9, PhStep.pure rfl ?_, PhStep.pure rfl ?_, PhStep.pure rfl ?_, PhStep.chain 2 rfl ?c5_13, PhStep.pure rfl ?_, PhStep.pure rfl ?_, PhStep.pure rfl ?_, PhStep.pure rfl ?_, trivial⟩ ?done5
 case done5 =>
  intro g x W1 hiv
  have hF : Below w.heap.size w W1 := hiv
  simp only [StepGoal, List.map_cons, List.map_nil, overlay, upd, cond_true, cond_false, List.getD_cons_zero, List.getD_cons_succ, Nat.zero_add, Nat.reduceAdd, Nat.reduceEqDiff, reduceIte]
  clear hiv Iv
  have HF := hd_ hF
  clear hF
  go_wp2_with fail
  refine bodyPost_ret (v := .tuple #[.slice none 0 0, .int .i64 0]) (by simp [results, Tryz.results51, go_sem]) rfl ?_
  exact ⟨rfl, HF.out⟩
 case c5_8 =>
  intro g x W1 hiv
  have hW1 : W1 = w.drew := hiv
  subst hW1
  intro K hK
  rw [if_pos (by rfl)]; simp only [overlay, upd, cond_true, cond_false, List.getD_cons_zero, List.getD_cons_succ, Nat.reduceEqDiff, reduceIte]
  go_simp
  exact hK.out _ _ g rfl (Or.inr rfl) (by rw [HHS.out]; rfl)
 case c5_9 =>
  intro g x W1 hiv
  have hW1 : W1 = w.drew.alloc (.cells #[.iface 156 (.agg #[.pointer (some ⟨km, 0, none⟩)])] 207) := hiv
  subst hW1
  intro K hK
  rw [if_pos (by rfl)]; simp only [overlay, upd, cond_true, cond_false, List.getD_cons_zero, List.getD_cons_succ, Nat.reduceEqDiff, reduceIte]
  refine (wp_append_own _ _ _ _ rfl w.heap.size 207 i0 _ 1 16 Tryz.underlying153 hi0 hz0 hz1 hz2 rfl (by decide) (.slice none 0 0) 0 [] rfl (World.ownsRow_nil _ _ _ _) ⟨hsN, 0, none⟩ 1 1 [.iface 156 (.agg #[.pointer (some ⟨km, 0, none⟩)])] rfl rfl ?_ (by simp [Value.oneCell']) ?_ ?_ ?_ ?_)
  · rw [HHS.out]; exact cells_blk1 (Blk.new _ _ _)
  · simp only [maxLen]; omega
  · omega
  · simp only [World.size_alloc]; exact Nat.le_succ_of_le (Nat.le_refl _)
  · intro v1 w4 hown1 hg1 _
    obtain ⟨g', c', rfl, _⟩ := hown1.form (by omega)
    exact hK.out _ _ (g', c') ⟨Below.grown ((by repeat (first | exact Below.refl _ _ | assumption | refine Below.drew ?_ | refine below_drewN ?_ _ | refine Below.alloc ?_ (by simp <;> omega) _))) hg1 (by simp only [World.size_alloc]; exact Nat.le_succ_of_le (Nat.le_refl _)) (fun k e => by cases e), (hown1.lt g' rfl).2, by have := hown1.cellAt 0 (by decide); simpa using this⟩ (Or.inl rfl) rfl
 case c5_13 =>
  intro g x W1 hiv
  obtain ⟨hb, lg, hg⟩ := (show Below w.heap.size w W1 ∧ g.1 < W1.heap.size ∧ W1.cell? ⟨g.1, 0, none⟩ = some (.iface 156 (.agg #[.pointer (some ⟨km, 0, none⟩)])) from hiv)
  intro K hK
  have HME := hd_ (merge_any km g.1 0 g.2 fr tt most W1 (HM.out.ext (⟨hb.os, hb.tape, hb.output, hb.size, hb.block⟩ : Below w.drew.heap.size w.drew W1)) lg hg)
  rw [if_pos (by rfl)]; simp only [overlay, upd, cond_true, cond_false, List.getD_cons_zero, List.getD_cons_succ, Nat.reduceEqDiff, reduceIte]
  go_simp
  refine HME.out.mono ?_
  rintro e W' ⟨rfl, hb2⟩
  exact hK.out _ _ g (bt hb hb2) (Or.inr rfl) rfl
 all_goals
  intro q hk1 hk2 g x W1 hiv
  intro K hK
  first
   | (rw [if_pos (by rfl)]; simp only [overlay, upd, cond_true, cond_false, List.getD_cons_zero, List.getD_cons_succ, Nat.reduceEqDiff, reduceIte]
      go_simp
      exact hK.out _ _ _ hiv rfl rfl)
   | (rw [if_pos (by rfl)]; simp only [overlay, cond_true, cond_false]
      go_simp
      exact hK.out _ _ _ hiv rfl rfl)
   | (have hbq : Below w.heap.size w W1 := by
       have hq : q = 0 ∨ q = 1 := by simp at hk2; omega
       rcases hq with rfl | rfl
       · have hW2 : W1 = w.drew := hiv
         rw [hW2]; exact hW
       · have hW2 : W1 = w.drew.alloc (.cells #[.iface 156 (.agg #[.pointer (some ⟨km, 0, none⟩)])] 207) := hiv
         rw [hW2]; exact (by repeat (first | exact Below.refl _ _ | assumption | refine Below.drew ?_ | refine below_drewN ?_ _ | refine Below.alloc ?_ (by simp <;> omega) _))
      rw [if_pos (by rfl)]; simp only [overlay, upd, cond_true, cond_false, List.getD_cons_zero, List.getD_cons_succ, Nat.reduceEqDiff, reduceIte]
      go_simp
      refine (HSR.out _ hbq).mono ?_
      rintro e W' ⟨rfl, rfl⟩
      exact hK.out _ _ _ hiv rfl rfl)
   | (obtain rfl : q = 0 := by simp at hk2; omega
      have hW : W1 = w.drew := hiv
      subst hW
      rw [if_pos (by rfl)]; simp only [overlay, upd, cond_true, cond_false, List.getD_cons_zero, List.getD_cons_succ, Nat.reduceEqDiff, reduceIte]
      go_simp
      exact hK.out _ _ _ rfl rfl rfl)
end Go.Proofs.YtceoficoappkpaaGreatDoor
