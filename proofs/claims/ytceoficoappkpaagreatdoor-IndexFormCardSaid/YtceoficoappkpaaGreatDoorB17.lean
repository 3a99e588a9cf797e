/- Texts joined by a tool: contracts and walks of this claim. -/
import Derived.Test.YtceoficoappkpaaGreatDoorB16
namespace Go.Proofs.YtceoficoappkpaaGreatDoor
open Go.RowKit
theorem kLt_f {a b : ByteArray} (h : ¬ kLt a b = true) : Op.bytesLess a.toList b.toList = false := by simpa [kLt] using h
theorem key_ne {a b : ByteArray} (h : kLt a b = true) : (b.toList == a.toList) = false := by
 rw [beq_eq_false_iff_ne]
 intro e
 rw [ba_toList e, kLt_irr] at h
 cases h
set_option maxRecDepth 100000 in
set_option maxHeartbeats 3200000 in
theorem mput_any (m : Nat) (root : Option Addr) (p : Pr) (hp : p.k.size ≤ 512 ∧ p.v.size ≤ 262144) : ∀ (t : Tr) (n : Nat) (sz sd : Int) (_ : n + 1 ≤ 4611686018427387904) (w : World) (_ : MemB w m root n sz sd) (_ : TrW w t) (_ : t.blks.Nodup) (_ : m ∉ t.blks),
  Calls Tryz.prog 101 #[.pointer (some ⟨m, 0, none⟩), .pointer t.addr, p.agg] w (PutQ w m root n t p)
 | .nil, n, sz, sd, hn, w, hM, _, _, _ => put_nil m root n sz sd p hp hn w hM
 | .node b q r L R, n, sz, sd, hn, w, hM, hT, hnd, hm => by
  have IHL := hd_ (mput_any m root p hp L)
  have IHR := hd_ (mput_any m root p hp R)
  have hW : Below w.heap.size w (w.alloc (.cells #[.string p.k, .string p.v, .bool p.g] 45)) := bel1 _ _
  have h5 : Blk (w.alloc (.cells #[.string p.k, .string p.v, .bool p.g] 45)) w.heap.size #[.string p.k, .string p.v, .bool p.g] 45 := (by repeat (first | exact Blk.at (by simp) | assumption | refine Blk.drew ?_ | refine Blk.old ?_ _))
  have hM0 := hM.ext hW
  have hT0 := hT.ext hW
  have hlt := hT.lt
  have hml := (blk4f hM.1).1
  unfold Pr.agg
  show Calls _ _ #[_, .pointer (some ⟨b, 0, none⟩), _] _ _
  go_enter Tryz.func101, Tryz.ntmps101
  go_upto_region 8 with fail
  generalize w.alloc (.cells #[.string p.k, .string p.v, .bool p.g] 45) = W0 at hW h5 hM0 hT0 ⊢
  obtain ⟨b5, hb5⟩ : ∃ b5, b5 = w.heap.size := ⟨_, rfl⟩
  rw [← hb5] at h5 ⊢
  have HB5 := hd_ hb5
  clear hb5
  obtain ⟨l5, p0, p1, p2⟩ := blk3f h5
  have hnb := hT0.2.2.1
  unfold nodeC at hnb
  rw [show L.ptr = .pointer L.addr from rfl, show R.ptr = .pointer R.addr from rfl] at hnb
  obtain ⟨lb, b0, b1, b2, b3, b4, bb5, bf⟩ := blk6 hnb
  by_cases c1 : kLt p.k q.k = true
  · have c1' : Op.bytesLess p.k.toList q.k.toList = true := c1
    go_quiet (fail)
    go_upto_region 9 with fail
    have hW1 : Below w.heap.size w (W0.drewN nq) := below_drewN hW nq
    have h51 := h5.drewN nq
    have hM1 := hM0.ext (below_drewN (Below.refl _ W0) nq)
    have hT1 := hT0.ext (below_drewN (Below.refl _ W0) nq)
    clear hW h5 hM0 hT0 l5 p0 p1 p2 lb b0 b1 b2 b3 b4 bb5 bf hnb
    generalize W0.drewN nq = W1 at hW1 h51 hM1 hT1 ⊢
    have hW1d : Below w.heap.size w W1.drew := hW1.drew
    have h51d := h51.drewN 1
    have hM1d : MemB W1.drew m root n sz sd := hM1.ext (by repeat (first | exact Below.refl _ _ | assumption | refine Below.drew ?_ | refine below_drewN ?_ _ | refine Below.alloc ?_ (by simp <;> omega) _))
    have hT1d : TrW W1.drew (.node b q r L R) := hT1.ext (by repeat (first | exact Below.refl _ _ | assumption | refine Below.drew ?_ | refine below_drewN ?_ _ | refine Below.alloc ?_ (by simp <;> omega) _))
    obtain ⟨l5, p0, p1, p2⟩ := blk3f h51
    have hnb1 : Blk W1 b #[.string q.k, .string q.v, .bool q.g, .int .u64 r, .pointer L.addr, .pointer R.addr] 139 := hT1.2.2.1
    clear hW1 h51 hM1 hT1
    have hnb : Blk W1.drew b #[.string q.k, .string q.v, .bool q.g, .int .u64 r, .pointer L.addr, .pointer R.addr] 139 := hT1d.2.2.1
    obtain ⟨lb, b0, b1, b2, b3, b4, bb5, bf⟩ := blk6 hnb1
    have hbn : b ∉ m :: L.blks := by
     simp only [Tr.blks, List.mem_cons, List.mem_append, not_or] at hm
     simp only [Tr.blks, List.nodup_cons, List.mem_append, not_or] at hnd
     simp only [List.mem_cons, not_or]
     grind
    have hmL : m ∉ L.blks := by
     simp only [Tr.blks, List.mem_cons, List.mem_append, not_or] at hm
     exact hm.2.1
    have hndL : L.blks.Nodup := by
     simp only [Tr.blks, List.nodup_cons, List.nodup_append] at hnd
     exact hnd.2.1
    let Iv : Nat → (Nat × Int × Int × Int) → World → Prop := fun k g W => match k with
     | 0 => W = W1.drew
     | 1 => PutF W1.drew m root n L p g W
     | _ => ∃ W', PutF W1.drew m root n L p g W' ∧ W = W'.setCell ⟨b, 4, none⟩ (.pointer (L.put g.1 g.2.1 p).1.addr)
    refine region_phase (Iv) (fun k a b => k = 0 ∨ b = a) ((0, 0, 0, 0)) (fun g => [.pointer (some ⟨b, 0, none⟩), .pointer (some ⟨m, 0, none⟩), .pointer (some ⟨b, 0, none⟩), .pointer (some ⟨b, 0, none⟩), .pointer (some ⟨b, 4, none⟩), .pointer L.addr, .agg #[.string p.k, .string p.v, .bool p.g], .tuple #[.pointer (L.put g.1 g.2.1 p).1.addr, .bool (L.put g.1 g.2.1 p).2], .tuple #[.pointer (L.put g.1 g.2.1 p).1.addr, .bool (L.put g.1 g.2.1 p).2], .pointer (L.put g.1 g.2.1 p).1.addr, .bool (L.put g.1 g.2.1 p).2, .pointer (some ⟨b, 0, none⟩), .pointer (some ⟨b, 4, none⟩), undef, .bool (L.put g.1 g.2.1 p).2]) [7, 13] [(0, 1), (0, 0), (0, 0), (0, 0), (0, 0), (0, 0), (0, 0), (0, 2), (1, 1), (1, 1), (1, 2), (1, 1), (1, 1), (0, 2), (2, 2)] [false, false, false, false, false, false, false, false, true, false, false, false, false, false, false, false, false, false, false, false, false, false, false, false, false, false, false, false, false, false, false, false, false, false, false, false, false, false, false, false, false, false, false, false, false, false, false, false, false, false, false, false, false, false, false, false, false, false, false, false, false, false, false, false, false, false, false, true, true, true, true, true, true, true, true, true, true, true, true, true, false, false, false, false, false, false, false, false, false, false, false, false, false, false, false, false, false, false, false, false, false, false, false, false, false, false, false, false, false, false, false, false, false, false, false, false, false] [68, 69, 70, 71, 72, 73, 74, 75, 67, 76, 77, 78, 79, 0, 8] [14] rfl (fun _ => rfl) (fun k ga gb hr j c hc hne hcl => hr.elim (fun hk => by subst hk; obtain rfl : 7 = c := (by simpa using hc); exact (match j, hne, hcl with | 0, _, _ => rfl | 1, _, _ => rfl | 2, _, _ => rfl | 3, _, _ => rfl | 4, _, _ => rfl | 5, _, _ => rfl | 6, _, _ => rfl | 7, hne, _ => absurd rfl hne | 8, _, hcl => absurd (hcl.symm.trans (by kernel_rfl)) Bool.false_ne_true | 9, _, hcl => absurd (hcl.symm.trans (by kernel_rfl)) Bool.false_ne_true | 10, _, hcl => absurd (hcl.symm.trans (by kernel_rfl)) Bool.false_ne_true | 11, _, hcl => absurd (hcl.symm.trans (by kernel_rfl)) Bool.false_ne_true | 12, _, hcl => absurd (hcl.symm.trans (by kernel_rfl)) Bool.false_ne_true | 13, _, hcl => absurd (hcl.symm.trans (by kernel_rfl)) Bool.false_ne_true | 14, _, hcl => absurd (hcl.symm.trans (by kernel_rfl)) Bool.false_ne_true | j + 15, _, _ => rfl)) (fun h => by rw [h])) (by kernel_rfl) (by kernel_rfl) (by kernel_rfl) (by decide) (by kernel_rfl) (by kernel_rfl) (by kernel_rfl) (by kernel_rfl) (by kernel_rfl) ⟨PhStep.pure rfl ?_, PhStep.pure rfl ?_, PhStep.pure rfl ?_, PhStep.pure rfl ?_, PhStep.pure rfl ?_, PhStep.pure rfl ?_, PhStep.pure rfl ?_, PhStep.chain 0 rfl ?c9_7, PhStep.pure rfl ?_, PhStep.pure rfl ?_, PhStep.pure rfl ?_, PhStep.pure rfl ?_, PhStep.pure rfl ?_, PhStep.chain 1 rfl ?c9_13, PhStep.pure rfl ?_, trivial⟩ ?done9
    case done9 =>
     intro g x W hiv
     obtain ⟨W', hF, rfl⟩ := (hiv : ∃ W', _)
     simp only [StepGoal, List.map_cons, List.map_nil, overlay, upd, cond_true, cond_false, List.getD_cons_zero, List.getD_cons_succ, Nat.zero_add, Nat.reduceAdd, Nat.reduceEqDiff, reduceIte]
     obtain ⟨hT2, hnd2, hmem2, hM2, hC2⟩ := put_left hT hnd hm hW1d hF
     obtain ⟨c, q2, s2, L1, L2, hLp⟩ := put_node g.1 g.2.1 p L
     have hput : (Tr.node b q r L R).put g.1 g.2.1 p = if (L.put g.1 g.2.1 p).2 then (Tr.liftL b q r (L.put g.1 g.2.1 p).1 R, true) else (.node b q r (L.put g.1 g.2.1 p).1 R, false) := by rw [Tr.put, if_pos c1]
     clear Iv hF l5 p0 p1 p2 lb b0 b1 b2 b3 b4 bb5 bf hnb hnb1 h51d hM1d hT1d hW1d hbn hmL hndL IHL IHR c1'
     unfold PutQ PutF
     cases hfr : (L.put g.1 g.2.1 p).2
     · rw [hfr] at hM2 hput
       simp only [Bool.false_eq_true, if_false] at hput
       go_wp2_with fail
       go_ret2
       refine ⟨g, ?_, ?_⟩
       · rw [hput]; rfl
       · unfold PutF
         rw [hput]
         exact ⟨hT2, hnd2, hmem2, hM2, hC2⟩
     · rw [hfr] at hM2 hput
       simp only [if_true] at hput hM2
       rw [hLp] at hT2 hnd2 hmem2 hM2 hC2 hput ⊢
       have HLL := hd_ (liftL_any b q r c q2 s2 L1 L2 R _ hT2 hnd2)
       have hLF := fun W3 h => liftL_put (W3 := W3) hm hml hnd2 hmem2 hM2 hC2 h
       have hnb2 := hT2.2.2.1
       unfold nodeC at hnb2
       obtain ⟨lb, b0, b1, b2, b3, b4, b5', bf⟩ := blk6 hnb2
       rw [show (Tr.node c q2 s2 L1 L2).ptr = .pointer (some ⟨c, 0, none⟩) from rfl] at b4
       rw [show (Tr.node c q2 s2 L1 L2).addr = some ⟨c, 0, none⟩ from rfl] at *
       have HLF := hd_ hLF
       have HP := hd_ hput
       clear hT2 hnd2 hmem2 hM2 hC2 hLF hnb2 hput hLp
       generalize W'.setCell ⟨b, 4, none⟩ (.pointer (some ⟨c, 0, none⟩)) = W2 at *
       go_wp2_with fail
       refine HLL.out.mono ?_
       rintro e W3 ⟨rfl, hT3, hC3, _⟩
       obtain ⟨hnd3, hmem3, hM3, hC4⟩ := HLF.out W3 hC3
       go_wp2_with fail
       go_ret2
       refine ⟨g, ?_, ?_⟩
       · rw [HP.out]; rfl
       · unfold PutF
         rw [HP.out]
         exact ⟨hT3, hnd3, hmem3, hM3, hC4⟩
    case c9_7 =>
     intro g x W hiv
     have hW : W = W1.drew := hiv
     subst hW
     have HC := hd_ (IHL.out n sz sd hn W1.drew hM1d hT1d.2.2.2.1 hndL hmL)
     unfold Pr.agg at HC
     intro K hK
     rw [if_pos (by rfl)]; simp only [overlay, upd, cond_true, cond_false, List.getD_cons_zero, List.getD_cons_succ, Nat.reduceEqDiff, reduceIte]
     go_simp
     refine HC.out.mono ?_
     rintro e W' ⟨g', rfl, hF⟩
     exact hK.out _ _ g' hF (Or.inl rfl) rfl
    case c9_13 =>
     intro g x W hiv
     have hF : PutF W1.drew m root n L p g W := hiv
     have hb1 := hnb.chg hF.2.2.2.2 hbn
     have d4 := hb1.cell 4
     have df := hb1.frozen 4
     simp only [List.getElem?_toArray, List.getElem?_cons_zero, List.getElem?_cons_succ] at d4
     clear lb b0 b1 b2 b3 b4 bb5 bf l5 p0 p1 p2
     intro K hK
     rw [if_pos (by rfl)]; simp only [overlay, upd, cond_true, cond_false, List.getD_cons_zero, List.getD_cons_succ, Nat.reduceEqDiff, reduceIte]
     go_simp
     exact hK.out undef _ g ⟨W, hF, rfl⟩ (Or.inr rfl) rfl
    all_goals
     intro k hk1 hk2 g x W hiv
     intro K hK
     first
      | (rw [if_pos (by rfl)]; simp only [overlay, upd, cond_true, cond_false, List.getD_cons_zero, List.getD_cons_succ, Nat.reduceEqDiff, reduceIte]
         go_simp
         exact hK.out _ _ _ hiv rfl rfl)
      | (obtain rfl : k = 0 := by simp at hk2; omega
         have hW : W = W1.drew := hiv
         subst hW
         first
          | (rw [if_pos (by rfl)]; simp only [overlay, upd, cond_true, cond_false, List.getD_cons_zero, List.getD_cons_succ, Nat.reduceEqDiff, reduceIte]
             go_simp
             exact hK.out _ _ _ rfl rfl rfl)
          | (rw [if_pos (by rfl)]; simp only [overlay, cond_true, cond_false]
             go_simp
             exact hK.out _ _ _ rfl rfl rfl))
  · have c1' : Op.bytesLess p.k.toList q.k.toList = false := kLt_f c1
    by_cases c2 : kLt q.k p.k = true
    · have ce' := key_ne c2
      have c2' : Op.bytesLess q.k.toList p.k.toList = true := c2
      go_quiet (fail)
      go_upto_region 12 with fail
      have hWb : Below w.heap.size w (W0.drewN nq) := below_drewN hW nq
      have h5b := h5.drewN nq
      have hMb := hM0.ext (below_drewN (Below.refl _ W0) nq)
      have hTb := hT0.ext (below_drewN (Below.refl _ W0) nq)
      clear hW h5 hM0 hT0 l5 p0 p1 p2 lb b0 b1 b2 b3 b4 bb5 bf hnb
      generalize W0.drewN nq = W0b at hWb h5b hMb hTb ⊢
      have hW := hWb
      have h5 := h5b
      have hM0 := hMb
      have hT0 := hTb
      clear hWb h5b hMb hTb
      obtain ⟨l5, p0, p1, p2⟩ := blk3f h5
      have hnb := hT0.2.2.1
      unfold nodeC at hnb
      rw [show L.ptr = .pointer L.addr from rfl, show R.ptr = .pointer R.addr from rfl] at hnb
      obtain ⟨lb, b0, b1, b2, b3, b4, bb5, bf⟩ := blk6 hnb
      go_quiet (fail)
      go_upto_region 13 with fail
      have hW1 : Below w.heap.size w (W0b.drewN nq) := below_drewN hW nq
      have h51 := h5.drewN nq
      have hM1 := hM0.ext (below_drewN (Below.refl _ W0b) nq)
      have hT1 := hT0.ext (below_drewN (Below.refl _ W0b) nq)
      clear hW h5 hM0 hT0 l5 p0 p1 p2 lb b0 b1 b2 b3 b4 bb5 bf hnb
      generalize W0b.drewN nq = W1 at hW1 h51 hM1 hT1 ⊢
      have hW1d : Below w.heap.size w W1.drew := hW1.drew
      have h51d := h51.drewN 1
      have hM1d : MemB W1.drew m root n sz sd := hM1.ext (by repeat (first | exact Below.refl _ _ | assumption | refine Below.drew ?_ | refine below_drewN ?_ _ | refine Below.alloc ?_ (by simp <;> omega) _))
      have hT1d : TrW W1.drew (.node b q r L R) := hT1.ext (by repeat (first | exact Below.refl _ _ | assumption | refine Below.drew ?_ | refine below_drewN ?_ _ | refine Below.alloc ?_ (by simp <;> omega) _))
      obtain ⟨l5, p0, p1, p2⟩ := blk3f h51
      have hnb1 : Blk W1 b #[.string q.k, .string q.v, .bool q.g, .int .u64 r, .pointer L.addr, .pointer R.addr] 139 := hT1.2.2.1
      clear hW1 h51 hM1 hT1
      have hnb : Blk W1.drew b #[.string q.k, .string q.v, .bool q.g, .int .u64 r, .pointer L.addr, .pointer R.addr] 139 := hT1d.2.2.1
      obtain ⟨lb, b0, b1, b2, b3, b4, bb5, bf⟩ := blk6 hnb1
      have hbn : b ∉ m :: R.blks := by
       simp only [Tr.blks, List.mem_cons, List.mem_append, not_or] at hm
       simp only [Tr.blks, List.nodup_cons, List.mem_append, not_or] at hnd
       simp only [List.mem_cons, not_or]
       grind
      have hmL : m ∉ R.blks := by
       simp only [Tr.blks, List.mem_cons, List.mem_append, not_or] at hm
       exact hm.2.2
      have hndL : R.blks.Nodup := by
       simp only [Tr.blks, List.nodup_cons, List.nodup_append] at hnd
       exact hnd.2.2.1
      let Iv : Nat → (Nat × Int × Int × Int) → World → Prop := fun k g W => match k with
       | 0 => W = W1.drew
       | 1 => PutF W1.drew m root n R p g W
       | _ => ∃ W', PutF W1.drew m root n R p g W' ∧ W = W'.setCell ⟨b, 5, none⟩ (.pointer (R.put g.1 g.2.1 p).1.addr)
      refine region_phase (Iv) (fun k a b => k = 0 ∨ b = a) ((0, 0, 0, 0)) (fun g => [.pointer (some ⟨b, 0, none⟩), .pointer (some ⟨m, 0, none⟩), .pointer (some ⟨b, 0, none⟩), .pointer (some ⟨b, 0, none⟩), .pointer (some ⟨b, 5, none⟩), .pointer R.addr, .agg #[.string p.k, .string p.v, .bool p.g], .tuple #[.pointer (R.put g.1 g.2.1 p).1.addr, .bool (R.put g.1 g.2.1 p).2], .tuple #[.pointer (R.put g.1 g.2.1 p).1.addr, .bool (R.put g.1 g.2.1 p).2], .pointer (R.put g.1 g.2.1 p).1.addr, .bool (R.put g.1 g.2.1 p).2, .pointer (some ⟨b, 0, none⟩), .pointer (some ⟨b, 5, none⟩), undef, .bool (R.put g.1 g.2.1 p).2]) [7, 13] [(0, 1), (0, 0), (0, 0), (0, 0), (0, 0), (0, 0), (0, 0), (0, 2), (1, 1), (1, 1), (1, 2), (1, 1), (1, 1), (0, 2), (2, 2)] [false, false, false, false, false, false, false, false, true, false, false, false, false, false, false, false, false, false, false, false, false, false, false, false, false, false, false, false, false, false, false, false, false, false, false, false, false, false, false, false, false, false, false, false, false, false, false, false, false, false, false, false, false, false, false, false, false, false, false, false, false, false, false, false, false, false, false, false, false, false, false, false, false, false, false, false, false, false, false, false, false, false, false, false, false, false, false, false, false, false, false, false, false, false, false, false, true, true, true, true, true, true, true, true, true, true, true, true, true, false, false, false, false, false, false, false, false] [97, 98, 99, 100, 101, 102, 103, 104, 96, 105, 106, 107, 108, 0, 8] [14] rfl (fun _ => rfl) (fun k ga gb hr j c hc hne hcl => hr.elim (fun hk => by subst hk; obtain rfl : 7 = c := (by simpa using hc); exact (match j, hne, hcl with | 0, _, _ => rfl | 1, _, _ => rfl | 2, _, _ => rfl | 3, _, _ => rfl | 4, _, _ => rfl | 5, _, _ => rfl | 6, _, _ => rfl | 7, hne, _ => absurd rfl hne | 8, _, hcl => absurd (hcl.symm.trans (by kernel_rfl)) Bool.false_ne_true | 9, _, hcl => absurd (hcl.symm.trans (by kernel_rfl)) Bool.false_ne_true | 10, _, hcl => absurd (hcl.symm.trans (by kernel_rfl)) Bool.false_ne_true | 11, _, hcl => absurd (hcl.symm.trans (by kernel_rfl)) Bool.false_ne_true | 12, _, hcl => absurd (hcl.symm.trans (by kernel_rfl)) Bool.false_ne_true | 13, _, hcl => absurd (hcl.symm.trans (by kernel_rfl)) Bool.false_ne_true | 14, _, hcl => absurd (hcl.symm.trans (by kernel_rfl)) Bool.false_ne_true | j + 15, _, _ => rfl)) (fun h => by rw [h])) (by kernel_rfl) (by kernel_rfl) (by kernel_rfl) (by decide) (by kernel_rfl) (by kernel_rfl) (by kernel_rfl) (by kernel_rfl) (by kernel_rfl) ⟨PhStep.pure rfl ?_, PhStep.pure rfl ?_, PhStep.pure rfl ?_, PhStep.pure rfl ?_, PhStep.pure rfl ?_, PhStep.pure rfl ?_, PhStep.pure rfl ?_, PhStep.chain 0 rfl ?c13_7, PhStep.pure rfl ?_, PhStep.pure rfl ?_, PhStep.pure rfl ?_, PhStep.pure rfl ?_, PhStep.pure rfl ?_, PhStep.chain 1 rfl ?c13_13, PhStep.pure rfl ?_, trivial⟩ ?done13
      case done13 =>
       intro g x W hiv
       obtain ⟨W', hF, rfl⟩ := (hiv : ∃ W', _)
       simp only [StepGoal, List.map_cons, List.map_nil, overlay, upd, cond_true, cond_false, List.getD_cons_zero, List.getD_cons_succ, Nat.zero_add, Nat.reduceAdd, Nat.reduceEqDiff, reduceIte]
       obtain ⟨hT2, hnd2, hmem2, hM2, hC2⟩ := put_right hT hnd hm hW1d hF
       obtain ⟨c, q2, s2, L1, L2, hLp⟩ := put_node g.1 g.2.1 p R
       have hput : (Tr.node b q r L R).put g.1 g.2.1 p = if (R.put g.1 g.2.1 p).2 then (Tr.liftR b q r L (R.put g.1 g.2.1 p).1, true) else (.node b q r L (R.put g.1 g.2.1 p).1, false) := by rw [Tr.put, if_neg c1, if_pos c2]
       clear Iv hF l5 p0 p1 p2 lb b0 b1 b2 b3 b4 bb5 bf hnb hnb1 h51d hM1d hT1d hW1d hbn hmL hndL IHL IHR c1' c2' ce'
       unfold PutQ PutF
       cases hfr : (R.put g.1 g.2.1 p).2
       · rw [hfr] at hM2 hput
         simp only [Bool.false_eq_true, if_false] at hput
         go_wp2_with fail
         go_ret2
         refine ⟨g, ?_, ?_⟩
         · rw [hput]; rfl
         · unfold PutF
           rw [hput]
           exact ⟨hT2, hnd2, hmem2, hM2, hC2⟩
       · rw [hfr] at hM2 hput
         simp only [if_true] at hput hM2
         rw [hLp] at hT2 hnd2 hmem2 hM2 hC2 hput ⊢
         have HLL := hd_ (liftR_any b q r c q2 s2 L L1 L2 _ hT2 hnd2)
         have hLF := fun W3 h => liftR_put (W3 := W3) hm hml hnd2 hmem2 hM2 hC2 h
         have hnb2 := hT2.2.2.1
         unfold nodeC at hnb2
         obtain ⟨lb, b0, b1, b2, b3, b4, b5', bf⟩ := blk6 hnb2
         rw [show (Tr.node c q2 s2 L1 L2).ptr = .pointer (some ⟨c, 0, none⟩) from rfl] at b5'
         rw [show (Tr.node c q2 s2 L1 L2).addr = some ⟨c, 0, none⟩ from rfl] at *
         have HLF := hd_ hLF
         have HP := hd_ hput
         clear hT2 hnd2 hmem2 hM2 hC2 hLF hnb2 hput hLp
         generalize W'.setCell ⟨b, 5, none⟩ (.pointer (some ⟨c, 0, none⟩)) = W2 at *
         go_wp2_with fail
         refine HLL.out.mono ?_
         rintro e W3 ⟨rfl, hT3, hC3, _⟩
         obtain ⟨hnd3, hmem3, hM3, hC4⟩ := HLF.out W3 hC3
         go_wp2_with fail
         go_ret2
         refine ⟨g, ?_, ?_⟩
         · rw [HP.out]; rfl
         · unfold PutF
           rw [HP.out]
           exact ⟨hT3, hnd3, hmem3, hM3, hC4⟩
      case c13_7 =>
       intro g x W hiv
       have hW : W = W1.drew := hiv
       subst hW
       have HC := hd_ (IHR.out n sz sd hn W1.drew hM1d hT1d.2.2.2.2 hndL hmL)
       unfold Pr.agg at HC
       intro K hK
       rw [if_pos (by rfl)]; simp only [overlay, upd, cond_true, cond_false, List.getD_cons_zero, List.getD_cons_succ, Nat.reduceEqDiff, reduceIte]
       go_simp
       refine HC.out.mono ?_
       rintro e W' ⟨g', rfl, hF⟩
       exact hK.out _ _ g' hF (Or.inl rfl) rfl
      case c13_13 =>
       intro g x W hiv
       have hF : PutF W1.drew m root n R p g W := hiv
       have hb1 := hnb.chg hF.2.2.2.2 hbn
       have d4 := hb1.cell 5
       have df := hb1.frozen 5
       simp only [List.getElem?_toArray, List.getElem?_cons_zero, List.getElem?_cons_succ] at d4
       clear lb b0 b1 b2 b3 b4 bb5 bf l5 p0 p1 p2
       intro K hK
       rw [if_pos (by rfl)]; simp only [overlay, upd, cond_true, cond_false, List.getD_cons_zero, List.getD_cons_succ, Nat.reduceEqDiff, reduceIte]
       go_simp
       exact hK.out undef _ g ⟨W, hF, rfl⟩ (Or.inr rfl) rfl
      all_goals
       intro k hk1 hk2 g x W hiv
       intro K hK
       first
        | (rw [if_pos (by rfl)]; simp only [overlay, upd, cond_true, cond_false, List.getD_cons_zero, List.getD_cons_succ, Nat.reduceEqDiff, reduceIte]
           go_simp
           exact hK.out _ _ _ hiv rfl rfl)
        | (obtain rfl : k = 0 := by simp at hk2; omega
           have hW : W = W1.drew := hiv
           subst hW
           first
            | (rw [if_pos (by rfl)]; simp only [overlay, upd, cond_true, cond_false, List.getD_cons_zero, List.getD_cons_succ, Nat.reduceEqDiff, reduceIte]
               go_simp
               exact hK.out _ _ _ rfl rfl rfl)
            | (rw [if_pos (by rfl)]; simp only [overlay, cond_true, cond_false]
               go_simp
               exact hK.out _ _ _ rfl rfl rfl))
    · have ck : p.k = q.k := kLt_total (by simpa using c1) (by simpa using c2)
      have ce' : (p.k.toList == q.k.toList) = true := by rw [ck]; exact beq_self_eq_true _
      have c2' : Op.bytesLess q.k.toList p.k.toList = false := kLt_f c2
      clear ck
      go_quiet (fail)
      go_upto_region 12 with fail
      have hWb : Below w.heap.size w (W0.drewN nq) := below_drewN hW nq
      have h5b := h5.drewN nq
      have hMb := hM0.ext (below_drewN (Below.refl _ W0) nq)
      have hTb := hT0.ext (below_drewN (Below.refl _ W0) nq)
      clear hW h5 hM0 hT0 l5 p0 p1 p2 lb b0 b1 b2 b3 b4 bb5 bf hnb
      generalize W0.drewN nq = W0b at hWb h5b hMb hTb ⊢
      have hW := hWb
      have h5 := h5b
      have hM0 := hMb
      have hT0 := hTb
      clear hWb h5b hMb hTb
      obtain ⟨l5, p0, p1, p2⟩ := blk3f h5
      have hnb := hT0.2.2.1
      unfold nodeC at hnb
      rw [show L.ptr = .pointer L.addr from rfl, show R.ptr = .pointer R.addr from rfl] at hnb
      obtain ⟨lb, b0, b1, b2, b3, b4, bb5, bf⟩ := blk6 hnb
      go_quiet (fail)
      go_upto_region 6 with fail
      have hW1 : Below w.heap.size w (W0b.drewN nq) := below_drewN hW nq
      have h51 := h5.drewN nq
      have hM1 := hM0.ext (below_drewN (Below.refl _ W0b) nq)
      have hT1 := hT0.ext (below_drewN (Below.refl _ W0b) nq)
      clear hW h5 hM0 hT0 l5 p0 p1 p2 lb b0 b1 b2 b3 b4 bb5 bf hnb
      generalize W0b.drewN nq = W1 at hW1 h51 hM1 hT1 ⊢
      obtain ⟨l5, p0, p1, p2⟩ := blk3f h51
      have hnb1 : Blk W1 b #[.string q.k, .string q.v, .bool q.g, .int .u64 r, .pointer L.addr, .pointer R.addr] 139 := hT1.2.2.1
      obtain ⟨lb, b0, b1, b2, b3, b4, bb5, bf⟩ := blk6 hnb1
      obtain ⟨lm, m0, m1, m2, m3, mf⟩ := blk4f hM1.1
      obtain ⟨_, hqs, _⟩ := hT1.2
      have e50 : IntKind.i64.wrap ((p.v.size : Int) - q.v.size) = p.v.size - q.v.size := IntWalk.i64_in _ (by have := hT1.2.1.2; omega)
      obtain ⟨sz2, hsz2⟩ : ∃ sz2, sz2 = IntKind.i64.wrap (sz + ((p.v.size : Int) - q.v.size)) := ⟨_, rfl⟩
      have hz2 : -9223372036854775808 ≤ sz2 ∧ sz2 ≤ 9223372036854775807 := by rw [hsz2]; exact i64_in _
      have e51 : IntKind.i64.wrap (sz + ((p.v.size : Int) - q.v.size)) = sz2 := hsz2.symm
      clear hsz2
      let IvA : Nat → Unit → World → Prop := fun k _ W => match k with
       | 0 => W = W1.drew
       | _ => W = W1.drew.setCell ⟨m, 2, none⟩ (.int .i64 sz2)
      refine region_phase (IvA) (fun _ _ _ => True) (()) (fun _ => [.pointer (some ⟨m, 0, none⟩), .pointer (some ⟨m, 0, none⟩), .pointer (some ⟨m, 2, none⟩), .int .i64 sz, .pointer (some ⟨b5, 1, none⟩), .string p.v, .int .i64 p.v.size, .pointer (some ⟨b, 0, none⟩), .pointer (some ⟨b, 0, none⟩), .pointer (some ⟨b, 0, none⟩), .pointer (some ⟨b, 1, none⟩), .string q.v, .int .i64 q.v.size, .int .i64 (p.v.size - q.v.size), .int .i64 sz2, .pointer (some ⟨m, 0, none⟩), .pointer (some ⟨m, 2, none⟩), undef]) [17] [(0, 0), (0, 0), (0, 0), (0, 0), (0, 0), (0, 0), (0, 0), (0, 0), (0, 0), (0, 0), (0, 0), (0, 0), (0, 0), (0, 0), (0, 0), (0, 0), (0, 0), (0, 1)] [false, false, false, false, false, false, false, false, false, false, false, false, false, false, false, false, false, false, false, false, false, false, false, false, false, false, false, false, false, false, false, false, false, false, false, false, false, true, true, true, true, true, true, true, true, true, true, true, true, true, true, true, true, true, false, false, false, false, false, false, false, false, false, false, false, false, false, false, false, false, false, false, false, false, false, false, false, false, false, false, false, false, false, false, false, false, false, false, false, false, false, false, false, false, false, false, false, false, false, false, false, false, false, false, false, false, false, false, false, false, false, false, false, false, false, false, false] [37, 38, 39, 40, 41, 42, 43, 44, 45, 46, 47, 48, 49, 50, 51, 52, 53, 0] [16] rfl (fun _ => rfl) (fun _ _ _ _ _ _ _ _ _ => rfl) (by kernel_rfl) (by kernel_rfl) (by kernel_rfl) (by decide) (by kernel_rfl) (by kernel_rfl) (by kernel_rfl) (by kernel_rfl) (by kernel_rfl) ⟨PhStep.pure rfl ?_, PhStep.pure rfl ?_, PhStep.pure rfl ?_, PhStep.pure rfl ?_, PhStep.pure rfl ?_, PhStep.pure rfl ?_, PhStep.pure rfl ?_, PhStep.pure rfl ?_, PhStep.pure rfl ?_, PhStep.pure rfl ?_, PhStep.pure rfl ?_, PhStep.pure rfl ?_, PhStep.pure rfl ?_, PhStep.pure rfl ?_, PhStep.pure rfl ?_, PhStep.pure rfl ?_, PhStep.pure rfl ?_, PhStep.chain 0 rfl ?c6_17, trivial⟩ ?done6
      case done6 =>
       intro γ x W hiv
       have hW : W = W1.drew.setCell ⟨m, 2, none⟩ (.int .i64 sz2) := hiv
       subst hW
       simp only [StepGoal, List.map_cons, List.map_nil, overlay, upd, cond_true, cond_false, List.getD_cons_zero, List.getD_cons_succ, Nat.zero_add, Nat.reduceAdd, Nat.reduceEqDiff, reduceIte]
       have hm2 : MemB (W1.drew.setCell ⟨m, 2, none⟩ (.int .i64 sz2)) m root n sz2 sd := ⟨(hM1.1.drewN 1).set (i := 2) _, hM1.2.1, hz2, hM1.2.2.2⟩
       have hC2 : Chg [m] w (W1.drew.setCell ⟨m, 2, none⟩ (.int .i64 sz2)) := (Chg.of_below hW1.drew).set (b := m) (Or.inl (by simp)) _
       have hmb : m ≠ b := by simp only [Tr.blks, List.mem_cons, not_or] at hm; exact hm.1
       have hb2 : Blk (W1.drew.setCell ⟨m, 2, none⟩ (.int .i64 sz2)) b #[.string q.k, .string q.v, .bool q.g, .int .u64 r, .pointer L.addr, .pointer R.addr] 139 := (hnb1.drewN 1).set_ne hmb _
       have hm5 : m ≠ b5 := by have := HB5.out; omega
       have hb5 : b ≠ b5 := by have := HB5.out; have := hlt b (by simp [Tr.blks]); omega
       have h52 : Blk (W1.drew.setCell ⟨m, 2, none⟩ (.int .i64 sz2)) b5 #[.string p.k, .string p.v, .bool p.g] 45 := (h51.drewN 1).set_ne hm5 _
       clear hiv hM1 hT1 h51 hnb1 l5 p0 p1 p2 lb b0 b1 b2 b3 b4 bb5 bf lm m0 m1 m2 m3 mf IvA hW1 c1' c2' ce'
       generalize W1.drew.setCell ⟨m, 2, none⟩ (.int .i64 sz2) = W2 at hm2 hC2 hb2 h52 ⊢
       obtain ⟨l5, p0, p1, p2⟩ := blk3f h52
       have HM2 := hd_ hm2
       have HC2 := hd_ hC2
       have H52 := hd_ h52
       have HB2 := hd_ hb2
       obtain ⟨w3, hw3, lt⟩ := blk_put hb2
       subst hw3
       obtain ⟨pc, pf, pS⟩ := putBlk_facts (w := w3) 139 lt
       have hC3 : Chg [b] (putBlk w3 b #[.string q.k, .string q.v, .bool q.g, .int .u64 r, .pointer L.addr, .pointer R.addr] 139) (putBlk w3 b #[.string p.k, .string p.v, .bool p.g, .int .u64 r, .pointer L.addr, .pointer R.addr] 139) := by
        have := (Chg.refl [b] (putBlk w3 b #[.string q.k, .string q.v, .bool q.g, .int .u64 r, .pointer L.addr, .pointer R.addr] 139)).put (b := b) (Or.inl (by simp)) #[.string p.k, .string p.v, .bool p.g, .int .u64 r, .pointer L.addr, .pointer R.addr] 139
        rwa [put_put'] at this
       have hput : (Tr.node b q r L R).put 0 0 p = (.node b p r L R, false) := by rw [Tr.put, if_neg c1, if_neg c2]
       have hfar : ∀ x, x ∈ L.blks ∨ x ∈ R.blks → x ∉ [m] ∧ x ∉ [b] := by
        intro x hx
        simp only [Tr.blks, List.mem_cons, List.mem_append, not_or] at hm
        simp only [Tr.blks, List.nodup_cons, List.mem_append, not_or] at hnd
        simp only [List.mem_cons, List.not_mem_nil, or_false]
        grind
       have hres : PutF w m root n (.node b q r L R) p (0, 0, sz2, sd) (putBlk w3 b #[.string p.k, .string p.v, .bool p.g, .int .u64 r, .pointer L.addr, .pointer R.addr] 139) := by
        unfold PutF
        rw [hput]
        refine ⟨⟨hT.1, hp, putBlk_blk _ _ lt, ?_, ?_⟩, hnd, fun x hx => Or.inl hx, ?_, ?_⟩
        · exact (hT.2.2.2.1.chg HC2.out fun x hx => (hfar x (Or.inl hx)).1).chg hC3 fun x hx => (hfar x (Or.inl hx)).2
        · exact (hT.2.2.2.2.chg HC2.out fun x hx => (hfar x (Or.inr hx)).1).chg hC3 fun x hx => (hfar x (Or.inr hx)).2
        · exact HM2.out.chg hC3 (by simp; exact hmb)
        · refine (HC2.out.weak (T := m :: (Tr.node b q r L R).blks) (fun i hi => Or.inl (by rw [List.mem_singleton] at hi; subst hi; simp))).trans hC3 fun i hi => Or.inl ?_
          rw [List.mem_singleton] at hi
          subst hi
          simp [Tr.blks]
       have HRES := hd_ hres
       clear hres hm2 hC2 hb2 h52 hC3 IHL IHR HM2 HC2 H52 HB2
       go_wp2_with fail
       go_ret2
       exact ⟨(0, 0, sz2, sd), by rw [hput]; rfl, HRES.out⟩
      case c6_17 =>
       intro γ x W hiv
       have hW : W = W1.drew := hiv
       subst hW
       intro K hK
       have hf2 := mf 2
       rw [if_pos (by rfl)]; simp only [overlay, upd, cond_true, cond_false, List.getD_cons_zero, List.getD_cons_succ, Nat.reduceEqDiff, reduceIte]
       go_simp
       exact hK.out _ _ () rfl trivial rfl
      all_goals
       intro k hk1 hk2 γ x W hiv
       obtain rfl : k = 0 := by simp at hk2; omega
       have hW : W = W1.drew := hiv
       subst hW
       intro K hK
       rw [if_pos (by rfl)]; simp only [overlay, upd, cond_true, cond_false, List.getD_cons_zero, List.getD_cons_succ, Nat.reduceEqDiff, reduceIte]
       go_simp
       exact hK.out _ _ _ rfl rfl rfl
end Go.Proofs.YtceoficoappkpaaGreatDoor
