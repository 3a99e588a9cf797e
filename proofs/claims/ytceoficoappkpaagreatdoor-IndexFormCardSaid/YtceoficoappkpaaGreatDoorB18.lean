/- Texts joined by a tool: contracts and walks of this claim. -/
import Derived.Test.YtceoficoappkpaaGreatDoorB17
import Derived.Deep.LoopGhost
import Derived.RangeFuncNested
import Derived.RangeFuncBound
import Derived.RangeFuncCalls
import Derived.RangeFuncLeaves
import Derived.Shelf.Abstract
import Derived.Shelf.RegionOpen
import Derived.OwnWalkIn
import Derived.TacticsInMore
import Derived.LoopNIn
import Derived.LoopIn
import Derived.OrdersIn
import Derived.TacticsIn
namespace Go.Proofs.YtceoficoappkpaaGreatDoor
open Go.RowKit
theorem put_len (nb : Nat) (rk : Int) (p : Pr) : ∀ t : Tr, (t.put nb rk p).1.toL.length = t.toL.length + if (t.put nb rk p).2 then 1 else 0
 | .nil => rfl
 | .node b q r L R => by
  have i1 := put_len nb rk p L
  have i2 := put_len nb rk p R
  rw [Tr.put]
  split
  · split
    · next h => rw [if_pos h] at i1; simp only [liftL_toL, Tr.toL, List.length_append, List.length_cons, if_true, i1]; omega
    · next h => rw [if_neg h] at i1; simp only [Tr.toL, List.length_append, List.length_cons, i1, Bool.false_eq_true, if_false]; omega
  · split
    · split
      · next h => rw [if_pos h] at i2; simp only [liftR_toL, Tr.toL, List.length_append, List.length_cons, if_true, i2]; omega
      · next h => rw [if_neg h] at i2; simp only [Tr.toL, List.length_append, List.length_cons, i2, Bool.false_eq_true, if_false]; omega
    · simp [Tr.toL]
structure MemR (w : World) (m : Nat) (t : Tr) : Prop where
 b : ∃ sz sd, MemB w m t.addr t.toL.length sz sd
 tr : TrW w t
 nd : t.blks.Nodup
 out : m ∉ t.blks
 rise : Rise t.toL
theorem MemR.chg {S : List Nat} {w w' : World} {m : Nat} {t : Tr} (h : MemR w m t) (hc : Chg S w w') (hm : m ∉ S) (ht : ∀ b ∈ t.blks, b ∉ S) : MemR w' m t := by
 obtain ⟨sz, sd, hb⟩ := h.b
 exact ⟨⟨sz, sd, hb.chg hc hm⟩, h.tr.chg hc ht, h.nd, h.out, h.rise⟩
theorem MemR.ext {w w' : World} {m : Nat} {t : Tr} (h : MemR w m t) (hb : Below w.heap.size w w') : MemR w' m t := h.chg (Chg.of_below (S := []) hb) (by simp) (by simp)
theorem MemR.lt {w : World} {m : Nat} {t : Tr} (h : MemR w m t) : m < w.heap.size := by
 obtain ⟨_, _, hb⟩ := h.b
 exact hb.1.lt
theorem MemR.new {w : World} {m : Nat} (h : MemB w m none 0 0 0) : MemR w m .nil := ⟨⟨0, 0, h⟩, trivial, List.nodup_nil, by simp [Tr.blks], List.Pairwise.nil⟩
def MPutQ (w : World) (m : Nat) (t : Tr) (p : Pr) (e : Ending) (W : World) : Prop :=
 e = .returned (.int .i64 0) ∧ ∃ t', MemR W m t' ∧ t'.toL = insP p t.toL ∧ Chg (m :: t.blks) w W ∧ ∀ x ∈ t'.blks, x ∈ t.blks ∨ w.heap.size ≤ x
theorem prB_parts {p : Pr} (h : prB p = true) : p.k.size ≤ 512 ∧ p.v.size ≤ 262144 := by
 unfold prB at h
 simp only [Bool.and_eq_true, decide_eq_true_eq] at h
 exact ⟨h.1.1.2, h.1.2⟩
set_option maxRecDepth 100000 in
set_option maxHeartbeats 1600000 in
theorem memput_any (m : Nat) (t : Tr) (p : Pr) (hp : prB p = true) (w : World) (h : MemR w m t) (hn : t.toL.length + 1 ≤ 4611686018427387904) :
  Calls Tryz.prog 64 #[.pointer (some ⟨m, 0, none⟩), p.agg] w (MPutQ w m t p) := by
 have HC := hd_ (fun W => memcheck_any p W)
 have hps := prB_parts hp
 rw [hp] at HC
 unfold Pr.agg okE at *
 simp only [if_true] at HC
 have HH := hd_ (fun W (hW : Below w.heap.size w W) => h.ext hW)
 have hml := h.lt
 clear hp
 go_enter Tryz.func64, Tryz.ntmps64
 go_wp2_with fail
 refine (HC.out _).mono ?_
 rintro e W ⟨rfl, hb⟩
 have hW : Below w.heap.size w W := bt ((by repeat (first | exact Below.refl _ _ | assumption | refine Below.drew ?_ | refine below_drewN ?_ _ | refine Below.alloc ?_ (by simp <;> omega) _))) hb
 have h3 : Blk W w.heap.size #[.string p.k, .string p.v, .bool p.g] 45 := ((by repeat (first | exact Blk.at (by simp) | assumption | refine Blk.drew ?_ | refine Blk.old ?_ _)) : Blk (w.alloc (.cells #[.string p.k, .string p.v, .bool p.g] 45)) w.heap.size #[.string p.k, .string p.v, .bool p.g] 45).ext hb
 have hR := HH.out W hW
 obtain ⟨sz, sd, hM⟩ := hR.b
 clear hb HC
 go_upto_region 6 with fail
 obtain ⟨b3, hb3⟩ : ∃ b3, b3 = w.heap.size := ⟨_, rfl⟩
 rw [← hb3] at h3 ⊢
 have HB3 := hd_ hb3
 clear hb3
 obtain ⟨l3, p0, p1, p2⟩ := blk3f h3
 obtain ⟨lm, m0, m1, m2, m3, mf⟩ := blk4f hM.1
 have hMd : MemB W.drew m t.addr t.toL.length sz sd := hM.ext (by repeat (first | exact Below.refl _ _ | assumption | refine Below.drew ?_ | refine below_drewN ?_ _ | refine Below.alloc ?_ (by simp <;> omega) _))
 have hTd : TrW W.drew t := hR.tr.ext (by repeat (first | exact Below.refl _ _ | assumption | refine Below.drew ?_ | refine below_drewN ?_ _ | refine Below.alloc ?_ (by simp <;> omega) _))
 let Iv : Nat → (Nat × Int × Int × Int) → World → Prop := fun k g W1 => match k with
  | 0 => W1 = W.drew
  | 1 => PutF W.drew m t.addr t.toL.length t p g W1
  | _ => ∃ W', PutF W.drew m t.addr t.toL.length t p g W' ∧ W1 = W'.setCell ⟨m, 0, none⟩ (.pointer (t.put g.1 g.2.1 p).1.addr)
 refine region_phase (Iv) (fun k a b => k = 0 ∨ b = a) ((0, 0, 0, 0)) (fun g => [.pointer (some ⟨m, 0, none⟩), .pointer (some ⟨m, 0, none⟩), .pointer (some ⟨m, 0, none⟩), .pointer (some ⟨m, 0, none⟩), .pointer (some ⟨m, 0, none⟩), .pointer t.addr, .agg #[.string p.k, .string p.v, .bool p.g], .tuple #[.pointer (t.put g.1 g.2.1 p).1.addr, .bool (t.put g.1 g.2.1 p).2], .tuple #[.pointer (t.put g.1 g.2.1 p).1.addr, .bool (t.put g.1 g.2.1 p).2], .pointer (t.put g.1 g.2.1 p).1.addr, .bool (t.put g.1 g.2.1 p).2, .pointer (some ⟨m, 0, none⟩), .pointer (some ⟨m, 0, none⟩), undef]) [7, 13] [(0, 1), (0, 0), (0, 0), (0, 0), (0, 0), (0, 0), (0, 0), (0, 2), (1, 1), (1, 1), (1, 2), (1, 1), (1, 1), (0, 2)] [false, false, false, false, false, false, false, false, false, false, false, false, false, true, true, true, true, true, true, true, true, true, true, true, true, true] [14, 15, 16, 17, 18, 19, 20, 21, 13, 22, 23, 24, 25, 0] [7] rfl (fun _ => rfl) (fun k ga gb hr j c hc hne hcl => hr.elim (fun hk => by subst hk; obtain rfl : 7 = c := (by simpa using hc); exact (match j, hne, hcl with | 0, _, _ => rfl | 1, _, _ => rfl | 2, _, _ => rfl | 3, _, _ => rfl | 4, _, _ => rfl | 5, _, _ => rfl | 6, _, _ => rfl | 7, hne, _ => absurd rfl hne | 8, _, hcl => absurd (hcl.symm.trans (by kernel_rfl)) Bool.false_ne_true | 9, _, hcl => absurd (hcl.symm.trans (by kernel_rfl)) Bool.false_ne_true | 10, _, hcl => absurd (hcl.symm.trans (by kernel_rfl)) Bool.false_ne_true | 11, _, hcl => absurd (hcl.symm.trans (by kernel_rfl)) Bool.false_ne_true | 12, _, hcl => absurd (hcl.symm.trans (by kernel_rfl)) Bool.false_ne_true | 13, _, hcl => absurd (hcl.symm.trans (by kernel_rfl)) Bool.false_ne_true | j + 14, _, _ => rfl)) (fun h => by rw [h])) (by kernel_rfl) (by kernel_rfl) (by kernel_rfl) (by decide) (by kernel_rfl) (by kernel_rfl) (by kernel_rfl) (by kernel_rfl) (by kernel_rfl) ⟨PhStep.pure rfl ?_, PhStep.pure rfl ?_, PhStep.pure rfl ?_, PhStep.pure rfl ?_, PhStep.pure rfl ?_, PhStep.pure rfl ?_, PhStep.pure rfl ?_, PhStep.chain 0 rfl ?c6_7, PhStep.pure rfl ?_, PhStep.pure rfl ?_, PhStep.pure rfl ?_, PhStep.pure rfl ?_, PhStep.pure rfl ?_, PhStep.chain 1 rfl ?c6_13, trivial⟩ ?done6
 case done6 =>
  intro g x W1 hiv
  obtain ⟨W', hF, rfl⟩ := (hiv : ∃ W', _)
  simp only [StepGoal, List.map_cons, List.map_nil, overlay, upd, cond_true, cond_false, List.getD_cons_zero, List.getD_cons_succ, Nat.zero_add, Nat.reduceAdd, Nat.reduceEqDiff, reduceIte]
  clear Iv
  have hres : MPutQ w m t p (.returned (.int .i64 0)) (W'.setCell ⟨m, 0, none⟩ (.pointer (t.put g.1 g.2.1 p).1.addr)) := by
   obtain ⟨hT2, hnd2, hmem2, hM2, hC2⟩ := hF
   have hmT : m ∉ (t.put g.1 g.2.1 p).1.blks := by
    intro hx
    rcases hmem2 m hx with hx | hx
    · exact h.out hx
    · have : m < W.drew.heap.size := lm
      omega
   have hc1 : Chg [m] W' (W'.setCell ⟨m, 0, none⟩ (.pointer (t.put g.1 g.2.1 p).1.addr)) := (Chg.refl [m] W').set (b := m) (Or.inl (by simp)) _
   refine ⟨rfl, (t.put g.1 g.2.1 p).1, ⟨⟨g.2.2.1, g.2.2.2, ?_⟩, ?_, hnd2, hmT, ?_⟩, ?_, ?_, ?_⟩
   · rw [put_len]
     exact ⟨hM2.1.set _, hM2.2⟩
   · exact hT2.chg hc1 fun x hx hx2 => hmT (by rw [List.mem_singleton] at hx2; subst hx2; exact hx)
   · rw [Tr.put_toL _ _ _ _ h.rise]
     exact insP_rise h.rise
   · exact Tr.put_toL _ _ _ _ h.rise
   · refine ((Chg.of_below (S := m :: t.blks) hW.drew).trans hC2 fun i hi => Or.inl hi).trans hc1 fun i hi => Or.inl ?_
     rw [List.mem_singleton] at hi
     subst hi
     simp
   · intro x hx
     have := hW.drew.size
     exact (hmem2 x hx).imp id fun h => by omega
  have HRES := hd_ hres
  clear hres hF h3 hM hTd hMd hR p0 p1 p2 l3 lm m0 m1 m2 m3 mf
  go_wp2_with fail
  go_ret
  exact HRES.out
 case c6_7 =>
  intro g x W1 hiv
  have hW1 : W1 = W.drew := hiv
  subst hW1
  have HC := hd_ (mput_any m t.addr p hps t t.toL.length sz sd hn W.drew hMd hTd hR.nd hR.out)
  unfold Pr.agg at HC
  intro K hK
  rw [if_pos (by rfl)]; simp only [overlay, upd, cond_true, cond_false, List.getD_cons_zero, List.getD_cons_succ, Nat.reduceEqDiff, reduceIte]
  go_simp
  refine HC.out.mono ?_
  rintro e W' ⟨g', rfl, hF⟩
  exact hK.out _ _ g' hF (Or.inl rfl) rfl
 case c6_13 =>
  intro g x W1 hiv
  have hF : PutF W.drew m t.addr t.toL.length t p g W1 := hiv
  have d0 := hF.2.2.2.1.1.cell 0
  have df := hF.2.2.2.1.1.frozen 0
  simp only [List.getElem?_toArray, List.getElem?_cons_zero] at d0
  clear l3 p0 p1 p2 lm m0 m1 m2 m3 mf
  intro K hK
  rw [if_pos (by rfl)]; simp only [overlay, upd, cond_true, cond_false, List.getD_cons_zero, List.getD_cons_succ, Nat.reduceEqDiff, reduceIte]
  go_simp
  exact hK.out undef _ g ⟨W1, hF, rfl⟩ (Or.inr rfl) rfl
 all_goals
  intro k hk1 hk2 g x W1 hiv
  intro K hK
  first
   | (rw [if_pos (by rfl)]; simp only [overlay, upd, cond_true, cond_false, List.getD_cons_zero, List.getD_cons_succ, Nat.reduceEqDiff, reduceIte]
      go_simp
      exact hK.out _ _ _ hiv rfl rfl)
   | (obtain rfl : k = 0 := by simp at hk2; omega
      have hW : W1 = W.drew := hiv
      subst hW
      first
       | (rw [if_pos (by rfl)]; simp only [overlay, upd, cond_true, cond_false, List.getD_cons_zero, List.getD_cons_succ, Nat.reduceEqDiff, reduceIte]
          go_simp
          exact hK.out _ _ _ rfl rfl rfl)
       | (rw [if_pos (by rfl)]; simp only [overlay, cond_true, cond_false]
          go_simp
          exact hK.out _ _ _ rfl rfl rfl))
def gotP : Option Pr → Value
 | some q => .tuple #[q.agg, .bool true]
 | none => .tuple #[.agg #[.string ⟨#[]⟩, .string ⟨#[]⟩, .bool false], .bool false]
theorem find_lt (k : ByteArray) (b : Nat) (p : Pr) (r : Int) (L R : Tr) (h : kLt k p.k = true) : (Tr.node b p r L R).find k = L.find k := by rw [Tr.find, if_pos h]
theorem find_gt (k : ByteArray) (b : Nat) (p : Pr) (r : Int) (L R : Tr) (h : ¬ kLt k p.k = true) (h2 : kLt p.k k = true) : (Tr.node b p r L R).find k = R.find k := by rw [Tr.find, if_neg h, if_pos h2]
theorem find_at (k : ByteArray) (b : Nat) (p : Pr) (r : Int) (L R : Tr) (h : ¬ kLt k p.k = true) (h2 : ¬ kLt p.k k = true) : (Tr.node b p r L R).find k = some p := by rw [Tr.find, if_neg h, if_neg h2]
set_option maxRecDepth 100000 in
set_option maxHeartbeats 800000 in
theorem memget_any (m : Nat) (t : Tr) (k : ByteArray) (w : World) (h : MemR w m t) : Calls Tryz.prog 49 #[.pointer (some ⟨m, 0, none⟩), .string k] w fun e w' => e = .returned (gotP (findP k t.toL)) ∧ Below w.heap.size w w' := by
 rw [← Tr.find_eq k t h.rise]
 obtain ⟨sz, sd, hM⟩ := h.b
 have HT := hd_ h.tr
 obtain ⟨lm, m0, m1, m2, m3, mf⟩ := blk4f hM.1
 clear h hM
 go_enter Tryz.func49, Tryz.ntmps49
 go_wp2
 go_step3
 go_wp2
 go_step3
 go_wp2
 go_loopg [6] t.blks.length (fun g x wr => ∃ s : Tr, x = .pointer s.addr ∧ s.blks.length ≤ g ∧ Hid (TrW w s) ∧ Hid (s.find k = t.find k) ∧ wr = w.alloc (.cells #[.string ⟨#[]⟩, .string ⟨#[]⟩, .bool false] 45))
 case atStart => exact ⟨t, rfl, Nat.le_refl _, HT.out, rfl, rfl⟩
 case round =>
  obtain ⟨s, rfl, hg, HS, HF, rfl⟩ := hrel
  cases s with
  | nil =>
   have hf : t.find k = none := HF.out.symm
   have HFN := hd_ hf
   clear hf
   show Code.wp _ _ _ ⟨#[_, _, _, _, _, _, .pointer none, _, _, _, _, _, _, _, _, _, _, _, _, _, _, _, _, _, _, _, _, _, _, _, _, _, _, _, _, _, _, _, _, _, _, _, _, _, _, _, _], _⟩ _
   go_wp2
   rw [Exit.noGoto_ret]
   refine bodyPost_ret (v := gotP none) (by simp [results, Tryz.results49, go_sem, gotP]) rfl ?_
   exact ⟨by rw [HFN.out], (by repeat (first | exact Below.refl _ _ | assumption | refine Below.drew ?_ | refine below_drewN ?_ _ | refine Below.alloc ?_ (by simp <;> omega) _))⟩
  | node b q r L R =>
   have hT : TrW (w.alloc (.cells #[.string ⟨#[]⟩, .string ⟨#[]⟩, .bool false] 45)) (.node b q r L R) := HS.out.ext (by repeat (first | exact Below.refl _ _ | assumption | refine Below.drew ?_ | refine below_drewN ?_ _ | refine Below.alloc ?_ (by simp <;> omega) _))
   have hnb := hT.2.2.1
   unfold nodeC at hnb
   rw [show L.ptr = .pointer L.addr from rfl, show R.ptr = .pointer R.addr from rfl] at hnb
   obtain ⟨lb, b0, b1, b2, b3, b4, bb5, bf⟩ := blk6 hnb
   have hbw : b ≠ w.heap.size := by have := HS.out.lt b (by simp [Tr.blks]); omega
   show Code.wp _ _ _ ⟨#[_, _, _, _, _, _, .pointer (some ⟨b, 0, none⟩), _, _, _, _, _, _, _, _, _, _, _, _, _, _, _, _, _, _, _, _, _, _, _, _, _, _, _, _, _, _, _, _, _, _, _, _, _, _, _, _], _⟩ _
   clear hT hnb
   simp only [Tr.blks, List.length_cons, List.length_append] at hg
   by_cases c1 : kLt k q.k = true
   · have c1' : Op.bytesLess k.toList q.k.toList = true := c1
     have HF2 := hd_ ((find_lt k b q r L R c1).symm.trans HF.out)
     go_wp2
     go_roundg (gk - 1)
     case rel => exact ⟨L, rfl, by omega, HS.out.2.2.2.1, HF2.out, rfl⟩
     case measure => omega
   · have c1' : Op.bytesLess k.toList q.k.toList = false := kLt_f c1
     by_cases c2 : kLt q.k k = true
     · have ce' := key_ne c2
       have HF2 := hd_ ((find_gt k b q r L R c1 c2).symm.trans HF.out)
       go_wp2
       go_roundg (gk - 1)
       case rel => exact ⟨R, rfl, by omega, HS.out.2.2.2.2, HF2.out, rfl⟩
       case measure => omega
     · have ck : k = q.k := kLt_total (by simpa using c1) (by simpa using c2)
       have ce' : (k.toList == q.k.toList) = true := by rw [ck]; exact beq_self_eq_true _
       have hf : t.find k = some q := HF.out.symm.trans (find_at k b q r L R c1 c2)
       have HFN := hd_ hf
       clear ck hf
       go_wp2
       rw [Exit.noGoto_ret]
       refine bodyPost_ret (v := gotP (some q)) (by simp [results, Tryz.results49, go_sem, gotP, Pr.agg]) rfl ?_
       exact ⟨by rw [HFN.out], (by repeat (first | exact Below.refl _ _ | assumption | refine Below.drew ?_ | refine below_drewN ?_ _ | refine Below.alloc ?_ (by simp <;> omega) _))⟩
end Go.Proofs.YtceoficoappkpaaGreatDoor
namespace Go.Proofs.YtceoficoappkpaaGreatDoor
open Go.RowKit Go.Shelf
attribute [local go_sem] Oper.semAt_some

def Tr.fromL (fr : ByteArray) : Tr → List Pr
 | .nil => []
 | .node _ q _ L R => if kLt q.k fr then R.fromL fr else L.fromL fr ++ q :: R.fromL fr
def FromP (w0 : World) (J Jx : List Pr → World → Prop) (L : List Pr) (pre : List Pr) (W : World) (e : Ending) (W' : World) : Prop :=
 (e = .returned (.bool true) ∧ J (pre ++ L) W' ∧ Below w0.heap.size W W') ∨ (e = .returned (.bool false) ∧ ∃ q, q <+: L ∧ Jx (pre ++ q) W')
set_option maxRecDepth 100000 in
set_option maxHeartbeats 2000000 in
theorem from_in (w0 : World) (l N : Nat) (fr : ByteArray) (J Jx : List Pr → World → Prop)
  (hY : ∀ m pre (x : Pr) W, J pre W → pre.length < N → YieldAt Fence.wide m Tryz.prog l #[x.agg] W fun e W' =>
    (e = .returned (.bool true) ∧ J (pre ++ [x]) W' ∧ Below w0.heap.size W W') ∨ (e = .returned (.bool false) ∧ Jx (pre ++ [x]) W')) :
  ∀ (t : Tr) (m : Nat) (pre : List Pr) (W : World), TrW w0 t → Below w0.heap.size w0 W → J pre W → pre.length + (t.fromL fr).length ≤ N →
   CallsIn Fence.wide m Tryz.prog 125 #[.pointer t.addr, .string fr, .func (.yield l) #[] #[]] W (FromP w0 J Jx (t.fromL fr) pre W)
 | .nil, m, pre, W, _, _, hj, _ => by
  have HJ := hd_ hj
  clear hj hY
  show CallsIn _ _ _ _ #[.pointer none, _, _] _ _
  refine callsIn_of_wp Tryz.func125 rfl trivial ?_ rfl
  simp only [Tryz.ntmps125, List.size_toArray, List.length_cons, List.length_nil, Nat.reduceAdd, Nat.reduceSub, Array.replicate_succ, Array.replicate_zero, List.push_toArray, List.append_toArray, List.nil_append, List.cons_append]
  gi_wp2_with fail
  go_ret
  exact Or.inl ⟨rfl, by simpa [Tr.fromL] using HJ.out, Below.refl _ _⟩
 | .node b q r L R, m, pre, W, hT, hW, hj, hN => by
  have IHL := hd_ (from_in w0 l N fr J Jx hY L)
  have IHR := hd_ (from_in w0 l N fr J Jx hY R)
  have HY := hd_ hY
  have HT := hd_ hT
  have HW := hd_ hW
  have HJ := hd_ hj
  have hlb := hT.2.2.1.lt
  have hnb : ∀ W', Below w0.heap.size w0 W' → Blk W' b #[.string q.k, .string q.v, .bool q.g, .int .u64 r, .pointer L.addr, .pointer R.addr] 139 := fun W' h => (h.block b hlb).trans hT.2.2.1
  have HNB := hd_ hnb
  clear hT hW hj hnb hY
  have hdd : ∀ k : Nat, (Fence.wide.depth.isSome = true → 1 ≤ k) := fun k h => by simp [Fence.wide] at h
  show CallsIn _ _ _ _ #[.pointer (some ⟨b, 0, none⟩), _, _] _ _
  obtain ⟨lb, b0, b1, b2, b3, b4, b5, bf⟩ := blk6 (HNB.out W HW.out)
  by_cases c1 : kLt q.k fr = true
  · have c1' : Op.bytesLess q.k.toList fr.toList = true := c1
    have hfl : (Tr.node b q r L R).fromL fr = R.fromL fr := by rw [Tr.fromL, if_pos c1]
    rw [hfl] at hN ⊢
    have HC := hd_ (IHR.out (m - 1) pre W HT.out.2.2.2.2 HW.out HJ.out hN)
    refine callsIn_of_wp Tryz.func125 rfl trivial ?_ rfl
    simp only [Tryz.ntmps125, List.size_toArray, List.length_cons, List.length_nil, Nat.reduceAdd, Nat.reduceSub, Array.replicate_succ, Array.replicate_zero, List.push_toArray, List.append_toArray, List.nil_append, List.cons_append]
    gi_wp2_with fail
    refine ⟨trivial, hdd _, HC.out.mono ?_⟩
    rintro e W' (⟨rfl, h1, h2⟩ | ⟨rfl, q', h1, h2⟩)
    · have H1 := hd_ h1
      have H2 := hd_ h2
      clear h1 h2
      gi_wp2_with fail
      go_ret
      exact Or.inl ⟨rfl, H1.out, H2.out⟩
    · have H1 := hd_ h1
      have H2 := hd_ h2
      clear h1 h2
      gi_wp2_with fail
      go_ret
      exact Or.inr ⟨rfl, q', H1.out, H2.out⟩
  · have c1' : Op.bytesLess q.k.toList fr.toList = false := kLt_f c1
    have hfl : (Tr.node b q r L R).fromL fr = L.fromL fr ++ q :: R.fromL fr := by rw [Tr.fromL, if_neg c1]
    rw [hfl] at hN ⊢
    simp only [List.length_append, List.length_cons] at hN
    have HC := hd_ (IHL.out (m - 1) pre W HT.out.2.2.2.1 HW.out HJ.out (by omega))
    refine callsIn_of_wp Tryz.func125 rfl trivial ?_ rfl
    simp only [Tryz.ntmps125, List.size_toArray, List.length_cons, List.length_nil, Nat.reduceAdd, Nat.reduceSub, Array.replicate_succ, Array.replicate_zero, List.push_toArray, List.append_toArray, List.nil_append, List.cons_append]
    gi_wp2_with fail
    refine ⟨trivial, hdd _, HC.out.mono ?_⟩
    rintro e W2 (⟨rfl, h1, h2⟩ | ⟨rfl, q', h1, h2⟩)
    · have hW2 : Below w0.heap.size w0 W2 := HW.out.trans h2
      obtain ⟨fn, tmps, assign, body, hy, hR⟩ := HY.out (m - 1) _ q W2 h1 (by simp only [List.length_append]; omega)
      unfold Pr.agg at hy
      have H2 := hd_ h2
      have HW2 := hd_ hW2
      clear h1 h2 hW2 lb b0 b1 b2 b3 b4 b5 bf
      obtain ⟨lb, b0, b1, b2, b3, b4, b5, bf⟩ := blk6 (HNB.out W2 HW2.out)
      gi_wp2_with fail
      refine ⟨hdd _, hR.mono ?_⟩
      rintro e W3 (⟨rfl, h1, h3⟩ | ⟨rfl, h1⟩)
      · have hW3 : Below w0.heap.size w0 W3 := HW2.out.trans h3
        have HC3 := hd_ (IHR.out (m - 1) _ W3 HT.out.2.2.2.2 hW3 h1 (by simp only [List.length_append, List.length_cons, List.length_nil]; omega))
        have H3 := hd_ (H2.out.trans h3)
        have HW3 := hd_ hW3
        clear h1 h3 hW3 hy hR lb b0 b1 b2 b3 b4 b5 bf
        obtain ⟨lb, b0, b1, b2, b3, b4, b5, bf⟩ := blk6 (HNB.out W3 HW3.out)
        gi_wp2_with fail
        refine ⟨trivial, hdd _, HC3.out.mono ?_⟩
        rintro e W4 (⟨rfl, h1, h4⟩ | ⟨rfl, q', h1, h4⟩)
        · have H1 := hd_ h1
          have H4 := hd_ (H3.out.trans h4)
          clear h1 h4 lb b0 b1 b2 b3 b4 b5 bf
          gi_wp2_with fail
          go_ret
          exact Or.inl ⟨rfl, by simpa [List.append_assoc] using H1.out, H4.out⟩
        · have H1 := hd_ h1
          have H4 := hd_ h4
          clear h1 h4 lb b0 b1 b2 b3 b4 b5 bf
          gi_wp2_with fail
          go_ret
          refine Or.inr ⟨rfl, L.fromL fr ++ q :: q', ?_, by simpa [List.append_assoc] using H4.out⟩
          obtain ⟨z, hz⟩ := H1.out
          exact ⟨z, by rw [← hz]; simp⟩
      · have H1 := hd_ h1
        clear h1 hy hR lb b0 b1 b2 b3 b4 b5 bf
        gi_wp2_with fail
        refine ⟨trivial, ?_⟩
        gi_wp2_with fail
        go_ret
        exact Or.inr ⟨rfl, L.fromL fr ++ [q], ⟨R.fromL fr, by simp⟩, by simpa [List.append_assoc] using H1.out⟩
    · have H1 := hd_ h1
      have H2 := hd_ h2
      clear h1 h2 lb b0 b1 b2 b3 b4 b5 bf
      gi_wp2_with fail
      refine ⟨fun f h => (by cases h), ?_⟩
      gi_wp2_with fail
      refine ⟨trivial, ?_⟩
      gi_wp2_with fail
      go_ret
      obtain ⟨z, hz⟩ := H1.out
      exact Or.inr ⟨rfl, q', ⟨z ++ q :: R.fromL fr, by rw [← hz]; simp⟩, H2.out⟩
end Go.Proofs.YtceoficoappkpaaGreatDoor
namespace Go.Proofs.YtceoficoappkpaaGreatDoor
open Go.RowKit Go.Shelf
attribute [local go_sem] Oper.semAt_some

theorem yield_any' {F : Fence} (hd : F.depth = none) {m : Nat} (m' : Nat) {P : Program} {l : Nat} {args : Array Value} {W : World} {R : Ending → World → Prop} (h : YieldAt F m P l args W R) : YieldAt F m' P l args W R := by
 obtain ⟨fn, tmps, assign, body, hy, hR⟩ := h
 exact ⟨fn, tmps, assign, body, hy, hR.1, fun c cs _ => hR.2 c cs (fun d h => by rw [hd] at h; cases h)⟩
set_option maxRecDepth 100000 in
set_option maxHeartbeats 1000000 in
theorem each1_stops (w0 : World) (n Bm Bf mm : Nat) (t : Tr) (fr : ByteArray) (w : World) (hBm : Blk w Bm #[.pointer (some ⟨mm, 0, none⟩)] 100) (hBf : Blk w Bf #[.string fr] 9) (hM : MemR w0 mm t) (hw : Below w0.heap.size w0 w) :
  SeqStopsK Fence.wide n Tryz.prog 124 #[.pointer (some ⟨Bm, 0, none⟩), .pointer (some ⟨Bf, 0, none⟩)] (fun x : Pr => #[x.agg]) (fun W W' => Below w0.heap.size W W') (fun ys => ys = t.fromL fr) (fun pre => pre <+: t.fromL fr) (t.fromL fr).length w := by
 intro l J Jx W hW hJ hJx hY h0
 have h0d : J [] W.drew := hJ [] W W.drew none h0 ⟨rfl, rfl, rfl, Nat.le_refl _, fun i _ _ => rfl⟩ (fun r e => by cases e)
 have hWd : Below w0.heap.size w0 W.drew := (hw.trans (hW.mono hw.size)).drew
 have HC := hd_ (callsIn_wide.1 (from_in w0 l (t.fromL fr).length fr J Jx (fun m' pre x W1 hj hl => yield_any' rfl m' (hY pre x W1 hj hl)) t (n - 1) [] W.drew hM.tr hWd h0d (by simp)))
 obtain ⟨sz, sd, hMb⟩ := hM.b
 have hMW : MemB W mm t.addr t.toL.length sz sd := hMb.chg (Chg.of_below (S := []) (hw.trans (hW.mono hw.size))) (by simp)
 obtain ⟨lm, m0, m1, m2, m3, mf⟩ := blk4f hMW.1
 have hbm := (hBm.ext hW).cell 0
 have hbf := (hBf.ext hW).cell 0
 have lbm := (hBm.ext hW).lt
 have lbf := (hBf.ext hW).lt
 simp only [List.getElem?_toArray, List.getElem?_cons_zero] at hbm hbf
 refine callsIn_wide.2 ?_
 clear hJ hJx hY hW hw hBm hBf hMb hMW hM hWd h0d h0
 go_enter Tryz.func124, Tryz.ntmps124
 let Iv : Nat → Bool → World → Prop := fun k g W1 => match k with
  | 0 => W1 = W.drew
  | _ => FromP w0 J Jx (t.fromL fr) [] W.drew (.returned (.bool g)) W1
 refine region_phase (Iv) (fun k a b => k = 0 ∨ b = a) (true) (fun g => [.pointer (some ⟨mm, 0, none⟩), .pointer (some ⟨mm, 0, none⟩), .pointer (some ⟨mm, 0, none⟩), .pointer t.addr, .string fr, .func (.yield l) #[] #[], .bool g]) [6] [(0, 0), (0, 0), (0, 0), (0, 0), (0, 0), (0, 0), (0, 1)] [false, false, false, false, true, true, true, true, true, true, true] [4, 5, 6, 7, 8, 9, 10] [6] rfl (fun _ => rfl) (fun k ga gb hr j c hc hne hcl => hr.elim (fun hk => by subst hk; obtain rfl : 6 = c := (by simpa using hc); exact (match j, hne, hcl with | 0, _, _ => rfl | 1, _, _ => rfl | 2, _, _ => rfl | 3, _, _ => rfl | 4, _, _ => rfl | 5, _, _ => rfl | 6, hne, _ => absurd rfl hne | j + 7, _, _ => rfl)) (fun h => by rw [h])) (by kernel_rfl) (by kernel_rfl) (by kernel_rfl) (by decide) (by kernel_rfl) (by kernel_rfl) (by kernel_rfl) (by kernel_rfl) (by kernel_rfl) ⟨PhStep.pure rfl ?_, PhStep.pure rfl ?_, PhStep.pure rfl ?_, PhStep.pure rfl ?_, PhStep.pure rfl ?_, PhStep.pure rfl ?_, PhStep.chain 0 rfl ?c0_6, trivial⟩ ?done0
 case done0 =>
  intro g x W1 hiv
  have hF : FromP w0 J Jx (t.fromL fr) [] W.drew (.returned (.bool g)) W1 := hiv
  simp only [StepGoal, List.map_cons, List.map_nil, overlay, upd, cond_true, cond_false, List.getD_cons_zero, List.getD_cons_succ, Nat.zero_add, Nat.reduceAdd, Nat.reduceEqDiff, reduceIte]
  clear hiv Iv
  have HF := hd_ hF
  clear hF
  go_wp2_with fail
  go_end0
  rcases HF.out with ⟨_, h1, h2⟩ | ⟨h0, q, hq, hx⟩
  · exact ⟨⟨_, rfl⟩, .inl ⟨t.fromL fr, rfl, by simpa using h1⟩⟩
  · exact ⟨⟨_, rfl⟩, .inr ⟨q, hq, by simpa using hx⟩⟩
 case c0_6 =>
  intro g x W1 hiv
  have hW1 : W1 = W.drew := hiv
  subst hW1
  intro K hK
  rw [if_pos (by rfl)]; simp only [overlay, upd, cond_true, cond_false, List.getD_cons_zero, List.getD_cons_succ, Nat.reduceEqDiff, reduceIte]
  go_simp
  refine HC.out.mono ?_
  rintro e W' hF
  rcases hF with ⟨rfl, h1, h2⟩ | ⟨rfl, q, h1, h2⟩
  · exact hK.out _ _ true (Or.inl ⟨rfl, h1, h2⟩) (Or.inl rfl) rfl
  · exact hK.out _ _ false (Or.inr ⟨rfl, q, h1, h2⟩) (Or.inl rfl) rfl
 all_goals
  intro k hk1 hk2 g x W1 hiv
  intro K hK
  first
   | (rw [if_pos (by rfl)]; simp only [overlay, upd, cond_true, cond_false, List.getD_cons_zero, List.getD_cons_succ, Nat.reduceEqDiff, reduceIte]
      go_simp
      exact hK.out _ _ _ hiv rfl rfl)
   | (obtain rfl : k = 0 := by simp at hk2; omega
      have hW : W1 = W.drew := hiv
      subst hW
      first
       | (rw [if_pos (by rfl)]; simp only [overlay, upd, cond_true, cond_false, List.getD_cons_zero, List.getD_cons_succ, Nat.reduceEqDiff, reduceIte]
          go_simp
          exact hK.out _ _ _ rfl rfl rfl)
       | (rw [if_pos (by rfl)]; simp only [overlay, cond_true, cond_false]
          go_simp
          exact hK.out _ _ _ rfl rfl rfl))
end Go.Proofs.YtceoficoappkpaaGreatDoor
namespace Go.Proofs.YtceoficoappkpaaGreatDoor
open Go.RowKit Go.Shelf

theorem Rg.blk_own {β : Type} (b : Nat) (cs : β → Array Value) (t : TypeId) : Own (fun s W => Blk W b (cs s) t) := fun s X Y row hs hg hrow => by
 have hs' : X.heap[b]? = some (.cells (cs s) t (0, 0)) := hs
 refine (hg.block b (Array.getElem?_eq_some_iff.1 hs').1 (fun e => ?_)).trans hs'
 obtain ⟨o, ho, hc⟩ := hrow b e.symm
 rw [hs'] at ho
 cases ho
 cases hc
theorem Rg.keepsFrom_below {B : Nat} {W W' : World} (h : Below W.heap.size W W') : KeepsFrom B W W' := ⟨h.size, fun k _ _ hk _ => (h.block k (Array.getElem?_eq_some_iff.1 hk).1).trans hk⟩
theorem Rg.keepsFrom_put {B : Nat} {w : World} {b : Nat} {cs ds : Array Value} {t : TypeId} (hlt : b < w.heap.size) : KeepsFrom B (putBlk w b cs t) (putBlk w b ds t) :=
 ⟨by simp [putBlk_size], fun k o _ hk ho => by
   have hne : k ≠ b := by
    intro e
    subst e
    have := putBlk_blk (w := w) cs t hlt
    unfold Blk at this
    rw [this] at hk
    cases hk
    cases ho
   rw [show (putBlk w b ds t).heap[k]? = (putBlk w b cs t).heap[k]? by unfold putBlk; simp only; rw [Array.getElem?_setIfInBounds_ne (Ne.symm hne), Array.getElem?_setIfInBounds_ne (Ne.symm hne)]]
   exact hk⟩
theorem Rg.own_own {β : Type} (base e size n : Nat) (v : Value) (xs : List Value) : Own (fun (_ : β) W => World.ownsRow W base e size v n xs) := fun s X Y row hs hg hrow => by
 refine hs.kept hg ?_
 by_cases h : v.ownBlock = none
 · exact Or.inl h
 · right
   intro e'
   obtain ⟨b, hb⟩ : ∃ b, v.ownBlock = some b := by cases hv : v.ownBlock with | none => exact absurd hv h | some b => exact ⟨b, rfl⟩
   obtain ⟨o, ho, hc⟩ := hrow b (by rw [← e', hb])
   rcases hs.2 with ⟨rfl, _⟩ | ⟨g, cap, cur, rfl, _, hg', _⟩
   · cases hb
   · have : g = b := by simpa [Value.ownBlock] using hb
     subst this
     rw [hg'] at ho
     cases ho
     cases hc
theorem Rg.blk_grown {W W' : World} {b : Nat} {cs : Array Value} {t : TypeId} {base e size n : Nat} {v : Value} {xs : List Value} (h : Blk W b cs t) (ho : W.ownsRow base e size v n xs) (hne : t ≠ e) (hg : W.grownBy W' v.ownBlock) : Blk W' b cs t := by
 unfold Blk at h ⊢
 rw [← h]
 refine hg.block b (Array.getElem?_eq_some_iff.1 h).1 (fun e' => ?_)
 rcases ho.2 with ⟨rfl, _⟩ | ⟨g, cap, cur, rfl, _, hg', _⟩
 · cases e'
 · have : b = g := by simpa [Value.ownBlock] using e'
   subst this
   rw [hg'] at h
   cases h
   exact hne rfl
theorem Rg.keepsFrom_grown {B : Nat} {W W' : World} {base e size n : Nat} {v : Value} {xs : List Value} (ho : W.ownsRow base e size v n xs) (hg : W.grownBy W' v.ownBlock) : KeepsFrom B W W' :=
 ⟨hg.size, fun k o _ hk hc => by
   rw [← hk]
   refine hg.block k (Array.getElem?_eq_some_iff.1 hk).1 (fun e' => ?_)
   rcases ho.2 with ⟨rfl, _⟩ | ⟨g, cap, cur, rfl, _, hg', _⟩
   · cases e'
   · have : k = g := by simpa [Value.ownBlock] using e'
     subst this
     rw [hg'] at hk
     cases hk
     cases hc⟩
theorem Rg.row_form {w : World} {base e size n : Nat} {v : Value} {xs : List Value} (h : w.ownsRow base e size v n xs) : ∃ A c, v = .slice A n c := by
 rcases h.2 with ⟨rfl, rfl⟩ | ⟨g, cap, cur, rfl, _⟩
 · exact ⟨none, 0, rfl⟩
 · exact ⟨_, _, rfl⟩
end Go.Proofs.YtceoficoappkpaaGreatDoor
