/- Texts joined by a tool: contracts and walks of this claim. -/
import Derived.Test.YtceoficoappkpaaGreatDoorB15
namespace Go.Proofs.YtceoficoappkpaaGreatDoor
open Go.RowKit
def PutF (w : World) (m : Nat) (root : Option Addr) (n : Nat) (t : Tr) (p : Pr) (g : Nat × Int × Int × Int) (W : World) : Prop :=
 TrW W (t.put g.1 g.2.1 p).1 ∧ (t.put g.1 g.2.1 p).1.blks.Nodup ∧ (∀ x ∈ (t.put g.1 g.2.1 p).1.blks, x ∈ t.blks ∨ w.heap.size ≤ x) ∧ MemB W m root (n + if (t.put g.1 g.2.1 p).2 then 1 else 0) g.2.2.1 g.2.2.2 ∧ Chg (m :: t.blks) w W
def PutQ (w : World) (m : Nat) (root : Option Addr) (n : Nat) (t : Tr) (p : Pr) (e : Ending) (W : World) : Prop :=
 ∃ g, e = .returned (.tuple #[.pointer (t.put g.1 g.2.1 p).1.addr, .bool (t.put g.1 g.2.1 p).2]) ∧ PutF w m root n t p g W
theorem i64_in (x : Int) : -9223372036854775808 ≤ IntKind.i64.wrap x ∧ IntKind.i64.wrap x ≤ 9223372036854775807 := by
 rw [IntWalk.i64_left]
 unfold wrap64
 omega
theorem MemB.ext {w w' : World} {m : Nat} {root : Option Addr} {n : Nat} {sz sd : Int} (h : MemB w m root n sz sd) (hb : Below w.heap.size w w') : MemB w' m root n sz sd := ⟨h.1.ext hb, h.2⟩
theorem MemB.chg {S : List Nat} {w w' : World} {m : Nat} {root : Option Addr} {n : Nat} {sz sd : Int} (h : MemB w m root n sz sd) (hc : Chg S w w') (hm : m ∉ S) : MemB w' m root n sz sd := ⟨h.1.chg hc hm, h.2⟩
theorem blk3f {w : World} {b : Nat} {a0 a1 a2 : Value} {t : TypeId} (h : Blk w b #[a0, a1, a2] t) : b < w.heap.size ∧ w.cell? ⟨b, 0, none⟩ = some a0 ∧ w.cell? ⟨b, 1, none⟩ = some a1 ∧ w.cell? ⟨b, 2, none⟩ = some a2 := ⟨h.lt, h.cell 0, h.cell 1, h.cell 2⟩
set_option maxRecDepth 100000 in
set_option maxHeartbeats 1600000 in
theorem put_nil (m : Nat) (root : Option Addr) (n : Nat) (sz sd : Int) (p : Pr) (hp : p.k.size ≤ 512 ∧ p.v.size ≤ 262144) (hn : n + 1 ≤ 4611686018427387904) (w : World) (h : MemB w m root n sz sd) :
  Calls Tryz.prog 101 #[.pointer (some ⟨m, 0, none⟩), .pointer none, p.agg] w (PutQ w m root n .nil p) := by
 unfold Pr.agg
 obtain ⟨lm0, _⟩ := blk4f h.1
 go_enter Tryz.func101, Tryz.ntmps101
 have h0 : MemB (w.alloc (.cells #[.string p.k, .string p.v, .bool p.g] 45)) m root n sz sd := h.ext (by repeat (first | exact Below.refl _ _ | assumption | refine Below.drew ?_ | refine below_drewN ?_ _ | refine Below.alloc ?_ (by simp <;> omega) _))
 have h5 : Blk (w.alloc (.cells #[.string p.k, .string p.v, .bool p.g] 45)) w.heap.size #[.string p.k, .string p.v, .bool p.g] 45 := (by repeat (first | exact Blk.at (by simp) | assumption | refine Blk.drew ?_ | refine Blk.old ?_ _))
 have hC : Chg [m] w (w.alloc (.cells #[.string p.k, .string p.v, .bool p.g] 45)) := Chg.of_below (by repeat (first | exact Below.refl _ _ | assumption | refine Below.drew ?_ | refine below_drewN ?_ _ | refine Below.alloc ?_ (by simp <;> omega) _))
 have hs : w.heap.size < (w.alloc (.cells #[.string p.k, .string p.v, .bool p.g] 45)).heap.size := h5.lt
 have hmb : m ≠ w.heap.size := by omega
 go_upto_region 2 with fail
 generalize w.alloc (.cells #[.string p.k, .string p.v, .bool p.g] 45) = W0 at h0 h5 hC hs ⊢
 obtain ⟨b5, hb5⟩ : ∃ b5, b5 = w.heap.size := ⟨_, rfl⟩
 rw [← hb5] at h5 hs hmb ⊢
 have HB5 := hd_ hb5
 clear hb5 h
 obtain ⟨hb, hn0, hz, hs0, hs1⟩ := h0
 obtain ⟨lb, b0, b1, b2, b3, bf⟩ := blk4f hb
 have h1 := hb.set (i := 1) (.int .i64 ((n : Int) + 1))
 have hC1 := hC.set (b := m) (i := 1) (Or.inl (by simp)) (.int .i64 ((n : Int) + 1))
 have h51 := h5.set_ne hmb (i := 1) (.int .i64 ((n : Int) + 1))
 have hsz1 : (W0.setCell ⟨m, 1, none⟩ (.int .i64 ((n : Int) + 1))).heap.size = W0.heap.size := set_size _ _ _
 have hn1 : (n : Int) + 1 ≤ 9223372036854775807 := by omega
 go_upto_region 3 with fail
 generalize W0.setCell ⟨m, 1, none⟩ (.int .i64 ((n : Int) + 1)) = W1 at h1 hC1 h51 hsz1 ⊢
 have hm1 : MemB W1 m root (n + 1) sz sd := ⟨h1, hn, hz, hs0, hs1⟩
 clear h1 b0 b1 b2 b3 bf lb hb hC h5 hn1
 have hs' : b5 < W1.heap.size := by omega
 clear hsz1 hs
 obtain ⟨lb, b0, b1, b2, b3, bf⟩ := blk4f hm1.1
 obtain ⟨l5, p0, p1, p2⟩ := blk3f h51
 have e28 : IntKind.i64.wrap ((p.k.size : Int) + p.v.size) = p.k.size + p.v.size := IntWalk.i64_in _ (by omega)
 obtain ⟨sz2, hsz2⟩ : ∃ sz2, sz2 = IntKind.i64.wrap (sz + ((p.k.size : Int) + p.v.size)) := ⟨_, rfl⟩
 have hz2 : -9223372036854775808 ≤ sz2 ∧ sz2 ≤ 9223372036854775807 := by rw [hsz2]; exact i64_in _
 have e29 : IntKind.i64.wrap (sz + ((p.k.size : Int) + p.v.size)) = sz2 := hsz2.symm
 clear hsz2
 let IvA : Nat → Unit → World → Prop := fun k _ W => match k with
  | 0 => W = W1.drew
  | _ => W = W1.drew.setCell ⟨m, 2, none⟩ (.int .i64 sz2)
 refine region_phase (IvA) (fun _ _ _ => True) (()) (fun _ => [.pointer (some ⟨m, 0, none⟩), .pointer (some ⟨m, 0, none⟩), .pointer (some ⟨m, 2, none⟩), .int .i64 sz, .pointer (some ⟨b5, 0, none⟩), .string p.k, .int .i64 p.k.size, .pointer (some ⟨b5, 1, none⟩), .string p.v, .int .i64 p.v.size, .int .i64 (p.k.size + p.v.size), .int .i64 sz2, .pointer (some ⟨m, 0, none⟩), .pointer (some ⟨m, 2, none⟩), undef]) [14] [(0, 0), (0, 0), (0, 0), (0, 0), (0, 0), (0, 0), (0, 0), (0, 0), (0, 0), (0, 0), (0, 0), (0, 0), (0, 0), (0, 0), (0, 1)] [false, false, false, false, false, false, false, false, false, false, false, false, false, false, false, false, false, false, true, true, true, true, true, true, true, true, true, true, true, true, true, true, false, false, false, false, false, false, false, false, false, false, false, false, false, false, false, false, false, false, false, false, false, false, false, false, false, false, false, false, false, false, false, false, false, false, false, false, false, false, false, false, false, false, false, false, false, false, false, false, false, false, false, false, false, false, false, false, false, false, false, false, false, false, false, false, false, false, false, false, false, false, false, false, false, false, false, false, false, false, false, false, false, false, false, false, false] [18, 19, 20, 21, 22, 23, 24, 25, 26, 27, 28, 29, 30, 31, 0] [13] rfl (fun _ => rfl) (fun _ _ _ _ _ _ _ _ _ => rfl) (by kernel_rfl) (by kernel_rfl) (by kernel_rfl) (by decide) (by kernel_rfl) (by kernel_rfl) (by kernel_rfl) (by kernel_rfl) (by kernel_rfl) ⟨PhStep.pure rfl ?_, PhStep.pure rfl ?_, PhStep.pure rfl ?_, PhStep.pure rfl ?_, PhStep.pure rfl ?_, PhStep.pure rfl ?_, PhStep.pure rfl ?_, PhStep.pure rfl ?_, PhStep.pure rfl ?_, PhStep.pure rfl ?_, PhStep.pure rfl ?_, PhStep.pure rfl ?_, PhStep.pure rfl ?_, PhStep.pure rfl ?_, PhStep.chain 0 rfl ?c3_14, trivial⟩ ?done3
 case done3 =>
  intro γ x W hiv
  have hW : W = W1.drew.setCell ⟨m, 2, none⟩ (.int .i64 sz2) := hiv
  subst hW
  simp only [StepGoal, List.map_cons, List.map_nil, overlay, upd, cond_true, cond_false, List.getD_cons_zero, List.getD_cons_succ, Nat.zero_add, Nat.reduceAdd, Nat.reduceEqDiff, reduceIte]
  have hm2 : MemB (W1.drew.setCell ⟨m, 2, none⟩ (.int .i64 sz2)) m root (n + 1) sz2 sd := ⟨(hm1.1.drewN 1).set (i := 2) _, hm1.2.1, hz2, hm1.2.2.2⟩
  have hC2 : Chg [m] w (W1.drew.setCell ⟨m, 2, none⟩ (.int .i64 sz2)) := (hC1.andBelow ((by repeat (first | exact Below.refl _ _ | assumption | refine Below.drew ?_ | refine below_drewN ?_ _ | refine Below.alloc ?_ (by simp <;> omega) _)))).set (b := m) (Or.inl (by simp)) _
  have h52 : Blk (W1.drew.setCell ⟨m, 2, none⟩ (.int .i64 sz2)) b5 #[.string p.k, .string p.v, .bool p.g] 45 := (h51.drewN 1).set_ne hmb _
  have hs2 : b5 < (W1.drew.setCell ⟨m, 2, none⟩ (.int .i64 sz2)).heap.size := h52.lt
  clear hiv hm1 hC1 h51 l5 p0 p1 p2 lb b0 b1 b2 b3 bf hs' IvA
  generalize W1.drew.setCell ⟨m, 2, none⟩ (.int .i64 sz2) = W2 at hm2 hC2 h52 hs2 ⊢
  go_upto_region 4 with fail
  obtain ⟨hsN, hhs⟩ : ∃ q, q = W2.heap.size := ⟨_, rfl⟩
  have HHS := hd_ hhs
  clear hhs
  have hmb' : b5 ∉ [m] := by simp; omega
  let IvB : Nat → (Int × Int) → World → Prop := fun k g W => match k with
   | 0 => W = W2.drew
   | 1 => (0 ≤ g.1 ∧ g.1 ≤ 18446744073709551615) ∧ MemB W m root (n + 1) sz2 g.2 ∧ Chg [m] W2.drew W ∧ W.heap.size = hsN
   | _ => ∃ W', ((0 ≤ g.1 ∧ g.1 ≤ 18446744073709551615) ∧ MemB W' m root (n + 1) sz2 g.2 ∧ Chg [m] W2.drew W' ∧ W'.heap.size = hsN) ∧ W = W'.alloc (.cells #[.string p.k, .string p.v, .bool p.g, .int .u64 g.1, .pointer none, .pointer none] 139)
  refine region_phase (IvB) (fun k a b => k = 0 ∨ b = a) ((0, 0)) (fun g => [.agg #[.string p.k, .string p.v, .bool p.g], .pointer (some ⟨m, 0, none⟩), .int .u64 g.1, .agg #[.string p.k, .string p.v, .bool p.g, .int .u64 g.1, .pointer none, .pointer none], .pointer (some ⟨hsN, 0, none⟩), .pointer (some ⟨hsN, 0, none⟩), .bool true]) [2, 4] [(0, 1), (0, 0), (0, 2), (1, 1), (0, 2), (2, 2), (2, 2)] [false, false, false, false, false, false, true, true, false, false, false, false, false, false, false, false, false, false, false, false, false, false, false, false, false, false, false, false, false, false, false, false, true, true, true, true, true, false, false, false, false, false, false, false, false, false, false, false, false, false, false, false, false, false, false, false, false, false, false, false, false, false, false, false, false, false, false, false, false, false, false, false, false, false, false, false, false, false, false, false, false, false, false, false, false, false, false, false, false, false, false, false, false, false, false, false, false, false, false, false, false, false, false, false, false, false, false, false, false, false, false, false, false, false, false, false, false] [32, 33, 34, 35, 36, 6, 7] [5, 6] rfl (fun _ => rfl) (fun k ga gb hr j c hc hne hcl => hr.elim (fun hk => by subst hk; obtain rfl : 2 = c := (by simpa using hc); exact (match j, hne, hcl with | 0, _, _ => rfl | 1, _, _ => rfl | 2, hne, _ => absurd rfl hne | 3, _, hcl => absurd (hcl.symm.trans (by kernel_rfl)) Bool.false_ne_true | 4, _, hcl => absurd (hcl.symm.trans (by kernel_rfl)) Bool.false_ne_true | 5, _, hcl => absurd (hcl.symm.trans (by kernel_rfl)) Bool.false_ne_true | 6, _, hcl => absurd (hcl.symm.trans (by kernel_rfl)) Bool.false_ne_true | j + 7, _, _ => rfl)) (fun h => by rw [h])) (by kernel_rfl) (by kernel_rfl) (by kernel_rfl) (by decide) (by kernel_rfl) (by kernel_rfl) (by kernel_rfl) (by kernel_rfl) (by kernel_rfl) ⟨PhStep.pure rfl ?_, PhStep.pure rfl ?_, PhStep.chain 0 rfl ?c4_2, PhStep.pure rfl ?_, PhStep.chain 1 rfl ?c4_4, PhStep.pure rfl ?_, PhStep.pure rfl ?_, trivial⟩ ?done4
  case done4 =>
   intro γ x W hiv
   obtain ⟨W', ⟨hrk, hm3, hc3, hz3⟩, rfl⟩ := (hiv : ∃ W', _)
   simp only [StepGoal, List.map_cons, List.map_nil, overlay, upd, cond_true, cond_false, List.getD_cons_zero, List.getD_cons_succ, Nat.zero_add, Nat.reduceAdd, Nat.reduceEqDiff, reduceIte]
   have hm4 : MemB (W'.alloc (.cells #[.string p.k, .string p.v, .bool p.g, .int .u64 γ.1, .pointer none, .pointer none] 139)) m root (n + 1) sz2 γ.2 := hm3.ext (by repeat (first | exact Below.refl _ _ | assumption | refine Below.drew ?_ | refine below_drewN ?_ _ | refine Below.alloc ?_ (by simp <;> omega) _))
   have hc4 : Chg [m] w (W'.alloc (.cells #[.string p.k, .string p.v, .bool p.g, .int .u64 γ.1, .pointer none, .pointer none] 139)) := ((hC2.andBelow (by repeat (first | exact Below.refl _ _ | assumption | refine Below.drew ?_ | refine below_drewN ?_ _ | refine Below.alloc ?_ (by simp <;> omega) _))).trans hc3 (fun i hi => Or.inl hi)).andBelow (by repeat (first | exact Below.refl _ _ | assumption | refine Below.drew ?_ | refine below_drewN ?_ _ | refine Below.alloc ?_ (by simp <;> omega) _))
   have hnd : Blk (W'.alloc (.cells #[.string p.k, .string p.v, .bool p.g, .int .u64 γ.1, .pointer none, .pointer none] 139)) hsN #[.string p.k, .string p.v, .bool p.g, .int .u64 γ.1, .pointer none, .pointer none] 139 := by
    have := Blk.new W' #[.string p.k, .string p.v, .bool p.g, .int .u64 γ.1, .pointer none, .pointer none] 139
    rwa [hz3] at this
   have hws : w.heap.size ≤ hsN := by have := hC2.size; have := HHS.out; omega
   clear hm3 hc3 hz3 hC2 hm2 h52 hs2 IvB
   generalize W'.alloc (.cells #[.string p.k, .string p.v, .bool p.g, .int .u64 γ.1, .pointer none, .pointer none] 139) = W4 at hm4 hc4 hnd ⊢
   go_wp2_with fail
   go_ret2
   exact ⟨(hsN, γ.1, sz2, γ.2), rfl, ⟨hrk, hp, hnd, trivial, trivial⟩, by simp [Tr.put, Tr.blks], fun x hx => Or.inr (by simp [Tr.put, Tr.blks] at hx; omega), hm4, hc4⟩
  case c4_2 =>
   intro γ x W hiv
   have hW : W = W2.drew := hiv
   subst hW
   have HRK := hd_ (rank_any m root (n + 1) sz2 sd W2.drew (hm2.ext ((by repeat (first | exact Below.refl _ _ | assumption | refine Below.drew ?_ | refine below_drewN ?_ _ | refine Below.alloc ?_ (by simp <;> omega) _)))))
   intro K hK
   rw [if_pos (by rfl)]; simp only [overlay, upd, cond_true, cond_false, List.getD_cons_zero, List.getD_cons_succ, Nat.reduceEqDiff, reduceIte]
   go_simp
   refine HRK.out.mono ?_
   rintro e W' ⟨rk, sd', rfl, hrk, hm3, hc3, hz3⟩
   exact hK.out _ _ (rk, sd') ⟨hrk, hm3, hc3, hz3.trans HHS.out.symm⟩ (Or.inl rfl) rfl
  case c4_4 =>
   intro γ x W hiv
   obtain ⟨hrk, hm3, hc3, hz3⟩ := (hiv : _ ∧ _ ∧ _ ∧ _)
   intro K hK
   rw [if_pos (by rfl)]; simp only [overlay, upd, cond_true, cond_false, List.getD_cons_zero, List.getD_cons_succ, Nat.reduceEqDiff, reduceIte]
   go_simp
   exact hK.out _ _ γ ⟨_, ⟨hrk, hm3, hc3, hz3⟩, rfl⟩ (Or.inr rfl) rfl
  case refine_1 =>
   intro k hk1 hk2 γ x W hiv
   have h5W : Blk W b5 #[.string p.k, .string p.v, .bool p.g] 45 := by
    have hk3 : k = 0 ∨ k = 1 := by simp at hk2; omega
    rcases hk3 with rfl | rfl
    · have hW : W = W2.drew := hiv
      subst hW
      exact h52.drewN 1
    · exact (h52.drewN 1).chg (hiv : _ ∧ _ ∧ _ ∧ _).2.2.1 hmb'
   obtain ⟨l5, p0, p1, p2⟩ := blk3f h5W
   intro K hK
   rw [if_pos (by rfl)]; simp only [overlay, cond_true, cond_false]
   go_simp
   exact hK.out _ _ _ hiv rfl rfl
  all_goals
   intro k hk1 hk2 γ x W hiv
   intro K hK
   rw [if_pos (by rfl)]; simp only [overlay, upd, cond_true, cond_false, List.getD_cons_zero, List.getD_cons_succ, Nat.reduceEqDiff, reduceIte]
   go_simp
   exact hK.out _ _ _ hiv rfl rfl
 case c3_14 =>
  intro γ x W hiv
  have hW : W = W1.drew := hiv
  subst hW
  intro K hK
  have hf2 := bf 2
  rw [if_pos (by rfl)]; simp only [overlay, upd, cond_true, cond_false, List.getD_cons_zero, List.getD_cons_succ, Nat.reduceEqDiff, reduceIte]
  go_simp
  exact hK.out _ _ () rfl trivial rfl
 all_goals
  intro k hk1 hk2 γ x W hiv
  obtain rfl : k = 0 := by simp at hk2; omega
  have hW : W = W1.drew := hiv
  subst hW
  intro K hK
  rw [if_pos (by rfl)]; simp only [overlay, upd, cond_true, cond_false, List.getD_cons_zero, List.getD_cons_succ, Nat.reduceEqDiff, reduceIte]
  go_simp
  exact hK.out _ _ _ rfl rfl rfl
theorem put_node (nb : Nat) (rk : Int) (p : Pr) : ∀ t : Tr, ∃ c q s L R, (t.put nb rk p).1 = .node c q s L R
 | .nil => ⟨_, _, _, _, _, rfl⟩
 | .node b q r L R => by
  obtain ⟨c1, q1, s1, l1, r1, e1⟩ := put_node nb rk p L
  obtain ⟨c2, q2, s2, l2, r2, e2⟩ := put_node nb rk p R
  rw [Tr.put]
  split
  · split
    · rw [e1]; simp only [Tr.liftL]; split <;> exact ⟨_, _, _, _, _, rfl⟩
    · exact ⟨_, _, _, _, _, rfl⟩
  · split
    · split
      · rw [e2]; simp only [Tr.liftR]; split <;> exact ⟨_, _, _, _, _, rfl⟩
      · exact ⟨_, _, _, _, _, rfl⟩
    · exact ⟨_, _, _, _, _, rfl⟩
theorem put_left {w W0 W1 : World} {m b n : Nat} {root : Option Addr} {p q : Pr} {r : Int} {L R : Tr} {g : Nat × Int × Int × Int} (h : TrW w (.node b q r L R)) (hn : (Tr.node b q r L R).blks.Nodup) (hmb : m ∉ (Tr.node b q r L R).blks) (hW : Below w.heap.size w W0) (hF : PutF W0 m root n L p g W1) :
  TrW (W1.setCell ⟨b, 4, none⟩ (.pointer (L.put g.1 g.2.1 p).1.addr)) (.node b q r (L.put g.1 g.2.1 p).1 R) ∧ (.node b q r (L.put g.1 g.2.1 p).1 R : Tr).blks.Nodup ∧ (∀ x ∈ (.node b q r (L.put g.1 g.2.1 p).1 R : Tr).blks, x ∈ (Tr.node b q r L R).blks ∨ w.heap.size ≤ x) ∧ MemB (W1.setCell ⟨b, 4, none⟩ (.pointer (L.put g.1 g.2.1 p).1.addr)) m root (n + if (L.put g.1 g.2.1 p).2 then 1 else 0) g.2.2.1 g.2.2.2 ∧ Chg (m :: (Tr.node b q r L R).blks) w (W1.setCell ⟨b, 4, none⟩ (.pointer (L.put g.1 g.2.1 p).1.addr)) := by
 obtain ⟨hT, hnd, hmem, hM, hC⟩ := hF
 have hlt := h.lt
 simp only [Tr.blks, List.mem_cons, List.mem_append, not_or] at hmb hlt
 simp only [Tr.blks, List.nodup_cons, List.nodup_append, List.mem_append, not_or] at hn
 have hsz := hW.size
 have hbn : b ∉ m :: L.blks := by simp only [List.mem_cons, not_or]; grind
 have hb1 := (h.2.2.1.ext hW).chg hC hbn
 have hon : ∀ x ∈ R.blks, x ∉ m :: L.blks := by
  intro x hx
  simp only [List.mem_cons, not_or]
  grind
 have ho1 : TrW W1 R := ((h.2.2.2.2).ext hW).chg hC hon
 have hmem2 : ∀ x ∈ (L.put g.1 g.2.1 p).1.blks, x ∈ L.blks ∨ w.heap.size ≤ x := fun x hx => (hmem x hx).imp id fun h => by omega
 have hbT : b ∉ (L.put g.1 g.2.1 p).1.blks := by
  intro hx
  have := hmem2 b hx
  have := hlt b (Or.inl rfl)
  grind
 have hoT : ∀ x ∈ R.blks, x ∉ (L.put g.1 g.2.1 p).1.blks := by
  intro x hx hx2
  have := hmem2 x hx2
  have := hlt x (by simp [hx])
  grind
 have hc1 : Chg [b] W1 (W1.setCell ⟨b, 4, none⟩ (.pointer (L.put g.1 g.2.1 p).1.addr)) := (Chg.refl [b] W1).set (b := b) (Or.inl (by simp)) _
 have hb2 : Blk (W1.setCell ⟨b, 4, none⟩ (.pointer (L.put g.1 g.2.1 p).1.addr)) b (nodeC q r (L.put g.1 g.2.1 p).1 R) 139 := hb1.set (i := 4) (.pointer (L.put g.1 g.2.1 p).1.addr)
 have hs2 := hT.chg hc1 (by intro x hx hx2; rw [List.mem_singleton] at hx2; subst hx2; exact hbT hx)
 have ho2 := ho1.chg hc1 (by intro x hx hx2; rw [List.mem_singleton] at hx2; subst hx2; grind)
 refine ⟨⟨h.1, h.2.1, hb2, hs2, ho2⟩, ?_, ?_, hM.chg hc1 (by simp; grind), ?_⟩
 · simp only [Tr.blks, List.nodup_cons, List.nodup_append, List.mem_append, not_or]
   grind
 · intro x hx
   simp only [Tr.blks, List.mem_cons, List.mem_append] at hx ⊢
   have := hmem2 x
   grind
 · refine ((Chg.of_below (S := m :: (Tr.node b q r L R).blks) hW).trans hC ?_).trans hc1 ?_
   · intro i hi
     left
     simp only [Tr.blks, List.mem_cons, List.mem_append] at hi ⊢
     grind
   · intro i hi
     left
     rw [List.mem_singleton] at hi
     subst hi
     simp [Tr.blks]
theorem liftL_put {w W2 W3 : World} {m b n c : Nat} {root : Option Addr} {q q2 : Pr} {r s : Int} {R L1 L2 T : Tr} {sz sd : Int} (hmT : m ∉ T.blks) (hml : m < w.heap.size) (hnd : (Tr.node b q r (.node c q2 s L1 L2) R).blks.Nodup)
  (hmem : ∀ x ∈ (Tr.node b q r (.node c q2 s L1 L2) R).blks, x ∈ T.blks ∨ w.heap.size ≤ x) (hM : MemB W2 m root n sz sd) (hC : Chg (m :: T.blks) w W2) (hC3 : Chg [b, c] W2 W3) :
  (Tr.liftL b q r (.node c q2 s L1 L2) R).blks.Nodup ∧ (∀ x ∈ (Tr.liftL b q r (.node c q2 s L1 L2) R).blks, x ∈ T.blks ∨ w.heap.size ≤ x) ∧ MemB W3 m root n sz sd ∧ Chg (m :: T.blks) w W3 := by
 have hp := liftL_perm b q r (.node c q2 s L1 L2) R
 have hbm := hmem b (by simp [Tr.blks])
 have hcm := hmem c (by simp [Tr.blks])
 refine ⟨hp.nodup_iff.2 hnd, fun x hx => hmem x (hp.mem_iff.1 hx), hM.chg hC3 ?_, hC.trans hC3 ?_⟩
 · simp only [List.mem_cons, List.not_mem_nil, or_false, not_or]
   constructor
   · intro e; subst e; rcases hbm with h | h
     · exact hmT h
     · omega
   · intro e; subst e; rcases hcm with h | h
     · exact hmT h
     · omega
 · intro i hi
   simp only [List.mem_cons, List.not_mem_nil, or_false] at hi
   rcases hi with rfl | rfl
   · rcases hbm with h | h
     · left; simp [h]
     · right; exact h
   · rcases hcm with h | h
     · left; simp [h]
     · right; exact h
theorem put_right {w W0 W1 : World} {m b n : Nat} {root : Option Addr} {p q : Pr} {r : Int} {L R : Tr} {g : Nat × Int × Int × Int} (h : TrW w (.node b q r L R)) (hn : (Tr.node b q r L R).blks.Nodup) (hmb : m ∉ (Tr.node b q r L R).blks) (hW : Below w.heap.size w W0) (hF : PutF W0 m root n R p g W1) :
  TrW (W1.setCell ⟨b, 5, none⟩ (.pointer (R.put g.1 g.2.1 p).1.addr)) (.node b q r L (R.put g.1 g.2.1 p).1) ∧ (.node b q r L (R.put g.1 g.2.1 p).1 : Tr).blks.Nodup ∧ (∀ x ∈ (.node b q r L (R.put g.1 g.2.1 p).1 : Tr).blks, x ∈ (Tr.node b q r L R).blks ∨ w.heap.size ≤ x) ∧ MemB (W1.setCell ⟨b, 5, none⟩ (.pointer (R.put g.1 g.2.1 p).1.addr)) m root (n + if (R.put g.1 g.2.1 p).2 then 1 else 0) g.2.2.1 g.2.2.2 ∧ Chg (m :: (Tr.node b q r L R).blks) w (W1.setCell ⟨b, 5, none⟩ (.pointer (R.put g.1 g.2.1 p).1.addr)) := by
 obtain ⟨hT, hnd, hmem, hM, hC⟩ := hF
 have hlt := h.lt
 simp only [Tr.blks, List.mem_cons, List.mem_append, not_or] at hmb hlt
 simp only [Tr.blks, List.nodup_cons, List.nodup_append, List.mem_append, not_or] at hn
 have hsz := hW.size
 have hbn : b ∉ m :: R.blks := by simp only [List.mem_cons, not_or]; grind
 have hb1 := (h.2.2.1.ext hW).chg hC hbn
 have hon : ∀ x ∈ L.blks, x ∉ m :: R.blks := by
  intro x hx
  simp only [List.mem_cons, not_or]
  grind
 have ho1 : TrW W1 L := ((h.2.2.2.1).ext hW).chg hC hon
 have hmem2 : ∀ x ∈ (R.put g.1 g.2.1 p).1.blks, x ∈ R.blks ∨ w.heap.size ≤ x := fun x hx => (hmem x hx).imp id fun h => by omega
 have hbT : b ∉ (R.put g.1 g.2.1 p).1.blks := by
  intro hx
  have := hmem2 b hx
  have := hlt b (Or.inl rfl)
  grind
 have hoT : ∀ x ∈ L.blks, x ∉ (R.put g.1 g.2.1 p).1.blks := by
  intro x hx hx2
  have := hmem2 x hx2
  have := hlt x (by simp [hx])
  grind
 have hc1 : Chg [b] W1 (W1.setCell ⟨b, 5, none⟩ (.pointer (R.put g.1 g.2.1 p).1.addr)) := (Chg.refl [b] W1).set (b := b) (Or.inl (by simp)) _
 have hb2 : Blk (W1.setCell ⟨b, 5, none⟩ (.pointer (R.put g.1 g.2.1 p).1.addr)) b (nodeC q r L (R.put g.1 g.2.1 p).1) 139 := hb1.set (i := 5) (.pointer (R.put g.1 g.2.1 p).1.addr)
 have hs2 := hT.chg hc1 (by intro x hx hx2; rw [List.mem_singleton] at hx2; subst hx2; exact hbT hx)
 have ho2 := ho1.chg hc1 (by intro x hx hx2; rw [List.mem_singleton] at hx2; subst hx2; grind)
 refine ⟨⟨h.1, h.2.1, hb2, ho2, hs2⟩, ?_, ?_, hM.chg hc1 (by simp; grind), ?_⟩
 · simp only [Tr.blks, List.nodup_cons, List.nodup_append, List.mem_append, not_or]
   grind
 · intro x hx
   simp only [Tr.blks, List.mem_cons, List.mem_append] at hx ⊢
   have := hmem2 x
   grind
 · refine ((Chg.of_below (S := m :: (Tr.node b q r L R).blks) hW).trans hC ?_).trans hc1 ?_
   · intro i hi
     left
     simp only [Tr.blks, List.mem_cons, List.mem_append] at hi ⊢
     grind
   · intro i hi
     left
     rw [List.mem_singleton] at hi
     subst hi
     simp [Tr.blks]
theorem liftR_put {w W2 W3 : World} {m b n c : Nat} {root : Option Addr} {q q2 : Pr} {r s : Int} {L L1 L2 T : Tr} {sz sd : Int} (hmT : m ∉ T.blks) (hml : m < w.heap.size) (hnd : (Tr.node b q r L (.node c q2 s L1 L2)).blks.Nodup)
  (hmem : ∀ x ∈ (Tr.node b q r L (.node c q2 s L1 L2)).blks, x ∈ T.blks ∨ w.heap.size ≤ x) (hM : MemB W2 m root n sz sd) (hC : Chg (m :: T.blks) w W2) (hC3 : Chg [b, c] W2 W3) :
  (Tr.liftR b q r L (.node c q2 s L1 L2)).blks.Nodup ∧ (∀ x ∈ (Tr.liftR b q r L (.node c q2 s L1 L2)).blks, x ∈ T.blks ∨ w.heap.size ≤ x) ∧ MemB W3 m root n sz sd ∧ Chg (m :: T.blks) w W3 := by
 have hp := liftR_perm b q r L (.node c q2 s L1 L2)
 have hbm := hmem b (by simp [Tr.blks])
 have hcm := hmem c (by simp [Tr.blks])
 refine ⟨hp.nodup_iff.2 hnd, fun x hx => hmem x (hp.mem_iff.1 hx), hM.chg hC3 ?_, hC.trans hC3 ?_⟩
 · simp only [List.mem_cons, List.not_mem_nil, or_false, not_or]
   constructor
   · intro e; subst e; rcases hbm with h | h
     · exact hmT h
     · omega
   · intro e; subst e; rcases hcm with h | h
     · exact hmT h
     · omega
 · intro i hi
   simp only [List.mem_cons, List.not_mem_nil, or_false] at hi
   rcases hi with rfl | rfl
   · rcases hbm with h | h
     · left; simp [h]
     · right; exact h
   · rcases hcm with h | h
     · left; simp [h]
     · right; exact h
end Go.Proofs.YtceoficoappkpaaGreatDoor
