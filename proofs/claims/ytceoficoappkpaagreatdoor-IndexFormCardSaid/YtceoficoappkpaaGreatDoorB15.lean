/- Texts joined by a tool: contracts and walks of this claim. -/
import Derived.Test.YtceoficoappkpaaGreatDoorB14
import Derived.LaidEqlPtr
namespace Go.Proofs.YtceoficoappkpaaGreatDoor
open Go.RowKit
theorem Blk.set {w : World} {b i : Nat} {cs : Array Value} {t : TypeId} (h : Blk w b cs t) (v : Value) : Blk (w.setCell ⟨b, i, none⟩ v) b (cs.setIfInBounds i v) t := by
 unfold Blk World.setCell at *
 simp only [Array.getElem?_modify, if_true, h, Option.map_some]
 rfl
theorem Blk.set_ne {w : World} {b c i : Nat} {cs : Array Value} {t : TypeId} (h : Blk w c cs t) (hne : b ≠ c) (v : Value) : Blk (w.setCell ⟨b, i, none⟩ v) c cs t := by
 unfold Blk World.setCell at *
 simp only [Array.getElem?_modify, if_neg hne]
 exact h
theorem set_size (w : World) (a : Addr) (v : Value) : (w.setCell a v).heap.size = w.heap.size := by simp [World.setCell]
theorem Chg.set {S : List Nat} {a w : World} {b i : Nat} (h : Chg S a w) (hb : b ∈ S ∨ a.heap.size ≤ b) (v : Value) : Chg S a (w.setCell ⟨b, i, none⟩ v) := by
 refine ⟨h.os, h.tape, h.output, by rw [set_size]; exact h.size, fun c hc hn => ?_⟩
 have hne : b ≠ c := by
  intro e
  subst e
  rcases hb with hb | hb
  · exact hn hb
  · omega
 refine Eq.trans ?_ (h.block c hc hn)
 unfold World.setCell
 simp only [Array.getElem?_modify, if_neg hne]
def Tr.addr : Tr → Option Addr
 | .nil => none
 | .node b _ _ _ _ => some ⟨b, 0, none⟩
def Tr.ptr (t : Tr) : Value := .pointer t.addr
def nodeC (p : Pr) (r : Int) (l t : Tr) : Array Value := #[.string p.k, .string p.v, .bool p.g, .int .u64 r, l.ptr, t.ptr]
def TrW (w : World) : Tr → Prop
 | .nil => True
 | .node b p r l t => (0 ≤ r ∧ r ≤ 18446744073709551615) ∧ (p.k.size ≤ 512 ∧ p.v.size ≤ 262144) ∧ Blk w b (nodeC p r l t) 139 ∧ TrW w l ∧ TrW w t
theorem TrW.chg {S : List Nat} {w w' : World} (hc : Chg S w w') : ∀ {t : Tr}, TrW w t → (∀ b ∈ t.blks, b ∉ S) → TrW w' t
 | .nil, _, _ => trivial
 | .node b p r l t, h, hn => ⟨h.1, h.2.1, h.2.2.1.chg hc (hn b (by simp [Tr.blks])), h.2.2.2.1.chg hc fun c hc' => hn c (by simp [Tr.blks, hc']), h.2.2.2.2.chg hc fun c hc' => hn c (by simp [Tr.blks, hc'])⟩
theorem TrW.ext {w w' : World} {t : Tr} (h : TrW w t) (hb : Below w.heap.size w w') : TrW w' t := h.chg (Chg.of_below (S := []) hb) (by simp)
theorem TrW.lt {w : World} : ∀ {t : Tr}, TrW w t → ∀ b ∈ t.blks, b < w.heap.size
 | .nil, _, b, hb => by simp [Tr.blks] at hb
 | .node c p r l t, h, b, hb => by
  rw [Tr.blks, List.mem_cons, List.mem_append] at hb
  rcases hb with rfl | hb | hb
  · exact h.2.2.1.lt
  · exact h.2.2.2.1.lt b hb
  · exact h.2.2.2.2.lt b hb
theorem liftL_perm (b : Nat) (p : Pr) (r : Int) (L R : Tr) : (Tr.liftL b p r L R).blks.Perm (Tr.node b p r L R).blks := by
 simp only [Tr.liftL]
 split
 · exact List.Perm.refl _
 · split
   · refine List.perm_iff_count.2 fun x => ?_
     simp only [Tr.blks, List.count_cons, List.count_append]
     omega
   · exact List.Perm.refl _
theorem liftR_perm (b : Nat) (p : Pr) (r : Int) (L R : Tr) : (Tr.liftR b p r L R).blks.Perm (Tr.node b p r L R).blks := by
 unfold Tr.liftR
 split
 · exact List.Perm.refl _
 · split
   · refine List.perm_iff_count.2 fun x => ?_
     simp only [Tr.blks, List.count_cons, List.count_append]
     omega
   · exact List.Perm.refl _
theorem blk6 {w : World} {b : Nat} {a0 a1 a2 a3 a4 a5 : Value} {t : TypeId} (h : Blk w b #[a0, a1, a2, a3, a4, a5] t) : b < w.heap.size ∧ w.cell? ⟨b, 0, none⟩ = some a0 ∧ w.cell? ⟨b, 1, none⟩ = some a1 ∧ w.cell? ⟨b, 2, none⟩ = some a2 ∧ w.cell? ⟨b, 3, none⟩ = some a3 ∧ w.cell? ⟨b, 4, none⟩ = some a4 ∧ w.cell? ⟨b, 5, none⟩ = some a5 ∧ ∀ i, w.frozen? ⟨b, i, none⟩ = false :=
 ⟨h.lt, h.cell 0, h.cell 1, h.cell 2, h.cell 3, h.cell 4, h.cell 5, fun i => h.frozen i⟩
theorem node_info : ∃ te, Tryz.prog.info? 139 = some te ∧ te.size ≠ 0 := by
 have h : (Tryz.prog.info? 139).map (fun i => i.size) = some 6 := by kernel_rfl
 cases hi : Tryz.prog.info? 139 with
 | none => rw [hi] at h; cases h
 | some te => exact ⟨te, rfl, by rw [hi] at h; simp at h; omega⟩
theorem Blk.drewN {w : World} {b : Nat} {cs : Array Value} {t : TypeId} (h : Blk w b cs t) (n : Nat) : Blk (w.drewN n) b cs t := h.ext (below_drewN (Below.refl _ _) n)
set_option maxRecDepth 100000 in
set_option maxHeartbeats 800000 in
theorem liftL_any (b : Nat) (p : Pr) (r : Int) (c : Nat) (q : Pr) (s : Int) (LL LR R : Tr) (w : World) (h : TrW w (.node b p r (.node c q s LL LR) R)) (hn : (Tr.node b p r (.node c q s LL LR) R).blks.Nodup) :
  Calls Tryz.prog 143 #[.pointer (some ⟨b, 0, none⟩), .pointer (some ⟨c, 0, none⟩)] w fun e w' => e = .returned (Tr.liftL b p r (.node c q s LL LR) R).ptr ∧ TrW w' (Tr.liftL b p r (.node c q s LL LR) R) ∧ Chg [b, c] w w' ∧ w'.heap.size = w.heap.size := by
 obtain ⟨hr, hps, hb, ⟨hs, hqs, hc, hS1, hS2⟩, hO⟩ := h
 have hbc : b ≠ c := by
  intro e
  subst e
  simp [Tr.blks] at hn
 have hfar : ∀ x, x ∈ LL.blks ∨ x ∈ LR.blks ∨ x ∈ R.blks → x ∉ [b, c] := by
  intro x hx hm
  simp only [List.mem_cons, List.not_mem_nil, or_false] at hm
  simp only [Tr.blks, List.nodup_cons, List.nodup_append, List.mem_append, List.mem_cons, not_or] at hn
  rcases hm with rfl | rfl <;> rcases hx with hx | hx | hx <;> grind
 obtain ⟨te, hte, hsz⟩ := node_info
 have hep : ∀ n, (binOp .eql 135 (.pointer (some ⟨c, 0, none⟩)) (.pointer (some ⟨c, 0, none⟩))).run Tryz.prog (w.drewN n) = .ok (.bool true) (w.drewN n) := fun n => run_eql_ptr_same _ _ Tryz.underlying135 hte
 unfold nodeC at hb hc
 obtain ⟨lb, b0, b1, b2, b3, b4, b5, bf⟩ := blk6 hb
 obtain ⟨lc, c0, c1, c2, c3, c4, c5, cf⟩ := blk6 hc
 rw [show (Tr.node c q s LL LR).ptr = .pointer (some ⟨c, 0, none⟩) from rfl] at b4
 rw [show R.ptr = .pointer R.addr from rfl] at b5
 rw [show LL.ptr = .pointer LL.addr from rfl] at c4
 rw [show LR.ptr = .pointer LR.addr from rfl] at c5
 simp only [Tr.liftL]
 by_cases hlt : r < s
 · simp only [if_pos hlt]
   have hcb : ∀ n v, ((w.drewN n).setCell ⟨b, 4, none⟩ v).cell? ⟨c, 5, none⟩ = some (.pointer LR.addr) := fun n v => ((hc.drewN n).set_ne hbc v).cell 5
   have hcf : ∀ n v, ((w.drewN n).setCell ⟨b, 4, none⟩ v).frozen? ⟨c, 5, none⟩ = false := fun n v => ((hc.drewN n).set_ne hbc v).frozen 5
   have HB2 := hd_ (fun n => (((hb.drewN n).set (i := 4) LR.ptr).set_ne (i := 5) hbc.symm (.pointer (some ⟨b, 0, none⟩))))
   have HC2 := hd_ (fun n => (((hc.drewN n).set_ne (i := 4) hbc LR.ptr).set (i := 5) (.pointer (some ⟨b, 0, none⟩))))
   have HCH := hd_ (fun n => (((Chg.of_below (S := [b, c]) (below_drewN (Below.refl _ w) n)).set (i := 4) (b := b) (Or.inl (by simp)) LR.ptr).set (i := 5) (b := c) (Or.inl (by simp)) (.pointer (some ⟨b, 0, none⟩))))
   have HS1 := hd_ hS1
   have HS2 := hd_ hS2
   have HO := hd_ hO
   clear hb hc hS1 hS2 hO hn
   go_enter Tryz.func143, Tryz.ntmps143
   go_wp2_with fail
   go_quiet (fail)
   go_wp2_with fail
   go_ret
   refine ⟨rfl, ⟨hs, hqs, HC2.out _, HS1.out.chg (HCH.out _) fun x hx => hfar x (by simp [hx]), hr, hps, HB2.out _, HS2.out.chg (HCH.out _) fun x hx => hfar x (by simp [hx]), HO.out.chg (HCH.out _) fun x hx => hfar x (by simp [hx])⟩, HCH.out _, by simp⟩
 · simp only [if_neg hlt]
   have HB := hd_ hb
   have HC := hd_ hc
   have HS1 := hd_ hS1
   have HS2 := hd_ hS2
   have HO := hd_ hO
   clear hb hc hS1 hS2 hO hn
   go_enter Tryz.func143, Tryz.ntmps143
   go_wp2_with fail
   go_quiet (fail)
   go_wp2_with fail
   go_ret
   exact ⟨rfl, ⟨hr, hps, HB.out.drewN _, ⟨hs, hqs, HC.out.drewN _, HS1.out.ext (below_drewN (Below.refl _ w) _), HS2.out.ext (below_drewN (Below.refl _ w) _)⟩, HO.out.ext (below_drewN (Below.refl _ w) _)⟩, Chg.of_below (below_drewN (Below.refl _ w) _), rfl⟩
set_option maxRecDepth 100000 in
set_option maxHeartbeats 800000 in
theorem liftR_any (b : Nat) (p : Pr) (r : Int) (c : Nat) (q : Pr) (s : Int) (L RL RR : Tr) (w : World) (h : TrW w (.node b p r L (.node c q s RL RR))) (hn : (Tr.node b p r L (.node c q s RL RR)).blks.Nodup) :
  Calls Tryz.prog 143 #[.pointer (some ⟨b, 0, none⟩), .pointer (some ⟨c, 0, none⟩)] w fun e w' => e = .returned (Tr.liftR b p r L (.node c q s RL RR)).ptr ∧ TrW w' (Tr.liftR b p r L (.node c q s RL RR)) ∧ Chg [b, c] w w' ∧ w'.heap.size = w.heap.size := by
 obtain ⟨hr, hps, hb, hO, hs, hqs, hc, hS1, hS2⟩ := h
 have hbc : b ≠ c := by
  intro e
  subst e
  simp [Tr.blks] at hn
 have hfar : ∀ x, x ∈ RL.blks ∨ x ∈ RR.blks ∨ x ∈ L.blks → x ∉ [b, c] := by
  intro x hx hm
  simp only [List.mem_cons, List.not_mem_nil, or_false] at hm
  simp only [Tr.blks, List.nodup_cons, List.nodup_append, List.mem_append, List.mem_cons, not_or] at hn
  rcases hm with rfl | rfl <;> rcases hx with hx | hx | hx <;> grind
 obtain ⟨te, hte, hsz⟩ := node_info
 have hep : ∀ n, (binOp .eql 135 (.pointer (some ⟨c, 0, none⟩)) (.pointer L.addr)).run Tryz.prog (w.drewN n) = .ok (.bool false) (w.drewN n) := by
  intro n
  cases L with
  | nil => kernel_rfl
  | node d p' r' l' t' => exact run_eql_ptr_other _ Tryz.underlying135 hte hsz (fun e => hfar d (Or.inr (Or.inr (by simp [Tr.blks]))) (by injection e with e; simp [e])) (hc.drewN n) (hO.2.2.1.drewN n)
 unfold nodeC at hb hc
 obtain ⟨lb, b0, b1, b2, b3, b4, b5, bf⟩ := blk6 hb
 obtain ⟨lc, c0, c1, c2, c3, c4, c5, cf⟩ := blk6 hc
 rw [show (Tr.node c q s RL RR).ptr = .pointer (some ⟨c, 0, none⟩) from rfl] at b5
 rw [show L.ptr = .pointer L.addr from rfl] at b4
 rw [show RL.ptr = .pointer RL.addr from rfl] at c4
 rw [show RR.ptr = .pointer RR.addr from rfl] at c5
 simp only [Tr.liftR]
 by_cases hlt : r < s
 · simp only [if_pos hlt]
   have hcb : ∀ n v, ((w.drewN n).setCell ⟨b, 5, none⟩ v).cell? ⟨c, 4, none⟩ = some (.pointer RL.addr) := fun n v => ((hc.drewN n).set_ne hbc v).cell 4
   have hcf : ∀ n v, ((w.drewN n).setCell ⟨b, 5, none⟩ v).frozen? ⟨c, 4, none⟩ = false := fun n v => ((hc.drewN n).set_ne hbc v).frozen 4
   have HB2 := hd_ (fun n => (((hb.drewN n).set (i := 5) RL.ptr).set_ne (i := 4) hbc.symm (.pointer (some ⟨b, 0, none⟩))))
   have HC2 := hd_ (fun n => (((hc.drewN n).set_ne (i := 5) hbc RL.ptr).set (i := 4) (.pointer (some ⟨b, 0, none⟩))))
   have HCH := hd_ (fun n => (((Chg.of_below (S := [b, c]) (below_drewN (Below.refl _ w) n)).set (i := 5) (b := b) (Or.inl (by simp)) RL.ptr).set (i := 4) (b := c) (Or.inl (by simp)) (.pointer (some ⟨b, 0, none⟩))))
   have HS1 := hd_ hS1
   have HS2 := hd_ hS2
   have HO := hd_ hO
   clear hb hc hS1 hS2 hO hn
   go_enter Tryz.func143, Tryz.ntmps143
   go_wp2_with fail
   go_quiet (fail)
   go_wp2_with fail
   go_ret
   refine ⟨rfl, ⟨hs, hqs, HC2.out _, ⟨hr, hps, HB2.out _, HO.out.chg (HCH.out _) fun x hx => hfar x (by simp [hx]), HS1.out.chg (HCH.out _) fun x hx => hfar x (by simp [hx])⟩, HS2.out.chg (HCH.out _) fun x hx => hfar x (by simp [hx])⟩, HCH.out _, by simp⟩
 · simp only [if_neg hlt]
   have HB := hd_ hb
   have HC := hd_ hc
   have HS1 := hd_ hS1
   have HS2 := hd_ hS2
   have HO := hd_ hO
   clear hb hc hS1 hS2 hO hn
   go_enter Tryz.func143, Tryz.ntmps143
   go_wp2_with fail
   go_quiet (fail)
   go_wp2_with fail
   go_ret
   exact ⟨rfl, ⟨hr, hps, HB.out.drewN _, HO.out.ext (below_drewN (Below.refl _ w) _), hs, hqs, HC.out.drewN _, HS1.out.ext (below_drewN (Below.refl _ w) _), HS2.out.ext (below_drewN (Below.refl _ w) _)⟩, Chg.of_below (below_drewN (Below.refl _ w) _), rfl⟩
def KT (T : World → World → Prop) (k : Known) : Prop := ∀ v w w', T w w' → k.holds v w → k.holds v w'
theorem KT.val {T : World → World → Prop} (c : Value) : KT T (.val c) := fun _ _ _ _ h => h
def StepBodyT (P : Program) (ops : Array Oper) (Q : Exit → Act → World → Prop) (mask : List Bool) (L : List Value) (df : List Deferred) (T : World → World → Prop) (k : Known) (w : World) (d : Nat) (o : Oper) (x : Nat → Value) : Prop :=
 ∀ K' : Act → World → Prop, Shut (∀ v w', T w w' → k.holds v w' → K' ⟨(overlay (upd x d v) 0 mask L).toArray, df⟩ w') →
  if Region.wanted o (yielded ops (overlay x 0 mask L).toArray) = true then Oper.wp P o ⟨(overlay x 0 mask L).toArray, df⟩ w K' Q else K' (Act.put ⟨(overlay x 0 mask L).toArray, df⟩ o.dst undef) w
def StepsT (P : Program) (ops : Array Oper) (Q : Exit → Act → World → Prop) (mask : List Bool) (L : List Value) (df : List Deferred) (T : World → World → Prop) (ps : List Known) (dst : Nat → Nat) (w0 : World) : Nat → List Oper → Prop
 | _, [] => True
 | i, o :: os => (∀ x w, T w0 w → StepGoal ps dst w (StepBodyT P ops Q mask L df T (ps.getD i kAny) w (dst i) o) (depsOf o) x) ∧ StepsT P ops Q mask L df T ps dst w0 (i + 1) os
theorem StepsT.at_ {P : Program} {ops : Array Oper} {Q : Exit → Act → World → Prop} {mask : List Bool} {L : List Value} {df : List Deferred} {T : World → World → Prop} {ps : List Known} {dst : Nat → Nat} {w0 : World} :
  ∀ (os : List Oper) (n i : Nat) (o : Oper), StepsT P ops Q mask L df T ps dst w0 n os → os[i]? = some o → ∀ x w, T w0 w → StepGoal ps dst w (StepBodyT P ops Q mask L df T (ps.getD (n + i) kAny) w (dst (n + i)) o) (depsOf o) x
 | [], _, _, _, _, h => by simp at h
 | o' :: os, n, 0, o, hs, h => by
  simp only [List.getElem?_cons_zero, Option.some.injEq] at h
  subst h
  exact hs.1
 | o' :: os, n, i + 1, o, hs, h => by
  have := StepsT.at_ os (n + 1) i o hs.2 (by simpa using h)
  rw [show n + 1 + i = n + (i + 1) by omega] at this
  exact this
def MemB (w : World) (m : Nat) (root : Option Addr) (n : Nat) (sz sd : Int) : Prop := Blk w m #[.pointer root, .int .i64 n, .int .i64 sz, .int .u64 sd] 137 ∧ n ≤ 4611686018427387904 ∧ (-9223372036854775808 ≤ sz ∧ sz ≤ 9223372036854775807) ∧ 0 ≤ sd ∧ sd ≤ 18446744073709551615
theorem blk4f {w : World} {b : Nat} {a0 a1 a2 a3 : Value} {t : TypeId} (h : Blk w b #[a0, a1, a2, a3] t) : b < w.heap.size ∧ w.cell? ⟨b, 0, none⟩ = some a0 ∧ w.cell? ⟨b, 1, none⟩ = some a1 ∧ w.cell? ⟨b, 2, none⟩ = some a2 ∧ w.cell? ⟨b, 3, none⟩ = some a3 ∧ ∀ i, w.frozen? ⟨b, i, none⟩ = false := ⟨h.lt, h.cell 0, h.cell 1, h.cell 2, h.cell 3, fun i => h.frozen i⟩
theorem u64_in (x : Int) : 0 ≤ IntKind.u64.wrap x ∧ IntKind.u64.wrap x ≤ 18446744073709551615 := by rw [IntKind.wrap_u64]; omega
theorem xor_in (a b : Int) (h0 : 0 ≤ a) (h1 : a ≤ 18446744073709551615) (k0 : 0 ≤ b) (k1 : b ≤ 18446744073709551615) : 0 ≤ bits .xor .u64 a b ∧ bits .xor .u64 a b ≤ 18446744073709551615 := by
 rw [u64_xor a b h0 (by omega) k0 (by omega)]
 have h2 : a.toNat < 2 ^ 64 := by omega
 have k2 : b.toNat < 2 ^ 64 := by omega
 have := Nat.xor_lt_two_pow h2 k2
 omega
theorem memnew_any (w : World) : Calls Tryz.prog 67 #[] w fun e w' => e = .returned (.pointer (some ⟨w.heap.size, 0, none⟩)) ∧ MemB w' w.heap.size none 0 0 0 ∧ Below w.heap.size w w' := by
 go_enter Tryz.func67, Tryz.ntmps67
 go_wp2
 go_ret
 exact ⟨rfl, ⟨(by repeat (first | exact Blk.at (by simp) | assumption | refine Blk.drew ?_ | refine Blk.old ?_ _)), by omega, by omega, by omega, by omega⟩, (by repeat (first | exact Below.refl _ _ | assumption | refine Below.drew ?_ | refine below_drewN ?_ _ | refine Below.alloc ?_ (by simp <;> omega) _))⟩
set_option maxRecDepth 100000 in
theorem rank_any (m : Nat) (root : Option Addr) (n : Nat) (sz sd : Int) (w : World) (h : MemB w m root n sz sd) :
  Calls Tryz.prog 142 #[.pointer (some ⟨m, 0, none⟩)] w fun e w' => ∃ rk sd', e = .returned (.int .u64 rk) ∧ (0 ≤ rk ∧ rk ≤ 18446744073709551615) ∧ MemB w' m root n sz sd' ∧ Chg [m] w w' ∧ w'.heap.size = w.heap.size := by
 obtain ⟨hb, hn, hz, hs0, hs1⟩ := h
 obtain ⟨lb, b0, b1, b2, b3, bf⟩ := blk4f hb
 have HB := hd_ (fun v => hb.set (i := 3) v)
 have HCH := hd_ (fun v => (Chg.refl [m] w).set (b := m) (i := 3) (Or.inl (by simp)) v)
 clear hb
 go_enter Tryz.func142, Tryz.ntmps142
 go_wp2_with fail
 go_ret
 have hr := u64_in (sd + 11400714819323198485)
 refine ⟨_, _, rfl, xor_in _ _ (u64_in _).1 (u64_in _).2 (by have := (u64_in (bits .xor .u64 (IntKind.u64.wrap (sd + 11400714819323198485)) (IntKind.u64.wrap (sd + 11400714819323198485) / 1073741824) * 13787848793156543929)); omega) (by have := (u64_in (bits .xor .u64 (IntKind.u64.wrap (sd + 11400714819323198485)) (IntKind.u64.wrap (sd + 11400714819323198485) / 1073741824) * 13787848793156543929)); omega), ⟨HB.out _, hn, hz, hr⟩, HCH.out _, by simp⟩
theorem memlen_any (m : Nat) (root : Option Addr) (n : Nat) (sz sd : Int) (w : World) (h : MemB w m root n sz sd) :
  Calls Tryz.prog 65 #[.pointer (some ⟨m, 0, none⟩)] w fun e w' => e = .returned (.int .i64 n) ∧ w = w' := by
 obtain ⟨lb, b0, b1, b2, b3, bf⟩ := blk4f h.1
 clear h
 go_enter Tryz.func65, Tryz.ntmps65
 go_wp2_with fail
 go_ret
 exact ⟨rfl, rfl⟩
def Pr.agg (p : Pr) : Value := .agg #[.string p.k, .string p.v, .bool p.g]
def prB (p : Pr) : Bool := decide (1 ≤ p.k.size) && decide (p.k.size ≤ 512) && decide (p.v.size ≤ 262144) && (!p.g || decide (p.v.size = 0))
set_option maxRecDepth 100000 in
theorem memcheck_any (p : Pr) (w : World) : Calls Tryz.prog 63 #[p.agg] w fun e w' => e = .returned (.int .i64 (okE (prB p))) ∧ Below w.heap.size w w' := by
 obtain ⟨k, v, g⟩ := p
 unfold Pr.agg prB okE
 simp only
 by_cases h1 : 1 ≤ k.size
 · by_cases h2 : k.size ≤ 512
   · by_cases h3 : v.size ≤ 262144
     · simp only [decide_eq_true h1, decide_eq_true h2, decide_eq_true h3, Bool.true_and]
       cases g
       · simp only [Bool.not_false, Bool.true_or, if_true]
         go_enter Tryz.func63, Tryz.ntmps63
         go_wp2
         go_ret
         exact ⟨rfl, (by repeat (first | exact Below.refl _ _ | assumption | refine Below.drew ?_ | refine below_drewN ?_ _ | refine Below.alloc ?_ (by simp <;> omega) _))⟩
       · by_cases h4 : v.size = 0
         · have hv : v = ⟨#[]⟩ := by
            cases v with
            | mk d => congr; exact Array.eq_empty_of_size_eq_zero h4
           subst hv
           simp only [Bool.not_true, Bool.false_or, decide_eq_true h4, if_true]
           go_enter Tryz.func63, Tryz.ntmps63
           go_wp2
           go_ret
           exact ⟨rfl, (by repeat (first | exact Below.refl _ _ | assumption | refine Below.drew ?_ | refine below_drewN ?_ _ | refine Below.alloc ?_ (by simp <;> omega) _))⟩
         · have hv : v.toList.isEmpty = false := by
            rw [ByteArray.toList_eq]
            cases hd : v.data.toList with
            | nil =>
             exfalso
             apply h4
             have : v.data.toList.length = 0 := by rw [hd]; rfl
             exact this
            | cons a l => rfl
           simp only [Bool.not_true, Bool.false_or, decide_eq_false h4, Bool.false_eq_true, if_false]
           go_enter Tryz.func63, Tryz.ntmps63
           go_wp2
           go_ret
           exact ⟨rfl, (by repeat (first | exact Below.refl _ _ | assumption | refine Below.drew ?_ | refine below_drewN ?_ _ | refine Below.alloc ?_ (by simp <;> omega) _))⟩
     · simp only [decide_eq_false h3, Bool.and_false, Bool.false_and, Bool.false_eq_true, if_false]
       go_enter Tryz.func63, Tryz.ntmps63
       go_wp2
       go_ret
       exact ⟨rfl, (by repeat (first | exact Below.refl _ _ | assumption | refine Below.drew ?_ | refine below_drewN ?_ _ | refine Below.alloc ?_ (by simp <;> omega) _))⟩
   · simp only [decide_eq_false h2, Bool.and_false, Bool.false_and, Bool.false_eq_true, if_false]
     go_enter Tryz.func63, Tryz.ntmps63
     go_wp2
     go_ret
     exact ⟨rfl, (by repeat (first | exact Below.refl _ _ | assumption | refine Below.drew ?_ | refine below_drewN ?_ _ | refine Below.alloc ?_ (by simp <;> omega) _))⟩
 · simp only [decide_eq_false h1, Bool.false_and, Bool.false_eq_true, if_false]
   go_enter Tryz.func63, Tryz.ntmps63
   go_wp2
   go_ret
   exact ⟨rfl, (by repeat (first | exact Below.refl _ _ | assumption | refine Below.drew ?_ | refine below_drewN ?_ _ | refine Below.alloc ?_ (by simp <;> omega) _))⟩
end Go.Proofs.YtceoficoappkpaaGreatDoor
