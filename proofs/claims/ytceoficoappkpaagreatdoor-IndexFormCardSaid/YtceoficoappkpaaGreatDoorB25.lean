/- Texts joined by a tool: contracts and walks of this claim. -/
import Derived.Test.YtceoficoappkpaaGreatDoorB24
namespace Go.Proofs.YtceoficoappkpaaGreatDoor
open Go.RowKit Go.Shelf
attribute [local go_sem] Oper.semAt_some

theorem blk5f {w : World} {b : Nat} {a0 a1 a2 a3 a4 : Value} {t : TypeId} (h : Blk w b #[a0, a1, a2, a3, a4] t) : b < w.heap.size ∧ w.cell? ⟨b, 0, none⟩ = some a0 ∧ w.cell? ⟨b, 1, none⟩ = some a1 ∧ w.cell? ⟨b, 2, none⟩ = some a2 ∧ w.cell? ⟨b, 3, none⟩ = some a3 ∧ w.cell? ⟨b, 4, none⟩ = some a4 ∧ ∀ i, w.frozen? ⟨b, i, none⟩ = false := ⟨h.lt, h.cell 0, h.cell 1, h.cell 2, h.cell 3, h.cell 4, fun i => h.frozen i⟩
set_option maxRecDepth 100000 in
set_option maxHeartbeats 1600000 in
theorem of_ref (ta : Ta) (b6 : Nat) (B0 o0 d : Nat) (l : List V) (ke re : Nat) (x y : V) (w : World) (h6 : Blk w b6 #[.string ta.nm, .slice ta.A ta.cs.length ta.c, .int .i64 ta.key, .int .i64 ta.ref, .int .i64 ta.par] 73) (hr : VRow w (some ⟨B0, o0, none⟩) l)
  (hke : ta.key = ke) (hre : ta.ref = re) (hx : l[ke]? = some x) (hy : l[re]? = some y) :
  Calls Tryz.prog 40 #[.slice (some ⟨B0, o0, none⟩) l.length d, .pointer (some ⟨b6, 0, none⟩)] w fun r w' => r = .returned (.tuple #[.agg #[.int .u8 x.k, .int .i64 x.n, .int .u64 x.r, .string x.t], .agg #[.int .u8 y.k, .int .i64 y.n, .int .u64 y.r, .string y.t]]) ∧ Below w.heap.size w w' := by
 obtain ⟨l6, t0, t1, t2, t3, t4, tf⟩ := blk5f h6
 rw [hke] at t2
 rw [hre] at t3
 have hk0 : ke < l.length := (List.getElem?_eq_some_iff.1 hx).1
 have hk1 : re < l.length := (List.getElem?_eq_some_iff.1 hy).1
 have hn0 := hr.2.1
 obtain ⟨g0, p0, hg0, hl0, hc0⟩ := hr.2.2 (by intro e; rw [e] at hk0; simp at hk0)
 simp only [Option.some.injEq, Addr.mk.injEq, and_true] at hg0
 obtain ⟨rfl, rfl⟩ := hg0
 obtain ⟨x0, x1, x2, x3⟩ := hc0 ke x hx
 obtain ⟨y0, y1, y2, y3⟩ := hc0 re y hy
 have hk0I : (ke : Int) < l.length := by omega
 have hk1I : (re : Int) < l.length := by omega
 have hnz : ((l.length : Int) == 0) = false := beq_eq_false_iff_ne.2 (by omega)
 clear h6 hr hke hre hx hy hc0
 go_enter Tryz.func40, Tryz.ntmps40
 go_upto_region 4 with fail
 have k3 : Blk ((w.alloc (.cells #[.int .u8 0, .int .i64 0, .int .u64 0, .string ⟨#[]⟩] 47)).alloc (.cells #[.int .u8 y.k, .int .i64 y.n, .int .u64 y.r, .string y.t] 47)) w.heap.size #[.int .u8 0, .int .i64 0, .int .u64 0, .string ⟨#[]⟩] 47 := Blk.old (Blk.new _ _ _) _
 have k4 : Blk ((w.alloc (.cells #[.int .u8 0, .int .i64 0, .int .u64 0, .string ⟨#[]⟩] 47)).alloc (.cells #[.int .u8 y.k, .int .i64 y.n, .int .u64 y.r, .string y.t] 47)) (w.heap.size + 1) #[.int .u8 y.k, .int .i64 y.n, .int .u64 y.r, .string y.t] 47 := Blk.at (by simp)
 have hb : Below w.heap.size w ((w.alloc (.cells #[.int .u8 0, .int .i64 0, .int .u64 0, .string ⟨#[]⟩] 47)).alloc (.cells #[.int .u8 y.k, .int .i64 y.n, .int .u64 y.r, .string y.t] 47)) := (by repeat (first | exact Below.refl _ _ | assumption | refine Below.drew ?_ | refine below_drewN ?_ _ | refine Below.alloc ?_ (by simp <;> omega) _))
 generalize ((w.alloc (.cells #[.int .u8 0, .int .i64 0, .int .u64 0, .string ⟨#[]⟩] 47)).alloc (.cells #[.int .u8 y.k, .int .i64 y.n, .int .u64 y.r, .string y.t] 47)) = W at k3 k4 hb ⊢
 obtain ⟨b3, hb3⟩ : ∃ b, b = w.heap.size := ⟨_, rfl⟩
 obtain ⟨b4, hb4⟩ : ∃ b, b = w.heap.size + 1 := ⟨_, rfl⟩
 rw [← hb4] at k4 ⊢
 rw [← hb3] at k3 ⊢
 have hne : b4 ≠ b3 := by omega
 have hlo3 : w.heap.size ≤ b3 := by omega
 have hlo4 : w.heap.size ≤ b4 := by omega
 clear hb3 hb4
 have HL := hd_ (And.intro hne (And.intro hlo3 hlo4))
 have HB := hd_ hb
 obtain ⟨w5, rfl, l5⟩ := blk_put k3
 obtain ⟨pc, pf, pS⟩ := putBlk_facts (w := w5) 47 l5
 have k4' : ∀ cs, Blk (putBlk w5 b3 cs 47) b4 #[.int .u8 y.k, .int .i64 y.n, .int .u64 y.r, .string y.t] 47 := fun cs => putBlk_old k4 hne cs
 have hs5 := hb.size
 rw [putBlk_size] at hs5
 have hcl : ∀ cs p v, p.block < w.heap.size → w.cell? p = some v → (putBlk w5 b3 cs 47).cell? p = some v := fun cs p v hp h => by
  have h1 := putBlk_below cs 47 hb hlo3
  rw [put_put'] at h1
  exact (h1.cell hp).trans h
 have l6' : ∀ cs, b6 < (putBlk w5 b3 cs 47).heap.size := fun cs => by rw [putBlk_size]; omega
 have l0' : ∀ cs, B0 < (putBlk w5 b3 cs 47).heap.size := fun cs => by rw [putBlk_size]; omega
 have l4' : ∀ cs, b4 < (putBlk w5 b3 cs 47).heap.size := fun cs => (k4' cs).lt
 have t2' : ∀ cs, (putBlk w5 b3 cs 47).cell? ⟨b6, 2, none⟩ = some (.int .i64 ke) := fun cs => hcl cs _ _ l6 t2
 have x0' : ∀ cs, (putBlk w5 b3 cs 47).cell? ⟨B0, o0 + ke * 4, none⟩ = some (.int .u8 x.k) := fun cs => hcl cs _ _ hl0 x0
 have x1' : ∀ cs, (putBlk w5 b3 cs 47).cell? ⟨B0, o0 + ke * 4 + 1, none⟩ = some (.int .i64 x.n) := fun cs => hcl cs _ _ hl0 x1
 have x2' : ∀ cs, (putBlk w5 b3 cs 47).cell? ⟨B0, o0 + ke * 4 + 2, none⟩ = some (.int .u64 x.r) := fun cs => hcl cs _ _ hl0 x2
 have x3' : ∀ cs, (putBlk w5 b3 cs 47).cell? ⟨B0, o0 + ke * 4 + 3, none⟩ = some (.string x.t) := fun cs => hcl cs _ _ hl0 x3
 have v0' : ∀ cs, (putBlk w5 b3 cs 47).cell? ⟨b4, 0, none⟩ = some (.int .u8 y.k) := fun cs => (k4' cs).cell 0
 have v1' : ∀ cs, (putBlk w5 b3 cs 47).cell? ⟨b4, 1, none⟩ = some (.int .i64 y.n) := fun cs => (k4' cs).cell 1
 have v2' : ∀ cs, (putBlk w5 b3 cs 47).cell? ⟨b4, 2, none⟩ = some (.int .u64 y.r) := fun cs => (k4' cs).cell 2
 have v3' : ∀ cs, (putBlk w5 b3 cs 47).cell? ⟨b4, 3, none⟩ = some (.string y.t) := fun cs => (k4' cs).cell 3
 have vf' : ∀ cs i, (putBlk w5 b3 cs 47).frozen? ⟨b4, i, none⟩ = false := fun cs i => (k4' cs).frozen i
 have vs : ∀ cs (i : Nat) (u : Value), #[.int .u8 y.k, .int .i64 y.n, .int .u64 y.r, .string y.t][i]? = some u → (putBlk w5 b3 cs 47).setCell ⟨b4, i, none⟩ u = putBlk w5 b3 cs 47 := fun cs i u hu => by
  obtain ⟨w6, hw6, l6⟩ := blk_put (k4' cs)
  rw [hw6, putBlk_set _ _ l6]
  congr 1
  apply Array.ext_getElem?
  intro j
  rw [Array.getElem?_setIfInBounds]
  by_cases e : i = j
  · subst e; rw [if_pos rfl, hu, if_pos (Array.getElem?_eq_some_iff.1 hu).1]
  · rw [if_neg e]
 have s0' : ∀ cs, (putBlk w5 b3 cs 47).setCell ⟨b4, 0, none⟩ (.int .u8 y.k) = putBlk w5 b3 cs 47 := fun cs => vs cs 0 _ rfl
 have s1' : ∀ cs, (putBlk w5 b3 cs 47).setCell ⟨b4, 1, none⟩ (.int .i64 y.n) = putBlk w5 b3 cs 47 := fun cs => vs cs 1 _ rfl
 have s2' : ∀ cs, (putBlk w5 b3 cs 47).setCell ⟨b4, 2, none⟩ (.int .u64 y.r) = putBlk w5 b3 cs 47 := fun cs => vs cs 2 _ rfl
 have s3' : ∀ cs, (putBlk w5 b3 cs 47).setCell ⟨b4, 3, none⟩ (.string y.t) = putBlk w5 b3 cs 47 := fun cs => vs cs 3 _ rfl
 have HBX : Hid (Below w.heap.size w (putBlk w5 b3 #[.int .u8 x.k, .int .i64 x.n, .int .u64 x.r, .string x.t] 47)) := by
  have h1 := putBlk_below #[.int .u8 x.k, .int .i64 x.n, .int .u64 x.r, .string x.t] 47 hb hlo3
  rwa [put_put'] at h1
 clear hb k4 k4' k3 hcl vs l6 t0 t1 t2 t3 t4 tf x0 x1 x2 x3 y0 y1 y2 y3 hl0 hne hlo3 hlo4 hnz hs5 HB
 go_region
 go_wp2_with fail
 refine bodyPost_ret (v := .tuple #[.agg #[.int .u8 x.k, .int .i64 x.n, .int .u64 x.r, .string x.t], .agg #[.int .u8 y.k, .int .i64 y.n, .int .u64 y.r, .string y.t]]) (by simp [results, Tryz.results40, go_sem, pc, v0', v1', v2', v3']) rfl ?_
 exact ⟨rfl, HBX.out.drew⟩
end Go.Proofs.YtceoficoappkpaaGreatDoor
namespace Go.Proofs.YtceoficoappkpaaGreatDoor
open Go.RowKit Go.Shelf
attribute [local go_sem] Oper.semAt_some

structure PsB (w : World) (Bb b14 : Nat) (ps : List Pr) : Prop where
 b : ∃ A c, Blk w b14 #[.slice A ps.length c] 36 ∧ w.ownsRow Bb 45 3 (.slice A ps.length c) ps.length (cellsP ps)
 lo : b14 < Bb ∧ Bb ≤ w.heap.size
theorem PsB.ext {w w' : World} {Bb b14 : Nat} {ps : List Pr} (h : PsB w Bb b14 ps) (hb : Below w.heap.size w w') : PsB w' Bb b14 ps := by
 obtain ⟨A, c, h1, h2⟩ := h.b
 exact ⟨⟨A, c, h1.ext hb, own_below h2 hb⟩, h.lo.1, Nat.le_trans h.lo.2 hb.size⟩
theorem KpX.of_below {w w' : World} {B rb : Nat} (h : Below w.heap.size w w') (hB : B ≤ w.heap.size) : KpX B rb w w' := ⟨⟨h.os, h.tape, h.output⟩, h.size, fun k hk _ => h.block k (by omega)⟩
set_option maxRecDepth 100000 in
set_option maxHeartbeats 1600000 in
theorem lay1_any (Bb b14 : Nat) (ps : List Pr) (pk pv k : ByteArray) (pg : Bool) (e : Int) (w : World) (h : PsB w Bb b14 ps) (hn : ps.length ≤ 1000000) :
  Calls Tryz.prog 42 #[.agg #[.string pk, .string pv, .bool pg], .string k, .int .i64 e, .pointer (some ⟨b14, 0, none⟩)] w fun r w' => r = .returned (.tuple #[]) ∧ PsB w' Bb b14 (ps ++ [⟨k, pv, pg⟩]) ∧ KpX Bb b14 w w' := by
 obtain ⟨i0, hi0, hz0, hz1, hz2⟩ := info_parts info_Pr
 obtain ⟨⟨A, c, h1, h2⟩, hl1, hl2⟩ := h
 obtain ⟨l14, c14⟩ : b14 < w.heap.size ∧ w.cell? ⟨b14, 0, none⟩ = some (.slice A ps.length c) := ⟨h1.lt, h1.cell 0⟩
 have hPC : cellsP ps ++ [.string k, .string pv, .bool pg] = cellsP (ps ++ [⟨k, pv, pg⟩]) := by rw [cellsP_snoc]
 have hPL : ps.length + 1 = (ps ++ [(⟨k, pv, pg⟩ : Pr)]).length := by simp
 have HPC := hd_ hPC
 have HPL := hd_ hPL
 have HE := hd_ h1
 have HO := hd_ h2
 clear hPC hPL h1 h2
 go_enter Tryz.func42, Tryz.ntmps42
 have hA2 : Below w.heap.size w ((w.alloc (.cells #[.string k, .string pv, .bool pg] 45)).alloc (.cells #[.string k, .string pv, .bool pg] 45)) := (by repeat (first | exact Below.refl _ _ | assumption | refine Below.drew ?_ | refine below_drewN ?_ _ | refine Below.alloc ?_ (by simp <;> omega) _))
 have HO5 := hd_ (own_below HO.out hA2)
 have HA2 := hd_ hA2
 have HE5 := hd_ (HE.out.ext hA2)
 clear hA2
 go_wp2_with (at_builtin; refine wpList_append_own _ rfl _ _ 36 rfl Bb 45 i0 _ 3 40 Tryz.underlying36 hi0 hz0 hz1 hz2 rfl (by decide) (.slice A ps.length c) ps.length (cellsP ps) rfl HO5.out ⟨w.heap.size + 1, 0, none⟩ 1 1 [.string k, .string pv, .bool pg] rfl rfl ?c1 ?c2 ?c3 ?c4 ?c5 ?_)
 case c1 =>
  intro j v hj
  have h0 : Blk ((w.alloc (.cells #[.string k, .string pv, .bool pg] 45)).alloc (.cells #[.string k, .string pv, .bool pg] 45)) (w.heap.size + 1) #[.string k, .string pv, .bool pg] 45 := Blk.at (by simp)
  have ha : (⟨w.heap.size + 1, 0, none⟩ : Addr).add j = ⟨w.heap.size + 1, j, none⟩ := by unfold Addr.add; split <;> simp_all
  rw [ha]
  exact (h0.cell j).trans (by simpa using hj)
 case c2 => simp [Value.oneCell']
 case c3 => simp only [maxLen]; omega
 case c4 => omega
 case c5 => simp; omega
 intro v1 w3 hown1 hg1 _
 obtain ⟨A3, c3, rfl⟩ := Rg.row_form hown1
 have hsA : Bb ≤ ((w.alloc (.cells #[.string k, .string pv, .bool pg] 45)).alloc (.cells #[.string k, .string pv, .bool pg] 45)).heap.size := by simp; omega
 have hK3 : Below Bb w w3 := (HA2.out.mono hl2).grown hg1 hsA (fun q e => (HO5.out.lt q e).1)
 have hE3 : Blk w3 b14 #[.slice A ps.length c] 36 := (hK3.block b14 hl1).trans HE.out
 have HO1 := hd_ hown1
 clear hown1 hg1 hsA l14 c14
 obtain ⟨w5, he5, lt⟩ := blk_put hE3
 subst he5
 obtain ⟨pc, pf, pS⟩ := putBlk_facts (w := w5) 36 lt
 have HO6 := hd_ (own_put HO1.out lt (by decide) #[.slice A3 (ps.length + 1) c3])
 have HE6 := hd_ (putBlk_blk (w := w5) #[.slice A3 (ps.length + 1) c3] 36 lt)
 have hgp : (putBlk w5 b14 #[.slice A ps.length c] 36).grownBy (putBlk w5 b14 #[.slice A3 (ps.length + 1) c3] 36) (some b14) := Rg.put_only _ _ _ _ _
 have HK6 : Hid (KpX Bb b14 w (putBlk w5 b14 #[.slice A3 (ps.length + 1) c3] 36)) :=
  KpX.trans ⟨⟨hK3.os, hK3.tape, hK3.output⟩, hK3.size, fun q hq _ => hK3.block q hq⟩ ⟨⟨hgp.os, hgp.tape, hgp.output⟩, hgp.size, fun q hq hn' => hgp.block q (by have := hK3.size; omega) (fun e => hn' (by cases e; rfl))⟩
 have HS6 : Hid (Bb ≤ (putBlk w5 b14 #[.slice A3 (ps.length + 1) c3] 36).heap.size) := Nat.le_trans hl2 (Nat.le_trans hK3.size hgp.size)
 clear hE3 hK3 hgp
 go_wp2_with fail
 refine bodyPost_end (v := .tuple #[]) (by simp [results, Tryz.results42, go_sem]) rfl ?_
 refine ⟨rfl, ⟨⟨A3, c3, ?_, ?_⟩, hl1, HS6.out⟩, HK6.out⟩
 · rw [← HPL.out]; exact HE6.out
 · rw [← HPL.out, ← HPC.out]; exact HO6.out
set_option maxRecDepth 100000 in
set_option maxHeartbeats 1600000 in
theorem put3_any (ch : Int) (tb : Int) (vs : List V) (Av : Option Addr) (cv : Nat) (Bb b14 b15 b3 : Nat) (kd : Int) (A0 A1 : Option Addr) (n0 c0 n1 c1 : Nat) (ps : List Pr) (pk pv : ByteArray) (pg : Bool) (w : World) (h : PsB w Bb b14 ps) (hn : ps.length ≤ 1000000)
  (h3 : Blk w b3 (chC kd tb A0 n0 c0 A1 n1 c1) 27) (h15 : Blk w b15 #[.func (.func 42) #[] #[.pointer (some ⟨b14, 0, none⟩)]] 90) (hv : VRow w Av vs) (hL : LayX w) (hok : lkOk tb vs = true) :
  Calls Tryz.prog 43 #[.agg #[.string pk, .string pv, .bool pg], .func (.func 41) #[.int .u8 ch] #[], .slice Av vs.length cv, .pointer (some ⟨b3, 0, none⟩), .pointer (some ⟨b15, 0, none⟩)] w fun r w' => r = .returned (.tuple #[]) ∧ PsB w' Bb b14 (ps ++ [⟨lkB ch tb vs, pv, pg⟩]) ∧ KpX Bb b14 w w' := by
 have HK := hd_ (fun (W : World) (hW : Below w.heap.size w W) => lkey_any ch tb vs Av cv W (hv.ext hW) (hL.ext hW))
 rw [hok] at HK
 simp only [if_true] at HK
 have HY := hd_ (fun (W : World) (hW : Below w.heap.size w W) => lay1_any Bb b14 ps pk pv (lkB ch tb vs) pg (okE true) W (h.ext hW) hn)
 generalize lkB ch tb vs = K at HK HY ⊢
 unfold okE at HK HY
 simp only [if_true] at HK HY
 have HLO := hd_ h.lo
 unfold chC at h3
 obtain ⟨l3, k0, k1, k2, k3, _⟩ := blk4f h3
 have H15 := hd_ h15
 clear h h3 h15 hv hL hok
 go_enter Tryz.func43, Tryz.ntmps43
 go_wp2_with fail
 have k5 : Blk (w.alloc (.cells #[.string pk, .string pv, .bool pg] 45)) w.heap.size #[.string pk, .string pv, .bool pg] 45 := Blk.new _ _ _
 refine (HK.out _ (by repeat (first | exact Below.refl _ _ | assumption | refine Below.drew ?_ | refine below_drewN ?_ _ | refine Below.alloc ?_ (by simp <;> omega) _))).mono ?_
 rintro r w1 ⟨rfl, hb⟩
 have hb1 : Below w.heap.size w w1 := bt ((by repeat (first | exact Below.refl _ _ | assumption | refine Below.drew ?_ | refine below_drewN ?_ _ | refine Below.alloc ?_ (by simp <;> omega) _))) hb
 have k51 := k5.ext hb
 obtain ⟨l15, c15⟩ : b15 < w1.heap.size ∧ w1.cell? ⟨b15, 0, none⟩ = some (.func (.func 42) #[] #[.pointer (some ⟨b14, 0, none⟩)]) := ⟨(H15.out.ext hb1).lt, (H15.out.ext hb1).cell 0⟩
 obtain ⟨l5, e0, e1, e2⟩ := blk3 k51
 have HB1 := hd_ hb1
 clear hb hb1 k5 k51 l3 k0 k1 k2 k3
 go_wp2_with fail
 refine (HY.out _ HB1.out).mono ?_
 rintro r w2 ⟨rfl, hp, hk⟩
 have HP := hd_ hp
 have HKK := hd_ (KpX.trans (KpX.of_below HB1.out HLO.out.2) hk)
 clear hp hk l15 c15 l5 e0 e1 e2
 go_wp2_with fail
 refine bodyPost_end (v := .tuple #[]) (by simp [results, Tryz.results43, go_sem]) rfl ?_
 exact ⟨rfl, HP.out, HKK.out⟩
end Go.Proofs.YtceoficoappkpaaGreatDoor
