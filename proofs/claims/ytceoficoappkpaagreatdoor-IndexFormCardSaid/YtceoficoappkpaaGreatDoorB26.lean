/- Texts joined by a tool: contracts and walks of this claim. -/
import Derived.Test.YtceoficoappkpaaGreatDoorB25
import Derived.Laws.EntriesVeiled
namespace Go.Proofs.YtceoficoappkpaaGreatDoor
open Go.RowKit Go.Shelf
attribute [local go_sem] Oper.semAt_some

theorem KpX.blw {w W W' : World} {B rb : Nat} (h : Below w.heap.size w W) (hk : KpX B rb W W') (h1 : w.heap.size ≤ rb) (h2 : rb < B) : Below w.heap.size w W' :=
 ⟨hk.1.1.trans h.os, hk.1.2.1.trans h.tape, hk.1.2.2.trans h.output, Nat.le_trans h.size hk.2.1, fun k hk' => (hk.2.2 k (by omega) (by omega)).trans (h.block k hk')⟩
set_option maxRecDepth 100000 in
theorem neqv_ne (k n r k' n' r' : Int) (t t' : ByteArray) (h : (⟨k, n, r, t⟩ : V) ≠ ⟨k', n', r', t'⟩) (w : World) :
  (binOp .neq 47 (.agg #[.int .u8 k, .int .i64 n, .int .u64 r, .string t]) (.agg #[.int .u8 k', .int .i64 n', .int .u64 r', .string t'])).run Tryz.prog w = .ok (.bool true) w := by
 go_simp
 rintro rfl rfl rfl ht
 obtain ⟨⟨a⟩⟩ := t
 obtain ⟨⟨b⟩⟩ := t'
 rw [Lib.toList_data, Lib.toList_data] at ht
 simp only at ht
 exact h (by rw [ht])
set_option maxRecDepth 100000 in
set_option maxHeartbeats 1600000 in
theorem pairs_upd (ts : List Ta) (tb0 off : Nat) (c d0 d1 : Nat) (j : Nat) (ta : Ta) (ke re : Nat) (x y z : V) (B0 B1 : Nat) (o0 o1 : Nat) (l0 l1 : List V) (w : World) (ht : TRow w (some ⟨tb0, off, none⟩) c ts) (h0 : VRow w (some ⟨B0, o0, none⟩) l0) (h1 : VRow w (some ⟨B1, o1, none⟩) l1) (hL : LayX w) (hT : Tabs w)
  (hj : ts[j]? = some ta) (hke : ta.key = ke) (hre : ta.ref = re) (hr0 : rowS ts j l0 = true) (hr1 : rowS ts j l1 = true) (hx0 : l0[ke]? = some x) (hx1 : l1[ke]? = some x) (hy : l0[re]? = some y) (hz : l1[re]? = some z) (hyN : (⟨y.k, y.n, y.r, y.t⟩ : V) ≠ ⟨0, 0, 0, ⟨#[]⟩⟩) (hzN : (⟨z.k, z.n, z.r, z.t⟩ : V) ≠ ⟨0, 0, 0, ⟨#[]⟩⟩) (hyz : (⟨y.k, y.n, y.r, y.t⟩ : V) ≠ ⟨z.k, z.n, z.r, z.t⟩) (hrb : rowB l1 = true) (hk1 : lkOk j [y, x] = true) (hk2 : lkOk j [x] = true) (hk3 : lkOk j [z, x] = true) :
  Calls Tryz.prog 10 #[.agg #[.slice (some ⟨tb0, off, none⟩) ts.length c], .agg #[.int .u8 2, .int .i64 j, .slice (some ⟨B0, o0, none⟩) l0.length d0, .slice (some ⟨B1, o1, none⟩) l1.length d1]] w fun r w' => ∃ A c', r = .returned (.tuple #[.slice A 3 c', .int .i64 0]) ∧ w'.ownsRow w.heap.size 45 3 (.slice A 3 c') 3 (cellsP [⟨lkB 102 j [y, x], ⟨#[]⟩, true⟩, ⟨lkB 114 j [x], ⟨(putRowL l1).toArray⟩, false⟩, ⟨lkB 102 j [z, x], ⟨#[]⟩, false⟩]) ∧ Below w.heap.size w w' := by
 have HT := hd_ (fun (W : World) (hW : Below w.heap.size w W) => And.intro (ht.ext hW) (And.intro (h0.ext hW) (And.intro (h1.ext hW) (hT.ext hW))))
 have HJ := hd_ (And.intro hj (And.intro hke (And.intro hx0 hx1)))
 have HR := hd_ (And.intro hr0 hr1)
 have hjl : j < ts.length := (List.getElem?_eq_some_iff.1 hj).1
 have HFI := hd_ (fun (W : World) (hW : Below w.heap.size w W) => fits_upd ts tb0 off c d0 d1 j ta ke x B0 B1 o0 o1 l0 l1 W (ht.ext hW) (h0.ext hW) (h1.ext hW) (hT.ext hW) hj hke hr0 hr1 hx0 hx1)
 have HOF0 := hd_ (fun (W : World) (hW : Below w.heap.size w W) (b6 : Nat) (h6 : Blk W b6 #[.string ta.nm, .slice ta.A ta.cs.length ta.c, .int .i64 ta.key, .int .i64 ta.ref, .int .i64 ta.par] 73) => of_ref ta b6 B0 o0 d0 l0 ke re x y W h6 (h0.ext hW) hke hre hx0 hy)
 have HOF1 := hd_ (fun (W : World) (hW : Below w.heap.size w W) (b6 : Nat) (h6 : Blk W b6 #[.string ta.nm, .slice ta.A ta.cs.length ta.c, .int .i64 ta.key, .int .i64 ta.ref, .int .i64 ta.par] 73) => of_ref ta b6 B1 o1 d1 l1 ke re x z W h6 (h1.ext hW) hke hre hx1 hz)
 have HWF := hd_ (And.intro (h0.1 x (List.mem_of_getElem? hx0)) (And.intro (h0.1 y (List.mem_of_getElem? hy)) (h1.1 z (List.mem_of_getElem? hz))))
 have HN := hd_ (And.intro hyN (And.intro hzN hyz))
 have HOK := hd_ (And.intro hk1 (And.intro hk2 hk3))
 have HPR := hd_ (fun (W : World) (hW : Below w.heap.size w W) => putrow_ok l1 (some ⟨B1, o1, none⟩) d1 W (h1.ext hW) (hT.ext hW) hrb)
 have HLX := hd_ (fun (W : World) (hW : Below w.heap.size w W) => hL.ext hW)
 have hlz : ((l1.length : Int) == 0) = false := beq_eq_false_iff_ne.2 (by have := (List.getElem?_eq_some_iff.1 hz).1; omega)
 have HLZ := hd_ hlz
 clear ht h0 h1 hT hj hke hx0 hx1 hr0 hr1 hre hyN hzN hyz hrb hk1 hk2 hk3 hL hy hz hlz
 generalize (⟨(putRowL l1).toArray⟩ : ByteArray) = TX at HPR ⊢
 go_enter Tryz.func10, Tryz.ntmps10
 go_upto_region 1 with fail
 have b2 : Blk ((w.alloc (.cells #[.slice (some ⟨tb0, off, none⟩) ts.length c] 24)).alloc (.cells #[.int .u8 2, .int .i64 j, .slice (some ⟨B0, o0, none⟩) l0.length d0, .slice (some ⟨B1, o1, none⟩) l1.length d1] 27)) w.heap.size #[.slice (some ⟨tb0, off, none⟩) ts.length c] 24 := (by repeat (first | exact Blk.at (by simp) | assumption | refine Blk.drew ?_ | refine Blk.old ?_ _))
 have b3 : Blk ((w.alloc (.cells #[.slice (some ⟨tb0, off, none⟩) ts.length c] 24)).alloc (.cells #[.int .u8 2, .int .i64 j, .slice (some ⟨B0, o0, none⟩) l0.length d0, .slice (some ⟨B1, o1, none⟩) l1.length d1] 27)) (w.heap.size + 1) #[.int .u8 2, .int .i64 j, .slice (some ⟨B0, o0, none⟩) l0.length d0, .slice (some ⟨B1, o1, none⟩) l1.length d1] 27 := (by repeat (first | exact Blk.at (by simp) | assumption | refine Blk.drew ?_ | refine Blk.old ?_ _))
 have hb : Below w.heap.size w ((w.alloc (.cells #[.slice (some ⟨tb0, off, none⟩) ts.length c] 24)).alloc (.cells #[.int .u8 2, .int .i64 j, .slice (some ⟨B0, o0, none⟩) l0.length d0, .slice (some ⟨B1, o1, none⟩) l1.length d1] 27)) := (by repeat (first | exact Below.refl _ _ | assumption | refine Below.drew ?_ | refine below_drewN ?_ _ | refine Below.alloc ?_ (by simp <;> omega) _))
 generalize ((w.alloc (.cells #[.slice (some ⟨tb0, off, none⟩) ts.length c] 24)).alloc (.cells #[.int .u8 2, .int .i64 j, .slice (some ⟨B0, o0, none⟩) l0.length d0, .slice (some ⟨B1, o1, none⟩) l1.length d1] 27)) = W at b2 b3 hb ⊢
 obtain ⟨q2, hq2⟩ : ∃ b, b = w.heap.size := ⟨_, rfl⟩
 obtain ⟨q3, hq3⟩ : ∃ b, b = w.heap.size + 1 := ⟨_, rfl⟩
 rw [← hq3] at b3 ⊢
 rw [← hq2] at b2 ⊢
 have HQ := hd_ (And.intro hq2 hq3)
 clear hq2 hq3
 have HB2 := hd_ b2
 have HB3 := hd_ b3
 have HB := hd_ hb
 obtain ⟨l3, k0, k1, k2, k3, kf⟩ := blk4f b3
 obtain ⟨l2, e2⟩ : q2 < W.heap.size ∧ W.cell? ⟨q2, 0, none⟩ = some (.slice (some ⟨tb0, off, none⟩) ts.length c) := ⟨b2.lt, b2.cell 0⟩
 clear b2 b3 hb
 go_wp2_with fail
 refine (HFI.out W HB.out).mono ?_
 rintro r w1 ⟨rfl, hb1⟩
 clear l3 k0 k1 k2 k3 kf l2 e2
 obtain ⟨l3, k0, k1, k2, k3, kf⟩ := blk4f (HB3.out.ext hb1)
 obtain ⟨l2, e2⟩ : q2 < w1.heap.size ∧ w1.cell? ⟨q2, 0, none⟩ = some (.slice (some ⟨tb0, off, none⟩) ts.length c) := ⟨(HB2.out.ext hb1).lt, (HB2.out.ext hb1).cell 0⟩
 have hb2 := bt HB.out hb1
 have hall := HT.out w1 hb2
 obtain ⟨tb1, off1, htb, hlt, hcs⟩ := hall.1.2.2.2 (by intro e; rw [e] at hjl; simp at hjl)
 simp only [Option.some.injEq, Addr.mk.injEq, and_true] at htb
 obtain ⟨rfl, rfl⟩ := htb
 obtain ⟨t0, t1, t2, t3, t4⟩ := hcs j ta HJ.out.1
 have HB1 := hd_ hb1
 have HX1 := hd_ hb2
 clear hb1 hb2 hall hcs
 have hjI : (j : Int) < ts.length := by omega
 go_upto_region 4 with fail
 have b6 : Blk (w1.alloc (.cells #[.string ta.nm, .slice ta.A ta.cs.length ta.c, .int .i64 ta.key, .int .i64 ta.ref, .int .i64 ta.par] 73)) w1.heap.size #[.string ta.nm, .slice ta.A ta.cs.length ta.c, .int .i64 ta.key, .int .i64 ta.ref, .int .i64 ta.par] 73 := Blk.new _ _ _
 have hb3 : Below W.heap.size W (w1.alloc (.cells #[.string ta.nm, .slice ta.A ta.cs.length ta.c, .int .i64 ta.key, .int .i64 ta.ref, .int .i64 ta.par] 73)) := bt HB1.out ((by repeat (first | exact Below.refl _ _ | assumption | refine Below.drew ?_ | refine below_drewN ?_ _ | refine Below.alloc ?_ (by simp <;> omega) _)))
 generalize (w1.alloc (.cells #[.string ta.nm, .slice ta.A ta.cs.length ta.c, .int .i64 ta.key, .int .i64 ta.ref, .int .i64 ta.par] 73)) = W2 at b6 hb3 ⊢
 generalize w1.heap.size = q6 at b6 ⊢
 clear l3 k0 k1 k2 k3 kf l2 e2 t0 t1 t2 t3 t4 HFI HB1 HX1 w1 hlt
 obtain ⟨l3, k0, k1, k2, k3, kf⟩ := blk4f (HB3.out.ext hb3)
 have HB6 := hd_ b6
 have HX2 := hd_ hb3
 clear b6 hb3
 go_upto_region 6 with fail
 go_wp2_with fail
 refine (HOF0.out _ (bt HB.out HX2.out) _ HB6.out).mono ?_
 rintro r w1 ⟨rfl, hb1⟩
 have hb2 := bt HX2.out hb1
 clear l3 k0 k1 k2 k3 kf
 obtain ⟨l3, k0, k1, k2, k3, kf⟩ := blk4f (HB3.out.ext hb2)
 have HX3 := hd_ hb2
 have HB6' := hd_ (HB6.out.ext hb1)
 clear hb1 hb2 HB6
 go_upto_region 7 with fail
 have kA : Blk ((w1.alloc (.cells #[.int .u8 x.k, .int .i64 x.n, .int .u64 x.r, .string x.t] 47)).alloc (.cells #[.int .u8 y.k, .int .i64 y.n, .int .u64 y.r, .string y.t] 47)) w1.heap.size #[.int .u8 x.k, .int .i64 x.n, .int .u64 x.r, .string x.t] 47 := Blk.old (Blk.new _ _ _) _
 have kB : Blk ((w1.alloc (.cells #[.int .u8 x.k, .int .i64 x.n, .int .u64 x.r, .string x.t] 47)).alloc (.cells #[.int .u8 y.k, .int .i64 y.n, .int .u64 y.r, .string y.t] 47)) (w1.heap.size + 1) #[.int .u8 y.k, .int .i64 y.n, .int .u64 y.r, .string y.t] 47 := Blk.at (by simp)
 have hbn : Below w1.heap.size w1 ((w1.alloc (.cells #[.int .u8 x.k, .int .i64 x.n, .int .u64 x.r, .string x.t] 47)).alloc (.cells #[.int .u8 y.k, .int .i64 y.n, .int .u64 y.r, .string y.t] 47)) := (by repeat (first | exact Below.refl _ _ | assumption | refine Below.drew ?_ | refine below_drewN ?_ _ | refine Below.alloc ?_ (by simp <;> omega) _))
 generalize ((w1.alloc (.cells #[.int .u8 x.k, .int .i64 x.n, .int .u64 x.r, .string x.t] 47)).alloc (.cells #[.int .u8 y.k, .int .i64 y.n, .int .u64 y.r, .string y.t] 47)) = W3 at kA kB hbn ⊢
 obtain ⟨q10, hq10⟩ : ∃ b, b = w1.heap.size := ⟨_, rfl⟩
 obtain ⟨q11, hq11⟩ : ∃ b, b = w1.heap.size + 1 := ⟨_, rfl⟩
 rw [← hq11] at kB ⊢
 rw [← hq10] at kA ⊢
 clear hq10 hq11
 have hb3 := bt HX3.out hbn
 clear l3 k0 k1 k2 k3 kf
 obtain ⟨l3, k0, k1, k2, k3, kf⟩ := blk4f (HB3.out.ext hb3)
 have HB6 := hd_ (HB6'.out.ext hbn)
 have HB10 := hd_ kA
 have HB11 := hd_ kB
 have HX4 := hd_ hb3
 clear kA kB hbn hb3 HB6' HX2 HX3 w1
 go_wp2_with fail
 refine (HOF1.out _ (bt HB.out HX4.out) _ HB6.out).mono ?_
 rintro r w1 ⟨rfl, hb1⟩
 have hb2 := bt HX4.out hb1
 clear l3 k0 k1 k2 k3 kf
 obtain ⟨l3, k0, k1, k2, k3, kf⟩ := blk4f (HB3.out.ext hb2)
 have HX5 := hd_ hb2
 have HB10' := hd_ (HB10.out.ext hb1)
 have HB11' := hd_ (HB11.out.ext hb1)
 clear hb1 hb2 HB10 HB11 HB6 HOF0 HOF1 HX4
 go_upto_region 8 with fail
 have kA : Blk ((w1.alloc (.cells #[.int .u8 x.k, .int .i64 x.n, .int .u64 x.r, .string x.t] 47)).alloc (.cells #[.int .u8 z.k, .int .i64 z.n, .int .u64 z.r, .string z.t] 47)) w1.heap.size #[.int .u8 x.k, .int .i64 x.n, .int .u64 x.r, .string x.t] 47 := Blk.old (Blk.new _ _ _) _
 have kB : Blk ((w1.alloc (.cells #[.int .u8 x.k, .int .i64 x.n, .int .u64 x.r, .string x.t] 47)).alloc (.cells #[.int .u8 z.k, .int .i64 z.n, .int .u64 z.r, .string z.t] 47)) (w1.heap.size + 1) #[.int .u8 z.k, .int .i64 z.n, .int .u64 z.r, .string z.t] 47 := Blk.at (by simp)
 have hbn : Below w1.heap.size w1 ((w1.alloc (.cells #[.int .u8 x.k, .int .i64 x.n, .int .u64 x.r, .string x.t] 47)).alloc (.cells #[.int .u8 z.k, .int .i64 z.n, .int .u64 z.r, .string z.t] 47)) := (by repeat (first | exact Below.refl _ _ | assumption | refine Below.drew ?_ | refine below_drewN ?_ _ | refine Below.alloc ?_ (by simp <;> omega) _))
 generalize ((w1.alloc (.cells #[.int .u8 x.k, .int .i64 x.n, .int .u64 x.r, .string x.t] 47)).alloc (.cells #[.int .u8 z.k, .int .i64 z.n, .int .u64 z.r, .string z.t] 47)) = W4 at kA kB hbn ⊢
 obtain ⟨q12, hq12⟩ : ∃ b, b = w1.heap.size := ⟨_, rfl⟩
 obtain ⟨q13, hq13⟩ : ∃ b, b = w1.heap.size + 1 := ⟨_, rfl⟩
 rw [← hq13] at kB ⊢
 rw [← hq12] at kA ⊢
 clear hq12 hq13
 have hb3 := bt HX5.out hbn
 clear l3 k0 k1 k2 k3 kf
 have HB10 := hd_ (HB10'.out.ext hbn)
 have HB11 := hd_ (HB11'.out.ext hbn)
 have HB12 := hd_ kA
 have HB13 := hd_ kB
 have HX6 := hd_ hb3
 clear kA kB hbn hb3 HB10' HB11' HX5 w1
 go_upto_region 12 with fail
 have k14 : Blk (((W4.alloc (.cells #[.slice none 0 0] 36)).alloc (.cells #[.func (.func 42) #[] #[.pointer (some ⟨W4.heap.size, 0, none⟩)]] 90)).alloc (.cells #[.string ⟨#[]⟩, .string ⟨#[]⟩, .bool true] 45)) W4.heap.size #[.slice none 0 0] 36 := Blk.old (Blk.old (Blk.new _ _ _) _) _
 have k15 : Blk (((W4.alloc (.cells #[.slice none 0 0] 36)).alloc (.cells #[.func (.func 42) #[] #[.pointer (some ⟨W4.heap.size, 0, none⟩)]] 90)).alloc (.cells #[.string ⟨#[]⟩, .string ⟨#[]⟩, .bool true] 45)) (W4.heap.size + 1) #[.func (.func 42) #[] #[.pointer (some ⟨W4.heap.size, 0, none⟩)]] 90 := Blk.old (Blk.at (by simp)) _
 have k17 : Blk (((W4.alloc (.cells #[.slice none 0 0] 36)).alloc (.cells #[.func (.func 42) #[] #[.pointer (some ⟨W4.heap.size, 0, none⟩)]] 90)).alloc (.cells #[.string ⟨#[]⟩, .string ⟨#[]⟩, .bool true] 45)) (W4.heap.size + 2) #[.string ⟨#[]⟩, .string ⟨#[]⟩, .bool true] 45 := Blk.at (by simp)
 have hbn : Below W4.heap.size W4 (((W4.alloc (.cells #[.slice none 0 0] 36)).alloc (.cells #[.func (.func 42) #[] #[.pointer (some ⟨W4.heap.size, 0, none⟩)]] 90)).alloc (.cells #[.string ⟨#[]⟩, .string ⟨#[]⟩, .bool true] 45)) := (by repeat (first | exact Below.refl _ _ | assumption | refine Below.drew ?_ | refine below_drewN ?_ _ | refine Below.alloc ?_ (by simp <;> omega) _))
 have hsz : (((W4.alloc (.cells #[.slice none 0 0] 36)).alloc (.cells #[.func (.func 42) #[] #[.pointer (some ⟨W4.heap.size, 0, none⟩)]] 90)).alloc (.cells #[.string ⟨#[]⟩, .string ⟨#[]⟩, .bool true] 45)).heap.size = W4.heap.size + 3 := by simp
 generalize (((W4.alloc (.cells #[.slice none 0 0] 36)).alloc (.cells #[.func (.func 42) #[] #[.pointer (some ⟨W4.heap.size, 0, none⟩)]] 90)).alloc (.cells #[.string ⟨#[]⟩, .string ⟨#[]⟩, .bool true] 45)) = W5 at k14 k15 k17 hbn hsz ⊢
 obtain ⟨q14, h14⟩ : ∃ b, b = W4.heap.size := ⟨_, rfl⟩
 obtain ⟨q15, h15⟩ : ∃ b, b = W4.heap.size + 1 := ⟨_, rfl⟩
 obtain ⟨q17, h17⟩ : ∃ b, b = W4.heap.size + 2 := ⟨_, rfl⟩
 have hw14 : w.heap.size ≤ q14 := by rw [h14]; exact Nat.le_trans HB.out.size HX6.out.size
 have HC : Hid (∀ X, KpX (q14 + 3) q14 W5 X → Below w.heap.size w X ∧ Blk X q3 (chC 2 j (some ⟨B0, o0, none⟩) l0.length d0 (some ⟨B1, o1, none⟩) l1.length d1) 27 ∧ Blk X q10 #[.int .u8 x.k, .int .i64 x.n, .int .u64 x.r, .string x.t] 47 ∧ Blk X q11 #[.int .u8 y.k, .int .i64 y.n, .int .u64 y.r, .string y.t] 47 ∧ Blk X q12 #[.int .u8 x.k, .int .i64 x.n, .int .u64 x.r, .string x.t] 47 ∧ Blk X q13 #[.int .u8 z.k, .int .i64 z.n, .int .u64 z.r, .string z.t] 47 ∧ Blk X q15 #[.func (.func 42) #[] #[.pointer (some ⟨q14, 0, none⟩)]] 90 ∧ Blk X q17 #[.string ⟨#[]⟩, .string ⟨#[]⟩, .bool true] 45) := by
  intro X hX
  have g3 := HB3.out.ext HX6.out
  have g : ∀ b cs t, Blk W4 b cs t → Blk X b cs t := fun b cs t hb => hX.blk (hb.ext hbn) (by have := hb.lt; omega) (by have := hb.lt; omega)
  refine ⟨KpX.blw (bt (bt HB.out HX6.out) hbn) hX hw14 (by omega), g _ _ _ g3, g _ _ _ HB10.out, g _ _ _ HB11.out, g _ _ _ HB12.out, g _ _ _ HB13.out, ?_, ?_⟩
  · rw [h15]; rw [← h14] at k15 ⊢; exact hX.blk k15 (by omega) (by omega)
  · rw [h17]; rw [← h14] at k17 ⊢; exact hX.blk k17 (by omega) (by omega)
 have HP0 : Hid (PsB W5 (q14 + 3) q14 []) := ⟨⟨none, 0, by rw [h14]; exact k14, World.ownsRow_nil _ _ _ _⟩, by omega, by omega⟩
 have HS5 : Hid (W5.heap.size = q14 + 3) := by show _ = _; omega
 have HW14 := hd_ hw14
 rw [← h17, ← h15, ← h14]
 clear k14 k15 k17 hbn hsz h14 h15 h17 hw14 HB10 HB11 HB12 HB13 HX6 HB3 HB2 HB HQ
 have hq1 := neqv_ne y.k y.n y.r 0 0 0 y.t ⟨#[]⟩ HN.out.1
 have hq2 := neqv_ne y.k y.n y.r z.k z.n z.r y.t z.t HN.out.2.2
 let Iv : Nat → Unit → World → Prop := fun k _ W => match k with
  | 0 => W = W5.drew
  | _ => Below W5.heap.size W5 W
 refine region_phase (Iv) (fun _ _ _ => True) (()) (fun _ => [.agg #[.int .u8 y.k, .int .i64 y.n, .int .u64 y.r, .string y.t], .agg #[.int .u8 0, .int .i64 0, .int .u64 0, .string ⟨#[]⟩], .bool true, .bool true, .agg #[.int .u8 y.k, .int .i64 y.n, .int .u64 y.r, .string y.t], .agg #[.int .u8 z.k, .int .i64 z.n, .int .u64 z.r, .string z.t], .bool true, .bool true]) [1] [(0, 1), (0, 1), (1, 1), (1, 1), (1, 1), (1, 1), (1, 1), (1, 1)] [false, false, false, false, false, false, false, false, false, false, false, false, false, false, false, false, false, false, false, false, false, false, false, false, false, false, false, false, false, false, false, false, false, false, false, false, false, false, false, false, false, false, false, false, false, false, false, false, false, false, true, true, true, true, true, true, true, true, false, false, false, false, false, false, false, false, false, false, false, false, false, false, false, false, false, false, false, false, false, false, false, false, false, false, false, false, false, false, false, false, false, false, false, false, false, false, false, false, false, false, false, false, false, false, false] [50, 51, 52, 53, 54, 55, 56, 57] [7] rfl (fun _ => rfl) (fun _ _ _ _ _ _ _ _ _ => rfl) (by kernel_rfl) (by kernel_rfl) (by kernel_rfl) (by decide) (by kernel_rfl) (by kernel_rfl) (by kernel_rfl) (by kernel_rfl) (by kernel_rfl) ⟨PhStep.pure rfl ?_, PhStep.chain 0 rfl ?c12_1, PhStep.pure rfl ?_, PhStep.pure rfl ?_, PhStep.pure rfl ?_, PhStep.pure rfl ?_, PhStep.pure rfl ?_, PhStep.pure rfl ?_, trivial⟩ ?done12
 case done12 =>
  intro g yy W hiv
  have hW : Below W5.heap.size W5 W := hiv
  simp only [StepGoal, List.map_cons, List.map_nil, overlay, upd, cond_true, cond_false, List.getD_cons_zero, List.getD_cons_succ, Nat.zero_add, Nat.reduceAdd, Nat.reduceEqDiff, reduceIte]
  clear hiv Iv hq1 hq2
  have HP1 := hd_ (HP0.out.ext hW)
  have hK : KpX (q14 + 3) q14 W5 W := KpX.of_below hW (by rw [HS5.out]; exact Nat.le_refl _)
  obtain ⟨hw, b3, b10, b11, b12, b13, b15, b17⟩ := HC.out W hK
  have HB3 := hd_ b3
  have HB15 := hd_ b15
  have HKW := hd_ hK
  have HWW := hd_ hw
  obtain ⟨l10, x0, x1, x2, x3, _⟩ := blk4f b10
  obtain ⟨l11, y0, y1, y2, y3, _⟩ := blk4f b11
  obtain ⟨l17, p0, p1, p2⟩ := blk3 b17
  clear hW hK hw b3 b10 b11 b12 b13 b15 b17 HP0
  go_wp2_with fail
  have hWc : Below W.heap.size W (W.alloc (.cells #[.int .u8 y.k, .int .i64 y.n, .int .u64 y.r, .string y.t, .int .u8 x.k, .int .i64 x.n, .int .u64 x.r, .string x.t] 47)) := bel1 _ _
  have kr : Blk (W.alloc (.cells #[.int .u8 y.k, .int .i64 y.n, .int .u64 y.r, .string y.t, .int .u8 x.k, .int .i64 x.n, .int .u64 x.r, .string x.t] 47)) W.heap.size #[.int .u8 y.k, .int .i64 y.n, .int .u64 y.r, .string y.t, .int .u8 x.k, .int .i64 x.n, .int .u64 x.r, .string x.t] 47 := Blk.new _ _ _
  have hsW : q14 + 3 ≤ W.heap.size := by rw [← HS5.out]; exact HKW.out.2.1
  have hKc : KpX (q14 + 3) q14 W (W.alloc (.cells #[.int .u8 y.k, .int .i64 y.n, .int .u64 y.r, .string y.t, .int .u8 x.k, .int .i64 x.n, .int .u64 x.r, .string x.t] 47)) := KpX.of_below hWc hsW
  refine (put3_any 102 j [y, x] (some ⟨W.heap.size, 0, none⟩) 2 (q14 + 3) q14 q15 q3 2 (some ⟨B0, o0, none⟩) (some ⟨B1, o1, none⟩) l0.length d0 l1.length d1 [] ⟨#[]⟩ ⟨#[]⟩ true _ (HP1.out.ext hWc) (by simp) (HB3.out.ext hWc) (HB15.out.ext hWc) (vrow_b2 y x HWF.out.2.1 HWF.out.1 kr) (HLX.out _ (bt HWW.out hWc)) HOK.out.1).mono ?_
  rintro r w1 ⟨rfl, hp, hk⟩
  have HK1 := hd_ (HKW.out.trans (hKc.trans hk))
  have HP2 : Hid (PsB w1 (q14 + 3) q14 [⟨lkB 102 j [y, x], ⟨#[]⟩, true⟩]) := hp
  clear hp hk hKc kr hWc hsW l10 x0 x1 x2 x3 l11 y0 y1 y2 y3 l17 p0 p1 p2 HP1 HB3 HB15 HWW HKW
  obtain ⟨hw, b3, b10, b11, b12, b13, b15, b17⟩ := HC.out w1 HK1.out
  have HW1 := hd_ hw
  obtain ⟨l3, k0, k1, k2, k3, _⟩ := blk4f b3
  have hlz := HLZ.out
  clear hw b3 b10 b11 b12 b13 b15 b17
  go_wp2_with fail
  refine (HPR.out w1 HW1.out).mono ?_
  rintro r w2 ⟨rfl, hb⟩
  have HK2 := hd_ (HK1.out.trans (KpX.of_below hb (by rw [← HS5.out]; exact HK1.out.2.1)))
  have HP3 := hd_ (HP2.out.ext hb)
  clear hb l3 k0 k1 k2 k3 HP2 HW1
  obtain ⟨hw, b3, b10, b11, b12, b13, b15, b17⟩ := HC.out w2 HK2.out
  have HW2 := hd_ hw
  have HB3 := hd_ b3
  have HB15 := hd_ b15
  obtain ⟨l12, x0, x1, x2, x3, _⟩ := blk4f b12
  clear hw b3 b10 b11 b12 b13 b15 b17
  go_wp2_with fail
  have hWc : Below w2.heap.size w2 (w2.alloc (.cells #[.int .u8 x.k, .int .i64 x.n, .int .u64 x.r, .string x.t] 47)) := bel1 _ _
  have kr : Blk (w2.alloc (.cells #[.int .u8 x.k, .int .i64 x.n, .int .u64 x.r, .string x.t] 47)) w2.heap.size #[.int .u8 x.k, .int .i64 x.n, .int .u64 x.r, .string x.t] 47 := Blk.new _ _ _
  have hsW : q14 + 3 ≤ w2.heap.size := by rw [← HS5.out]; exact HK2.out.2.1
  have hKc : KpX (q14 + 3) q14 w2 (w2.alloc (.cells #[.int .u8 x.k, .int .i64 x.n, .int .u64 x.r, .string x.t] 47)) := KpX.of_below hWc hsW
  refine (put3_any 114 j [x] (some ⟨w2.heap.size, 0, none⟩) 1 (q14 + 3) q14 q15 q3 2 (some ⟨B0, o0, none⟩) (some ⟨B1, o1, none⟩) l0.length d0 l1.length d1 [⟨lkB 102 j [y, x], ⟨#[]⟩, true⟩] ⟨#[]⟩ TX false _ (HP3.out.ext hWc) (by simp) (HB3.out.ext hWc) (HB15.out.ext hWc) (vrow_b1 x HWF.out.1 kr) (HLX.out _ (bt HW2.out hWc)) HOK.out.2.1).mono ?_
  rintro r w3 ⟨rfl, hp, hk⟩
  have HK3 := hd_ (HK2.out.trans (hKc.trans hk))
  have HP4 : Hid (PsB w3 (q14 + 3) q14 [⟨lkB 102 j [y, x], ⟨#[]⟩, true⟩, ⟨lkB 114 j [x], TX, false⟩]) := hp
  clear hp hk hKc kr hWc hsW l12 x0 x1 x2 x3 HP3 HB3 HB15 HW2
  go_upto_region 19 with fail
  have hs3 : q14 + 3 ≤ w3.heap.size := by rw [← HS5.out]; exact HK3.out.2.1
  have HS3 := hd_ hs3
  clear hs3 hlz
  have hq1 := neqv_ne z.k z.n z.r 0 0 0 z.t ⟨#[]⟩ HN.out.2.1
  have hq2 := neqv_ne y.k y.n y.r z.k z.n z.r y.t z.t HN.out.2.2
  let Iv : Nat → Unit → World → Prop := fun k _ W => match k with
   | 0 => W = w3.drew
   | _ => Below w3.heap.size w3 W
  refine region_phase (Iv) (fun _ _ _ => True) (()) (fun _ => [.agg #[.int .u8 z.k, .int .i64 z.n, .int .u64 z.r, .string z.t], .agg #[.int .u8 0, .int .i64 0, .int .u64 0, .string ⟨#[]⟩], .bool true, .bool true, .agg #[.int .u8 y.k, .int .i64 y.n, .int .u64 y.r, .string y.t], .agg #[.int .u8 z.k, .int .i64 z.n, .int .u64 z.r, .string z.t], .bool true, .bool true]) [1] [(0, 1), (0, 1), (1, 1), (1, 1), (1, 1), (1, 1), (1, 1), (1, 1)] [false, false, false, false, false, false, false, false, false, false, false, false, false, false, false, false, false, false, false, false, false, false, false, false, false, false, false, false, false, false, false, false, false, false, false, false, false, false, false, false, false, false, false, false, false, false, false, false, false, false, false, false, false, false, false, false, false, false, false, false, false, false, false, false, false, false, false, false, false, false, false, false, false, false, false, false, false, false, false, false, false, false, false, false, false, false, false, false, false, true, true, true, true, true, true, true, true, false, false, false, false, false, false, false, false] [89, 90, 91, 92, 93, 94, 95, 96] [7] rfl (fun _ => rfl) (fun _ _ _ _ _ _ _ _ _ => rfl) (by kernel_rfl) (by kernel_rfl) (by kernel_rfl) (by decide) (by kernel_rfl) (by kernel_rfl) (by kernel_rfl) (by kernel_rfl) (by kernel_rfl) ⟨PhStep.pure rfl ?_, PhStep.chain 0 rfl ?c19_1, PhStep.pure rfl ?_, PhStep.pure rfl ?_, PhStep.pure rfl ?_, PhStep.pure rfl ?_, PhStep.pure rfl ?_, PhStep.pure rfl ?_, trivial⟩ ?done19
  case done19 =>
   intro g yy V hiv
   have hW : Below w3.heap.size w3 V := hiv
   simp only [StepGoal, List.map_cons, List.map_nil, overlay, upd, cond_true, cond_false, List.getD_cons_zero, List.getD_cons_succ, Nat.zero_add, Nat.reduceAdd, Nat.reduceEqDiff, reduceIte]
   clear hiv Iv hq1 hq2
   have HP5 := hd_ (HP4.out.ext hW)
   have HK4 := hd_ (HK3.out.trans (KpX.of_below hW HS3.out))
   clear hW
   obtain ⟨hw, b3, b10, b11, b12, b13, b15, b17⟩ := HC.out V HK4.out
   have HWV := hd_ hw
   have HB3 := hd_ b3
   have HB15 := hd_ b15
   obtain ⟨l12, x0, x1, x2, x3, _⟩ := blk4f b12
   obtain ⟨l13, z0, z1, z2, z3, _⟩ := blk4f b13
   clear hw b3 b10 b11 b12 b13 b15 b17
   go_wp2_with fail
   have hWc : Below V.heap.size V (V.alloc (.cells #[.int .u8 z.k, .int .i64 z.n, .int .u64 z.r, .string z.t, .int .u8 x.k, .int .i64 x.n, .int .u64 x.r, .string x.t] 47)) := bel1 _ _
   have kr : Blk (V.alloc (.cells #[.int .u8 z.k, .int .i64 z.n, .int .u64 z.r, .string z.t, .int .u8 x.k, .int .i64 x.n, .int .u64 x.r, .string x.t] 47)) V.heap.size #[.int .u8 z.k, .int .i64 z.n, .int .u64 z.r, .string z.t, .int .u8 x.k, .int .i64 x.n, .int .u64 x.r, .string x.t] 47 := Blk.new _ _ _
   have hsW : q14 + 3 ≤ V.heap.size := by rw [← HS5.out]; exact HK4.out.2.1
   have hKc : KpX (q14 + 3) q14 V (V.alloc (.cells #[.int .u8 z.k, .int .i64 z.n, .int .u64 z.r, .string z.t, .int .u8 x.k, .int .i64 x.n, .int .u64 x.r, .string x.t] 47)) := KpX.of_below hWc hsW
   refine (put3_any 102 j [z, x] (some ⟨V.heap.size, 0, none⟩) 2 (q14 + 3) q14 q15 q3 2 (some ⟨B0, o0, none⟩) (some ⟨B1, o1, none⟩) l0.length d0 l1.length d1 [⟨lkB 102 j [y, x], ⟨#[]⟩, true⟩, ⟨lkB 114 j [x], TX, false⟩] ⟨#[]⟩ ⟨#[]⟩ false _ (HP5.out.ext hWc) (by simp) (HB3.out.ext hWc) (HB15.out.ext hWc) (vrow_b2 z x HWF.out.2.2 HWF.out.1 kr) (HLX.out _ (bt HWV.out hWc)) HOK.out.2.2).mono ?_
   rintro r w5 ⟨rfl, hp, hk⟩
   have HK5 := hd_ (HK4.out.trans (hKc.trans hk))
   have hp6 : PsB w5 (q14 + 3) q14 [⟨lkB 102 j [y, x], ⟨#[]⟩, true⟩, ⟨lkB 114 j [x], TX, false⟩, ⟨lkB 102 j [z, x], ⟨#[]⟩, false⟩] := hp
   obtain ⟨A, c', e1, e2⟩ := hp6.b
   obtain ⟨l14, c14⟩ : q14 < w5.heap.size ∧ w5.cell? ⟨q14, 0, none⟩ = some (.slice A 3 c') := ⟨e1.lt, e1.cell 0⟩
   have HO := hd_ e2
   clear hp hp6 hk hKc kr hWc hsW e1 e2 l12 x0 x1 x2 x3 l13 z0 z1 z2 z3
   go_wp2_with fail
   refine bodyPost_ret (v := .tuple #[.slice A 3 c', .int .i64 0]) (by simp [results, Tryz.results10, go_sem]) rfl ?_
   exact ⟨A, c', rfl, own_base' HO.out (Nat.le_trans HW14.out (Nat.le_add_right _ _)), (HC.out w5 HK5.out).1⟩
  case c19_1 =>
   intro g yy W1 hiv
   have hW1 : W1 = w3.drew := hiv
   subst hW1
   intro K hK
   rw [if_pos (by rfl)]; simp only [overlay, cond_true, cond_false]
   go_simp
   refine (null_any w3.drew).mono ?_
   rintro e W' ⟨rfl, h1⟩
   exact hK.out _ _ () (⟨h1.os, h1.tape, h1.output, h1.size, h1.block⟩ : Below w3.heap.size w3 W') trivial rfl
  all_goals
   intro q hk1 hk2 g yy W1 hiv
   intro K hK
   first
    | (rw [if_pos (by rfl)]; simp only [overlay, upd, cond_true, cond_false, List.getD_cons_zero, List.getD_cons_succ, Nat.reduceEqDiff, reduceIte]
       go_simp
       exact hK.out _ _ _ hiv rfl rfl)
    | (rw [if_pos (by rfl)]; simp only [overlay, cond_true, cond_false]
       go_simp
       exact hK.out _ _ _ hiv rfl rfl)
    | (have hX : Below w3.heap.size w3 W1 := by
        have hq : q = 0 ∨ 0 < q := by omega
        rcases hq with rfl | hq
        · have h : W1 = w3.drew := hiv
          rw [h]; exact (by repeat (first | exact Below.refl _ _ | assumption | refine Below.drew ?_ | refine below_drewN ?_ _ | refine Below.alloc ?_ (by simp <;> omega) _))
        · match q, hq, hiv with
          | q + 1, _, hiv => exact hiv
       obtain ⟨-, -, -, b11, -, b13, -, -⟩ := HC.out W1 (HK3.out.trans (KpX.of_below hX HS3.out))
       obtain ⟨l11, y0, y1, y2, y3, _⟩ := blk4f b11
       obtain ⟨l13, z0, z1, z2, z3, _⟩ := blk4f b13
       clear b11 b13
       rw [if_pos (by rfl)]; simp only [overlay, upd, cond_true, cond_false, List.getD_cons_zero, List.getD_cons_succ, Nat.reduceEqDiff, reduceIte]
       go_simp
       exact hK.out _ _ _ hiv rfl rfl)
 case c12_1 =>
  intro g yy W1 hiv
  have hW1 : W1 = W5.drew := hiv
  subst hW1
  intro K hK
  rw [if_pos (by rfl)]; simp only [overlay, cond_true, cond_false]
  go_simp
  refine (null_any W5.drew).mono ?_
  rintro e W' ⟨rfl, h1⟩
  exact hK.out _ _ () (⟨h1.os, h1.tape, h1.output, h1.size, h1.block⟩ : Below W5.heap.size W5 W') trivial rfl
 all_goals
  intro q hk1 hk2 g yy W1 hiv
  intro K hK
  first
   | (rw [if_pos (by rfl)]; simp only [overlay, upd, cond_true, cond_false, List.getD_cons_zero, List.getD_cons_succ, Nat.reduceEqDiff, reduceIte]
      go_simp
      exact hK.out _ _ _ hiv rfl rfl)
   | (rw [if_pos (by rfl)]; simp only [overlay, cond_true, cond_false]
      go_simp
      exact hK.out _ _ _ hiv rfl rfl)
   | (have hX : Below W5.heap.size W5 W1 := by
       have hq : q = 0 ∨ 0 < q := by omega
       rcases hq with rfl | hq
       · have h : W1 = W5.drew := hiv
         rw [h]; exact (by repeat (first | exact Below.refl _ _ | assumption | refine Below.drew ?_ | refine below_drewN ?_ _ | refine Below.alloc ?_ (by simp <;> omega) _))
       · match q, hq, hiv with
         | q + 1, _, hiv => exact hiv
      obtain ⟨-, -, -, b11, -, b13, -, -⟩ := HC.out W1 (KpX.of_below hX (by rw [HS5.out]; exact Nat.le_refl _))
      obtain ⟨l11, y0, y1, y2, y3, _⟩ := blk4f b11
      obtain ⟨l13, z0, z1, z2, z3, _⟩ := blk4f b13
      clear b11 b13
      rw [if_pos (by rfl)]; simp only [overlay, upd, cond_true, cond_false, List.getD_cons_zero, List.getD_cons_succ, Nat.reduceEqDiff, reduceIte]
      go_simp
      exact hK.out _ _ _ hiv rfl rfl)
end Go.Proofs.YtceoficoappkpaaGreatDoor
