/- Texts joined by a tool: contracts and walks of this claim. -/
import Derived.Test.YtceoficoappkpaaGreatDoorF7
import Derived.Test.YtceoficoappkpaaGreatDoorF8
namespace Go.Proofs.YtceoficoappkpaaGreatDoor
open Go.RowKit Go.Shelf
attribute [local go_sem] Oper.semAt_some

set_option maxRecDepth 100000 in
set_option maxHeartbeats 3200000 in
theorem kids_form (B v kk km m : Nat) (t : Tr) (ts : List Ta) (tb0 off : Nat) (c : Nat) (j : Nat) (ta : Ta) (re : Nat) (r k : V) (p : Pr) (n : Nat) (FR : ByteArray) (hFR : FR = lkB 102 j [r]) (w : World) (h : VwR w B v kk m t) (hkv : KvR w kk km) (ht : TRow w (some ⟨tb0, off, none⟩) c ts) (hL : LayX w) (hs : schB ts = true)
  (hj : ts[j]? = some ta) (hre : ta.ref = re) (hrw : r.wf) (hrm : mayB r = true) (hrk : r.k ≠ 0) (hlk : lkOk j [r] = true) (hlen : (t.fromL FR).length ≤ 1000000000)
  (hn : n < FR.size) (h0 : ((FR[n].toNat : Int) == 255) = false) (h1 : ∀ i (hi : i < FR.size), n < i → ((FR[i].toNat : Int) == 255) = true)
  (hsc : ∀ tt : ByteArray, tt.data.toList = FR.data.toList.take n ++ [FR[n] + 1] → liveL (scanL tt 1073741824 (t.fromL FR)) = [p]) (hpk : p.k = lkB 102 j [r, k]) (hkw : k.wf) (hkm : mayB k = true) (hok : keyOk [r, k] = true) (hRow : ∀ W : World, Below w.heap.size w W → Calls Tryz.prog 19 #[.pointer (some ⟨v, 0, none⟩), .agg #[.slice (some ⟨tb0, off, none⟩) ts.length c], .int .i64 j, .agg #[.int .u8 k.k, .int .i64 k.n, .int .u64 k.r, .string k.t]] W fun e w' => e = .returned (.tuple #[.slice none 0 0, .bool false, .int .i64 0]) ∧ Below W.heap.size W w') :
  Calls Tryz.prog 20 #[.pointer (some ⟨v, 0, none⟩), .agg #[.slice (some ⟨tb0, off, none⟩) ts.length c], .int .i64 j, .agg #[.int .u8 r.k, .int .i64 r.n, .int .u64 r.r, .string r.t]] w fun e w' => e = .returned (.tuple #[.slice none 0 0, .int .i64 7]) ∧ Below w.heap.size w w' := by
 have HC := hd_ (fun (W : World) (hW : Below w.heap.size w W) => check13_any ts (some ⟨tb0, off, none⟩) c W (ht.ext hW))
 have HV := hd_ (fun (W : World) (hW : Below w.heap.size w W) => check_any r hrw W (hL.ext hW).1)
 have HKY := hd_ (fun (W : World) (hW : Below w.heap.size w W) (A : Nat) (hv : VRow W (some ⟨A, 0, none⟩) [r]) => lkey_any 102 j [r] (some ⟨A, 0, none⟩) 1 W hv (hL.ext hW))
 have HSZ : Hid (FR.size ≤ 1000000000) := by
  have h1 := keyLs_length (l := [r]) (by unfold lkOk at hlk; simp at hlk; exact hlk.2)
  show FR.size ≤ _
  rw [hFR]
  unfold lkB lkL
  simp only [ByteArray.size, List.size_toArray, List.length_append, List.length_cons, List.length_nil]
  omega
 have HRW := hd_ hRow
 have HTR : Hid ((⟨(Lib.trimPrefix p.k.data.toList (FR.extract 0 2).data.toList).toArray⟩ : ByteArray) = bsO (keyLs [r, k])) := by
  have e1 : (FR.extract 0 2).data.toList = [UInt8.ofNat 102, UInt8.ofNat j] := by rw [hFR]; simp [lkB, lkL, ByteArray.data_extract]
  have e2 : p.k.data.toList = UInt8.ofNat 102 :: UInt8.ofNat j :: keyLs [r, k] := by rw [hpk]; simp [lkB, lkL]
  show _ = _
  rw [e1, e2]
  simp [Lib.trimPrefix, Lib.hasPrefix, bsO]
 have hFS : 2 ≤ FR.size := by
  rw [hFR]
  unfold lkB lkL
  simp only [ByteArray.size, List.size_toArray, List.length_append, List.length_cons, List.length_nil]
  omega
 have HFS := hd_ hFS
 have HKG := hd_ (fun (W : World) (hW : Below w.heap.size w W) => keyget_any [r, k] (by intro x hx; simp at hx; rcases hx with rfl | rfl; exact hrw; exact hkw) (by intro x hx; simp at hx; rcases hx with rfl | rfl; exact hrm; exact hkm) (by simp) hok W (hL.ext hW))
 have HAF := hd_ (fun (W : World) => after_any FR n W HSZ.out hn h0 h1)
 have HSC := hd_ hsc
 have HSN := hd_ (fun (W : World) (tt : ByteArray) (hW : Below w.heap.size w W) => vscan_any B v kk km m t FR tt W (h.ext hW) (hkv.ext hW) hlen)
 have HT := hd_ (fun (W : World) (hW : Below w.heap.size w W) => ht.ext hW)
 have HJ := hd_ (And.intro hj hre)
 have HRK := hd_ (And.intro hrk hrw)
 have hjl : j < ts.length := (List.getElem?_eq_some_iff.1 hj).1
 have hts := ht.2.1
 rw [hs] at HC
 rw [hrm] at HV
 rw [hlk] at HKY
 unfold V.agg okE at HV
 unfold okE at HC HKY
 simp only [if_true] at HC HV HKY
 rw [← hFR] at HKY
 clear h hkv ht hL hs hj hre hrw hrm hrk hlk hlen hFR hpk hkw hkm hok hFS hRow
 go_enter Tryz.func20, Tryz.ntmps20
 go_upto_region 3 with fail
 have k5 : Blk ((w.alloc (.cells #[.slice (some ⟨tb0, off, none⟩) ts.length c] 24)).alloc (.cells #[.int .u8 r.k, .int .i64 r.n, .int .u64 r.r, .string r.t] 47)) w.heap.size #[.slice (some ⟨tb0, off, none⟩) ts.length c] 24 := (by repeat (first | exact Blk.at (by simp) | assumption | refine Blk.drew ?_ | refine Blk.old ?_ _))
 have k7 : Blk ((w.alloc (.cells #[.slice (some ⟨tb0, off, none⟩) ts.length c] 24)).alloc (.cells #[.int .u8 r.k, .int .i64 r.n, .int .u64 r.r, .string r.t] 47)) (w.heap.size + 1) #[.int .u8 r.k, .int .i64 r.n, .int .u64 r.r, .string r.t] 47 := (by repeat (first | exact Blk.at (by simp) | assumption | refine Blk.drew ?_ | refine Blk.old ?_ _))
 have hb : Below w.heap.size w ((w.alloc (.cells #[.slice (some ⟨tb0, off, none⟩) ts.length c] 24)).alloc (.cells #[.int .u8 r.k, .int .i64 r.n, .int .u64 r.r, .string r.t] 47)) := (by repeat (first | exact Below.refl _ _ | assumption | refine Below.drew ?_ | refine below_drewN ?_ _ | refine Below.alloc ?_ (by simp <;> omega) _))
 generalize ((w.alloc (.cells #[.slice (some ⟨tb0, off, none⟩) ts.length c] 24)).alloc (.cells #[.int .u8 r.k, .int .i64 r.n, .int .u64 r.r, .string r.t] 47)) = W2 at k5 k7 hb ⊢
 generalize w.heap.size + 1 = b7 at k7 ⊢
 obtain ⟨b5, hb5⟩ : ∃ b, b = w.heap.size := ⟨_, rfl⟩
 rw [← hb5] at k5 ⊢
 clear hb5
 have H5 := hd_ k5
 have H7 := hd_ k7
 have HB := hd_ hb
 clear k5 k7 hb
 have hq1 := eqlv_null r.k r.n r.r r.t HRK.out.1
 have hjI : (j : Int) < ts.length := by omega
 have hj0 : ¬ ((j : Int) < 0) := by omega
 have hjg : ¬ ((ts.length : Int) ≤ j) := by omega
 have hr0 : ¬ ((re : Int) < 0) := by omega
 let Iv : Nat → Unit → World → Prop := fun k _ W => match k with
  | 0 => W = W2.drew
  | _ => Below W2.heap.size W2 W
 refine region_phase (Iv) (fun _ _ _ => True) (()) (fun _ => [.agg #[.slice (some ⟨tb0, off, none⟩) ts.length c], .int .i64 0, .bool false, .bool false, .int .i64 j, .bool false, .bool false, .bool false, .int .i64 j, .pointer (some ⟨b5, 0, none⟩), .slice (some ⟨tb0, off, none⟩) ts.length c, .int .i64 ts.length, .bool false, .bool false, .bool false, .pointer (some ⟨b5, 0, none⟩), .slice (some ⟨tb0, off, none⟩) ts.length c, .int .i64 j, .pointer (some ⟨tb0, off + j * 5, none⟩), .pointer (some ⟨tb0, off + j * 5 + 3, none⟩), .int .i64 re, .bool false, .bool false, .bool false, .agg #[.int .u8 r.k, .int .i64 r.n, .int .u64 r.r, .string r.t], .int .i64 0, .bool false, .bool false, .bool false, .agg #[.int .u8 r.k, .int .i64 r.n, .int .u64 r.r, .string r.t], .agg #[.int .u8 0, .int .i64 0, .int .u64 0, .string ⟨#[]⟩], .bool false, .bool false]) [1, 25, 30] [(0, 0), (0, 3), (1, 1), (1, 1), (1, 1), (1, 1), (1, 1), (1, 1), (1, 1), (1, 1), (1, 1), (1, 1), (1, 1), (1, 1), (1, 1), (1, 1), (1, 1), (1, 1), (1, 1), (1, 1), (1, 1), (1, 1), (1, 1), (1, 1), (1, 1), (0, 3), (2, 2), (2, 2), (2, 2), (2, 3), (0, 3), (3, 3), (3, 3)] [false, false, false, false, false, false, false, false, false, false, false, false, false, false, false, false, false, false, false, false, false, false, false, true, true, true, true, true, true, true, true, true, true, true, true, true, true, true, true, true, true, true, true, true, true, true, true, true, true, true, true, true, true, true, true, true, false, false, false, false, false, false, false, false, false, false, false, false, false, false, false, false, false, false, false, false, false, false, false, false, false, false, false, false, false, false, false, false, false, false, false, false, false, false, false, false, false, false, false, false, false, false, false, false, false, false, false, false, false, false, false, false, false, false, false, false, false, false, false, false, false, false, false, false, false, false, false, false, false, false, false] [23, 24, 25, 26, 27, 28, 29, 30, 31, 32, 33, 34, 35, 36, 37, 38, 39, 40, 41, 42, 43, 44, 45, 46, 47, 48, 49, 50, 51, 52, 53, 54, 55] [32] rfl (fun _ => rfl) (fun _ _ _ _ _ _ _ _ _ => rfl) (by kernel_rfl) (by kernel_rfl) (by kernel_rfl) (by decide) (by kernel_rfl) (by kernel_rfl) (by kernel_rfl) (by kernel_rfl) (by kernel_rfl) ⟨PhStep.pure rfl ?_, PhStep.chain 0 rfl ?c3_1, PhStep.pure rfl ?_, PhStep.pure rfl ?_, PhStep.pure rfl ?_, PhStep.pure rfl ?_, PhStep.pure rfl ?_, PhStep.pure rfl ?_, PhStep.pure rfl ?_, PhStep.pure rfl ?_, PhStep.pure rfl ?_, PhStep.pure rfl ?_, PhStep.pure rfl ?_, PhStep.pure rfl ?_, PhStep.pure rfl ?_, PhStep.pure rfl ?_, PhStep.pure rfl ?_, PhStep.pure rfl ?_, PhStep.pure rfl ?_, PhStep.pure rfl ?_, PhStep.pure rfl ?_, PhStep.pure rfl ?_, PhStep.pure rfl ?_, PhStep.pure rfl ?_, PhStep.pure rfl ?_, PhStep.chain 1 rfl ?c3_25, PhStep.pure rfl ?_, PhStep.pure rfl ?_, PhStep.pure rfl ?_, PhStep.pure rfl ?_, PhStep.chain 2 rfl ?c3_30, PhStep.pure rfl ?_, PhStep.pure rfl ?_, trivial⟩ ?done3
 case done3 =>
  intro g yy W hiv
  have hW : Below W2.heap.size W2 W := hiv
  simp only [StepGoal, List.map_cons, List.map_nil, overlay, upd, cond_true, cond_false, List.getD_cons_zero, List.getD_cons_succ, Nat.zero_add, Nat.reduceAdd, Nat.reduceEqDiff, reduceIte]
  clear hiv Iv hq1 hjI hj0 hjg hr0
  have HB1 := hd_ (bt HB.out hW)
  obtain ⟨l7, e70, e71, e72, e73, _⟩ := blk4f (H7.out.ext hW)
  have H71 := hd_ (H7.out.ext hW)
  have H51 := hd_ (H5.out.ext hW)
  clear hW H7 H5
  go_wp2_with fail
  have kr : Blk (W.alloc (.cells #[.int .u8 r.k, .int .i64 r.n, .int .u64 r.r, .string r.t] 47)) W.heap.size #[.int .u8 r.k, .int .i64 r.n, .int .u64 r.r, .string r.t] 47 := Blk.new _ _ _
  have hWc : Below W.heap.size W (W.alloc (.cells #[.int .u8 r.k, .int .i64 r.n, .int .u64 r.r, .string r.t] 47)) := bel1 _ _
  refine (HKY.out _ (bt HB1.out hWc) W.heap.size (vrow_b1 r HRK.out.2 kr)).mono ?_
  rintro e w1 ⟨rfl, hb⟩
  have hX : Below W.heap.size W w1 := bt hWc hb
  clear hb hWc kr l7 e70 e71 e72 e73
  go_wp2_with fail
  refine (HAF.out w1).mono ?_
  rintro e w2 ⟨⟨tt, rfl, htt⟩, hb⟩
  have hX2 : Below W.heap.size W w2 := bt hX hb
  have hZ := HSC.out tt htt
  clear htt hb hX
  go_wp2_with fail
  have hSN := HSN.out w2 tt (bt HB1.out hX2)
  rw [hZ] at hSN
  refine hSN.mono ?_
  rintro e w3 ⟨A, cA, rfl, hown, hb⟩
  have HO := hd_ hown
  have HB3 := hd_ (bt HB1.out (bt hX2 hb))
  have H53 := hd_ (H51.out.ext (bt hX2 hb))
  have H73 := hd_ (H71.out.ext (bt hX2 hb))
  have HS3 : Hid (w.heap.size ≤ w2.heap.size) := Nat.le_trans HB1.out.size hX2.size
  clear hb hX2 hZ hSN hown H51 H71
  obtain ⟨g0, c3, hg0, _⟩ := HO.out.form (by simp)
  simp only [Value.slice.injEq] at hg0
  obtain ⟨rfl, -, rfl⟩ := hg0
  have p0 : w3.cell? ⟨g0, 0, none⟩ = some (.string p.k) := (HO.out.cellAt 0 (by simp)).trans rfl
  have p1 : w3.cell? ⟨g0, 1, none⟩ = some (.string p.v) := (HO.out.cellAt 1 (by simp)).trans rfl
  have p2 : w3.cell? ⟨g0, 2, none⟩ = some (.bool p.g) := (HO.out.cellAt 2 (by simp)).trans rfl
  have lg : g0 < w3.heap.size := (HO.out.lt g0 rfl).2
  go_wp2_with fail
  refine wp_loop_rounds 2 ?_
  rw [rounds_succ]
  go_upto_region 13 with fail
  have k16 : Blk (w3.alloc (.cells #[.string p.k, .string p.v, .bool p.g] 45)) w3.heap.size #[.string p.k, .string p.v, .bool p.g] 45 := Blk.new _ _ _
  have hb4 : Below w3.heap.size w3 (w3.alloc (.cells #[.string p.k, .string p.v, .bool p.g] 45)) := bel1 _ _
  generalize (w3.alloc (.cells #[.string p.k, .string p.v, .bool p.g] 45)) = w4 at k16 hb4 ⊢
  generalize w3.heap.size = b16 at k16 ⊢
  obtain ⟨FP, hFP⟩ : ∃ q, q = FR.extract 0 2 := ⟨_, rfl⟩
  have HTQ : Hid ((⟨(Lib.trimPrefix p.k.data.toList FP.data.toList).toArray⟩ : ByteArray) = bsO (keyLs [r, k])) := by
   show _ = _
   rw [hFP]; exact HTR.out
  have hsl : ∀ W : World, (Instr.slice 9 (.string FR) none (some (.int .i64 2)) none).run Tryz.prog W = .ok (.string FP) W := fun W => by
   have hz := HFS.out
   rw [run_slice_string_to_if _ _ _ _ _ rfl, if_pos ⟨by decide, by omega⟩, hFP]
   rfl
  have HB4 := hd_ (bt HB3.out hb4)
  have H16 := hd_ k16
  have H54 := hd_ (H53.out.ext hb4)
  have H74 := hd_ (H73.out.ext hb4)
  clear hFP k16 hb4 p0 p1 p2 lg H53 H73 HO
  let Iv : Nat → Option Addr × Nat → World → Prop := fun k' g W => match k' with
   | 0 => W = w4.drew
   | 1 => W = w4.drew
   | _ => Below w4.heap.size w4 W ∧ W.ownsRow w4.heap.size 47 4 (.slice g.1 2 g.2) 2 (rowCells [r, k])
  refine region_phase (Iv) (fun k a b => k = 1 ∨ b = a) ((none, 0)) (fun g => [.pointer (some ⟨b16, 0, none⟩), .string p.k, .string FR, .string FP, .string (bsO (keyLs [r, k])), .tuple #[.slice g.1 2 g.2, .int .i64 0], .tuple #[.slice g.1 2 g.2, .int .i64 0], .slice g.1 2 g.2, .int .i64 0, .slice g.1 2 g.2, .int .i64 0]) [4, 5] [(0, 0), (0, 0), (0, 0), (0, 0), (0, 2), (0, 2), (2, 2), (2, 2), (2, 2), (2, 2), (2, 2)] [false, false, false, false, false, false, false, false, false, false, false, false, false, false, false, false, false, true, true, false, false, false, false, false, false, false, false, false, false, false, false, false, false, false, false, false, false, false, false, false, false, false, false, false, false, false, false, false, false, false, false, false, false, false, false, false, false, false, false, false, false, false, false, false, false, false, false, false, false, false, false, false, false, false, false, false, false, false, false, false, false, false, false, false, true, true, true, true, true, true, true, true, true, false, false, false, false, false, false, false, false, false, false, false, false, false, false, false, false, false, false, false, false, false, false, false, false, false, false, false, false, false, false, false, false, false, false, false, false, false, false] [85, 86, 87, 88, 89, 90, 84, 91, 92, 17, 18] [9, 10] rfl (fun _ => rfl) (fun k ga gb hr j c hc hne hcl => hr.elim (fun hk => by subst hk; obtain rfl : 5 = c := (by simpa using hc); exact (match j, hne, hcl with | 0, _, _ => rfl | 1, _, _ => rfl | 2, _, _ => rfl | 3, _, _ => rfl | 4, _, _ => rfl | 5, hne, _ => absurd rfl hne | 6, _, hcl => absurd (hcl.symm.trans (by kernel_rfl)) Bool.false_ne_true | 7, _, hcl => absurd (hcl.symm.trans (by kernel_rfl)) Bool.false_ne_true | 8, _, hcl => absurd (hcl.symm.trans (by kernel_rfl)) Bool.false_ne_true | 9, _, hcl => absurd (hcl.symm.trans (by kernel_rfl)) Bool.false_ne_true | 10, _, hcl => absurd (hcl.symm.trans (by kernel_rfl)) Bool.false_ne_true | j + 11, _, _ => rfl)) (fun h => by rw [h])) (by kernel_rfl) (by kernel_rfl) (by kernel_rfl) (by decide) (by kernel_rfl) (by kernel_rfl) (by kernel_rfl) (by kernel_rfl) (by kernel_rfl) ⟨PhStep.pure rfl ?_, PhStep.pure rfl ?_, PhStep.pure rfl ?_, PhStep.pure rfl ?_, PhStep.chain 0 rfl ?c13_4, PhStep.chain 1 rfl ?c13_5, PhStep.pure rfl ?_, PhStep.pure rfl ?_, PhStep.pure rfl ?_, PhStep.pure rfl ?_, PhStep.pure rfl ?_, trivial⟩ ?done13
  case done13 =>
   intro g y5 W5 hiv
   have hW : Below w4.heap.size w4 W5 ∧ W5.ownsRow w4.heap.size 47 4 (.slice g.1 2 g.2) 2 (rowCells [r, k]) := hiv
   simp only [StepGoal, List.map_cons, List.map_nil, overlay, upd, cond_true, cond_false, List.getD_cons_zero, List.getD_cons_succ, Nat.zero_add, Nat.reduceAdd, Nat.reduceEqDiff, reduceIte]
   clear hiv Iv hsl
   obtain ⟨gA, gc⟩ := g
   obtain ⟨hb5, hown⟩ := hW
   simp only at hown
   obtain ⟨br, c5, he, _⟩ := hown.form (by decide)
   simp only [Value.slice.injEq] at he
   obtain ⟨rfl, -, rfl⟩ := he
   have HB5 := hd_ (bt HB4.out hb5)
   have H55 := hd_ (H54.out.ext hb5)
   have HO := hd_ hown
   clear hb5 hown H54 H74 H16
   go_upto_region 16 with fail
   let Iv : Nat → Unit → World → Prop := fun k' _ W => match k' with
    | 0 => W = W5.drew
    | _ => Below W5.heap.size W5 W
   refine region_phase (Iv) (fun _ _ _ => True) (()) (fun _ => [.pointer (some ⟨v, 0, none⟩), .agg #[.slice (some ⟨tb0, off, none⟩) ts.length c], .int .i64 j, .slice (some ⟨br, 0, none⟩) 2 gc, .pointer (some ⟨br, 4, none⟩), .agg #[.int .u8 k.k, .int .i64 k.n, .int .u64 k.r, .string k.t], .tuple #[.slice none 0 0, .bool false, .int .i64 0], .tuple #[.slice none 0 0, .bool false, .int .i64 0], .slice none 0 0, .bool false, .int .i64 0, .slice none 0 0, .bool false, .int .i64 0]) [6] [(0, 0), (0, 0), (0, 0), (0, 0), (0, 0), (0, 0), (0, 1), (1, 1), (1, 1), (1, 1), (1, 1), (1, 1), (1, 1), (1, 1)] [false, false, false, false, false, false, false, false, false, false, false, false, false, false, false, false, false, false, true, true, true, false, false, false, false, false, false, false, false, false, false, false, false, false, false, false, false, false, false, false, false, false, false, false, false, false, false, false, false, false, false, false, false, false, false, false, false, false, false, false, false, false, false, false, false, false, false, false, false, false, false, false, false, false, false, false, false, false, false, false, false, false, false, false, false, false, false, false, false, false, false, false, false, false, false, false, false, false, false, false, true, true, true, true, true, true, true, true, true, true, true, false, false, false, false, false, false, false, false, false, false, false, false, false, false, false, false, false, false, false, false] [101, 102, 103, 104, 105, 106, 107, 100, 108, 109, 110, 19, 20, 18] [11, 12, 13] rfl (fun _ => rfl) (fun _ _ _ _ _ _ _ _ _ => rfl) (by kernel_rfl) (by kernel_rfl) (by kernel_rfl) (by decide) (by kernel_rfl) (by kernel_rfl) (by kernel_rfl) (by kernel_rfl) (by kernel_rfl) ⟨PhStep.pure rfl ?_, PhStep.pure rfl ?_, PhStep.pure rfl ?_, PhStep.pure rfl ?_, PhStep.pure rfl ?_, PhStep.pure rfl ?_, PhStep.chain 0 rfl ?c16_6, PhStep.pure rfl ?_, PhStep.pure rfl ?_, PhStep.pure rfl ?_, PhStep.pure rfl ?_, PhStep.pure rfl ?_, PhStep.pure rfl ?_, PhStep.pure rfl ?_, trivial⟩ ?done16
   case done16 =>
    intro g y6 W6 hiv
    have hW : Below W5.heap.size W5 W6 := hiv
    simp only [StepGoal, List.map_cons, List.map_nil, overlay, upd, cond_true, cond_false, List.getD_cons_zero, List.getD_cons_succ, Nat.zero_add, Nat.reduceAdd, Nat.reduceEqDiff, reduceIte]
    clear hiv Iv
    have HB6 := hd_ (bt HB5.out hW)
    clear hW HO H55
    go_wp2_with fail
    refine bodyPost_ret (v := .tuple #[.slice none 0 0, .int .i64 7]) (by simp [results, Tryz.results20, go_sem]) rfl ?_
    exact ⟨rfl, HB6.out⟩
   case c16_6 =>
    intro g y6 W1 hiv
    have hW1 : W1 = W5.drew := hiv
    subst hW1
    intro K hK
    rw [if_pos (by rfl)]; simp only [overlay, upd, cond_true, cond_false, List.getD_cons_zero, List.getD_cons_succ, Nat.reduceEqDiff, reduceIte]
    go_simp
    refine (HRW.out W5.drew (HB5.out.drew)).mono ?_
    rintro e W' ⟨rfl, h1⟩
    exact hK.out _ _ () (⟨h1.os, h1.tape, h1.output, h1.size, h1.block⟩ : Below W5.heap.size W5 W') trivial rfl
   all_goals
    intro q hk1 hk2 g y6 W1 hiv
    intro K hK
    first
     | (rw [if_pos (by rfl)]; simp only [overlay, upd, cond_true, cond_false, List.getD_cons_zero, List.getD_cons_succ, Nat.reduceEqDiff, reduceIte]
        go_simp
        exact hK.out _ _ _ hiv rfl rfl)
     | (rw [if_pos (by rfl)]; simp only [overlay, cond_true, cond_false]
        go_simp
        exact hK.out _ _ _ hiv rfl rfl)
     | (have hX : Below W5.heap.size W5 W1 := by
         have hq : q = 0 ∨ 0 < q := by omega
         rcases hq with rfl | hq
         · have h : W1 = W5.drew := hiv
           rw [h]; exact (by repeat (first | exact Below.refl _ _ | assumption | refine Below.drew ?_ | refine below_drewN ?_ _ | refine Below.alloc ?_ (by simp <;> omega) _))
         · match q, hq, hiv with
           | q + 1, _, hiv => exact hiv
        obtain ⟨l5, e5⟩ : b5 < W1.heap.size ∧ W1.cell? ⟨b5, 0, none⟩ = some (.slice (some ⟨tb0, off, none⟩) ts.length c) := ⟨(H55.out.ext hX).lt, (H55.out.ext hX).cell 0⟩
        have hov := own_below HO.out hX
        have x0 : W1.cell? ⟨br, 4, none⟩ = some (.int .u8 k.k) := (hov.cellAt 4 (by decide)).trans rfl
        have x1 : W1.cell? ⟨br, 5, none⟩ = some (.int .i64 k.n) := (hov.cellAt 5 (by decide)).trans rfl
        have x2 : W1.cell? ⟨br, 6, none⟩ = some (.int .u64 k.r) := (hov.cellAt 6 (by decide)).trans rfl
        have x3 : W1.cell? ⟨br, 7, none⟩ = some (.string k.t) := (hov.cellAt 7 (by decide)).trans rfl
        have lbr : br < W1.heap.size := (hov.lt br rfl).2
        clear hov
        rw [if_pos (by rfl)]; simp only [overlay, upd, cond_true, cond_false, List.getD_cons_zero, List.getD_cons_succ, Nat.reduceEqDiff, reduceIte]
        go_simp
        exact hK.out _ _ _ hiv rfl rfl)
  case c13_4 =>
   intro g y5 W1 hiv
   have hW1 : W1 = w4.drew := hiv
   subst hW1
   intro K hK
   rw [if_pos (by rfl)]; simp only [overlay, upd, cond_true, cond_false, List.getD_cons_zero, List.getD_cons_succ, Nat.reduceEqDiff, reduceIte]
   go_simp
   refine (Tryz.strings_TrimPrefix p.k FP w4.drew).mono ?_
   rintro e W' ⟨rfl, rfl⟩
   rw [HTQ.out]
   exact hK.out _ _ g rfl (Or.inr rfl) rfl
  case c13_5 =>
   intro g y5 W1 hiv
   have hW1 : W1 = w4.drew := hiv
   subst hW1
   intro K hK
   rw [if_pos (by rfl)]; simp only [overlay, upd, cond_true, cond_false, List.getD_cons_zero, List.getD_cons_succ, Nat.reduceEqDiff, reduceIte]
   go_simp
   refine (HKG.out w4.drew (HB4.out.drew)).mono ?_
   rintro e W' ⟨⟨A', c', rfl, ho⟩, h1⟩
   exact hK.out _ _ (A', c') ⟨(⟨h1.os, h1.tape, h1.output, h1.size, h1.block⟩ : Below w4.heap.size w4 W'), ho⟩ (Or.inl rfl) rfl
  all_goals
   intro q hk1 hk2 g y5 W1 hiv
   intro K hK
   first
    | (rw [if_pos (by rfl)]; simp only [overlay, upd, cond_true, cond_false, List.getD_cons_zero, List.getD_cons_succ, Nat.reduceEqDiff, reduceIte]
       go_simp
       exact hK.out _ _ _ hiv rfl rfl)
    | (rw [if_pos (by rfl)]; simp only [overlay, cond_true, cond_false]
       go_simp
       exact hK.out _ _ _ hiv rfl rfl)
    | (have hX : W1 = w4.drew := by
        obtain rfl : q = 0 := Nat.le_zero.1 hk2
        exact hiv
       obtain ⟨l16, p0, p1, p2⟩ := blk3 (H16.out.ext (show Below w4.heap.size w4 w4.drew from (by repeat (first | exact Below.refl _ _ | assumption | refine Below.drew ?_ | refine below_drewN ?_ _ | refine Below.alloc ?_ (by simp <;> omega) _))))
       rw [hX] at hiv ⊢
       rw [if_pos (by rfl)]; simp only [overlay, upd, cond_true, cond_false, List.getD_cons_zero, Nat.reduceEqDiff, reduceIte]
       go_simp
       exact hK.out _ _ _ hiv rfl rfl)
 case c3_1 =>
  intro g yy W1 hiv
  have hW1 : W1 = W2.drew := hiv
  subst hW1
  intro K hK
  rw [if_pos (by rfl)]; simp only [overlay, upd, cond_true, cond_false, List.getD_cons_zero, Nat.reduceEqDiff, reduceIte]
  go_simp
  refine (HC.out _ (HB.out.drew)).mono ?_
  rintro e W' ⟨rfl, h1⟩
  exact hK.out _ _ () (⟨h1.os, h1.tape, h1.output, h1.size, h1.block⟩ : Below W2.heap.size W2 W') trivial rfl
 case c3_25 =>
  intro g yy W1 hiv
  have hX : Below W2.heap.size W2 W1 := hiv
  intro K hK
  rw [if_pos (by rfl)]; simp only [overlay, upd, cond_true, cond_false, List.getD_cons_zero, List.getD_cons_succ, Nat.reduceEqDiff, reduceIte]
  go_simp
  refine (HV.out _ (bt HB.out hX)).mono ?_
  rintro e W' ⟨rfl, h1⟩
  exact hK.out _ _ () (bt hX h1) trivial rfl
 case c3_30 =>
  intro g yy W1 hiv
  have hX : Below W2.heap.size W2 W1 := hiv
  intro K hK
  rw [if_pos (by rfl)]; simp only [overlay, cond_true, cond_false]
  go_simp
  refine (null_any _).mono ?_
  rintro e W' ⟨rfl, h1⟩
  exact hK.out _ _ () (bt hX h1) trivial rfl
 all_goals
  intro q hk1 hk2 g yy W1 hiv
  intro K hK
  first
   | (rw [if_pos (by rfl)]; simp only [overlay, upd, cond_true, cond_false, List.getD_cons_zero, List.getD_cons_succ, Nat.reduceEqDiff, reduceIte]
      go_simp
      exact hK.out _ _ _ hiv rfl rfl)
   | (rw [if_pos (by rfl)]; simp only [overlay, cond_true, cond_false]
      go_simp
      exact hK.out _ _ _ hiv rfl rfl)
   | (have hX : Below W2.heap.size W2 W1 := by
       have hq : q = 0 ∨ 0 < q := by omega
       rcases hq with rfl | hq
       · have h : W1 = W2.drew := hiv
         rw [h]; exact (by repeat (first | exact Below.refl _ _ | assumption | refine Below.drew ?_ | refine below_drewN ?_ _ | refine Below.alloc ?_ (by simp <;> omega) _))
       · match q, hq, hiv with
         | 1, _, hiv => exact hiv
         | q + 2, _, hiv => exact hiv
      obtain ⟨l5, e5⟩ : b5 < W1.heap.size ∧ W1.cell? ⟨b5, 0, none⟩ = some (.slice (some ⟨tb0, off, none⟩) ts.length c) := ⟨(H5.out.ext hX).lt, (H5.out.ext hX).cell 0⟩
      obtain ⟨l7, e70, e71, e72, e73, _⟩ := blk4f (H7.out.ext hX)
      obtain ⟨tb1, off1, htb, hlt, hcs⟩ := (HT.out W1 (bt HB.out hX)).2.2.2 (by intro e; rw [e] at hjl; simp at hjl)
      simp only [Option.some.injEq, Addr.mk.injEq, and_true] at htb
      obtain ⟨rfl, rfl⟩ := htb
      obtain ⟨t0, t1, t2, t3, t4⟩ := hcs j ta HJ.out.1
      rw [HJ.out.2] at t3
      clear hcs
      rw [if_pos (by rfl)]; simp only [overlay, upd, cond_true, cond_false, List.getD_cons_zero, List.getD_cons_succ, Nat.reduceEqDiff, reduceIte]
      go_simp
      exact hK.out _ _ _ hiv rfl rfl)
set_option maxRecDepth 100000 in
set_option maxHeartbeats 3200000 in
theorem kids_noref (v : Nat) (ts : List Ta) (tb0 off : Nat) (c : Nat) (j : Nat) (ta : Ta) (r : V) (w : World) (ht : TRow w (some ⟨tb0, off, none⟩) c ts) (hs : schB ts = true) (hj : ts[j]? = some ta) (hre : ta.ref < 0) :
  Calls Tryz.prog 20 #[.pointer (some ⟨v, 0, none⟩), .agg #[.slice (some ⟨tb0, off, none⟩) ts.length c], .int .i64 j, .agg #[.int .u8 r.k, .int .i64 r.n, .int .u64 r.r, .string r.t]] w fun e w' => e = .returned (.tuple #[.slice none 0 0, .int .i64 2]) ∧ Below w.heap.size w w' := by
 have HC := hd_ (fun (W : World) (hW : Below w.heap.size w W) => check13_any ts (some ⟨tb0, off, none⟩) c W (ht.ext hW))
 have HT := hd_ (fun (W : World) (hW : Below w.heap.size w W) => ht.ext hW)
 have hjl : j < ts.length := (List.getElem?_eq_some_iff.1 hj).1
 have hts := ht.2.1
 have HJ := hd_ (And.intro hj hre)
 rw [hs] at HC
 unfold okE at HC
 simp only [if_true] at HC
 clear ht hs hj
 go_enter Tryz.func20, Tryz.ntmps20
 go_upto_region 3 with fail
 have k5 : Blk ((w.alloc (.cells #[.slice (some ⟨tb0, off, none⟩) ts.length c] 24)).alloc (.cells #[.int .u8 r.k, .int .i64 r.n, .int .u64 r.r, .string r.t] 47)) w.heap.size #[.slice (some ⟨tb0, off, none⟩) ts.length c] 24 := (by repeat (first | exact Blk.at (by simp) | assumption | refine Blk.drew ?_ | refine Blk.old ?_ _))
 have k7 : Blk ((w.alloc (.cells #[.slice (some ⟨tb0, off, none⟩) ts.length c] 24)).alloc (.cells #[.int .u8 r.k, .int .i64 r.n, .int .u64 r.r, .string r.t] 47)) (w.heap.size + 1) #[.int .u8 r.k, .int .i64 r.n, .int .u64 r.r, .string r.t] 47 := (by repeat (first | exact Blk.at (by simp) | assumption | refine Blk.drew ?_ | refine Blk.old ?_ _))
 have hb : Below w.heap.size w ((w.alloc (.cells #[.slice (some ⟨tb0, off, none⟩) ts.length c] 24)).alloc (.cells #[.int .u8 r.k, .int .i64 r.n, .int .u64 r.r, .string r.t] 47)) := (by repeat (first | exact Below.refl _ _ | assumption | refine Below.drew ?_ | refine below_drewN ?_ _ | refine Below.alloc ?_ (by simp <;> omega) _))
 generalize ((w.alloc (.cells #[.slice (some ⟨tb0, off, none⟩) ts.length c] 24)).alloc (.cells #[.int .u8 r.k, .int .i64 r.n, .int .u64 r.r, .string r.t] 47)) = W2 at k5 k7 hb ⊢
 generalize w.heap.size + 1 = b7 at k7 ⊢
 obtain ⟨b5, hb5⟩ : ∃ b, b = w.heap.size := ⟨_, rfl⟩
 rw [← hb5] at k5 ⊢
 clear hb5
 have H5 := hd_ k5
 have H7 := hd_ k7
 have HB := hd_ hb
 clear k5 k7 hb
 have hjI : (j : Int) < ts.length := by omega
 have hj0 : ¬ ((j : Int) < 0) := by omega
 have hjg : ¬ ((ts.length : Int) ≤ j) := by omega
 let Iv : Nat → Unit → World → Prop := fun k _ W => match k with
  | 0 => W = W2.drew
  | _ => Below W2.heap.size W2 W
 refine region_phase (Iv) (fun _ _ _ => True) (()) (fun _ => [.agg #[.slice (some ⟨tb0, off, none⟩) ts.length c], .int .i64 0, .bool false, .bool false, .int .i64 j, .bool false, .bool false, .bool false, .int .i64 j, .pointer (some ⟨b5, 0, none⟩), .slice (some ⟨tb0, off, none⟩) ts.length c, .int .i64 ts.length, .bool false, .bool false, .bool false, .pointer (some ⟨b5, 0, none⟩), .slice (some ⟨tb0, off, none⟩) ts.length c, .int .i64 j, .pointer (some ⟨tb0, off + j * 5, none⟩), .pointer (some ⟨tb0, off + j * 5 + 3, none⟩), .int .i64 ta.ref, .bool true, .bool true, .bool true, undef, undef, undef, .bool true, .bool true, undef, undef, undef, .bool true]) [1, 25, 30] [(0, 0), (0, 3), (1, 1), (1, 1), (1, 1), (1, 1), (1, 1), (1, 1), (1, 1), (1, 1), (1, 1), (1, 1), (1, 1), (1, 1), (1, 1), (1, 1), (1, 1), (1, 1), (1, 1), (1, 1), (1, 1), (1, 1), (1, 1), (1, 1), (1, 1), (0, 3), (2, 2), (2, 2), (2, 2), (2, 3), (0, 3), (3, 3), (3, 3)] [false, false, false, false, false, false, false, false, false, false, false, false, false, false, false, false, false, false, false, false, false, false, false, true, true, true, true, true, true, true, true, true, true, true, true, true, true, true, true, true, true, true, true, true, true, true, true, true, true, true, true, true, true, true, true, true, false, false, false, false, false, false, false, false, false, false, false, false, false, false, false, false, false, false, false, false, false, false, false, false, false, false, false, false, false, false, false, false, false, false, false, false, false, false, false, false, false, false, false, false, false, false, false, false, false, false, false, false, false, false, false, false, false, false, false, false, false, false, false, false, false, false, false, false, false, false, false, false, false, false, false] [23, 24, 25, 26, 27, 28, 29, 30, 31, 32, 33, 34, 35, 36, 37, 38, 39, 40, 41, 42, 43, 44, 45, 46, 47, 48, 49, 50, 51, 52, 53, 54, 55] [32] rfl (fun _ => rfl) (fun _ _ _ _ _ _ _ _ _ => rfl) (by kernel_rfl) (by kernel_rfl) (by kernel_rfl) (by decide) (by kernel_rfl) (by kernel_rfl) (by kernel_rfl) (by kernel_rfl) (by kernel_rfl) ⟨PhStep.pure rfl ?_, PhStep.chain 0 rfl ?c3_1, PhStep.pure rfl ?_, PhStep.pure rfl ?_, PhStep.pure rfl ?_, PhStep.pure rfl ?_, PhStep.pure rfl ?_, PhStep.pure rfl ?_, PhStep.pure rfl ?_, PhStep.pure rfl ?_, PhStep.pure rfl ?_, PhStep.pure rfl ?_, PhStep.pure rfl ?_, PhStep.pure rfl ?_, PhStep.pure rfl ?_, PhStep.pure rfl ?_, PhStep.pure rfl ?_, PhStep.pure rfl ?_, PhStep.pure rfl ?_, PhStep.pure rfl ?_, PhStep.pure rfl ?_, PhStep.pure rfl ?_, PhStep.pure rfl ?_, PhStep.pure rfl ?_, PhStep.pure rfl ?_, PhStep.chain 1 rfl ?c3_25, PhStep.pure rfl ?_, PhStep.pure rfl ?_, PhStep.pure rfl ?_, PhStep.pure rfl ?_, PhStep.chain 2 rfl ?c3_30, PhStep.pure rfl ?_, PhStep.pure rfl ?_, trivial⟩ ?done3
 case done3 =>
  intro g yy W hiv
  have hW : Below W2.heap.size W2 W := hiv
  simp only [StepGoal, List.map_cons, List.map_nil, overlay, upd, cond_true, cond_false, List.getD_cons_zero, List.getD_cons_succ, Nat.zero_add, Nat.reduceAdd, Nat.reduceEqDiff, reduceIte]
  clear hiv Iv
  have HB1 := hd_ (bt HB.out hW)
  clear hW H7 H5
  go_wp2_with fail
  refine bodyPost_ret (v := .tuple #[.slice none 0 0, .int .i64 2]) (by simp [results, Tryz.results20, go_sem]) rfl ?_
  exact ⟨rfl, HB1.out⟩
 case c3_1 =>
  intro g yy W1 hiv
  have hW1 : W1 = W2.drew := hiv
  subst hW1
  intro K hK
  rw [if_pos (by rfl)]; simp only [overlay, upd, cond_true, cond_false, List.getD_cons_zero, Nat.reduceEqDiff, reduceIte]
  go_simp
  refine (HC.out _ (HB.out.drew)).mono ?_
  rintro e W' ⟨rfl, h1⟩
  exact hK.out _ _ () (⟨h1.os, h1.tape, h1.output, h1.size, h1.block⟩ : Below W2.heap.size W2 W') trivial rfl
 case c3_25 =>
  intro g yy W1 hiv
  have hX : Below W2.heap.size W2 W1 := hiv
  intro K hK
  rw [if_neg (by exact Bool.false_ne_true)]
  exact hK.out _ _ () hX trivial rfl
 case c3_30 =>
  intro g yy W1 hiv
  have hX : Below W2.heap.size W2 W1 := hiv
  intro K hK
  rw [if_neg (by exact Bool.false_ne_true)]
  exact hK.out _ _ () hX trivial rfl
 all_goals
  intro q hk1 hk2 g yy W1 hiv
  intro K hK
  first
   | (rw [if_neg (by exact Bool.false_ne_true)]
      exact hK.out _ _ _ hiv rfl rfl)
   | (rw [if_pos (by rfl)]; simp only [overlay, upd, cond_true, cond_false, List.getD_cons_zero, List.getD_cons_succ, Nat.reduceEqDiff, reduceIte]
      go_simp
      exact hK.out _ _ _ hiv rfl rfl)
   | (rw [if_pos (by rfl)]; simp only [overlay, cond_true, cond_false]
      go_simp
      exact hK.out _ _ _ hiv rfl rfl)
   | (have hX : Below W2.heap.size W2 W1 := by
       have hq : q = 0 ∨ 0 < q := by omega
       rcases hq with rfl | hq
       · have h : W1 = W2.drew := hiv
         rw [h]; exact (by repeat (first | exact Below.refl _ _ | assumption | refine Below.drew ?_ | refine below_drewN ?_ _ | refine Below.alloc ?_ (by simp <;> omega) _))
       · match q, hq, hiv with
         | 1, _, hiv => exact hiv
         | q + 2, _, hiv => exact hiv
      obtain ⟨l5, e5⟩ : b5 < W1.heap.size ∧ W1.cell? ⟨b5, 0, none⟩ = some (.slice (some ⟨tb0, off, none⟩) ts.length c) := ⟨(H5.out.ext hX).lt, (H5.out.ext hX).cell 0⟩
      obtain ⟨l7, e70, e71, e72, e73, _⟩ := blk4f (H7.out.ext hX)
      obtain ⟨tb1, off1, htb, hlt, hcs⟩ := (HT.out W1 (bt HB.out hX)).2.2.2 (by intro e; rw [e] at hjl; simp at hjl)
      simp only [Option.some.injEq, Addr.mk.injEq, and_true] at htb
      obtain ⟨rfl, rfl⟩ := htb
      obtain ⟨t0, t1, t2, t3, t4⟩ := hcs j ta HJ.out.1
      clear hcs
      rw [if_pos (by rfl)]; simp only [overlay, upd, cond_true, cond_false, List.getD_cons_zero, List.getD_cons_succ, Nat.reduceEqDiff, reduceIte]
      go_simp
      exact hK.out _ _ _ hiv rfl rfl)
end Go.Proofs.YtceoficoappkpaaGreatDoor
