/- Texts joined by a tool: contracts and walks of this claim. -/
import Derived.Test.YtfekohonidggjaaGreatDoorP1
import Derived.Test.YtfekohonidggjaaGreatDoorB36
namespace Go.Proofs.YtfekohonidggjaaGreatDoor
open Go.RowKit
theorem long_le4 {l : List V} (h : ¬ 4000 < longN l) : l.length ≤ 4000 := by
 unfold longN at h
 have h2 : ∀ m : List V, 0 ≤ (m.map fun v => (v.t.size : Int) / 8).sum := by
  intro m
  induction m with
  | nil => simp
  | cons v m ih => simp only [List.map_cons, List.sum_cons]; omega
 have := h2 (l.take 100)
 omega
def HeavyP (l : List Am) (r : Ending) : Prop := ∃ v, r = .returned (.bool v) ∧ (v = false → l.length ≤ 300 ∧ ∀ x ∈ l, x.a.row.length ≤ 4000)
theorem hv_next {l : List Am} {j : Nat} {x : Am} (hx : l[j]? = some x) (h : ∀ u ∈ l.take j, u.a.row.length ≤ 4000) (hn : x.a.row.length ≤ 4000) : Hid (∀ u ∈ l.take (j + 1), u.a.row.length ≤ 4000) := by
 show ∀ u ∈ _, _
 rw [take_snoc hx]
 intro u hu
 rcases List.mem_append.1 hu with h' | h'
 · exact h u h'
 · obtain rfl : u = x := by simpa using h'
   exact hn
set_option maxRecDepth 100000 in
set_option maxHeartbeats 3200000 in
theorem heavy_any (seg bd r0 r1 r2 : Int) (ts : List Ta) (A : Option Addr) (k : Nat) (l : List Am) (L : Option Addr) (lc : Nat) (w : World) (ht : TRow w A k ts) (hl : AmRow w L l) :
  Calls Tryz.prog 7 #[Cf.agg ⟨seg, bd, r0, r1, r2, ts⟩ A k, .slice L l.length lc] w fun r w' => HeavyP l r ∧ Below w.heap.size w w' := by
 have HLG := hd_ (fun (W : World) (hW : Below w.heap.size w W) => large13_any ts A k W (ht.ext hW))
 have HAM := hd_ hl
 have hlen := hl.2.1
 have hb0 : Below w.heap.size w (w.alloc (.cells #[.slice A ts.length k, .int .i64 seg, .int .i64 bd, .int .i64 r0, .int .i64 r1, .int .i64 r2] 27)) := bel1 _ _
 have HB0 := hd_ hb0
 have HR0 := hd_ (Blk.new w #[.slice A ts.length k, .int .i64 seg, .int .i64 bd, .int .i64 r0, .int .i64 r1, .int .i64 r2] 27)
 clear ht hl hb0
 unfold Cf.agg
 simp only
 go_enter Tryz.func7, Tryz.ntmps7
 go_upto_region 1 with fail
 generalize w.alloc (.cells #[.slice A ts.length k, .int .i64 seg, .int .i64 bd, .int .i64 r0, .int .i64 r1, .int .i64 r2] 27) = w1 at HB0 HR0 ⊢
 obtain ⟨d9, d0, d1, d2, d3, d4, d5⟩ := blk6 HR0.out
 go_wp2_with fail
 refine (HLG.out _ HB0.out).mono ?_
 rintro r w2 ⟨⟨v, rfl⟩, hb⟩
 have HB2 := hd_ (bt HB0.out hb)
 clear hb d9 d0 d1 d2 d3 d4 d5 HR0 HB0 HLG
 cases v with
 | true =>
  go_wp2_with fail
  go_ret
  exact ⟨⟨true, rfl, fun h => by cases h⟩, HB2.out⟩
 | false =>
  by_cases h300 : 300 < l.length
  · have h3 : (300 : Int) < l.length := by omega
    go_wp2_with fail
    go_ret
    exact ⟨⟨true, rfl, fun h => by cases h⟩, HB2.out⟩
  · have h3 : ¬ (300 : Int) < l.length := by omega
    go_wp2_with fail
    clear h3
    go_loopw [5, 6] (fun n i wr => ∃ (j : Nat) (v : Int), j ≤ l.length ∧ n = .int .i64 v ∧ i = .int .i64 j ∧ 0 ≤ v ∧ v ≤ 32768 ∧ Hid (∀ u ∈ l.take j, u.a.row.length ≤ 4000) ∧ Below w.heap.size w wr) (fun _ i _ => l.length - (intOf i).toNat)
    case atStart => exact ⟨0, 0, by omega, rfl, rfl, by omega, by omega, (by simp : ∀ u ∈ l.take 0, u.a.row.length ≤ 4000), HB2.out⟩
    case round =>
     obtain ⟨j, n, hj, rfl, rfl, hn0, hn1, HAL, hbw⟩ := hrel
     clear HB2
     by_cases hlt : j < l.length
     · obtain ⟨b, off, x, rfl, hb, hlk, hmem, hwf, hvr, c0, c1, c2, c3, c4, c5, c6, c7⟩ := (HAM.out.ext hbw).at_ hlt
       have HLO := hd_ (fun (W : World) (hW : Below wr.heap.size wr W) => long_any x.a.row x.A x.c W (hvr.ext hW))
       have HLK := hd_ hlk
       have hrl := hvr.2.1
       have hnz := hwf.2.2.2.2.2.2.2
       have i0 : (0 : Int) ≤ j := by omega
       have i1 : (j : Int) < l.length := by omega
       clear hlk hmem hwf hvr
       go_wp2_with fail
       go_quiet (fail)
       have HBN := hd_ (show Below wr.heap.size wr (wr.drewN nq) by have := Below.refl wr.heap.size wr; repeat (first | assumption | refine Below.drew ?_ | refine below_drewN ?_ _))
       have c3' := (HBN.out.cell (p := ⟨b, off + j * 8 + 3, none⟩) hb).trans c3
       obtain ⟨n2, hn2⟩ : ∃ q : Int, q = n + 10 + ↑x.a.nm.size + 20 * ↑x.a.row.length := ⟨_, rfl⟩
       rw [← hn2]
       have hn20 : 0 ≤ n2 := by omega
       obtain ⟨lg, hlg⟩ : ∃ lg, lg = decide (4000 < longN x.a.row) := ⟨_, rfl⟩
       have HLG := hd_ hlg
       rw [← hlg] at HLO
       clear c0 c1 c2 c3 c4 c5 c6 c7 hn2 hlg
       have hlb : b < (wr.drewN nq).heap.size := Nat.lt_of_lt_of_le hb HBN.out.size
       generalize wr.drewN nq = wx at HBN c3' hlb ⊢
       cases lg with
       | true =>
        go_wp2_with fail
        refine (HLO.out _ HBN.out).mono ?_
        rintro r w3 ⟨rfl, rfl⟩
        go_wp2_with fail
        go_ret
        exact ⟨⟨true, rfl, fun h => by cases h⟩, bt hbw HBN.out⟩
       | false =>
        have hle := long_le4 (of_decide_eq_false HLG.out.symm)
        by_cases h32 : 32768 < n2
        · go_wp2_with fail
          refine (HLO.out _ HBN.out).mono ?_
          rintro r w3 ⟨rfl, rfl⟩
          go_wp2_with fail
          go_ret
          exact ⟨⟨true, rfl, fun h => by cases h⟩, bt hbw HBN.out⟩
        · go_wp2_with fail
          refine (HLO.out _ HBN.out).mono ?_
          rintro r w3 ⟨rfl, rfl⟩
          go_wp2_with fail
          go_roundw
          case rel => exact ⟨j + 1, n2, by omega, rfl, by go_num, by omega, by omega, hv_next HLK.out HAL.out hle, bt hbw HBN.out⟩
          case measure => simp [intOf]; omega
     · go_wp2_with fail
       go_ret
       refine ⟨⟨false, rfl, fun _ => ⟨by omega, ?_⟩⟩, hbw⟩
       have h := HAL.out
       rw [List.take_of_length_le (by omega)] at h
       exact h
theorem am_take {l dn : List Am} {j : Nat} {x : Am} {a : Ac} {P : Option Addr} {k : Nat} (hx : l[j]? = some x) (h : dn.map (·.a) = (l.take j).map (·.a)) (e : a = x.a) : (dn ++ [(⟨a, P, k⟩ : Am)]).map (·.a) = (l.take (j + 1)).map (·.a) := by
 rw [take_snoc hx, List.map_append, List.map_append, h, e]
 rfl
theorem RdI.none_ (w : World) : RdI w.heap.size [] none 0 [] none 0 w := ⟨Nat.le_refl _, World.ownsRow_nil _ _ _ _, World.ownsRow_nil _ _ _ _, (fun _ ht => nomatch ht), (fun _ ht => nomatch ht)⟩
def CopP (l : List Am) (r : Ending) (w' : World) : Prop := ∃ (C : Option Addr) (m : List Am) (c : Nat), r = .returned (.slice C m.length c) ∧ m.map (·.a) = l.map (·.a) ∧ AmRow w' C m
set_option maxRecDepth 100000 in
set_option maxHeartbeats 3200000 in
theorem copied_any (l : List Am) (L : Option Addr) (lc : Nat) (w : World) (hl : AmRow w L l) (h300 : l.length ≤ 300) (hrow : ∀ x ∈ l, x.a.row.length ≤ 4000) :
  Calls Tryz.prog 9 #[.slice L l.length lc] w fun r w' => CopP l r w' ∧ Below w.heap.size w w' := by
 have HAM := hd_ hl
 have HRW := hd_ hrow
 obtain ⟨ti, hi0, hz0, hz1, hz2⟩ := info_parts info_act
 clear hl hrow
 go_enter Tryz.func9, Tryz.ntmps9
 go_wp2_with fail
 go_loopw [3, 4] (fun o i wr => ∃ (j : Nat) (dn : List Am) (C : Option Addr) (c : Nat), j ≤ l.length ∧ i = .int .i64 j ∧ o = .slice C j c ∧ Hid (dn.map (·.a) = (l.take j).map (·.a)) ∧ dn.length = j ∧ Hid (RdI w.heap.size [] none 0 dn C c wr) ∧ Below w.heap.size w wr) (fun _ i _ => l.length - (intOf i).toNat)
 case atStart => exact ⟨0, [], none, 0, by omega, rfl, rfl, (by simp : _ = _), rfl, RdI.none_ w, Below.refl _ _⟩
 case round =>
  obtain ⟨j, dn, C, c, hj, rfl, rfl, HDN, hdl, HRI, hbw⟩ := hrel
  by_cases hlt : j < l.length
  · obtain ⟨b, off, x, rfl, hb, hlk, hmem, hwf, hvr, c0, c1, c2, c3, c4, c5, c6, c7⟩ := (HAM.out.ext hbw).at_ hlt
    have HLK := hd_ hlk
    have HWF := hd_ hwf
    have hrl := HRW.out x hmem
    obtain ⟨⟨d, kk, tb, row, n, m, q, nm⟩, XA, xc⟩ := x
    simp only at c0 c1 c2 c3 c4 c5 c6 c7 hvr hrl
    have hb5 : Below wr.heap.size wr (wr.alloc (.cells #[.int .u8 d, .int .u8 kk, .int .i64 tb, .slice XA row.length xc, .int .i64 n, .int .i64 m, .int .i64 q, .string nm] 42)) := bel1 _ _
    have HB5 := hd_ hb5
    have HA5 := hd_ (Blk.new wr #[.int .u8 d, .int .u8 kk, .int .i64 tb, .slice XA row.length xc, .int .i64 n, .int .i64 m, .int .i64 q, .string nm] 42)
    have HCP := hd_ (copy_any row XA xc (wr.alloc (.cells #[.int .u8 d, .int .u8 kk, .int .i64 tb, .slice XA row.length xc, .int .i64 n, .int .i64 m, .int .i64 q, .string nm] 42)) (hvr.ext hb5) (by omega))
    have hvw := hvr.1
    have HVW := hd_ hvw
    have i0 : (0 : Int) ≤ j := by omega
    have i1 : (j : Int) < l.length := by omega
    have HBW := hd_ hbw
    clear hlk hmem hwf hvr hb5 hvw hbw
    go_upto_region 6 with fail
    have hsz5 : wr.heap.size < (wr.alloc (.cells #[.int .u8 d, .int .u8 kk, .int .i64 tb, .slice XA row.length xc, .int .i64 n, .int .i64 m, .int .i64 q, .string nm] 42)).heap.size := by simp
    generalize wr.alloc (.cells #[.int .u8 d, .int .u8 kk, .int .i64 tb, .slice XA row.length xc, .int .i64 n, .int .i64 m, .int .i64 q, .string nm] 42) = W5 at HB5 HA5 HCP hsz5 ⊢
    obtain ⟨e8, e0, e1, e2, e3, e4, e5, e6, e7⟩ := blkA HA5.out
    clear c0 c1 c2 c3 c4 c5 c6 c7
    go_wp2_with fail
    refine HCP.out.mono ?_
    rintro r w6 ⟨A', c', rfl, ho6, hb6⟩
    have hA6 := HA5.out.ext hb6
    have hb56 := bt HB5.out hb6
    obtain ⟨w7, rfl, lt⟩ := blk_put hA6
    obtain ⟨pc, pf, pS⟩ := putBlk_facts (w := w7) 42 lt
    have HA7 := hd_ (putBlk_blk (w := w7) (b := wr.heap.size) #[.int .u8 d, .int .u8 kk, .int .i64 tb, .slice A' row.length c', .int .i64 n, .int .i64 m, .int .i64 q, .string nm] 42 lt)
    have HO7 := hd_ (own_put ho6 lt (by decide) #[.int .u8 d, .int .u8 kk, .int .i64 tb, .slice A' row.length c', .int .i64 n, .int .i64 m, .int .i64 q, .string nm])
    have HB7 := hd_ (putBlk_belows hb56 (Nat.le_refl _) #[.int .u8 d, .int .u8 kk, .int .i64 tb, .slice A' row.length c', .int .i64 n, .int .i64 m, .int .i64 q, .string nm])
    have HPB : Hid (∀ p, A' = some p → wr.heap.size ≤ p.block) := fun p hp => by subst hp; have := own_ge ho6 p.block rfl; omega
    clear ho6 hb6 hA6 hb56 e8 e0 e1 e2 e3 e4 e5 e6 e7 HA5 HB5 HCP
    go_upto_region 7 with fail
    clear pc pf pS lt
    generalize putBlk w7 wr.heap.size #[.int .u8 d, .int .u8 kk, .int .i64 tb, .slice A' row.length c', .int .i64 n, .int .i64 m, .int .i64 q, .string nm] 42 = W7 at HA7 HO7 HB7 ⊢
    obtain ⟨e8, e0, e1, e2, e3, e4, e5, e6, e7⟩ := blkA HA7.out
    have hb8 : Below W7.heap.size W7 (W7.alloc (.cells #[.int .u8 d, .int .u8 kk, .int .i64 tb, .slice A' row.length c', .int .i64 n, .int .i64 m, .int .i64 q, .string nm] 42)) := bel1 _ _
    have HB8 := hd_ (bt HB7.out hb8)
    have HG8 := hd_ (Blk.new W7 #[.int .u8 d, .int .u8 kk, .int .i64 tb, .slice A' row.length c', .int .i64 n, .int .i64 m, .int .i64 q, .string nm] 42)
    have HV8 : Hid (VRow (W7.alloc (.cells #[.int .u8 d, .int .u8 kk, .int .i64 tb, .slice A' row.length c', .int .i64 n, .int .i64 m, .int .i64 q, .string nm] 42)) A' row) := ((VRow.of_own HVW.out (by omega) HO7.out).1).ext hb8
    have HI8 := hd_ (HRI.out.ext HB8.out)
    have hown := HI8.out.oL
    rw [hdl] at hown
    clear hb8
    go_wp2_with (at_builtin; refine wpList_append_lies _ rfl _ _ 28 rfl w.heap.size 42 ti _ 8 88 Tryz.underlying28 hi0 hz0 hz1 hz2 rfl (by decide) (.slice C j c) j (acells dn) rfl hown ⟨W7.heap.size, 0, none⟩ 1 1 (acells [⟨⟨d, kk, tb, row, n, m, q, nm⟩, A', c'⟩]) rfl rfl (cells_blkL (l := acells [⟨⟨d, kk, tb, row, n, m, q, nm⟩, A', c'⟩]) HG8.out) (by simp [acells, Am.cells, Value.oneCell']) (by decide) (by simp only [maxLen]; omega) (by omega) HI8.out.hb _ rfl ?_)
    intro g8 c8 w8 hown8 hg8 hat8 _
    have hat9 : (Value.slice C j c).ownBlock = some g8 ∨ g8 = (W7.alloc (.cells #[.int .u8 d, .int .u8 kk, .int .i64 tb, .slice A' row.length c', .int .i64 n, .int .i64 m, .int .i64 q, .string nm] 42)).heap.size := hat8.imp id (fun e => by rw [e]; simp)
    have hbe := HI8.out.hb
    have hBW8 := (bt HBW.out HB8.out).grown hg8 hbe (own_ge hown)
    rw [← hdl] at hown8 hg8 hat9
    have HI9 := hd_ (HI8.out.addL (x := ⟨⟨d, kk, tb, row, n, m, q, nm⟩, A', c'⟩) HWF.out HV8.out (fun _ => FreC.of HRI.out HPB.out) hown8 hg8 hat9)
    clear hown8 hg8 hat8 hat9 hown HG8 HV8 HI8 HB8 HA7 HO7 HB7 e8 e0 e1 e2 e3 e4 e5 e6 e7 hbe
    go_wp2_with fail
    go_roundw
    case rel => exact ⟨j + 1, _, some ⟨g8, 0, none⟩, c8, by omega, by go_num, rfl, am_take HLK.out HDN.out rfl, by simp [hdl], HI9, hBW8⟩
    case measure => simp [intOf]; omega
  · obtain rfl : j = l.length := by omega
    go_wp2_with fail
    go_ret
    have h := HDN.out
    rw [List.take_length] at h
    exact ⟨⟨C, dn, c, by rw [hdl]; rfl, h, HRI.out.arow (by omega)⟩, hbw⟩
theorem writeV_cases (c : Cf) (l : List Ac) : (∃ e : Int, e ≠ 0 ∧ writeV c l = .tuple #[.string ⟨#[]⟩, .int .i64 e]) ∨ (confB c = true ∧ (l.all fun a => (actT a).isSome) = true ∧ (textF (linesF (c.st l))).length ≤ 1048576 ∧ writeV c l = .tuple #[.string (bsO (textF (linesF (c.st l)))), .int .i64 0]) := by
 unfold writeV
 by_cases h : (confB c && l.all fun a => (actT a).isSome) = true
 · rw [if_pos h]
   obtain ⟨h1, h2⟩ := Bool.and_eq_true_iff.1 h
   by_cases h3 : (textF (linesF (c.st l))).length ≤ 1048576
   · rw [if_pos h3]
     exact Or.inr ⟨h1, h2, h3, rfl⟩
   · rw [if_neg h3]
     exact Or.inl ⟨5, by decide, rfl⟩
 · rw [if_neg h]
   exact Or.inl ⟨2, by decide, rfl⟩
theorem read_written {c : Cf} {l : List Ac} (hc : confB c = true) (ha : (l.all fun a => (actT a).isSome) = true) (hl : (textF (linesF (c.st l))).length ≤ 1048576) (hw : ∀ t ∈ c.ts, t.wf ∧ ∀ x ∈ t.cs, x.wf) (hz : ∀ a ∈ l, a.wf) :
  goP Ls0 (spW 10 (bsO (textF (linesF (c.st l)))).data.toList) = .ok (mid c (c.ts.map Ta.z) l) :=
 write_read hc hw (fun a h => ⟨hz a h, List.all_eq_true.1 ha a h⟩) (by omega)
end Go.Proofs.YtfekohonidggjaaGreatDoor
namespace Go.Proofs.YtfekohonidggjaaGreatDoor
open Go.ChangeShapes Go.WideShapes Go.ChangeAt Go.RowKit Go.Deep




section
variable {H : Type} {enc : TypeId × Value → H}

theorem lt_of_cell' {w : World} {a : Addr} {v : Value} (h : w.cell? a = some v) : a.block < w.heap.size := by
 rcases Nat.lt_or_ge a.block w.heap.size with h' | h'
 · exact h'
 · simp [World.cell?, Array.getElem?_eq_none h'] at h
theorem weights_all {P : Program} {e : TypeId} : ∀ {l : List (DataW H)} {d : DataW H}, d ∈ l → ∀ n ∈ d.weights P e, n ∈ DataW.weightsAll P e l
 | x :: l, d, h, n, hn => by
  simp only [DataW.weightsAll, List.mem_append]
  rcases List.mem_cons.1 h with rfl | h
  · exact Or.inl hn
  · exact Or.inr (weights_all h n hn)

theorem addr_plain {W : World} {a : Addr} {v : Value} (h : W.cell? a = some v) : a = ⟨a.block, a.off, none⟩ := by
 obtain ⟨b, o, sp⟩ := a
 rw [cell_spot h]
theorem open_vrow {W : World} {fuel : Nat} {held : Bool} {cs : List Value} {x : DataW H × List MemPlace}
  (h : DataW.trod enc Tryz.prog W 0 (fun _ => true) held fuel 38 cs = some x) (hwt : ∀ n ∈ x.1.weights Tryz.prog 38, n ≤ reachBytes) :
  ∃ (A : Option Addr) (l : List V) (c : Nat), cs = [.slice A l.length c] ∧ VRow W A l := by
 rcases open_slice Tryz.underlying38 h with ⟨rfl, rfl⟩ | ⟨a, len, cap, m, n, D, Pl, rfl, _, hl, hm, hmm, rfl, hx⟩
 · exact ⟨none, [], 0, rfl, (fun _ h => by cases h), by simp, fun h => absurd rfl h⟩
 · have hc : Tryz.prog.cellsOf 48 = 4 := by kernel_rfl
   have hbytes : Tryz.prog.bytesOf 48 = 40 := by kernel_rfl
   simp only [if_true] at hmm
   subst hmm
   have hlen : len ≤ 35184372088832 := by
    have := hwt _ (by simp only [DataW.weights, Tryz.underlying38]; exact List.mem_cons_self)
    rw [hbytes] at this
    simp only [List.length_map, List.length_range] at this
    have : reachBytes ≤ 140737488355328 := by decide
    omega
   have hV : ∀ i, i < len → ∃ v : V, v.wf ∧ ∀ j, j < 4 → W.cell? (a.add (i * 4 + j)) = [Value.int .u8 v.k, .int .i64 v.n, .int .u64 v.r, .string v.t][j]? := by
    intro i hi
    obtain ⟨cs', h1, h2⟩ := hx i (by omega)
    rw [hc] at h1
    obtain ⟨v, hwf, rfl, _⟩ := open_V h2 (fun n hn => hwt n (by
     simp only [DataW.weights, Tryz.underlying38]
     refine List.mem_cons_of_mem _ (List.mem_append_left _ (weights_all (d := D i) ?_ n hn))
     exact List.mem_map.2 ⟨i, List.mem_range.2 hi, rfl⟩))
    obtain ⟨_, _, hcell⟩ := World.cells?_some h1
    exact ⟨v, hwf, fun j hj => by rw [← Go.Deep.add_add]; exact hcell j hj⟩
   obtain ⟨f, hf⟩ := choose_lt (α := V) (p := fun i v => v.wf ∧ ∀ j, j < 4 → W.cell? (a.add (i * 4 + j)) = [Value.int .u8 v.k, .int .i64 v.n, .int .u64 v.r, .string v.t][j]?) hV
   refine ⟨some a, (List.range len).map f, m, by simp, ?_, by simpa using hlen, fun hne => ?_⟩
   · intro v hv
     obtain ⟨i, hi, rfl⟩ := List.mem_map.1 hv
     exact (hf i (List.mem_range.1 hi)).1
   · have hpos : 0 < len := by
      rcases Nat.eq_zero_or_pos len with h0 | h0
      · subst h0; simp at hne
      · exact h0
     have h00 := (hf 0 hpos).2 0 (by omega)
     have ha0 : a.add (0 * 4 + 0) = a := by simp [Addr.add]
     rw [ha0] at h00
     have hap := addr_plain h00
     have hblk := lt_of_cell' h00
     obtain ⟨b, off, sp⟩ := a
     simp only at hap hblk
     injection hap with _ _ hsp
     subst hsp
     refine ⟨b, off, rfl, hblk, fun i v hi => ?_⟩
     have hil : i < len := by
      have := (List.getElem?_eq_some_iff.1 hi).1
      simpa using this
     have hv : v = f i := by
      rw [List.getElem?_map, List.getElem?_range hil] at hi
      exact (Option.some.inj hi).symm
     subst hv
     have hh := (hf i hil).2
     have ea : ∀ j, (⟨b, off, none⟩ : Addr).add (i * 4 + j) = ⟨b, off + i * 4 + j, none⟩ := by
      intro j
      unfold Addr.add
      split
      · next h0 =>
        obtain rfl : i = 0 := by omega
        obtain rfl : j = 0 := by omega
        rfl
      · show (⟨b, off + (i * 4 + j), none⟩ : Addr) = _
        rw [Nat.add_assoc]
     have g0 := hh 0 (by omega)
     have g1 := hh 1 (by omega)
     have g2 := hh 2 (by omega)
     have g3 := hh 3 (by omega)
     rw [ea] at g0 g1 g2 g3
     exact ⟨g0, g1, g2, g3⟩
end
end Go.Proofs.YtfekohonidggjaaGreatDoor
namespace Go.Proofs.YtfekohonidggjaaGreatDoor
open Go.ChangeShapes Go.WideShapes Go.ChangeAt Go.RowKit Go.Deep
section
variable {H : Type} {enc : TypeId × Value → H}
end
end Go.Proofs.YtfekohonidggjaaGreatDoor

namespace Go.Proofs.YtfekohonidggjaaGreatDoor
open Go.ChangeShapes Go.WideShapes Go.ChangeAt Go.RowKit Go.Deep
section
variable {H : Type} {enc : TypeId × Value → H}
theorem open_rowG {α : Type} [Inhabited α] {W : World} (q : Nat) (hq : 0 < q) (cf : α → List Value) (hcf : ∀ x, (cf x).length = q) (p : α → Prop) (nb : Nat) {T E : TypeId}
  (hT : Tryz.prog.underlying T = some (.slice E)) (hc : Tryz.prog.cellsOf E = q) (hbytes : Tryz.prog.bytesOf E = nb)
  (hel : ∀ (fuel : Nat) (held : Bool) (cs : List Value) (x : DataW H × List MemPlace), DataW.trod enc Tryz.prog W 0 (fun _ => true) held fuel E cs = some x → (∀ m ∈ x.1.weights Tryz.prog E, m ≤ reachBytes) → ∃ v : α, p v ∧ cs = cf v)
  {fuel : Nat} {held : Bool} {cs : List Value} {x : DataW H × List MemPlace}
  (h : DataW.trod enc Tryz.prog W 0 (fun _ => true) held fuel T cs = some x) (hwt : ∀ n ∈ x.1.weights Tryz.prog T, n ≤ reachBytes) :
  ∃ (A : Option Addr) (l : List α) (c : Nat), cs = [.slice A l.length c] ∧ (∀ v ∈ l, p v) ∧ l.length * nb ≤ 140737488355328 ∧ l.length ≤ c ∧
   (l ≠ [] → ∃ b off, A = some ⟨b, off, none⟩ ∧ b < W.heap.size ∧ ∀ i v, l[i]? = some v → ∀ j, j < q → W.cell? ⟨b, off + i * q + j, none⟩ = (cf v)[j]?) := by
 rcases open_slice hT h with ⟨rfl, rfl⟩ | ⟨a, len, cap, m, n, D, Pl, rfl, _, hl, hm, hmm, rfl, hx⟩
 · exact ⟨none, [], 0, rfl, (fun _ h => by cases h), by simp, by simp, fun h => absurd rfl h⟩
 · simp only [if_true] at hmm
   subst hmm
   have hlen : len * nb ≤ 140737488355328 := by
    have := hwt _ (by simp only [DataW.weights, hT]; exact List.mem_cons_self)
    rw [hbytes] at this
    simp only [List.length_map, List.length_range] at this
    have h1 : reachBytes ≤ 140737488355328 := by decide
    exact Nat.le_trans (Nat.mul_le_mul_right nb (Nat.le_add_right len _)) (Nat.le_trans this h1)
   have hV : ∀ i, i < len → ∃ v : α, p v ∧ ∀ j, j < q → W.cell? (a.add (i * q + j)) = (cf v)[j]? := by
    intro i hi
    obtain ⟨cs', h1, h2⟩ := hx i (by omega)
    rw [hc] at h1
    obtain ⟨v, hwf, rfl⟩ := hel _ _ _ _ h2 (fun n hn => hwt n (by
     simp only [DataW.weights, hT]
     refine List.mem_cons_of_mem _ (List.mem_append_left _ (weights_all (d := D i) ?_ n hn))
     exact List.mem_map.2 ⟨i, List.mem_range.2 hi, rfl⟩))
    obtain ⟨_, _, hcell⟩ := World.cells?_some h1
    exact ⟨v, hwf, fun j hj => by rw [← Go.Deep.add_add]; exact hcell j hj⟩
   obtain ⟨f, hf⟩ := choose_lt (α := α) (p := fun i v => p v ∧ ∀ j, j < q → W.cell? (a.add (i * q + j)) = (cf v)[j]?) hV
   refine ⟨some a, (List.range len).map f, m, by simp, ?_, by simpa using hlen, by simpa using hl, fun hne => ?_⟩
   · intro v hv
     obtain ⟨i, hi, rfl⟩ := List.mem_map.1 hv
     exact (hf i (List.mem_range.1 hi)).1
   · have hpos : 0 < len := by
      rcases Nat.eq_zero_or_pos len with h0 | h0
      · subst h0; simp at hne
      · exact h0
     have h00 := (hf 0 hpos).2 0 hq
     have ha0 : a.add (0 * q + 0) = a := by simp [Addr.add]
     rw [ha0, List.getElem?_eq_getElem (by rw [hcf]; exact hq)] at h00
     have hap := addr_plain h00
     have hblk := lt_of_cell' h00
     obtain ⟨b, off, sp⟩ := a
     simp only at hap hblk
     injection hap with _ _ hsp
     subst hsp
     refine ⟨b, off, rfl, hblk, fun i v hi => ?_⟩
     have hil : i < len := by
      have := (List.getElem?_eq_some_iff.1 hi).1
      simpa using this
     have hv : v = f i := by
      rw [List.getElem?_map, List.getElem?_range hil] at hi
      exact (Option.some.inj hi).symm
     subst hv
     intro j hj
     rw [← (hf i hil).2 j hj]
     have ea : (⟨b, off, none⟩ : Addr).add (i * q + j) = ⟨b, off + i * q + j, none⟩ := by
      unfold Addr.add
      split
      · next h0 =>
        have e : off + i * q + j = off := by rw [Nat.add_assoc, h0]; rfl
        rw [e]
      · show (⟨b, off + (i * q + j), none⟩ : Addr) = _
        rw [Nat.add_assoc]
     rw [ea]
def coC (c : Co) : List Value := [.string c.nm, .int .u8 c.k, .bool c.nl]
set_option maxRecDepth 100000 in
/-- A column. -/
theorem open_Co {W : World} {fuel : Nat} {held : Bool} {cs : List Value} {x : DataW H × List MemPlace}
  (h : DataW.trod enc Tryz.prog W 0 (fun _ => true) held fuel 111 cs = some x) (hwt : ∀ n ∈ x.1.weights Tryz.prog 111, n ≤ reachBytes) :
  ∃ c : Co, c.wf ∧ cs = coC c := by
 obtain ⟨xs, n, _, hx, hlen, hxl, hf⟩ := DataW.trod_struct Tryz.underlying111 h
 have hc : Tryz.prog.cellsOf 111 = 3 := by kernel_rfl
 rw [hc] at hlen
 match cs, hlen with
 | [c0, c1, c2], _ =>
 match xs, hxl with
 | [x0, x1, x2], _ =>
  have k1 : Tryz.prog.cellsOf 9 = 1 := by kernel_rfl
  have k2 : Tryz.prog.cellsOf 5 = 1 := by kernel_rfl
  have k3 : Tryz.prog.cellsOf 4 = 1 := by kernel_rfl
  have f0 := hf 0 _ rfl
  have f1 := hf 1 _ rfl
  have f2 := hf 2 _ rfl
  change DataW.trod enc Tryz.prog W 0 (fun _ => true) held n 9 (([c0, c1, c2].drop 0).take (Tryz.prog.cellsOf 9)) = some x0 at f0
  change DataW.trod enc Tryz.prog W 0 (fun _ => true) held n 5 (([c0, c1, c2].drop 1).take (Tryz.prog.cellsOf 5)) = some x1 at f1
  change DataW.trod enc Tryz.prog W 0 (fun _ => true) held n 4 (([c0, c1, c2].drop 2).take (Tryz.prog.cellsOf 4)) = some x2 at f2
  rw [k1] at f0
  rw [k2] at f1
  rw [k3] at f2
  simp only [List.drop_zero, List.drop_succ_cons, List.take_succ_cons, List.take_zero] at f0 f1 f2
  obtain ⟨s, e0, rfl, ws⟩ := DataW.trod_string Tryz.underlying9 f0
  obtain ⟨a, e1, rfl, wa⟩ := DataW.trod_int Tryz.underlying5 f1
  obtain ⟨v, e2, rfl⟩ := DataW.trod_bool Tryz.underlying4 f2
  simp only [List.cons.injEq, and_true] at e0 e1 e2
  subst e0; subst e1; subst e2
  simp only [List.map_cons, List.map_nil] at hx
  subst hx
  have hsz : s.data.toList.length ≤ reachBytes := by
   refine hwt _ ?_
   simp [DataW.weights, Tryz.underlying111, DataW.weightsEach]
  have ba := bounds_u8 wa
  have hs2 : s.size ≤ 140737488355328 := by
   have : s.data.toList.length = s.size := by simp
   have : reachBytes ≤ 140737488355328 := by decide
   omega
  exact ⟨⟨s, a, v⟩, ⟨hs2, by simp only; omega, by simp only; omega⟩, rfl⟩
theorem open_crow {W : World} {fuel : Nat} {held : Bool} {cs : List Value} {x : DataW H × List MemPlace}
  (h : DataW.trod enc Tryz.prog W 0 (fun _ => true) held fuel 64 cs = some x) (hwt : ∀ n ∈ x.1.weights Tryz.prog 64, n ≤ reachBytes) :
  ∃ (A : Option Addr) (l : List Co) (c : Nat), cs = [.slice A l.length c] ∧ CRow W A l := by
 obtain ⟨A, l, c, e, h1, h2, _, h3⟩ := open_rowG (α := Co) 3 (by omega) coC (fun _ => rfl) Co.wf 24 Tryz.underlying64 (by kernel_rfl) (by kernel_rfl) (fun _ _ _ _ => open_Co) h hwt
 refine ⟨A, l, c, e, h1, by omega, fun hl => ?_⟩
 obtain ⟨b, off, rfl, hb, hx⟩ := h3 hl
 exact ⟨b, off, rfl, hb, fun i v hi => ⟨hx i v hi 0 (by omega), hx i v hi 1 (by omega), hx i v hi 2 (by omega)⟩⟩
def taC (t : Ta) : List Value := t.cells.toList
set_option maxRecDepth 100000 in
/-- A table. -/
theorem open_Ta {W : World} {fuel : Nat} {held : Bool} {cs : List Value} {x : DataW H × List MemPlace}
  (h : DataW.trod enc Tryz.prog W 0 (fun _ => true) held fuel 66 cs = some x) (hwt : ∀ n ∈ x.1.weights Tryz.prog 66, n ≤ reachBytes) :
  ∃ t : Ta, (t.wf ∧ CRow W t.A t.cs) ∧ cs = taC t := by
 obtain ⟨xs, n, _, hx, hlen, hxl, hf⟩ := DataW.trod_struct Tryz.underlying66 h
 have hc : Tryz.prog.cellsOf 66 = 5 := by kernel_rfl
 rw [hc] at hlen
 match cs, hlen with
 | [c0, c1, c2, c3, c4], _ =>
 match xs, hxl with
 | [x0, x1, x2, x3, x4], _ =>
  have k1 : Tryz.prog.cellsOf 9 = 1 := by kernel_rfl
  have k2 : Tryz.prog.cellsOf 64 = 1 := by kernel_rfl
  have k3 : Tryz.prog.cellsOf 3 = 1 := by kernel_rfl
  have f0 := hf 0 _ rfl
  have f1 := hf 1 _ rfl
  have f2 := hf 2 _ rfl
  have f3 := hf 3 _ rfl
  have f4 := hf 4 _ rfl
  change DataW.trod enc Tryz.prog W 0 (fun _ => true) held n 9 (([c0, c1, c2, c3, c4].drop 0).take (Tryz.prog.cellsOf 9)) = some x0 at f0
  change DataW.trod enc Tryz.prog W 0 (fun _ => true) held n 64 (([c0, c1, c2, c3, c4].drop 1).take (Tryz.prog.cellsOf 64)) = some x1 at f1
  change DataW.trod enc Tryz.prog W 0 (fun _ => true) held n 3 (([c0, c1, c2, c3, c4].drop 2).take (Tryz.prog.cellsOf 3)) = some x2 at f2
  change DataW.trod enc Tryz.prog W 0 (fun _ => true) held n 3 (([c0, c1, c2, c3, c4].drop 3).take (Tryz.prog.cellsOf 3)) = some x3 at f3
  change DataW.trod enc Tryz.prog W 0 (fun _ => true) held n 3 (([c0, c1, c2, c3, c4].drop 4).take (Tryz.prog.cellsOf 3)) = some x4 at f4
  rw [k1] at f0
  rw [k2] at f1
  rw [k3] at f2 f3 f4
  simp only [List.drop_zero, List.drop_succ_cons, List.take_succ_cons, List.take_zero] at f0 f1 f2 f3 f4
  obtain ⟨s, e0, rfl, ws⟩ := DataW.trod_string Tryz.underlying9 f0
  simp only [List.map_cons, List.map_nil] at hx
  have hw1 : ∀ m ∈ x1.1.weights Tryz.prog 64, m ≤ reachBytes := fun m hm => hwt m (by
   rw [hx]; simp only [DataW.weights, Tryz.underlying66]; exact DataW.weights_mem_each (j := 1) rfl rfl m hm)
  have hsz : s.data.toList.length ≤ reachBytes := by
   refine hwt _ ?_
   rw [hx]
   simp only [DataW.weights, Tryz.underlying66]
   exact DataW.weights_mem_each (j := 0) rfl rfl _ (by simp [DataW.weights])
  obtain ⟨A, l, c, e1, hA⟩ := open_crow f1 hw1
  obtain ⟨b2, e2, rfl, w2⟩ := DataW.trod_int Tryz.underlying3 f2
  obtain ⟨b3, e3, rfl, w3⟩ := DataW.trod_int Tryz.underlying3 f3
  obtain ⟨b4, e4, rfl, w4⟩ := DataW.trod_int Tryz.underlying3 f4
  simp only [List.cons.injEq, and_true] at e0 e1 e2 e3 e4
  subst e0; subst e1; subst e2; subst e3; subst e4
  have g2 := bounds_i64 w2
  have g3 := bounds_i64 w3
  have g4 := bounds_i64 w4
  have hs2 : s.size ≤ 140737488355328 := by
   have : s.data.toList.length = s.size := by simp
   have : reachBytes ≤ 140737488355328 := by decide
   omega
  exact ⟨⟨s, l, b2, b3, b4, A, c⟩, ⟨⟨hs2, by simp only; omega, by simp only; omega, by simp only; omega⟩, hA⟩, rfl⟩
set_option maxRecDepth 100000 in
/-- A schema: one cell, its tables. -/
theorem open_S {W : World} {fuel : Nat} {held : Bool} {cs : List Value} {x : DataW H × List MemPlace}
  (h : DataW.trod enc Tryz.prog W 0 (fun _ => true) held fuel 24 cs = some x) (hwt : ∀ n ∈ x.1.weights Tryz.prog 24, n ≤ reachBytes) :
  ∃ (ts : List Ta) (A : Option Addr) (c : Nat), cs = (#[.slice A ts.length c] : Array Value).toList ∧ TRow W A c ts := by
 obtain ⟨xs, n, _, hx, hlen, hxl, hf⟩ := DataW.trod_struct Tryz.underlying24 h
 have hc : Tryz.prog.cellsOf 24 = 1 := by kernel_rfl
 rw [hc] at hlen
 match cs, hlen with
 | [c0], _ =>
 match xs, hxl with
 | [x0], _ =>
  have k1 : Tryz.prog.cellsOf 22 = 1 := by kernel_rfl
  have f0 := hf 0 _ rfl
  change DataW.trod enc Tryz.prog W 0 (fun _ => true) held n 22 (([c0].drop 0).take (Tryz.prog.cellsOf 22)) = some x0 at f0
  rw [k1] at f0
  simp only [List.drop_zero, List.take_succ_cons, List.take_zero] at f0
  simp only [List.map_cons, List.map_nil] at hx
  have hw0 : ∀ m ∈ x0.1.weights Tryz.prog 22, m ≤ reachBytes := fun m hm => hwt m (by
   rw [hx]; simp only [DataW.weights, Tryz.underlying24]; exact DataW.weights_mem_each (j := 0) rfl rfl m hm)
  obtain ⟨A, l, c, e, h1, h2, h4, h3⟩ := open_rowG (α := Ta) 5 (by omega) taC (fun _ => rfl) (fun t => t.wf ∧ CRow W t.A t.cs) 64 Tryz.underlying22 (by kernel_rfl) (by kernel_rfl) (fun _ _ _ _ => open_Ta) f0 hw0
  simp only [List.cons.injEq, and_true] at e
  subst e
  refine ⟨l, A, c, rfl, h1, by omega, h4, fun hl => ?_⟩
  obtain ⟨b, off, rfl, hb, hx⟩ := h3 hl
  exact ⟨b, off, rfl, hb, fun i v hi => ⟨hx i v hi 0 (by omega), hx i v hi 1 (by omega), hx i v hi 2 (by omega), hx i v hi 3 (by omega), hx i v hi 4 (by omega)⟩⟩
end
end Go.Proofs.YtfekohonidggjaaGreatDoor
namespace Go.Proofs.YtfekohonidggjaaGreatDoor
open Go.ChangeShapes Go.WideShapes Go.ChangeAt Go.RowKit Go.Deep
section
variable {H : Type} {enc : TypeId × Value → H}
set_option maxRecDepth 100000 in
/-- An op. -/
theorem open_Op {W : World} {fuel : Nat} {held : Bool} {cs : List Value} {x : DataW H × List MemPlace}
  (h : DataW.trod enc Tryz.prog W 0 (fun _ => true) held fuel 40 cs = some x) (hwt : ∀ n ∈ x.1.weights Tryz.prog 40, n ≤ reachBytes) :
  ∃ (k tb : Int) (row : List V) (A : Option Addr) (c : Nat), (0 ≤ k ∧ k ≤ 255) ∧ i64B tb ∧ VRow W A row ∧ cs = [.int .u8 k, .int .i64 tb, .slice A row.length c] := by
 obtain ⟨xs, n, _, hx, hlen, hxl, hf⟩ := DataW.trod_struct Tryz.underlying40 h
 have hc : Tryz.prog.cellsOf 40 = 3 := by kernel_rfl
 rw [hc] at hlen
 match cs, hlen with
 | [c0, c1, c2], _ =>
 match xs, hxl with
 | [x0, x1, x2], _ =>
  have k1 : Tryz.prog.cellsOf 5 = 1 := by kernel_rfl
  have k2 : Tryz.prog.cellsOf 3 = 1 := by kernel_rfl
  have k3 : Tryz.prog.cellsOf 38 = 1 := by kernel_rfl
  have f0 := hf 0 _ rfl
  have f1 := hf 1 _ rfl
  have f2 := hf 2 _ rfl
  change DataW.trod enc Tryz.prog W 0 (fun _ => true) held n 5 (([c0, c1, c2].drop 0).take (Tryz.prog.cellsOf 5)) = some x0 at f0
  change DataW.trod enc Tryz.prog W 0 (fun _ => true) held n 3 (([c0, c1, c2].drop 1).take (Tryz.prog.cellsOf 3)) = some x1 at f1
  change DataW.trod enc Tryz.prog W 0 (fun _ => true) held n 38 (([c0, c1, c2].drop 2).take (Tryz.prog.cellsOf 38)) = some x2 at f2
  rw [k1] at f0
  rw [k2] at f1
  rw [k3] at f2
  simp only [List.drop_zero, List.drop_succ_cons, List.take_succ_cons, List.take_zero] at f0 f1 f2
  simp only [List.map_cons, List.map_nil] at hx
  have hw2 : ∀ m ∈ x2.1.weights Tryz.prog 38, m ≤ reachBytes := fun m hm => hwt m (by
   rw [hx]; simp only [DataW.weights, Tryz.underlying40]; exact DataW.weights_mem_each (j := 2) rfl rfl m hm)
  obtain ⟨a, e0, rfl, wa⟩ := DataW.trod_int Tryz.underlying5 f0
  obtain ⟨b, e1, rfl, wb⟩ := DataW.trod_int Tryz.underlying3 f1
  obtain ⟨A, l, c, e2, hA⟩ := open_vrow f2 hw2
  simp only [List.cons.injEq, and_true] at e0 e1 e2
  subst e0; subst e1; subst e2
  have ba := bounds_u8 wa
  have bb := bounds_i64 wb
  exact ⟨a, b, l, A, c, by omega, ⟨by omega, by omega⟩, hA, rfl⟩
set_option maxRecDepth 100000 in
/-- An act. -/
theorem open_Am {W : World} {fuel : Nat} {held : Bool} {cs : List Value} {x : DataW H × List MemPlace}
  (h : DataW.trod enc Tryz.prog W 0 (fun _ => true) held fuel 42 cs = some x) (hwt : ∀ n ∈ x.1.weights Tryz.prog 42, n ≤ reachBytes) :
  ∃ y : Am, (y.a.wf ∧ VRow W y.A y.a.row) ∧ cs = y.cells := by
 obtain ⟨xs, n, _, hx, hlen, hxl, hf⟩ := DataW.trod_struct Tryz.underlying42 h
 have hc : Tryz.prog.cellsOf 42 = 8 := by kernel_rfl
 rw [hc] at hlen
 match cs, hlen with
 | [c0, c1, c2, c3, c4, c5, c6, c7], _ =>
 match xs, hxl with
 | [x0, x1, x2, x3, x4, x5], _ =>
  have k1 : Tryz.prog.cellsOf 5 = 1 := by kernel_rfl
  have k2 : Tryz.prog.cellsOf 40 = 3 := by kernel_rfl
  have k3 : Tryz.prog.cellsOf 3 = 1 := by kernel_rfl
  have k4 : Tryz.prog.cellsOf 9 = 1 := by kernel_rfl
  have f0 := hf 0 _ rfl
  have f1 := hf 1 _ rfl
  have f2 := hf 2 _ rfl
  have f3 := hf 3 _ rfl
  have f4 := hf 4 _ rfl
  have f5 := hf 5 _ rfl
  change DataW.trod enc Tryz.prog W 0 (fun _ => true) held n 5 (([c0, c1, c2, c3, c4, c5, c6, c7].drop 0).take (Tryz.prog.cellsOf 5)) = some x0 at f0
  change DataW.trod enc Tryz.prog W 0 (fun _ => true) held n 40 (([c0, c1, c2, c3, c4, c5, c6, c7].drop 1).take (Tryz.prog.cellsOf 40)) = some x1 at f1
  change DataW.trod enc Tryz.prog W 0 (fun _ => true) held n 3 (([c0, c1, c2, c3, c4, c5, c6, c7].drop 4).take (Tryz.prog.cellsOf 3)) = some x2 at f2
  change DataW.trod enc Tryz.prog W 0 (fun _ => true) held n 3 (([c0, c1, c2, c3, c4, c5, c6, c7].drop 5).take (Tryz.prog.cellsOf 3)) = some x3 at f3
  change DataW.trod enc Tryz.prog W 0 (fun _ => true) held n 3 (([c0, c1, c2, c3, c4, c5, c6, c7].drop 6).take (Tryz.prog.cellsOf 3)) = some x4 at f4
  change DataW.trod enc Tryz.prog W 0 (fun _ => true) held n 9 (([c0, c1, c2, c3, c4, c5, c6, c7].drop 7).take (Tryz.prog.cellsOf 9)) = some x5 at f5
  rw [k1] at f0
  rw [k2] at f1
  rw [k3] at f2 f3 f4
  rw [k4] at f5
  simp only [List.drop_zero, List.drop_succ_cons, List.take_succ_cons, List.take_zero] at f0 f1 f2 f3 f4 f5
  simp only [List.map_cons, List.map_nil] at hx
  have hw1 : ∀ m ∈ x1.1.weights Tryz.prog 40, m ≤ reachBytes := fun m hm => hwt m (by
   rw [hx]; simp only [DataW.weights, Tryz.underlying42]; exact DataW.weights_mem_each (j := 1) rfl rfl m hm)
  obtain ⟨a, e0, rfl, wa⟩ := DataW.trod_int Tryz.underlying5 f0
  obtain ⟨k, tb, row, A, c, hk, htb, hA, e1⟩ := open_Op f1 hw1
  obtain ⟨b2, e2, rfl, w2⟩ := DataW.trod_int Tryz.underlying3 f2
  obtain ⟨b3, e3, rfl, w3⟩ := DataW.trod_int Tryz.underlying3 f3
  obtain ⟨b4, e4, rfl, w4⟩ := DataW.trod_int Tryz.underlying3 f4
  obtain ⟨s, e5, rfl, ws⟩ := DataW.trod_string Tryz.underlying9 f5
  have hsz : s.data.toList.length ≤ reachBytes := by
   refine hwt _ ?_
   rw [hx]
   simp only [DataW.weights, Tryz.underlying42]
   exact DataW.weights_mem_each (j := 5) rfl rfl _ (by simp [DataW.weights])
  simp only [List.cons.injEq, and_true] at e0 e1 e2 e3 e4 e5
  obtain ⟨e1a, e1b, e1c⟩ := e1
  subst e0; subst e1a; subst e1b; subst e1c; subst e2; subst e3; subst e4; subst e5
  have g0 := bounds_u8 wa
  have g2 := bounds_i64 w2
  have g3 := bounds_i64 w3
  have g4 := bounds_i64 w4
  have hs2 : s.size ≤ 140737488355328 := by
   have : s.data.toList.length = s.size := by simp
   have : reachBytes ≤ 140737488355328 := by decide
   omega
  exact ⟨⟨⟨a, k, tb, row, b2, b3, b4, s⟩, A, c⟩, ⟨⟨by simp only; omega, hk, htb, hA.1, ⟨by simp only; omega, by simp only; omega⟩, ⟨by simp only; omega, by simp only; omega⟩, ⟨by simp only; omega, by simp only; omega⟩, hs2⟩, hA⟩, rfl⟩
theorem open_amrow {W : World} {fuel : Nat} {held : Bool} {cs : List Value} {x : DataW H × List MemPlace}
  (h : DataW.trod enc Tryz.prog W 0 (fun _ => true) held fuel 28 cs = some x) (hwt : ∀ n ∈ x.1.weights Tryz.prog 28, n ≤ reachBytes) :
  ∃ (A : Option Addr) (l : List Am) (c : Nat), cs = [.slice A l.length c] ∧ AmRow W A l := by
 obtain ⟨A, l, c, e, h1, h2, _, h3⟩ := open_rowG (α := Am) 8 (by omega) Am.cells (fun _ => rfl) (fun y => y.a.wf ∧ VRow W y.A y.a.row) 88 Tryz.underlying28 (by kernel_rfl) (by kernel_rfl) (fun _ _ _ _ => open_Am) h hwt
 refine ⟨A, l, c, e, h1, by omega, fun hl => ?_⟩
 obtain ⟨b, off, rfl, hb, hx⟩ := h3 hl
 exact ⟨b, off, rfl, hb, fun i v hi j hj => by rw [← Nat.add_assoc]; exact hx i v hi j hj⟩
set_option maxRecDepth 100000 in
/-- A Conf. -/
theorem open_Cf {W : World} {fuel : Nat} {held : Bool} {cs : List Value} {x : DataW H × List MemPlace}
  (h : DataW.trod enc Tryz.prog W 0 (fun _ => true) held fuel 27 cs = some x) (hwt : ∀ n ∈ x.1.weights Tryz.prog 27, n ≤ reachBytes) :
  ∃ (ts : List Ta) (A : Option Addr) (c : Nat) (seg bd r0 r1 r2 : Int), cs = (#[.slice A ts.length c, .int .i64 seg, .int .i64 bd, .int .i64 r0, .int .i64 r1, .int .i64 r2] : Array Value).toList ∧ TRow W A c ts := by
 obtain ⟨xs, n, _, hx, hlen, hxl, hf⟩ := DataW.trod_struct Tryz.underlying27 h
 have hc : Tryz.prog.cellsOf 27 = 6 := by kernel_rfl
 rw [hc] at hlen
 match cs, hlen with
 | [c0, c1, c2, c3, c4, c5], _ =>
 match xs, hxl with
 | [x0, x1, x2, x3], _ =>
  have k1 : Tryz.prog.cellsOf 24 = 1 := by kernel_rfl
  have k2 : Tryz.prog.cellsOf 3 = 1 := by kernel_rfl
  have k3 : Tryz.prog.cellsOf 25 = 3 := by kernel_rfl
  have f0 := hf 0 _ rfl
  have f1 := hf 1 _ rfl
  have f2 := hf 2 _ rfl
  have f3 := hf 3 _ rfl
  change DataW.trod enc Tryz.prog W 0 (fun _ => true) held n 24 (([c0, c1, c2, c3, c4, c5].drop 0).take (Tryz.prog.cellsOf 24)) = some x0 at f0
  change DataW.trod enc Tryz.prog W 0 (fun _ => true) held n 3 (([c0, c1, c2, c3, c4, c5].drop 1).take (Tryz.prog.cellsOf 3)) = some x1 at f1
  change DataW.trod enc Tryz.prog W 0 (fun _ => true) held n 3 (([c0, c1, c2, c3, c4, c5].drop 2).take (Tryz.prog.cellsOf 3)) = some x2 at f2
  change DataW.trod enc Tryz.prog W 0 (fun _ => true) held n 25 (([c0, c1, c2, c3, c4, c5].drop 3).take (Tryz.prog.cellsOf 25)) = some x3 at f3
  rw [k1] at f0
  rw [k2] at f1 f2
  rw [k3] at f3
  simp only [List.drop_zero, List.drop_succ_cons, List.take_succ_cons, List.take_zero] at f0 f1 f2 f3
  simp only [List.map_cons, List.map_nil] at hx
  have hw0 : ∀ m ∈ x0.1.weights Tryz.prog 24, m ≤ reachBytes := fun m hm => hwt m (by
   rw [hx]; simp only [DataW.weights, Tryz.underlying27]; exact DataW.weights_mem_each (j := 0) rfl rfl m hm)
  obtain ⟨ts, A, c, e0, hA⟩ := open_S f0 hw0
  obtain ⟨b1, e1, _, _⟩ := DataW.trod_int Tryz.underlying3 f1
  obtain ⟨b2, e2, _, _⟩ := DataW.trod_int Tryz.underlying3 f2
  obtain ⟨ys, m, _, _, _, hyl, hy⟩ := DataW.trod_array Tryz.underlying25 f3
  match ys, hyl with
  | [y0, y1, y2], _ =>
   have g0 := hy 0 (by omega)
   have g1 := hy 1 (by omega)
   have g2 := hy 2 (by omega)
   rw [k2] at g0 g1 g2
   change DataW.trod enc Tryz.prog W 0 (fun _ => true) held m 3 [c3] = some y0 at g0
   change DataW.trod enc Tryz.prog W 0 (fun _ => true) held m 3 [c4] = some y1 at g1
   change DataW.trod enc Tryz.prog W 0 (fun _ => true) held m 3 [c5] = some y2 at g2
   obtain ⟨b3, e3, _, _⟩ := DataW.trod_int Tryz.underlying3 g0
   obtain ⟨b4, e4, _, _⟩ := DataW.trod_int Tryz.underlying3 g1
   obtain ⟨b5, e5, _, _⟩ := DataW.trod_int Tryz.underlying3 g2
   simp only [List.cons.injEq, and_true] at e0 e1 e2 e3 e4 e5
   subst e0; subst e1; subst e2; subst e3; subst e4; subst e5
   exact ⟨ts, A, c, b1, b2, b3, b4, b5, rfl, hA⟩
end
end Go.Proofs.YtfekohonidggjaaGreatDoor
