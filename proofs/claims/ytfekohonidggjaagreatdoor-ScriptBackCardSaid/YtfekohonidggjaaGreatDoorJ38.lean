/- Several texts in one: see each part's head. -/
import Derived.Test.YtfekohonidggjaaGreatDoorJ25
import Derived.Test.YtfekohonidggjaaGreatDoorJ5
import Derived.Test.YtfekohonidggjaaGreatDoorJ37
import Derived.Test.YtfekohonidggjaaGreatDoorJ4
/- fasciclelaw31.heavy, copied. -/
namespace Go.Proofs.YtfekohonidggjaaGreatDoor
open Go.RowKit

theorem long_le4 {l : List V} (h : ¬ 4000 < longN l) : l.length ≤ 4000 := by
  unfold longN at h
  have h2 : ∀ m : List V, 0 ≤ (m.map fun v => (v.t.size : Int) / 8).sum := by
    intro m
    induction m with
    | nil => simp
    | cons v m ih => simp only [List.map_cons, List.sum_cons]; omega
  have := h2 (l.take 100)
  omega
def HeavyP (l : List Am) (r : Ending) : Prop := ∃ v, r = .returned (.bool v) ∧ (v = false → l.length ≤ 300 ∧ ∀ x ∈ l, x.a.row.length ≤ 4000)
theorem hv_next {l : List Am} {j : Nat} {x : Am} (hx : l[j]? = some x) (h : ∀ u ∈ l.take j, u.a.row.length ≤ 4000) (hn : x.a.row.length ≤ 4000) : Hid (∀ u ∈ l.take (j + 1), u.a.row.length ≤ 4000) := by
  show ∀ u ∈ _, _
  rw [take_snoc hx]
  intro u hu
  rcases List.mem_append.1 hu with h' | h'
  · exact h u h'
  · obtain rfl : u = x := by simpa using h'
    exact hn
set_option maxRecDepth 100000 in
set_option maxHeartbeats 3200000 in
theorem heavy_any (seg bd r0 r1 r2 : Int) (ts : List Ta) (A : Option Addr) (k : Nat) (l : List Am) (L : Option Addr) (lc : Nat) (w : World) (ht : TRow w A k ts) (hl : AmRow w L l) :
    Calls Tryz.prog 7 #[Cf.agg ⟨seg, bd, r0, r1, r2, ts⟩ A k, .slice L l.length lc] w fun r w' => HeavyP l r ∧ Below w.heap.size w w' := by
  have HLG := Lib.hid (fun (W : World) (hW : Below w.heap.size w W) => large13_any ts A k W (ht.ext hW))
  have HAM := Lib.hid hl
  have hlen := hl.2.1
  have hb0 : Below w.heap.size w (w.alloc (.cells #[.slice A ts.length k, .int .i64 seg, .int .i64 bd, .int .i64 r0, .int .i64 r1, .int .i64 r2] 27)) := (by repeat (first | exact Below.refl _ _ | assumption | refine Below.drew ?_ | refine below_drewN ?_ _ | refine Below.alloc ?_ (by simp <;> omega) _))
  have HB0 := Lib.hid hb0
  have HR0 := Lib.hid (Blk.new w #[.slice A ts.length k, .int .i64 seg, .int .i64 bd, .int .i64 r0, .int .i64 r1, .int .i64 r2] 27)
  clear ht hl hb0
  unfold Cf.agg
  simp only
  go_enter Tryz.func7, Tryz.ntmps7
  go_upto_region 1 with fail
  generalize w.alloc (.cells #[.slice A ts.length k, .int .i64 seg, .int .i64 bd, .int .i64 r0, .int .i64 r1, .int .i64 r2] 27) = w1 at HB0 HR0 ⊢
  obtain ⟨d9, d0, d1, d2, d3, d4, d5⟩ := blk6 HR0.out
  go_wp2_with fail
  refine (HLG.out _ HB0.out).mono ?_
  rintro r w2 ⟨⟨v, rfl⟩, hb⟩
  have HB2 := Lib.hid (bt HB0.out hb)
  clear hb d9 d0 d1 d2 d3 d4 d5 HR0 HB0 HLG
  cases v with
  | true =>
    go_wp2_with fail
    go_ret
    exact ⟨⟨true, rfl, fun h => by cases h⟩, HB2.out⟩
  | false =>
    by_cases h300 : 300 < l.length
    · have h3 : (300 : Int) < l.length := by omega
      go_wp2_with fail
      go_ret
      exact ⟨⟨true, rfl, fun h => by cases h⟩, HB2.out⟩
    · have h3 : ¬ (300 : Int) < l.length := by omega
      go_wp2_with fail
      clear h3
      go_loopw [5, 6] (fun n i wr => ∃ (j : Nat) (v : Int), j ≤ l.length ∧ n = .int .i64 v ∧ i = .int .i64 j ∧ 0 ≤ v ∧ v ≤ 32768 ∧ Hid (∀ u ∈ l.take j, u.a.row.length ≤ 4000) ∧ Below w.heap.size w wr) (fun _ i _ => l.length - (intOf i).toNat)
      case atStart => exact ⟨0, 0, by omega, rfl, rfl, by omega, by omega, (by simp : ∀ u ∈ l.take 0, u.a.row.length ≤ 4000), HB2.out⟩
      case round =>
        obtain ⟨j, n, hj, rfl, rfl, hn0, hn1, HAL, hbw⟩ := hrel
        clear HB2
        by_cases hlt : j < l.length
        · obtain ⟨b, off, x, rfl, hb, hlk, hmem, hwf, hvr, c0, c1, c2, c3, c4, c5, c6, c7⟩ := (HAM.out.ext hbw).at_ hlt
          have HLO := Lib.hid (fun (W : World) (hW : Below wr.heap.size wr W) => long_any x.a.row x.A x.c W (hvr.ext hW))
          have HLK := Lib.hid hlk
          have hrl := hvr.2.1
          have hnz := hwf.2.2.2.2.2.2.2
          have i0 : (0 : Int) ≤ j := by omega
          have i1 : (j : Int) < l.length := by omega
          clear hlk hmem hwf hvr
          go_wp2_with fail
          go_quiet (fail)
          have HBN := Lib.hid (show Below wr.heap.size wr (wr.drewN nq) by have := Below.refl wr.heap.size wr; repeat (first | assumption | refine Below.drew ?_ | refine below_drewN ?_ _))
          have c3' := (HBN.out.cell (p := ⟨b, off + j * 8 + 3, none⟩) hb).trans c3
          obtain ⟨n2, hn2⟩ : ∃ q : Int, q = n + 10 + ↑x.a.nm.size + 20 * ↑x.a.row.length := ⟨_, rfl⟩
          rw [← hn2]
          have hn20 : 0 ≤ n2 := by omega
          obtain ⟨lg, hlg⟩ : ∃ lg, lg = decide (4000 < longN x.a.row) := ⟨_, rfl⟩
          have HLG := Lib.hid hlg
          rw [← hlg] at HLO
          clear c0 c1 c2 c3 c4 c5 c6 c7 hn2 hlg
          have hlb : b < (wr.drewN nq).heap.size := Nat.lt_of_lt_of_le hb HBN.out.size
          generalize wr.drewN nq = wx at HBN c3' hlb ⊢
          cases lg with
          | true =>
            go_wp2_with fail
            refine (HLO.out _ HBN.out).mono ?_
            rintro r w3 ⟨rfl, rfl⟩
            go_wp2_with fail
            go_ret
            exact ⟨⟨true, rfl, fun h => by cases h⟩, bt hbw HBN.out⟩
          | false =>
            have hle := long_le4 (of_decide_eq_false HLG.out.symm)
            by_cases h32 : 32768 < n2
            · go_wp2_with fail
              refine (HLO.out _ HBN.out).mono ?_
              rintro r w3 ⟨rfl, rfl⟩
              go_wp2_with fail
              go_ret
              exact ⟨⟨true, rfl, fun h => by cases h⟩, bt hbw HBN.out⟩
            · go_wp2_with fail
              refine (HLO.out _ HBN.out).mono ?_
              rintro r w3 ⟨rfl, rfl⟩
              go_wp2_with fail
              go_roundw
              case rel => exact ⟨j + 1, n2, by omega, rfl, by go_num, by omega, by omega, hv_next HLK.out HAL.out hle, bt hbw HBN.out⟩
              case measure => simp [intOf]; omega
        · go_wp2_with fail
          go_ret
          refine ⟨⟨false, rfl, fun _ => ⟨by omega, ?_⟩⟩, hbw⟩
          have h := HAL.out
          rw [List.take_of_length_le (by omega)] at h
          exact h
theorem am_take {l dn : List Am} {j : Nat} {x : Am} {a : Ac} {P : Option Addr} {k : Nat} (hx : l[j]? = some x) (h : dn.map (·.a) = (l.take j).map (·.a)) (e : a = x.a) : (dn ++ [(⟨a, P, k⟩ : Am)]).map (·.a) = (l.take (j + 1)).map (·.a) := by
  rw [take_snoc hx, List.map_append, List.map_append, h, e]
  rfl
theorem RdI.none_ (w : World) : RdI w.heap.size [] none 0 [] none 0 w := ⟨Nat.le_refl _, World.ownsRow_nil _ _ _ _, World.ownsRow_nil _ _ _ _, (fun _ ht => nomatch ht), (fun _ ht => nomatch ht)⟩
def CopP (l : List Am) (r : Ending) (w' : World) : Prop := ∃ (C : Option Addr) (m : List Am) (c : Nat), r = .returned (.slice C m.length c) ∧ m.map (·.a) = l.map (·.a) ∧ AmRow w' C m
set_option maxRecDepth 100000 in
set_option maxHeartbeats 3200000 in
theorem copied_any (l : List Am) (L : Option Addr) (lc : Nat) (w : World) (hl : AmRow w L l) (h300 : l.length ≤ 300) (hrow : ∀ x ∈ l, x.a.row.length ≤ 4000) :
    Calls Tryz.prog 9 #[.slice L l.length lc] w fun r w' => CopP l r w' ∧ Below w.heap.size w w' := by
  have HAM := Lib.hid hl
  have HRW := Lib.hid hrow
  obtain ⟨ti, hi0, hz0, hz1, hz2⟩ := info_parts info_act
  clear hl hrow
  go_enter Tryz.func9, Tryz.ntmps9
  go_wp2_with fail
  go_loopw [3, 4] (fun o i wr => ∃ (j : Nat) (dn : List Am) (C : Option Addr) (c : Nat), j ≤ l.length ∧ i = .int .i64 j ∧ o = .slice C j c ∧ Hid (dn.map (·.a) = (l.take j).map (·.a)) ∧ dn.length = j ∧ Hid (RdI w.heap.size [] none 0 dn C c wr) ∧ Below w.heap.size w wr) (fun _ i _ => l.length - (intOf i).toNat)
  case atStart => exact ⟨0, [], none, 0, by omega, rfl, rfl, (by simp : _ = _), rfl, RdI.none_ w, Below.refl _ _⟩
  case round =>
    obtain ⟨j, dn, C, c, hj, rfl, rfl, HDN, hdl, HRI, hbw⟩ := hrel
    by_cases hlt : j < l.length
    · obtain ⟨b, off, x, rfl, hb, hlk, hmem, hwf, hvr, c0, c1, c2, c3, c4, c5, c6, c7⟩ := (HAM.out.ext hbw).at_ hlt
      have HLK := Lib.hid hlk
      have HWF := Lib.hid hwf
      have hrl := HRW.out x hmem
      obtain ⟨⟨d, kk, tb, row, n, m, q, nm⟩, XA, xc⟩ := x
      simp only at c0 c1 c2 c3 c4 c5 c6 c7 hvr hrl
      have hb5 : Below wr.heap.size wr (wr.alloc (.cells #[.int .u8 d, .int .u8 kk, .int .i64 tb, .slice XA row.length xc, .int .i64 n, .int .i64 m, .int .i64 q, .string nm] 42)) := (by repeat (first | exact Below.refl _ _ | assumption | refine Below.drew ?_ | refine below_drewN ?_ _ | refine Below.alloc ?_ (by simp <;> omega) _))
      have HB5 := Lib.hid hb5
      have HA5 := Lib.hid (Blk.new wr #[.int .u8 d, .int .u8 kk, .int .i64 tb, .slice XA row.length xc, .int .i64 n, .int .i64 m, .int .i64 q, .string nm] 42)
      have HCP := Lib.hid (copy_any row XA xc (wr.alloc (.cells #[.int .u8 d, .int .u8 kk, .int .i64 tb, .slice XA row.length xc, .int .i64 n, .int .i64 m, .int .i64 q, .string nm] 42)) (hvr.ext hb5) (by omega))
      have hvw := hvr.1
      have HVW := Lib.hid hvw
      have i0 : (0 : Int) ≤ j := by omega
      have i1 : (j : Int) < l.length := by omega
      have HBW := Lib.hid hbw
      clear hlk hmem hwf hvr hb5 hvw hbw
      go_upto_region 6 with fail
      have hsz5 : wr.heap.size < (wr.alloc (.cells #[.int .u8 d, .int .u8 kk, .int .i64 tb, .slice XA row.length xc, .int .i64 n, .int .i64 m, .int .i64 q, .string nm] 42)).heap.size := by simp
      generalize wr.alloc (.cells #[.int .u8 d, .int .u8 kk, .int .i64 tb, .slice XA row.length xc, .int .i64 n, .int .i64 m, .int .i64 q, .string nm] 42) = W5 at HB5 HA5 HCP hsz5 ⊢
      obtain ⟨e8, e0, e1, e2, e3, e4, e5, e6, e7⟩ := blkA HA5.out
      clear c0 c1 c2 c3 c4 c5 c6 c7
      go_wp2_with fail
      refine HCP.out.mono ?_
      rintro r w6 ⟨A', c', rfl, ho6, hb6⟩
      have hA6 := HA5.out.ext hb6
      have hb56 := bt HB5.out hb6
      obtain ⟨w7, rfl, lt⟩ := blk_put hA6
      obtain ⟨pc, pf, pS⟩ := putBlk_facts (w := w7) 42 lt
      have HA7 := Lib.hid (putBlk_blk (w := w7) (b := wr.heap.size) #[.int .u8 d, .int .u8 kk, .int .i64 tb, .slice A' row.length c', .int .i64 n, .int .i64 m, .int .i64 q, .string nm] 42 lt)
      have HO7 := Lib.hid (own_put ho6 lt (by decide) #[.int .u8 d, .int .u8 kk, .int .i64 tb, .slice A' row.length c', .int .i64 n, .int .i64 m, .int .i64 q, .string nm])
      have HB7 := Lib.hid (putBlk_belows hb56 (Nat.le_refl _) #[.int .u8 d, .int .u8 kk, .int .i64 tb, .slice A' row.length c', .int .i64 n, .int .i64 m, .int .i64 q, .string nm])
      have HPB : Hid (∀ p, A' = some p → wr.heap.size ≤ p.block) := fun p hp => by subst hp; have := own_ge ho6 p.block rfl; omega
      clear ho6 hb6 hA6 hb56 e8 e0 e1 e2 e3 e4 e5 e6 e7 HA5 HB5 HCP
      go_upto_region 7 with fail
      clear pc pf pS lt
      generalize putBlk w7 wr.heap.size #[.int .u8 d, .int .u8 kk, .int .i64 tb, .slice A' row.length c', .int .i64 n, .int .i64 m, .int .i64 q, .string nm] 42 = W7 at HA7 HO7 HB7 ⊢
      obtain ⟨e8, e0, e1, e2, e3, e4, e5, e6, e7⟩ := blkA HA7.out
      have hb8 : Below W7.heap.size W7 (W7.alloc (.cells #[.int .u8 d, .int .u8 kk, .int .i64 tb, .slice A' row.length c', .int .i64 n, .int .i64 m, .int .i64 q, .string nm] 42)) := (by repeat (first | exact Below.refl _ _ | assumption | refine Below.drew ?_ | refine below_drewN ?_ _ | refine Below.alloc ?_ (by simp <;> omega) _))
      have HB8 := Lib.hid (bt HB7.out hb8)
      have HG8 := Lib.hid (Blk.new W7 #[.int .u8 d, .int .u8 kk, .int .i64 tb, .slice A' row.length c', .int .i64 n, .int .i64 m, .int .i64 q, .string nm] 42)
      have HV8 : Hid (VRow (W7.alloc (.cells #[.int .u8 d, .int .u8 kk, .int .i64 tb, .slice A' row.length c', .int .i64 n, .int .i64 m, .int .i64 q, .string nm] 42)) A' row) := ((VRow.of_own HVW.out (by omega) HO7.out).1).ext hb8
      have HI8 := Lib.hid (HRI.out.ext HB8.out)
      have hown := HI8.out.oL
      rw [hdl] at hown
      clear hb8
      go_wp2_with (at_builtin; refine wpList_append_lies _ rfl _ _ 28 rfl w.heap.size 42 ti _ 8 88 Tryz.underlying28 hi0 hz0 hz1 hz2 rfl (by decide) (.slice C j c) j (acells dn) rfl hown ⟨W7.heap.size, 0, none⟩ 1 1 (acells [⟨⟨d, kk, tb, row, n, m, q, nm⟩, A', c'⟩]) rfl rfl (cells_blkL (l := acells [⟨⟨d, kk, tb, row, n, m, q, nm⟩, A', c'⟩]) HG8.out) (by simp [acells, Am.cells, Value.oneCell']) (by decide) (by simp only [maxLen]; omega) (by omega) HI8.out.hb _ rfl ?_)
      intro g8 c8 w8 hown8 hg8 hat8 _
      have hat9 : (Value.slice C j c).ownBlock = some g8 ∨ g8 = (W7.alloc (.cells #[.int .u8 d, .int .u8 kk, .int .i64 tb, .slice A' row.length c', .int .i64 n, .int .i64 m, .int .i64 q, .string nm] 42)).heap.size := hat8.imp id (fun e => by rw [e]; simp)
      have hbe := HI8.out.hb
      have hBW8 := (bt HBW.out HB8.out).grown hg8 hbe (own_ge hown)
      rw [← hdl] at hown8 hg8 hat9
      have HI9 := Lib.hid (HI8.out.addL (x := ⟨⟨d, kk, tb, row, n, m, q, nm⟩, A', c'⟩) HWF.out HV8.out (fun _ => FreC.of HRI.out HPB.out) hown8 hg8 hat9)
      clear hown8 hg8 hat8 hat9 hown HG8 HV8 HI8 HB8 HA7 HO7 HB7 e8 e0 e1 e2 e3 e4 e5 e6 e7 hbe
      go_wp2_with fail
      go_roundw
      case rel => exact ⟨j + 1, _, some ⟨g8, 0, none⟩, c8, by omega, by go_num, rfl, am_take HLK.out HDN.out rfl, by simp [hdl], HI9, hBW8⟩
      case measure => simp [intOf]; omega
    · obtain rfl : j = l.length := by omega
      go_wp2_with fail
      go_ret
      have h := HDN.out
      rw [List.take_length] at h
      exact ⟨⟨C, dn, c, by rw [hdl]; rfl, h, HRI.out.arow (by omega)⟩, hbw⟩
end Go.Proofs.YtfekohonidggjaaGreatDoor

/- Lines of a text, plain. -/
namespace Go.Proofs.YtfekohonidggjaaGreatDoor
open Go.RowKit

/-- A text's first line, and what stands behind it. -/
def lnC : List UInt8 → Option (List UInt8 × List UInt8)
  | [] => none
  | c :: r => if c = 10 then some ([], r) else (lnC r).map fun x => (c :: x.1, x.2)
theorem ln_index : ∀ w : List UInt8, match lnC w with
    | some (a, b) => Lib.indexByte w 10 = a.length ∧ w = a ++ 10 :: b
    | none => Lib.indexByte w 10 = -1
  | [] => rfl
  | c :: r => by
    have ih := ln_index r
    unfold lnC Lib.indexByte
    by_cases hc : c = 10
    · subst hc
      simp
    · rw [if_neg hc]
      cases h : lnC r with
      | none =>
        rw [h] at ih
        simp only at ih
        simp [hc, ih]
      | some x =>
        obtain ⟨a, b⟩ := x
        rw [h] at ih
        simp only at ih
        simp only [Option.map_some, List.length_cons, List.cons_append]
        refine ⟨?_, by rw [← ih.2]⟩
        simp [hc, ih.1]
theorem cut_L (w : List UInt8) : Lib.cut w [10] = match lnC w with
    | some (a, b) => (a, b, true)
    | none => (w, [], false) := by
  have h := ln_index w
  unfold Lib.cut
  rw [Lib.index_one]
  cases hc : lnC w with
  | none =>
    rw [hc] at h
    simp only at h
    rw [h]
    rfl
  | some x =>
    obtain ⟨a, b⟩ := x
    rw [hc] at h
    simp only at h
    rw [h.1, if_pos (by omega)]
    simp only [Int.toNat_natCast, List.length_singleton, Prod.mk.injEq, and_true]
    rw [h.2]
    exact ⟨by simp, by simp⟩
theorem ln_some {w a b : List UInt8} (h : lnC w = some (a, b)) : w = a ++ 10 :: b := by
  have := ln_index w
  rw [h] at this
  exact this.2
theorem spW_ne10 (w : List UInt8) : ∃ x xs, spW 10 w = x :: xs := by
  induction w with
  | nil => exact ⟨_, _, rfl⟩
  | cons c r ih =>
    obtain ⟨x, xs, h⟩ := ih
    unfold spW
    split
    · exact ⟨_, _, rfl⟩
    · rw [h]
      exact ⟨_, _, rfl⟩
theorem spW_ln : ∀ w : List UInt8, spW 10 w = match lnC w with
    | some (a, b) => a :: spW 10 b
    | none => [w]
  | [] => rfl
  | c :: r => by
    have ih := spW_ln r
    rw [show spW 10 (c :: r) = (if c = 10 then [] :: spW 10 r else match spW 10 r with
      | [] => [[c]]
      | w :: ws => (c :: w) :: ws) from rfl, show lnC (c :: r) = (if c = 10 then some ([], r) else (lnC r).map fun x => (c :: x.1, x.2)) from rfl]
    by_cases hc : c = 10
    · rw [if_pos hc, if_pos hc]
    · rw [if_neg hc, if_neg hc, ih]
      cases h : lnC r with
      | none => rfl
      | some x =>
        obtain ⟨a, b⟩ := x
        rfl
theorem goP_line {st : Ls} {w a b : List UInt8} (h : lnC w = some (a, b)) : goP st (spW 10 w) = match lineF st a with
    | some st' => goP st' (spW 10 b)
    | none => .bad (st.n + 1) := by
  rw [spW_ln, h]
  obtain ⟨x, xs, hx⟩ := spW_ne10 b
  simp only [hx]
  rfl
theorem goP_end {st : Ls} {w : List UInt8} (h : lnC w = none) : goP st (spW 10 w) = if w = [] ∧ st.ts.length ≠ 0 then .ok st else .bad (st.n + 1) := by
  rw [spW_ln, h]
  rfl
theorem bodyF_facts {st st' : Ls} {l : List UInt8} (h : bodyF st l = some st') (ht : st.ts.length ≤ 99) (hl : st.l.length ≤ st.n) : st'.n = st.n + 1 ∧ st'.ts.length ≤ 99 ∧ st'.l.length ≤ st'.n := by
  unfold bodyF at h
  split at h
  · split at h
    · next hs =>
      injection h with h
      subst h
      have := sch_le hs
      exact ⟨rfl, this, by simp only; omega⟩
    · cases h
  · split at h
    · cases h
    · split at h
      · injection h with h
        subst h
        refine ⟨rfl, ht, ?_⟩
        simp only [List.length_append, List.length_cons, List.length_nil]
        omega
      · cases h
theorem lineF_facts {st st' : Ls} {l : List UInt8} (h : lineF st l = some st') (ht : st.ts.length ≤ 99) (hl : st.l.length ≤ st.n) : st'.n = st.n + 1 ∧ st'.ts.length ≤ 99 ∧ st'.l.length ≤ st'.n := by
  unfold lineF at h
  split at h
  · obtain ⟨e1, e2, e3⟩ := headF_keeps h
    rw [e1, e2, e3]
    exact ⟨rfl, ht, by omega⟩
  · exact bodyF_facts h ht hl
end Go.Proofs.YtfekohonidggjaaGreatDoor

/- The law of region_grow with any relation T of the worlds in Below's place: for regions that store into what they have made themselves. -/
namespace Go.Proofs.YtfekohonidggjaaGreatDoor
open Go.RowKit

def KT (T : World → World → Prop) (k : Known) : Prop := ∀ v w w', T w w' → k.holds v w → k.holds v w'
theorem KT.val {T : World → World → Prop} (c : Value) : KT T (.val c) := fun _ _ _ _ h => h
def StepBodyT (P : Program) (ops : Array Oper) (Q : Exit → Act → World → Prop) (mask : List Bool) (L : List Value) (df : List Deferred) (T : World → World → Prop) (k : Known) (w : World) (d : Nat) (o : Oper) (x : Nat → Value) : Prop :=
  ∀ K' : Act → World → Prop, Shut (∀ v w', T w w' → k.holds v w' → K' ⟨(overlay (upd x d v) 0 mask L).toArray, df⟩ w') →
    if Region.wanted o (yielded ops (overlay x 0 mask L).toArray) = true then Oper.wp P o ⟨(overlay x 0 mask L).toArray, df⟩ w K' Q else K' (Act.put ⟨(overlay x 0 mask L).toArray, df⟩ o.dst undef) w
def StepsT (P : Program) (ops : Array Oper) (Q : Exit → Act → World → Prop) (mask : List Bool) (L : List Value) (df : List Deferred) (T : World → World → Prop) (ps : List Known) (dst : Nat → Nat) (w0 : World) : Nat → List Oper → Prop
  | _, [] => True
  | i, o :: os => (∀ x w, T w0 w → StepGoal ps dst w (StepBodyT P ops Q mask L df T (ps.getD i kAny) w (dst i) o) (depsOf o) x) ∧ StepsT P ops Q mask L df T ps dst w0 (i + 1) os
theorem StepsT.at_ {P : Program} {ops : Array Oper} {Q : Exit → Act → World → Prop} {mask : List Bool} {L : List Value} {df : List Deferred} {T : World → World → Prop} {ps : List Known} {dst : Nat → Nat} {w0 : World} :
    ∀ (os : List Oper) (n i : Nat) (o : Oper), StepsT P ops Q mask L df T ps dst w0 n os → os[i]? = some o → ∀ x w, T w0 w → StepGoal ps dst w (StepBodyT P ops Q mask L df T (ps.getD (n + i) kAny) w (dst (n + i)) o) (depsOf o) x
  | [], _, _, _, _, h => by simp at h
  | o' :: os, n, 0, o, hs, h => by
    simp only [List.getElem?_cons_zero, Option.some.injEq] at h
    subst h
    exact hs.1
  | o' :: os, n, i + 1, o, hs, h => by
    have := StepsT.at_ os (n + 1) i o hs.2 (by simpa using h)
    rw [show n + 1 + i = n + (i + 1) by omega] at this
    exact this
theorem region_free {P : Program} {id : Nat} {ops : Array Oper} {Q : Exit → Act → World → Prop} {L : List Value} {df : List Deferred} {w0 : World} (T : World → World → Prop) (mask : List Bool) (dsts : List Nat) (ps : List Known) (fin : List Nat)
    (hT0 : T w0 w0.drew) (hTt : ∀ {a b c}, T a b → T b c → T a c) (hTk : ∀ k ∈ ps, KT T k)
    (hm : P.follows .mixedOrders = true) (hb : backB ops = true) (hdl : dsts = (List.range ops.size).map (dstN ops)) (hd : distB ops = true) (hfin : fin.all (fun j => decide (j < ops.size)) = true)
    (hs : StepsT P ops Q mask L df T ps (fun i => dsts.getD i 0) w0 0 ops.toList)
    (hdone : ∀ x w, T w0 w → StepGoal ps (fun i => dsts.getD i 0) w (fun x => Q .normal ⟨(overlay x 0 mask L).toArray, df⟩ w) fin x) :
    (Code.region id ops true).wp P Q ⟨L.toArray, df⟩ w0 := by
  have hKT : ∀ i, KT T (ps.getD i kAny) := by
    intro i
    rw [List.getD_eq_getElem?_getD]
    cases h : ps[i]? with
    | none => exact fun _ _ _ _ _ => trivial
    | some k => exact hTk k (List.mem_of_getElem? h)
  have hdg : ∀ i, i < ops.size → dsts.getD i 0 = dstN ops i := by
    intro i hi
    rw [hdl, List.getD_eq_getElem?_getD, List.getElem?_map, List.getElem?_range hi]
    rfl
  refine wp_region_any hm (wpAny_inv (fun listed a w => ∃ x : Nat → Value, a = ⟨(overlay x 0 mask L).toArray, df⟩ ∧ T w0 w ∧ ∀ i, i < ops.size → listed.getD i false = true → (ps.getD i kAny).holds (x (dsts.getD i 0)) w) ?_ ?_ _ _ _ _ (by simp) (by simp) ?_)
  · rintro listed a w i hsz ⟨x, rfl, hbw, hk⟩ hi
    obtain ⟨hun, o, ho, hall⟩ := mem_ready.1 hi
    have his : i < ops.size := (Array.getElem?_eq_some_iff.1 ho).1
    have hst := StepsT.at_ ops.toList 0 i o hs (by rw [Array.getElem?_toList]; exact ho) x w hbw
    rw [Nat.zero_add] at hst
    have hbd := StepGoal.use (depsOf o) x (fun j hj => by
      obtain ⟨e, he, rfl⟩ := List.mem_map.1 hj
      obtain ⟨he1, he2⟩ := List.mem_filter.1 he
      have hl := hall e (by simpa using he1) he2
      refine hk e.on ?_ hl
      rcases Nat.lt_or_ge e.on listed.size with h' | h'
      · omega
      · rw [Array.getD_eq_getD_getElem?, Array.getElem?_eq_none h'] at hl; cases hl) hst
    refine wpOp_step ho (fun K' hK => hbd K' (fun v w' hb' hv => hK _ _ ⟨upd x (dsts.getD i 0) v, rfl, hTt hbw hb', fun j hj hlj => ?_⟩))
    by_cases hji : j = i
    · subst hji; rw [upd_eq]; exact hv
    · have hne : dsts.getD j 0 ≠ dsts.getD i 0 := by
        rw [hdg j hj, hdg i his]
        have h1 := List.all_eq_true.1 (List.all_eq_true.1 hd j (List.mem_range.2 hj)) i (List.mem_range.2 his)
        simpa [hji] using h1
      rw [upd_ne hne]
      refine hKT j _ _ _ hb' (hk j hj ?_)
      rw [Array.getD_eq_getD_getElem?] at hlj ⊢
      rwa [Array.getElem?_setIfInBounds_ne (Ne.symm hji)] at hlj
  · rintro listed a w hsz ⟨x, rfl, hbw, hk⟩ hr
    have hal := all_listed hb hsz hr
    exact StepGoal.use fin x (fun j hj => by
      have hjs : j < ops.size := of_decide_eq_true (List.all_eq_true.1 hfin j hj)
      exact hk j hjs (hal (j + 1) j (by omega) hjs)) (hdone x w hbw)
  · refine ⟨fun j => L.getD j undef, ?_, hT0, fun i hi h => ?_⟩
    · have := overlay_self L [] mask
      rw [List.nil_append, List.length_nil] at this
      rw [this]
    · rw [Array.getD_eq_getD_getElem?] at h
      simp [hi] at h
end Go.Proofs.YtfekohonidggjaaGreatDoor
