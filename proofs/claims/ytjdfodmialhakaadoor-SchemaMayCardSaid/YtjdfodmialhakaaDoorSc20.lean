/- Several texts in one: see each part's head. -/
import Derived.Test.YtjdfodmialhakaaDoorSc13
import Derived.Test.YtjdfodmialhakaaDoorSc12
import Derived.Test.YtjdfodmialhakaaDoorSc15
/- Large tells which schemas are small. -/
namespace Go.Proofs.YtjdfodmialhakaaDoor
open Go.RowKit

/-- Small: at most 30 tables, and none has more than 600 columns. -/
def smallS (ts : List Ta) : Prop := ts.length ≤ 30 ∧ ∀ t ∈ ts, t.cs.length ≤ 600
def LargeP (ts : List Ta) (w : World) (r : Ending) (w' : World) : Prop := (∃ v, r = .returned (.bool v) ∧ (v = false → smallS ts)) ∧ Below w.heap.size w w'
theorem allc_next {ts : List Ta} {k : Nat} {t : Ta} {n m : Int} (ht : ts[k]? = some t) (h : ∀ u ∈ ts.take k, (u.cs.length : Int) ≤ n) (h1 : n ≤ m) (h2 : (t.cs.length : Int) ≤ m) : Hid (∀ u ∈ ts.take (k + 1), (u.cs.length : Int) ≤ m) := by
  show ∀ u ∈ _, _
  rw [take_snoc ht]
  intro u hu
  rcases List.mem_append.1 hu with h' | h'
  · exact Int.le_trans (h u h') h1
  · obtain rfl : u = t := by simpa using h'
    exact h2
set_option maxRecDepth 100000 in
set_option maxHeartbeats 1000000 in
theorem large13_le (ts : List Ta) (A : Option Addr) (c : Nat) (w : World) (ht : TRow w A c ts) :
    Calls Tryd.prog 73 #[.agg #[.slice A ts.length c]] w (LargeP ts w) := by
  have hlen := ht.2.1
  have HT := Lib.hid ht
  clear ht
  go_enter Tryd.func73, Tryd.ntmps73
  go_wp2_with fail
  have h0 : Blk (w.alloc (.cells #[.slice A ts.length c] 103)) w.heap.size #[.slice A ts.length c] 103 := Blk.new w #[.slice A ts.length c] 103
  have hC : Below w.heap.size w (w.alloc (.cells #[.slice A ts.length c] 103)) := (by repeat (first | exact Below.refl _ _ | assumption | refine Below.drew ?_ | refine below_drewN ?_ _ | refine Below.alloc ?_ (by simp <;> omega) _))
  have HA := Lib.hid h0
  have HC := Lib.hid hC
  clear h0 hC
  generalize w.alloc (.cells #[.slice A ts.length c] 103) = W0 at HA HC ⊢
  go_loopw [3, 4] (fun n i wr => ∃ (k : Nat) (v : Int), (k ≤ ts.length ∧ k ≤ 40 ∧ 0 ≤ v ∧ v ≤ k * 562949953421312) ∧ n = .int .i64 v ∧ i = .int .i64 k ∧ Hid (∀ u ∈ ts.take k, (u.cs.length : Int) ≤ v) ∧ Hid (Below W0.heap.size W0 wr)) (fun _ i _ => ts.length - (intOf i).toNat)
  case atStart => exact ⟨0, 0, by omega, rfl, rfl, (by simp : ∀ u ∈ ts.take 0, (u.cs.length : Int) ≤ 0), Below.refl _ _⟩
  case round =>
    obtain ⟨k, n, ⟨hk1, hk40, hn0, hn1⟩, rfl, rfl, HAL, HBW⟩ := hrel
    have HBW' := Lib.hid (bt HC.out HBW.out)
    have g0 := (HA.out.ext HBW.out).cell 0
    simp only [List.getElem?_toArray, List.getElem?_cons_zero] at g0
    have l1 := (HA.out.ext HBW.out).lt
    by_cases hlt : k < ts.length
    · obtain ⟨b, off, t, rfl, hb, hlk, hmem, hwf, hcr, c0, c1, c2, c3, c4⟩ := (HT.out.ext HBW'.out).at_ hlt
      have HCR := Lib.hid hcr
      have hcl := hcr.2.1
      have hnz := hwf.1
      have HLK := Lib.hid hlk
      clear hlk hmem hwf hcr
      have i0 : (0 : Int) ≤ k := by omega
      have i1 : (k : Int) < ts.length := by omega
      by_cases h40 : (k : Int) < 40
      · obtain ⟨nm, cs, key, ref, par, TA, tc⟩ := t
        simp only at c0 c1 c2 c3 c4 HCR hcl hnz
        go_wp2_with fail
        go_quiet (fail)
        go_wp2_with fail
        obtain ⟨n2, hn2⟩ : ∃ q : Int, q = n + ↑cs.length + ↑nm.size / 16 := ⟨_, rfl⟩
        rw [← hn2]
        have hq1 : n ≤ n2 ∧ (cs.length : Int) ≤ n2 ∧ n2 ≤ k * 562949953421312 + 17592186044416 := by omega
        clear hn2
        have HC1 := Lib.hid c1
        clear c0 c1 c2 c3 c4 g0
        have HBN := Lib.hid (show Below wr.heap.size wr (wr.drewN nq) by have := Below.refl wr.heap.size wr; repeat (first | assumption | refine Below.drew ?_ | refine below_drewN ?_ _))
        generalize wr.drewN nq = wx at HBN ⊢
        go_loopw [3, 5] (fun n i wy => ∃ (j : Nat) (v : Int), (j ≤ cs.length ∧ j ≤ 40 ∧ n2 ≤ v ∧ v ≤ n2 + j * 8796093022208) ∧ n = .int .i64 v ∧ i = .int .i64 j ∧ Hid (Below wr.heap.size wr wy)) (fun _ i _ => cs.length - (intOf i).toNat)
        case atStart => exact ⟨0, n2, by omega, rfl, rfl, HBN.out⟩
        case round =>
          obtain ⟨j, n3, ⟨hj1, hj40', hn3, hn4⟩, rfl, rfl, HBY⟩ := hrel
          have c1 := (HBY.out.cell (p := ⟨b, off + k * 5 + 1, none⟩) hb).trans HC1.out
          have g0 := ((HA.out.ext HBW.out).ext HBY.out).cell 0
          simp only [List.getElem?_toArray, List.getElem?_cons_zero] at g0
          have l2 := HBY.out.size
          have h40' : k < 40 := by omega
          by_cases hjl : j < cs.length
          · by_cases hj40 : (j : Int) < 40
            · obtain ⟨bb, of, v, rfl, hbb, hv, hm, hvw, d0, d1, d2⟩ := (HCR.out.ext HBY.out).at_ hjl
              have hvz := hvw.1
              have m1 : (j : Int) < cs.length := by omega
              have m0 : (0 : Int) ≤ j := by omega
              clear hv hm hvw
              go_wp2_with fail
              go_roundw
              case rel => exact ⟨j + 1, _, by omega, rfl, by go_num, HBY.out⟩
              case measure => simp [intOf]; omega
            · have m2 : (40 : Int) ≤ j := by omega
              go_wp2_with fail
              go_roundw
              case rel => exact ⟨k + 1, n3, by omega, rfl, by go_num, allc_next HLK.out HAL.out (by omega) (by simp only; omega), bt HBW.out HBY.out⟩
              case measure => simp [intOf]; omega
          · have m1 : (cs.length : Int) ≤ j := by omega
            go_wp2_with fail
            go_roundw
            case rel => exact ⟨k + 1, n3, by omega, rfl, by go_num, allc_next HLK.out HAL.out (by omega) (by simp only; omega), bt HBW.out HBY.out⟩
            case measure => simp [intOf]; omega
      · have e1 : (30 : Int) < ts.length := by omega
        go_wp2_with fail
        go_ret
        exact ⟨⟨true, rfl, fun h => by cases h⟩, HBW'.out⟩
    · have hk : ¬ (k : Int) < ts.length := by omega
      by_cases e1 : (30 : Int) < ts.length
      · go_wp2_with fail
        go_ret
        exact ⟨⟨true, rfl, fun h => by cases h⟩, HBW'.out⟩
      · have f1 : (ts.length : Int) ≤ 30 := by omega
        by_cases e2 : (600 : Int) < n
        · go_wp2_with fail
          go_ret
          exact ⟨⟨true, rfl, fun h => by cases h⟩, HBW'.out⟩
        · have f2 : n ≤ 600 := by omega
          have hke : k = ts.length := by omega
          have HKE := Lib.hid hke
          clear hke
          go_wp2_with fail
          go_ret
          refine ⟨⟨false, rfl, fun _ => ⟨by omega, fun t ht => ?_⟩⟩, HBW'.out⟩
          have := HAL.out t (by rw [HKE.out, List.take_length]; exact ht)
          omega
end Go.Proofs.YtjdfodmialhakaaDoor

/- fascicleref13.Copy: the same schema, its tables and columns of its own. -/
namespace Go.Proofs.YtjdfodmialhakaaDoor
open Go.RowKit

theorem ccells_length (l : List Co) : (ccells l).length = l.length * 3 := flat_length _ 3 (fun _ => rfl) l
theorem ccells_one (l : List Co) : ∀ u ∈ ccells l, Value.oneCell' u := by
  intro u hu
  obtain ⟨c, _, hc⟩ := List.mem_flatMap.1 hu
  simp only [List.mem_cons, List.not_mem_nil, or_false] at hc
  rcases hc with rfl | rfl | rfl <;> simp [Value.oneCell']
theorem CRow.cells_ {w : World} {l : List Co} {b off : Nat} (h : CRow w (some ⟨b, off, none⟩) l) : ∀ j u, (ccells l)[j]? = some u → w.cell? ((⟨b, off, none⟩ : Addr).add j) = some u := by
  intro j u hu
  have hj : j < l.length * 3 := by
    have := (List.getElem?_eq_some_iff.1 hu).1
    rwa [ccells_length] at this
  obtain ⟨b', off', v, hA, _, hlk, _, _, c0, c1, c2⟩ := h.at_ (k := j / 3) (by omega)
  injection hA with hA
  injection hA with e1 e2
  subst e1; subst e2
  have e : j = j / 3 * 3 + j % 3 := by omega
  rw [e] at hu
  unfold ccells at hu
  rw [flat_get _ 3 (fun _ => rfl) l (j / 3) (j % 3) v hlk (by omega)] at hu
  have ea : (⟨b, off, none⟩ : Addr).add j = ⟨b, off + j / 3 * 3 + j % 3, none⟩ := by
    unfold Addr.add; split
    · next h0 => subst h0; rfl
    · show (⟨b, off + j, none⟩ : Addr) = _
      rw [show off + j = off + j / 3 * 3 + j % 3 by omega]
  rw [ea]
  have hm : j % 3 = 0 ∨ j % 3 = 1 ∨ j % 3 = 2 := by omega
  rcases hm with hm | hm | hm <;> rw [hm] at hu ⊢ <;> simp only [List.getElem?_cons_zero, List.getElem?_cons_succ, Option.some.injEq] at hu <;> subst hu
  · exact c0
  · exact c1
  · exact c2
theorem put_put' (w : World) (b : Nat) (cs ds : Array Value) (t u : TypeId) : putBlk (putBlk w b cs t) b ds u = putBlk w b ds u := by unfold putBlk; simp
theorem map_d_next {ts us : List Ta} {k : Nat} {t : Ta} (hk : ts[k]? = some t) (h : us.map Ta.d = (ts.take k).map Ta.d) : ∀ A c, (us ++ [(⟨t.nm, t.cs, t.key, t.ref, t.par, A, c⟩ : Ta)]).map Ta.d = (ts.take (k + 1)).map Ta.d := by
  intro A c
  rw [take_snoc hk, List.map_append, List.map_append, h]
  rfl
def CopyP (ts : List Ta) (w : World) (r : Ending) (w' : World) : Prop :=
  Below w.heap.size w w' ∧ ∃ us A c, r = .returned (.agg #[.slice A us.length c]) ∧ TRow w' A c us ∧ us.map Ta.d = ts.map Ta.d
set_option maxRecDepth 100000 in
set_option maxHeartbeats 2000000 in
theorem copy13_any (ts : List Ta) (A : Option Addr) (c : Nat) (w : World) (ht : TRow w A c ts) (hs : smallS ts) :
    Calls Tryd.prog 76 #[.agg #[.slice A ts.length c]] w (CopyP ts w) := by
  have hlen := hs.1
  have HT := Lib.hid ht
  have HS := Lib.hid hs.2
  clear ht hs
  obtain ⟨i1, hi1, hx0, hx1, hx2⟩ := info_parts info_col
  obtain ⟨i2, hi2, hy0, hy1, hy2⟩ := info_parts info_tab
  go_enter Tryd.func76, Tryd.ntmps76
  go_wp2_with fail
  have h0 : Blk (((w.alloc (.cells #[.slice A ts.length c] 103)).alloc (.cells #[.slice none 0 0] 103)).alloc (.cells #[.slice none 0 0] 103)) w.heap.size #[.slice A ts.length c] 103 := (by repeat (first | exact Blk.at (by simp) | assumption | refine Blk.drew ?_ | refine Blk.old ?_ _))
  have h1 : Blk (((w.alloc (.cells #[.slice A ts.length c] 103)).alloc (.cells #[.slice none 0 0] 103)).alloc (.cells #[.slice none 0 0] 103)) (w.heap.size + 1) #[.slice none 0 0] 103 := by have := (Blk.new (w.alloc (.cells #[.slice A ts.length c] 103)) #[.slice none 0 0] 103).old (.cells #[.slice none 0 0] 103); simp only [World.size_alloc] at this; exact this
  have h2 : Blk (((w.alloc (.cells #[.slice A ts.length c] 103)).alloc (.cells #[.slice none 0 0] 103)).alloc (.cells #[.slice none 0 0] 103)) (w.heap.size + 1 + 1) #[.slice none 0 0] 103 := (by repeat (first | exact Blk.at (by simp) | assumption | refine Blk.drew ?_ | refine Blk.old ?_ _))
  have hC : Below w.heap.size w (((w.alloc (.cells #[.slice A ts.length c] 103)).alloc (.cells #[.slice none 0 0] 103)).alloc (.cells #[.slice none 0 0] 103)) := (by repeat (first | exact Below.refl _ _ | assumption | refine Below.drew ?_ | refine below_drewN ?_ _ | refine Below.alloc ?_ (by simp <;> omega) _))
  generalize ((w.alloc (.cells #[.slice A ts.length c] 103)).alloc (.cells #[.slice none 0 0] 103)).alloc (.cells #[.slice none 0 0] 103) = W0 at h0 h1 h2 hC ⊢
  have q1 : w.heap.size ≤ w.heap.size + 1 := by omega
  have q2 : w.heap.size ≤ w.heap.size + 1 + 1 := by omega
  have q3 : w.heap.size + 1 ≠ w.heap.size + 1 + 1 := by omega
  have q4 : w.heap.size ≠ w.heap.size + 1 := by omega
  have q5 : w.heap.size ≠ w.heap.size + 1 + 1 := by omega
  generalize w.heap.size + 1 + 1 = sb at h2 q2 q3 q5 ⊢
  generalize w.heap.size + 1 = r0 at h1 q1 q3 q4 ⊢
  generalize hX : w.heap.size = X at h0 hC q1 q2 q3 q4 q5 ⊢
  have HX := Lib.hid hX
  clear hX
  have HGI0 : Hid (GI w r0 sb W0.heap.size none 0 [] W0) := ⟨⟨by rw [HX.out]; exact q1, by rw [HX.out]; exact q2, h1.lt, h2.lt, q3, by simp⟩, h1, h2, World.ownsRow_nil _ _ _ _, (fun g h => by cases h), (fun t h => by cases h), by rw [HX.out]; exact hC⟩
  go_loopw [4] (fun i wr => ∃ (k : Nat) (A' : Option Addr) (c' : Nat) (us : List Ta), i = .int .i64 k ∧ k ≤ ts.length ∧ us.length = k ∧ Hid (us.map Ta.d = (ts.take k).map Ta.d) ∧ Hid (Blk wr X #[.slice A ts.length c] 103) ∧ Hid (GI w r0 sb wr.heap.size A' c' us wr)) (fun i _ => ts.length - (intOf i).toNat)
  case atStart => exact ⟨0, none, 0, [], rfl, by omega, rfl, (by simp : _ = _), Lib.hid h0, HGI0⟩
  case round =>
    clear HGI0 h0 h1 h2 hC
    obtain ⟨k, A', c', us, rfl, hk, hul, HUD, HB0, HGI⟩ := hrel
    have z0 := HB0.out.cell 0
    simp only [List.getElem?_toArray, List.getElem?_cons_zero] at z0
    have hl0 := HB0.out.lt
    have hbw := HGI.out.2.2.2.2.2.2
    by_cases hkl : k < ts.length
    · obtain ⟨b, off, t, rfl, hbb, htk, htm, htw, hcr, d0, d1, d2, d3, d4⟩ := (HT.out.ext hbw).at_ hkl
      have HTK := Lib.hid htk
      have HTW := Lib.hid htw
      have HCR := Lib.hid hcr
      have HCW := Lib.hid hcr.1
      have h600 := HS.out t htm
      have HUN := Lib.hid (map_d_next (us := us) HTK.out HUD.out)
      obtain ⟨nm, cs, key, ref, par, TA, tc⟩ := t
      simp only at h600 d0 d1 d2 d3 d4 HCR
      have hB0l := hl0
      clear htk htw hcr htm hbw HUD
      go_upto_region 6 with fail
      have hlow : Below wr.heap.size wr (wr.alloc (.cells #[.string nm, .slice TA cs.length tc, .int .i64 key, .int .i64 ref, .int .i64 par] 116)) := (by repeat (first | exact Below.refl _ _ | assumption | refine Below.drew ?_ | refine below_drewN ?_ _ | refine Below.alloc ?_ (by simp <;> omega) _))
      have HV := Lib.hid (Blk.new wr #[.string nm, .slice TA cs.length tc, .int .i64 key, .int .i64 ref, .int .i64 par] 116)
      have HGI1 := Lib.hid (HGI.out.low hlow)
      have HB1 := Lib.hid (HB0.out.ext hlow)
      have HCR1 := Lib.hid (HCR.out.ext hlow)
      have hs1 := hlow.size
      generalize wr.alloc (.cells #[.string nm, .slice TA cs.length tc, .int .i64 key, .int .i64 ref, .int .i64 par] 116) = w1 at HV HGI1 HB1 HCR1 hs1 ⊢
      generalize wr.heap.size = B at HV HGI1 hB0l hs1 ⊢
      clear HGI HB0 HCR z0 hl0 hlow d0 d1 d2 d3 d4
      go_cut [] (fun wx => ∃ (CA : Option Addr) (cc base : Nat), Hid (Blk wx B #[.string nm, .slice CA cs.length cc, .int .i64 key, .int .i64 ref, .int .i64 par] 116) ∧ Hid (wx.ownsRow base 180 3 (.slice CA cs.length cc) cs.length (ccells cs)) ∧ Hid (Below B w1 wx))
      case first =>
        have hv := HV.out
        rcases TA with _ | ad
        · obtain rfl : cs = [] := by
            rcases cs with _ | ⟨v, l⟩
            · rfl
            · obtain ⟨_, _, h, _⟩ := HCR1.out.2.2 (by simp)
              cases h
          clear HGI1 HB1 HCR1
          obtain ⟨w20, rfl, lt⟩ := blk_put hv
          obtain ⟨pc, pf, pS⟩ := putBlk_facts (w := w20) 116 lt
          clear hv HV hs1
          go_wp2_with fail
          go_meet
          refine ⟨none, 0, 0, putBlk_blk _ _ lt, World.ownsRow_nil _ _ _ _, ?_⟩
          have := putBlk_below (w := putBlk w20 B #[.string nm, .slice none ([] : List Co).length tc, .int .i64 key, .int .i64 ref, .int .i64 par] 116) #[.string nm, .slice none 0 0, .int .i64 key, .int .i64 ref, .int .i64 par] 116 (Below.refl B _) (Nat.le_refl B)
          rwa [put_put'] at this
        · have hc : ∀ j u, (ccells cs)[j]? = some u → w1.cell? (ad.add j) = some u := by
            rcases cs with _ | ⟨v, l⟩
            · intro j u h; simp [ccells] at h
            · obtain ⟨b', off', h, _⟩ := HCR1.out.2.2 (by simp)
              injection h with h
              subst h
              exact HCR1.out.cells_
          have HCC := Lib.hid hc
          have h0n : w1.ownsRow w1.heap.size 180 3 (.slice none 0 0) 0 [] := ⟨rfl, .inl ⟨rfl, rfl⟩⟩
          obtain ⟨_, y1, _, _, _⟩ := blk5 hv
          have lv := hv.lt
          clear HGI1 HB1 HCR1 hc hv
          go_wp2_with (at_builtin; refine wpList_append_own _ rfl _ _ 114 rfl w1.heap.size 180 i1 _ 3 24 Tryd.underlying114 hi1 hx0 hx1 hx2 rfl (by decide) (.slice none 0 0) 0 [] rfl h0n ad cs.length tc (ccells cs) rfl (ccells_length cs) HCC.out (ccells_one cs) ?c3 ?c4 ?c5 ?_)
          case c3 => simp only [maxLen]; omega
          case c4 => omega
          intro v' w2 hown hg _
          have hb12 : Below w1.heap.size w1 w2 := (Below.refl _ _).grown hg (Nat.le_refl _) (by simp [Value.ownBlock])
          obtain ⟨CA, cc, rfl⟩ : ∃ CA cc, v' = .slice CA cs.length cc := by
            rcases hown.2 with ⟨rfl, h⟩ | ⟨g, cap, cur, rfl, _⟩
            · exact ⟨none, 0, by rw [h]⟩
            · exact ⟨_, _, rfl⟩
          have hv2 := HV.out.ext hb12
          have HO := Lib.hid (own_below_put hown hv2 (by decide) #[.string nm, .slice CA cs.length cc, .int .i64 key, .int .i64 ref, .int .i64 par])
          have HBB := Lib.hid (putBlk_below (w := w2) #[.string nm, .slice CA cs.length cc, .int .i64 key, .int .i64 ref, .int .i64 par] 116 (Below.mono hb12 (Nat.le_of_lt lv)) (Nat.le_refl B))
          clear hown hg hb12 h0n y1 HCC
          obtain ⟨w20, rfl, lt⟩ := blk_put hv2
          rw [put_put'] at HO HBB
          obtain ⟨pc, pf, pS⟩ := putBlk_facts (w := w20) 116 lt
          clear hv2
          go_wp2_with fail
          go_meet
          exact ⟨CA, cc, w1.heap.size, putBlk_blk _ _ lt, HO, HBB⟩
      case rest =>
        obtain ⟨CA, cc, base, HTB, HCO, HBL⟩ := hcut
        rename World => w2
        have HGI2 := HGI1.out.low HBL.out
        have HB2 := Lib.hid (blk_low HB1.out HBL.out hB0l)
        have hsw := HBL.out.size
        clear HV HGI1 HB1 HCR1 HBL
        obtain ⟨⟨o1, o2, o3, o4, o5, o6⟩, hr0, hsb, hTo, hTl, hTk, hbw⟩ := HGI2
        obtain ⟨y0, y1, y2, y3, y4⟩ := blk5 HTB.out
        have z0 := hsb.cell 0
        simp only [List.getElem?_toArray, List.getElem?_cons_zero] at z0
        have hltS := hsb.lt
        have hltB := HTB.out.lt
        have HR0 := Lib.hid hr0
        have HSB := Lib.hid hsb
        have HTKK := Lib.hid hTk
        have hszw := hbw.size
        have HJ := Lib.hid hul
        rw [hul] at z0 hTo
        clear hr0 hsb hTk hTl hul o6
        go_wp2_with (at_builtin; refine wpList_append_own _ rfl _ _ 101 rfl w.heap.size 116 i2 _ 5 64 Tryd.underlying101 hi2 hy0 hy1 hy2 rfl (by decide) _ k _ rfl (hTo.alloc _) ⟨w2.heap.size, 0, none⟩ 1 1 [.string nm, .slice CA cs.length cc, .int .i64 key, .int .i64 ref, .int .i64 par] rfl rfl (cells_blk5 (Blk.new _ _ _)) ?d2 ?d3 ?d4 ?d5 ?_)
        case d2 => simp [Value.oneCell']
        case d3 => simp only [maxLen]; omega
        case d4 => omega
        case d5 => first | omega | (simp; omega)
        intro v' w9 hown3 hg3 _
        obtain ⟨A2, c2, rfl⟩ := own_form hown3
        have hoL := hTo.alloc (.cells #[.string nm, .slice CA cs.length cc, .int .i64 key, .int .i64 ref, .int .i64 par] 116)
        have hbw9 : Below w.heap.size w w9 := (hbw.alloc hszw _).grown hg3 (by simp; omega) (own_ge hTo)
        have HB9 := Lib.hid ((HB2.out.old _).grown hoL (by decide) hg3)
        have HR09 := Lib.hid ((HR0.out.old _).grown hoL (by decide) hg3)
        have hSB9 := (HSB.out.old (.cells #[.string nm, .slice CA cs.length cc, .int .i64 key, .int .i64 ref, .int .i64 par] 116)).grown hoL (by decide) hg3
        have HCO9 := Lib.hid (own_grown (HCO.out.alloc (.cells #[.string nm, .slice CA cs.length cc, .int .i64 key, .int .i64 ref, .int .i64 par] 116)) hg3 (own_far (HCO.out.alloc _) hoL (by decide)))
        have hs89 : w2.heap.size ≤ w9.heap.size := by have := hg3.size; simp at this; omega
        have HTK9 : Hid (∀ t ∈ us, TOk w9.heap.size t w9) := fun t ht => by
          obtain ⟨p1, p2, p3, p4, base, p5⟩ := HTKK.out t ht
          exact ⟨p1, p2, p3, fun g hg => by have := p4 g hg; omega, base, own_grown (p5.alloc _) hg3 (own_far (p5.alloc _) hoL (by decide))⟩
        have HTN9 : Hid (TOk w9.heap.size ⟨nm, cs, key, ref, par, CA, cc⟩ w9) :=
          ⟨HTW.out, HCW.out, by simp only; omega, obl_own HCO9.out, base, HCO9.out⟩
        have HLN : Hid ((us ++ [(⟨nm, cs, key, ref, par, CA, cc⟩ : Ta)]).length = k + 1) := by show _ = _; rw [List.length_append, HJ.out]; rfl
        have HTO9 : Hid (w9.ownsRow w.heap.size 116 5 (.slice A2 (k + 1) c2) (k + 1) (tcells (us ++ [(⟨nm, cs, key, ref, par, CA, cc⟩ : Ta)]))) := by
          show World.ownsRow _ _ _ _ _ _ _
          unfold tcells
          rw [List.flatMap_append]
          exact hown3
        have HOB9 := Lib.hid (obl_own HTO9.out)
        clear hown3 hg3 hoL HB2 HCO HTB HR0 HSB HTKK HCO9 hTo hbw y0 y1 y2 y3 y4 z0 hltS hltB hs89
        have HB10 := Lib.hid (putBlk_ne (t := 103) (cs := #[.slice A2 (k + 1) c2]) HB9.out q5)
        have HGI10 : Hid (GI w r0 sb (putBlk w9 sb #[.slice A2 (k + 1) c2] 103).heap.size A2 c2 (us ++ [(⟨nm, cs, key, ref, par, CA, cc⟩ : Ta)]) (putBlk w9 sb #[.slice A2 (k + 1) c2] 103)) := by
          have hl := hSB9.lt
          have hl0 := HR09.out.lt
          refine ⟨⟨o1, o2, by rw [putBlk_size]; exact hl0, by rw [putBlk_size]; exact hl, o5, by rw [HLN.out]; omega⟩, putBlk_ne HR09.out o5, ?_, ?_, ?_, ?_, putBlk_below _ _ hbw9 o2⟩
          · rw [HLN.out]
            exact putBlk_blk _ _ hl
          · rw [HLN.out]
            exact own_below_put HTO9.out hSB9 (by decide) _
          · rw [HLN.out, putBlk_size]
            exact HOB9.out
          · rw [putBlk_size]
            intro t ht
            have key' : ∀ u, TOk w9.heap.size u w9 → TOk w9.heap.size u (putBlk w9 sb #[.slice A2 (k + 1) c2] 103) := fun u hu => by
              obtain ⟨p1, p2, p3, p4, base, p5⟩ := hu
              exact ⟨p1, p2, p3, p4, base, own_below_put p5 hSB9 (by decide) _⟩
            rcases List.mem_append.1 ht with h | h
            · exact key' t (HTK9.out t h)
            · obtain rfl : t = _ := by simpa using h
              exact key' _ HTN9.out
        have HUD2 := Lib.hid (HUN.out CA cc)
        clear HB9 HR09 HTK9 HTN9 HTO9 HOB9 hbw9 HUN
        obtain ⟨w23, rfl, lt⟩ := blk_put hSB9
        rw [put_put'] at HB10 HGI10
        obtain ⟨pc, pf, pS⟩ := putBlk_facts (w := w23) 103 lt
        clear hSB9
        go_wp2_with fail
        go_roundw
        case rel => exact ⟨k + 1, A2, c2, us ++ [⟨nm, cs, key, ref, par, CA, cc⟩], by go_num, by omega, HLN.out, HUD2, HB10, HGI10⟩
        case measure => simp [intOf]; omega
    · have hke : k = ts.length := by omega
      clear hul
      have HUE : Hid (us.map Ta.d = ts.map Ta.d) := by
        show _ = _
        rw [HUD.out, hke, List.take_length]
      clear hke
      have hGr := HGI.out.2.1
      have h8 := (HGI.out.2.2.1).cell 0
      simp only [List.getElem?_toArray, List.getElem?_cons_zero] at h8
      have hl8 := (HGI.out.2.2.1).lt
      have HGB := Lib.hid (HGI.out.2.2.2.2.2.2)
      have HROW := Lib.hid (fun cs => HGI.out.trow_put hGr cs)
      have h8' : ∀ cs, (putBlk wr r0 cs 103).cell? ⟨sb, 0, none⟩ = some (.slice A' us.length c') := fun cs => by
        have e : putBlk wr r0 #[.slice none 0 0] 103 = wr := putBlk_self hGr
        have := putBlk_cell_ne (w := wr) (Ne.symm q3) #[.slice none 0 0] cs 103 0
        rw [this, e]
        exact h8
      have z0' : ∀ cs, (putBlk wr r0 cs 103).cell? ⟨X, 0, none⟩ = some (.slice A ts.length c) := fun cs => by
        have e : putBlk wr r0 #[.slice none 0 0] 103 = wr := putBlk_self hGr
        have := putBlk_cell_ne (w := wr) q4 #[.slice none 0 0] cs 103 0
        rw [this, e]
        exact z0
      clear h8 HGI HB0 hbw z0 HUD
      obtain ⟨w20, rfl, lt⟩ := blk_put hGr
      obtain ⟨pc, pf, pS⟩ := putBlk_facts (w := w20) 103 lt
      have h9 := h8' #[.slice none 0 0]
      have z9 := z0' #[.slice none 0 0]
      rw [put_put'] at h9 z9
      have HROW2 := Lib.hid (HROW.out #[.slice A' us.length c'])
      rw [put_put'] at HROW2
      clear hGr h8' z0' HROW
      go_wp2_with fail
      refine bodyPost_ret (v := .agg #[.slice A' us.length c']) (by simp [results, Tryd.results76, go_sem, pc]) rfl ?_
      exact ⟨putBlk_belows HGB.out (by rw [HX.out]; exact q1) _, us, A', c', rfl, HROW2.out, HUE.out⟩
end Go.Proofs.YtjdfodmialhakaaDoor

/- SchemaBack's walk: what was put is got; of what is got the bytes are what it was got of. -/
namespace Go.Proofs.YtjdfodmialhakaaDoor
open Go.RowKit

theorem putS_len {ts : List Ta} (h : schB ts = true) : (putS ts).length ≤ 2500 := by
  have := hdS_len h ts.length
  unfold hdS at this
  rwa [List.take_length] at this
theorem sameS_t {ts us : List Ta} (h : ts.map Ta.d = us.map Ta.d) : sameS ts us = true := decide_eq_true h

set_option maxRecDepth 100000 in
set_option maxHeartbeats 2000000 in
theorem schback_walk (ts : List Ta) (A : Option Addr) (c : Nat) (s : ByteArray) (w : World) (hT : Tabs w) (ht : TRow w A c ts) (hz : s.size ≤ 140737488355328) :
    Calls Tryd.prog 14 #[.agg #[.slice A ts.length c], .string s] w fun r w' => r = .returned (.bool true) ∧ Below w.heap.size w w' := by
  have hlen := ht.2.1
  have HLG := Lib.hid (fun (W : World) (hW : Below w.heap.size w W) => large13_le ts A c W (ht.ext hW))
  have HAL := Lib.hid (fun (W : World) (hW : Below w.heap.size w W) => alive13_any W (hT.ext hW))
  have HCP := Lib.hid (fun (W : World) (hW : Below w.heap.size w W) (hs : smallS ts) => copy13_any ts A c W (ht.ext hW) hs)
  have HPT := Lib.hid (fun (us : List Ta) (B : Option Addr) (d : Nat) (W : World) (hW : Below w.heap.size w W) (hu : TRow W B d us) => putsch_any us B d W (hT.ext hW) hu)
  have HGT := Lib.hid (fun (b : ByteArray) (W : World) (hW : Below w.heap.size w W) (hb : b.size ≤ 140737488355328) => getsch_any b W (hT.ext hW) hb)
  have HSM := Lib.hid (fun (us : List Ta) (B : Option Addr) (d : Nat) (W : World) (hW : Below w.heap.size w W) (hu : TRow W B d us) => sameS_any us ts B A d c W hu (ht.ext hW))
  clear ht hT
  go_enter Tryd.func14, Tryd.ntmps14
  have h0 : Blk (w.alloc (.cells #[.slice A ts.length c] 103)) w.heap.size #[.slice A ts.length c] 103 := Blk.new w #[.slice A ts.length c] 103
  have hC : Below w.heap.size w (w.alloc (.cells #[.slice A ts.length c] 103)) := (by repeat (first | exact Below.refl _ _ | assumption | refine Below.drew ?_ | refine below_drewN ?_ _ | refine Below.alloc ?_ (by simp <;> omega) _))
  have HA := Lib.hid h0
  have HC := Lib.hid hC
  clear h0 hC
  go_upto_region 1 with fail
  generalize w.alloc (.cells #[.slice A ts.length c] 103) = W0 at HA HC ⊢
  have s0 := HA.out.cell 0
  simp only [List.getElem?_toArray, List.getElem?_cons_zero] at s0
  have hl0 := HA.out.lt
  go_wp2_with fail
  refine (HLG.out _ HC.out).mono ?_
  rintro r w1 ⟨⟨v, rfl, hv⟩, hb⟩
  have HA := Lib.hid (HA.out.ext hb)
  have HC := Lib.hid (bt HC.out hb)
  have HV := Lib.hid hv
  clear s0 hl0 hb HLG hv
  by_cases hbig : v = true ∨ 16384 < s.size
  · rcases hbig with rfl | hbig
    · go_wp2_with fail
      refine (HAL.out _ HC.out).mono ?_
      rintro r w2 ⟨rfl, hb⟩
      have HC := Lib.hid (bt HC.out hb)
      clear hb
      go_wp2_with fail
      go_ret
      exact ⟨rfl, HC.out⟩
    · cases v
      all_goals
        go_wp2_with fail
        refine (HAL.out _ HC.out).mono ?_
        rintro r w2 ⟨rfl, hb⟩
        have HC := Lib.hid (bt HC.out hb)
        clear hb
        go_wp2_with fail
        go_ret
        exact ⟨rfl, HC.out⟩
  · obtain ⟨hv, hs16⟩ : v = false ∧ s.size ≤ 16384 := by
      simp only [not_or, Bool.not_eq_true] at hbig
      exact ⟨hbig.1, by omega⟩
    subst hv
    have HSMALL := Lib.hid (HV.out rfl)
    clear HV hbig
    have s0 := HA.out.cell 0
    simp only [List.getElem?_toArray, List.getElem?_cons_zero] at s0
    have hl0 := HA.out.lt
    go_wp2_with fail
    refine (HCP.out _ HC.out HSMALL.out).mono ?_
    rintro r w2 ⟨hb, us, B, d, rfl, hur, hud⟩
    have HA := Lib.hid (HA.out.ext hb)
    have HC := Lib.hid (bt HC.out hb)
    have HU := Lib.hid hur
    have hS : schB us = schB ts := schB_d hud
    have hP : putS us = putS ts := putS_d hud
    have HPU := Lib.hid (HPT.out us B d w2 HC.out hur)
    unfold putSR at HPU
    rw [hS, hP] at HPU
    clear s0 hl0 hb hur hud hS hP HCP HSMALL HU
    -- the part behind: the text's schema
    have key : ∀ (wx : World), Hid (Below w.heap.size w wx) → True := fun _ _ => trivial
    clear key
    cases hs : schB ts
    · rw [hs, okE_f' rfl, if_neg (by decide)] at HPU
      clear hs
      go_wp2_with fail
      refine HPU.out.mono ?_
      rintro r w3 ⟨rfl, hb⟩
      have HC := Lib.hid (bt HC.out hb)
      clear hb HA HPU HSM
      go_wp2_with fail
      refine (HGT.out s _ HC.out (by omega)).mono ?_
      rintro r w7 ⟨hb, h⟩
      rcases h with ⟨T, B, d, rfl, htr, hsT, hpT, _⟩ | ⟨rfl, hno⟩
      · have HCD : Hid (Below w.heap.size w (w7.alloc (.cells #[.slice B T.length d] 103))) := bt (bt HC.out hb) (by repeat (first | exact Below.refl _ _ | assumption | refine Below.drew ?_ | refine below_drewN ?_ _ | refine Below.alloc ?_ (by simp <;> omega) _))
        have HB := Lib.hid (Blk.new w7 #[.slice B T.length d] 103)
        have HP2 := Lib.hid (HPT.out T B d _ HCD.out (htr.ext (by repeat (first | exact Below.refl _ _ | assumption | refine Below.drew ?_ | refine below_drewN ?_ _ | refine Below.alloc ?_ (by simp <;> omega) _))))
        unfold putSR at HP2
        rw [hsT, okE_t' rfl, if_pos rfl, hpT] at HP2
        have e9 : (⟨s.data.toList.toArray⟩ : ByteArray) = s := by simp
        rw [e9] at HP2
        clear hb htr hsT hpT HC e9
        go_upto_region 9 with fail
        generalize w7.alloc (.cells #[.slice B T.length d] 103) = w8 at HB HCD HP2 ⊢
        have s1 := HB.out.cell 0
        simp only [List.getElem?_toArray, List.getElem?_cons_zero] at s1
        have hl1 := HB.out.lt
        go_wp2_with fail
        refine HP2.out.mono ?_
        rintro r w9 ⟨rfl, hb⟩
        have HC := Lib.hid (bt HCD.out hb)
        clear hb HB HCD HP2 s1 hl1
        go_wp2_with fail
        refine (HAL.out _ HC.out).mono ?_
        rintro r w10 ⟨rfl, hb⟩
        have HC := Lib.hid (bt HC.out hb)
        clear hb
        go_wp2_with fail
        go_ret
        exact ⟨rfl, HC.out⟩
      · have HCD : Hid (Below w.heap.size w (w7.alloc (.cells #[.slice none 0 0] 103))) := bt (bt HC.out hb) (by repeat (first | exact Below.refl _ _ | assumption | refine Below.drew ?_ | refine below_drewN ?_ _ | refine Below.alloc ?_ (by simp <;> omega) _))
        have HB := Lib.hid (Blk.new w7 #[.slice none 0 0] 103)
        clear hb HC hno
        go_upto_region 9 with fail
        generalize w7.alloc (.cells #[.slice none 0 0] 103) = w8 at HB HCD ⊢
        have s1 := HB.out.cell 0
        simp only [List.getElem?_toArray, List.getElem?_cons_zero] at s1
        have hl1 := HB.out.lt
        go_wp2_with fail
        refine (HAL.out _ HCD.out).mono ?_
        rintro r w10 ⟨rfl, hb⟩
        have HC := Lib.hid (bt HCD.out hb)
        clear hb
        go_wp2_with fail
        go_ret
        exact ⟨rfl, HC.out⟩
    · rw [hs, okE_t' rfl, if_pos rfl] at HPU
      have HST := Lib.hid hs
      have hlp := putS_len hs
      obtain ⟨PS, hPS⟩ : ∃ q : ByteArray, q = ⟨(putS ts).toArray⟩ := ⟨_, rfl⟩
      rw [← hPS] at HPU
      have HPSL : Hid (PS.data.toList = putS ts) := by show _ = _; rw [hPS]
      have hPz : PS.size ≤ 140737488355328 := by
        have : PS.data.toList.length = PS.size := by simp
        rw [HPSL.out] at this
        omega
      clear hs hPS hlp
      go_wp2_with fail
      refine HPU.out.mono ?_
      rintro r w3 ⟨rfl, hb⟩
      have HA := Lib.hid (HA.out.ext hb)
      have HC := Lib.hid (bt HC.out hb)
      clear hb HPU
      go_wp2_with fail
      refine (HGT.out PS _ HC.out hPz).mono ?_
      rintro r w4 ⟨hb, h⟩
      rcases h with ⟨T, B, d, rfl, htr, hsT, hpT, huq⟩ | ⟨rfl, hno⟩
      · have hTd : T.map Ta.d = ts.map Ta.d := (huq ts HST.out HPSL.out.symm).symm
        have HCD : Hid (Below w.heap.size w (w4.alloc (.cells #[.slice B T.length d] 103))) := bt (bt HC.out hb) (by repeat (first | exact Below.refl _ _ | assumption | refine Below.drew ?_ | refine below_drewN ?_ _ | refine Below.alloc ?_ (by simp <;> omega) _))
        have HA := Lib.hid ((HA.out.ext hb).old (.cells #[.slice B T.length d] 103))
        have HB := Lib.hid (Blk.new w4 #[.slice B T.length d] 103)
        have HSS := Lib.hid (HSM.out T B d _ HCD.out (htr.ext (by repeat (first | exact Below.refl _ _ | assumption | refine Below.drew ?_ | refine below_drewN ?_ _ | refine Below.alloc ?_ (by simp <;> omega) _))))
        rw [sameS_t hTd] at HSS
        clear hb htr hsT hpT huq hTd HC HSM
        go_upto_region 6 with fail
        generalize w4.alloc (.cells #[.slice B T.length d] 103) = w5 at HA HB HCD HSS ⊢
        have s0 := HA.out.cell 0
        simp only [List.getElem?_toArray, List.getElem?_cons_zero] at s0
        have hl0 := HA.out.lt
        have s1 := HB.out.cell 0
        simp only [List.getElem?_toArray, List.getElem?_cons_zero] at s1
        have hl1 := HB.out.lt
        go_wp2_with fail
        refine HSS.out.mono ?_
        rintro r w6 ⟨rfl, hb⟩
        have HC := Lib.hid (bt HCD.out hb)
        clear hb HA HB HCD HSS s0 s1 hl0 hl1
        go_wp2_with fail
        refine (HGT.out s _ HC.out (by omega)).mono ?_
        rintro r w7 ⟨hb, h⟩
        rcases h with ⟨T, B, d, rfl, htr, hsT, hpT, _⟩ | ⟨rfl, hno⟩
        · have HCD : Hid (Below w.heap.size w (w7.alloc (.cells #[.slice B T.length d] 103))) := bt (bt HC.out hb) (by repeat (first | exact Below.refl _ _ | assumption | refine Below.drew ?_ | refine below_drewN ?_ _ | refine Below.alloc ?_ (by simp <;> omega) _))
          have HB := Lib.hid (Blk.new w7 #[.slice B T.length d] 103)
          have HP2 := Lib.hid (HPT.out T B d _ HCD.out (htr.ext (by repeat (first | exact Below.refl _ _ | assumption | refine Below.drew ?_ | refine below_drewN ?_ _ | refine Below.alloc ?_ (by simp <;> omega) _))))
          unfold putSR at HP2
          rw [hsT, okE_t' rfl, if_pos rfl, hpT] at HP2
          have e9 : (⟨s.data.toList.toArray⟩ : ByteArray) = s := by simp
          rw [e9] at HP2
          clear hb htr hsT hpT HC e9
          go_upto_region 9 with fail
          generalize w7.alloc (.cells #[.slice B T.length d] 103) = w8 at HB HCD HP2 ⊢
          have s1 := HB.out.cell 0
          simp only [List.getElem?_toArray, List.getElem?_cons_zero] at s1
          have hl1 := HB.out.lt
          go_wp2_with fail
          refine HP2.out.mono ?_
          rintro r w9 ⟨rfl, hb⟩
          have HC := Lib.hid (bt HCD.out hb)
          clear hb HB HCD HP2 s1 hl1
          go_wp2_with fail
          refine (HAL.out _ HC.out).mono ?_
          rintro r w10 ⟨rfl, hb⟩
          have HC := Lib.hid (bt HC.out hb)
          clear hb
          go_wp2_with fail
          go_ret
          exact ⟨rfl, HC.out⟩
        · have HCD : Hid (Below w.heap.size w (w7.alloc (.cells #[.slice none 0 0] 103))) := bt (bt HC.out hb) (by repeat (first | exact Below.refl _ _ | assumption | refine Below.drew ?_ | refine below_drewN ?_ _ | refine Below.alloc ?_ (by simp <;> omega) _))
          have HB := Lib.hid (Blk.new w7 #[.slice none 0 0] 103)
          clear hb HC hno
          go_upto_region 9 with fail
          generalize w7.alloc (.cells #[.slice none 0 0] 103) = w8 at HB HCD ⊢
          have s1 := HB.out.cell 0
          simp only [List.getElem?_toArray, List.getElem?_cons_zero] at s1
          have hl1 := HB.out.lt
          go_wp2_with fail
          refine (HAL.out _ HCD.out).mono ?_
          rintro r w10 ⟨rfl, hb⟩
          have HC := Lib.hid (bt HCD.out hb)
          clear hb
          go_wp2_with fail
          go_ret
          exact ⟨rfl, HC.out⟩
      · exact absurd HPSL.out.symm (hno ts HST.out)
end Go.Proofs.YtjdfodmialhakaaDoor
