/- Several texts in one: see each part's head. -/
import Derived.Test.YtjdfodmialhakaaDoorSc13
import Derived.Test.YtjdfodmialhakaaDoorSc12
/- fasciclelaw13.Large answers, and changes nothing; fascicleref13.Copy gives the same schema. -/
namespace Go.Proofs.YtjdfodmialhakaaDoor
open Go.RowKit

def BoolP (w : World) (r : Ending) (w' : World) : Prop := (∃ v, r = .returned (.bool v)) ∧ Below w.heap.size w w'
set_option maxRecDepth 100000 in
set_option maxHeartbeats 1000000 in
theorem large13_any (ts : List Ta) (A : Option Addr) (c : Nat) (w : World) (ht : TRow w A c ts) :
    Calls Tryd.prog 73 #[.agg #[.slice A ts.length c]] w (BoolP w) := by
  have hlen := ht.2.1
  have HT := Lib.hid ht
  clear ht
  go_enter Tryd.func73, Tryd.ntmps73
  go_wp2_with fail
  have h0 : Blk (w.alloc (.cells #[.slice A ts.length c] 103)) w.heap.size #[.slice A ts.length c] 103 := Blk.new w #[.slice A ts.length c] 103
  have hC : Below w.heap.size w (w.alloc (.cells #[.slice A ts.length c] 103)) := (by repeat (first | exact Below.refl _ _ | assumption | refine Below.drew ?_ | refine below_drewN ?_ _ | refine Below.alloc ?_ (by simp <;> omega) _))
  have HA := Lib.hid h0
  have HC := Lib.hid hC
  clear h0 hC
  generalize w.alloc (.cells #[.slice A ts.length c] 103) = W0 at HA HC ⊢
  go_loopw [3, 4] (fun n i wr => ∃ (k : Nat) (v : Int), k ≤ ts.length ∧ n = .int .i64 v ∧ i = .int .i64 k ∧ Hid (Below W0.heap.size W0 wr)) (fun _ i _ => ts.length - (intOf i).toNat)
  case atStart => exact ⟨0, 0, by omega, rfl, rfl, Below.refl _ _⟩
  case round =>
    obtain ⟨k, n, hk1, rfl, rfl, HBW⟩ := hrel
    have HBW' := Lib.hid (bt HC.out HBW.out)
    have g0 := (HA.out.ext HBW.out).cell 0
    simp only [List.getElem?_toArray, List.getElem?_cons_zero] at g0
    have l1 := (HA.out.ext HBW.out).lt
    by_cases hlt : k < ts.length
    · obtain ⟨b, off, t, rfl, hb, hlk, hmem, hwf, hcr, c0, c1, c2, c3, c4⟩ := (HT.out.ext HBW'.out).at_ hlt
      have HCR := Lib.hid hcr
      have hcl := hcr.2.1
      have hnz := hwf.1
      clear hlk hmem hwf hcr
      have i0 : (0 : Int) ≤ k := by omega
      have i1 : (k : Int) < ts.length := by omega
      by_cases h40 : (k : Int) < 40
      · obtain ⟨nm, cs, key, ref, par, TA, tc⟩ := t
        simp only at c0 c1 c2 c3 c4 HCR hcl hnz
        go_wp2_with fail
        go_quiet (fail)
        go_wp2_with fail
        generalize wrap64 (wrap64 (n + ↑cs.length) + ↑nm.size / 16) = n2
        have HC1 := Lib.hid c1
        clear c0 c1 c2 c3 c4 g0
        have HBN := Lib.hid (show Below wr.heap.size wr (wr.drewN nq) by have := Below.refl wr.heap.size wr; repeat (first | assumption | refine Below.drew ?_ | refine below_drewN ?_ _))
        generalize wr.drewN nq = wx at HBN ⊢
        go_loopw [3, 5] (fun n i wy => ∃ (j : Nat) (v : Int), j ≤ cs.length ∧ n = .int .i64 v ∧ i = .int .i64 j ∧ Hid (Below wr.heap.size wr wy)) (fun _ i _ => cs.length - (intOf i).toNat)
        case atStart => exact ⟨0, n2, by omega, rfl, rfl, HBN.out⟩
        case round =>
          obtain ⟨j, n3, hj1, rfl, rfl, HBY⟩ := hrel
          have c1 := (HBY.out.cell (p := ⟨b, off + k * 5 + 1, none⟩) hb).trans HC1.out
          have g0 := ((HA.out.ext HBW.out).ext HBY.out).cell 0
          simp only [List.getElem?_toArray, List.getElem?_cons_zero] at g0
          have l2 := HBY.out.size
          have h40' : k < 40 := by omega
          by_cases hjl : j < cs.length
          · by_cases hj40 : (j : Int) < 40
            · obtain ⟨bb, of, v, rfl, hbb, hv, hm, hvw, d0, d1, d2⟩ := (HCR.out.ext HBY.out).at_ hjl
              have hvz := hvw.1
              have m1 : (j : Int) < cs.length := by omega
              have m0 : (0 : Int) ≤ j := by omega
              clear hv hm hvw
              go_wp2_with fail
              go_roundw
              case rel => exact ⟨j + 1, _, by omega, rfl, by go_num, HBY.out⟩
              case measure => simp [intOf]; omega
            · have m2 : (40 : Int) ≤ j := by omega
              go_wp2_with fail
              go_roundw
              case rel => exact ⟨k + 1, _, by omega, rfl, by go_num, bt HBW.out HBY.out⟩
              case measure => simp [intOf]; omega
          · have m1 : (cs.length : Int) ≤ j := by omega
            go_wp2_with fail
            go_roundw
            case rel => exact ⟨k + 1, _, by omega, rfl, by go_num, bt HBW.out HBY.out⟩
            case measure => simp [intOf]; omega
      · have e1 : (30 : Int) < ts.length := by omega
        go_wp2_with fail
        go_ret
        exact ⟨⟨_, rfl⟩, HBW'.out⟩
    · have hk : ¬ (k : Int) < ts.length := by omega
      by_cases e1 : (30 : Int) < ts.length
      · go_wp2_with fail
        go_ret
        exact ⟨⟨_, rfl⟩, HBW'.out⟩
      · have f1 : (ts.length : Int) ≤ 30 := by omega
        by_cases e2 : (600 : Int) < n
        · go_wp2_with fail
          go_ret
          exact ⟨⟨_, rfl⟩, HBW'.out⟩
        · have f2 : n ≤ 600 := by omega
          go_wp2_with fail
          go_ret
          exact ⟨⟨_, rfl⟩, HBW'.out⟩
end Go.Proofs.YtjdfodmialhakaaDoor

/- fasciclelaw13.Two: the chapter's two tables. -/
namespace Go.Proofs.YtjdfodmialhakaaDoor
open Go.RowKit

def bId : ByteArray := ⟨#[105, 100]⟩
def bOf : ByteArray := ⟨#[111, 102]⟩
def twoL (c1 c2 : Nat) (p : Int) : List Ta := [⟨⟨#[97]⟩, [⟨bId, 2, false⟩], 0, -1, -1, some ⟨c1, 0, none⟩, 1⟩, ⟨⟨#[98]⟩, [⟨bId, 2, false⟩, ⟨bOf, 2, false⟩], 0, 1, p, some ⟨c2, 0, none⟩, 2⟩]
def twoC (c1 c2 : Nat) (p : Int) : Array Value := #[.string ⟨#[97]⟩, .slice (some ⟨c1, 0, none⟩) 1 1, .int .i64 0, .int .i64 (-1), .int .i64 (-1), .string ⟨#[98]⟩, .slice (some ⟨c2, 0, none⟩) 2 2, .int .i64 0, .int .i64 1, .int .i64 p]
def TwoP (w : World) (r : Ending) (w' : World) : Prop :=
  Below w.heap.size w w' ∧ ∃ b c1 c2, r = .returned (.agg #[.slice (some ⟨b, 0, none⟩) 2 2]) ∧ w.heap.size ≤ b ∧ w.heap.size ≤ c1 ∧ w.heap.size ≤ c2 ∧ b ≠ c1 ∧ b ≠ c2 ∧
    Blk w' b (twoC c1 c2 0) 116 ∧ Blk w' c1 #[.string bId, .int .u8 2, .bool false] 180 ∧ Blk w' c2 #[.string bId, .int .u8 2, .bool false, .string bOf, .int .u8 2, .bool false] 180
theorem two_row {w : World} {b c1 c2 : Nat} {p : Int} (hp : -9223372036854775808 ≤ p ∧ p ≤ 9223372036854775807) (hb : Blk w b (twoC c1 c2 p) 116) (h1 : Blk w c1 #[.string bId, .int .u8 2, .bool false] 180)
    (h2 : Blk w c2 #[.string bId, .int .u8 2, .bool false, .string bOf, .int .u8 2, .bool false] 180) : TRow w (some ⟨b, 0, none⟩) 2 (twoL c1 c2 p) := by
  have z1 : bId.size = 2 := rfl
  have z2 : bOf.size = 2 := rfl
  have r1 : CRow w (some ⟨c1, 0, none⟩) [⟨bId, 2, false⟩] := by
    refine ⟨fun c hc => ?_, by simp, fun _ => ⟨c1, 0, rfl, h1.lt, fun i v hi => ?_⟩⟩
    · obtain rfl : c = _ := by simpa using hc
      exact ⟨by simp only [z1]; omega, by simp only; omega, by simp only; omega⟩
    · match i, hi with
      | 0, hi =>
        obtain rfl : _ = v := by simpa using hi
        exact ⟨h1.cell 0, h1.cell 1, h1.cell 2⟩
      | i + 1, hi => simp at hi
  have r2 : CRow w (some ⟨c2, 0, none⟩) [⟨bId, 2, false⟩, ⟨bOf, 2, false⟩] := by
    refine ⟨fun c hc => ?_, by simp, fun _ => ⟨c2, 0, rfl, h2.lt, fun i v hi => ?_⟩⟩
    · rcases List.mem_cons.1 hc with rfl | hc
      · exact ⟨by simp only [z1]; omega, by simp only; omega, by simp only; omega⟩
      · obtain rfl : c = _ := by simpa using hc
        exact ⟨by simp only [z2]; omega, by simp only; omega, by simp only; omega⟩
    · match i, hi with
      | 0, hi =>
        obtain rfl : _ = v := by simpa using hi
        exact ⟨h2.cell 0, h2.cell 1, h2.cell 2⟩
      | 1, hi =>
        obtain rfl : _ = v := by simpa using hi
        exact ⟨h2.cell 3, h2.cell 4, h2.cell 5⟩
      | i + 2, hi => simp at hi
  have e1 : (⟨#[97]⟩ : ByteArray).size = 1 := rfl
  have e2 : (⟨#[98]⟩ : ByteArray).size = 1 := rfl
  refine ⟨fun t ht => ?_, by simp [twoL], by simp [twoL], fun _ => ⟨b, 0, rfl, hb.lt, fun i t hi => ?_⟩⟩
  · unfold twoL at ht
    rcases List.mem_cons.1 ht with rfl | ht
    · exact ⟨⟨by simp only [e1]; omega, by simp only; omega, by simp only; omega, by simp only; omega⟩, r1⟩
    · obtain rfl : t = _ := by simpa using ht
      exact ⟨⟨by simp only [e2]; omega, by simp only; omega, by simp only; omega, by simp only; omega⟩, r2⟩
  · unfold twoL at hi
    match i, hi with
    | 0, hi =>
      obtain rfl : _ = t := by simpa using hi
      exact ⟨hb.cell 0, hb.cell 1, hb.cell 2, hb.cell 3, hb.cell 4⟩
    | 1, hi =>
      obtain rfl : _ = t := by simpa using hi
      exact ⟨hb.cell 5, hb.cell 6, hb.cell 7, hb.cell 8, hb.cell 9⟩
    | i + 2, hi => simp at hi
theorem two_sch (c1 c2 : Nat) : schB (twoL c1 c2 0) = true := by kernel_rfl
theorem two_bad (c1 c2 : Nat) : schB (twoL c1 c2 1) = false := by kernel_rfl
theorem two_kids (c1 c2 : Nat) : kidsR (twoL c1 c2 0) 0 = [1] := by kernel_rfl
theorem two_dep (c1 c2 : Nat) : depR (twoL c1 c2 0) 1 = 2 := by kernel_rfl
theorem two_root (c1 c2 : Nat) : rootR (twoL c1 c2 0) 1 = 0 := by kernel_rfl
theorem two_len (c1 c2 : Nat) : (putS (twoL c1 c2 0)).length ≤ 100 := of_decide_eq_true (by kernel_rfl)
set_option maxRecDepth 100000 in
theorem two_any (w : World) : Calls Tryd.prog 137 #[] w (TwoP w) := by
  go_enter Tryd.func137, Tryd.ntmps137
  go_wp2_with fail
  refine bodyPost_ret (v := .agg #[.slice (some ⟨w.heap.size + 1 + 1 + 1, 0, none⟩) 2 2]) (by simp [results, Tryd.results137, go_sem]) rfl ?_
  exact ⟨(by repeat (first | exact Below.refl _ _ | assumption | refine Below.drew ?_ | refine below_drewN ?_ _ | refine Below.alloc ?_ (by simp <;> omega) _)), w.heap.size + 1 + 1 + 1, w.heap.size + 1, w.heap.size + 1 + 1, rfl, by omega, by omega, by omega, by omega, by omega, (by repeat (first | exact Blk.at (by simp) | assumption | refine Blk.drew ?_ | refine Blk.old ?_ _)), (by repeat (first | exact Blk.at (by simp) | assumption | refine Blk.drew ?_ | refine Blk.old ?_ _)), (by repeat (first | exact Blk.at (by simp) | assumption | refine Blk.drew ?_ | refine Blk.old ?_ _))⟩
set_option maxRecDepth 100000 in
set_option maxHeartbeats 1000000 in
theorem alive13_any (w : World) (hT : Tabs w) : Calls Tryd.prog 74 #[] w fun r w' => r = .returned (.bool true) ∧ Below w.heap.size w w' := by
  have HT := Lib.hid hT
  clear hT
  go_enter Tryd.func74, Tryd.ntmps74
  go_wp2_with fail
  refine (two_any _).mono ?_
  rintro r w1 ⟨hb1, b1, c1, e1, rfl, g1, g2, g3, n1, n2, B1, C1, E1⟩
  go_wp2_with fail
  refine (two_any _).mono ?_
  rintro r w2 ⟨hb2, b2, c2, e2, rfl, g4, g5, g6, n3, n4, B2, C2, E2⟩
  have HR1 := Lib.hid (two_row (p := 0) (by omega) B1 C1 E1)
  have HBL1 := Lib.hid hb1
  have l1 := hb1.size
  have l2 := hb2.size
  clear hb1 B1 C1 E1 n1 n2
  go_upto_region 2 with fail
  have HS := Lib.hid ((Blk.new w2 #[.slice (some ⟨b1, 0, none⟩) 2 2] 103).old (.cells #[.slice (some ⟨b2, 0, none⟩) 2 2] 103))
  have h1 : Blk ((w2.alloc (.cells #[.slice (some ⟨b1, 0, none⟩) 2 2] 103)).alloc (.cells #[.slice (some ⟨b2, 0, none⟩) 2 2] 103)) (w2.heap.size + 1) #[.slice (some ⟨b2, 0, none⟩) 2 2] 103 := (by repeat (first | exact Blk.at (by simp) | assumption | refine Blk.drew ?_ | refine Blk.old ?_ _))
  have B3 := (B2.old (.cells #[.slice (some ⟨b1, 0, none⟩) 2 2] 103)).old (.cells #[.slice (some ⟨b2, 0, none⟩) 2 2] 103)
  have C3 := (C2.old (.cells #[.slice (some ⟨b1, 0, none⟩) 2 2] 103)).old (.cells #[.slice (some ⟨b2, 0, none⟩) 2 2] 103)
  have E3 := (E2.old (.cells #[.slice (some ⟨b1, 0, none⟩) 2 2] 103)).old (.cells #[.slice (some ⟨b2, 0, none⟩) 2 2] 103)
  have hw2 : Below w1.heap.size w1 ((w2.alloc (.cells #[.slice (some ⟨b1, 0, none⟩) 2 2] 103)).alloc (.cells #[.slice (some ⟨b2, 0, none⟩) 2 2] 103)) := bt hb2 (by repeat (first | exact Below.refl _ _ | assumption | refine Below.drew ?_ | refine below_drewN ?_ _ | refine Below.alloc ?_ (by simp <;> omega) _))
  have hlt2 := B2.lt
  generalize (w2.alloc (.cells #[.slice (some ⟨b1, 0, none⟩) 2 2] 103)).alloc (.cells #[.slice (some ⟨b2, 0, none⟩) 2 2] 103) = W at HS h1 B3 C3 E3 hw2 ⊢
  have k1 : w2.heap.size ≠ b2 := by omega
  have k2 : w2.heap.size + 1 ≠ b2 := by omega
  have k3 : w.heap.size ≤ w2.heap.size := by omega
  generalize hsb : w2.heap.size = sb at HS h1 k1 k2 k3 ⊢
  generalize hbb : sb + 1 = bb at h1 k2 ⊢
  have HX := Lib.hid (putBlk_below (w := W) (b := b2) (twoC c2 e2 1) 116 hw2 g4)
  have HS2 := Lib.hid (putBlk_ne (t := 116) (cs := twoC c2 e2 1) HS.out k1)
  have HB2 := Lib.hid (putBlk_ne (t := 116) (cs := twoC c2 e2 1) h1 k2)
  have HR2 := Lib.hid (two_row (p := 1) (by omega) (putBlk_blk (twoC c2 e2 1) 116 B3.lt) (putBlk_ne (t := 116) (cs := twoC c2 e2 1) C3 n3.symm) (putBlk_ne (t := 116) (cs := twoC c2 e2 1) E3 n4.symm))
  have e8 : ∀ w20 cs0 cs, W = putBlk w20 b2 cs0 116 → putBlk W b2 cs 116 = putBlk w20 b2 cs 116 := fun w20 cs0 cs e => by rw [e]; unfold putBlk; simp
  obtain ⟨w20, hw20, lt⟩ := blk_put B3
  rw [e8 w20 _ _ hw20] at HX HS2 HB2 HR2
  have hD := HS.out.cell 0
  have hE := h1.cell 0
  simp only [List.getElem?_toArray, List.getElem?_cons_zero] at hD hE
  subst hw20
  obtain ⟨pc, pf, pS⟩ := putBlk_facts (w := w20) 116 lt
  have hsl := HS2.out.lt
  have hbl := HB2.out.lt
  clear B2 C2 E2 B3 C3 E3 hw2 h1 hb2 HS e8 n3 n4
  unfold twoC at *
  go_upto_region 3 with fail
  generalize putBlk w20 b2 #[.string ⟨#[97]⟩, .slice (some ⟨c2, 0, none⟩) 1 1, .int .i64 0, .int .i64 (-1), .int .i64 (-1), .string ⟨#[98]⟩, .slice (some ⟨e2, 0, none⟩) 2 2, .int .i64 0, .int .i64 1, .int .i64 1] 116 = w3 at HX HS2 HB2 HR2 hsl hbl ⊢
  clear pc pf pS hD hE lt k1 k2 hsb hbb hlt2 g1 g2 g3 g4 g5 g6
  have hX := HX.out
  have HR1 := Lib.hid (HR1.out.ext hX)
  have HX := Lib.hid (bt HBL1.out hX)
  clear HBL1 l1 l2 hX
  have s0 := HS2.out.cell 0
  simp only [List.getElem?_toArray, List.getElem?_cons_zero] at s0
  go_wp2_with fail
  refine (kids_any (twoL c1 e1 0) _ 2 0 _ HR1.out).mono ?_
  rw [two_kids]
  rintro r w4 ⟨hb, LA, lc, rfl, hn⟩
  have HN := Lib.hid hn
  have HR1 := Lib.hid (HR1.out.ext hb)
  have HR2 := Lib.hid (HR2.out.ext hb)
  have HX := Lib.hid (bt HX.out hb)
  have HS2 := Lib.hid (HS2.out.ext hb)
  have HB2 := Lib.hid (HB2.out.ext hb)
  clear hn hb s0 hsl hbl
  have s0 := HS2.out.cell 0
  simp only [List.getElem?_toArray, List.getElem?_cons_zero] at s0
  have hsl := HS2.out.lt
  go_wp2_with fail
  refine (putsch_any (twoL c1 e1 0) _ 2 _ (HT.out.ext HX.out) HR1.out).mono ?_
  unfold putSR
  rw [two_sch, okE_t' rfl, if_pos rfl]
  rintro r w5 ⟨rfl, hb⟩
  have HN := Lib.hid (HN.out.ext hb)
  have HR1 := Lib.hid (HR1.out.ext hb)
  have HR2 := Lib.hid (HR2.out.ext hb)
  have HX := Lib.hid (bt HX.out hb)
  have HS2 := Lib.hid (HS2.out.ext hb)
  have HB2 := Lib.hid (HB2.out.ext hb)
  clear hb s0 hsl
  go_wp2_with fail
  refine (getsch_any _ _ (HT.out.ext HX.out) (by have := two_len c1 e1; simp only [ByteArray.size, List.size_toArray]; omega)).mono ?_
  rintro r w6 ⟨hb, ⟨T, TA, tc, rfl, htr, hsc, hps, hun⟩ | ⟨_, hno⟩⟩
  rotate_left
  · exact absurd rfl (hno _ (two_sch c1 e1))
  have hTd := hun _ (two_sch c1 e1) rfl
  have hsame : sameS (twoL c1 e1 0) T = true := decide_eq_true hTd
  have HSM := Lib.hid hsame
  have HTR := Lib.hid htr
  have HN := Lib.hid (HN.out.ext hb)
  have HR1 := Lib.hid (HR1.out.ext hb)
  have HR2 := Lib.hid (HR2.out.ext hb)
  have HX := Lib.hid (bt HX.out hb)
  have HS2 := Lib.hid (HS2.out.ext hb)
  have HB2 := Lib.hid (HB2.out.ext hb)
  clear hb htr hsc hps hun hTd hsame
  go_upto_region 6 with fail
  have hb : Below w6.heap.size w6 (w6.alloc (.cells #[.slice TA T.length tc] 103)) := (by repeat (first | exact Below.refl _ _ | assumption | refine Below.drew ?_ | refine below_drewN ?_ _ | refine Below.alloc ?_ (by simp <;> omega) _))
  have HT6 := Lib.hid (Blk.new w6 #[.slice TA T.length tc] 103)
  generalize w6.alloc (.cells #[.slice TA T.length tc] 103) = w7 at hb HT6 ⊢
  obtain ⟨lb, lo, lv, rfl, hlb, hlv, _, n0⟩ := HN.out.at_ (show 0 < 1 by decide)
  obtain rfl : _ = lv := by simpa using hlv
  have HN := Lib.hid (HN.out.ext hb)
  have HR1 := Lib.hid (HR1.out.ext hb)
  have HR2 := Lib.hid (HR2.out.ext hb)
  have HTR := Lib.hid (HTR.out.ext hb)
  have HX := Lib.hid (bt HX.out hb)
  have HS2 := Lib.hid (HS2.out.ext hb)
  have HB2 := Lib.hid (HB2.out.ext hb)
  clear hb hlb hlv n0
  have s0 := HS2.out.cell 0
  have s1 := HB2.out.cell 0
  have s2 := HT6.out.cell 0
  simp only [List.getElem?_toArray, List.getElem?_cons_zero] at s0 s1 s2
  have hls := HS2.out.lt
  have hlb2 := HB2.out.lt
  have hlt6 := HT6.out.lt
  obtain ⟨lb', lo', lv, hle, hlb, hlv, _, n0⟩ := HN.out.at_ (show 0 < 1 by decide)
  obtain rfl : _ = lv := by simpa using hlv
  cases hle
  clear hlv
  rw [Nat.add_zero] at n0
  go_wp2_with fail
  refine (check13_any (twoL c1 e1 0) _ 2 _ HR1.out).mono ?_
  rw [two_sch, okE_t' rfl]
  rintro r w8 ⟨rfl, hb⟩
  have HN := Lib.hid (HN.out.ext hb)
  have HR1 := Lib.hid (HR1.out.ext hb)
  have HR2 := Lib.hid (HR2.out.ext hb)
  have HTR := Lib.hid (HTR.out.ext hb)
  have HX := Lib.hid (bt HX.out hb)
  have HS2 := Lib.hid (HS2.out.ext hb)
  have HB2 := Lib.hid (HB2.out.ext hb)
  have HT6 := Lib.hid (HT6.out.ext hb)
  clear hb s0 s1 s2 n0 hlb hls hlb2 hlt6
  have s0 := HS2.out.cell 0
  have s1 := HB2.out.cell 0
  have s2 := HT6.out.cell 0
  simp only [List.getElem?_toArray, List.getElem?_cons_zero] at s0 s1 s2
  have hls := HS2.out.lt
  have hlb2 := HB2.out.lt
  have hlt6 := HT6.out.lt
  obtain ⟨lb', lo', lv, hle, hlb, hlv, _, n0⟩ := HN.out.at_ (show 0 < 1 by decide)
  obtain rfl : _ = lv := by simpa using hlv
  cases hle
  clear hlv
  rw [Nat.add_zero] at n0
  go_wp2_with fail
  refine (check13_any (twoL c2 e2 1) _ 2 _ HR2.out).mono ?_
  rw [two_bad, okE_f' rfl]
  rintro r w9 ⟨rfl, hb⟩
  have HN := Lib.hid (HN.out.ext hb)
  have HR1 := Lib.hid (HR1.out.ext hb)
  have HR2 := Lib.hid (HR2.out.ext hb)
  have HTR := Lib.hid (HTR.out.ext hb)
  have HX := Lib.hid (bt HX.out hb)
  have HS2 := Lib.hid (HS2.out.ext hb)
  have HB2 := Lib.hid (HB2.out.ext hb)
  have HT6 := Lib.hid (HT6.out.ext hb)
  clear hb s0 s1 s2 n0 hlb hls hlb2 hlt6
  have s0 := HS2.out.cell 0
  have s1 := HB2.out.cell 0
  have s2 := HT6.out.cell 0
  simp only [List.getElem?_toArray, List.getElem?_cons_zero] at s0 s1 s2
  have hls := HS2.out.lt
  have hlb2 := HB2.out.lt
  have hlt6 := HT6.out.lt
  obtain ⟨lb', lo', lv, hle, hlb, hlv, _, n0⟩ := HN.out.at_ (show 0 < 1 by decide)
  obtain rfl : _ = lv := by simpa using hlv
  cases hle
  clear hlv
  rw [Nat.add_zero] at n0
  go_wp2_with fail
  refine (depth_any (twoL c1 e1 0) _ 2 1 _ HR1.out).mono ?_
  rw [two_dep]
  rintro r w10 ⟨rfl, hb⟩
  have HN := Lib.hid (HN.out.ext hb)
  have HR1 := Lib.hid (HR1.out.ext hb)
  have HR2 := Lib.hid (HR2.out.ext hb)
  have HTR := Lib.hid (HTR.out.ext hb)
  have HX := Lib.hid (bt HX.out hb)
  have HS2 := Lib.hid (HS2.out.ext hb)
  have HB2 := Lib.hid (HB2.out.ext hb)
  have HT6 := Lib.hid (HT6.out.ext hb)
  clear hb s0 s1 s2 n0 hlb hls hlb2 hlt6
  have s0 := HS2.out.cell 0
  have s1 := HB2.out.cell 0
  have s2 := HT6.out.cell 0
  simp only [List.getElem?_toArray, List.getElem?_cons_zero] at s0 s1 s2
  have hls := HS2.out.lt
  have hlb2 := HB2.out.lt
  have hlt6 := HT6.out.lt
  obtain ⟨lb', lo', lv, hle, hlb, hlv, _, n0⟩ := HN.out.at_ (show 0 < 1 by decide)
  obtain rfl : _ = lv := by simpa using hlv
  cases hle
  clear hlv
  rw [Nat.add_zero] at n0
  go_wp2_with fail
  refine (root_any (twoL c1 e1 0) _ 2 1 _ HR1.out).mono ?_
  rw [two_root]
  rintro r w11 ⟨rfl, hb⟩
  have HN := Lib.hid (HN.out.ext hb)
  have HR1 := Lib.hid (HR1.out.ext hb)
  have HR2 := Lib.hid (HR2.out.ext hb)
  have HTR := Lib.hid (HTR.out.ext hb)
  have HX := Lib.hid (bt HX.out hb)
  have HS2 := Lib.hid (HS2.out.ext hb)
  have HB2 := Lib.hid (HB2.out.ext hb)
  have HT6 := Lib.hid (HT6.out.ext hb)
  clear hb s0 s1 s2 n0 hlb hls hlb2 hlt6
  have s0 := HS2.out.cell 0
  have s1 := HB2.out.cell 0
  have s2 := HT6.out.cell 0
  simp only [List.getElem?_toArray, List.getElem?_cons_zero] at s0 s1 s2
  have hls := HS2.out.lt
  have hlb2 := HB2.out.lt
  have hlt6 := HT6.out.lt
  obtain ⟨lb', lo', lv, hle, hlb, hlv, _, n0⟩ := HN.out.at_ (show 0 < 1 by decide)
  obtain rfl : _ = lv := by simpa using hlv
  cases hle
  clear hlv
  rw [Nat.add_zero] at n0
  go_wp2_with fail
  refine (sameS_any (twoL c1 e1 0) T _ _ 2 tc _ HR1.out HTR.out).mono ?_
  rw [HSM.out]
  rintro r w12 ⟨rfl, hb⟩
  have HX := Lib.hid (bt HX.out hb)
  clear hb s0 s1 s2 n0 hlb hls hlb2 hlt6
  go_wp2_with fail
  go_ret
  exact ⟨rfl, HX.out⟩
end Go.Proofs.YtjdfodmialhakaaDoor
