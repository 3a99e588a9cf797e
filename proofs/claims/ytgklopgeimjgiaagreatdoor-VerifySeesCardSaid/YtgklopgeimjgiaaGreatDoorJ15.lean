/- Several texts in one: see each part's head. -/
import Derived.BigRegion
import Derived.Test.YtgklopgeimjgiaaGreatDoorJ12
import Derived.Test.YtgklopgeimjgiaaGreatDoorJ14
/- Several texts in one: see each part's head. -/
/- fasciclelaw13.Large answers, and changes nothing; fascicleref13.Copy gives the same schema. -/
namespace Go.Proofs.YtgklopgeimjgiaaGreatDoor
open Go.RowKit

def BoolP (w : World) (r : Ending) (w' : World) : Prop := (∃ v, r = .returned (.bool v)) ∧ Below w.heap.size w w'
set_option maxRecDepth 100000 in
set_option maxHeartbeats 1000000 in
theorem large13_any (ts : List Ta) (A : Option Addr) (c : Nat) (w : World) (ht : TRow w A c ts) :
    Calls Tryz.prog 15 #[.agg #[.slice A ts.length c]] w (BoolP w) := by
  have hlen := ht.2.1
  have HT := Lib.hid ht
  clear ht
  go_enter Tryz.func15, Tryz.ntmps15
  go_wp2_with fail
  have h0 : Blk (w.alloc (.cells #[.slice A ts.length c] 24)) w.heap.size #[.slice A ts.length c] 24 := Blk.new w #[.slice A ts.length c] 24
  have hC : Below w.heap.size w (w.alloc (.cells #[.slice A ts.length c] 24)) := (by repeat (first | exact Below.refl _ _ | assumption | refine Below.drew ?_ | refine below_drewN ?_ _ | refine Below.alloc ?_ (by simp <;> omega) _))
  have HA := Lib.hid h0
  have HC := Lib.hid hC
  clear h0 hC
  generalize w.alloc (.cells #[.slice A ts.length c] 24) = Wq at HA HC ⊢
  go_loopw [3, 4] (fun n i wr => ∃ (k : Nat) (v : Int), k ≤ ts.length ∧ n = .int .i64 v ∧ i = .int .i64 k ∧ Hid (Below Wq.heap.size Wq wr)) (fun _ i _ => ts.length - (intOf i).toNat)
  case atStart => exact ⟨0, 0, by omega, rfl, rfl, Below.refl _ _⟩
  case round =>
    obtain ⟨k, n, hk1, rfl, rfl, HBW⟩ := hrel
    have HBW' := Lib.hid (bt HC.out HBW.out)
    have g0 := (HA.out.ext HBW.out).cell 0
    simp only [List.getElem?_toArray, List.getElem?_cons_zero] at g0
    have l1 := (HA.out.ext HBW.out).lt
    by_cases hlt : k < ts.length
    · obtain ⟨b, off, t, rfl, hb, hlk, hmem, hwf, hcr, c0, c1, c2, c3, c4⟩ := (HT.out.ext HBW'.out).at_ hlt
      have HCR := Lib.hid hcr
      have hcl := hcr.2.1
      have hnz := hwf.1
      clear hlk hmem hwf hcr
      have i0 : (0 : Int) ≤ k := by omega
      have i1 : (k : Int) < ts.length := by omega
      by_cases h40 : (k : Int) < 40
      · obtain ⟨nm, cs, key, ref, par, TA, tc⟩ := t
        simp only at c0 c1 c2 c3 c4 HCR hcl hnz
        go_wp2_with fail
        go_quiet (fail)
        go_wp2_with fail
        generalize wrap64 (wrap64 (n + ↑cs.length) + ↑nm.size / 16) = n2
        have HC1 := Lib.hid c1
        clear c0 c1 c2 c3 c4 g0
        have HBN := Lib.hid (show Below wr.heap.size wr (wr.drewN nq) by have := Below.refl wr.heap.size wr; repeat (first | assumption | refine Below.drew ?_ | refine below_drewN ?_ _))
        generalize wr.drewN nq = wx at HBN ⊢
        go_loopw [3, 5] (fun n i wy => ∃ (j : Nat) (v : Int), j ≤ cs.length ∧ n = .int .i64 v ∧ i = .int .i64 j ∧ Hid (Below wr.heap.size wr wy)) (fun _ i _ => cs.length - (intOf i).toNat)
        case atStart => exact ⟨0, n2, by omega, rfl, rfl, HBN.out⟩
        case round =>
          obtain ⟨j, n3, hj1, rfl, rfl, HBY⟩ := hrel
          have c1 := (HBY.out.cell (p := ⟨b, off + k * 5 + 1, none⟩) hb).trans HC1.out
          have g0 := ((HA.out.ext HBW.out).ext HBY.out).cell 0
          simp only [List.getElem?_toArray, List.getElem?_cons_zero] at g0
          have l2 := HBY.out.size
          have h40' : k < 40 := by omega
          by_cases hjl : j < cs.length
          · by_cases hj40 : (j : Int) < 40
            · obtain ⟨bb, of, v, rfl, hbb, hv, hm, hvw, d0, d1, d2⟩ := (HCR.out.ext HBY.out).at_ hjl
              have hvz := hvw.1
              have m1 : (j : Int) < cs.length := by omega
              have m0 : (0 : Int) ≤ j := by omega
              clear hv hm hvw
              go_wp2_with fail
              go_roundw
              case rel => exact ⟨j + 1, _, by omega, rfl, by go_num, HBY.out⟩
              case measure => simp [intOf]; omega
            · have m2 : (40 : Int) ≤ j := by omega
              go_wp2_with fail
              go_roundw
              case rel => exact ⟨k + 1, _, by omega, rfl, by go_num, bt HBW.out HBY.out⟩
              case measure => simp [intOf]; omega
          · have m1 : (cs.length : Int) ≤ j := by omega
            go_wp2_with fail
            go_roundw
            case rel => exact ⟨k + 1, _, by omega, rfl, by go_num, bt HBW.out HBY.out⟩
            case measure => simp [intOf]; omega
      · have e1 : (30 : Int) < ts.length := by omega
        go_wp2_with fail
        go_ret
        exact ⟨⟨_, rfl⟩, HBW'.out⟩
    · have hk : ¬ (k : Int) < ts.length := by omega
      by_cases e1 : (30 : Int) < ts.length
      · go_wp2_with fail
        go_ret
        exact ⟨⟨_, rfl⟩, HBW'.out⟩
      · have f1 : (ts.length : Int) ≤ 30 := by omega
        by_cases e2 : (600 : Int) < n
        · go_wp2_with fail
          go_ret
          exact ⟨⟨_, rfl⟩, HBW'.out⟩
        · have f2 : n ≤ 600 := by omega
          go_wp2_with fail
          go_ret
          exact ⟨⟨_, rfl⟩, HBW'.out⟩
end Go.Proofs.YtgklopgeimjgiaaGreatDoor

/- fasciclelaw13.Two: the chapter's two tables. -/
namespace Go.Proofs.YtgklopgeimjgiaaGreatDoor
open Go.RowKit

def bId : ByteArray := ⟨#[105, 100]⟩
def bOf : ByteArray := ⟨#[111, 102]⟩
def twoL (c1 c2 : Nat) (p : Int) : List Ta := [⟨⟨#[97]⟩, [⟨bId, 2, false⟩], 0, -1, -1, some ⟨c1, 0, none⟩, 1⟩, ⟨⟨#[98]⟩, [⟨bId, 2, false⟩, ⟨bOf, 2, false⟩], 0, 1, p, some ⟨c2, 0, none⟩, 2⟩]
def twoC (c1 c2 : Nat) (p : Int) : Array Value := #[.string ⟨#[97]⟩, .slice (some ⟨c1, 0, none⟩) 1 1, .int .i64 0, .int .i64 (-1), .int .i64 (-1), .string ⟨#[98]⟩, .slice (some ⟨c2, 0, none⟩) 2 2, .int .i64 0, .int .i64 1, .int .i64 p]
def TwoP (w : World) (r : Ending) (w' : World) : Prop :=
  Below w.heap.size w w' ∧ ∃ b c1 c2, r = .returned (.agg #[.slice (some ⟨b, 0, none⟩) 2 2]) ∧ w.heap.size ≤ b ∧ w.heap.size ≤ c1 ∧ w.heap.size ≤ c2 ∧ b ≠ c1 ∧ b ≠ c2 ∧
    Blk w' b (twoC c1 c2 0) 46 ∧ Blk w' c1 #[.string bId, .int .u8 2, .bool false] 86 ∧ Blk w' c2 #[.string bId, .int .u8 2, .bool false, .string bOf, .int .u8 2, .bool false] 86
theorem two_row {w : World} {b c1 c2 : Nat} {p : Int} (hp : -9223372036854775808 ≤ p ∧ p ≤ 9223372036854775807) (hb : Blk w b (twoC c1 c2 p) 46) (h1 : Blk w c1 #[.string bId, .int .u8 2, .bool false] 86)
    (h2 : Blk w c2 #[.string bId, .int .u8 2, .bool false, .string bOf, .int .u8 2, .bool false] 86) : TRow w (some ⟨b, 0, none⟩) 2 (twoL c1 c2 p) := by
  have z1 : bId.size = 2 := rfl
  have z2 : bOf.size = 2 := rfl
  have r1 : CRow w (some ⟨c1, 0, none⟩) [⟨bId, 2, false⟩] := by
    refine ⟨fun c hc => ?_, by simp, fun _ => ⟨c1, 0, rfl, h1.lt, fun i v hi => ?_⟩⟩
    · obtain rfl : c = _ := by simpa using hc
      exact ⟨by simp only [z1]; omega, by simp only; omega, by simp only; omega⟩
    · match i, hi with
      | 0, hi =>
        obtain rfl : _ = v := by simpa using hi
        exact ⟨h1.cell 0, h1.cell 1, h1.cell 2⟩
      | i + 1, hi => simp at hi
  have r2 : CRow w (some ⟨c2, 0, none⟩) [⟨bId, 2, false⟩, ⟨bOf, 2, false⟩] := by
    refine ⟨fun c hc => ?_, by simp, fun _ => ⟨c2, 0, rfl, h2.lt, fun i v hi => ?_⟩⟩
    · rcases List.mem_cons.1 hc with rfl | hc
      · exact ⟨by simp only [z1]; omega, by simp only; omega, by simp only; omega⟩
      · obtain rfl : c = _ := by simpa using hc
        exact ⟨by simp only [z2]; omega, by simp only; omega, by simp only; omega⟩
    · match i, hi with
      | 0, hi =>
        obtain rfl : _ = v := by simpa using hi
        exact ⟨h2.cell 0, h2.cell 1, h2.cell 2⟩
      | 1, hi =>
        obtain rfl : _ = v := by simpa using hi
        exact ⟨h2.cell 3, h2.cell 4, h2.cell 5⟩
      | i + 2, hi => simp at hi
  have e1 : (⟨#[97]⟩ : ByteArray).size = 1 := rfl
  have e2 : (⟨#[98]⟩ : ByteArray).size = 1 := rfl
  refine ⟨fun t ht => ?_, by simp [twoL], by simp [twoL], fun _ => ⟨b, 0, rfl, hb.lt, fun i t hi => ?_⟩⟩
  · unfold twoL at ht
    rcases List.mem_cons.1 ht with rfl | ht
    · exact ⟨⟨by simp only [e1]; omega, by simp only; omega, by simp only; omega, by simp only; omega⟩, r1⟩
    · obtain rfl : t = _ := by simpa using ht
      exact ⟨⟨by simp only [e2]; omega, by simp only; omega, by simp only; omega, by simp only; omega⟩, r2⟩
  · unfold twoL at hi
    match i, hi with
    | 0, hi =>
      obtain rfl : _ = t := by simpa using hi
      exact ⟨hb.cell 0, hb.cell 1, hb.cell 2, hb.cell 3, hb.cell 4⟩
    | 1, hi =>
      obtain rfl : _ = t := by simpa using hi
      exact ⟨hb.cell 5, hb.cell 6, hb.cell 7, hb.cell 8, hb.cell 9⟩
    | i + 2, hi => simp at hi
theorem two_sch (c1 c2 : Nat) : schB (twoL c1 c2 0) = true := by kernel_rfl
set_option maxRecDepth 100000 in
theorem two_any (w : World) : Calls Tryz.prog 20 #[] w (TwoP w) := by
  go_enter Tryz.func20, Tryz.ntmps20
  go_wp2_with fail
  refine bodyPost_ret (v := .agg #[.slice (some ⟨w.heap.size + 1 + 1 + 1, 0, none⟩) 2 2]) (by simp [results, Tryz.results20, go_sem]) rfl ?_
  exact ⟨(by repeat (first | exact Below.refl _ _ | assumption | refine Below.drew ?_ | refine below_drewN ?_ _ | refine Below.alloc ?_ (by simp <;> omega) _)), w.heap.size + 1 + 1 + 1, w.heap.size + 1, w.heap.size + 1 + 1, rfl, by omega, by omega, by omega, by omega, by omega, (by repeat (first | exact Blk.at (by simp) | assumption | refine Blk.drew ?_ | refine Blk.old ?_ _)), (by repeat (first | exact Blk.at (by simp) | assumption | refine Blk.drew ?_ | refine Blk.old ?_ _)), (by repeat (first | exact Blk.at (by simp) | assumption | refine Blk.drew ?_ | refine Blk.old ?_ _))⟩
end Go.Proofs.YtgklopgeimjgiaaGreatDoor
