/- Several texts in one: see each part's head. -/
import Derived.Test.YtjdfodmialhakaaDoorDc6
import Derived.Test.YtjdfodmialhakaaDoorPuts
import Derived.ArgAppend
/- Documents: those that are alike are the same; which may be. -/
namespace Go.Proofs.YtjdfodmialhakaaDoor
open Go.RowKit

theorem blk3 {w : World} {b : Nat} {a0 a1 a2 : Value} {t : TypeId} (h : Blk w b #[a0, a1, a2] t) : b < w.heap.size ∧ w.cell? ⟨b, 0, none⟩ = some a0 ∧ w.cell? ⟨b, 1, none⟩ = some a1 ∧ w.cell? ⟨b, 2, none⟩ = some a2 := ⟨h.lt, h.cell 0, h.cell 1, h.cell 2⟩
set_option maxRecDepth 100000 in
set_option maxHeartbeats 1600000 in
theorem same24_any : ∀ (n m : Nat) (v u : Value) (d : De) (w : World), DRd n w v d → DRd m w u d →
    Calls Tryd.prog 123 #[v, u] w fun r w' => r = .returned (.bool true) ∧ Below w.heap.size w w'
  | 0, _, _, _, _, _, h, _ => h.elim
  | _ + 1, 0, _, _, _, _, _, h => h.elim
  | n + 1, m + 1, v, u, d, w, hd, hd2 => by
    obtain ⟨A, ca, K, ck, rfl, htb, hv, hk⟩ := hd
    obtain ⟨A0, ca0, K0, ck2, rfl, _, hv2, hk2⟩ := hd2
    have IH := Lib.hid (same24_any n m)
    have hlen := hk.1
    have HR := Lib.hid (fun (W : World) (hW : Below w.heap.size w W) => same_any d.row d.row A A0 ca ca0 W (hv.ext hW) (hv2.ext hW))
    rw [decide_eq_true (rfl : d.row = d.row)] at HR
    have HK := Lib.hid hk
    have HK2 := Lib.hid hk2
    clear hk hv hk2 hv2
    generalize d.tb = tb at htb ⊢
    generalize d.row.length = rl at HR ⊢
    generalize d.kids = ks at HK HK2 hlen ⊢
    go_enter Tryd.func123, Tryd.ntmps123
    go_upto_region 1 with fail
    have h1 : Blk ((w.alloc (.cells #[.int .i64 tb, .slice A rl ca, .slice K ks.length ck] 71)).alloc (.cells #[.int .i64 tb, .slice A0 rl ca0, .slice K0 ks.length ck2] 71)) w.heap.size #[.int .i64 tb, .slice A rl ca, .slice K ks.length ck] 71 := (by repeat (first | exact Blk.at (by simp) | assumption | refine Blk.drew ?_ | refine Blk.old ?_ _))
    have h2 : Blk ((w.alloc (.cells #[.int .i64 tb, .slice A rl ca, .slice K ks.length ck] 71)).alloc (.cells #[.int .i64 tb, .slice A0 rl ca0, .slice K0 ks.length ck2] 71)) (w.heap.size + 1) #[.int .i64 tb, .slice A0 rl ca0, .slice K0 ks.length ck2] 71 := (by repeat (first | exact Blk.at (by simp) | assumption | refine Blk.drew ?_ | refine Blk.old ?_ _))
    have hC : Below w.heap.size w ((w.alloc (.cells #[.int .i64 tb, .slice A rl ca, .slice K ks.length ck] 71)).alloc (.cells #[.int .i64 tb, .slice A0 rl ca0, .slice K0 ks.length ck2] 71)) := (by repeat (first | exact Below.refl _ _ | assumption | refine Below.drew ?_ | refine below_drewN ?_ _ | refine Below.alloc ?_ (by simp <;> omega) _))
    have HB := Lib.hid h1
    have HB2 := Lib.hid h2
    have HC := Lib.hid hC
    have HK := Lib.hid (HK.out.ext hC (fun v k h => DRd.ext (n := n) h hC))
    have HK2 := Lib.hid (HK2.out.ext hC (fun v k h => DRd.ext (n := m) h hC))
    clear h1 h2 hC
    generalize (w.alloc (.cells #[.int .i64 tb, .slice A rl ca, .slice K ks.length ck] 71)).alloc (.cells #[.int .i64 tb, .slice A0 rl ca0, .slice K0 ks.length ck2] 71) = W0 at HB HB2 HC HK HK2 ⊢
    generalize w.heap.size + 1 = by' at HB2 ⊢
    generalize w.heap.size = bx at HB ⊢
    have lb := HB.out.lt
    have lb2 := HB2.out.lt
    have d0 := HB.out.cell 0
    have d1 := HB.out.cell 1
    have d2 := HB.out.cell 2
    have f0 := HB2.out.cell 0
    have f1 := HB2.out.cell 1
    have f2 := HB2.out.cell 2
    simp only [List.getElem?_toArray, List.getElem?_cons_zero, List.getElem?_cons_succ] at d0 d1 d2 f0 f1 f2
    go_wp2_with fail
    refine (HR.out _ HC.out).mono ?_
    rintro r w2 ⟨rfl, hb2⟩
    have HW2 := Lib.hid hb2
    clear hb2 lb d0 d1 d2 lb2 f0 f1 f2
    have lb := (HB.out.ext HW2.out).lt
    have d2 := (HB.out.ext HW2.out).cell 2
    have lb2 := (HB2.out.ext HW2.out).lt
    have f2 := (HB2.out.ext HW2.out).cell 2
    simp only [List.getElem?_toArray, List.getElem?_cons_zero, List.getElem?_cons_succ] at d2 f2
    go_wp2_with fail
    go_loopw [5] (fun i wr => ∃ (k : Nat), k ≤ ks.length ∧ i = .int .i64 k ∧ Below W0.heap.size W0 wr) (fun i _ => ks.length - (intOf i).toNat)
    case atStart => exact ⟨0, by omega, rfl, HW2.out⟩
    case round =>
      obtain ⟨k, hk1, rfl, hbw⟩ := hrel
      clear lb d2 lb2 f2
      have lb := (HB.out.ext hbw).lt
      have d2 := (HB.out.ext hbw).cell 2
      simp only [List.getElem?_toArray, List.getElem?_cons_zero, List.getElem?_cons_succ] at d2
      have HW := Lib.hid hbw
      have HKK := Lib.hid (HK.out.ext hbw (fun v k h => DRd.ext (n := n) h hbw))
      have HKK2 := Lib.hid (HK2.out.ext hbw (fun v k h => DRd.ext (n := m) h hbw))
      clear hbw
      by_cases hlt : k < ks.length
      · obtain ⟨b, off, x, A', ca', K', ck', rfl, hb, _, hx1, e0, e1, e2, hx⟩ := HKK.out.kid hlt
        obtain ⟨b2, off2, x2, A2, ca2, K2, ck2', rfl, hb2, _, hx2, g0, g1, g2, hy⟩ := HKK2.out.kid hlt
        obtain rfl : x = x2 := by rw [hx1] at hx2; exact Option.some.inj hx2
        have E0 := Lib.hid e0
        have E1 := Lib.hid e1
        have E2 := Lib.hid e2
        have F0 := Lib.hid g0
        have F1 := Lib.hid g1
        have F2 := Lib.hid g2
        have HC1 := Lib.hid (fun (W : World) (hW : Below wr.heap.size wr W) => IH.out _ _ x W (hx.ext hW) (hy.ext hW))
        clear hx hy hx1 hx2 e0 e1 e2 g0 g1 g2 HKK HKK2
        go_upto_region 6 with fail
        clear lb d2
        refine region_grow [false, false, false, false, false, false, false, false, false, false, false, false, false, false, false, false, false, false, false, false, false, false, false, false, false, false, false, false, false, false, false, false, false, false, false, true, true, true, true, true, true, true, true, true, true, true, true] [35, 36, 37, 38, 39, 40, 41, 42, 43, 44, 45, 46] [.val (.pointer (some ⟨bx, 2, none⟩)), .val (.slice (some ⟨b, off, none⟩) ks.length ck), .val (.int .i64 (k : Int)), .val (.pointer (some ⟨b, off + k * 3, none⟩)), .val (.agg #[.int .i64 x.tb, .slice A' x.row.length ca', .slice K' x.kids.length ck']), .val (.pointer (some ⟨by', 2, none⟩)), .val (.slice (some ⟨b2, off2, none⟩) ks.length ck2), .val (.int .i64 (k : Int)), .val (.pointer (some ⟨b2, off2 + k * 3, none⟩)), .val (.agg #[.int .i64 x.tb, .slice A2 x.row.length ca2, .slice K2 x.kids.length ck2']), .val (.bool true), .val (.bool false)] [11] (by kernel_rfl) (by kernel_rfl) (by kernel_rfl) (by kernel_rfl) (by kernel_rfl) ⟨?_, ?_, ?_, ?_, ?_, ?_, ?_, ?_, ?_, ?_, ?_, ?_, trivial⟩ ?done
        case done =>
          intro x5 w5 hb5
          simp only [StepGoal, overlay, upd, cond_true, cond_false, List.getD_cons_zero, List.getD_cons_succ, Nat.zero_add, Nat.reduceAdd, Nat.reduceEqDiff, reduceIte]
          go_wp2_with fail
          go_roundw
          case rel => exact ⟨k + 1, by omega, by go_num, bt HW.out hb5⟩
          case measure => simp [intOf]; omega
        all_goals
          intro x5 w5 hb5
          intro K hK
          have hB := HB.out.ext (bt HW.out hb5)
          have hB2 := HB2.out.ext (bt HW.out hb5)
          have d2 := hB.cell 2
          have f2 := hB2.cell 2
          have lB := hB.lt
          have lB2 := hB2.lt
          have e0 := (hb5.cell (p := ⟨b, _, none⟩) hb).trans E0.out
          have e1 := (hb5.cell (p := ⟨b, _, none⟩) hb).trans E1.out
          have e2 := (hb5.cell (p := ⟨b, _, none⟩) hb).trans E2.out
          have g0 := (hb5.cell (p := ⟨b2, _, none⟩) hb2).trans F0.out
          have g1 := (hb5.cell (p := ⟨b2, _, none⟩) hb2).trans F1.out
          have g2 := (hb5.cell (p := ⟨b2, _, none⟩) hb2).trans F2.out
          have lb : b < w5.heap.size := Nat.lt_of_lt_of_le hb hb5.size
          have lb2 : b2 < w5.heap.size := Nat.lt_of_lt_of_le hb2 hb5.size
          simp only [List.getElem?_toArray, List.getElem?_cons_zero, List.getElem?_cons_succ] at d2 f2
          rw [if_pos (by rfl)]; simp only [overlay, upd, cond_true, cond_false, List.getD_cons_zero, List.getD_cons_succ, Nat.reduceEqDiff, reduceIte]
          go_simp
          first
            | exact hK.out _ _ (Below.refl _ _) rfl
            | ((with_reducible refine (HC1.out _ hb5).mono ?_); rintro e wa ⟨rfl, hba⟩; go_wp2_with fail; exact hK.out _ _ hba rfl)
      · go_wp2_with fail
        go_ret
        exact ⟨rfl, bt HC.out HW.out⟩
set_option maxRecDepth 100000 in
theorem Same24_any (n m : Nat) (v u : Value) (d : De) (w : World) (hd : DRd n w v d) (hu : DRd m w u d) (hs : 0 < sizeD d) :
    Calls Tryd.prog 48 #[v, u] w fun r w' => r = .returned (.bool true) ∧ Below w.heap.size w w' := by
  have HS := Lib.hid (fun (W : World) (hW : Below w.heap.size w W) => refsize24_any n v d W (hd.ext hW))
  have HS2 := Lib.hid (fun (W : World) (hW : Below w.heap.size w W) => refsize24_any m u d W (hu.ext hW))
  have HQ := Lib.hid (fun (W : World) (hW : Below w.heap.size w W) => same24_any n m v u d W (hd.ext hW) (hu.ext hW))
  obtain ⟨A, ca, K, ck, rfl⟩ := hd.form
  obtain ⟨A2, ca2, K2, ck2, rfl⟩ := hu.form
  clear hd hu
  generalize sizeD d = q at HS HS2 hs
  generalize d.tb = tb at HS HS2 HQ ⊢
  generalize d.row.length = rl at HS HS2 HQ ⊢
  generalize d.kids.length = kl at HS HS2 HQ ⊢
  go_enter Tryd.func48, Tryd.ntmps48
  go_upto_region 1 with fail
  have h1 : Blk ((w.alloc (.cells #[.int .i64 tb, .slice A rl ca, .slice K kl ck] 71)).alloc (.cells #[.int .i64 tb, .slice A2 rl ca2, .slice K2 kl ck2] 71)) w.heap.size #[.int .i64 tb, .slice A rl ca, .slice K kl ck] 71 := (by repeat (first | exact Blk.at (by simp) | assumption | refine Blk.drew ?_ | refine Blk.old ?_ _))
  have h2 : Blk ((w.alloc (.cells #[.int .i64 tb, .slice A rl ca, .slice K kl ck] 71)).alloc (.cells #[.int .i64 tb, .slice A2 rl ca2, .slice K2 kl ck2] 71)) (w.heap.size + 1) #[.int .i64 tb, .slice A2 rl ca2, .slice K2 kl ck2] 71 := (by repeat (first | exact Blk.at (by simp) | assumption | refine Blk.drew ?_ | refine Blk.old ?_ _))
  have hC : Below w.heap.size w ((w.alloc (.cells #[.int .i64 tb, .slice A rl ca, .slice K kl ck] 71)).alloc (.cells #[.int .i64 tb, .slice A2 rl ca2, .slice K2 kl ck2] 71)) := (by repeat (first | exact Below.refl _ _ | assumption | refine Below.drew ?_ | refine below_drewN ?_ _ | refine Below.alloc ?_ (by simp <;> omega) _))
  have HB := Lib.hid h1
  have HB2 := Lib.hid h2
  have HC := Lib.hid hC
  clear h1 h2 hC
  generalize (w.alloc (.cells #[.int .i64 tb, .slice A rl ca, .slice K kl ck] 71)).alloc (.cells #[.int .i64 tb, .slice A2 rl ca2, .slice K2 kl ck2] 71) = W0 at HB HB2 HC ⊢
  generalize w.heap.size + 1 = by' at HB2 ⊢
  generalize w.heap.size = bx at HB ⊢
  obtain ⟨lb, d0, d1, d2⟩ := blk3 HB.out
  go_wp2_with fail
  refine (HS.out _ HC.out).mono ?_
  rintro r w1 ⟨rfl, hb1⟩
  have HW1 := Lib.hid hb1
  clear hb1 lb d0 d1 d2
  obtain ⟨lb2, f0, f1, f2⟩ := blk3 (HB2.out.ext HW1.out)
  go_wp2_with fail
  refine (HS2.out _ (bt HC.out HW1.out)).mono ?_
  rintro r w2 ⟨rfl, hb2⟩
  have HW2 : Hid (Below W0.heap.size W0 w2) := bt HW1.out hb2
  clear hb2 HW1 lb2 f0 f1 f2
  obtain ⟨lb, d0, d1, d2⟩ := blk3 (HB.out.ext HW2.out)
  obtain ⟨lb2, f0, f1, f2⟩ := blk3 (HB2.out.ext HW2.out)
  go_wp2_with fail
  refine (HQ.out _ (bt HC.out HW2.out)).mono ?_
  rintro r w3 ⟨rfl, hb3⟩
  have HW3 : Hid (Below w.heap.size w w3) := bt (bt HC.out HW2.out) hb3
  clear hb3
  go_wp2_with fail
  go_ret
  exact ⟨rfl, HW3.out⟩
end Go.Proofs.YtjdfodmialhakaaDoor

/- Documents: rows of them that are alike; May. -/
namespace Go.Proofs.YtjdfodmialhakaaDoor
open Go.RowKit

set_option maxRecDepth 100000 in
set_option maxHeartbeats 1600000 in
theorem sameall_any (n m : Nat) (K K2 : Option Addr) (ck ck2 : Nat) (ks : List De) (w : World) (hk : KRow (DRd n w) w K ks) (hk2 : KRow (DRd m w) w K2 ks) (hs : ∀ x ∈ ks, 0 < sizeD x) :
    Calls Tryd.prog 51 #[.slice K ks.length ck, .slice K2 ks.length ck2] w fun r w' => r = .returned (.bool true) ∧ Below w.heap.size w w' := by
  have hlen := hk.1
  have HK := Lib.hid hk
  have HK2 := Lib.hid hk2
  have HS := Lib.hid hs
  clear hk hk2 hs
  go_enter Tryd.func51, Tryd.ntmps51
  go_wp2_with fail
  go_loopw [5] (fun i wr => ∃ (k : Nat), k ≤ ks.length ∧ i = .int .i64 k ∧ Below w.heap.size w wr) (fun i _ => ks.length - (intOf i).toNat)
  case atStart => exact ⟨0, by omega, rfl, Below.refl _ _⟩
  case round =>
    obtain ⟨k, hk1, rfl, hbw⟩ := hrel
    have HW := Lib.hid hbw
    have HKK := Lib.hid (HK.out.ext hbw (fun v k h => DRd.ext (n := n) h hbw))
    have HKK2 := Lib.hid (HK2.out.ext hbw (fun v k h => DRd.ext (n := m) h hbw))
    clear hbw
    by_cases hlt : k < ks.length
    · obtain ⟨b, off, x, A', ca', K', ck', rfl, hb, _, hx1, e0, e1, e2, hx⟩ := HKK.out.kid hlt
      obtain ⟨b2, off2, x2, A2, ca2, K2, ck2', rfl, hb2, _, hx2, g0, g1, g2, hy⟩ := HKK2.out.kid hlt
      obtain rfl : x = x2 := by rw [hx1] at hx2; exact Option.some.inj hx2
      have E0 := Lib.hid e0
      have E1 := Lib.hid e1
      have E2 := Lib.hid e2
      have F0 := Lib.hid g0
      have F1 := Lib.hid g1
      have F2 := Lib.hid g2
      have HC1 := Lib.hid (fun (W : World) (hW : Below wr.heap.size wr W) => Same24_any _ _ _ _ x W (hx.ext hW) (hy.ext hW) (HS.out x (List.mem_of_getElem? hx1)))
      clear hx hy hx1 hx2 e0 e1 e2 g0 g1 g2 HKK HKK2
      go_upto_region 6 with fail
      refine region_grow [false, false, false, false, false, false, false, false, false, false, false, false, false, false, false, false, false, true, true, true, true, true, true, true, true, true, true] [17, 18, 19, 20, 21, 22, 23, 24, 25, 26] [.val (.slice (some ⟨b, off, none⟩) ks.length ck), .val (.int .i64 (k : Int)), .val (.pointer (some ⟨b, off + k * 3, none⟩)), .val (.agg #[.int .i64 x.tb, .slice A' x.row.length ca', .slice K' x.kids.length ck']), .val (.slice (some ⟨b2, off2, none⟩) ks.length ck2), .val (.int .i64 (k : Int)), .val (.pointer (some ⟨b2, off2 + k * 3, none⟩)), .val (.agg #[.int .i64 x.tb, .slice A2 x.row.length ca2, .slice K2 x.kids.length ck2']), .val (.bool true), .val (.bool false)] [9] (by kernel_rfl) (by kernel_rfl) (by kernel_rfl) (by kernel_rfl) (by kernel_rfl) ⟨?_, ?_, ?_, ?_, ?_, ?_, ?_, ?_, ?_, ?_, trivial⟩ ?done
      case done =>
        intro x5 w5 hb5
        simp only [StepGoal, overlay, upd, cond_true, cond_false, List.getD_cons_zero, List.getD_cons_succ, Nat.zero_add, Nat.reduceAdd, Nat.reduceEqDiff, reduceIte]
        go_wp2_with fail
        go_roundw
        case rel => exact ⟨k + 1, by omega, by go_num, bt HW.out hb5⟩
        case measure => simp [intOf]; omega
      all_goals
        intro x5 w5 hb5
        intro K hK
        have e0 := (hb5.cell (p := ⟨b, _, none⟩) hb).trans E0.out
        have e1 := (hb5.cell (p := ⟨b, _, none⟩) hb).trans E1.out
        have e2 := (hb5.cell (p := ⟨b, _, none⟩) hb).trans E2.out
        have g0 := (hb5.cell (p := ⟨b2, _, none⟩) hb2).trans F0.out
        have g1 := (hb5.cell (p := ⟨b2, _, none⟩) hb2).trans F1.out
        have g2 := (hb5.cell (p := ⟨b2, _, none⟩) hb2).trans F2.out
        have lb : b < w5.heap.size := Nat.lt_of_lt_of_le hb hb5.size
        have lb2 : b2 < w5.heap.size := Nat.lt_of_lt_of_le hb2 hb5.size
        rw [if_pos (by rfl)]; simp only [overlay, upd, cond_true, cond_false, List.getD_cons_zero, List.getD_cons_succ, Nat.reduceEqDiff, reduceIte]
        go_simp
        first
          | exact hK.out _ _ (Below.refl _ _) rfl
          | ((with_reducible refine (HC1.out _ hb5).mono ?_); rintro e wa ⟨rfl, hba⟩; go_wp2_with fail; exact hK.out _ _ hba rfl)
    · go_wp2_with fail
      go_ret
      exact ⟨rfl, HW.out⟩
theorem may25_eq (d : De) : mayD d = (decide (0 < sizeD d) && fitsB d) := rfl
theorem sizeD_nn (d : De) : 0 ≤ sizeD d ∧ sizeD d ≤ 200 := by
  have := sizeI_le 8 200 d
  unfold sizeD
  omega
set_option maxRecDepth 100000 in
theorem may25_any (n : Nat) (v : Value) (d : De) (w : World) (hT : Tabs w) (hd : DRd n w v d) :
    Calls Tryd.prog 49 #[v] w fun r w' => r = .returned (.bool (mayD d)) ∧ Below w.heap.size w w' := by
  have HS := Lib.hid (fun (W : World) (hW : Below w.heap.size w W) => refsize24_any n v d W (hd.ext hW))
  have HQ := Lib.hid (fun (W : World) (hW : Below w.heap.size w W) => fits25_any n v d W (hT.ext hW) (hd.ext hW))
  have hsz := sizeD_nn d
  obtain ⟨A, ca, K, ck, rfl⟩ := hd.form
  clear hd hT
  have hm := may25_eq d
  generalize mayD d = R at hm ⊢
  generalize sizeD d = q at HS hm hsz
  generalize fitsB d = f at HQ hm
  generalize d.tb = tb at HS HQ ⊢
  generalize d.row.length = rl at HS HQ ⊢
  generalize d.kids.length = kl at HS HQ ⊢
  have HM := Lib.hid hm
  clear hm
  by_cases h0 : 0 < q
  · have HR0 := Lib.hid (show R = f by rw [HM.out, decide_eq_true h0]; rfl)
    go_enter Tryd.func49, Tryd.ntmps49
    go_wp2_with fail
    refine (HS.out _ (by repeat (first | exact Below.refl _ _ | assumption | refine Below.drew ?_ | refine below_drewN ?_ _ | refine Below.alloc ?_ (by simp <;> omega) _))).mono ?_
    rintro r w1 ⟨rfl, hb1⟩
    have HW1 : Hid (Below w.heap.size w w1) := bt (by repeat (first | exact Below.refl _ _ | assumption | refine Below.drew ?_ | refine below_drewN ?_ _ | refine Below.alloc ?_ (by simp <;> omega) _)) hb1
    obtain ⟨lb, d0, d1, d2⟩ := blk3 ((Blk.new w #[.int .i64 tb, .slice A rl ca, .slice K kl ck] 71).ext hb1)
    clear hb1 HS
    go_wp2_with fail
    refine (HQ.out _ HW1.out).mono ?_
    rintro r w2 ⟨rfl, hb2⟩
    have HW2 : Hid (Below w.heap.size w w2) := bt HW1.out hb2
    clear hb2 HQ
    go_wp2_with fail
    go_ret
    exact ⟨ret_bool HR0.out.symm, HW2.out⟩
  · have HR0 := Lib.hid (show R = false by rw [HM.out, decide_eq_false h0]; rfl)
    go_enter Tryd.func49, Tryd.ntmps49
    go_wp2_with fail
    refine (HS.out _ (by repeat (first | exact Below.refl _ _ | assumption | refine Below.drew ?_ | refine below_drewN ?_ _ | refine Below.alloc ?_ (by simp <;> omega) _))).mono ?_
    rintro r w1 ⟨rfl, hb1⟩
    have HW1 : Hid (Below w.heap.size w w1) := bt (by repeat (first | exact Below.refl _ _ | assumption | refine Below.drew ?_ | refine below_drewN ?_ _ | refine Below.alloc ?_ (by simp <;> omega) _)) hb1
    clear hb1 HS
    go_wp2_with fail
    go_ret
    exact ⟨ret_bool HR0.out.symm, HW1.out⟩
end Go.Proofs.YtjdfodmialhakaaDoor

/- Documents: where they lie; a row of them that the call owns. -/
namespace Go.Proofs.YtjdfodmialhakaaDoor
open Go.RowKit

theorem cell_block {w w' : World} {b : Nat} (h : w'.heap[b]? = w.heap[b]?) (o : Nat) : w'.cell? ⟨b, o, none⟩ = w.cell? ⟨b, o, none⟩ := by simp only [World.cell?, h]
theorem VRow.keep {w w' : World} {A : Option Addr} {l : List V} (h : VRow w A l) (hs : w.heap.size ≤ w'.heap.size) (hk : ∀ b off, A = some ⟨b, off, none⟩ → l ≠ [] → b < w.heap.size → w'.heap[b]? = w.heap[b]?) : VRow w' A l := by
  refine ⟨h.1, h.2.1, fun hl => ?_⟩
  obtain ⟨b, off, rfl, hlt, hc⟩ := h.2.2 hl
  have e := hk b off rfl hl hlt
  refine ⟨b, off, rfl, Nat.lt_of_lt_of_le hlt hs, fun i v hi => ?_⟩
  simp only [cell_block e]
  exact hc i v hi
/-- As DRd; each block that the document leads to meets P. -/
def DRp (P : Nat → Prop) : Nat → World → Value → De → Prop
  | 0, _, _, _ => False
  | n + 1, w, v, d => ∃ (A : Option Addr) (ca : Nat) (K : Option Addr) (ck : Nat), v = .agg #[.int .i64 d.tb, .slice A d.row.length ca, .slice K d.kids.length ck] ∧
    (-9223372036854775808 ≤ d.tb ∧ d.tb ≤ 9223372036854775807) ∧ (VRow w A d.row ∧ ∀ b off, A = some ⟨b, off, none⟩ → d.row ≠ [] → P b) ∧ (KRow (DRp P n w) w K d.kids ∧ ∀ b off, K = some ⟨b, off, none⟩ → d.kids ≠ [] → P b)
theorem KRow.mono {R R' : Value → De → Prop} {w : World} {K : Option Addr} {ks : List De} (h : KRow R w K ks) (hR : ∀ v k, R v k → R' v k) : KRow R' w K ks := by
  refine ⟨h.1, fun hl => ?_⟩
  obtain ⟨b, off, rfl, hlt, hc⟩ := h.2 hl
  refine ⟨b, off, rfl, hlt, fun i k hi => ?_⟩
  obtain ⟨c0, c1, c2, h0, h1, h2, h3⟩ := hc i k hi
  exact ⟨c0, c1, c2, h0, h1, h2, hR _ _ h3⟩
theorem KRow.keep {R R' : Value → De → Prop} {w w' : World} {K : Option Addr} {ks : List De} (h : KRow R w K ks) (hs : w.heap.size ≤ w'.heap.size) (hk : ∀ b off, K = some ⟨b, off, none⟩ → ks ≠ [] → b < w.heap.size → w'.heap[b]? = w.heap[b]?) (hR : ∀ v k, R v k → R' v k) : KRow R' w' K ks := by
  refine ⟨h.1, fun hl => ?_⟩
  obtain ⟨b, off, rfl, hlt, hc⟩ := h.2 hl
  have e := hk b off rfl hl hlt
  refine ⟨b, off, rfl, Nat.lt_of_lt_of_le hlt hs, fun i k hi => ?_⟩
  obtain ⟨c0, c1, c2, h0, h1, h2, h3⟩ := hc i k hi
  exact ⟨c0, c1, c2, (cell_block e _).trans h0, (cell_block e _).trans h1, (cell_block e _).trans h2, hR _ _ h3⟩
theorem DRp.rd : ∀ {P : Nat → Prop} {n : Nat} {w : World} {v : Value} {d : De}, DRp P n w v d → DRd n w v d
  | _, 0, _, _, _, h => h.elim
  | _, _ + 1, _, _, _, ⟨A, ca, K, ck, hv, hr, ha, hk⟩ => ⟨A, ca, K, ck, hv, hr, ha.1, hk.1.mono (fun _ _ h => h.rd)⟩
theorem DRp.keep : ∀ {P : Nat → Prop} {n : Nat} {w w' : World} {v : Value} {d : De}, DRp P n w v d → w.heap.size ≤ w'.heap.size → (∀ b, P b → b < w.heap.size → w'.heap[b]? = w.heap[b]?) → DRp P n w' v d
  | _, 0, _, _, _, _, h, _, _ => h.elim
  | _, _ + 1, _, _, _, _, ⟨A, ca, K, ck, hv, hr, ha, hk⟩, hs, hb =>
    ⟨A, ca, K, ck, hv, hr, ⟨ha.1.keep hs (fun b off e hl hlt => hb b (ha.2 b off e hl) hlt), ha.2⟩, hk.1.keep hs (fun b off e hl hlt => hb b (hk.2 b off e hl) hlt) (fun _ _ h => h.keep hs hb), hk.2⟩
theorem below_block {B : Nat} {w w' : World} (h : Below B w w') {b : Nat} (hb : b < B) : w'.heap[b]? = w.heap[b]? := h.block b hb
theorem DRp.ext {P : Nat → Prop} {n : Nat} {w w' : World} {v : Value} {d : De} (h : DRp P n w v d) (hb : Below w.heap.size w w') : DRp P n w' v d := h.keep hb.size (fun _ _ hlt => below_block hb hlt)
theorem DRp.weak : ∀ {P Q : Nat → Prop} {n : Nat} {w : World} {v : Value} {d : De}, DRp P n w v d → (∀ b, P b → b < w.heap.size → Q b) → DRp Q n w v d
  | _, _, 0, _, _, _, h, _ => h.elim
  | _, _, _ + 1, w, _, d, ⟨A, ca, K, ck, hv, hr, ha, hk⟩, hq => by
    refine ⟨A, ca, K, ck, hv, hr, ⟨ha.1, fun b off e hl => ?_⟩, hk.1.mono (fun _ _ h => h.weak hq), fun b off e hl => ?_⟩
    · obtain ⟨b', off', e', hlt, _⟩ := ha.1.2.2 hl
      rw [e] at e'
      simp only [Option.some.injEq, Addr.mk.injEq, and_true] at e'
      exact hq b (ha.2 b off e hl) (by rw [e'.1]; exact hlt)
    · obtain ⟨b', off', e', hlt, _⟩ := hk.1.2 hl
      rw [e] at e'
      simp only [Option.some.injEq, Addr.mk.injEq, and_true] at e'
      exact hq b (hk.2 b off e hl) (by rw [e'.1]; exact hlt)
theorem DRp.grown {P : Nat → Prop} {n : Nat} {w w' : World} {v : Value} {d : De} {row : Option Nat} (h : DRp P n w v d) (hg : w.grownBy w' row) (hr : ∀ b, P b → row ≠ some b) : DRp P n w' v d :=
  h.keep hg.size (fun b hp hlt => hg.block b hlt (fun e => hr b hp e.symm))
theorem DRp.put {P : Nat → Prop} {n : Nat} {w : World} {v : Value} {d : De} {b : Nat} {cs : Array Value} {t : TypeId} (h : DRp P n (putBlk w b cs t) v d) (hb : ¬ P b) (ds : Array Value) : DRp P n (putBlk w b ds t) v d :=
  h.keep (by unfold putBlk; simp) (fun x hx _ => by
    have : x ≠ b := fun e => hb (e ▸ hx)
    unfold putBlk
    simp only
    rw [Array.getElem?_setIfInBounds_ne (Ne.symm this), Array.getElem?_setIfInBounds_ne (Ne.symm this)])
theorem DRp.cells {P : Nat → Prop} {n : Nat} {w : World} {v : Value} {d : De} (h : DRp P n w v d) : ∃ (A : Option Addr) (ca : Nat) (K : Option Addr) (ck : Nat), v = .agg #[.int .i64 d.tb, .slice A d.row.length ca, .slice K d.kids.length ck] := h.rd.form
/-- The cells of a row of documents. -/
def KCells (R : Value → De → Prop) (xs : List Value) (ks : List De) : Prop := xs.length = ks.length * 3 ∧ ∀ i k, ks[i]? = some k → ∃ c0 c1 c2, xs[i * 3]? = some c0 ∧ xs[i * 3 + 1]? = some c1 ∧ xs[i * 3 + 2]? = some c2 ∧ R (.agg #[c0, c1, c2]) k
theorem KCells.nil (R : Value → De → Prop) : KCells R [] [] := ⟨rfl, by simp⟩
theorem KCells.mono {R R' : Value → De → Prop} {xs : List Value} {ks : List De} (h : KCells R xs ks) (hR : ∀ v k, R v k → R' v k) : KCells R' xs ks :=
  ⟨h.1, fun i k hi => by obtain ⟨c0, c1, c2, h0, h1, h2, h3⟩ := h.2 i k hi; exact ⟨c0, c1, c2, h0, h1, h2, hR _ _ h3⟩⟩
theorem KCells.app {R : Value → De → Prop} {xs ys : List Value} {ks ls : List De} (h : KCells R xs ks) (h' : KCells R ys ls) : KCells R (xs ++ ys) (ks ++ ls) := by
  refine ⟨by simp [h.1, h'.1]; omega, fun i k hi => ?_⟩
  by_cases hlt : i < ks.length
  · rw [List.getElem?_append_left hlt] at hi
    obtain ⟨c0, c1, c2, h0, h1, h2, h3⟩ := h.2 i k hi
    have hx := h.1
    refine ⟨c0, c1, c2, ?_, ?_, ?_, h3⟩ <;> rw [List.getElem?_append_left (by omega)] <;> assumption
  · rw [List.getElem?_append_right (by omega)] at hi
    obtain ⟨c0, c1, c2, h0, h1, h2, h3⟩ := h'.2 (i - ks.length) k hi
    have hx := h.1
    refine ⟨c0, c1, c2, ?_, ?_, ?_, h3⟩ <;> rw [List.getElem?_append_right (by omega)] <;> rw [← ‹ys[_]? = some _›] <;> congr 1 <;> omega
theorem KCells.one {R : Value → De → Prop} {c0 c1 c2 : Value} {k : De} (h : R (.agg #[c0, c1, c2]) k) : KCells R [c0, c1, c2] [k] :=
  ⟨rfl, fun i x hi => by
    match i, hi with
    | 0, hi =>
      have : k = x := by simpa using hi
      subst this
      exact ⟨c0, c1, c2, rfl, rfl, rfl, h⟩
    | i + 1, hi => simp at hi⟩
theorem KCells.snoc {R : Value → De → Prop} {xs : List Value} {ks : List De} {c0 c1 c2 : Value} {k : De} {j : Nat} (h : KCells R xs (ks.take j)) (hk : ks[j]? = some k) (hR : R (.agg #[c0, c1, c2]) k) : KCells R (xs ++ [c0, c1, c2]) (ks.take (j + 1)) := by
  obtain ⟨hj, e⟩ := List.getElem?_eq_some_iff.1 hk
  rw [List.take_succ_eq_append_getElem hj, e]
  exact h.app (KCells.one hR)
theorem KRow.of_own {R : Value → De → Prop} {w : World} {base n c : Nat} {A : Option Addr} {xs : List Value} {ks : List De} (ho : w.ownsRow base 71 3 (.slice A n c) n xs) (hc : KCells R xs ks) (hl : ks.length ≤ 2932031007402) :
    (KRow R w A ks ∧ n = ks.length) ∧ ∀ b off, A = some ⟨b, off, none⟩ → ks ≠ [] → base ≤ b := by
  have hn : n = ks.length := by have h1 := ho.1; have h2 := hc.1; omega
  by_cases hpos : 0 < n
  · obtain ⟨g, cap, hv, hg, hlt⟩ := ho.form hpos
    have hA : A = some ⟨g, 0, none⟩ := by injection hv
    subst hA
    have hce := ho.cells (g := g) rfl
    refine ⟨⟨⟨hl, fun _ => ⟨g, 0, rfl, hlt, fun i k hi => ?_⟩⟩, hn⟩, fun b off e _ => ?_⟩
    · obtain ⟨c0, c1, c2, h0, h1, h2, h3⟩ := hc.2 i k hi
      have ea : ∀ j, (⟨g, 0, none⟩ : Addr).add j = ⟨g, 0 + j, none⟩ := by
        intro j; unfold Addr.add; split
        · next h => subst h; rfl
        · simp
      have k0 := hce _ _ h0
      have k1 := hce _ _ h1
      have k2 := hce _ _ h2
      rw [ea] at k0 k1 k2
      exact ⟨c0, c1, c2, k0, k1, k2, h3⟩
    · simp only [Option.some.injEq, Addr.mk.injEq, and_true] at e
      rw [← e.1]; exact hg
  · have : ks = [] := List.length_eq_zero_iff.1 (by omega)
    subst this
    exact ⟨⟨⟨hl, fun h => absurd rfl h⟩, hn⟩, fun _ _ _ h => absurd rfl h⟩
end Go.Proofs.YtjdfodmialhakaaDoor
