/- Several texts in one: see each part's head. -/
import Derived.Test.YtjdfodmialhakaaDoorDc3
import Derived.Test.YtjdfodmialhakaaDoorPutBlk
import Derived.Test.YtjdfodmialhakaaDoorRegApp
/- Documents: how large they are. -/
namespace Go.Proofs.YtjdfodmialhakaaDoor
open Go.RowKit

set_option maxRecDepth 100000 in
theorem aggsize_any (n : Nat) (v : Value) (d : De) (w : World) (hd : DRd n w v d) :
    Calls Tryd.prog 120 #[v] w fun r w' => r = .returned (.int .i64 (sizeD d)) ∧ Below w.heap.size w w' := by
  have HD := Lib.hid hd
  obtain ⟨A, ca, K, ck, hv⟩ : ∃ (A : Option Addr) (ca : Nat) (K : Option Addr) (ck : Nat), v = .agg #[.int .i64 d.tb, .slice A d.row.length ca, .slice K d.kids.length ck] := by
    cases n with
    | zero => exact hd.elim
    | succ n => obtain ⟨A, ca, K, ck, h, _⟩ := hd; exact ⟨A, ca, K, ck, h⟩
  subst hv
  clear hd
  have hl := leftI_le 8 200 d
  have hs := size_left d
  have HL := Lib.hid (fun (W : World) (hW : Below w.heap.size w W) => left_any n 8 200 _ d W (HD.out.ext hW) (by omega) (by omega) (by omega) (by omega))
  rw [show (8 : Int).toNat = 8 from rfl] at HL
  clear HD
  generalize leftI 8 200 d = q at HL hl hs
  generalize sizeD d = R at hs ⊢
  by_cases hq : q < 0
  · have HR := Lib.hid (show R = 0 by omega)
    clear hs
    go_enter Tryd.func120, Tryd.ntmps120
    go_wp2_with fail
    refine (HL.out _ (by repeat (first | exact Below.refl _ _ | assumption | refine Below.drew ?_ | refine below_drewN ?_ _ | refine Below.alloc ?_ (by simp <;> omega) _))).mono ?_
    rintro r w2 ⟨rfl, hb2⟩
    have HW2 : Hid (Below w.heap.size w w2) := bt (by repeat (first | exact Below.refl _ _ | assumption | refine Below.drew ?_ | refine below_drewN ?_ _ | refine Below.alloc ?_ (by simp <;> omega) _)) hb2
    clear hb2 HL
    go_wp2_with fail
    go_ret
    exact ⟨ret_int HR.out.symm, HW2.out⟩
  · have HR := Lib.hid (show R = 200 - q by omega)
    have h0 : 0 ≤ q := by omega
    have h1 : q ≤ 200 := hl.2 h0
    clear hs hl hq
    go_enter Tryd.func120, Tryd.ntmps120
    go_wp2_with fail
    refine (HL.out _ (by repeat (first | exact Below.refl _ _ | assumption | refine Below.drew ?_ | refine below_drewN ?_ _ | refine Below.alloc ?_ (by simp <;> omega) _))).mono ?_
    rintro r w2 ⟨rfl, hb2⟩
    have HW2 : Hid (Below w.heap.size w w2) := bt (by repeat (first | exact Below.refl _ _ | assumption | refine Below.drew ?_ | refine below_drewN ?_ _ | refine Below.alloc ?_ (by simp <;> omega) _)) hb2
    clear hb2 HL
    go_wp2_with fail
    go_ret
    exact ⟨ret_int HR.out.symm, HW2.out⟩
theorem sizeI_0 (most : Int) (d : De) : sizeI (0 : Int).toNat most d = -1 := rfl
theorem sizeI_gt {dp : Int} (h : 0 < dp) (most : Int) (d : De) : sizeI dp.toNat most d = if most < 1 then -1 else sizeK (sizeI (dp - 1).toNat) most 1 d.kids := by
  rw [show dp.toNat = (dp - 1).toNat + 1 by omega]; rfl
theorem sizeK_nil (f : Int → De → Int) (most n : Int) : sizeK f most n [] = n := rfl
theorem sizeK_no {f : Int → De → Int} {most n : Int} {k : De} {ks : List De} (h : f (most - n) k < 0) : sizeK f most n (k :: ks) = -1 := by rw [sizeK, if_pos h]
theorem sizeK_go {f : Int → De → Int} {most n : Int} {k : De} {ks : List De} (h : ¬ f (most - n) k < 0) : sizeK f most n (k :: ks) = sizeK f most (n + f (most - n) k) ks := by rw [sizeK, if_neg h]
theorem sizeI_le (dp : Nat) (most : Int) (d : De) : 0 ≤ sizeI dp most d → sizeI dp most d ≤ most := by
  rcases sizeI_left dp most d with h | h <;> omega
set_option maxRecDepth 100000 in
theorem size24_any : ∀ (n : Nat) (dp most : Int) (v : Value) (d : De) (w : World), DRd n w v d → 0 ≤ dp → dp ≤ 1000 → -1000 ≤ most → most ≤ 1000 →
    Calls Tryd.prog 122 #[v, .int .i64 dp, .int .i64 most] w fun r w' => r = .returned (.int .i64 (sizeI dp.toNat most d)) ∧ Below w.heap.size w w'
  | 0, _, _, _, _, _, h, _, _, _, _ => h.elim
  | n + 1, dp, most, v, d, w, hd, h0, h1, h2, h3 => by
    obtain ⟨A, ca, K, ck, rfl, _, _, hk⟩ := hd
    have IH := Lib.hid (size24_any n)
    have hlen := hk.1
    by_cases hz : dp = 0
    · subst hz
      rw [sizeI_0]
      clear IH hk
      go_enter Tryd.func122, Tryd.ntmps122
      go_wp2
      go_ret
      exact ⟨rfl, (by repeat (first | exact Below.refl _ _ | assumption | refine Below.drew ?_ | refine below_drewN ?_ _ | refine Below.alloc ?_ (by simp <;> omega) _))⟩
    · have hp : 0 < dp := by omega
      have hz1 : (dp == 0) = false := by simp; omega
      rw [sizeI_gt hp]
      by_cases hm : most < 1
      · rw [if_pos hm]
        clear IH hk hz
        go_enter Tryd.func122, Tryd.ntmps122
        go_wp2
        go_ret
        exact ⟨rfl, (by repeat (first | exact Below.refl _ _ | assumption | refine Below.drew ?_ | refine below_drewN ?_ _ | refine Below.alloc ?_ (by simp <;> omega) _))⟩
      · rw [if_neg hm]
        have hm1 : 1 ≤ most := by omega
        clear hm hz
        generalize hf : sizeI (dp - 1).toNat = f
        have HF := Lib.hid hf
        have HL := Lib.hid (fun m d => by rw [← hf]; exact sizeI_le (dp - 1).toNat m d : ∀ m d, 0 ≤ f m d → f m d ≤ m)
        clear hf
        generalize hR : sizeK f most 1 d.kids = R
        have HR := Lib.hid hR
        clear hR
        have HK := Lib.hid hk
        clear hk
        generalize d.tb = tb
        generalize d.row.length = rl
        generalize d.kids = ks at HK HR hlen ⊢
        go_enter Tryd.func122, Tryd.ntmps122
        go_upto_region 1 with fail
        have h1 : Blk (w.alloc (.cells #[.int .i64 tb, .slice A rl ca, .slice K ks.length ck] 71)) w.heap.size #[.int .i64 tb, .slice A rl ca, .slice K ks.length ck] 71 := Blk.new w _ _
        have hC : Below w.heap.size w (w.alloc (.cells #[.int .i64 tb, .slice A rl ca, .slice K ks.length ck] 71)) := (by repeat (first | exact Below.refl _ _ | assumption | refine Below.drew ?_ | refine below_drewN ?_ _ | refine Below.alloc ?_ (by simp <;> omega) _))
        have HB := Lib.hid h1
        have HC := Lib.hid hC
        have HK := Lib.hid (HK.out.ext hC (fun v k h => DRd.ext (n := n) h hC))
        clear h1 hC
        generalize w.alloc (.cells #[.int .i64 tb, .slice A rl ca, .slice K ks.length ck] 71) = W0 at HB HC HK ⊢
        generalize w.heap.size = bx at HB ⊢
        have lb := HB.out.lt
        have d2 := HB.out.cell 2
        simp only [List.getElem?_toArray, List.getElem?_cons_zero, List.getElem?_cons_succ] at d2
        go_wp2_with fail
        go_loopw [7, 8] (fun m i wr => ∃ (k : Nat) (nn : Int), k ≤ ks.length ∧ 1 ≤ nn ∧ nn ≤ most ∧ i = .int .i64 k ∧ m = .int .i64 nn ∧ Hid (sizeK f most nn (ks.drop k) = R) ∧ Below W0.heap.size W0 wr) (fun _ i _ => ks.length - (intOf i).toNat)
        case atStart => exact ⟨0, 1, by omega, by omega, by omega, rfl, rfl, HR.out, Below.refl _ _⟩
        case round =>
          obtain ⟨k, mm, hk1, m0, m1, rfl, rfl, HS, hbw⟩ := hrel
          have lb := (HB.out.ext hbw).lt
          have d2 := (HB.out.ext hbw).cell 2
          simp only [List.getElem?_toArray, List.getElem?_cons_zero, List.getElem?_cons_succ] at d2
          by_cases hlt : k < ks.length
          · obtain ⟨b, off, x, A', ca', K', ck', rfl, hb, hdr, _, e0, e1, e2, hx⟩ := (HK.out.ext hbw (fun v k h => DRd.ext (n := n) h hbw)).kid hlt
            have HX := Lib.hid hx
            have HW := Lib.hid hbw
            have HD := Lib.hid hdr
            clear hx hbw hdr
            go_wp2_with fail
            refine (IH.out (dp - 1) (most - mm) _ x _ HX.out (by omega) (by omega) (by omega) (by omega)).mono ?_
            rw [HF.out]
            rintro r w2 ⟨rfl, hb2⟩
            have HW2 : Hid (Below W0.heap.size W0 w2) := bt HW.out hb2
            have hfu := HL.out (most - mm) x
            clear HX HW hb2 e0 e1 e2 hb lb d2
            have lb := (HB.out.ext HW2.out).lt
            have d2 := (HB.out.ext HW2.out).cell 2
            simp only [List.getElem?_toArray, List.getElem?_cons_zero, List.getElem?_cons_succ] at d2
            by_cases hneg : f (most - mm) x < 0
            · have hr0 : R = -1 := by rw [← HS.out, HD.out, sizeK_no hneg]
              have HR0 := Lib.hid hr0
              clear hr0 hfu
              generalize f (most - mm) x = q at hneg ⊢
              go_wp2_with fail
              go_ret
              exact ⟨ret_int HR0.out.symm, bt HC.out HW2.out⟩
            · have hr0 : sizeK f most (mm + f (most - mm) x) (ks.drop (k + 1)) = R := by rw [← HS.out, HD.out, sizeK_go hneg]
              have HR0 := Lib.hid hr0
              have hq0 : 0 ≤ f (most - mm) x := by omega
              have hq1 := hfu hq0
              clear hr0 hfu hneg
              generalize f (most - mm) x = q at hq0 hq1 HR0 ⊢
              go_wp2_with fail
              go_roundw
              case rel => exact ⟨k + 1, mm + q, by omega, by omega, by omega, by go_num, rfl, HR0.out, HW2.out⟩
              case measure => simp [intOf]; omega
          · have hr0 : R = mm := by rw [← HS.out, List.drop_of_length_le (by omega), sizeK_nil]
            have HR0 := Lib.hid hr0
            have HW := Lib.hid hbw
            clear hr0 hbw
            go_wp2_with fail
            go_ret
            exact ⟨ret_int HR0.out.symm, bt HC.out HW.out⟩
end Go.Proofs.YtjdfodmialhakaaDoor

/- Documents: the law's guard; the document's size. -/
namespace Go.Proofs.YtjdfodmialhakaaDoor
open Go.RowKit

theorem DRd.form {n : Nat} {w : World} {v : Value} {d : De} (h : DRd n w v d) : ∃ (A : Option Addr) (ca : Nat) (K : Option Addr) (ck : Nat), v = .agg #[.int .i64 d.tb, .slice A d.row.length ca, .slice K d.kids.length ck] := by
  cases n with
  | zero => exact h.elim
  | succ n => obtain ⟨A, ca, K, ck, h, _⟩ := h; exact ⟨A, ca, K, ck, h⟩
theorem max_eq {q : Int} : max q 0 = if q < 0 then 0 else q := by omega
set_option maxRecDepth 100000 in
theorem refsize24_any (n : Nat) (v : Value) (d : De) (w : World) (hd : DRd n w v d) :
    Calls Tryd.prog 47 #[v] w fun r w' => r = .returned (.int .i64 (sizeD d)) ∧ Below w.heap.size w w' := by
  have HD := Lib.hid hd
  obtain ⟨A, ca, K, ck, rfl⟩ := hd.form
  clear hd
  have hl := sizeI_le 8 200 d
  have hs : sizeD d = max (sizeI 8 200 d) 0 := rfl
  have HL := Lib.hid (fun (W : World) (hW : Below w.heap.size w W) => size24_any n 8 200 _ d W (HD.out.ext hW) (by omega) (by omega) (by omega) (by omega))
  rw [show (8 : Int).toNat = 8 from rfl] at HL
  clear HD
  generalize sizeI 8 200 d = q at HL hl hs
  generalize sizeD d = R at hs ⊢
  have HR := Lib.hid hs
  clear hs
  by_cases hq : q < 0
  · have HR0 := Lib.hid (show R = 0 by rw [HR.out]; omega)
    go_enter Tryd.func47, Tryd.ntmps47
    go_wp2_with fail
    refine (HL.out _ (by repeat (first | exact Below.refl _ _ | assumption | refine Below.drew ?_ | refine below_drewN ?_ _ | refine Below.alloc ?_ (by simp <;> omega) _))).mono ?_
    rintro r w2 ⟨rfl, hb2⟩
    have HW2 : Hid (Below w.heap.size w w2) := bt (by repeat (first | exact Below.refl _ _ | assumption | refine Below.drew ?_ | refine below_drewN ?_ _ | refine Below.alloc ?_ (by simp <;> omega) _)) hb2
    clear hb2 HL
    go_wp2_with fail
    go_ret
    exact ⟨ret_int HR.out.symm, HW2.out⟩
  · have HR0 := Lib.hid (show R = q by rw [HR.out]; omega)
    have h0 : 0 ≤ q := by omega
    have h1 : q ≤ 200 := hl h0
    clear hl hq
    go_enter Tryd.func47, Tryd.ntmps47
    go_wp2_with fail
    refine (HL.out _ (by repeat (first | exact Below.refl _ _ | assumption | refine Below.drew ?_ | refine below_drewN ?_ _ | refine Below.alloc ?_ (by simp <;> omega) _))).mono ?_
    rintro r w2 ⟨rfl, hb2⟩
    have HW2 : Hid (Below w.heap.size w w2) := bt (by repeat (first | exact Below.refl _ _ | assumption | refine Below.drew ?_ | refine below_drewN ?_ _ | refine Below.alloc ?_ (by simp <;> omega) _)) hb2
    clear hb2 HL
    go_wp2_with fail
    go_ret
    exact ⟨ret_int HR.out.symm, HW2.out⟩
/-- The law's long. -/
def longI : Nat → Int → De → Int
  | 0, _, _ => -1
  | deep + 1, most, d => if most - 1 < 0 ∨ 4000 < longN d.row ∨ most - 1 < d.kids.length then -1 else leftK (longI deep) (most - 1) d.kids
theorem longI_0 (most : Int) (d : De) : longI (0 : Int).toNat most d = -1 := rfl
theorem longI_pos {dp : Int} (h : 0 < dp) (most : Int) (d : De) : longI dp.toNat most d = if most - 1 < 0 ∨ 4000 < longN d.row ∨ most - 1 < d.kids.length then -1 else leftK (longI (dp - 1).toNat) (most - 1) d.kids := by
  rw [show dp.toNat = (dp - 1).toNat + 1 by omega]; rfl
theorem leftK_le {f : Int → De → Int} (hf : ∀ m d, -1 ≤ f m d ∧ (0 ≤ f m d → f m d ≤ m)) : ∀ (ks : List De) (m : Int), 0 ≤ m → -1 ≤ leftK f m ks ∧ (0 ≤ leftK f m ks → leftK f m ks ≤ m)
  | [], m, h => by simp only [leftK]; omega
  | k :: ks, m, h => by
    simp only [leftK]
    by_cases hn : f m k < 0
    · rw [if_pos hn]; omega
    · rw [if_neg hn]
      have h1 := hf m k
      have h2 := leftK_le hf ks (f m k) (by omega)
      omega
theorem longI_le : ∀ (dp : Nat) (most : Int) (d : De), -1 ≤ longI dp most d ∧ (0 ≤ longI dp most d → longI dp most d ≤ most)
  | 0, most, d => by simp [longI]
  | dp + 1, most, d => by
    simp only [longI]
    split
    · omega
    · next h =>
      have := leftK_le (longI_le dp) d.kids (most - 1) (by omega)
      omega
/-- What is not long is small all through. -/
def Sm : Nat → De → Prop
  | 0, _ => False
  | n + 1, d => longN d.row ≤ 4000 ∧ d.kids.length ≤ 400 ∧ ∀ k ∈ d.kids, Sm n k
theorem leftK_all {f : Int → De → Int} (hf : ∀ m d, -1 ≤ f m d ∧ (0 ≤ f m d → f m d ≤ m)) : ∀ (ks : List De) (m : Int), m ≤ 400 → ¬ leftK f m ks < 0 → ∀ k ∈ ks, ∃ m', m' ≤ 400 ∧ ¬ f m' k < 0
  | k :: ks, m, hm, h, x, hx => by
    simp only [leftK] at h
    by_cases hn : f m k < 0
    · rw [if_pos hn] at h; omega
    · rw [if_neg hn] at h
      rcases List.mem_cons.1 hx with rfl | hx
      · exact ⟨m, hm, hn⟩
      · have := hf m k
        exact leftK_all hf ks (f m k) (by omega) h x hx
theorem longI_small : ∀ (dp : Nat) (most : Int) (d : De), most ≤ 400 → ¬ longI dp most d < 0 → Sm dp d
  | 0, most, d, _, h => by simp [longI] at h
  | dp + 1, most, d, hm, h => by
    simp only [longI] at h
    split at h
    · omega
    · next hn =>
      refine ⟨by omega, by omega, fun k hk => ?_⟩
      obtain ⟨m', h1, h2⟩ := leftK_all (longI_le dp) d.kids (most - 1) (by omega) h k hk
      exact longI_small dp m' k h1 h2
def longD (d : De) : Bool := decide (longI 12 400 d < 0)
theorem long_small {d : De} (h : longD d = false) : Sm 12 d := longI_small 12 400 d (by omega) (of_decide_eq_false h)
set_option maxRecDepth 100000 in
set_option maxHeartbeats 800000 in
theorem long24_any : ∀ (n : Nat) (dp most : Int) (v : Value) (d : De) (w : World), DRd n w v d → 0 ≤ dp → dp ≤ 1000 → -1000 ≤ most → most ≤ 1000 →
    Calls Tryd.prog 119 #[v, .int .i64 dp, .int .i64 most] w fun r w' => r = .returned (.int .i64 (longI dp.toNat most d)) ∧ Below w.heap.size w w'
  | 0, _, _, _, _, _, h, _, _, _, _ => h.elim
  | n + 1, dp, most, v, d, w, hd, h0, h1, h2, h3 => by
    obtain ⟨A, ca, K, ck, rfl, _, hv, hk⟩ := hd
    have IH := Lib.hid (long24_any n)
    have hlen := hk.1
    by_cases hz : dp = 0
    · subst hz
      rw [longI_0]
      clear IH hk hv
      go_enter Tryd.func119, Tryd.ntmps119
      go_wp2
      go_ret
      exact ⟨rfl, (by repeat (first | exact Below.refl _ _ | assumption | refine Below.drew ?_ | refine below_drewN ?_ _ | refine Below.alloc ?_ (by simp <;> omega) _))⟩
    · have hp : 0 < dp := by omega
      have hz1 : (dp == 0) = false := by simp; omega
      rw [longI_pos hp]
      by_cases hm : most - 1 < 0
      · rw [if_pos (Or.inl hm)]
        have hm1 : most < 1 := by omega
        clear IH hk hz hv
        go_enter Tryd.func119, Tryd.ntmps119
        go_wp2
        go_ret
        exact ⟨rfl, (by repeat (first | exact Below.refl _ _ | assumption | refine Below.drew ?_ | refine below_drewN ?_ _ | refine Below.alloc ?_ (by simp <;> omega) _))⟩
      · have hm1 : 1 ≤ most := by omega
        by_cases hL : 4000 < longN d.row
        · rw [if_pos (Or.inr (Or.inl hL))]
          have HLY := Lib.hid (fun (W : World) (hW : Below w.heap.size w W) => long_yes d.row A ca W (hv.ext hW) hL)
          clear IH hk hz hv hL hm
          generalize d.row.length = rl at HLY ⊢
          go_enter Tryd.func119, Tryd.ntmps119
          go_wp2_with fail
          refine (HLY.out _ (by repeat (first | exact Below.refl _ _ | assumption | refine Below.drew ?_ | refine below_drewN ?_ _ | refine Below.alloc ?_ (by simp <;> omega) _))).mono ?_
          rintro r w2 ⟨rfl, rfl⟩
          go_wp2_with fail
          go_ret
          exact ⟨rfl, (by repeat (first | exact Below.refl _ _ | assumption | refine Below.drew ?_ | refine below_drewN ?_ _ | refine Below.alloc ?_ (by simp <;> omega) _))⟩
        · have HLN := Lib.hid (fun (W : World) (hW : Below w.heap.size w W) => long_not d.row A ca W (hv.ext hW) hL)
          by_cases hkl : most - 1 < d.kids.length
          · rw [if_pos (Or.inr (Or.inr hkl))]
            clear IH hk hz hv hL hm
            generalize d.row.length = rl at HLN ⊢
            generalize d.kids.length = kl at hkl hlen ⊢
            go_enter Tryd.func119, Tryd.ntmps119
            go_wp2_with fail
            refine (HLN.out _ (by repeat (first | exact Below.refl _ _ | assumption | refine Below.drew ?_ | refine below_drewN ?_ _ | refine Below.alloc ?_ (by simp <;> omega) _))).mono ?_
            rintro r w2 ⟨rfl, rfl⟩
            go_wp2_with fail
            go_ret
            exact ⟨rfl, (by repeat (first | exact Below.refl _ _ | assumption | refine Below.drew ?_ | refine below_drewN ?_ _ | refine Below.alloc ?_ (by simp <;> omega) _))⟩
          · rw [if_neg (by omega)]
            have hkl1 : (d.kids.length : Int) ≤ most - 1 := by omega
            clear hm hz hL hv hkl
            generalize hf : longI (dp - 1).toNat = f
            have HF := Lib.hid hf
            have HL := Lib.hid (fun m d => by rw [← hf]; exact longI_le (dp - 1).toNat m d : ∀ m d, -1 ≤ f m d ∧ (0 ≤ f m d → f m d ≤ m))
            clear hf
            generalize hR : leftK f (most - 1) d.kids = R
            have HR := Lib.hid hR
            clear hR
            have HK := Lib.hid hk
            clear hk
            generalize d.tb = tb
            generalize d.row.length = rl at HLN ⊢
            generalize d.kids = ks at HK HR hlen hkl1 ⊢
            go_enter Tryd.func119, Tryd.ntmps119
            go_upto_region 1 with fail
            have h1 : Blk (w.alloc (.cells #[.int .i64 tb, .slice A rl ca, .slice K ks.length ck] 71)) w.heap.size #[.int .i64 tb, .slice A rl ca, .slice K ks.length ck] 71 := Blk.new w _ _
            have hC : Below w.heap.size w (w.alloc (.cells #[.int .i64 tb, .slice A rl ca, .slice K ks.length ck] 71)) := (by repeat (first | exact Below.refl _ _ | assumption | refine Below.drew ?_ | refine below_drewN ?_ _ | refine Below.alloc ?_ (by simp <;> omega) _))
            have HB := Lib.hid h1
            have HC := Lib.hid hC
            have HK := Lib.hid (HK.out.ext hC (fun v k h => DRd.ext (n := n) h hC))
            clear h1 hC
            generalize w.alloc (.cells #[.int .i64 tb, .slice A rl ca, .slice K ks.length ck] 71) = W0 at HB HC HK ⊢
            generalize w.heap.size = bx at HB ⊢
            have lb := HB.out.lt
            have d1 := HB.out.cell 1
            have d2 := HB.out.cell 2
            simp only [List.getElem?_toArray, List.getElem?_cons_zero, List.getElem?_cons_succ] at d1 d2
            go_wp2_with fail
            refine (HLN.out _ HC.out).mono ?_
            rintro r w2 ⟨rfl, rfl⟩
            go_wp2_with fail
            go_loopw [2, 7] (fun m i wr => ∃ (k : Nat) (mm : Int), k ≤ ks.length ∧ 0 ≤ mm ∧ mm ≤ 1000 ∧ i = .int .i64 k ∧ m = .int .i64 mm ∧ Hid (leftK f mm (ks.drop k) = R) ∧ Below W0.heap.size W0 wr) (fun _ i _ => ks.length - (intOf i).toNat)
            case atStart => exact ⟨0, most - 1, by omega, by omega, by omega, rfl, rfl, HR.out, Below.refl _ _⟩
            case round =>
              obtain ⟨k, mm, hk1, m0, m1, rfl, rfl, HS, hbw⟩ := hrel
              clear lb d1 d2
              have lb := (HB.out.ext hbw).lt
              have d2 := (HB.out.ext hbw).cell 2
              simp only [List.getElem?_toArray, List.getElem?_cons_zero, List.getElem?_cons_succ] at d2
              by_cases hlt : k < ks.length
              · obtain ⟨b, off, x, A', ca', K', ck', rfl, hb, hdr, _, e0, e1, e2, hx⟩ := (HK.out.ext hbw (fun v k h => DRd.ext (n := n) h hbw)).kid hlt
                have HX := Lib.hid hx
                have HW := Lib.hid hbw
                have HD := Lib.hid hdr
                clear hx hbw hdr
                go_wp2_with fail
                refine (IH.out (dp - 1) mm _ x _ HX.out (by omega) (by omega) (by omega) (by omega)).mono ?_
                rw [HF.out]
                rintro r w2 ⟨rfl, hb2⟩
                have HW2 : Hid (Below W0.heap.size W0 w2) := bt HW.out hb2
                have hfl := (HL.out mm x).1
                have hfu := (HL.out mm x).2
                clear HX HW hb2 e0 e1 e2 hb lb d2
                have lb := (HB.out.ext HW2.out).lt
                have d2 := (HB.out.ext HW2.out).cell 2
                simp only [List.getElem?_toArray, List.getElem?_cons_zero, List.getElem?_cons_succ] at d2
                by_cases hneg : f mm x < 0
                · have hr0 : R = -1 := by rw [← HS.out, HD.out, leftK_neg hneg]
                  have HR0 := Lib.hid hr0
                  clear hr0 hfu
                  generalize f mm x = q at hneg hfl ⊢
                  go_wp2_with fail
                  go_ret
                  exact ⟨ret_int HR0.out.symm, bt HC.out HW2.out⟩
                · have hr0 : leftK f (f mm x) (ks.drop (k + 1)) = R := by rw [← HS.out, HD.out, leftK_pos hneg]
                  have HR0 := Lib.hid hr0
                  have hq0 : 0 ≤ f mm x := by omega
                  have hq1 := hfu hq0
                  clear hr0 hfu hneg
                  generalize f mm x = q at hq0 hq1 hfl HR0 ⊢
                  go_wp2_with fail
                  go_roundw
                  case rel => exact ⟨k + 1, q, by omega, by omega, by omega, by go_num, rfl, HR0.out, HW2.out⟩
                  case measure => simp [intOf]; omega
              · have hr0 : R = mm := by rw [← HS.out, List.drop_of_length_le (by omega), leftK_nil]
                have HR0 := Lib.hid hr0
                have HW := Lib.hid hbw
                clear hr0 hbw
                go_wp2_with fail
                go_ret
                exact ⟨ret_int HR0.out.symm, bt HC.out HW.out⟩
set_option maxRecDepth 100000 in
theorem Long24_any (n : Nat) (v : Value) (d : De) (w : World) (hd : DRd n w v d) (b : Bool) (hB : longD d = b) :
    Calls Tryd.prog 41 #[v] w fun r w' => r = .returned (.bool b) ∧ Below w.heap.size w w' := by
  have HD := Lib.hid hd
  obtain ⟨A, ca, K, ck, rfl⟩ := hd.form
  clear hd
  have hl := (longI_le 12 400 d).1
  have hs : decide (longI 12 400 d < 0) = b := hB
  have HL := Lib.hid (fun (W : World) (hW : Below w.heap.size w W) => long24_any n 12 400 _ d W (HD.out.ext hW) (by omega) (by omega) (by omega) (by omega))
  rw [show (12 : Int).toNat = 12 from rfl] at HL
  clear HD hB
  generalize longI 12 400 d = q at HL hl hs
  have HR := Lib.hid hs
  clear hs
  go_enter Tryd.func41, Tryd.ntmps41
  go_wp2_with fail
  refine (HL.out _ (by repeat (first | exact Below.refl _ _ | assumption | refine Below.drew ?_ | refine below_drewN ?_ _ | refine Below.alloc ?_ (by simp <;> omega) _))).mono ?_
  rintro r w2 ⟨rfl, hb2⟩
  have HW2 : Hid (Below w.heap.size w w2) := bt (by repeat (first | exact Below.refl _ _ | assumption | refine Below.drew ?_ | refine below_drewN ?_ _ | refine Below.alloc ?_ (by simp <;> omega) _)) hb2
  clear hb2 HL
  go_wp2_with fail
  go_ret
  exact ⟨ret_bool HR.out, HW2.out⟩
end Go.Proofs.YtjdfodmialhakaaDoor
