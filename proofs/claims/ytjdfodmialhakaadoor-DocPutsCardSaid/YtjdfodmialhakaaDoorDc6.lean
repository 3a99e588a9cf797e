/- Documents: which may be, by the document. -/
import Derived.Test.YtjdfodmialhakaaDoorDc5
import Derived.Deep.DeepCutAuto
namespace Go.Proofs.YtjdfodmialhakaaDoor
open Go.RowKit

/-- The documents ahead of the k-th are right. -/
def OkK (ks : List De) (k : Nat) : Prop := (∀ i x, i < k → ks[i]? = some x → fitsB x = true) ∧ (∀ i a b, i + 1 < k → ks[i]? = some a → ks[i + 1]? = some b → a.tb ≤ b.tb)
theorem OkK.end_ {ks : List De} {k : Nat} (h : OkK ks k) (hk : ks.length ≤ k) : (ordB ks && ks.all fitsB) = true := by
  rw [Bool.and_eq_true, ordB_iff, List.all_eq_true]
  refine ⟨fun i a b ha hb => h.2 i a b ?_ ha hb, fun x hx => ?_⟩
  · have := (List.getElem?_eq_some_iff.1 hb).1; omega
  · obtain ⟨i, hi, rfl⟩ := List.mem_iff_getElem.1 hx
    exact h.1 i _ (by omega) (List.getElem?_eq_getElem hi)
theorem OkK.no {ks : List De} {k : Nat} {x : De} (hx : ks[k]? = some x) (h : fitsB x = false) : (ordB ks && ks.all fitsB) = false := by
  rw [Bool.and_eq_false_iff]
  right
  rw [List.all_eq_false]
  exact ⟨x, List.mem_of_getElem? hx, by simp [h]⟩
theorem OkK.no2 {ks : List De} {k : Nat} {a b : De} (ha : ks[k]? = some a) (hb : ks[k + 1]? = some b) (h : b.tb < a.tb) : ordB ks = false := by
  cases e : ordB ks with
  | false => rfl
  | true =>
    have := (ordB_iff ks).1 e k a b ha hb
    omega
theorem OkK.step {ks : List De} {k : Nat} {x : De} (h : OkK ks k) (hx : ks[k]? = some x) (hf : fitsB x = true) (ho : ∀ j a, k = j + 1 → ks[j]? = some a → a.tb ≤ x.tb) : OkK ks (k + 1) := by
  refine ⟨fun i y hi hy => ?_, fun i a b hi ha hb => ?_⟩
  · by_cases e : i = k
    · subst e; rw [hx] at hy; cases hy; exact hf
    · exact h.1 i y (by omega) hy
  · by_cases e : i + 1 = k
    · subst e; rw [hx] at hb; cases hb; exact ho i a rfl ha
    · exact h.2 i a b (by omega) ha hb
theorem KRow.kid2 {n : Nat} {w : World} {K : Option Addr} {ks : List De} (h : KRow (DRd n w) w K ks) {j : Nat} (hk : j + 1 < ks.length) :
    ∃ (b off : Nat) (y x : De) (A : Option Addr) (ca : Nat) (K' : Option Addr) (ck : Nat), K = some ⟨b, off, none⟩ ∧ b < w.heap.size ∧ ks[j]? = some y ∧ ks[j + 1]? = some x ∧ w.cell? ⟨b, off + j * 3, none⟩ = some (.int .i64 y.tb) ∧
      w.cell? ⟨b, off + (j + 1) * 3, none⟩ = some (.int .i64 x.tb) ∧ w.cell? ⟨b, off + (j + 1) * 3 + 1, none⟩ = some (.slice A x.row.length ca) ∧ w.cell? ⟨b, off + (j + 1) * 3 + 2, none⟩ = some (.slice K' x.kids.length ck) ∧ DRd n w (.agg #[.int .i64 x.tb, .slice A x.row.length ca, .slice K' x.kids.length ck]) x := by
  obtain ⟨b, off, x, A, ca, K', ck, rfl, hb, _, h1, e0, e1, e2, hd⟩ := h.kid hk
  obtain ⟨b', off', y, _, _, _, _, he, _, _, h2, f0, _, _, _⟩ := h.kid (Nat.lt_of_succ_lt hk)
  simp only [Option.some.injEq, Addr.mk.injEq, and_true] at he
  obtain ⟨rfl, rfl⟩ := he
  exact ⟨b, off, y, x, A, ca, K', ck, rfl, hb, h2, h1, f0, e0, e1, e2, hd⟩
theorem tb_bounds {n : Nat} {w : World} {v : Value} {d : De} (h : DRd n w v d) : -9223372036854775808 ≤ d.tb ∧ d.tb ≤ 9223372036854775807 := by
  cases n with
  | zero => exact h.elim
  | succ n => obtain ⟨_, _, _, _, _, hr, _⟩ := h; exact hr
set_option maxRecDepth 100000 in
set_option maxHeartbeats 1600000 in
theorem fits25_any : ∀ (n : Nat) (v : Value) (d : De) (w : World), Tabs w → DRd n w v d →
    Calls Tryd.prog 124 #[v] w fun r w' => r = .returned (.bool (fitsB d)) ∧ Below w.heap.size w w'
  | 0, _, _, _, _, h => h.elim
  | n + 1, v, d, w, hT, hd => by
    obtain ⟨A, ca, K, ck, rfl, htb, hv, hk⟩ := hd
    have IH := Lib.hid (fits25_any n)
    have hlen := hk.1
    have HT := Lib.hid (fun (W : World) (hW : Below w.heap.size w W) => hT.ext hW)
    have HR := Lib.hid (fun (W : World) (hW : Below w.heap.size w W) => refrow_any d.row A ca W (hv.ext hW) (hT.ext hW))
    clear hT hv
    by_cases h0 : d.tb < 0
    · have HQ := Lib.hid (show fitsB d = false by rw [fits_eq, nodeB, decide_eq_false (by omega)]; rfl)
      clear IH hk HT HR
      go_enter Tryd.func124, Tryd.ntmps124
      go_wp2
      go_ret
      exact ⟨ret_bool HQ.out.symm, (by repeat (first | exact Below.refl _ _ | assumption | refine Below.drew ?_ | refine below_drewN ?_ _ | refine Below.alloc ?_ (by simp <;> omega) _))⟩
    · have h0' : 0 ≤ d.tb := by omega
      by_cases h1 : 12 ≤ d.tb
      · have HQ := Lib.hid (show fitsB d = false by rw [fits_eq, nodeB, decide_eq_false (show ¬ d.tb < 12 by omega)]; simp)
        clear IH hk HT HR h0
        go_enter Tryd.func124, Tryd.ntmps124
        go_wp2
        go_ret
        exact ⟨ret_bool HQ.out.symm, (by repeat (first | exact Below.refl _ _ | assumption | refine Below.drew ?_ | refine below_drewN ?_ _ | refine Below.alloc ?_ (by simp <;> omega) _))⟩
      · have h1' : d.tb < 12 := by omega
        generalize hrb : rowB d.row = rb at HR
        have HRB := Lib.hid hrb
        clear h0 h1 hrb
        cases rb
        · have HQ := Lib.hid (show fitsB d = false by rw [fits_eq, nodeB, HRB.out]; simp)
          clear IH hk HT
          go_enter Tryd.func124, Tryd.ntmps124
          go_wp2_with fail
          refine (HR.out _ (by repeat (first | exact Below.refl _ _ | assumption | refine Below.drew ?_ | refine below_drewN ?_ _ | refine Below.alloc ?_ (by simp <;> omega) _))).mono ?_
          rintro r w2 ⟨rfl, hb2⟩
          have HW2 : Hid (Below w.heap.size w w2) := bt (by repeat (first | exact Below.refl _ _ | assumption | refine Below.drew ?_ | refine below_drewN ?_ _ | refine Below.alloc ?_ (by simp <;> omega) _)) hb2
          clear hb2 HR
          go_wp2_with fail
          go_ret
          exact ⟨ret_bool HQ.out.symm, HW2.out⟩
        · have HQ := Lib.hid (show fitsB d = (ordB d.kids && d.kids.all fitsB) by rw [fits_eq, nodeB, HRB.out, decide_eq_true h0', decide_eq_true h1']; simp)
          generalize fitsB d = R at HQ ⊢
          have HK := Lib.hid hk
          clear hk HRB
          generalize d.tb = tb at h0' h1' htb ⊢
          generalize d.row.length = rl at HR ⊢
          generalize d.kids = ks at HK HQ hlen ⊢
          go_enter Tryd.func124, Tryd.ntmps124
          go_upto_region 1 with fail
          have h1 : Blk (w.alloc (.cells #[.int .i64 tb, .slice A rl ca, .slice K ks.length ck] 71)) w.heap.size #[.int .i64 tb, .slice A rl ca, .slice K ks.length ck] 71 := Blk.new w _ _
          have hC : Below w.heap.size w (w.alloc (.cells #[.int .i64 tb, .slice A rl ca, .slice K ks.length ck] 71)) := (by repeat (first | exact Below.refl _ _ | assumption | refine Below.drew ?_ | refine below_drewN ?_ _ | refine Below.alloc ?_ (by simp <;> omega) _))
          have HB := Lib.hid h1
          have HC := Lib.hid hC
          have HK := Lib.hid (HK.out.ext hC (fun v k h => DRd.ext (n := n) h hC))
          clear h1 hC
          generalize w.alloc (.cells #[.int .i64 tb, .slice A rl ca, .slice K ks.length ck] 71) = W0 at HB HC HK ⊢
          generalize w.heap.size = bx at HB ⊢
          have lb := HB.out.lt
          have d0 := HB.out.cell 0
          have d1 := HB.out.cell 1
          have d2 := HB.out.cell 2
          simp only [List.getElem?_toArray, List.getElem?_cons_zero, List.getElem?_cons_succ] at d0 d1 d2
          go_wp2_with fail
          refine (HR.out _ HC.out).mono ?_
          rintro r w2 ⟨rfl, hb2⟩
          have HW2 := Lib.hid hb2
          clear hb2 lb d0 d1 d2
          have lb := (HB.out.ext HW2.out).lt
          have d2 := (HB.out.ext HW2.out).cell 2
          simp only [List.getElem?_toArray, List.getElem?_cons_zero, List.getElem?_cons_succ] at d2
          go_wp2_with fail
          go_loopw [3] (fun i wr => ∃ (k : Nat) (ki : Int), k ≤ ks.length ∧ 0 ≤ ki ∧ i = .int .i64 ki ∧ Hid (ki = k) ∧ Hid (OkK ks k) ∧ Below W0.heap.size W0 wr) (fun i _ => ks.length - (intOf i).toNat)
          case atStart => exact ⟨0, 0, by omega, by omega, rfl, Lib.hid rfl, ⟨fun i x h => by omega, fun i a b h => by omega⟩, HW2.out⟩
          case round =>
            obtain ⟨k, ki, hk1, hk0, rfl, HKI, HS, hbw⟩ := hrel
            clear lb d2
            have lb := (HB.out.ext hbw).lt
            have d2 := (HB.out.ext hbw).cell 2
            simp only [List.getElem?_toArray, List.getElem?_cons_zero, List.getElem?_cons_succ] at d2
            have HW := Lib.hid hbw
            have HKK := Lib.hid (HK.out.ext hbw (fun v k h => DRd.ext (n := n) h hbw))
            clear hbw
            by_cases hlt : k < ks.length
            · have hki : ki < ks.length := by rw [HKI.out]; omega
              rcases k with _ | j
              · obtain rfl : ki = 0 := HKI.out
                obtain ⟨b, off, x, A', ca', K', ck', rfl, hb, _, hx1, e0, e1, e2, hx⟩ := HKK.out.kid hlt
                have hxt := tb_bounds hx
                rw [Nat.zero_mul, Nat.add_zero] at e0 e1 e2
                have HX1 := Lib.hid hx1
                have E0 := Lib.hid e0
                have E1 := Lib.hid e1
                have E2 := Lib.hid e2
                generalize hfx : fitsB x = fx
                have HC1 := Lib.hid (fun (W : World) (hW : Below wr.heap.size wr W) => IH.out _ x W (HT.out _ (bt HC.out (bt HW.out hW))) (hx.ext hW))
                rw [hfx] at HC1
                have HFX := Lib.hid hfx
                clear hx hx1 e0 e1 e2 hfx HKK
                go_upto_region 6 with fail
                clear lb d2
                cases fx
                · have HQ0 := Lib.hid (show R = false by rw [HQ.out]; exact OkK.no HX1.out HFX.out)
                  refine region_grow [false, false, false, false, false, false, false, false, false, false, false, false, false, false, false, false, false, false, false, false, false, false, false, false, false, true, true, true, true, true, true, true, true, true, true, true, true, true, true, true, true, true, true, true, true, true, true, true, true, true, true, true] [25, 26, 27, 28, 29, 30, 31, 32, 33, 34, 35, 36, 37, 38, 39, 40, 41, 42, 43, 44, 45, 46, 47, 48, 49, 50, 51] [.val (.int .i64 (0 : Int)), .val (.bool false), .val (.bool false), .val undef, .val undef, .val undef, .val undef, .val undef, .val undef, .val undef, .val undef, .val undef, .val undef, .val undef, .val undef, .val undef, .val undef, .val (.bool false), .val (.bool false), .val (.pointer (some ⟨bx, 2, none⟩)), .val (.slice (some ⟨b, off, none⟩) ks.length ck), .val (.int .i64 (0 : Int)), .val (.pointer (some ⟨b, off, none⟩)), .val (.agg #[.int .i64 x.tb, .slice A' x.row.length ca', .slice K' x.kids.length ck']), .val (.bool false), .val (.bool (!false)), .val (.bool (!false))] [26] (by kernel_rfl) (by kernel_rfl) (by kernel_rfl) (by kernel_rfl) (by kernel_rfl) ⟨?_, ?_, ?_, ?_, ?_, ?_, ?_, ?_, ?_, ?_, ?_, ?_, ?_, ?_, ?_, ?_, ?_, ?_, ?_, ?_, ?_, ?_, ?_, ?_, ?_, ?_, ?_, trivial⟩ ?done
                  case done =>
                    intro x5 w5 hb5
                    simp only [StepGoal, overlay, upd, cond_true, cond_false, List.getD_cons_zero, List.getD_cons_succ, Nat.zero_add, Nat.reduceAdd, Nat.reduceEqDiff, reduceIte]
                    go_wp2_with fail
                    go_ret
                    exact ⟨ret_bool HQ0.out.symm, bt HC.out (bt HW.out hb5)⟩
                  all_goals
                    intro x5 w5 hb5
                    intro K hK
                    have hB := HB.out.ext (bt HW.out hb5)
                    have d2 := hB.cell 2
                    have lB := hB.lt
                    have e0 := (hb5.cell (p := ⟨b, _, none⟩) hb).trans E0.out
                    have e1 := (hb5.cell (p := ⟨b, _, none⟩) hb).trans E1.out
                    have e2 := (hb5.cell (p := ⟨b, _, none⟩) hb).trans E2.out
                    have lb : b < w5.heap.size := Nat.lt_of_lt_of_le hb hb5.size
                    
                    simp only [List.getElem?_toArray, List.getElem?_cons_zero, List.getElem?_cons_succ] at d2
                    first
                      | (rw [if_neg (by exact Bool.false_ne_true)]; exact hK.out _ _ (Below.refl _ _) rfl)
                      | (rw [if_pos (by rfl)]; simp only [overlay, upd, cond_true, cond_false, List.getD_cons_zero, List.getD_cons_succ, Nat.reduceEqDiff, reduceIte]
                         go_simp
                         first
                           | exact hK.out _ _ (Below.refl _ _) rfl
                           | ((with_reducible refine (HC1.out _ hb5).mono ?_); rintro e wa ⟨rfl, hba⟩; go_wp2_with fail; exact hK.out _ _ hba rfl))
                · refine region_grow [false, false, false, false, false, false, false, false, false, false, false, false, false, false, false, false, false, false, false, false, false, false, false, false, false, true, true, true, true, true, true, true, true, true, true, true, true, true, true, true, true, true, true, true, true, true, true, true, true, true, true, true] [25, 26, 27, 28, 29, 30, 31, 32, 33, 34, 35, 36, 37, 38, 39, 40, 41, 42, 43, 44, 45, 46, 47, 48, 49, 50, 51] [.val (.int .i64 (0 : Int)), .val (.bool false), .val (.bool false), .val undef, .val undef, .val undef, .val undef, .val undef, .val undef, .val undef, .val undef, .val undef, .val undef, .val undef, .val undef, .val undef, .val undef, .val (.bool false), .val (.bool false), .val (.pointer (some ⟨bx, 2, none⟩)), .val (.slice (some ⟨b, off, none⟩) ks.length ck), .val (.int .i64 (0 : Int)), .val (.pointer (some ⟨b, off, none⟩)), .val (.agg #[.int .i64 x.tb, .slice A' x.row.length ca', .slice K' x.kids.length ck']), .val (.bool true), .val (.bool (!true)), .val (.bool (!true))] [26] (by kernel_rfl) (by kernel_rfl) (by kernel_rfl) (by kernel_rfl) (by kernel_rfl) ⟨?_, ?_, ?_, ?_, ?_, ?_, ?_, ?_, ?_, ?_, ?_, ?_, ?_, ?_, ?_, ?_, ?_, ?_, ?_, ?_, ?_, ?_, ?_, ?_, ?_, ?_, ?_, trivial⟩ ?done
                  case done =>
                    intro x5 w5 hb5
                    simp only [StepGoal, overlay, upd, cond_true, cond_false, List.getD_cons_zero, List.getD_cons_succ, Nat.zero_add, Nat.reduceAdd, Nat.reduceEqDiff, reduceIte]
                    go_wp2_with fail
                    go_roundw
                    case rel => exact ⟨0 + 1, _, by omega, by omega, rfl, Lib.hid rfl, HS.out.step HX1.out HFX.out (fun j a h => by omega), bt HW.out hb5⟩
                    case measure => simp [intOf]; omega
                  all_goals
                    intro x5 w5 hb5
                    intro K hK
                    have hB := HB.out.ext (bt HW.out hb5)
                    have d2 := hB.cell 2
                    have lB := hB.lt
                    have e0 := (hb5.cell (p := ⟨b, _, none⟩) hb).trans E0.out
                    have e1 := (hb5.cell (p := ⟨b, _, none⟩) hb).trans E1.out
                    have e2 := (hb5.cell (p := ⟨b, _, none⟩) hb).trans E2.out
                    have lb : b < w5.heap.size := Nat.lt_of_lt_of_le hb hb5.size
                    
                    simp only [List.getElem?_toArray, List.getElem?_cons_zero, List.getElem?_cons_succ] at d2
                    first
                      | (rw [if_neg (by exact Bool.false_ne_true)]; exact hK.out _ _ (Below.refl _ _) rfl)
                      | (rw [if_pos (by rfl)]; simp only [overlay, upd, cond_true, cond_false, List.getD_cons_zero, List.getD_cons_succ, Nat.reduceEqDiff, reduceIte]
                         go_simp
                         first
                           | exact hK.out _ _ (Below.refl _ _) rfl
                           | ((with_reducible refine (HC1.out _ hb5).mono ?_); rintro e wa ⟨rfl, hba⟩; go_wp2_with fail; exact hK.out _ _ hba rfl))
              · obtain rfl : ki = (j : Int) + 1 := HKI.out
                obtain ⟨b, off, y, x, A', ca', K', ck', rfl, hb, hy1, hx1, f0, e0, e1, e2, hx⟩ := HKK.out.kid2 hlt
                have hxt := tb_bounds hx
                have HX1 := Lib.hid hx1
                have HY1 := Lib.hid hy1
                have F0 := Lib.hid f0
                have E0 := Lib.hid e0
                have E1 := Lib.hid e1
                have E2 := Lib.hid e2
                generalize hfx : fitsB x = fx
                have HC1 := Lib.hid (fun (W : World) (hW : Below wr.heap.size wr W) => IH.out _ x W (HT.out _ (bt HC.out (bt HW.out hW))) (hx.ext hW))
                rw [hfx] at HC1
                have HFX := Lib.hid hfx
                clear hx hx1 hy1 f0 e0 e1 e2 hfx HKK
                go_upto_region 6 with fail
                clear lb d2
                have hw1 : IntKind.i64.wrap (j : Int) = j := IntWalk.i64_in _ (by omega)
                have hjl : j < ks.length := by omega
                have hn1 : ((j : Int) + 1).toNat = j + 1 := by omega
                have hn0 : (0 : Int) ≤ (j : Int) := by omega
                by_cases hxy : x.tb < y.tb
                · have HQ0 := Lib.hid (show R = false by rw [HQ.out, OkK.no2 HY1.out HX1.out hxy]; rfl)
                  refine region_grow [false, false, false, false, false, false, false, false, false, false, false, false, false, false, false, false, false, false, false, false, false, false, false, false, false, true, true, true, true, true, true, true, true, true, true, true, true, true, true, true, true, true, true, true, true, true, true, true, true, true, true, true] [25, 26, 27, 28, 29, 30, 31, 32, 33, 34, 35, 36, 37, 38, 39, 40, 41, 42, 43, 44, 45, 46, 47, 48, 49, 50, 51] [.val (.int .i64 ((j : Int) + 1)), .val (.bool true), .val (.bool true), .val (.pointer (some ⟨bx, 2, none⟩)), .val (.slice (some ⟨b, off, none⟩) ks.length ck), .val (.int .i64 ((j : Int) + 1)), .val (.pointer (some ⟨b, off + (j + 1) * 3, none⟩)), .val (.pointer (some ⟨b, off + (j + 1) * 3, none⟩)), .val (.int .i64 x.tb), .val (.pointer (some ⟨bx, 2, none⟩)), .val (.slice (some ⟨b, off, none⟩) ks.length ck), .val (.int .i64 ((j : Int) + 1)), .val (.int .i64 (j : Int)), .val (.pointer (some ⟨b, off + j * 3, none⟩)), .val (.pointer (some ⟨b, off + j * 3, none⟩)), .val (.int .i64 y.tb), .val (.bool true), .val (.bool true), .val (.bool true), .val undef, .val undef, .val undef, .val undef, .val undef, .val undef, .val undef, .val (.bool true)] [26] (by kernel_rfl) (by kernel_rfl) (by kernel_rfl) (by kernel_rfl) (by kernel_rfl) ⟨?_, ?_, ?_, ?_, ?_, ?_, ?_, ?_, ?_, ?_, ?_, ?_, ?_, ?_, ?_, ?_, ?_, ?_, ?_, ?_, ?_, ?_, ?_, ?_, ?_, ?_, ?_, trivial⟩ ?done
                  case done =>
                    intro x5 w5 hb5
                    simp only [StepGoal, overlay, upd, cond_true, cond_false, List.getD_cons_zero, List.getD_cons_succ, Nat.zero_add, Nat.reduceAdd, Nat.reduceEqDiff, reduceIte]
                    go_wp2_with fail
                    go_ret
                    exact ⟨ret_bool HQ0.out.symm, bt HC.out (bt HW.out hb5)⟩
                  all_goals
                    intro x5 w5 hb5
                    intro K hK
                    have hB := HB.out.ext (bt HW.out hb5)
                    have d2 := hB.cell 2
                    have lB := hB.lt
                    have e0 := (hb5.cell (p := ⟨b, _, none⟩) hb).trans E0.out
                    have e1 := (hb5.cell (p := ⟨b, _, none⟩) hb).trans E1.out
                    have e2 := (hb5.cell (p := ⟨b, _, none⟩) hb).trans E2.out
                    have lb : b < w5.heap.size := Nat.lt_of_lt_of_le hb hb5.size
                    have f0 := (hb5.cell (p := ⟨b, _, none⟩) hb).trans F0.out
                    simp only [List.getElem?_toArray, List.getElem?_cons_zero, List.getElem?_cons_succ] at d2
                    first
                      | (rw [if_neg (by exact Bool.false_ne_true)]; exact hK.out _ _ (Below.refl _ _) rfl)
                      | (rw [if_pos (by rfl)]; simp only [overlay, upd, cond_true, cond_false, List.getD_cons_zero, List.getD_cons_succ, Nat.reduceEqDiff, reduceIte]
                         go_simp
                         first
                           | exact hK.out _ _ (Below.refl _ _) rfl
                           | ((with_reducible refine (HC1.out _ hb5).mono ?_); rintro e wa ⟨rfl, hba⟩; go_wp2_with fail; exact hK.out _ _ hba rfl))
                · have hxy' : y.tb ≤ x.tb := by omega
                  cases fx
                  · have HQ0 := Lib.hid (show R = false by rw [HQ.out]; exact OkK.no HX1.out HFX.out)
                    refine region_grow [false, false, false, false, false, false, false, false, false, false, false, false, false, false, false, false, false, false, false, false, false, false, false, false, false, true, true, true, true, true, true, true, true, true, true, true, true, true, true, true, true, true, true, true, true, true, true, true, true, true, true, true] [25, 26, 27, 28, 29, 30, 31, 32, 33, 34, 35, 36, 37, 38, 39, 40, 41, 42, 43, 44, 45, 46, 47, 48, 49, 50, 51] [.val (.int .i64 ((j : Int) + 1)), .val (.bool true), .val (.bool true), .val (.pointer (some ⟨bx, 2, none⟩)), .val (.slice (some ⟨b, off, none⟩) ks.length ck), .val (.int .i64 ((j : Int) + 1)), .val (.pointer (some ⟨b, off + (j + 1) * 3, none⟩)), .val (.pointer (some ⟨b, off + (j + 1) * 3, none⟩)), .val (.int .i64 x.tb), .val (.pointer (some ⟨bx, 2, none⟩)), .val (.slice (some ⟨b, off, none⟩) ks.length ck), .val (.int .i64 ((j : Int) + 1)), .val (.int .i64 (j : Int)), .val (.pointer (some ⟨b, off + j * 3, none⟩)), .val (.pointer (some ⟨b, off + j * 3, none⟩)), .val (.int .i64 y.tb), .val (.bool false), .val (.bool false), .val (.bool false), .val (.pointer (some ⟨bx, 2, none⟩)), .val (.slice (some ⟨b, off, none⟩) ks.length ck), .val (.int .i64 ((j : Int) + 1)), .val (.pointer (some ⟨b, off + (j + 1) * 3, none⟩)), .val (.agg #[.int .i64 x.tb, .slice A' x.row.length ca', .slice K' x.kids.length ck']), .val (.bool false), .val (.bool (!false)), .val (.bool (!false))] [26] (by kernel_rfl) (by kernel_rfl) (by kernel_rfl) (by kernel_rfl) (by kernel_rfl) ⟨?_, ?_, ?_, ?_, ?_, ?_, ?_, ?_, ?_, ?_, ?_, ?_, ?_, ?_, ?_, ?_, ?_, ?_, ?_, ?_, ?_, ?_, ?_, ?_, ?_, ?_, ?_, trivial⟩ ?done
                    case done =>
                      intro x5 w5 hb5
                      simp only [StepGoal, overlay, upd, cond_true, cond_false, List.getD_cons_zero, List.getD_cons_succ, Nat.zero_add, Nat.reduceAdd, Nat.reduceEqDiff, reduceIte]
                      go_wp2_with fail
                      go_ret
                      exact ⟨ret_bool HQ0.out.symm, bt HC.out (bt HW.out hb5)⟩
                    all_goals
                      intro x5 w5 hb5
                      intro K hK
                      have hB := HB.out.ext (bt HW.out hb5)
                      have d2 := hB.cell 2
                      have lB := hB.lt
                      have e0 := (hb5.cell (p := ⟨b, _, none⟩) hb).trans E0.out
                      have e1 := (hb5.cell (p := ⟨b, _, none⟩) hb).trans E1.out
                      have e2 := (hb5.cell (p := ⟨b, _, none⟩) hb).trans E2.out
                      have lb : b < w5.heap.size := Nat.lt_of_lt_of_le hb hb5.size
                      have f0 := (hb5.cell (p := ⟨b, _, none⟩) hb).trans F0.out
                      simp only [List.getElem?_toArray, List.getElem?_cons_zero, List.getElem?_cons_succ] at d2
                      first
                        | (rw [if_neg (by exact Bool.false_ne_true)]; exact hK.out _ _ (Below.refl _ _) rfl)
                        | (rw [if_pos (by rfl)]; simp only [overlay, upd, cond_true, cond_false, List.getD_cons_zero, List.getD_cons_succ, Nat.reduceEqDiff, reduceIte]
                           go_simp
                           first
                             | exact hK.out _ _ (Below.refl _ _) rfl
                             | ((with_reducible refine (HC1.out _ hb5).mono ?_); rintro e wa ⟨rfl, hba⟩; go_wp2_with fail; exact hK.out _ _ hba rfl))
                  · refine region_grow [false, false, false, false, false, false, false, false, false, false, false, false, false, false, false, false, false, false, false, false, false, false, false, false, false, true, true, true, true, true, true, true, true, true, true, true, true, true, true, true, true, true, true, true, true, true, true, true, true, true, true, true] [25, 26, 27, 28, 29, 30, 31, 32, 33, 34, 35, 36, 37, 38, 39, 40, 41, 42, 43, 44, 45, 46, 47, 48, 49, 50, 51] [.val (.int .i64 ((j : Int) + 1)), .val (.bool true), .val (.bool true), .val (.pointer (some ⟨bx, 2, none⟩)), .val (.slice (some ⟨b, off, none⟩) ks.length ck), .val (.int .i64 ((j : Int) + 1)), .val (.pointer (some ⟨b, off + (j + 1) * 3, none⟩)), .val (.pointer (some ⟨b, off + (j + 1) * 3, none⟩)), .val (.int .i64 x.tb), .val (.pointer (some ⟨bx, 2, none⟩)), .val (.slice (some ⟨b, off, none⟩) ks.length ck), .val (.int .i64 ((j : Int) + 1)), .val (.int .i64 (j : Int)), .val (.pointer (some ⟨b, off + j * 3, none⟩)), .val (.pointer (some ⟨b, off + j * 3, none⟩)), .val (.int .i64 y.tb), .val (.bool false), .val (.bool false), .val (.bool false), .val (.pointer (some ⟨bx, 2, none⟩)), .val (.slice (some ⟨b, off, none⟩) ks.length ck), .val (.int .i64 ((j : Int) + 1)), .val (.pointer (some ⟨b, off + (j + 1) * 3, none⟩)), .val (.agg #[.int .i64 x.tb, .slice A' x.row.length ca', .slice K' x.kids.length ck']), .val (.bool true), .val (.bool (!true)), .val (.bool (!true))] [26] (by kernel_rfl) (by kernel_rfl) (by kernel_rfl) (by kernel_rfl) (by kernel_rfl) ⟨?_, ?_, ?_, ?_, ?_, ?_, ?_, ?_, ?_, ?_, ?_, ?_, ?_, ?_, ?_, ?_, ?_, ?_, ?_, ?_, ?_, ?_, ?_, ?_, ?_, ?_, ?_, trivial⟩ ?done
                    case done =>
                      intro x5 w5 hb5
                      simp only [StepGoal, overlay, upd, cond_true, cond_false, List.getD_cons_zero, List.getD_cons_succ, Nat.zero_add, Nat.reduceAdd, Nat.reduceEqDiff, reduceIte]
                      go_wp2_with fail
                      go_roundw
                      case rel => exact ⟨(j + 1) + 1, _, by omega, by omega, rfl, Lib.hid rfl, HS.out.step HX1.out HFX.out (fun i a h ha => by obtain rfl : j = i := (by omega); rw [HY1.out] at ha; cases ha; exact hxy'), bt HW.out hb5⟩
                      case measure => simp [intOf]; omega
                    all_goals
                      intro x5 w5 hb5
                      intro K hK
                      have hB := HB.out.ext (bt HW.out hb5)
                      have d2 := hB.cell 2
                      have lB := hB.lt
                      have e0 := (hb5.cell (p := ⟨b, _, none⟩) hb).trans E0.out
                      have e1 := (hb5.cell (p := ⟨b, _, none⟩) hb).trans E1.out
                      have e2 := (hb5.cell (p := ⟨b, _, none⟩) hb).trans E2.out
                      have lb : b < w5.heap.size := Nat.lt_of_lt_of_le hb hb5.size
                      have f0 := (hb5.cell (p := ⟨b, _, none⟩) hb).trans F0.out
                      simp only [List.getElem?_toArray, List.getElem?_cons_zero, List.getElem?_cons_succ] at d2
                      first
                        | (rw [if_neg (by exact Bool.false_ne_true)]; exact hK.out _ _ (Below.refl _ _) rfl)
                        | (rw [if_pos (by rfl)]; simp only [overlay, upd, cond_true, cond_false, List.getD_cons_zero, List.getD_cons_succ, Nat.reduceEqDiff, reduceIte]
                           go_simp
                           first
                             | exact hK.out _ _ (Below.refl _ _) rfl
                             | ((with_reducible refine (HC1.out _ hb5).mono ?_); rintro e wa ⟨rfl, hba⟩; go_wp2_with fail; exact hK.out _ _ hba rfl))
            · have hki : ¬ ki < ks.length := by rw [HKI.out]; omega
              have HQ0 := Lib.hid (show R = true by rw [HQ.out]; exact HS.out.end_ (by omega))
              go_wp2_with fail
              go_ret
              exact ⟨ret_bool HQ0.out.symm, bt HC.out HW.out⟩
end Go.Proofs.YtjdfodmialhakaaDoor
