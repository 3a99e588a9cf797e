/- Several texts in one: see each part's head. -/
import Derived.BigQuiet
import Derived.Test.YtgklopgeimjgiaaGreatDoorJ37
import Derived.WideKeyEntry
/- VerifySees: agg.Same of two documents. -/
namespace Go.Proofs.YtgklopgeimjgiaaGreatDoor
open Go.RowKit

set_option maxRecDepth 100000 in
theorem eqrow_any (l m : List V) (A B : Option Addr) (c d : Nat) (w : World) (hr : VRow w A l) (hs : VRow w B m) :
    Calls Tryz.prog 62 #[.slice A l.length c, .slice B m.length d] w fun e w' => e = .returned (.bool (decide (l = m))) ∧ Below w.heap.size w w' := by
  have hlen := hr.2.1
  have hlen2 := hs.2.1
  have HV := Lib.hid hr
  have HW := Lib.hid hs
  clear hr hs
  by_cases hne : l.length = m.length
  · generalize hP : decide (l = m) = P
    have HP := Lib.hid hP
    clear hP
    have HN := Lib.hid hne
    have hb1 : ((l.length : Int) != (m.length : Int)) = false := by simp [hne]
    have hle : l.length ≤ m.length := by omega
    clear hne
    go_enter Tryz.func62, Tryz.ntmps62
    go_wp2
    clear hb1
    go_loopw [13] (fun i wr => ∃ k : Nat, k ≤ l.length ∧ i = .int .i64 k ∧ Hid (l.take k = m.take k) ∧ Below w.heap.size w wr) (fun i _ => l.length - (intOf i).toNat)
    case atStart => exact ⟨0, by omega, rfl, (by simp : _ = _), Below.refl _ _⟩
    case round =>
      obtain ⟨k, hk1, rfl, HS, hbw⟩ := hrel
      by_cases hlt : k < l.length
      · obtain ⟨b, off, v, rfl, hb, hlk, hmem, hwf, c0, c1, c2, c3⟩ := (HV.out.ext hbw).at_ hlt
        obtain ⟨b', off', v', rfl, hb', hlk', hmem', hwf', c0', c1', c2', c3'⟩ := (HW.out.ext hbw).at_ (Nat.lt_of_lt_of_le hlt hle)
        have HL := Lib.hid hlk
        have HL' := Lib.hid hlk'
        clear hlk hlk' hmem hmem' hwf hwf'
        have i0 : (0 : Int) ≤ k := by omega
        have i1 : (k : Int) < l.length := by omega
        have i2 : (k : Int) < m.length := by omega
        by_cases hvv : v = v'
        · subst hvv
          obtain ⟨vk, vn, vr, vt⟩ := v
          simp only at c0 c1 c2 c3 c0' c1' c2' c3'
          have hq := neq_eq vk vn vr vt
          go_wp2
          go_quiet (fail)
          go_wp2
          go_roundw
          case rel => exact ⟨k + 1, by omega, by go_num, take_same HS.out HL.out HL'.out, by repeat (first | assumption | refine Below.drew ?_ | refine below_drewN ?_ _)⟩
          case measure => simp [intOf]; omega
        · have HNE := Lib.hid hvv
          clear hvv
          obtain ⟨vk, vn, vr, vt⟩ := v
          obtain ⟨xk, xn, xr, xt⟩ := v'
          simp only at c0 c1 c2 c3 c0' c1' c2' c3'
          have hq := neq_ne vk vn vr xk xn xr vt xt HNE.out
          go_wp2
          go_quiet (fail)
          go_wp2
          go_ret
          refine ⟨ret_bool ?_, by repeat (first | assumption | refine Below.drew ?_ | refine below_drewN ?_ _)⟩
          rw [← HP.out]
          refine (decide_eq_false ?_).symm
          rintro rfl
          have e := HL.out
          rw [HL'.out] at e
          exact HNE.out (Option.some.inj e.symm)
      · have hk : k = l.length := by omega
        have HK := Lib.hid hk
        clear hk
        go_wp2
        go_ret
        refine ⟨ret_bool ?_, hbw⟩
        rw [← HP.out]
        refine (decide_eq_true ?_).symm
        have e := HS.out
        rw [HK.out, List.take_length, HN.out, List.take_length] at e
        exact e
  · have hb1 : ((l.length : Int) != (m.length : Int)) = true := by
      rw [bne_iff_ne]; omega
    have e : decide (l = m) = false := decide_eq_false (fun e => hne (by rw [e]))
    rw [e]
    clear e hne
    go_enter Tryz.func62, Tryz.ntmps62
    go_wp2
    go_ret
    exact ⟨rfl, Below.refl _ _⟩
noncomputable def eqD (d e : De) : Bool := open Classical in decide (d = e)
noncomputable def eqKs (ks ls : List De) : Bool := open Classical in decide (ks = ls)
theorem eqKs_yes {ks ls : List De} (h : ks = ls) : eqKs ks ls = true := by unfold eqKs; simp [h]
theorem eqKs_no {ks ls : List De} (h : ks ≠ ls) : eqKs ks ls = false := by unfold eqKs; simp [h]
theorem eqD_yes {d e : De} (h : d = e) : eqD d e = true := by unfold eqD; simp [h]
theorem eqD_iff {d e : De} : eqD d e = true ↔ d = e := by unfold eqD; simp
theorem De.eq_iff {d e : De} : d = e ↔ d.tb = e.tb ∧ d.row = e.row ∧ d.kids = e.kids := by
  cases d; cases e; simp [De.tb, De.row, De.kids]
set_option maxRecDepth 100000 in
set_option maxHeartbeats 1600000 in
theorem aggboth_any (n m : Nat) (ih : ∀ (v u : Value) (d e : De) (w : World), DRd n w v d → DRd m w u e → Calls Tryz.prog 37 #[v, u] w fun r w' => r = .returned (.bool (eqD d e)) ∧ Below w.heap.size w w')
    (K1 K3 : Option Addr) (ck ck2 : Nat) (ks ls : List De) (w : World) (hk : KRow (DRd n w) w K1 ks) (hk2 : KRow (DRd m w) w K3 ls) :
    Calls Tryz.prog 63 #[.slice K1 ks.length ck, .slice K3 ls.length ck2, .func (.func 37) #[] #[]] w fun r w' => r = .returned (.bool (eqKs ks ls)) ∧ Below w.heap.size w w' := by
  have IH := Lib.hid ih
  have HK := Lib.hid hk
  have HK2 := Lib.hid hk2
  have h1 := hk.1
  have h2 := hk2.1
  clear hk hk2 ih
  obtain ⟨kl, hkl⟩ : ∃ q, q = ks.length := ⟨_, rfl⟩
  obtain ⟨ll, hll⟩ : ∃ q, q = ls.length := ⟨_, rfl⟩
  obtain ⟨mn, hmn⟩ : ∃ q, q = min kl ll := ⟨_, rfl⟩
  have hm : min (kl : Int) (ll : Int) = (mn : Int) := by omega
  rw [← hkl, ← hll]
  have HL : Hid (kl = ks.length ∧ ll = ls.length ∧ mn = min kl ll) := ⟨hkl, hll, hmn⟩
  clear hkl hll hmn
  go_enter Tryz.func63, Tryz.ntmps63
  go_wp2_with fail
  go_loopw [13] (fun i wr => ∃ k : Nat, k ≤ mn ∧ i = .int .i64 k ∧ Hid (ks.take k = ls.take k) ∧ Hid (Below w.heap.size w wr)) (fun i _ => mn - (intOf i).toNat)
  case atStart => exact ⟨0, by omega, rfl, (by simp : _ = _), Below.refl _ _⟩
  case round =>
    obtain ⟨k, hk1, rfl, HS, HW⟩ := hrel
    by_cases hlt : k < mn
    · have hlk : k < ks.length := by have := HL.out; omega
      have hll : k < ls.length := by have := HL.out; omega
      have HKK := Lib.hid (HK.out.ext HW.out (fun v k h => DRd.ext (n := n) h HW.out))
      have HKK2 := Lib.hid (HK2.out.ext HW.out (fun v k h => DRd.ext (n := m) h HW.out))
      obtain ⟨b, off, x, A', ca', K', ck', rfl, hb, _, hx1, e0, e1, e2, hx⟩ := HKK.out.kid hlk
      obtain ⟨b2, off2, y, A2, ca2, K2, ck2', rfl, hb2, _, hx2, g0, g1, g2, hy⟩ := HKK2.out.kid hll
      have E0 := Lib.hid e0
      have E1 := Lib.hid e1
      have E2 := Lib.hid e2
      have F0 := Lib.hid g0
      have F1 := Lib.hid g1
      have F2 := Lib.hid g2
      have HX1 := Lib.hid hx1
      have HX2 := Lib.hid hx2
      obtain ⟨EQ, hEQ⟩ : ∃ q, q = eqD x y := ⟨_, rfl⟩
      have HC1 : Hid (∀ W : World, Below wr.heap.size wr W → Calls Tryz.prog 37 #[.agg #[.int .i64 x.tb, .slice A' x.row.length ca', .slice K' x.kids.length ck'], .agg #[.int .i64 y.tb, .slice A2 y.row.length ca2, .slice K2 y.kids.length ck2']] W (fun r w' => r = .returned (.bool EQ) ∧ Below W.heap.size W w')) := fun W hW => by rw [hEQ]; exact IH.out _ _ x y W (hx.ext hW) (hy.ext hW)
      have HEQ := Lib.hid hEQ
      have i0 : (k : Int) < mn := by omega
      have i1 : (k : Int) < kl := by have := HL.out; omega
      have i2 : (k : Int) < ll := by have := HL.out; omega
      have w1' : IntKind.i64.wrap ((k : Int) + 1) = (k : Int) + 1 := IntWalk.i64_in _ (by have := HL.out; omega)
      clear hx hy hx1 hx2 e0 e1 e2 g0 g1 g2 HKK HKK2 hEQ hlk hll
      go_upto_region 4 with fail
      refine region_grow [false, false, false, false, false, false, false, false, false, false, false, false, false, false, false, false, true, true, true, true, true, true, true, true, true, true, true, false, false, false, false, false, false] [16, 17, 18, 19, 20, 21, 22, 23, 24, 25, 26] [.val (.func (.func 37) #[] #[]), .val (.slice (some ⟨b, off, none⟩) kl ck), .val (.int .i64 (k : Int)), .val (.pointer (some ⟨b, off + k * 3, none⟩)), .val (.agg #[.int .i64 x.tb, .slice A' x.row.length ca', .slice K' x.kids.length ck']), .val (.slice (some ⟨b2, off2, none⟩) ll ck2), .val (.int .i64 (k : Int)), .val (.pointer (some ⟨b2, off2 + k * 3, none⟩)), .val (.agg #[.int .i64 y.tb, .slice A2 y.row.length ca2, .slice K2 y.kids.length ck2']), .val (.bool EQ), .val (.bool (!EQ))] [10] (by kernel_rfl) (by kernel_rfl) (by kernel_rfl) (by kernel_rfl) (by kernel_rfl) ⟨?_, ?_, ?_, ?_, ?_, ?_, ?_, ?_, ?_, ?_, ?_, trivial⟩ ?done
      case done =>
        intro x5 w5 hb5
        simp only [StepGoal, overlay, upd, cond_true, cond_false, List.getD_cons_zero, List.getD_cons_succ, Nat.zero_add, Nat.reduceAdd, Nat.reduceEqDiff, reduceIte]
        have HW5 : Hid (Below w.heap.size w w5) := bt HW.out hb5
        clear hb5
        cases EQ
        · have HF : Hid (eqKs ks ls = false) := eqKs_no (fun e => by
            have h1 := HX1.out
            rw [e, HX2.out, Option.some.injEq] at h1
            have h2 := eqD_yes h1.symm
            rw [← HEQ.out] at h2
            cases h2)
          go_wp2_with fail
          go_ret
          exact ⟨ret_bool HF.out.symm, HW5.out⟩
        · have HF : Hid (ks.take (k + 1) = ls.take (k + 1)) := by
            show _ = _
            rw [List.take_add_one, List.take_add_one, HX1.out, HX2.out, HS.out, eqD_iff.1 HEQ.out.symm]
          go_wp2_with fail
          go_roundw
          case rel => exact ⟨k + 1, by omega, by simp, HF.out, HW5.out⟩
          case measure =>
            show mn - ((k : Int) + 1).toNat < mn - (k : Int).toNat
            omega
      all_goals
        intro x5 w5 hb5
        intro K hK
        have e0 := (hb5.cell (p := ⟨b, _, none⟩) hb).trans E0.out
        have e1 := (hb5.cell (p := ⟨b, _, none⟩) hb).trans E1.out
        have e2 := (hb5.cell (p := ⟨b, _, none⟩) hb).trans E2.out
        have g0 := (hb5.cell (p := ⟨b2, _, none⟩) hb2).trans F0.out
        have g1 := (hb5.cell (p := ⟨b2, _, none⟩) hb2).trans F1.out
        have g2 := (hb5.cell (p := ⟨b2, _, none⟩) hb2).trans F2.out
        have lb : b < w5.heap.size := Nat.lt_of_lt_of_le hb hb5.size
        have lb2 : b2 < w5.heap.size := Nat.lt_of_lt_of_le hb2 hb5.size
        rw [if_pos (by rfl)]; simp only [overlay, upd, cond_true, cond_false, List.getD_cons_zero, List.getD_cons_succ, Nat.reduceEqDiff, reduceIte]
        go_simp
        first
          | exact hK.out _ _ (Below.refl _ _) rfl
          | (refine (HC1.out _ hb5).mono ?_
             rintro e wa ⟨rfl, hba⟩
             go_wp2_with fail
             exact hK.out _ _ hba rfl)
    · have hke : k = mn := by omega
      have i0 : ¬ (k : Int) < mn := by omega
      by_cases hq : kl = ll
      · have q1 : ((kl : Int) == (ll : Int)) = true := by simp [hq]
        have HF : Hid (eqKs ks ls = true) := eqKs_yes (by
          have h1 := HS.out
          obtain ⟨a1, a2, a3⟩ := HL.out
          rw [List.take_of_length_le (by omega), List.take_of_length_le (by omega)] at h1
          exact h1)
        clear hq hke
        go_wp2_with fail
        go_ret
        exact ⟨ret_bool HF.out.symm, HW.out⟩
      · have q1 : ((kl : Int) == (ll : Int)) = false := by simp; omega
        have HF : Hid (eqKs ks ls = false) := eqKs_no (fun e => hq (by obtain ⟨a1, a2, a3⟩ := HL.out; rw [a1, a2, e]))
        clear hq hke
        go_wp2_with fail
        go_ret
        exact ⟨ret_bool HF.out.symm, HW.out⟩
set_option maxRecDepth 100000 in
set_option maxHeartbeats 1600000 in
theorem aggequal_any : ∀ (n m : Nat) (v u : Value) (d e : De) (w : World), DRd n w v d → DRd m w u e →
    Calls Tryz.prog 37 #[v, u] w fun r w' => r = .returned (.bool (eqD d e)) ∧ Below w.heap.size w w'
  | 0, _, _, _, _, _, _, h, _ => h.elim
  | _ + 1, 0, _, _, _, _, _, _, h => h.elim
  | n + 1, m + 1, v, u, d, e, w, hd, he => by
    obtain ⟨A, ca, K, ck, rfl, htb, hv, hk⟩ := hd
    obtain ⟨A0, ca0, K0, ck0, rfl, _, hv0, hk0⟩ := he
    have HR := Lib.hid (fun (W : World) (hW : Below w.heap.size w W) => eqrow_any d.row e.row A A0 ca ca0 W (hv.ext hW) (hv0.ext hW))
    have HB := Lib.hid (fun (W : World) (hW : Below w.heap.size w W) => aggboth_any n m (aggequal_any n m) K K0 ck ck0 d.kids e.kids W (hk.ext hW (fun v k h => DRd.ext (n := n) h hW)) (hk0.ext hW (fun v k h => DRd.ext (n := m) h hW)))
    have HDE := Lib.hid (De.eq_iff (d := d) (e := e))
    clear hv hk hv0 hk0 htb
    obtain ⟨r1, hr1⟩ : ∃ q, q = decide (d.row = e.row) := ⟨_, rfl⟩
    obtain ⟨k1, hk1⟩ : ∃ q, q = eqKs d.kids e.kids := ⟨_, rfl⟩
    have HRK : Hid ((r1 = true ↔ d.row = e.row) ∧ (k1 = true ↔ d.kids = e.kids)) := ⟨by rw [hr1]; simp, by rw [hk1]; unfold eqKs; simp⟩
    rw [← hr1] at HR
    rw [← hk1] at HB
    clear hr1 hk1
    generalize d.tb = dt at HDE ⊢
    generalize e.tb = et at HDE ⊢
    generalize d.row.length = dl at HR ⊢
    generalize e.row.length = el at HR ⊢
    generalize d.kids.length = dk at HB ⊢
    generalize e.kids.length = ek at HB ⊢
    obtain ⟨q, hq⟩ : ∃ q, q = eqD d e := ⟨_, rfl⟩
    rw [← hq]
    have HQ : Hid (q = true ↔ dt = et ∧ r1 = true ∧ k1 = true) := by
      show _ ↔ _
      rw [hq, eqD_iff, HDE.out, HRK.out.1, HRK.out.2]
    clear hq
    go_enter Tryz.func37, Tryz.ntmps37
    go_upto_region 1 with fail
    have h1 : Blk ((w.alloc (.cells #[.int .i64 dt, .slice A dl ca, .slice K dk ck] 42)).alloc (.cells #[.int .i64 et, .slice A0 el ca0, .slice K0 ek ck0] 42)) w.heap.size #[.int .i64 dt, .slice A dl ca, .slice K dk ck] 42 := (by repeat (first | exact Blk.at (by simp) | assumption | refine Blk.drew ?_ | refine Blk.old ?_ _))
    have h2 : Blk ((w.alloc (.cells #[.int .i64 dt, .slice A dl ca, .slice K dk ck] 42)).alloc (.cells #[.int .i64 et, .slice A0 el ca0, .slice K0 ek ck0] 42)) (w.heap.size + 1) #[.int .i64 et, .slice A0 el ca0, .slice K0 ek ck0] 42 := (by repeat (first | exact Blk.at (by simp) | assumption | refine Blk.drew ?_ | refine Blk.old ?_ _))
    have hC : Below w.heap.size w ((w.alloc (.cells #[.int .i64 dt, .slice A dl ca, .slice K dk ck] 42)).alloc (.cells #[.int .i64 et, .slice A0 el ca0, .slice K0 ek ck0] 42)) := (by repeat (first | exact Below.refl _ _ | assumption | refine Below.drew ?_ | refine below_drewN ?_ _ | refine Below.alloc ?_ (by simp <;> omega) _))
    have HB1 := Lib.hid h1
    have HB2 := Lib.hid h2
    have HC := Lib.hid hC
    clear h1 h2 hC
    generalize (w.alloc (.cells #[.int .i64 dt, .slice A dl ca, .slice K dk ck] 42)).alloc (.cells #[.int .i64 et, .slice A0 el ca0, .slice K0 ek ck0] 42) = W0 at HB1 HB2 HC ⊢
    generalize w.heap.size + 1 = by' at HB2 ⊢
    generalize w.heap.size = bx at HB1 ⊢
    obtain ⟨lb, d0, d1, d2⟩ := blk3 HB1.out
    obtain ⟨lb2, f0, f1, f2⟩ := blk3 HB2.out
    by_cases ht : dt = et
    · have q1 : (dt == et) = true := by simp [ht]
      have HT := Lib.hid ht
      clear ht
      go_wp2_with fail
      refine (HR.out _ HC.out).mono ?_
      rintro r w2 ⟨rfl, hb2⟩
      have HW2 : Hid (Below w.heap.size w w2) := bt HC.out hb2
      have hB1 := HB1.out.ext hb2
      have hB2 := HB2.out.ext hb2
      clear lb lb2 d0 d1 d2 f0 f1 f2 hb2
      obtain ⟨lb, d0, d1, d2⟩ := blk3 hB1
      obtain ⟨lb2, f0, f1, f2⟩ := blk3 hB2
      clear hB1 hB2
      cases r1
      · have HF : Hid (q = false) := by
          cases q
          · rfl
          · have := (HQ.out.1 rfl).2.1; cases this
        go_wp2_with fail
        go_ret
        exact ⟨ret_bool HF.out.symm, HW2.out⟩
      · have HF : Hid (q = k1) := by
          show q = k1
          have h := HQ.out
          have ht := HT.out
          clear HR HB HDE HRK HQ
          cases q
          · cases k1
            · rfl
            · have := h.2 ⟨ht, rfl, rfl⟩; cases this
          · cases k1
            · have := (h.1 rfl).2.2; cases this
            · rfl
        go_wp2_with fail
        refine (HB.out _ HW2.out).mono ?_
        rintro r w3 ⟨rfl, hb3⟩
        have HW3 : Hid (Below w.heap.size w w3) := bt HW2.out hb3
        clear hb3
        go_wp2_with fail
        go_ret
        exact ⟨ret_bool HF.out.symm, HW3.out⟩
    · have q1 : (dt == et) = false := by simp [ht]
      have HF : Hid (q = false) := by
        cases q
        · rfl
        · exact absurd (HQ.out.1 rfl).1 ht
      clear ht
      go_wp2_with fail
      go_ret
      exact ⟨ret_bool HF.out.symm, HC.out⟩
set_option maxRecDepth 100000 in
/-- Are two documents the same, that are small? -/
theorem aggsame_any (n m : Nat) (v u : Value) (d e : De) (w : World) (hd : DRd n w v d) (he : DRd m w u e) :
    Calls Tryz.prog 12 #[v, u] w fun r w' => r = .returned (.bool (smD d e)) ∧ Below w.heap.size w w' := by
  have HS := Lib.hid (fun (W : World) (hW : Below w.heap.size w W) => aggsize_any n v d W (hd.ext hW))
  have HS2 := Lib.hid (fun (W : World) (hW : Below w.heap.size w W) => aggsize_any m u e W (he.ext hW))
  have HQ := Lib.hid (fun (W : World) (hW : Below w.heap.size w W) => aggequal_any n m v u d e W (hd.ext hW) (he.ext hW))
  obtain ⟨A, ca, K, ck, rfl⟩ := hd.form
  obtain ⟨A2, ca2, K2, ck2, rfl⟩ := he.form
  clear hd he
  obtain ⟨R, hR⟩ : ∃ q, q = smD d e := ⟨_, rfl⟩
  have HR : Hid (R = true ↔ 0 < sizeD d ∧ 0 < sizeD e ∧ eqD d e = true) := by
    show _ ↔ _
    rw [hR, eqD_iff]; unfold smD; simp
  rw [← hR]
  clear hR
  generalize sizeD d = s1 at HS HR
  generalize sizeD e = s2 at HS2 HR
  generalize eqD d e = E at HQ HR
  generalize d.tb = tb at HS HQ ⊢
  generalize d.row.length = rl at HS HQ ⊢
  generalize d.kids.length = kl at HS HQ ⊢
  generalize e.tb = tb2 at HS2 HQ ⊢
  generalize e.row.length = rl2 at HS2 HQ ⊢
  generalize e.kids.length = kl2 at HS2 HQ ⊢
  go_enter Tryz.func12, Tryz.ntmps12
  go_upto_region 1 with fail
  have h1 : Blk ((w.alloc (.cells #[.int .i64 tb, .slice A rl ca, .slice K kl ck] 42)).alloc (.cells #[.int .i64 tb2, .slice A2 rl2 ca2, .slice K2 kl2 ck2] 42)) w.heap.size #[.int .i64 tb, .slice A rl ca, .slice K kl ck] 42 := (by repeat (first | exact Blk.at (by simp) | assumption | refine Blk.drew ?_ | refine Blk.old ?_ _))
  have h2 : Blk ((w.alloc (.cells #[.int .i64 tb, .slice A rl ca, .slice K kl ck] 42)).alloc (.cells #[.int .i64 tb2, .slice A2 rl2 ca2, .slice K2 kl2 ck2] 42)) (w.heap.size + 1) #[.int .i64 tb2, .slice A2 rl2 ca2, .slice K2 kl2 ck2] 42 := (by repeat (first | exact Blk.at (by simp) | assumption | refine Blk.drew ?_ | refine Blk.old ?_ _))
  have hC : Below w.heap.size w ((w.alloc (.cells #[.int .i64 tb, .slice A rl ca, .slice K kl ck] 42)).alloc (.cells #[.int .i64 tb2, .slice A2 rl2 ca2, .slice K2 kl2 ck2] 42)) := (by repeat (first | exact Below.refl _ _ | assumption | refine Below.drew ?_ | refine below_drewN ?_ _ | refine Below.alloc ?_ (by simp <;> omega) _))
  have HB := Lib.hid h1
  have HB2 := Lib.hid h2
  have HC := Lib.hid hC
  clear h1 h2 hC
  generalize (w.alloc (.cells #[.int .i64 tb, .slice A rl ca, .slice K kl ck] 42)).alloc (.cells #[.int .i64 tb2, .slice A2 rl2 ca2, .slice K2 kl2 ck2] 42) = W0 at HB HB2 HC ⊢
  generalize w.heap.size + 1 = by' at HB2 ⊢
  generalize w.heap.size = bx at HB ⊢
  obtain ⟨lb, d0, d1, d2⟩ := blk3 HB.out
  by_cases hs : 0 < s1
  · have i1 : s1 > 0 := hs
    have HS1 := Lib.hid hs
    clear hs
    go_wp2_with fail
    refine (HS.out _ HC.out).mono ?_
    rintro r w1 ⟨rfl, hb1⟩
    have HW1 := Lib.hid hb1
    clear hb1 lb d0 d1 d2
    obtain ⟨lb2, f0, f1, f2⟩ := blk3 (HB2.out.ext HW1.out)
    by_cases hs2 : 0 < s2
    · have i2 : s2 > 0 := hs2
      have HSS := Lib.hid hs2
      clear hs2
      go_wp2_with fail
      refine (HS2.out _ (bt HC.out HW1.out)).mono ?_
      rintro r w2 ⟨rfl, hb2⟩
      have HW2 : Hid (Below W0.heap.size W0 w2) := bt HW1.out hb2
      clear hb2 HW1 lb2 f0 f1 f2
      obtain ⟨lb, d0, d1, d2⟩ := blk3 (HB.out.ext HW2.out)
      obtain ⟨lb2, f0, f1, f2⟩ := blk3 (HB2.out.ext HW2.out)
      go_wp2_with fail
      refine (HQ.out _ (bt HC.out HW2.out)).mono ?_
      rintro r w3 ⟨rfl, hb3⟩
      have HW3 : Hid (Below w.heap.size w w3) := bt (bt HC.out HW2.out) hb3
      have HF : Hid (R = E) := by
        show R = E
        have h := HR.out
        have a1 := HS1.out
        have a2 := HSS.out
        clear HR HS HS2 HQ
        cases R
        · cases E
          · rfl
          · have := h.2 ⟨a1, a2, rfl⟩; cases this
        · cases E
          · have := (h.1 rfl).2.2; cases this
          · rfl
      clear hb3
      go_wp2_with fail
      go_ret
      exact ⟨ret_bool HF.out.symm, HW3.out⟩
    · have i2 : ¬ s2 > 0 := hs2
      have HF : Hid (R = false) := by
        cases R
        · rfl
        · exact absurd (HR.out.1 rfl).2.1 hs2
      clear hs2
      go_wp2_with fail
      refine (HS2.out _ (bt HC.out HW1.out)).mono ?_
      rintro r w2 ⟨rfl, hb2⟩
      have HW2 : Hid (Below w.heap.size w w2) := bt (bt HC.out HW1.out) hb2
      clear hb2 HW1 lb2 f0 f1 f2
      go_wp2_with fail
      go_ret
      exact ⟨ret_bool HF.out.symm, HW2.out⟩
  · have i1 : ¬ s1 > 0 := hs
    have HF : Hid (R = false) := by
      cases R
      · rfl
      · exact absurd (HR.out.1 rfl).1 hs
    clear hs
    go_wp2_with fail
    refine (HS.out _ HC.out).mono ?_
    rintro r w1 ⟨rfl, hb1⟩
    have HW1 : Hid (Below w.heap.size w w1) := bt HC.out hb1
    clear hb1 lb d0 d1 d2
    go_wp2_with fail
    go_ret
    exact ⟨ret_bool HF.out.symm, HW1.out⟩
end Go.Proofs.YtgklopgeimjgiaaGreatDoor

/- VerifySees: m[k] = append(m[k], x) at a map with struct keys. -/
namespace Go.Proofs.YtgklopgeimjgiaaGreatDoor
open Go.RowKit
open Go.Maps (Keyed)
open Go.ChangeMaps (setBlock)

theorem keylaw_root : Go.WideMaps.KeyLaw Tryz.prog 78 := deep_law_laid laid_out (m := 3) (by omega) (of_decide_eq_true (by kernel_rfl)) (by kernel_rfl) (by kernel_rfl)
variable {kt et mt : TypeId} {w w' : World} {M : Nat} {ks ks' : List (Int × V)} {E E' : Int × V → Value → Prop} {p : Int × V} {z : Value}
theorem MapG.blk (h : MapG kt w M ks E) (e : w'.heap[M]? = w.heap[M]?) : MapG kt w' M ks E := by
  obtain ⟨D, ⟨es, clock, hb, F, hs, hD⟩, h2, h3, h4⟩ := h.map
  exact ⟨h.nd, h.ok, D, ⟨es, clock, e.trans hb, F, hs, hD⟩, h2, h3, h4⟩
/-- An entry is looked up, then stored. -/
theorem MapG.entry (h : MapG kt w M ks E) (L : Go.WideMaps.KeyLaw Tryz.prog kt) (K : KeyT kt) (ht : Tryz.prog.underlying mt = some (.map kt et)) (hz : ∀ W, (zeroValue et).run Tryz.prog W = .ok z W) (hp : okP p) (hl : ks.length < 1000000) :
    ∃ (v0 : Value) (st : Nat) (w1 : World), (Instr.mapEntry mt (.map (some M)) (plc p.1 p.2)).run Tryz.prog w = .ok (.tuple #[v0, goInt st]) w1 ∧ w.mapTurned w1 M ∧ ((p ∈ ks ∧ E p v0) ∨ (p ∉ ks ∧ v0 = z)) ∧
      ∀ (w2 : World) (val : Value), w2.heap[M]? = w1.heap[M]? → ∃ w3, (Instr.entryStore mt (.map (some M)) (goInt st) val).run Tryz.prog w2 = .ok () w3 ∧ w2.mapTurned w3 M ∧
        ∀ ks' E', ks'.Nodup → (∀ q, q ∈ ks' ↔ q = p ∨ q ∈ ks) → (p ∈ ks → ks'.length = ks.length) → (p ∉ ks → ks'.length = ks.length + 1) → E' p val → (∀ q ∈ ks, q ≠ p → ∀ u, E q u → E' q u) → MapG kt w3 M ks' E' := by
  have hput := fun v => h.put K ht hp hl v
  have hlook := h.look K ht hz hp
  have hkey := K.key p.1 p.2 hp.1 hp.2
  obtain ⟨D, ⟨es, clock, hb, F, hs, hD⟩, h2, h3, h4⟩ := h.map
  obtain ⟨v0, st, es1, clock1, hrun, hv0, hst⟩ := Go.WideElems.entry_then_store L ht hz hb F hkey
  have hlt : M < w.heap.size := (Array.getElem?_eq_some_iff.1 hb).1
  have hsame : ∀ (u : World) (o : Obj), M < u.heap.size → (setBlock u M o).heap[M]? = some o := fun u o hu => by
    unfold setBlock
    simp [hu]
  have hnd : es.toList.Pairwise (fun x y => x.key ≠ y.key) := (List.pairwise_map.1 F.stamped.2.2)
  have hv : (Instr.lookup mt (.map (some M)) (plc p.1 p.2) false).run Tryz.prog w = .ok v0 w := by
    rcases Go.Maps.fit_look false K.law ht (hz w) hb F hkey with ⟨r2, hno, _⟩ | ⟨e0, y, he0, hk0, r2, _, _, _⟩
    · rcases hv0 with ⟨e1, he1, hk1, _⟩ | ⟨_, rfl⟩
      · exact absurd hk1 (hno e1 he1)
      · exact r2
    · rcases hv0 with ⟨e1, he1, hk1, rfl⟩ | ⟨hno, _⟩
      · obtain rfl := entry_eq_of_key hnd he0 he1 (hk0.trans hk1.symm)
        exact r2
      · exact absurd hk0 (hno e0 he0)
  refine ⟨v0, st, setBlock w M (.map es1 clock1), hrun, ⟨es, clock, es1, clock1, hb, rfl⟩, ?_, fun w2 val hw2 => ?_⟩
  · rcases hlook with ⟨hm, v, hE, hr⟩ | ⟨hm, hr⟩
    · have e := (hr w rfl).2.symm.trans hv
      simp only [Result.ok.injEq, and_true] at e
      exact Or.inl ⟨hm, e ▸ hE⟩
    · have e := (hr w rfl).2.symm.trans hv
      simp only [Result.ok.injEq, and_true] at e
      exact Or.inr ⟨hm, e.symm⟩
  · rw [hsame w _ hlt] at hw2
    obtain ⟨es', clock', hr, hu⟩ := hst w2 val hw2
    have hlt2 : M < w2.heap.size := (Array.getElem?_eq_some_iff.1 hw2).1
    refine ⟨_, hr, ⟨es1, clock1, es', clock', hw2, rfl⟩, fun ks' E' a1 a2 a3 a4 a5 a6 => ?_⟩
    obtain ⟨w', hr', _, hm⟩ := hput val
    have e := hr'.symm.trans hu
    simp only [Result.ok.injEq, true_and] at e
    subst e
    exact (hm ks' E' a1 a2 a3 a4 a5 a6).blk (by rw [hsame w2 _ hlt2, hsame w _ hlt])
end Go.Proofs.YtgklopgeimjgiaaGreatDoor
