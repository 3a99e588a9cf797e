/- Texts joined by a tool: contracts and walks of this claim. -/
import Derived.Test.YtceoficoappkpaaGreatDoorP8
namespace Go.Proofs.YtceoficoappkpaaGreatDoor
open Go.RowKit Go.Shelf
attribute [local go_sem] Oper.semAt_some

theorem rowS_ne {ts : List Ta} {tb : Int} {l : List V} (h : rowS ts tb l = true) : l.length ≠ 0 := by
 obtain ⟨j, ta, rfl, hj, hke, hl⟩ := row_tab (show true = mustB ts tb true l from h.symm)
 omega
theorem chFit_has {ts : List Ta} {kd tb : Int} {l0 l1 : List V} (h : hasS ts tb = false) : chFit ts kd tb l0 l1 = false := by
 cases hf : chFit ts kd tb l0 l1 with
 | false => rfl
 | true =>
  exfalso
  have hr : ∀ l, rowS ts tb l = false := fun l => rowS_no h
  unfold chFit at hf
  obtain ⟨hk, hf⟩ := Bool.and_eq_true_iff.1 hf
  obtain ⟨h0, hf⟩ := Bool.and_eq_true_iff.1 hf
  obtain ⟨h1, -⟩ := Bool.and_eq_true_iff.1 hf
  unfold mustB at h0 h1
  rw [hr] at h0 h1
  by_cases e : kd = 3
  · subst e; simp at h0
  · simp [e] at h1
set_option maxRecDepth 100000 in
set_option maxHeartbeats 3200000 in
theorem refmay26_any (ts : List Ta) (A A0 A1 : Option Addr) (c d0 d1 : Nat) (kd tb : Int) (l0 l1 : List V) (w : World) (ht : TRow w A c ts) (h0 : VRow w A0 l0) (h1 : VRow w A1 l1) (hT : Tabs w) :
  Calls Tryz.prog 12 #[.agg #[.slice A ts.length c], .agg #[.int .u8 kd, .int .i64 tb, .slice A0 l0.length d0, .slice A1 l1.length d1]] w fun r w' => r = .returned (.bool (chFit ts kd tb l0 l1)) ∧ Below w.heap.size w w' := by
 have HT := hd_ (fun (W : World) (hW : Below w.heap.size w W) => ht.ext hW)
 have HV0 := hd_ (fun (W : World) (hW : Below w.heap.size w W) => h0.ext hW)
 have HV1 := hd_ (fun (W : World) (hW : Below w.heap.size w W) => h1.ext hW)
 have HH := hd_ (fun (W : World) (hW : Below w.heap.size w W) => refhas13_any ts A c tb W (ht.ext hW))
 have HR0 := hd_ (fun (W : World) (hW : Below w.heap.size w W) => refrow13_any ts A A0 c d0 tb l0 W (ht.ext hW) (h0.ext hW) (hT.ext hW))
 have HR1 := hd_ (fun (W : World) (hW : Below w.heap.size w W) => refrow13_any ts A A1 c d1 tb l1 W (ht.ext hW) (h1.ext hW) (hT.ext hW))
 have hts := ht.2.1
 have hn0 := h0.2.1
 have hn1 := h1.2.1
 clear ht h0 h1 hT
 cases hh : hasS ts tb with
 | false =>
  rw [hh] at HH
  rw [chFit_has hh]
  clear hh
  go_enter Tryz.func12, Tryz.ntmps12
  go_upto_region 1 with fail
  have b2 : Blk ((w.alloc (.cells #[.slice A ts.length c] 24)).alloc (.cells #[.int .u8 kd, .int .i64 tb, .slice A0 l0.length d0, .slice A1 l1.length d1] 27)) w.heap.size #[.slice A ts.length c] 24 := (by repeat (first | exact Blk.at (by simp) | assumption | refine Blk.drew ?_ | refine Blk.old ?_ _))
  have b3 : Blk ((w.alloc (.cells #[.slice A ts.length c] 24)).alloc (.cells #[.int .u8 kd, .int .i64 tb, .slice A0 l0.length d0, .slice A1 l1.length d1] 27)) (w.heap.size + 1) #[.int .u8 kd, .int .i64 tb, .slice A0 l0.length d0, .slice A1 l1.length d1] 27 := (by repeat (first | exact Blk.at (by simp) | assumption | refine Blk.drew ?_ | refine Blk.old ?_ _))
  have hb : Below w.heap.size w ((w.alloc (.cells #[.slice A ts.length c] 24)).alloc (.cells #[.int .u8 kd, .int .i64 tb, .slice A0 l0.length d0, .slice A1 l1.length d1] 27)) := (by repeat (first | exact Below.refl _ _ | assumption | refine Below.drew ?_ | refine below_drewN ?_ _ | refine Below.alloc ?_ (by simp <;> omega) _))
  generalize ((w.alloc (.cells #[.slice A ts.length c] 24)).alloc (.cells #[.int .u8 kd, .int .i64 tb, .slice A0 l0.length d0, .slice A1 l1.length d1] 27)) = W at b2 b3 hb ⊢
  obtain ⟨q2, hq2⟩ : ∃ b, b = w.heap.size := ⟨_, rfl⟩
  obtain ⟨q3, hq3⟩ : ∃ b, b = w.heap.size + 1 := ⟨_, rfl⟩
  rw [← hq3] at b3 ⊢
  rw [← hq2] at b2 ⊢
  clear hq2 hq3
  have HB2 := hd_ b2
  have HB3 := hd_ b3
  have HB := hd_ hb
  have HC : Hid (∀ X, Below W.heap.size W X → (q3 < X.heap.size ∧ X.cell? ⟨q3, 0, none⟩ = some (.int .u8 kd) ∧ X.cell? ⟨q3, 1, none⟩ = some (.int .i64 tb) ∧ X.cell? ⟨q3, 2, none⟩ = some (.slice A0 l0.length d0) ∧ X.cell? ⟨q3, 3, none⟩ = some (.slice A1 l1.length d1)) ∧ (q2 < X.heap.size ∧ X.cell? ⟨q2, 0, none⟩ = some (.slice A ts.length c))) := fun X hX => ⟨blk4' (HB3.out.ext hX), ⟨(HB2.out.ext hX).lt, (HB2.out.ext hX).cell 0⟩⟩
  clear b2 b3 hb
  obtain ⟨⟨l3, k0, k1, k2, k3⟩, l2, e2⟩ := HC.out W (Below.refl _ _)
  go_wp2_with fail
  refine (HH.out _ HB.out).mono ?_
  rintro r w1 ⟨rfl, hb⟩
  have HX1 := hd_ hb
  clear hb l3 k0 k1 k2 k3 l2 e2
  obtain ⟨⟨l3, k0, k1, k2, k3⟩, l2, e2⟩ := HC.out w1 HX1.out
  go_wp2_with fail
  go_ret
  exact ⟨rfl, bt HB.out HX1.out⟩
 | true =>
  rw [hh] at HH
  by_cases hk1 : kd < 1
  · have e : chFit ts kd tb l0 l1 = false := by unfold chFit; rw [decide_eq_false (by omega : ¬ 1 ≤ kd)]; rfl
    rw [e]
    clear e hh
    go_enter Tryz.func12, Tryz.ntmps12
    go_upto_region 1 with fail
    have b2 : Blk ((w.alloc (.cells #[.slice A ts.length c] 24)).alloc (.cells #[.int .u8 kd, .int .i64 tb, .slice A0 l0.length d0, .slice A1 l1.length d1] 27)) w.heap.size #[.slice A ts.length c] 24 := (by repeat (first | exact Blk.at (by simp) | assumption | refine Blk.drew ?_ | refine Blk.old ?_ _))
    have b3 : Blk ((w.alloc (.cells #[.slice A ts.length c] 24)).alloc (.cells #[.int .u8 kd, .int .i64 tb, .slice A0 l0.length d0, .slice A1 l1.length d1] 27)) (w.heap.size + 1) #[.int .u8 kd, .int .i64 tb, .slice A0 l0.length d0, .slice A1 l1.length d1] 27 := (by repeat (first | exact Blk.at (by simp) | assumption | refine Blk.drew ?_ | refine Blk.old ?_ _))
    have hb : Below w.heap.size w ((w.alloc (.cells #[.slice A ts.length c] 24)).alloc (.cells #[.int .u8 kd, .int .i64 tb, .slice A0 l0.length d0, .slice A1 l1.length d1] 27)) := (by repeat (first | exact Below.refl _ _ | assumption | refine Below.drew ?_ | refine below_drewN ?_ _ | refine Below.alloc ?_ (by simp <;> omega) _))
    generalize ((w.alloc (.cells #[.slice A ts.length c] 24)).alloc (.cells #[.int .u8 kd, .int .i64 tb, .slice A0 l0.length d0, .slice A1 l1.length d1] 27)) = W at b2 b3 hb ⊢
    obtain ⟨q2, hq2⟩ : ∃ b, b = w.heap.size := ⟨_, rfl⟩
    obtain ⟨q3, hq3⟩ : ∃ b, b = w.heap.size + 1 := ⟨_, rfl⟩
    rw [← hq3] at b3 ⊢
    rw [← hq2] at b2 ⊢
    clear hq2 hq3
    have HB2 := hd_ b2
    have HB3 := hd_ b3
    have HB := hd_ hb
    have HC : Hid (∀ X, Below W.heap.size W X → (q3 < X.heap.size ∧ X.cell? ⟨q3, 0, none⟩ = some (.int .u8 kd) ∧ X.cell? ⟨q3, 1, none⟩ = some (.int .i64 tb) ∧ X.cell? ⟨q3, 2, none⟩ = some (.slice A0 l0.length d0) ∧ X.cell? ⟨q3, 3, none⟩ = some (.slice A1 l1.length d1)) ∧ (q2 < X.heap.size ∧ X.cell? ⟨q2, 0, none⟩ = some (.slice A ts.length c))) := fun X hX => ⟨blk4' (HB3.out.ext hX), ⟨(HB2.out.ext hX).lt, (HB2.out.ext hX).cell 0⟩⟩
    clear b2 b3 hb
    obtain ⟨⟨l3, k0, k1, k2, k3⟩, l2, e2⟩ := HC.out W (Below.refl _ _)
    go_wp2_with fail
    refine (HH.out _ HB.out).mono ?_
    rintro r w1 ⟨rfl, hb⟩
    have HX1 := hd_ hb
    clear hb l3 k0 k1 k2 k3 l2 e2
    obtain ⟨⟨l3, k0, k1, k2, k3⟩, l2, e2⟩ := HC.out w1 HX1.out
    go_wp2_with fail
    go_ret
    exact ⟨rfl, bt HB.out HX1.out⟩
  · by_cases hk4 : 4 < kd
    · have e : chFit ts kd tb l0 l1 = false := by unfold chFit; rw [decide_eq_false (by omega : ¬ kd ≤ 4), Bool.and_false]; rfl
      rw [e]
      clear e hh
      go_enter Tryz.func12, Tryz.ntmps12
      go_upto_region 1 with fail
      have b2 : Blk ((w.alloc (.cells #[.slice A ts.length c] 24)).alloc (.cells #[.int .u8 kd, .int .i64 tb, .slice A0 l0.length d0, .slice A1 l1.length d1] 27)) w.heap.size #[.slice A ts.length c] 24 := (by repeat (first | exact Blk.at (by simp) | assumption | refine Blk.drew ?_ | refine Blk.old ?_ _))
      have b3 : Blk ((w.alloc (.cells #[.slice A ts.length c] 24)).alloc (.cells #[.int .u8 kd, .int .i64 tb, .slice A0 l0.length d0, .slice A1 l1.length d1] 27)) (w.heap.size + 1) #[.int .u8 kd, .int .i64 tb, .slice A0 l0.length d0, .slice A1 l1.length d1] 27 := (by repeat (first | exact Blk.at (by simp) | assumption | refine Blk.drew ?_ | refine Blk.old ?_ _))
      have hb : Below w.heap.size w ((w.alloc (.cells #[.slice A ts.length c] 24)).alloc (.cells #[.int .u8 kd, .int .i64 tb, .slice A0 l0.length d0, .slice A1 l1.length d1] 27)) := (by repeat (first | exact Below.refl _ _ | assumption | refine Below.drew ?_ | refine below_drewN ?_ _ | refine Below.alloc ?_ (by simp <;> omega) _))
      generalize ((w.alloc (.cells #[.slice A ts.length c] 24)).alloc (.cells #[.int .u8 kd, .int .i64 tb, .slice A0 l0.length d0, .slice A1 l1.length d1] 27)) = W at b2 b3 hb ⊢
      obtain ⟨q2, hq2⟩ : ∃ b, b = w.heap.size := ⟨_, rfl⟩
      obtain ⟨q3, hq3⟩ : ∃ b, b = w.heap.size + 1 := ⟨_, rfl⟩
      rw [← hq3] at b3 ⊢
      rw [← hq2] at b2 ⊢
      clear hq2 hq3
      have HB2 := hd_ b2
      have HB3 := hd_ b3
      have HB := hd_ hb
      have HC : Hid (∀ X, Below W.heap.size W X → (q3 < X.heap.size ∧ X.cell? ⟨q3, 0, none⟩ = some (.int .u8 kd) ∧ X.cell? ⟨q3, 1, none⟩ = some (.int .i64 tb) ∧ X.cell? ⟨q3, 2, none⟩ = some (.slice A0 l0.length d0) ∧ X.cell? ⟨q3, 3, none⟩ = some (.slice A1 l1.length d1)) ∧ (q2 < X.heap.size ∧ X.cell? ⟨q2, 0, none⟩ = some (.slice A ts.length c))) := fun X hX => ⟨blk4' (HB3.out.ext hX), ⟨(HB2.out.ext hX).lt, (HB2.out.ext hX).cell 0⟩⟩
      clear b2 b3 hb
      obtain ⟨⟨l3, k0, k1, k2, k3⟩, l2, e2⟩ := HC.out W (Below.refl _ _)
      go_wp2_with fail
      refine (HH.out _ HB.out).mono ?_
      rintro r w1 ⟨rfl, hb⟩
      have HX1 := hd_ hb
      clear hb l3 k0 k1 k2 k3 l2 e2
      obtain ⟨⟨l3, k0, k1, k2, k3⟩, l2, e2⟩ := HC.out w1 HX1.out
      go_wp2_with fail
      go_ret
      exact ⟨rfl, bt HB.out HX1.out⟩
    · obtain ⟨j, ta, rfl, -, htj, hcb, -⟩ := has_at hh
      have HJ := hd_ htj
      have HKE := hd_ (cols_parts hcb).2.2.2.1
      have HM : Hid (∃ R0 R1, R0 = rowS ts j l0 ∧ R1 = rowS ts j l1) := ⟨_, _, rfl, rfl⟩
      obtain ⟨R0, R1, hR0, hR1⟩ := HM.out
      rw [← hR0] at HR0
      rw [← hR1] at HR1
      have HE := hd_ (And.intro hR0 hR1)
      clear HM hR0 hR1 hcb hh htj
      have hkc : kd = 1 ∨ kd = 4 ∨ kd = 2 ∨ kd = 3 := by omega
      clear hk1 hk4
      rcases hkc with rfl | rfl | rfl | rfl
      · have HF : Hid (chFit ts 1 j l0 l1 = (decide (l0.length = 0) && R1)) := by show _ = _; rw [HE.out.2]; simp [chFit, mustB]
        rw [HF.out]
        go_enter Tryz.func12, Tryz.ntmps12
        go_upto_region 1 with fail
        have b2 : Blk ((w.alloc (.cells #[.slice A ts.length c] 24)).alloc (.cells #[.int .u8 1, .int .i64 j, .slice A0 l0.length d0, .slice A1 l1.length d1] 27)) w.heap.size #[.slice A ts.length c] 24 := (by repeat (first | exact Blk.at (by simp) | assumption | refine Blk.drew ?_ | refine Blk.old ?_ _))
        have b3 : Blk ((w.alloc (.cells #[.slice A ts.length c] 24)).alloc (.cells #[.int .u8 1, .int .i64 j, .slice A0 l0.length d0, .slice A1 l1.length d1] 27)) (w.heap.size + 1) #[.int .u8 1, .int .i64 j, .slice A0 l0.length d0, .slice A1 l1.length d1] 27 := (by repeat (first | exact Blk.at (by simp) | assumption | refine Blk.drew ?_ | refine Blk.old ?_ _))
        have hb : Below w.heap.size w ((w.alloc (.cells #[.slice A ts.length c] 24)).alloc (.cells #[.int .u8 1, .int .i64 j, .slice A0 l0.length d0, .slice A1 l1.length d1] 27)) := (by repeat (first | exact Below.refl _ _ | assumption | refine Below.drew ?_ | refine below_drewN ?_ _ | refine Below.alloc ?_ (by simp <;> omega) _))
        generalize ((w.alloc (.cells #[.slice A ts.length c] 24)).alloc (.cells #[.int .u8 1, .int .i64 j, .slice A0 l0.length d0, .slice A1 l1.length d1] 27)) = W at b2 b3 hb ⊢
        obtain ⟨q2, hq2⟩ : ∃ b, b = w.heap.size := ⟨_, rfl⟩
        obtain ⟨q3, hq3⟩ : ∃ b, b = w.heap.size + 1 := ⟨_, rfl⟩
        rw [← hq3] at b3 ⊢
        rw [← hq2] at b2 ⊢
        clear hq2 hq3
        have HB2 := hd_ b2
        have HB3 := hd_ b3
        have HB := hd_ hb
        have HC : Hid (∀ X, Below W.heap.size W X → (q3 < X.heap.size ∧ X.cell? ⟨q3, 0, none⟩ = some (.int .u8 1) ∧ X.cell? ⟨q3, 1, none⟩ = some (.int .i64 j) ∧ X.cell? ⟨q3, 2, none⟩ = some (.slice A0 l0.length d0) ∧ X.cell? ⟨q3, 3, none⟩ = some (.slice A1 l1.length d1)) ∧ (q2 < X.heap.size ∧ X.cell? ⟨q2, 0, none⟩ = some (.slice A ts.length c))) := fun X hX => ⟨blk4' (HB3.out.ext hX), ⟨(HB2.out.ext hX).lt, (HB2.out.ext hX).cell 0⟩⟩
        clear b2 b3 hb
        obtain ⟨⟨l3, k0, k1, k2, k3⟩, l2, e2⟩ := HC.out W (Below.refl _ _)
        go_wp2_with fail
        refine (HH.out _ HB.out).mono ?_
        rintro r w1 ⟨rfl, hb⟩
        have HX1 := hd_ hb
        clear hb l3 k0 k1 k2 k3 l2 e2
        obtain ⟨⟨l3, k0, k1, k2, k3⟩, l2, e2⟩ := HC.out w1 HX1.out
        go_upto_region 3 with fail
        go_quiet (fail)
        have HX : Hid (Below W.heap.size W (w1.drewN nq)) := below_drewN HX1.out _
        generalize w1.drewN nq = w2 at HX ⊢
        clear l3 k0 k1 k2 k3 l2 e2 HX1
        obtain ⟨⟨l3, k0, k1, k2, k3⟩, l2, e2⟩ := HC.out w2 HX.out
        go_wp2_with fail
        refine (HR0.out _ (bt HB.out HX.out)).mono ?_
        rintro r w3 ⟨rfl, hb⟩
        have HX3 := hd_ (bt HX.out hb)
        clear hb l3 k0 k1 k2 k3 l2 e2 HX
        obtain ⟨⟨l3, k0, k1, k2, k3⟩, l2, e2⟩ := HC.out w3 HX3.out
        cases R0 with
        | true =>
         go_wp2_with fail
         go_ret
         exact ⟨by rw [decide_eq_false (rowS_ne HE.out.1.symm)]; rfl, bt HB.out HX3.out⟩
        | false =>
         by_cases hz : l0.length = 0
         · have HZ := hd_ hz
           have hz' : decide (0 < l0.length) = false := decide_eq_false (by omega)
           clear hz
           go_wp2_with fail
           refine (HR1.out _ (bt HB.out HX3.out)).mono ?_
           rintro r w4 ⟨rfl, hb⟩
           have HX := hd_ (bt HX3.out hb)
           clear hb l3 k0 k1 k2 k3 l2 e2 HX3
           obtain ⟨⟨l3, k0, k1, k2, k3⟩, l2, e2⟩ := HC.out w4 HX.out
           cases R1 with
           | false =>
            go_wp2_with fail
            go_ret
            exact ⟨by rw [Bool.and_false]; rfl, bt HB.out HX.out⟩
           | true =>
            have hjl : j < ts.length := (List.getElem?_eq_some_iff.1 HJ.out).1
            have hjI : (j : Int) < ts.length := by omega
            have hall := HT.out w4 (bt HB.out HX.out)
            obtain ⟨tb1, off1, rfl, hlt, hcs⟩ := hall.2.2.2 (by intro e; rw [e] at hjl; simp at hjl)
            obtain ⟨t0, t1, t2, t3, t4⟩ := hcs j ta HJ.out
            go_upto_region 7 with fail
            go_quiet (fail)
            go_wp2_with fail
            go_ret
            exact ⟨by rw [decide_eq_true HZ.out]; rfl, bt (bt HB.out HX.out) ((by repeat (first | exact Below.refl _ _ | assumption | refine Below.drew ?_ | refine below_drewN ?_ _ | refine Below.alloc ?_ (by simp <;> omega) _)))⟩
         · have HZ := hd_ hz
           have hz' : decide (0 < l0.length) = true := decide_eq_true (by omega)
           clear hz
           go_wp2_with fail
           go_ret
           exact ⟨by rw [decide_eq_false HZ.out]; rfl, bt HB.out HX3.out⟩
      · have HF : Hid (chFit ts 4 j l0 l1 = (decide (l0.length = 0) && R1)) := by show _ = _; rw [HE.out.2]; simp [chFit, mustB]
        rw [HF.out]
        go_enter Tryz.func12, Tryz.ntmps12
        go_upto_region 1 with fail
        have b2 : Blk ((w.alloc (.cells #[.slice A ts.length c] 24)).alloc (.cells #[.int .u8 4, .int .i64 j, .slice A0 l0.length d0, .slice A1 l1.length d1] 27)) w.heap.size #[.slice A ts.length c] 24 := (by repeat (first | exact Blk.at (by simp) | assumption | refine Blk.drew ?_ | refine Blk.old ?_ _))
        have b3 : Blk ((w.alloc (.cells #[.slice A ts.length c] 24)).alloc (.cells #[.int .u8 4, .int .i64 j, .slice A0 l0.length d0, .slice A1 l1.length d1] 27)) (w.heap.size + 1) #[.int .u8 4, .int .i64 j, .slice A0 l0.length d0, .slice A1 l1.length d1] 27 := (by repeat (first | exact Blk.at (by simp) | assumption | refine Blk.drew ?_ | refine Blk.old ?_ _))
        have hb : Below w.heap.size w ((w.alloc (.cells #[.slice A ts.length c] 24)).alloc (.cells #[.int .u8 4, .int .i64 j, .slice A0 l0.length d0, .slice A1 l1.length d1] 27)) := (by repeat (first | exact Below.refl _ _ | assumption | refine Below.drew ?_ | refine below_drewN ?_ _ | refine Below.alloc ?_ (by simp <;> omega) _))
        generalize ((w.alloc (.cells #[.slice A ts.length c] 24)).alloc (.cells #[.int .u8 4, .int .i64 j, .slice A0 l0.length d0, .slice A1 l1.length d1] 27)) = W at b2 b3 hb ⊢
        obtain ⟨q2, hq2⟩ : ∃ b, b = w.heap.size := ⟨_, rfl⟩
        obtain ⟨q3, hq3⟩ : ∃ b, b = w.heap.size + 1 := ⟨_, rfl⟩
        rw [← hq3] at b3 ⊢
        rw [← hq2] at b2 ⊢
        clear hq2 hq3
        have HB2 := hd_ b2
        have HB3 := hd_ b3
        have HB := hd_ hb
        have HC : Hid (∀ X, Below W.heap.size W X → (q3 < X.heap.size ∧ X.cell? ⟨q3, 0, none⟩ = some (.int .u8 4) ∧ X.cell? ⟨q3, 1, none⟩ = some (.int .i64 j) ∧ X.cell? ⟨q3, 2, none⟩ = some (.slice A0 l0.length d0) ∧ X.cell? ⟨q3, 3, none⟩ = some (.slice A1 l1.length d1)) ∧ (q2 < X.heap.size ∧ X.cell? ⟨q2, 0, none⟩ = some (.slice A ts.length c))) := fun X hX => ⟨blk4' (HB3.out.ext hX), ⟨(HB2.out.ext hX).lt, (HB2.out.ext hX).cell 0⟩⟩
        clear b2 b3 hb
        obtain ⟨⟨l3, k0, k1, k2, k3⟩, l2, e2⟩ := HC.out W (Below.refl _ _)
        go_wp2_with fail
        refine (HH.out _ HB.out).mono ?_
        rintro r w1 ⟨rfl, hb⟩
        have HX1 := hd_ hb
        clear hb l3 k0 k1 k2 k3 l2 e2
        obtain ⟨⟨l3, k0, k1, k2, k3⟩, l2, e2⟩ := HC.out w1 HX1.out
        go_upto_region 3 with fail
        go_quiet (fail)
        have HX : Hid (Below W.heap.size W (w1.drewN nq)) := below_drewN HX1.out _
        generalize w1.drewN nq = w2 at HX ⊢
        clear l3 k0 k1 k2 k3 l2 e2 HX1
        obtain ⟨⟨l3, k0, k1, k2, k3⟩, l2, e2⟩ := HC.out w2 HX.out
        go_wp2_with fail
        refine (HR0.out _ (bt HB.out HX.out)).mono ?_
        rintro r w3 ⟨rfl, hb⟩
        have HX3 := hd_ (bt HX.out hb)
        clear hb l3 k0 k1 k2 k3 l2 e2 HX
        obtain ⟨⟨l3, k0, k1, k2, k3⟩, l2, e2⟩ := HC.out w3 HX3.out
        cases R0 with
        | true =>
         go_wp2_with fail
         go_ret
         exact ⟨by rw [decide_eq_false (rowS_ne HE.out.1.symm)]; rfl, bt HB.out HX3.out⟩
        | false =>
         by_cases hz : l0.length = 0
         · have HZ := hd_ hz
           have hz' : decide (0 < l0.length) = false := decide_eq_false (by omega)
           clear hz
           go_wp2_with fail
           refine (HR1.out _ (bt HB.out HX3.out)).mono ?_
           rintro r w4 ⟨rfl, hb⟩
           have HX := hd_ (bt HX3.out hb)
           clear hb l3 k0 k1 k2 k3 l2 e2 HX3
           obtain ⟨⟨l3, k0, k1, k2, k3⟩, l2, e2⟩ := HC.out w4 HX.out
           cases R1 with
           | false =>
            go_wp2_with fail
            go_ret
            exact ⟨by rw [Bool.and_false]; rfl, bt HB.out HX.out⟩
           | true =>
            have hjl : j < ts.length := (List.getElem?_eq_some_iff.1 HJ.out).1
            have hjI : (j : Int) < ts.length := by omega
            have hall := HT.out w4 (bt HB.out HX.out)
            obtain ⟨tb1, off1, rfl, hlt, hcs⟩ := hall.2.2.2 (by intro e; rw [e] at hjl; simp at hjl)
            obtain ⟨t0, t1, t2, t3, t4⟩ := hcs j ta HJ.out
            go_upto_region 7 with fail
            go_quiet (fail)
            go_wp2_with fail
            go_ret
            exact ⟨by rw [decide_eq_true HZ.out]; rfl, bt (bt HB.out HX.out) ((by repeat (first | exact Below.refl _ _ | assumption | refine Below.drew ?_ | refine below_drewN ?_ _ | refine Below.alloc ?_ (by simp <;> omega) _)))⟩
         · have HZ := hd_ hz
           have hz' : decide (0 < l0.length) = true := decide_eq_true (by omega)
           clear hz
           go_wp2_with fail
           go_ret
           exact ⟨by rw [decide_eq_false HZ.out]; rfl, bt HB.out HX3.out⟩
      · have HF : Hid (chFit ts 2 j l0 l1 = (R0 && (R1 && keyEq ts j l0 l1))) := by rw [HE.out.1, HE.out.2]; show _ = _; simp [chFit, mustB]
        rw [HF.out]
        go_enter Tryz.func12, Tryz.ntmps12
        go_upto_region 1 with fail
        have b2 : Blk ((w.alloc (.cells #[.slice A ts.length c] 24)).alloc (.cells #[.int .u8 2, .int .i64 j, .slice A0 l0.length d0, .slice A1 l1.length d1] 27)) w.heap.size #[.slice A ts.length c] 24 := (by repeat (first | exact Blk.at (by simp) | assumption | refine Blk.drew ?_ | refine Blk.old ?_ _))
        have b3 : Blk ((w.alloc (.cells #[.slice A ts.length c] 24)).alloc (.cells #[.int .u8 2, .int .i64 j, .slice A0 l0.length d0, .slice A1 l1.length d1] 27)) (w.heap.size + 1) #[.int .u8 2, .int .i64 j, .slice A0 l0.length d0, .slice A1 l1.length d1] 27 := (by repeat (first | exact Blk.at (by simp) | assumption | refine Blk.drew ?_ | refine Blk.old ?_ _))
        have hb : Below w.heap.size w ((w.alloc (.cells #[.slice A ts.length c] 24)).alloc (.cells #[.int .u8 2, .int .i64 j, .slice A0 l0.length d0, .slice A1 l1.length d1] 27)) := (by repeat (first | exact Below.refl _ _ | assumption | refine Below.drew ?_ | refine below_drewN ?_ _ | refine Below.alloc ?_ (by simp <;> omega) _))
        generalize ((w.alloc (.cells #[.slice A ts.length c] 24)).alloc (.cells #[.int .u8 2, .int .i64 j, .slice A0 l0.length d0, .slice A1 l1.length d1] 27)) = W at b2 b3 hb ⊢
        obtain ⟨q2, hq2⟩ : ∃ b, b = w.heap.size := ⟨_, rfl⟩
        obtain ⟨q3, hq3⟩ : ∃ b, b = w.heap.size + 1 := ⟨_, rfl⟩
        rw [← hq3] at b3 ⊢
        rw [← hq2] at b2 ⊢
        clear hq2 hq3
        have HB2 := hd_ b2
        have HB3 := hd_ b3
        have HB := hd_ hb
        have HC : Hid (∀ X, Below W.heap.size W X → (q3 < X.heap.size ∧ X.cell? ⟨q3, 0, none⟩ = some (.int .u8 2) ∧ X.cell? ⟨q3, 1, none⟩ = some (.int .i64 j) ∧ X.cell? ⟨q3, 2, none⟩ = some (.slice A0 l0.length d0) ∧ X.cell? ⟨q3, 3, none⟩ = some (.slice A1 l1.length d1)) ∧ (q2 < X.heap.size ∧ X.cell? ⟨q2, 0, none⟩ = some (.slice A ts.length c))) := fun X hX => ⟨blk4' (HB3.out.ext hX), ⟨(HB2.out.ext hX).lt, (HB2.out.ext hX).cell 0⟩⟩
        clear b2 b3 hb
        obtain ⟨⟨l3, k0, k1, k2, k3⟩, l2, e2⟩ := HC.out W (Below.refl _ _)
        go_wp2_with fail
        refine (HH.out _ HB.out).mono ?_
        rintro r w1 ⟨rfl, hb⟩
        have HX1 := hd_ hb
        clear hb l3 k0 k1 k2 k3 l2 e2
        obtain ⟨⟨l3, k0, k1, k2, k3⟩, l2, e2⟩ := HC.out w1 HX1.out
        go_upto_region 3 with fail
        go_quiet (fail)
        have HX : Hid (Below W.heap.size W (w1.drewN nq)) := below_drewN HX1.out _
        generalize w1.drewN nq = w2 at HX ⊢
        clear l3 k0 k1 k2 k3 l2 e2 HX1
        obtain ⟨⟨l3, k0, k1, k2, k3⟩, l2, e2⟩ := HC.out w2 HX.out
        go_wp2_with fail
        refine (HR0.out _ (bt HB.out HX.out)).mono ?_
        rintro r w3 ⟨rfl, hb⟩
        have HX3 := hd_ (bt HX.out hb)
        clear hb l3 k0 k1 k2 k3 l2 e2 HX
        obtain ⟨⟨l3, k0, k1, k2, k3⟩, l2, e2⟩ := HC.out w3 HX3.out
        cases R0 with
        | false =>
         go_wp2_with fail
         go_ret
         exact ⟨rfl, bt HB.out HX3.out⟩
        | true =>
         go_wp2_with fail
         refine (HR1.out _ (bt HB.out HX3.out)).mono ?_
         rintro r w4 ⟨rfl, hb⟩
         have HX := hd_ (bt HX3.out hb)
         clear hb l3 k0 k1 k2 k3 l2 e2 HX3
         obtain ⟨⟨l3, k0, k1, k2, k3⟩, l2, e2⟩ := HC.out w4 HX.out
         cases R1 with
         | false =>
          go_wp2_with fail
          go_ret
          exact ⟨rfl, bt HB.out HX.out⟩
         | true =>
          obtain ⟨j2, ta2, hj2, hta2, -, hln⟩ := row_tab (show true = mustB ts j true l0 from HE.out.1)
          obtain ⟨j3, ta3, hj3, hta3, -, hln3⟩ := row_tab (show true = mustB ts j true l1 from HE.out.2)
          obtain rfl : j = j2 := by omega
          obtain rfl : j = j3 := by omega
          obtain rfl : ta = ta2 := Option.some.inj (HJ.out.symm.trans hta2)
          obtain rfl : ta = ta3 := Option.some.inj (HJ.out.symm.trans hta3)
          have hkb := HKE.out
          obtain ⟨ke, hke2⟩ : ∃ ke : Nat, ta.key = ke := ⟨ta.key.toNat, by omega⟩
          have hk0 : ke < l0.length := by omega
          have hk1 : ke < l1.length := by omega
          have HKQ : Hid (keyEq ts j l0 l1 = decide (l0[ke] = l1[ke])) := by
           show _ = _
           unfold keyEq
           rw [Int.toNat_natCast, HJ.out]
           simp only [hke2, Int.toNat_natCast, List.getElem?_eq_getElem hk0, List.getElem?_eq_getElem hk1, Option.some.injEq]
          have hjl : j < ts.length := (List.getElem?_eq_some_iff.1 HJ.out).1
          have hjI : (j : Int) < ts.length := by omega
          have hall := HT.out w4 (bt HB.out HX.out)
          obtain ⟨tb1, off1, rfl, hlt, hcs⟩ := hall.2.2.2 (by intro e; rw [e] at hjl; simp at hjl)
          obtain ⟨t0, t1, t2, t3, t4⟩ := hcs j ta HJ.out
          rw [hke2] at t2
          obtain ⟨g0, p0, rfl, hl0, hc0⟩ := (HV0.out w4 (bt HB.out HX.out)).2.2 (by intro e; rw [e] at hk0; simp at hk0)
          obtain ⟨x0, x1, x2, x3⟩ := hc0 ke l0[ke] (List.getElem?_eq_getElem hk0)
          obtain ⟨g1, p1, rfl, hl1, hc1⟩ := (HV1.out w4 (bt HB.out HX.out)).2.2 (by intro e; rw [e] at hk1; simp at hk1)
          obtain ⟨y0, y1, y2, y3⟩ := hc1 ke l1[ke] (List.getElem?_eq_getElem hk1)
          have hk0I : (ke : Int) < l0.length := by omega
          have hk1I : (ke : Int) < l1.length := by omega
          have HQE := hd_ (fun (X : World) => eqlV26' l0[ke].k l0[ke].n l0[ke].r l0[ke].t l1[ke].k l1[ke].n l1[ke].r l1[ke].t X)
          clear hall hcs hc0 hc1 hta2 hta3 hln hln3 hj2 hj3 hkb hke2
          generalize l0[ke] = x at *
          generalize l1[ke] = y at *
          obtain ⟨cc, hcc⟩ : ∃ cc, cc = decide (x = y) := ⟨_, rfl⟩
          have he : ∀ X, (binOp .eql 47 (.agg #[.int .u8 x.k, .int .i64 x.n, .int .u64 x.r, .string x.t]) (.agg #[.int .u8 y.k, .int .i64 y.n, .int .u64 y.r, .string y.t])).run Tryz.prog X = .ok (.bool cc) X := fun X => by rw [hcc]; exact HQE.out X
          have HCC := hd_ hcc
          clear hcc HQE
          go_upto_region 7 with fail
          go_quiet (fail)
          go_wp2_with fail
          go_ret
          exact ⟨by rw [HKQ.out, ← HCC.out]; rfl, bt (bt HB.out HX.out) ((by repeat (first | exact Below.refl _ _ | assumption | refine Below.drew ?_ | refine below_drewN ?_ _ | refine Below.alloc ?_ (by simp <;> omega) _)))⟩
      · have HF : Hid (chFit ts 3 j l0 l1 = (R0 && decide (l1.length = 0))) := by show _ = _; rw [HE.out.1]; simp [chFit, mustB]
        rw [HF.out]
        go_enter Tryz.func12, Tryz.ntmps12
        go_upto_region 1 with fail
        have b2 : Blk ((w.alloc (.cells #[.slice A ts.length c] 24)).alloc (.cells #[.int .u8 3, .int .i64 j, .slice A0 l0.length d0, .slice A1 l1.length d1] 27)) w.heap.size #[.slice A ts.length c] 24 := (by repeat (first | exact Blk.at (by simp) | assumption | refine Blk.drew ?_ | refine Blk.old ?_ _))
        have b3 : Blk ((w.alloc (.cells #[.slice A ts.length c] 24)).alloc (.cells #[.int .u8 3, .int .i64 j, .slice A0 l0.length d0, .slice A1 l1.length d1] 27)) (w.heap.size + 1) #[.int .u8 3, .int .i64 j, .slice A0 l0.length d0, .slice A1 l1.length d1] 27 := (by repeat (first | exact Blk.at (by simp) | assumption | refine Blk.drew ?_ | refine Blk.old ?_ _))
        have hb : Below w.heap.size w ((w.alloc (.cells #[.slice A ts.length c] 24)).alloc (.cells #[.int .u8 3, .int .i64 j, .slice A0 l0.length d0, .slice A1 l1.length d1] 27)) := (by repeat (first | exact Below.refl _ _ | assumption | refine Below.drew ?_ | refine below_drewN ?_ _ | refine Below.alloc ?_ (by simp <;> omega) _))
        generalize ((w.alloc (.cells #[.slice A ts.length c] 24)).alloc (.cells #[.int .u8 3, .int .i64 j, .slice A0 l0.length d0, .slice A1 l1.length d1] 27)) = W at b2 b3 hb ⊢
        obtain ⟨q2, hq2⟩ : ∃ b, b = w.heap.size := ⟨_, rfl⟩
        obtain ⟨q3, hq3⟩ : ∃ b, b = w.heap.size + 1 := ⟨_, rfl⟩
        rw [← hq3] at b3 ⊢
        rw [← hq2] at b2 ⊢
        clear hq2 hq3
        have HB2 := hd_ b2
        have HB3 := hd_ b3
        have HB := hd_ hb
        have HC : Hid (∀ X, Below W.heap.size W X → (q3 < X.heap.size ∧ X.cell? ⟨q3, 0, none⟩ = some (.int .u8 3) ∧ X.cell? ⟨q3, 1, none⟩ = some (.int .i64 j) ∧ X.cell? ⟨q3, 2, none⟩ = some (.slice A0 l0.length d0) ∧ X.cell? ⟨q3, 3, none⟩ = some (.slice A1 l1.length d1)) ∧ (q2 < X.heap.size ∧ X.cell? ⟨q2, 0, none⟩ = some (.slice A ts.length c))) := fun X hX => ⟨blk4' (HB3.out.ext hX), ⟨(HB2.out.ext hX).lt, (HB2.out.ext hX).cell 0⟩⟩
        clear b2 b3 hb
        obtain ⟨⟨l3, k0, k1, k2, k3⟩, l2, e2⟩ := HC.out W (Below.refl _ _)
        go_wp2_with fail
        refine (HH.out _ HB.out).mono ?_
        rintro r w1 ⟨rfl, hb⟩
        have HX1 := hd_ hb
        clear hb l3 k0 k1 k2 k3 l2 e2
        obtain ⟨⟨l3, k0, k1, k2, k3⟩, l2, e2⟩ := HC.out w1 HX1.out
        go_upto_region 3 with fail
        go_quiet (fail)
        have HX : Hid (Below W.heap.size W (w1.drewN nq)) := below_drewN HX1.out _
        generalize w1.drewN nq = w2 at HX ⊢
        clear l3 k0 k1 k2 k3 l2 e2 HX1
        obtain ⟨⟨l3, k0, k1, k2, k3⟩, l2, e2⟩ := HC.out w2 HX.out
        go_wp2_with fail
        refine (HR0.out _ (bt HB.out HX.out)).mono ?_
        rintro r w3 ⟨rfl, hb⟩
        have HX3 := hd_ (bt HX.out hb)
        clear hb l3 k0 k1 k2 k3 l2 e2 HX
        obtain ⟨⟨l3, k0, k1, k2, k3⟩, l2, e2⟩ := HC.out w3 HX3.out
        cases R0 with
        | false =>
         go_wp2_with fail
         go_ret
         exact ⟨rfl, bt HB.out HX3.out⟩
        | true =>
         go_wp2_with fail
         refine (HR1.out _ (bt HB.out HX3.out)).mono ?_
         rintro r w4 ⟨rfl, hb⟩
         have HX := hd_ (bt HX3.out hb)
         clear hb l3 k0 k1 k2 k3 l2 e2 HX3
         obtain ⟨⟨l3, k0, k1, k2, k3⟩, l2, e2⟩ := HC.out w4 HX.out
         cases R1 with
         | true =>
          go_wp2_with fail
          go_ret
          exact ⟨by rw [decide_eq_false (rowS_ne HE.out.2.symm)]; rfl, bt HB.out HX.out⟩
         | false =>
          by_cases hz : l1.length = 0
          · have HZ := hd_ hz
            have hz' : decide (0 < l1.length) = false := decide_eq_false (by omega)
            clear hz
            have hjl : j < ts.length := (List.getElem?_eq_some_iff.1 HJ.out).1
            have hjI : (j : Int) < ts.length := by omega
            have hall := HT.out w4 (bt HB.out HX.out)
            obtain ⟨tb1, off1, rfl, hlt, hcs⟩ := hall.2.2.2 (by intro e; rw [e] at hjl; simp at hjl)
            obtain ⟨t0, t1, t2, t3, t4⟩ := hcs j ta HJ.out
            go_upto_region 7 with fail
            go_quiet (fail)
            go_wp2_with fail
            go_ret
            exact ⟨by rw [decide_eq_true HZ.out]; rfl, bt (bt HB.out HX.out) ((by repeat (first | exact Below.refl _ _ | assumption | refine Below.drew ?_ | refine below_drewN ?_ _ | refine Below.alloc ?_ (by simp <;> omega) _)))⟩
          · have HZ := hd_ hz
            have hz' : decide (0 < l1.length) = true := decide_eq_true (by omega)
            go_wp2_with fail
            go_ret
            exact ⟨by rw [decide_eq_false HZ.out]; rfl, bt HB.out HX.out⟩
end Go.Proofs.YtceoficoappkpaaGreatDoor
namespace Go.Proofs.YtceoficoappkpaaGreatDoor
open Go.RowKit Go.Shelf
attribute [local go_sem] Oper.semAt_some

theorem neqP_self (p : Pr) (w : World) : (binOp .neq 45 (.agg #[.string p.k, .string p.v, .bool p.g]) (.agg #[.string p.k, .string p.v, .bool p.g])).run Tryz.prog w = .ok (.bool false) w := by go_simp
set_option maxRecDepth 100000 in
set_option maxHeartbeats 1600000 in
theorem same26P_self (l : List Pr) (A B : Option Addr) (c d b1 b2 : Nat) (w : World) (hA : w.ownsRow b1 45 3 (.slice A l.length c) l.length (cellsP l)) (hB : w.ownsRow b2 45 3 (.slice B l.length d) l.length (cellsP l)) (hn : l.length ≤ 1000000) :
  Calls Tryz.prog 13 #[.slice A l.length c, .slice B l.length d] w fun r w' => r = .returned (.bool true) ∧ Below w.heap.size w w' := by
 have HA := hd_ hA
 have HB := hd_ hB
 clear hA hB
 go_enter Tryz.func13, Tryz.ntmps13
 go_wp2_with fail
 go_loopw [5] (fun i wr => ∃ k : Nat, k ≤ l.length ∧ i = .int .i64 k ∧ Hid (Below w.heap.size w wr)) (fun i _ => l.length - (intOf i).toNat)
 case atStart => exact ⟨0, by omega, rfl, Below.refl _ _⟩
 case round =>
  obtain ⟨k, hk, rfl, HBW⟩ := hrel
  by_cases hlt : k < l.length
  · obtain ⟨p, hp⟩ : ∃ p, l[k]? = some p := ⟨_, List.getElem?_eq_getElem hlt⟩
    obtain ⟨q0, q1, q2⟩ := cellsP_get hp
    have ha := own_below HA.out HBW.out
    have hb := own_below HB.out HBW.out
    obtain ⟨ga, ca, hfa, _⟩ := ha.form (by omega)
    simp only [Value.slice.injEq] at hfa
    obtain ⟨rfl, -, rfl⟩ := hfa
    obtain ⟨gb, cb, hfb, _⟩ := hb.form (by omega)
    simp only [Value.slice.injEq] at hfb
    obtain ⟨rfl, -, rfl⟩ := hfb
    have x0 : wr.cell? ⟨ga, k * 3, none⟩ = some (.string p.k) := (ha.cellAt (k * 3) (by omega)).trans q0
    have x1 : wr.cell? ⟨ga, k * 3 + 1, none⟩ = some (.string p.v) := (ha.cellAt (k * 3 + 1) (by omega)).trans q1
    have x2 : wr.cell? ⟨ga, k * 3 + 2, none⟩ = some (.bool p.g) := (ha.cellAt (k * 3 + 2) (by omega)).trans q2
    have y0 : wr.cell? ⟨gb, k * 3, none⟩ = some (.string p.k) := (hb.cellAt (k * 3) (by omega)).trans q0
    have y1 : wr.cell? ⟨gb, k * 3 + 1, none⟩ = some (.string p.v) := (hb.cellAt (k * 3 + 1) (by omega)).trans q1
    have y2 : wr.cell? ⟨gb, k * 3 + 2, none⟩ = some (.bool p.g) := (hb.cellAt (k * 3 + 2) (by omega)).trans q2
    have lga : ga < wr.heap.size := (ha.lt ga rfl).2
    have lgb : gb < wr.heap.size := (hb.lt gb rfl).2
    have hq := neqP_self p
    have hkI : (k : Int) < l.length := by omega
    clear ha hb hp q0 q1 q2
    go_upto_region 6 with fail
    go_quiet (fail)
    go_wp2_with fail
    go_roundw
    case rel => exact ⟨k + 1, by omega, by go_num, below_drewN HBW.out _⟩
    case measure => simp [intOf]; omega
  · obtain rfl : k = l.length := by omega
    go_wp2_with fail
    go_ret
    exact ⟨rfl, HBW.out⟩
end Go.Proofs.YtceoficoappkpaaGreatDoor
