/- Texts joined by a tool: contracts and walks of this claim. -/
import Derived.Test.YtceoficoappkpaaGreatDoorB26
import Derived.Test.YtceoficoappkpaaGreatDoorP3
namespace Go.Proofs.YtceoficoappkpaaGreatDoor
open Go.RowKit Go.Shelf
attribute [local go_sem] Oper.semAt_some

set_option maxRecDepth 100000 in
theorem eqlV26' (k n r : Int) (t : ByteArray) (k' n' r' : Int) (t' : ByteArray) (w : World) : (binOp .eql 47 (.agg #[.int .u8 k, .int .i64 n, .int .u64 r, .string t]) (.agg #[.int .u8 k', .int .i64 n', .int .u64 r', .string t'])).run Tryz.prog w = .ok (.bool (decide ((⟨k, n, r, t⟩ : V) = ⟨k', n', r', t'⟩))) w := by
 by_cases h : (⟨k, n, r, t⟩ : V) = ⟨k', n', r', t'⟩
 · rw [decide_eq_true h]
   injection h with h1 h2 h3 h4
   subst h1; subst h2; subst h3; subst h4
   go_simp
 · rw [decide_eq_false h]
   go_simp
   rintro rfl rfl rfl ht
   exact h (by rw [toList_inj ht])
def mustB (ts : List Ta) (tb : Int) (must : Bool) (l : List V) : Bool := if must then rowS ts tb l else decide (l.length = 0)
def keyEq (ts : List Ta) (tb : Int) (l0 l1 : List V) : Bool := match ts[tb.toNat]? with
 | some t => decide (l0[t.key.toNat]? = l1[t.key.toNat]?)
 | none => false
def chFit (ts : List Ta) (kd tb : Int) (l0 l1 : List V) : Bool := (decide (1 ≤ kd) && decide (kd ≤ 4)) && (mustB ts tb (decide (kd = 2) || decide (kd = 3)) l0 && (mustB ts tb (!decide (kd = 3)) l1 && (!decide (kd = 2) || keyEq ts tb l0 l1)))
theorem row_tab {ts : List Ta} {tb : Int} {l : List V} (h : true = mustB ts tb true l) : ∃ (j : Nat) (ta : Ta), tb = j ∧ ts[j]? = some ta ∧ (0 ≤ ta.key ∧ ta.key < ta.cs.length) ∧ ta.cs.length = l.length := by
 have h : rowS ts tb l = true := h.symm
 have hh : hasS ts tb = true := by unfold rowS at h; exact (Bool.and_eq_true_iff.1 h).1
 obtain ⟨j, t, rfl, hj, htj, hcb, _⟩ := has_at hh
 rw [rowS_at hh htj] at h
 unfold rowF at h
 exact ⟨j, t, rfl, htj, (cols_parts hcb).2.2.2.1, of_decide_eq_true (Bool.and_eq_true_iff.1 h).1⟩
set_option maxRecDepth 100000 in
theorem fits1_any (ts : List Ta) (A C : Option Addr) (c d : Nat) (tb : Int) (l : List V) (b2 b3 : Nat) (kd : Int) (A0 A1 : Option Addr) (n0 c0 n1 c1 : Nat) (must : Bool) (w : World) (ht : TRow w A c ts) (hr : VRow w C l) (hT : Tabs w)
  (h2 : Blk w b2 #[.slice A ts.length c] 24) (h3 : Blk w b3 #[.int .u8 kd, .int .i64 tb, .slice A0 n0 c0, .slice A1 n1 c1] 27) :
  Calls Tryz.prog 72 #[.slice C l.length d, .bool must, .pointer (some ⟨b2, 0, none⟩), .pointer (some ⟨b3, 0, none⟩)] w fun r w' => r = .returned (.bool (mustB ts tb must l)) ∧ Below w.heap.size w w' := by
 have HS := hd_ (schrow_any ts A C c d tb l w ht hr hT)
 obtain ⟨l2, s0⟩ : b2 < w.heap.size ∧ w.cell? ⟨b2, 0, none⟩ = some (.slice A ts.length c) := ⟨h2.lt, h2.cell 0⟩
 obtain ⟨l3, k0, k1, k2, k3, _⟩ := blk4f h3
 clear ht hr hT h2 h3
 cases must with
 | true =>
  show Calls _ _ _ _ fun r w' => r = .returned (.bool (rowS ts tb l)) ∧ _
  cases hR : rowS ts tb l
  all_goals
   rw [hR] at HS
   unfold okE at HS
   simp only [if_true, Bool.false_eq_true, if_false] at HS
   clear hR
   go_enter Tryz.func72, Tryz.ntmps72
   go_wp2_with fail
   refine HS.out.mono ?_
   rintro r w1 ⟨rfl, hb⟩
   go_wp2_with fail
   go_ret
   exact ⟨rfl, hb⟩
 | false =>
  show Calls _ _ _ _ fun r w' => r = .returned (.bool (decide (l.length = 0))) ∧ _
  by_cases hz : l.length = 0
  · rw [decide_eq_true hz, hz]
    go_enter Tryz.func72, Tryz.ntmps72
    go_wp2_with fail
    go_ret
    exact ⟨rfl, Below.refl _ _⟩
  · rw [decide_eq_false hz]
    have hz' : ((l.length : Int) == 0) = false := beq_eq_false_iff_ne.2 (by omega)
    go_enter Tryz.func72, Tryz.ntmps72
    go_wp2_with fail
    go_ret
    exact ⟨rfl, Below.refl _ _⟩
set_option maxRecDepth 100000 in
set_option maxHeartbeats 1600000 in
theorem fits_out (ts : List Ta) (A A0 A1 : Option Addr) (c d0 d1 : Nat) (kd tb : Int) (l0 l1 : List V) (w : World) (hkd : kd < 1 ∨ 4 < kd) :
  Calls Tryz.prog 39 #[.agg #[.slice A ts.length c], .agg #[.int .u8 kd, .int .i64 tb, .slice A0 l0.length d0, .slice A1 l1.length d1]] w fun r w' => r = .returned (.bool false) ∧ Below w.heap.size w w' := by
 have h2 : (kd == 2) = false := beq_eq_false_iff_ne.2 (by omega)
 have h3 : (kd == 3) = false := beq_eq_false_iff_ne.2 (by omega)
 by_cases h1 : kd < 1
 all_goals
  have h4 : kd < 1 ∨ ¬ kd < 1 ∧ 4 < kd := by omega
  go_enter Tryz.func39, Tryz.ntmps39
  go_upto_region 1 with fail
  have b2 : Blk ((w.alloc (.cells #[.slice A ts.length c] 24)).alloc (.cells #[.int .u8 kd, .int .i64 tb, .slice A0 l0.length d0, .slice A1 l1.length d1] 27)) w.heap.size #[.slice A ts.length c] 24 := (by repeat (first | exact Blk.at (by simp) | assumption | refine Blk.drew ?_ | refine Blk.old ?_ _))
  have b3 : Blk ((w.alloc (.cells #[.slice A ts.length c] 24)).alloc (.cells #[.int .u8 kd, .int .i64 tb, .slice A0 l0.length d0, .slice A1 l1.length d1] 27)) (w.heap.size + 1) #[.int .u8 kd, .int .i64 tb, .slice A0 l0.length d0, .slice A1 l1.length d1] 27 := (by repeat (first | exact Blk.at (by simp) | assumption | refine Blk.drew ?_ | refine Blk.old ?_ _))
  have hb : Below w.heap.size w ((w.alloc (.cells #[.slice A ts.length c] 24)).alloc (.cells #[.int .u8 kd, .int .i64 tb, .slice A0 l0.length d0, .slice A1 l1.length d1] 27)) := (by repeat (first | exact Below.refl _ _ | assumption | refine Below.drew ?_ | refine below_drewN ?_ _ | refine Below.alloc ?_ (by simp <;> omega) _))
  generalize ((w.alloc (.cells #[.slice A ts.length c] 24)).alloc (.cells #[.int .u8 kd, .int .i64 tb, .slice A0 l0.length d0, .slice A1 l1.length d1] 27)) = W at b2 b3 hb ⊢
  obtain ⟨q2, hq2⟩ : ∃ b, b = w.heap.size := ⟨_, rfl⟩
  obtain ⟨q3, hq3⟩ : ∃ b, b = w.heap.size + 1 := ⟨_, rfl⟩
  rw [← hq3] at b3 ⊢
  rw [← hq2] at b2 ⊢
  clear hq2 hq3
  have HB2 := hd_ b2
  have HB3 := hd_ b3
  have HB := hd_ hb
  obtain ⟨l3, k0, k1, k2, k3, kf⟩ := blk4f b3
  clear b2 b3 hb
  go_quiet (fail)
  clear hkd
  first
   | (have h5 : kd < 1 := by assumption
      go_wp2_with fail
      go_ret
      exact ⟨rfl, bt HB.out ((by repeat (first | exact Below.refl _ _ | assumption | refine Below.drew ?_ | refine below_drewN ?_ _ | refine Below.alloc ?_ (by simp <;> omega) _)))⟩)
   | (have h5 : ¬ kd < 1 ∧ 4 < kd := by omega
      obtain ⟨h5, h6⟩ := h5
      go_wp2_with fail
      go_ret
      exact ⟨rfl, bt HB.out ((by repeat (first | exact Below.refl _ _ | assumption | refine Below.drew ?_ | refine below_drewN ?_ _ | refine Below.alloc ?_ (by simp <;> omega) _)))⟩)
set_option maxRecDepth 100000 in
set_option maxHeartbeats 1600000 in
theorem fits_ins (ts : List Ta) (A A0 A1 : Option Addr) (c d0 d1 : Nat) (kd tb : Int) (l0 l1 : List V) (w : World) (ht : TRow w A c ts) (h0 : VRow w A0 l0) (h1 : VRow w A1 l1) (hT : Tabs w) (hkd : kd = 1 ∨ kd = 4) :
  Calls Tryz.prog 39 #[.agg #[.slice A ts.length c], .agg #[.int .u8 kd, .int .i64 tb, .slice A0 l0.length d0, .slice A1 l1.length d1]] w fun r w' => r = .returned (.bool (mustB ts tb false l0 && mustB ts tb true l1)) ∧ Below w.heap.size w w' := by
 have HT := hd_ (fun (W : World) (hW : Below w.heap.size w W) => And.intro (ht.ext hW) (And.intro (h0.ext hW) (And.intro (h1.ext hW) (hT.ext hW))))
 have hts := ht.2.1
 clear ht h0 h1 hT
 rcases hkd with rfl | rfl
 · go_enter Tryz.func39, Tryz.ntmps39
   go_upto_region 1 with fail
   have b2 : Blk ((w.alloc (.cells #[.slice A ts.length c] 24)).alloc (.cells #[.int .u8 1, .int .i64 tb, .slice A0 l0.length d0, .slice A1 l1.length d1] 27)) w.heap.size #[.slice A ts.length c] 24 := (by repeat (first | exact Blk.at (by simp) | assumption | refine Blk.drew ?_ | refine Blk.old ?_ _))
   have b3 : Blk ((w.alloc (.cells #[.slice A ts.length c] 24)).alloc (.cells #[.int .u8 1, .int .i64 tb, .slice A0 l0.length d0, .slice A1 l1.length d1] 27)) (w.heap.size + 1) #[.int .u8 1, .int .i64 tb, .slice A0 l0.length d0, .slice A1 l1.length d1] 27 := (by repeat (first | exact Blk.at (by simp) | assumption | refine Blk.drew ?_ | refine Blk.old ?_ _))
   have hb : Below w.heap.size w ((w.alloc (.cells #[.slice A ts.length c] 24)).alloc (.cells #[.int .u8 1, .int .i64 tb, .slice A0 l0.length d0, .slice A1 l1.length d1] 27)) := (by repeat (first | exact Below.refl _ _ | assumption | refine Below.drew ?_ | refine below_drewN ?_ _ | refine Below.alloc ?_ (by simp <;> omega) _))
   generalize ((w.alloc (.cells #[.slice A ts.length c] 24)).alloc (.cells #[.int .u8 1, .int .i64 tb, .slice A0 l0.length d0, .slice A1 l1.length d1] 27)) = W at b2 b3 hb ⊢
   obtain ⟨q2, hq2⟩ : ∃ b, b = w.heap.size := ⟨_, rfl⟩
   obtain ⟨q3, hq3⟩ : ∃ b, b = w.heap.size + 1 := ⟨_, rfl⟩
   rw [← hq3] at b3 ⊢
   rw [← hq2] at b2 ⊢
   clear hq2 hq3
   have HB2 := hd_ b2
   have HB3 := hd_ b3
   have HB := hd_ hb
   obtain ⟨l3, k0, k1, k2, k3, kf⟩ := blk4f b3
   clear b2 b3 hb
   go_quiet (fail)
   have HF0 := hd_ (fun (X : World) (hX : Below W.heap.size W X) => fits1_any ts A A0 c d0 tb l0 q2 q3 1 A0 A1 l0.length d0 l1.length d1 false X (HT.out X (bt HB.out hX)).1 (HT.out X (bt HB.out hX)).2.1 (HT.out X (bt HB.out hX)).2.2.2 (HB2.out.ext hX) (HB3.out.ext hX))
   have HF1 := hd_ (fun (X : World) (hX : Below W.heap.size W X) => fits1_any ts A A1 c d1 tb l1 q2 q3 1 A0 A1 l0.length d0 l1.length d1 true X (HT.out X (bt HB.out hX)).1 (HT.out X (bt HB.out hX)).2.2.1 (HT.out X (bt HB.out hX)).2.2.2 (HB2.out.ext hX) (HB3.out.ext hX))
   have HM : Hid (∃ R0 R1, R0 = mustB ts tb false l0 ∧ R1 = mustB ts tb true l1) := ⟨_, _, rfl, rfl⟩
   obtain ⟨R0, R1, hR0, hR1⟩ := HM.out
   rw [← hR0] at HF0
   rw [← hR1] at HF1
   have HR := hd_ (And.intro hR0 hR1)
   clear hR0 hR1 HM
   go_wp2_with fail
   refine (HF0.out _ (by repeat (first | exact Below.refl _ _ | assumption | refine Below.drew ?_ | refine below_drewN ?_ _ | refine Below.alloc ?_ (by simp <;> omega) _))).mono ?_
   rintro r w1 ⟨rfl, hb1⟩
   have hX1 : Below W.heap.size W w1 := bt ((by repeat (first | exact Below.refl _ _ | assumption | refine Below.drew ?_ | refine below_drewN ?_ _ | refine Below.alloc ?_ (by simp <;> omega) _))) hb1
   clear l3 k0 k1 k2 k3 kf hb1
   obtain ⟨l3, k0, k1, k2, k3, kf⟩ := blk4f (HB3.out.ext hX1)
   have HX1 := hd_ hX1
   clear hX1
   cases R0 with
   | false =>
    go_wp2_with fail
    go_ret
    exact ⟨by rw [← HR.out.1]; simp, bt HB.out HX1.out⟩
   | true =>
    go_wp2_with fail
    refine (HF1.out _ HX1.out).mono ?_
    rintro r w2 ⟨rfl, hb2⟩
    have HX2 : Hid (Below W.heap.size W w2) := bt HX1.out hb2
    clear l3 k0 k1 k2 k3 kf hb2
    obtain ⟨l3, k0, k1, k2, k3, kf⟩ := blk4f (HB3.out.ext HX2.out)
    cases R1 with
    | false =>
     go_wp2_with fail
     go_ret
     exact ⟨by rw [← HR.out.2]; simp, bt HB.out HX2.out⟩
    | true =>
     obtain ⟨j, ta, rfl, hj, hke, hln⟩ := row_tab (HR.out.2)
     have hjl : j < ts.length := (List.getElem?_eq_some_iff.1 hj).1
     have hjI : (j : Int) < ts.length := by omega
     obtain ⟨l2, e2⟩ : q2 < w2.heap.size ∧ w2.cell? ⟨q2, 0, none⟩ = some (.slice A ts.length c) := ⟨(HB2.out.ext HX2.out).lt, (HB2.out.ext HX2.out).cell 0⟩
     have hall := HT.out w2 (bt HB.out HX2.out)
     obtain ⟨tb1, off1, rfl, hlt, hcs⟩ := hall.1.2.2.2 (by intro e; rw [e] at hjl; simp at hjl)
     obtain ⟨t0, t1, t2, t3, t4⟩ := hcs j ta hj
     clear hall hcs
     go_upto_region 6 with fail
     go_quiet (fail)
     go_wp2_with fail
     go_ret
     exact ⟨by rw [← HR.out.1, ← HR.out.2]; rfl, bt (bt HB.out HX2.out) ((by repeat (first | exact Below.refl _ _ | assumption | refine Below.drew ?_ | refine below_drewN ?_ _ | refine Below.alloc ?_ (by simp <;> omega) _)))⟩
 · go_enter Tryz.func39, Tryz.ntmps39
   go_upto_region 1 with fail
   have b2 : Blk ((w.alloc (.cells #[.slice A ts.length c] 24)).alloc (.cells #[.int .u8 4, .int .i64 tb, .slice A0 l0.length d0, .slice A1 l1.length d1] 27)) w.heap.size #[.slice A ts.length c] 24 := (by repeat (first | exact Blk.at (by simp) | assumption | refine Blk.drew ?_ | refine Blk.old ?_ _))
   have b3 : Blk ((w.alloc (.cells #[.slice A ts.length c] 24)).alloc (.cells #[.int .u8 4, .int .i64 tb, .slice A0 l0.length d0, .slice A1 l1.length d1] 27)) (w.heap.size + 1) #[.int .u8 4, .int .i64 tb, .slice A0 l0.length d0, .slice A1 l1.length d1] 27 := (by repeat (first | exact Blk.at (by simp) | assumption | refine Blk.drew ?_ | refine Blk.old ?_ _))
   have hb : Below w.heap.size w ((w.alloc (.cells #[.slice A ts.length c] 24)).alloc (.cells #[.int .u8 4, .int .i64 tb, .slice A0 l0.length d0, .slice A1 l1.length d1] 27)) := (by repeat (first | exact Below.refl _ _ | assumption | refine Below.drew ?_ | refine below_drewN ?_ _ | refine Below.alloc ?_ (by simp <;> omega) _))
   generalize ((w.alloc (.cells #[.slice A ts.length c] 24)).alloc (.cells #[.int .u8 4, .int .i64 tb, .slice A0 l0.length d0, .slice A1 l1.length d1] 27)) = W at b2 b3 hb ⊢
   obtain ⟨q2, hq2⟩ : ∃ b, b = w.heap.size := ⟨_, rfl⟩
   obtain ⟨q3, hq3⟩ : ∃ b, b = w.heap.size + 1 := ⟨_, rfl⟩
   rw [← hq3] at b3 ⊢
   rw [← hq2] at b2 ⊢
   clear hq2 hq3
   have HB2 := hd_ b2
   have HB3 := hd_ b3
   have HB := hd_ hb
   obtain ⟨l3, k0, k1, k2, k3, kf⟩ := blk4f b3
   clear b2 b3 hb
   go_quiet (fail)
   have HF0 := hd_ (fun (X : World) (hX : Below W.heap.size W X) => fits1_any ts A A0 c d0 tb l0 q2 q3 4 A0 A1 l0.length d0 l1.length d1 false X (HT.out X (bt HB.out hX)).1 (HT.out X (bt HB.out hX)).2.1 (HT.out X (bt HB.out hX)).2.2.2 (HB2.out.ext hX) (HB3.out.ext hX))
   have HF1 := hd_ (fun (X : World) (hX : Below W.heap.size W X) => fits1_any ts A A1 c d1 tb l1 q2 q3 4 A0 A1 l0.length d0 l1.length d1 true X (HT.out X (bt HB.out hX)).1 (HT.out X (bt HB.out hX)).2.2.1 (HT.out X (bt HB.out hX)).2.2.2 (HB2.out.ext hX) (HB3.out.ext hX))
   have HM : Hid (∃ R0 R1, R0 = mustB ts tb false l0 ∧ R1 = mustB ts tb true l1) := ⟨_, _, rfl, rfl⟩
   obtain ⟨R0, R1, hR0, hR1⟩ := HM.out
   rw [← hR0] at HF0
   rw [← hR1] at HF1
   have HR := hd_ (And.intro hR0 hR1)
   clear hR0 hR1 HM
   go_wp2_with fail
   refine (HF0.out _ (by repeat (first | exact Below.refl _ _ | assumption | refine Below.drew ?_ | refine below_drewN ?_ _ | refine Below.alloc ?_ (by simp <;> omega) _))).mono ?_
   rintro r w1 ⟨rfl, hb1⟩
   have hX1 : Below W.heap.size W w1 := bt ((by repeat (first | exact Below.refl _ _ | assumption | refine Below.drew ?_ | refine below_drewN ?_ _ | refine Below.alloc ?_ (by simp <;> omega) _))) hb1
   clear l3 k0 k1 k2 k3 kf hb1
   obtain ⟨l3, k0, k1, k2, k3, kf⟩ := blk4f (HB3.out.ext hX1)
   have HX1 := hd_ hX1
   clear hX1
   cases R0 with
   | false =>
    go_wp2_with fail
    go_ret
    exact ⟨by rw [← HR.out.1]; simp, bt HB.out HX1.out⟩
   | true =>
    go_wp2_with fail
    refine (HF1.out _ HX1.out).mono ?_
    rintro r w2 ⟨rfl, hb2⟩
    have HX2 : Hid (Below W.heap.size W w2) := bt HX1.out hb2
    clear l3 k0 k1 k2 k3 kf hb2
    obtain ⟨l3, k0, k1, k2, k3, kf⟩ := blk4f (HB3.out.ext HX2.out)
    cases R1 with
    | false =>
     go_wp2_with fail
     go_ret
     exact ⟨by rw [← HR.out.2]; simp, bt HB.out HX2.out⟩
    | true =>
     obtain ⟨j, ta, rfl, hj, hke, hln⟩ := row_tab (HR.out.2)
     have hjl : j < ts.length := (List.getElem?_eq_some_iff.1 hj).1
     have hjI : (j : Int) < ts.length := by omega
     obtain ⟨l2, e2⟩ : q2 < w2.heap.size ∧ w2.cell? ⟨q2, 0, none⟩ = some (.slice A ts.length c) := ⟨(HB2.out.ext HX2.out).lt, (HB2.out.ext HX2.out).cell 0⟩
     have hall := HT.out w2 (bt HB.out HX2.out)
     obtain ⟨tb1, off1, rfl, hlt, hcs⟩ := hall.1.2.2.2 (by intro e; rw [e] at hjl; simp at hjl)
     obtain ⟨t0, t1, t2, t3, t4⟩ := hcs j ta hj
     clear hall hcs
     go_upto_region 6 with fail
     go_quiet (fail)
     go_wp2_with fail
     go_ret
     exact ⟨by rw [← HR.out.1, ← HR.out.2]; rfl, bt (bt HB.out HX2.out) ((by repeat (first | exact Below.refl _ _ | assumption | refine Below.drew ?_ | refine below_drewN ?_ _ | refine Below.alloc ?_ (by simp <;> omega) _)))⟩
set_option maxRecDepth 100000 in
set_option maxHeartbeats 1600000 in
theorem fits_del (ts : List Ta) (A A0 A1 : Option Addr) (c d0 d1 : Nat) (tb : Int) (l0 l1 : List V) (w : World) (ht : TRow w A c ts) (h0 : VRow w A0 l0) (h1 : VRow w A1 l1) (hT : Tabs w) :
  Calls Tryz.prog 39 #[.agg #[.slice A ts.length c], .agg #[.int .u8 3, .int .i64 tb, .slice A0 l0.length d0, .slice A1 l1.length d1]] w fun r w' => r = .returned (.bool (mustB ts tb true l0 && mustB ts tb false l1)) ∧ Below w.heap.size w w' := by
 have HT := hd_ (fun (W : World) (hW : Below w.heap.size w W) => And.intro (ht.ext hW) (And.intro (h0.ext hW) (And.intro (h1.ext hW) (hT.ext hW))))
 have hts := ht.2.1
 clear ht h0 h1 hT
 go_enter Tryz.func39, Tryz.ntmps39
 go_upto_region 1 with fail
 have b2 : Blk ((w.alloc (.cells #[.slice A ts.length c] 24)).alloc (.cells #[.int .u8 3, .int .i64 tb, .slice A0 l0.length d0, .slice A1 l1.length d1] 27)) w.heap.size #[.slice A ts.length c] 24 := (by repeat (first | exact Blk.at (by simp) | assumption | refine Blk.drew ?_ | refine Blk.old ?_ _))
 have b3 : Blk ((w.alloc (.cells #[.slice A ts.length c] 24)).alloc (.cells #[.int .u8 3, .int .i64 tb, .slice A0 l0.length d0, .slice A1 l1.length d1] 27)) (w.heap.size + 1) #[.int .u8 3, .int .i64 tb, .slice A0 l0.length d0, .slice A1 l1.length d1] 27 := (by repeat (first | exact Blk.at (by simp) | assumption | refine Blk.drew ?_ | refine Blk.old ?_ _))
 have hb : Below w.heap.size w ((w.alloc (.cells #[.slice A ts.length c] 24)).alloc (.cells #[.int .u8 3, .int .i64 tb, .slice A0 l0.length d0, .slice A1 l1.length d1] 27)) := (by repeat (first | exact Below.refl _ _ | assumption | refine Below.drew ?_ | refine below_drewN ?_ _ | refine Below.alloc ?_ (by simp <;> omega) _))
 generalize ((w.alloc (.cells #[.slice A ts.length c] 24)).alloc (.cells #[.int .u8 3, .int .i64 tb, .slice A0 l0.length d0, .slice A1 l1.length d1] 27)) = W at b2 b3 hb ⊢
 obtain ⟨q2, hq2⟩ : ∃ b, b = w.heap.size := ⟨_, rfl⟩
 obtain ⟨q3, hq3⟩ : ∃ b, b = w.heap.size + 1 := ⟨_, rfl⟩
 rw [← hq3] at b3 ⊢
 rw [← hq2] at b2 ⊢
 clear hq2 hq3
 have HB2 := hd_ b2
 have HB3 := hd_ b3
 have HB := hd_ hb
 obtain ⟨l3, k0, k1, k2, k3, kf⟩ := blk4f b3
 clear b2 b3 hb
 go_quiet (fail)
 have HF0 := hd_ (fun (X : World) (hX : Below W.heap.size W X) => fits1_any ts A A0 c d0 tb l0 q2 q3 3 A0 A1 l0.length d0 l1.length d1 true X (HT.out X (bt HB.out hX)).1 (HT.out X (bt HB.out hX)).2.1 (HT.out X (bt HB.out hX)).2.2.2 (HB2.out.ext hX) (HB3.out.ext hX))
 have HF1 := hd_ (fun (X : World) (hX : Below W.heap.size W X) => fits1_any ts A A1 c d1 tb l1 q2 q3 3 A0 A1 l0.length d0 l1.length d1 false X (HT.out X (bt HB.out hX)).1 (HT.out X (bt HB.out hX)).2.2.1 (HT.out X (bt HB.out hX)).2.2.2 (HB2.out.ext hX) (HB3.out.ext hX))
 have HM : Hid (∃ R0 R1, R0 = mustB ts tb true l0 ∧ R1 = mustB ts tb false l1) := ⟨_, _, rfl, rfl⟩
 obtain ⟨R0, R1, hR0, hR1⟩ := HM.out
 rw [← hR0] at HF0
 rw [← hR1] at HF1
 have HR := hd_ (And.intro hR0 hR1)
 clear hR0 hR1 HM
 go_wp2_with fail
 refine (HF0.out _ (by repeat (first | exact Below.refl _ _ | assumption | refine Below.drew ?_ | refine below_drewN ?_ _ | refine Below.alloc ?_ (by simp <;> omega) _))).mono ?_
 rintro r w1 ⟨rfl, hb1⟩
 have hX1 : Below W.heap.size W w1 := bt ((by repeat (first | exact Below.refl _ _ | assumption | refine Below.drew ?_ | refine below_drewN ?_ _ | refine Below.alloc ?_ (by simp <;> omega) _))) hb1
 clear l3 k0 k1 k2 k3 kf hb1
 obtain ⟨l3, k0, k1, k2, k3, kf⟩ := blk4f (HB3.out.ext hX1)
 have HX1 := hd_ hX1
 clear hX1
 cases R0 with
 | false =>
  go_wp2_with fail
  go_ret
  exact ⟨by rw [← HR.out.1]; simp, bt HB.out HX1.out⟩
 | true =>
  go_wp2_with fail
  refine (HF1.out _ HX1.out).mono ?_
  rintro r w2 ⟨rfl, hb2⟩
  have HX2 : Hid (Below W.heap.size W w2) := bt HX1.out hb2
  clear l3 k0 k1 k2 k3 kf hb2
  obtain ⟨l3, k0, k1, k2, k3, kf⟩ := blk4f (HB3.out.ext HX2.out)
  cases R1 with
  | false =>
   go_wp2_with fail
   go_ret
   exact ⟨by rw [← HR.out.2]; simp, bt HB.out HX2.out⟩
  | true =>
   obtain ⟨j, ta, rfl, hj, hke, hln⟩ := row_tab (HR.out.1)
   have hjl : j < ts.length := (List.getElem?_eq_some_iff.1 hj).1
   have hjI : (j : Int) < ts.length := by omega
   obtain ⟨l2, e2⟩ : q2 < w2.heap.size ∧ w2.cell? ⟨q2, 0, none⟩ = some (.slice A ts.length c) := ⟨(HB2.out.ext HX2.out).lt, (HB2.out.ext HX2.out).cell 0⟩
   have hall := HT.out w2 (bt HB.out HX2.out)
   obtain ⟨tb1, off1, rfl, hlt, hcs⟩ := hall.1.2.2.2 (by intro e; rw [e] at hjl; simp at hjl)
   obtain ⟨t0, t1, t2, t3, t4⟩ := hcs j ta hj
   clear hall hcs
   go_upto_region 6 with fail
   go_quiet (fail)
   go_wp2_with fail
   go_ret
   exact ⟨by rw [← HR.out.1, ← HR.out.2]; rfl, bt (bt HB.out HX2.out) ((by repeat (first | exact Below.refl _ _ | assumption | refine Below.drew ?_ | refine below_drewN ?_ _ | refine Below.alloc ?_ (by simp <;> omega) _)))⟩
set_option maxRecDepth 100000 in
set_option maxHeartbeats 1600000 in
theorem fits_up (ts : List Ta) (A A0 A1 : Option Addr) (c d0 d1 : Nat) (tb : Int) (l0 l1 : List V) (w : World) (ht : TRow w A c ts) (h0 : VRow w A0 l0) (h1 : VRow w A1 l1) (hT : Tabs w) :
  Calls Tryz.prog 39 #[.agg #[.slice A ts.length c], .agg #[.int .u8 2, .int .i64 tb, .slice A0 l0.length d0, .slice A1 l1.length d1]] w fun r w' => r = .returned (.bool (mustB ts tb true l0 && (mustB ts tb true l1 && keyEq ts tb l0 l1))) ∧ Below w.heap.size w w' := by
 have HT := hd_ (fun (W : World) (hW : Below w.heap.size w W) => And.intro (ht.ext hW) (And.intro (h0.ext hW) (And.intro (h1.ext hW) (hT.ext hW))))
 have hts := ht.2.1
 have hn0 := h0.2.1
 have hn1 := h1.2.1
 clear ht h0 h1 hT
 go_enter Tryz.func39, Tryz.ntmps39
 go_upto_region 1 with fail
 have b2 : Blk ((w.alloc (.cells #[.slice A ts.length c] 24)).alloc (.cells #[.int .u8 2, .int .i64 tb, .slice A0 l0.length d0, .slice A1 l1.length d1] 27)) w.heap.size #[.slice A ts.length c] 24 := (by repeat (first | exact Blk.at (by simp) | assumption | refine Blk.drew ?_ | refine Blk.old ?_ _))
 have b3 : Blk ((w.alloc (.cells #[.slice A ts.length c] 24)).alloc (.cells #[.int .u8 2, .int .i64 tb, .slice A0 l0.length d0, .slice A1 l1.length d1] 27)) (w.heap.size + 1) #[.int .u8 2, .int .i64 tb, .slice A0 l0.length d0, .slice A1 l1.length d1] 27 := (by repeat (first | exact Blk.at (by simp) | assumption | refine Blk.drew ?_ | refine Blk.old ?_ _))
 have hb : Below w.heap.size w ((w.alloc (.cells #[.slice A ts.length c] 24)).alloc (.cells #[.int .u8 2, .int .i64 tb, .slice A0 l0.length d0, .slice A1 l1.length d1] 27)) := (by repeat (first | exact Below.refl _ _ | assumption | refine Below.drew ?_ | refine below_drewN ?_ _ | refine Below.alloc ?_ (by simp <;> omega) _))
 generalize ((w.alloc (.cells #[.slice A ts.length c] 24)).alloc (.cells #[.int .u8 2, .int .i64 tb, .slice A0 l0.length d0, .slice A1 l1.length d1] 27)) = W at b2 b3 hb ⊢
 obtain ⟨q2, hq2⟩ : ∃ b, b = w.heap.size := ⟨_, rfl⟩
 obtain ⟨q3, hq3⟩ : ∃ b, b = w.heap.size + 1 := ⟨_, rfl⟩
 rw [← hq3] at b3 ⊢
 rw [← hq2] at b2 ⊢
 clear hq2 hq3
 have HB2 := hd_ b2
 have HB3 := hd_ b3
 have HB := hd_ hb
 obtain ⟨l3, k0, k1, k2, k3, kf⟩ := blk4f b3
 clear b2 b3 hb
 go_quiet (fail)
 have HF0 := hd_ (fun (X : World) (hX : Below W.heap.size W X) => fits1_any ts A A0 c d0 tb l0 q2 q3 2 A0 A1 l0.length d0 l1.length d1 true X (HT.out X (bt HB.out hX)).1 (HT.out X (bt HB.out hX)).2.1 (HT.out X (bt HB.out hX)).2.2.2 (HB2.out.ext hX) (HB3.out.ext hX))
 have HF1 := hd_ (fun (X : World) (hX : Below W.heap.size W X) => fits1_any ts A A1 c d1 tb l1 q2 q3 2 A0 A1 l0.length d0 l1.length d1 true X (HT.out X (bt HB.out hX)).1 (HT.out X (bt HB.out hX)).2.2.1 (HT.out X (bt HB.out hX)).2.2.2 (HB2.out.ext hX) (HB3.out.ext hX))
 have HM : Hid (∃ R0 R1, R0 = mustB ts tb true l0 ∧ R1 = mustB ts tb true l1) := ⟨_, _, rfl, rfl⟩
 obtain ⟨R0, R1, hR0, hR1⟩ := HM.out
 rw [← hR0] at HF0
 rw [← hR1] at HF1
 have HR := hd_ (And.intro hR0 hR1)
 clear hR0 hR1 HM
 go_wp2_with fail
 refine (HF0.out _ (by repeat (first | exact Below.refl _ _ | assumption | refine Below.drew ?_ | refine below_drewN ?_ _ | refine Below.alloc ?_ (by simp <;> omega) _))).mono ?_
 rintro r w1 ⟨rfl, hb1⟩
 have hX1 : Below W.heap.size W w1 := bt ((by repeat (first | exact Below.refl _ _ | assumption | refine Below.drew ?_ | refine below_drewN ?_ _ | refine Below.alloc ?_ (by simp <;> omega) _))) hb1
 clear l3 k0 k1 k2 k3 kf hb1
 obtain ⟨l3, k0, k1, k2, k3, kf⟩ := blk4f (HB3.out.ext hX1)
 have HX1 := hd_ hX1
 clear hX1
 cases R0 with
 | false =>
  go_wp2_with fail
  go_ret
  exact ⟨by rw [← HR.out.1]; simp, bt HB.out HX1.out⟩
 | true =>
  go_wp2_with fail
  refine (HF1.out _ HX1.out).mono ?_
  rintro r w2 ⟨rfl, hb2⟩
  have HX2 : Hid (Below W.heap.size W w2) := bt HX1.out hb2
  clear l3 k0 k1 k2 k3 kf hb2
  obtain ⟨l3, k0, k1, k2, k3, kf⟩ := blk4f (HB3.out.ext HX2.out)
  cases R1 with
  | false =>
   go_wp2_with fail
   go_ret
   exact ⟨by rw [← HR.out.2]; simp, bt HB.out HX2.out⟩
  | true =>
   obtain ⟨j, ta, rfl, hj, hke, hln⟩ := row_tab (HR.out.1)
   have hjl : j < ts.length := (List.getElem?_eq_some_iff.1 hj).1
   have hjI : (j : Int) < ts.length := by omega
   obtain ⟨l2, e2⟩ : q2 < w2.heap.size ∧ w2.cell? ⟨q2, 0, none⟩ = some (.slice A ts.length c) := ⟨(HB2.out.ext HX2.out).lt, (HB2.out.ext HX2.out).cell 0⟩
   have hall := HT.out w2 (bt HB.out HX2.out)
   obtain ⟨tb1, off1, rfl, hlt, hcs⟩ := hall.1.2.2.2 (by intro e; rw [e] at hjl; simp at hjl)
   obtain ⟨t0, t1, t2, t3, t4⟩ := hcs j ta hj
   obtain ⟨j2, ta2, hj2, hta2, -, hln2⟩ := row_tab HR.out.2
   obtain rfl : j = j2 := by omega
   obtain rfl : ta = ta2 := Option.some.inj (hj.symm.trans hta2)
   obtain ⟨ke, hke2⟩ : ∃ ke : Nat, ta.key = ke := ⟨ta.key.toNat, by omega⟩
   have hk0 : ke < l0.length := by omega
   have hk1 : ke < l1.length := by omega
   have HKQ : Hid (keyEq ts j l0 l1 = decide (l0[ke] = l1[ke])) := by
    show _ = _
    unfold keyEq
    rw [Int.toNat_natCast, hj]
    simp only [hke2, Int.toNat_natCast, List.getElem?_eq_getElem hk0, List.getElem?_eq_getElem hk1, Option.some.injEq]
   rw [hke2] at t2
   obtain ⟨g0, p0, hg0, hl0, hc0⟩ := hall.2.1.2.2 (by intro e; rw [e] at hk0; simp at hk0)
   obtain ⟨x0, x1, x2, x3⟩ := hc0 ke l0[ke] (List.getElem?_eq_getElem hk0)
   obtain ⟨g1, p1, hg1, hl1, hc1⟩ := hall.2.2.1.2.2 (by intro e; rw [e] at hk1; simp at hk1)
   obtain ⟨y0, y1, y2, y3⟩ := hc1 ke l1[ke] (List.getElem?_eq_getElem hk1)
   subst hg0 hg1
   have hk0I : (ke : Int) < l0.length := by omega
   have hk1I : (ke : Int) < l1.length := by omega
   have HE := hd_ (fun (X : World) => eqlV26' l0[ke].k l0[ke].n l0[ke].r l0[ke].t l1[ke].k l1[ke].n l1[ke].r l1[ke].t X)
   have HV : Hid (decide ((⟨l0[ke].k, l0[ke].n, l0[ke].r, l0[ke].t⟩ : V) = ⟨l1[ke].k, l1[ke].n, l1[ke].r, l1[ke].t⟩) = decide (l0[ke] = l1[ke])) := rfl
   have HKE2 := hd_ hke2
   clear hall hcs hc0 hc1 hj hta2 hln2 hln hj2 hke hke2
   generalize l0[ke] = x at *
   generalize l1[ke] = y at *
   obtain ⟨cc, hcc⟩ : ∃ cc, cc = decide (x = y) := ⟨_, rfl⟩
   have he : ∀ X, (binOp .eql 47 (.agg #[.int .u8 x.k, .int .i64 x.n, .int .u64 x.r, .string x.t]) (.agg #[.int .u8 y.k, .int .i64 y.n, .int .u64 y.r, .string y.t])).run Tryz.prog X = .ok (.bool cc) X := fun X => by rw [hcc]; exact HE.out X
   have HCC := hd_ hcc
   clear hcc HE HV
   go_upto_region 6 with fail
   go_quiet (fail)
   go_wp2_with fail
   go_ret
   exact ⟨by rw [← HR.out.1, ← HR.out.2, HKQ.out, ← HCC.out]; rfl, bt (bt HB.out HX2.out) ((by repeat (first | exact Below.refl _ _ | assumption | refine Below.drew ?_ | refine below_drewN ?_ _ | refine Below.alloc ?_ (by simp <;> omega) _)))⟩
theorem chfits_any (ts : List Ta) (A A0 A1 : Option Addr) (c d0 d1 : Nat) (kd tb : Int) (l0 l1 : List V) (w : World) (ht : TRow w A c ts) (h0 : VRow w A0 l0) (h1 : VRow w A1 l1) (hT : Tabs w) :
  Calls Tryz.prog 39 #[.agg #[.slice A ts.length c], .agg #[.int .u8 kd, .int .i64 tb, .slice A0 l0.length d0, .slice A1 l1.length d1]] w fun r w' => r = .returned (.bool (chFit ts kd tb l0 l1)) ∧ Below w.heap.size w w' := by
 have hcase : (kd < 1 ∨ 4 < kd) ∨ (kd = 1 ∨ kd = 4) ∨ kd = 2 ∨ kd = 3 := by omega
 rcases hcase with h | h | rfl | rfl
 · have e : chFit ts kd tb l0 l1 = false := by
    unfold chFit
    rcases h with h | h
    · rw [decide_eq_false (by omega : ¬ 1 ≤ kd)]; rfl
    · rw [decide_eq_false (by omega : ¬ kd ≤ 4), Bool.and_false]; rfl
   rw [e]
   exact fits_out ts A A0 A1 c d0 d1 kd tb l0 l1 w h
 · have e : chFit ts kd tb l0 l1 = (mustB ts tb false l0 && mustB ts tb true l1) := by rcases h with rfl | rfl <;> simp [chFit]
   rw [e]
   exact fits_ins ts A A0 A1 c d0 d1 kd tb l0 l1 w ht h0 h1 hT h
 · have e : chFit ts 2 tb l0 l1 = (mustB ts tb true l0 && (mustB ts tb true l1 && keyEq ts tb l0 l1)) := by simp [chFit]
   rw [e]
   exact fits_up ts A A0 A1 c d0 d1 tb l0 l1 w ht h0 h1 hT
 · have e : chFit ts 3 tb l0 l1 = (mustB ts tb true l0 && mustB ts tb false l1) := by simp [chFit]
   rw [e]
   exact fits_del ts A A0 A1 c d0 d1 tb l0 l1 w ht h0 h1 hT
end Go.Proofs.YtceoficoappkpaaGreatDoor
