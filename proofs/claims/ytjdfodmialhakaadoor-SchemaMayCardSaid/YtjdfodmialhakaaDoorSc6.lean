/- schema.Check, has, Depth, Root, Kids. -/
import Derived.Test.YtjdfodmialhakaaDoorSc5
namespace Go.Proofs.YtjdfodmialhakaaDoor
open Go.RowKit

set_option maxRecDepth 100000 in
theorem check13_any (ts : List Ta) (A : Option Addr) (c : Nat) (w : World) (ht : TRow w A c ts) :
    Calls Tryd.prog 82 #[.agg #[.slice A ts.length c]] w fun r w' => r = .returned (.int .i64 (okE (schB ts))) ∧ Below w.heap.size w w' := by
  have HD := Lib.hid (fun (W : World) (hW : Below w.heap.size w W) => depths_any ts A c W (ht.ext hW))
  have hlen := ht.2.1
  unfold DepPost at HD
  generalize schB ts = M at HD ⊢
  clear ht
  cases M
  all_goals
    go_enter Tryd.func82, Tryd.ntmps82
    go_wp2_with fail
    refine (HD.out _ (by repeat (first | exact Below.refl _ _ | assumption | refine Below.drew ?_ | refine below_drewN ?_ _ | refine Below.alloc ?_ (by simp <;> omega) _))).mono ?_
    rintro r w1 ⟨hb1, D, Ao, co, rfl, _, _⟩
    have hbw : Below w.heap.size w w1 := bt (by repeat (first | exact Below.refl _ _ | assumption | refine Below.drew ?_ | refine below_drewN ?_ _ | refine Below.alloc ?_ (by simp <;> omega) _)) hb1
    clear hb1
    go_wp2_with fail
    go_ret
    exact ⟨rfl, hbw⟩
def hasS (ts : List Ta) (k : Int) : Bool := schB ts && hasI ts.length k
set_option maxRecDepth 100000 in
theorem has_any (ts : List Ta) (A : Option Addr) (c : Nat) (k : Int) (w : World) (ht : TRow w A c ts) :
    Calls Tryd.prog 149 #[.agg #[.slice A ts.length c], .int .i64 k] w fun r w' => r = .returned (.bool (hasS ts k)) ∧ Below w.heap.size w w' := by
  have HD := Lib.hid (fun (W : World) (hW : Below w.heap.size w W) => check13_any ts A c W (ht.ext hW))
  have hlen := ht.2.1
  unfold hasS
  generalize schB ts = M at HD ⊢
  clear ht
  cases M
  · rw [okE_f' rfl] at HD
    go_enter Tryd.func149, Tryd.ntmps149
    go_wp2_with fail
    refine (HD.out _ (by repeat (first | exact Below.refl _ _ | assumption | refine Below.drew ?_ | refine below_drewN ?_ _ | refine Below.alloc ?_ (by simp <;> omega) _))).mono ?_
    rintro r w1 ⟨rfl, hb1⟩
    have hbw : Below w.heap.size w w1 := bt (by repeat (first | exact Below.refl _ _ | assumption | refine Below.drew ?_ | refine below_drewN ?_ _ | refine Below.alloc ?_ (by simp <;> omega) _)) hb1
    clear hb1
    go_wp2_with fail
    go_ret
    exact ⟨rfl, hbw⟩
  · rw [okE_t' rfl] at HD
    rw [Bool.true_and]
    unfold hasI
    by_cases h0 : 0 ≤ k
    · rw [decide_eq_decide.2 (show 0 ≤ k ∧ k < ts.length ↔ k < ts.length by omega)]
      go_enter Tryd.func149, Tryd.ntmps149
      go_wp2_with fail
      refine (HD.out _ (by repeat (first | exact Below.refl _ _ | assumption | refine Below.drew ?_ | refine below_drewN ?_ _ | refine Below.alloc ?_ (by simp <;> omega) _))).mono ?_
      rintro r w1 ⟨rfl, hb1⟩
      have hbw : Below w.heap.size w w1 := bt (by repeat (first | exact Below.refl _ _ | assumption | refine Below.drew ?_ | refine below_drewN ?_ _ | refine Below.alloc ?_ (by simp <;> omega) _)) hb1
      have h00 := ((Blk.new w #[.slice A ts.length c] 103).ext hb1).cell 0
      simp only [List.getElem?_toArray, List.getElem?_cons_zero] at h00
      clear hb1
      go_wp2_with fail
      go_ret
      exact ⟨rfl, hbw⟩
    · rw [decide_eq_false (by omega)]
      go_enter Tryd.func149, Tryd.ntmps149
      go_wp2_with fail
      refine (HD.out _ (by repeat (first | exact Below.refl _ _ | assumption | refine Below.drew ?_ | refine below_drewN ?_ _ | refine Below.alloc ?_ (by simp <;> omega) _))).mono ?_
      rintro r w1 ⟨rfl, hb1⟩
      have hbw : Below w.heap.size w w1 := bt (by repeat (first | exact Below.refl _ _ | assumption | refine Below.drew ?_ | refine below_drewN ?_ _ | refine Below.alloc ?_ (by simp <;> omega) _)) hb1
      clear hb1
      go_wp2_with fail
      go_ret
      exact ⟨rfl, hbw⟩
/-- A table's depth, as the package tells it. -/
def depR (ts : List Ta) (k : Int) : Int := if hasS ts k then depA ts k.toNat else 0
set_option maxRecDepth 100000 in
theorem depth_any (ts : List Ta) (A : Option Addr) (c : Nat) (k : Int) (w : World) (ht : TRow w A c ts) :
    Calls Tryd.prog 84 #[.agg #[.slice A ts.length c], .int .i64 k] w fun r w' => r = .returned (.int .i64 (depR ts k)) ∧ Below w.heap.size w w' := by
  have HD := Lib.hid (fun (W : World) (hW : Below w.heap.size w W) => depths_any ts A c W (ht.ext hW))
  have hlen := ht.2.1
  obtain ⟨R, hR⟩ : ∃ q, q = depR ts k := ⟨_, rfl⟩
  rw [← hR]
  unfold depR hasS at hR
  unfold DepPost at HD
  have hdl := deps_length ts
  unfold depA at hR
  generalize schB ts = M at HD hR
  generalize deps ts = dl at HD hR hdl
  have HRR := Lib.hid hR
  have HDL := Lib.hid hdl
  clear ht hR hdl
  cases M
  · have hR0 : R = 0 := HRR.out
    subst hR0
    clear HRR
    go_enter Tryd.func84, Tryd.ntmps84
    go_wp2_with fail
    refine (HD.out _ (by repeat (first | exact Below.refl _ _ | assumption | refine Below.drew ?_ | refine below_drewN ?_ _ | refine Below.alloc ?_ (by simp <;> omega) _))).mono ?_
    rintro r w1 ⟨hb1, D, Ao, co, rfl, _, _⟩
    have hbw : Below w.heap.size w w1 := bt (by repeat (first | exact Below.refl _ _ | assumption | refine Below.drew ?_ | refine below_drewN ?_ _ | refine Below.alloc ?_ (by simp <;> omega) _)) hb1
    clear hb1
    go_wp2_with fail
    go_ret
    exact ⟨rfl, hbw⟩
  · by_cases h0 : k < 0
    · have hR0 : Hid (R = 0) := by show _ = _; rw [HRR.out]; unfold hasI; rw [decide_eq_false (by omega)]; rfl
      clear HRR
      go_enter Tryd.func84, Tryd.ntmps84
      go_wp2_with fail
      refine (HD.out _ (by repeat (first | exact Below.refl _ _ | assumption | refine Below.drew ?_ | refine below_drewN ?_ _ | refine Below.alloc ?_ (by simp <;> omega) _))).mono ?_
      rintro r w1 ⟨hb1, D, Ao, co, rfl, _, _⟩
      have hbw : Below w.heap.size w w1 := bt (by repeat (first | exact Below.refl _ _ | assumption | refine Below.drew ?_ | refine below_drewN ?_ _ | refine Below.alloc ?_ (by simp <;> omega) _)) hb1
      clear hb1
      go_wp2_with fail
      go_ret
      exact ⟨ret_int hR0.out.symm, hbw⟩
    · go_enter Tryd.func84, Tryd.ntmps84
      go_wp2_with fail
      refine (HD.out _ (by repeat (first | exact Below.refl _ _ | assumption | refine Below.drew ?_ | refine below_drewN ?_ _ | refine Below.alloc ?_ (by simp <;> omega) _))).mono ?_
      rintro r w1 ⟨hb1, D, Ao, co, rfl, hnr, hD⟩
      have hbw : Below w.heap.size w w1 := bt (by repeat (first | exact Below.refl _ _ | assumption | refine Below.drew ?_ | refine below_drewN ?_ _ | refine Below.alloc ?_ (by simp <;> omega) _)) hb1
      obtain rfl := hD trivial
      have hdl := HDL.out
      clear hb1
      by_cases h1 : k < D.length
      · obtain ⟨b, off, v, rfl, hb, hlk, _, c0⟩ := hnr.at_ (show k.toNat < D.length by omega)
        have hR0 : Hid (R = v) := by
          show _ = _
          rw [HRR.out]
          unfold hasI
          rw [decide_eq_true (by omega), List.getD_eq_getElem?_getD, hlk]
          rfl
        have h1' : ¬ (D.length : Int) ≤ k := by omega
        have h0' : 0 ≤ k := by omega
        clear HRR hlk hdl
        go_wp2_with fail
        go_ret
        exact ⟨ret_int hR0.out.symm, hbw⟩
      · have hR0 : Hid (R = 0) := by show _ = _; rw [HRR.out]; unfold hasI; rw [decide_eq_false (by omega)]; rfl
        have h1' : (D.length : Int) ≤ k := by omega
        clear HRR hdl
        go_wp2_with fail
        go_ret
        exact ⟨ret_int hR0.out.symm, hbw⟩
/-- A table's root, as the package tells it. -/
def rootR (ts : List Ta) (k : Int) : Int := if hasS ts k then rootF ts.length ts k.toNat else -1
set_option maxRecDepth 100000 in
theorem root_any (ts : List Ta) (A : Option Addr) (c : Nat) (k : Int) (w : World) (ht : TRow w A c ts) :
    Calls Tryd.prog 85 #[.agg #[.slice A ts.length c], .int .i64 k] w fun r w' => r = .returned (.int .i64 (rootR ts k)) ∧ Below w.heap.size w w' := by
  have HH := Lib.hid (fun (W : World) (hW : Below w.heap.size w W) => has_any ts A c k W (ht.ext hW))
  have hlen := ht.2.1
  have HT := Lib.hid ht
  cases hh : hasS ts k
  · rw [hh] at HH
    have hR : rootR ts k = -1 := by unfold rootR; rw [hh]; rfl
    rw [hR]
    clear hR hh ht
    go_enter Tryd.func85, Tryd.ntmps85
    go_wp2_with fail
    refine (HH.out _ (by repeat (first | exact Below.refl _ _ | assumption | refine Below.drew ?_ | refine below_drewN ?_ _ | refine Below.alloc ?_ (by simp <;> omega) _))).mono ?_
    rintro r w1 ⟨rfl, hb1⟩
    have hbw : Below w.heap.size w w1 := bt (by repeat (first | exact Below.refl _ _ | assumption | refine Below.drew ?_ | refine below_drewN ?_ _ | refine Below.alloc ?_ (by simp <;> omega) _)) hb1
    clear hb1
    go_wp2_with fail
    go_ret
    exact ⟨rfl, hbw⟩
  · rw [hh] at HH
    have hs := hh
    unfold hasS at hs
    obtain ⟨hs1, hs2⟩ := Bool.and_eq_true_iff.1 hs
    obtain ⟨_, hp, _⟩ := sch_parts hs1
    obtain ⟨hk0, hk1⟩ := of_decide_eq_true hs2
    obtain ⟨R, hR⟩ : ∃ q, q = rootR ts k := ⟨_, rfl⟩
    rw [← hR]
    have HR : Hid ((rootF ts.length ts k.toNat : Int) = R) := by show _ = _; rw [hR]; unfold rootR; rw [if_pos hh]
    have HP := Lib.hid hp
    clear hR hh hs hs1 hs2 hp ht
    go_enter Tryd.func85, Tryd.ntmps85
    go_wp2_with fail
    refine (HH.out _ (by repeat (first | exact Below.refl _ _ | assumption | refine Below.drew ?_ | refine below_drewN ?_ _ | refine Below.alloc ?_ (by simp <;> omega) _))).mono ?_
    rintro r w1 ⟨rfl, hb1⟩
    have hbw : Below w.heap.size w w1 := bt (by repeat (first | exact Below.refl _ _ | assumption | refine Below.drew ?_ | refine below_drewN ?_ _ | refine Below.alloc ?_ (by simp <;> omega) _)) hb1
    have HB := Lib.hid ((Blk.new w #[.slice A ts.length c] 103).ext hb1)
    have HTR := Lib.hid (HT.out.ext hbw)
    clear hb1 HT HH
    go_wp2_with fail
    go_loop [1] (fun i => ∃ j : Nat, j < ts.length ∧ i = .int .i64 j ∧ Hid ((rootF ts.length ts j : Int) = R)) (fun i => (intOf i).toNat)
    case atStart => exact ⟨k.toNat, by omega, by rw [Int.toNat_of_nonneg hk0], HR⟩
    case round =>
      obtain ⟨j, hj, rfl, HJ⟩ := hrel
      obtain ⟨b, off, t, rfl, hb, hlk, _, _, _, c0, c1, c2, c3, c4⟩ := HTR.out.at_ hj
      have h00 := HB.out.cell 0
      simp only [List.getElem?_toArray, List.getElem?_cons_zero] at h00
      have hj' : (j : Int) < ts.length := by omega
      have hpar := dep_par HP.out hj hlk
      by_cases hp : 0 ≤ t.par
      · have hpj : t.par < j := by omega
        have HJ2 : Hid ((rootF ts.length ts t.par.toNat : Int) = R) := by
          show _ = _
          rw [← HJ.out, rootF_fuel HP.out (j + 1) ts.length (ts.length + 1) j (by omega) (by omega) (by omega) hj (Nat.le_refl _), rootF_up hlk hp]
        obtain ⟨p, hpp⟩ : ∃ p : Nat, (p : Int) = t.par := ⟨t.par.toNat, by omega⟩
        have hp2 : t.par.toNat = p := by omega
        rw [hp2] at HJ2
        rw [← hpp] at c4 hpj
        have hp3 : p < j := by omega
        have hp4 : (0 : Int) ≤ p := by omega
        clear hpar hlk hp hpp hp2 c0 c1 c2 c3
        go_wp2
        go_round
        case rel => exact ⟨p, by omega, rfl, HJ2⟩
        case measure => simp [intOf]; omega
      · have hp' : t.par < 0 := by omega
        have hJ := HJ.out
        rw [rootF_root hlk hp] at hJ
        have HJ3 := Lib.hid hJ
        clear hpar hlk hp hJ
        go_wp2
        go_ret
        exact ⟨ret_int HJ3.out, hbw⟩
end Go.Proofs.YtjdfodmialhakaaDoor
