/- Marks as data: rows of numbers; event.CheckMark: which marks may be. -/
import Derived.Test.YtjdfodmialhakaaDoorEv2
namespace Go.Proofs.YtjdfodmialhakaaDoor
open Go.RowKit

/-- A slice of numbers reads as l. -/
def NRow (k : IntKind) (w : World) (A : Option Addr) (l : List Int) : Prop :=
  l.length ≤ 17592186044416 ∧ (l ≠ [] → ∃ b off, A = some ⟨b, off, none⟩ ∧ b < w.heap.size ∧ ∀ i v, l[i]? = some v → w.cell? ⟨b, off + i, none⟩ = some (.int k v))
theorem NRow.ext {k : IntKind} {w w' : World} {A : Option Addr} {l : List Int} (h : NRow k w A l) (hb : Below w.heap.size w w') : NRow k w' A l := by
  refine ⟨h.1, fun hl => ?_⟩
  obtain ⟨b, off, rfl, hlt, hc⟩ := h.2 hl
  exact ⟨b, off, rfl, Nat.lt_of_lt_of_le hlt hb.size, fun i v hi => (hb.cell (p := ⟨b, _, none⟩) hlt).trans (hc i v hi)⟩
theorem NRow.at_ {k : IntKind} {w : World} {A : Option Addr} {l : List Int} (h : NRow k w A l) {j : Nat} (hj : j < l.length) :
    ∃ (b off : Nat) (v : Int), A = some ⟨b, off, none⟩ ∧ b < w.heap.size ∧ l[j]? = some v ∧ v ∈ l ∧ w.cell? ⟨b, off + j, none⟩ = some (.int k v) := by
  obtain ⟨b, off, rfl, hlt, hc⟩ := h.2 (by intro e; simp [e] at hj)
  have hv := List.getElem?_eq_getElem hj
  exact ⟨b, off, l[j], rfl, hlt, hv, List.getElem_mem hj, hc j _ hv⟩
theorem NRow.nil (k : IntKind) (w : World) (A : Option Addr) : NRow k w A [] := ⟨by simp, fun h => absurd rfl h⟩

structure Mk where
  k : Int
  tx : Int
  cs : List Int
  sq : List Int
def Mk.wf (m : Mk) : Prop := (0 ≤ m.k ∧ m.k ≤ 255) ∧ (0 ≤ m.tx ∧ m.tx ≤ 18446744073709551615) ∧ (∀ v ∈ m.cs, -9223372036854775808 ≤ v ∧ v ≤ 9223372036854775807) ∧ (∀ v ∈ m.sq, 0 ≤ v ∧ v ≤ 18446744073709551615)
def mkCells (m : Mk) (C S : Value) : Array Value := #[.int .u8 m.k, .int .u64 m.tx, C, S]
/-- Counts that may be. -/
def cntB (l : List Int) : Bool := l.all (fun n => decide (0 ≤ n)) && decide (l.sum ≤ 200)
def mkB (m : Mk) : Bool := decide (1 ≤ m.sq.length ∧ m.sq.length ≤ 12) && (if m.k = 1 then decide (m.cs.length = 0) else if m.k = 2 then decide (m.cs.length = m.sq.length) && cntB m.cs else false)

theorem cnt_neg {l : List Int} {j : Nat} {v : Int} (h : l[j]? = some v) (hv : v < 0) : cntB l = false := by
  have : l.all (fun n => decide (0 ≤ n)) = false := by
    rw [List.all_eq_false]
    exact ⟨v, List.mem_of_getElem? h, by simp; omega⟩
  simp [cntB, this]
theorem sum_nonneg : ∀ {l : List Int}, (∀ v ∈ l, 0 ≤ v) → 0 ≤ l.sum
  | [], _ => by simp
  | v :: l, h => by
    have := sum_nonneg (l := l) (fun x hx => h x (by simp [hx]))
    have := h v (by simp)
    simp; omega
theorem sum_at {l : List Int} {j : Nat} {v : Int} (h : l[j]? = some v) : (l.take (j + 1)).sum = (l.take j).sum + v := by
  obtain ⟨hlt, hv⟩ := List.getElem?_eq_some_iff.1 h
  rw [List.take_succ_eq_append_getElem hlt, List.sum_append, hv]
  simp
theorem cnt_big {l : List Int} {j : Nat} {v : Int} (h : l[j]? = some v) (hv : 200 < (l.take j).sum + v) : cntB l = false := by
  cases hc : cntB l with
  | false => rfl
  | true =>
    exfalso
    obtain ⟨h1, h2⟩ := Bool.and_eq_true_iff.1 hc
    have h1' : ∀ v ∈ l, 0 ≤ v := fun x hx => of_decide_eq_true (List.all_eq_true.1 h1 x hx)
    have h2 := of_decide_eq_true h2
    have e : l.sum = (l.take (j + 1)).sum + (l.drop (j + 1)).sum := by rw [← List.sum_append, List.take_append_drop]
    have := sum_nonneg (l := l.drop (j + 1)) (fun x hx => h1' x (List.mem_of_mem_drop hx))
    rw [sum_at h] at e
    omega
theorem cnt_all {l : List Int} (h1 : (l.take l.length).all (fun n => decide (0 ≤ n)) = true) (h2 : (l.take l.length).sum ≤ 200) : cntB l = true := by
  rw [List.take_length] at h1 h2
  simp [cntB, h1, h2]
theorem nn_step {l : List Int} {j : Nat} {v : Int} (h : (l.take j).all (fun n => decide (0 ≤ n)) = true) (hj : l[j]? = some v) (hv : 0 ≤ v) : Hid ((l.take (j + 1)).all (fun n => decide (0 ≤ n)) = true) := by
  show _ = _
  obtain ⟨hlt, e⟩ := List.getElem?_eq_some_iff.1 hj
  rw [List.take_succ_eq_append_getElem hlt, List.all_append, h, e]
  simp [hv]
theorem ckmark_len {m : Mk} (h : ¬ (1 ≤ m.sq.length ∧ m.sq.length ≤ 12)) : mkB m = false := by unfold mkB; rw [decide_eq_false h]; rfl
theorem okE_f' {b : Bool} (h : b = false) : okE b = 2 := by rw [h]; rfl
theorem okE_t' {b : Bool} (h : b = true) : okE b = 0 := by rw [h]; rfl
set_option maxRecDepth 100000 in
set_option maxHeartbeats 400000 in
theorem ckmark_any (m : Mk) (C S : Option Addr) (c d : Nat) (w : World) (hw : m.wf) (hc : NRow .i64 w C m.cs) (hs : m.sq.length ≤ 17592186044416) :
    Calls Tryd.prog 64 #[.agg (mkCells m (.slice C m.cs.length c) (.slice S m.sq.length d))] w fun e w' => e = .returned (.int .i64 (okE (mkB m))) ∧ Below w.heap.size w w' := by
  obtain ⟨k, tx, cs, sq⟩ := m
  obtain ⟨_, _, hcw, _⟩ := hw
  generalize hM : okE (mkB ⟨k, tx, cs, sq⟩) = M
  have HM := Lib.hid hM
  clear hM
  simp only [mkCells] at hc hs hcw ⊢
  have hcl := hc.1
  by_cases k1 : k = 1
  · subst k1
    clear hcw
    by_cases hq1 : sq.length < 1
    · have hf : M = 2 := by rw [← HM.out]; exact okE_f' (ckmark_len (by simp only; omega))
      clear HM hc
      subst hf
      (go_enter Tryd.func64, Tryd.ntmps64; go_wp2; go_ret; exact ⟨rfl, (by repeat (first | exact Below.refl _ _ | assumption | refine Below.drew ?_ | refine below_drewN ?_ _ | refine Below.alloc ?_ (by simp <;> omega) _))⟩)
    · by_cases hq2 : 12 < sq.length
      · have hf : M = 2 := by rw [← HM.out]; exact okE_f' (ckmark_len (by simp only; omega))
        clear HM hc
        subst hf
        (go_enter Tryd.func64, Tryd.ntmps64; go_wp2; go_ret; exact ⟨rfl, (by repeat (first | exact Below.refl _ _ | assumption | refine Below.drew ?_ | refine below_drewN ?_ _ | refine Below.alloc ?_ (by simp <;> omega) _))⟩)
      · by_cases hz : cs.length = 0
        · obtain rfl : cs = [] := List.length_eq_zero_iff.1 hz
          have hf : M = 0 := by rw [← HM.out]; refine okE_t' ?_; unfold mkB; rw [decide_eq_true (by simp only; omega)]; rfl
          clear HM hc hz hcl
          subst hf
          go_enter Tryd.func64, Tryd.ntmps64
          go_wp2
          refine wp_loop_rounds 1 ?_
          rw [rounds_succ]
          go_wp2
          go_ret
          exact ⟨rfl, (by repeat (first | exact Below.refl _ _ | assumption | refine Below.drew ?_ | refine below_drewN ?_ _ | refine Below.alloc ?_ (by simp <;> omega) _))⟩
        · have hf : M = 2 := by rw [← HM.out]; refine okE_f' ?_; unfold mkB; simp [hz]
          have hz1 : ((cs.length : Int) != 0) = true := by rw [bne_iff_ne]; omega
          clear HM hc hz
          subst hf
          (go_enter Tryd.func64, Tryd.ntmps64; go_wp2; go_ret; exact ⟨rfl, (by repeat (first | exact Below.refl _ _ | assumption | refine Below.drew ?_ | refine below_drewN ?_ _ | refine Below.alloc ?_ (by simp <;> omega) _))⟩)
  · have k1' : (k == 1) = false := beq_eq_false_iff_ne.2 k1
    by_cases k2 : k = 2
    · subst k2
      clear k1 k1'
      by_cases hq1 : sq.length < 1
      · have hf : M = 2 := by rw [← HM.out]; exact okE_f' (ckmark_len (by simp only; omega))
        clear HM hc hcw
        subst hf
        (go_enter Tryd.func64, Tryd.ntmps64; go_wp2; go_ret; exact ⟨rfl, (by repeat (first | exact Below.refl _ _ | assumption | refine Below.drew ?_ | refine below_drewN ?_ _ | refine Below.alloc ?_ (by simp <;> omega) _))⟩)
      · by_cases hq2 : 12 < sq.length
        · have hf : M = 2 := by rw [← HM.out]; exact okE_f' (ckmark_len (by simp only; omega))
          clear HM hc hcw
          subst hf
          (go_enter Tryd.func64, Tryd.ntmps64; go_wp2; go_ret; exact ⟨rfl, (by repeat (first | exact Below.refl _ _ | assumption | refine Below.drew ?_ | refine below_drewN ?_ _ | refine Below.alloc ?_ (by simp <;> omega) _))⟩)
        · by_cases hz : cs.length = sq.length
          · have hz1 : ((cs.length : Int) != (sq.length : Int)) = false := by simp [hz]
            have HZ := Lib.hid hz
            clear hz
            have HC := Lib.hid hc
            have HCW := Lib.hid hcw
            clear hc hcw
            have HMB : Hid (M = okE (cntB cs)) := by
              show _ = _
              rw [← HM.out]
              unfold mkB
              rw [decide_eq_true (by simp only; omega), if_neg (show ¬ (2 : Int) = 1 by decide), if_pos rfl, decide_eq_true HZ.out]
              simp
            clear HM
            go_enter Tryd.func64, Tryd.ntmps64
            go_wp2
            go_loop [4, 36] (fun s i => ∃ (j : Nat) (t : Int), j ≤ cs.length ∧ i = .int .i64 j ∧ s = .int .i64 t ∧ 0 ≤ t ∧ t ≤ 200 ∧ Hid (t = (cs.take j).sum) ∧ Hid ((cs.take j).all (fun n => decide (0 ≤ n)) = true)) (fun _ i => cs.length - (intOf i).toNat)
            case atStart => exact ⟨0, 0, by omega, rfl, rfl, by omega, by omega, (by simp : _ = _), (by simp : _ = _)⟩
            case round =>
              obtain ⟨j, t, hj, rfl, rfl, ht0, ht1, HS, HN⟩ := hrel
              by_cases hlt : j < cs.length
              · obtain ⟨b, off, v, rfl, hb, hlk, hmem, c0⟩ := HC.out.at_ hlt
                obtain ⟨v0, v1⟩ := HCW.out v hmem
                have HL := Lib.hid hlk
                clear hlk hmem
                by_cases hv0 : v < 0
                · have hf : M = 2 := by rw [HMB.out]; exact okE_f' (cnt_neg HL.out hv0)
                  clear HMB
                  subst hf
                  go_wp2
                  go_ret
                  exact ⟨rfl, (by repeat (first | exact Below.refl _ _ | assumption | refine Below.drew ?_ | refine below_drewN ?_ _ | refine Below.alloc ?_ (by simp <;> omega) _))⟩
                · by_cases hv1 : 200 - t < v
                  · have hf : M = 2 := by rw [HMB.out]; exact okE_f' (cnt_big HL.out (by rw [← HS.out]; omega))
                    clear HMB
                    subst hf
                    go_wp2
                    go_ret
                    exact ⟨rfl, (by repeat (first | exact Below.refl _ _ | assumption | refine Below.drew ?_ | refine below_drewN ?_ _ | refine Below.alloc ?_ (by simp <;> omega) _))⟩
                  · go_wp2
                    go_round
                    case rel => exact ⟨j + 1, t + v, by omega, by go_num, by go_num, by omega, by omega, (by show _ = _; rw [sum_at HL.out, HS.out]), nn_step HN.out HL.out (by omega)⟩
                    case measure => simp [intOf]; omega
              · have hf : M = 0 := by
                  rw [HMB.out]
                  have e : j = cs.length := by omega
                  have h1 := HN.out
                  have h2 := HS.out
                  rw [e] at h1 h2
                  exact okE_t' (cnt_all h1 (by rw [← h2]; exact ht1))
                clear HMB
                subst hf
                go_wp2
                go_ret
                exact ⟨rfl, (by repeat (first | exact Below.refl _ _ | assumption | refine Below.drew ?_ | refine below_drewN ?_ _ | refine Below.alloc ?_ (by simp <;> omega) _))⟩
          · have hf : M = 2 := by rw [← HM.out]; refine okE_f' ?_; unfold mkB; simp [hz]
            have hz1 : ((cs.length : Int) != (sq.length : Int)) = true := by rw [bne_iff_ne]; omega
            clear HM hc hz hcw
            subst hf
            (go_enter Tryd.func64, Tryd.ntmps64; go_wp2; go_ret; exact ⟨rfl, (by repeat (first | exact Below.refl _ _ | assumption | refine Below.drew ?_ | refine below_drewN ?_ _ | refine Below.alloc ?_ (by simp <;> omega) _))⟩)
    · have k2' : (k == 2) = false := beq_eq_false_iff_ne.2 k2
      have hf : M = 2 := by rw [← HM.out]; refine okE_f' ?_; unfold mkB; simp [k1, k2]
      clear HM hc k1 k2 hcw
      subst hf
      (go_enter Tryd.func64, Tryd.ntmps64; go_wp2; go_ret; exact ⟨rfl, (by repeat (first | exact Below.refl _ _ | assumption | refine Below.drew ?_ | refine below_drewN ?_ _ | refine Below.alloc ?_ (by simp <;> omega) _))⟩)
end Go.Proofs.YtjdfodmialhakaaDoor
