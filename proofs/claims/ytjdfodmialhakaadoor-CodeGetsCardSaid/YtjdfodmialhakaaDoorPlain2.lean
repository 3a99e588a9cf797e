/- Plain laws: of what is got the bytes are what it was got of; what is less than a row's bytes is ErrEnd. -/
import Derived.Test.YtjdfodmialhakaaDoorPlain
namespace Go.Proofs.YtjdfodmialhakaaDoor
open Go.RowKit

theorem textE_range (b : Bool) (l : List UInt8) : textE b l = 0 ∨ textE b l = 6 ∨ textE b l = 7 := by
  unfold textE
  repeat' split
  all_goals simp
theorem finV_range (v : V) (n : Nat) : (finV v n).1 = 0 ∨ (finV v n).1 = 6 ∨ (finV v n).1 = 7 := by
  unfold finV
  split <;> simp
theorem getV_range (l : List UInt8) : (getV l).1 = 0 ∨ (getV l).1 = 6 ∨ (getV l).1 = 7 := by
  unfold getV
  repeat' split
  all_goals first | exact finV_range _ _ | (simp; done) | (dsimp only; exact textE_range _ _)
theorem getVs_range : ∀ (n : Nat) (l : List UInt8), (getVs n l).1 = 0 ∨ (getVs n l).1 = 6 ∨ (getVs n l).1 = 7
  | 0, _ => .inl rfl
  | n + 1, l => by
    rw [getVs]
    split
    · split
      · exact .inl rfl
      · exact getVs_range n _
    · exact getV_range l
theorem getRow_range (l : List UInt8) : (getRow l).1 = 0 ∨ (getRow l).1 = 6 ∨ (getRow l).1 = 7 := by
  unfold getRow
  repeat' split
  all_goals first | (simp; done) | exact getVs_range _ _
/-- Of what is got the bytes are what it was got of. -/
theorem getVs_back : ∀ (n : Nat) (l : List UInt8), (getVs n l).1 = 0 →
    (getVs n l).2.1.length = n ∧ (∀ v ∈ (getVs n l).2.1, v.wf ∧ mayB v = true) ∧ l.take (getVs n l).2.2 = (getVs n l).2.1.flatMap putL ∧ (getVs n l).2.2 ≤ l.length
  | 0, l, _ => ⟨rfl, (fun v h => by cases h), by simp [getVs], by simp [getVs]⟩
  | n + 1, l, h => by
    rw [getVs] at h ⊢
    by_cases hv : (getV l).1 = 0
    · rw [if_pos hv] at h ⊢
      by_cases hr : (getVs n (l.drop (getV l).2.2)).1 = 0
      · rw [if_pos hr] at h ⊢
        obtain ⟨i1, i2, i3, i4⟩ := getVs_back n _ hr
        obtain ⟨v1, v2, v3, v4⟩ := getV_cases hv
        refine ⟨by simp [i1], ?_, ?_, ?_⟩
        · intro v hm
          rcases List.mem_cons.1 hm with rfl | hm
          · exact ⟨v2, v1⟩
          · exact i2 v hm
        · simp only [List.flatMap_cons]
          rw [List.take_add, v3, i3]
        · simp only
          rw [List.length_drop] at i4
          omega
      · rw [if_neg hr] at h
        exact absurd h hr
    · rw [if_neg hv] at h
      exact absurd h hv
theorem getRow_back {l : List UInt8} (h : (getRow l).1 = 0) :
    rowB (getRow l).2.1 = true ∧ (∀ v ∈ (getRow l).2.1, v.wf) ∧ l.take (getRow l).2.2 = putRowL (getRow l).2.1 ∧ 1 ≤ (getRow l).2.2 ∧ (getRow l).2.2 ≤ l.length := by
  cases l with
  | nil => cases h
  | cons c r =>
    by_cases hc : c.toNat < 1 ∨ 8 < c.toNat
    · rw [getRow, if_pos hc] at h; cases h
    · by_cases hv : (getVs c.toNat r).1 = 0
      · have e : getRow (c :: r) = (0, (getVs c.toNat r).2.1, 1 + (getVs c.toNat r).2.2) := by rw [getRow, if_neg hc, if_pos hv]
        rw [e]
        obtain ⟨i1, i2, i3, i4⟩ := getVs_back _ _ hv
        refine ⟨?_, fun v hm => (i2 v hm).1, ?_, by simp, by simp; omega⟩
        · unfold rowB
          simp only [Bool.and_eq_true, decide_eq_true_eq, List.all_eq_true, i1]
          exact ⟨⟨by omega, by omega⟩, fun v hm => (i2 v hm).2⟩
        · unfold putRowL
          simp only [i1]
          rw [Nat.add_comm, List.take_succ_cons, i3]
          simp
      · rw [getRow, if_neg hc, if_neg hv] at h
        exact absurd h hv
end Go.Proofs.YtjdfodmialhakaaDoor
