/- The reference's Get, at all bytes. -/
import Derived.Test.YtjdfodmialhakaaDoorRef7
namespace Go.Proofs.YtjdfodmialhakaaDoor
open Go.RowKit

def refG : List UInt8 → Int × V × Nat
  | [] => (6, V0, 0)
  | c :: r =>
    if c.toNat = 0 then finV ⟨0, 0, 0, ByteArray.empty⟩ 1
    else if c.toNat = 1 then (match r with | [] => (6, V0, 0) | b :: _ => finV ⟨1, b.toNat, 0, ByteArray.empty⟩ 2)
    else if c.toNat = 2 then if r.length < 8 then (6, V0, 0) else finV ⟨2, i64of (valL (r.take 8)), 0, ByteArray.empty⟩ 9
    else if c.toNat = 3 then if r.length < 8 then (6, V0, 0) else finV ⟨3, 0, valL (r.take 8), ByteArray.empty⟩ 9
    else if c.toNat = 4 ∨ c.toNat = 5 then
      (match r with
        | [] => (6, V0, 0)
        | b :: r' => if r'.length < b.toNat then (if (decide (b.toNat ≤ 100) && (c.toNat == 4 || tbB r' b.toNat)) = true then 6 else 7, V0, 0) else finV ⟨c.toNat, 0, 0, ⟨(r'.take b.toNat).toArray⟩⟩ (2 + b.toNat))
    else (7, V0, 0)
theorem valL_lt8 (l : List UInt8) (h : l.length = 8) : valL l < 18446744073709551616 := by
  have := valL_lt l
  rw [h] at this
  exact this
theorem bytes_ext {s : ByteArray} {l : List UInt8} (h : s.data.toList = l) : s = ⟨l.toArray⟩ := by subst h; rfl
theorem head_at {s : ByteArray} {i : Nat} {c : UInt8} (h : s.data.toList[i]? = some c) : ∃ hi : i < s.size, s[i]'hi = c := by
  have hi : i < s.size := by
    rcases Nat.lt_or_ge i s.size with h' | h'
    · exact h'
    · rw [List.getElem?_eq_none (by simpa using h')] at h; cases h
  exact ⟨hi, idx_at s i c h hi⟩
theorem sizeL_t (c : UInt8) (r : List UInt8) (k4 : c.toNat = 4 ∨ c.toNat = 5) : sizeL (c :: r) = (match r with | [] => -1 | b :: _ => 2 + (b.toNat : Int)) := by
  simp only [sizeL]; rw [if_neg (by omega), if_neg (by omega), if_pos k4]; cases r <;> rfl
theorem refG_t (c : UInt8) (r : List UInt8) (k4 : c.toNat = 4 ∨ c.toNat = 5) : refG (c :: r) = (match r with
        | [] => (6, V0, 0)
        | b :: r' => if r'.length < b.toNat then (if (decide (b.toNat ≤ 100) && (c.toNat == 4 || tbB r' b.toNat)) = true then 6 else 7, V0, 0) else finV ⟨c.toNat, 0, 0, ⟨(r'.take b.toNat).toArray⟩⟩ (2 + b.toNat)) := by
  simp only [refG]; rw [if_neg (by omega), if_neg (by omega), if_neg (by omega), if_neg (by omega), if_pos k4]
theorem may_far {k : Int} (h : 5 < k) : mayB ⟨k, 0, 0, ByteArray.empty⟩ = false := by
  unfold mayB; simp only; rw [if_neg (by omega), if_neg (by omega), if_neg (by omega), if_neg (by omega), if_neg (by omega), if_neg (by omega)]
theorem refget_any (s : ByteArray) (hs : s.size ≤ 140737488355328) (w : World) (hT : Tabs w) :
    Calls Tryd.prog 29 #[.string s] w fun e w' => e = .returned (trip (refG s.data.toList)) ∧ Below w.heap.size w w' := by
  have hlen : s.data.toList.length = s.size := by simp
  cases hl : s.data.toList with
  | nil =>
    have h0 : s.size = 0 := by rw [← hlen, hl]; rfl
    obtain rfl := empty_of_size h0
    exact refget_short _ hs (-1) rfl (Or.inl (by omega)) true (fun W _ => begins_nil W) w hT
  | cons c r =>
    have hz : s.size = r.length + 1 := by rw [← hlen, hl]; rfl
    obtain ⟨p0, e0⟩ := head_at (s := s) (i := 0) (c := c) (by rw [hl]; rfl)
    have hcb := c.toNat_lt
    have long : ∀ (z : Nat) (v : V), sizeL (c :: r) = z → z ≤ s.size → v.wf → (∀ W, Calls Tryd.prog 105 #[.string (s.extract 0 z)] W fun e w' => e = .returned v.agg ∧ Below W.heap.size W w') → refG (c :: r) = finV v z → Calls Tryd.prog 29 #[.string s] w fun e w' => e = .returned (trip (refG (c :: r))) ∧ Below w.heap.size w w' := by
      intro z v h1 h2 h3 h4 h5
      rw [h5]
      exact refget_long s hs z (by rw [hl]; exact h1) h2 v h3 h4 w hT
    have short : ∀ (bb : Bool), (sizeL (c :: r) < 0 ∨ (0 ≤ sizeL (c :: r) ∧ (s.size : Int) < sizeL (c :: r))) → (∀ W, Tabs W → Calls Tryd.prog 104 #[.string s] W fun e w' => e = .returned (.bool bb) ∧ Below W.heap.size W w') → refG (c :: r) = (if bb then 6 else 7, V0, 0) → Calls Tryd.prog 29 #[.string s] w fun e w' => e = .returned (trip (refG (c :: r))) ∧ Below w.heap.size w w' := by
      intro bb h1 h2 h3
      rw [h3]
      exact refget_short s hs (sizeL (c :: r)) (by rw [hl]) h1 bb h2 w hT
    have upz : ∀ z, z ≤ s.size → (s.extract 0 z).size = z := by intro z h; rw [ByteArray.size_extract]; omega
    have upl : ∀ z, (s.extract 0 z).data.toList = (c :: r).take z := by intro z; rw [upto_list, hl]
    have nb : ∀ (b : UInt8), b.toNat < 256 := fun b => b.toNat_lt
    have h0z : (ByteArray.empty).size ≤ 140737488355328 := by decide
    by_cases k0 : c.toNat = 0
    · refine long 1 ⟨0, 0, 0, ByteArray.empty⟩ (by simp [sizeL, k0]) (by omega) (wf_mk (by omega) (by omega) (by omega) (by omega) (by omega) (by omega) h0z) (fun W => ?_) (by simp [refG, k0])
      obtain ⟨q0, f0⟩ := head_at (s := s.extract 0 1) (i := 0) (c := c) (by rw [upl]; rfl)
      have := whole_o (s.extract 0 1) c q0 f0 (Or.inl k0) W
      simpa [k0] using this
    by_cases k1 : c.toNat = 1
    · cases r with
      | nil => exact short true (Or.inr ⟨by simp [sizeL, k1], by simp [sizeL, k1]; simp at hz; omega⟩) (fun W _ => begins_12 s c p0 e0 (Or.inl k1) W) (by simp [refG, k1])
      | cons b r =>
        have := nb b
        simp at hz
        refine long 2 ⟨1, b.toNat, 0, ByteArray.empty⟩ (by simp [sizeL, k1]) (by omega) (wf_mk (by omega) (by omega) (by omega) (by omega) (by omega) (by omega) h0z) (fun W => ?_) (by simp [refG, k1])
        obtain ⟨q0, f0⟩ := head_at (s := s.extract 0 2) (i := 0) (c := c) (by rw [upl]; rfl)
        obtain ⟨q1, f1⟩ := head_at (s := s.extract 0 2) (i := 1) (c := b) (by rw [upl]; rfl)
        exact whole_1 (s.extract 0 2) c b q1 f0 f1 k1 W
    by_cases k2 : c.toNat = 2
    · by_cases h8 : r.length < 8
      · exact short true (Or.inr ⟨by simp [sizeL, k2], by simp [sizeL, k2]; omega⟩) (fun W _ => begins_12 s c p0 e0 (Or.inr k2) W) (by simp [refG, k2, h8])
      · have hv := valL_lt8 (r.take 8) (by simp; omega)
        have hi := i64of_range (valL (r.take 8)) (by omega)
        refine long 9 ⟨2, i64of (valL (r.take 8)), 0, ByteArray.empty⟩ (by simp [sizeL, k2]) (by omega) (wf_mk (by omega) (by omega) hi.1 hi.2 (by omega) (by omega) h0z) (fun W => ?_) (by simp [refG, k2, h8])
        obtain ⟨q0, f0⟩ := head_at (s := s.extract 0 9) (i := 0) (c := c) (by rw [upl]; rfl)
        have := whole_2 (s.extract 0 9) c q0 (upz 9 (by omega)) f0 k2 W
        rw [upl] at this
        exact this
    by_cases k3 : c.toNat = 3
    · by_cases h8 : r.length < 8
      · exact short true (Or.inr ⟨by simp [sizeL, k3], by simp [sizeL, k3]; omega⟩) (fun W _ => begins_3 s c p0 (by omega) e0 k3 W) (by simp [refG, k3, h8])
      · have hv := valL_lt8 (r.take 8) (by simp; omega)
        refine long 9 ⟨3, 0, valL (r.take 8), ByteArray.empty⟩ (by simp [sizeL, k3]) (by omega) (wf_mk (by omega) (by omega) (by omega) (by omega) (by omega) (by omega) h0z) (fun W => ?_) (by simp [refG, k3, h8])
        obtain ⟨q0, f0⟩ := head_at (s := s.extract 0 9) (i := 0) (c := c) (by rw [upl]; rfl)
        have := whole_3 (s.extract 0 9) c q0 (upz 9 (by omega)) f0 k3 W
        rw [upl] at this
        exact this
    by_cases k5 : 5 < c.toNat
    · have k4 : ¬ (c.toNat = 4 ∨ c.toNat = 5) := by omega
      have ks : sizeL (c :: r) = (1 : Nat) := by simp only [sizeL]; rw [if_neg k1, if_neg (by omega), if_neg k4]; rfl
      refine long 1 ⟨c.toNat, 0, 0, ByteArray.empty⟩ ks (by omega) (wf_mk (by omega) (by omega) (by omega) (by omega) (by omega) (by omega) h0z) (fun W => ?_) ?_
      · obtain ⟨q0, f0⟩ := head_at (s := s.extract 0 1) (i := 0) (c := c) (by rw [upl]; rfl)
        exact whole_o (s.extract 0 1) c q0 f0 (Or.inr k5) W
      · rw [finV_not (may_far (by omega))]
        simp only [refG]; rw [if_neg k0, if_neg k1, if_neg k2, if_neg k3, if_neg k4]
    have k4 : c.toNat = 4 ∨ c.toNat = 5 := by omega
    have kz := sizeL_t c r k4
    have kg := refG_t c r k4
    cases r with
    | nil =>
      simp at hz
      exact short true (Or.inl (by rw [kz]; simp)) (fun W _ => begins_45e s c p0 (by omega) e0 k4 W) kg
    | cons b r =>
      have hbl := nb b
      simp at hz
      simp only at kz kg
      by_cases hsh : r.length < b.toNat
      · rw [if_pos hsh] at kg
        obtain ⟨p1, e1⟩ := head_at (s := s) (i := 1) (c := b) (by rw [hl]; rfl)
        have hsz : sizeL (c :: b :: r) < 0 ∨ (0 ≤ sizeL (c :: b :: r) ∧ (s.size : Int) < sizeL (c :: b :: r)) := Or.inr ⟨by omega, by omega⟩
        rcases k4 with k4 | k4
        · refine short (decide (b.toNat ≤ 100)) hsz (fun W _ => begins_4 s c b p1 e0 e1 k4 W) ?_
          rw [kg]; simp [k4]
        · by_cases h100 : b.toNat ≤ 100
          · refine short (tbB r b.toNat) hsz (fun W hW => ?_) ?_
            · have := begins_5 s c b p1 e0 e1 k4 h100 (by omega) W hW
              rw [hl] at this
              exact this
            · rw [kg]; simp [k4, h100]
          · refine short false hsz (fun W _ => begins_5n s c b p1 e0 e1 k4 (by omega) W) ?_
            rw [kg]; simp [h100]
      · rw [if_neg hsh] at kg
        refine long (2 + b.toNat) ⟨c.toNat, 0, 0, ⟨(r.take b.toNat).toArray⟩⟩ (by rw [kz]; omega) (by omega) (wf_mk (by omega) (by omega) (by omega) (by omega) (by omega) (by omega) (by simp [ByteArray.size]; omega)) (fun W => ?_) kg
        obtain ⟨q0, f0⟩ := head_at (s := s.extract 0 (2 + b.toNat)) (i := 0) (c := c) (by rw [upl, Nat.add_comm]; rfl)
        have q1 : 1 < (s.extract 0 (2 + b.toNat)).size := by rw [upz _ (by omega)]; omega
        have := whole_t (s.extract 0 (2 + b.toNat)) c q1 f0 k4 W
        rw [bytes_ext (s := (s.extract 0 (2 + b.toNat)).extract 2 (s.extract 0 (2 + b.toNat)).size) (l := r.take b.toNat) (by rw [tail_list, upl, Nat.add_comm]; rfl)] at this
        exact this
end Go.Proofs.YtjdfodmialhakaaDoor
