/- Plain laws: what was put is got, whatever stands behind it; rows' bytes do not begin one another. -/
import Derived.Test.YtjdfodmialhakaaDoorGetRow
import Derived.Test.YtjdfodmialhakaaDoorRows2
namespace Go.Proofs.YtjdfodmialhakaaDoor
open Go.RowKit

theorem valid_opens : ∀ (f : Nat) (l : List UInt8) (m : Nat), l.length ≤ f → Lib.validD l = true → opensGo f l m = true
  | 0, _, _, _, _ => rfl
  | f + 1, l, m, hf, hv => by
    unfold opensGo
    by_cases hl : l = []
    · rw [if_pos hl]
    · rw [if_neg hl]
      rw [Lib.validD_step l hl] at hv
      by_cases hb : (Lib.decodeL l).1 = 65533 ∧ (Lib.decodeL l).2 = 1
      · rw [if_pos hb] at hv; cases hv
      · rw [if_neg hb] at hv
        have hbad : ¬ badL l = true := by
          intro h
          simp [badL] at h
          exact hb h
        rw [if_neg hbad]
        have hw := Lib.decodeL_width l
        exact valid_opens f _ _ (by rw [List.length_drop]; omega) hv
theorem opensB_valid {l : List UInt8} (m : Nat) (h : Lib.validD l = true) : opensB l m = true := valid_opens _ l m (Nat.le_refl _) h

theorem may_1 {n r : Int} {t : ByteArray} (h : mayB ⟨1, n, r, t⟩ = true) : (n = 0 ∨ n = 1) ∧ r = 0 ∧ t = ByteArray.empty := by
  simp [mayB] at h
  exact ⟨h.1.1, h.1.2, h.2⟩
theorem may_0 {n r : Int} {t : ByteArray} (h : mayB ⟨0, n, r, t⟩ = true) : n = 0 ∧ r = 0 ∧ t = ByteArray.empty := by
  simp [mayB] at h
  exact ⟨h.1.1, h.1.2, h.2⟩
theorem may_2 {n r : Int} {t : ByteArray} (h : mayB ⟨2, n, r, t⟩ = true) : r = 0 ∧ t = ByteArray.empty := by
  simpa [mayB] using h
theorem may_3 {n r : Int} {t : ByteArray} (h : mayB ⟨3, n, r, t⟩ = true) : n = 0 ∧ t = ByteArray.empty := by
  simp [mayB] at h
  exact ⟨h.1.1, h.2⟩
theorem may_4 {n r : Int} {t : ByteArray} (h : mayB ⟨4, n, r, t⟩ = true) : n = 0 ∧ r = 0 ∧ t.size ≤ 100 := by
  simp [mayB] at h
  exact ⟨h.1.1, h.1.2, h.2⟩
theorem may_5 {n r : Int} {t : ByteArray} (h : mayB ⟨5, n, r, t⟩ = true) : n = 0 ∧ r = 0 ∧ t.size ≤ 100 ∧ Lib.validD t.data.toList = true := by
  simp [mayB] at h
  exact ⟨h.2.1.1, h.2.1.2, h.2.2, h.1⟩
theorem toNat_small {n : Nat} (h : n ≤ 100) : (UInt8.ofNat n).toNat = n := by rw [UInt8.toNat_ofNat']; omega

theorem put_get_text (k : Nat) (hk : k = 4 ∨ k = 5) (t : ByteArray) (ht : t.size ≤ 100) (hv : k = 5 → Lib.validD t.data.toList = true) (hm : mayB ⟨k, 0, 0, t⟩ = true) (more : List UInt8) :
    getV (UInt8.ofNat k :: UInt8.ofNat t.size :: (t.data.toList ++ more)) = (0, ⟨k, 0, 0, t⟩, t.size + 2) := by
  have hk' : (UInt8.ofNat k).toNat = k := toNat_small (by omega)
  have hs := toNat_small ht
  have hlen : t.data.toList.length = t.size := by simp
  have htk : (t.data.toList ++ more).take t.size = t.data.toList := by rw [← hlen, List.take_left]
  have hE : textE (k == 5) (UInt8.ofNat t.size :: (t.data.toList ++ more)) = 0 := by
    rw [textE, hs, if_neg (by omega), htk]
    have ho : ((k == 5) && !opensB t.data.toList t.size) = false := by
      rcases hk with rfl | rfl
      · rfl
      · rw [opensB_valid _ (hv rfl)]; rfl
    rw [ho]
    have : ¬ (t.data.toList ++ more).length < t.size := by rw [List.length_append, hlen]; omega
    simp only [Bool.false_eq_true, if_false, if_neg this]
  rw [getV, hk', if_neg (by omega), if_neg (by omega), if_neg (by omega), if_neg (by omega), if_pos hk]
  simp only [hE, if_true, hs, htk]
  have hta : (⟨t.data.toList.toArray⟩ : ByteArray) = t := (ba_of rfl).symm
  rw [hta, finV_yes hm, Nat.add_comm]

theorem getV_2 (x : List UInt8) (h : ¬ x.length < 8) : getV (2 :: x) = finV ⟨2, i64of (valL (x.take 8)), 0, ByteArray.empty⟩ 9 := by
  simp [getV, h]
theorem getV_3 (x : List UInt8) (h : ¬ x.length < 8) : getV (3 :: x) = finV ⟨3, 0, valL (x.take 8), ByteArray.empty⟩ 9 := by
  simp [getV, h]
theorem put_get (v : V) (hw : v.wf) (hm : mayB v = true) (more : List UInt8) : getV (putL v ++ more) = (0, v, (putL v).length) := by
  have hk := may_kind hm
  obtain ⟨k, n, r, t⟩ := v
  obtain ⟨_, _, h1, h2, h3, h4, _⟩ := hw
  simp only at hk h1 h2 h3 h4
  rcases hk with rfl | rfl | rfl | rfl | rfl | rfl
  · obtain ⟨rfl, rfl, rfl⟩ := may_0 hm
    simp [putL, getV, finV, hm]
  · obtain ⟨hn, rfl, rfl⟩ := may_1 hm
    rcases hn with rfl | rfl <;> simp [putL, getV, finV, hm]
  · obtain ⟨rfl, rfl⟩ := may_2 hm
    have hl8 := numL_length 8 (u64of n)
    have htk : (numL 8 (u64of n) ++ more).take 8 = numL 8 (u64of n) := by
      have := List.take_left (l₁ := numL 8 (u64of n)) (l₂ := more)
      rwa [hl8] at this
    have hu : u64of n < 256 ^ 8 := by
      have : (256 : Nat) ^ 8 = 18446744073709551616 := by decide
      unfold u64of; omega
    have hv := valL_numL 8 (u64of n) hu
    have hi : i64of (u64of n) = n := by unfold i64of u64of wrap64; omega
    have hlen : ¬ (numL 8 (u64of n) ++ more).length < 8 := by rw [List.length_append, hl8]; omega
    have e : putL ⟨2, n, 0, ByteArray.empty⟩ = 2 :: numL 8 (u64of n) := by simp [putL]
    rw [e, List.cons_append, List.length_cons, hl8]
    rw [getV_2 _ hlen, htk, hv, hi, finV_yes hm]
  · obtain ⟨rfl, rfl⟩ := may_3 hm
    have hl8 := numL_length 8 r.toNat
    have htk : (numL 8 r.toNat ++ more).take 8 = numL 8 r.toNat := by
      have := List.take_left (l₁ := numL 8 r.toNat) (l₂ := more)
      rwa [hl8] at this
    have hu : r.toNat < 256 ^ 8 := by
      have : (256 : Nat) ^ 8 = 18446744073709551616 := by decide
      omega
    have hv := valL_numL 8 r.toNat hu
    have hi : ((r.toNat : Nat) : Int) = r := by omega
    have hlen : ¬ (numL 8 r.toNat ++ more).length < 8 := by rw [List.length_append, hl8]; omega
    have e : putL ⟨3, 0, r, ByteArray.empty⟩ = 3 :: numL 8 r.toNat := by simp [putL]
    rw [e, List.cons_append, List.length_cons, hl8]
    rw [getV_3 _ hlen, htk, hv, hi, finV_yes hm]
  · obtain ⟨rfl, rfl, ht⟩ := may_4 hm
    have := put_get_text 4 (.inl rfl) t ht (fun h => by cases h) hm more
    simpa [putL] using this
  · obtain ⟨rfl, rfl, ht, hv⟩ := may_5 hm
    have := put_get_text 5 (.inr rfl) t ht (fun _ => hv) hm more
    simpa [putL] using this
theorem puts_get : ∀ (l : List V), (∀ v ∈ l, v.wf) → (∀ v ∈ l, mayB v = true) → ∀ more, getVs l.length (l.flatMap putL ++ more) = (0, l, (l.flatMap putL).length)
  | [], _, _, _ => rfl
  | v :: l, hw, hm, more => by
    have hv := put_get v (hw v (by simp)) (hm v (by simp)) (l.flatMap putL ++ more)
    have ih := puts_get l (fun x hx => hw x (by simp [hx])) (fun x hx => hm x (by simp [hx])) more
    rw [List.length_cons, List.flatMap_cons, List.append_assoc, getVs, hv]
    simp only [if_true]
    have hd : (putL v ++ (l.flatMap putL ++ more)).drop (putL v).length = l.flatMap putL ++ more := List.drop_left
    rw [hd, ih]
    simp
/-- What was put is got, whatever stands behind it. -/
theorem putRow_getRow (l : List V) (hw : ∀ v ∈ l, v.wf) (hm : rowB l = true) (more : List UInt8) : getRow (putRowL l ++ more) = (0, l, (putRowL l).length) := by
  obtain ⟨h1, h8, hall⟩ := row_may hm
  have hs : (UInt8.ofNat l.length).toNat = l.length := toNat_small (by omega)
  have h := puts_get l hw hall more
  unfold putRowL
  rw [List.cons_append, getRow, hs, if_neg (by omega), h]
  simp [Nat.add_comm]
/-- Unlike rows have unlike bytes, of which none begin the other ones. -/
theorem putRow_apart {l m : List V} (hl : ∀ v ∈ l, v.wf) (hm : ∀ v ∈ m, v.wf) (bl : rowB l = true) (bm : rowB m = true)
    (h : (putRowL l).take (min (putRowL l).length (putRowL m).length) = (putRowL m).take (min (putRowL l).length (putRowL m).length)) : l = m := by
  have gl := putRow_getRow l hl bl
  have gm := putRow_getRow m hm bm
  rcases Nat.le_total (putRowL l).length (putRowL m).length with hle | hle
  · rw [Nat.min_eq_left hle, List.take_length] at h
    have e : putRowL m = putRowL l ++ (putRowL m).drop (putRowL l).length := by
      conv => lhs; rw [← List.take_append_drop (putRowL l).length (putRowL m), ← h]
    have g1 := gl ((putRowL m).drop (putRowL l).length)
    have g2 := gm []
    rw [List.append_nil, e, g1] at g2
    simp only [Prod.mk.injEq] at g2
    exact g2.2.1
  · rw [Nat.min_eq_right hle, List.take_length] at h
    have e : putRowL l = putRowL m ++ (putRowL l).drop (putRowL m).length := by
      conv => lhs; rw [← List.take_append_drop (putRowL m).length (putRowL l), h]
    have g1 := gm ((putRowL l).drop (putRowL m).length)
    have g2 := gl []
    rw [List.append_nil, e, g1] at g2
    simp only [Prod.mk.injEq] at g2
    exact g2.2.1.symm
end Go.Proofs.YtjdfodmialhakaaDoor
