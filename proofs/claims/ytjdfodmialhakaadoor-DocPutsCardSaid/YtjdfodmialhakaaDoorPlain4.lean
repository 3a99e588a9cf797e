/- Plain law: the code's opening of a text and the reference's are one. -/
import Derived.Test.YtjdfodmialhakaaDoorPlain3
import Derived.Test.YtjdfodmialhakaaDoorRef8
namespace Go.Proofs.YtjdfodmialhakaaDoor
open Go.RowKit

theorem acc_low {c : Nat} (h : Lib.firstT c < 240) : Lib.firstT c % 8 = leadN c ∧ Lib.accLo (Lib.firstT c / 16) = lowN c ∧ Lib.accHi (Lib.firstT c / 16) = highN c ∧ c < 256 := by
  rcases Lib.firstT_low h with k | k | k | k | k | k | k
  · rw [Lib.firstT_C2 k]; rcases lead_class c (by omega) with q | q | q | q | q | q | q | q | q | q <;> first | omega | (rw [q.2.1, q.2.2.1, q.2.2.2]; exact ⟨rfl, rfl, rfl, by omega⟩)
  · rw [Lib.firstT_E0 k]; rcases lead_class c (by omega) with q | q | q | q | q | q | q | q | q | q <;> first | omega | (rw [q.2.1, q.2.2.1, q.2.2.2]; exact ⟨rfl, rfl, rfl, by omega⟩)
  · rw [Lib.firstT_E1 k]; rcases lead_class c (by omega) with q | q | q | q | q | q | q | q | q | q <;> first | omega | (rw [q.2.1, q.2.2.1, q.2.2.2]; exact ⟨rfl, rfl, rfl, by omega⟩)
  · rw [Lib.firstT_ED k]; rcases lead_class c (by omega) with q | q | q | q | q | q | q | q | q | q <;> first | omega | (rw [q.2.1, q.2.2.1, q.2.2.2]; exact ⟨rfl, rfl, rfl, by omega⟩)
  · rw [Lib.firstT_F0 k]; rcases lead_class c (by omega) with q | q | q | q | q | q | q | q | q | q <;> first | omega | (rw [q.2.1, q.2.2.1, q.2.2.2]; exact ⟨rfl, rfl, rfl, by omega⟩)
  · rw [Lib.firstT_F1 k]; rcases lead_class c (by omega) with q | q | q | q | q | q | q | q | q | q <;> first | omega | (rw [q.2.1, q.2.2.1, q.2.2.2]; exact ⟨rfl, rfl, rfl, by omega⟩)
  · rw [Lib.firstT_F4 k]; rcases lead_class c (by omega) with q | q | q | q | q | q | q | q | q | q <;> first | omega | (rw [q.2.1, q.2.2.1, q.2.2.2]; exact ⟨rfl, rfl, rfl, by omega⟩)
theorem lead_none {c : Nat} (hc : c < 256) (h : Lib.firstT c = 241) : leadN c = 0 := by
  rcases lead_class c hc with q | q | q | q | q | q | q | q | q | q
  · exact q.2
  · rw [Lib.firstT_C2 (by omega)] at h; cases h
  · rw [Lib.firstT_E0 q.1] at h; cases h
  · rw [Lib.firstT_E1 (by omega)] at h; cases h
  · rw [Lib.firstT_ED q.1] at h; cases h
  · rw [Lib.firstT_E1 (by omega)] at h; cases h
  · rw [Lib.firstT_F0 q.1] at h; cases h
  · rw [Lib.firstT_F1 (by omega)] at h; cases h
  · rw [Lib.firstT_F4 q.1] at h; cases h
  · exact q.2
/-- No letter: cut, it is none. -/
theorem bad_cut {l : List UInt8} (hl : l ≠ []) (hb : badL l = true) (j : Nat) (hj : 1 ≤ j) : badL (l.take j) = true := by
  have hlen : 1 ≤ l.length := List.length_pos_iff.2 hl
  have hnb := (bad_iff l).1 hb
  have e0 : (l.take j).getD 0 0 = l.getD 0 0 := getD_take l j 0 (by omega)
  have hx := Lib.firstT_cases (l.getD 0 0).toNat
  have hxle : Lib.firstT (l.getD 0 0).toNat = 240 ∨ Lib.firstT (l.getD 0 0).toNat = 241 ∨ Lib.firstT (l.getD 0 0).toNat < 240 := by omega
  have hlj : (l.take j).length = min j l.length := by simp
  rw [Lib.decodeL_N l] at hnb
  rw [bad_iff, Lib.decodeL_N (l.take j), e0, hlj]
  have hbl := byte_lt l 0
  rcases hxle with hx | hx | hx
  · rw [Lib.ascii_eq _ _ _ _ _ hx] at hnb
    have := hnb.1
    simp only at this
    omega
  · rw [Lib.bad_eq _ _ _ _ _ (byte_lt l 0) hx]
    exact ⟨rfl, rfl⟩
  · have hsz := firstT_sz hx
    rw [← Lib.slow_eq l.length _ _ _ _ hlen (byte_lt l 1) (byte_lt l 2) (byte_lt l 3) hx] at hnb
    rw [← Lib.slow_eq (min j l.length) _ _ _ _ (by omega) (byte_lt _ 1) (byte_lt _ 2) (byte_lt _ 3) hx]
    refine Decidable.byContradiction fun hn => ?_
    obtain ⟨k1, k2, k3, k4, k5, k6⟩ := slow_ok hsz hn
    rw [getD_take l j 1 (by omega)] at hn
    rw [slow_same (n := l.length) (b2 := (l.getD 2 0).toNat) (b3 := (l.getD 3 0).toNat) (by omega) k1 (fun h => by rw [getD_take l j 2 (by omega)]) (fun h => by rw [getD_take l j 3 (by omega)])] at hn
    exact hn hnb
theorem valid_bad {l : List UInt8} (hl : l ≠ []) (hb : badL l = true) : Lib.validD l = false := by
  rw [Lib.validD_step l hl, if_pos ((bad_iff l).1 hb)]
theorem take_ne {l : List UInt8} (hl : l ≠ []) {j : Nat} (hj : 1 ≤ j) : l.take j ≠ [] := by
  intro e
  have h1 : (l.take j).length = 0 := by rw [e]; rfl
  rw [List.length_take] at h1
  have := List.length_pos_iff.2 hl
  omega
theorem tb_bad {l : List UInt8} (hl : l ≠ []) (hb : badL l = true) (n : Int) : ∀ f, f ≤ 4 → 4 - f ≤ l.length → tbFrom l n f = (decide (l.length ≤ 3) && ropensB l n)
  | 0, _, h => by
    rw [tbFrom, decide_eq_false (by omega)]; rfl
  | f + 1, hf, h => by
    rw [tbFrom, if_neg (by omega)]
    rcases Nat.lt_or_ge (3 - f) l.length with hlt | hge
    · rw [valid_bad (take_ne hl (by omega)) (bad_cut hl hb _ (by omega))]
      rw [if_neg (by decide)]
      exact tb_bad hl hb n f (by omega) (by omega)
    · have e : l.length - (3 - f) = 0 := by omega
      have e2 : 3 - f = l.length := by omega
      have hp := List.length_pos_iff.2 hl
      have e3 : (3 - f == 0) = false := by rw [beq_eq_false_iff_ne]; omega
      rw [e, List.take_zero, Lib.validD_nil, if_pos rfl, e3, e2, List.drop_zero, decide_eq_true (by omega)]
      have : n - (l.length : Int) + (l.length : Int) = n := by omega
      rw [this]; rfl
theorem tb_good {l : List UInt8} (hl : l ≠ []) (hb : badL l = false) (n : Int) : ∀ f, f ≤ 4 → 4 - f ≤ l.length - (Lib.decodeL l).2 → tbFrom l n f = tbFrom (l.drop (Lib.decodeL l).2) (n - (Lib.decodeL l).2) f
  | 0, _, _ => rfl
  | f + 1, hf, h => by
    have hle := Lib.decodeL_le l hl
    have hw := Lib.decodeL_width l
    have hz1 : 1 ≤ (Lib.decodeL l).2 := by omega
    have hr := (rune_cut hl hb (l.length - (3 - f)) (by omega)).1 (by omega)
    have hne : l.take (l.length - (3 - f)) ≠ [] := take_ne hl (by omega)
    have hnb : ¬ ((Lib.decodeL (l.take (l.length - (3 - f)))).1 = 65533 ∧ (Lib.decodeL (l.take (l.length - (3 - f)))).2 = 1) := by
      rw [hr]; intro h'; rw [(bad_iff l).2 h'] at hb; cases hb
    have hv : Lib.validD (l.take (l.length - (3 - f))) = Lib.validD ((l.drop (Lib.decodeL l).2).take (l.length - (Lib.decodeL l).2 - (3 - f))) := by
      rw [Lib.validD_step _ hne, if_neg hnb, hr, List.drop_take]
      congr 2
      omega
    rw [tbFrom, tbFrom, List.length_drop, if_neg (show ¬ l.length < 3 - f by omega), if_neg (show ¬ l.length - (Lib.decodeL l).2 < 3 - f by omega), ← hv, List.drop_drop]
    cases hc : Lib.validD (l.take (l.length - (3 - f)))
    · rw [if_neg (by decide), if_neg (by decide)]
      rcases Nat.eq_zero_or_pos f with h0 | hpos
      · rw [h0]; rfl
      · refine tb_good hl hb n f (by omega) ?_
        rcases Nat.lt_or_ge (3 - f) (l.length - (Lib.decodeL l).2) with hlt | hge
        · omega
        · rw [hv] at hc
          have e : l.length - (Lib.decodeL l).2 - (3 - f) = 0 := by omega
          rw [e, List.take_zero, Lib.validD_nil] at hc
          cases hc
    · rw [if_pos rfl, if_pos rfl]
      congr 2
      · congr 1; omega
      · omega
theorem bad_same {l : List UInt8} (hl : l ≠ []) (hb : badL l = true) (m : Nat) : (decide (l.length < m) && !fullB l && decide (needB (l.getD 0 0) ≤ m)) = (decide (l.length ≤ 3) && ropensB l m) := by
  have hp := List.length_pos_iff.2 hl
  have hx := Lib.firstT_cases (l.getD 0 0).toNat
  have hxle : Lib.firstT (l.getD 0 0).toNat = 240 ∨ Lib.firstT (l.getD 0 0).toNat = 241 ∨ Lib.firstT (l.getD 0 0).toNat < 240 := by omega
  unfold ropensB ropensN fullB
  rcases hxle with hx | hx | hx
  · have hnb := (bad_iff l).1 hb
    rw [Lib.decodeL_N l, Lib.ascii_eq _ _ _ _ _ hx] at hnb
    have h1 := hnb.1
    have h2 := byte_lt l 0
    simp only at h1
    omega
  · rw [hx, full_t hp (by omega), lead_none (byte_lt l 0) hx]
    simp
  · obtain ⟨a1, a2, a3, _⟩ := acc_low hx
    have hsz := firstT_sz hx
    rw [need_sz hx, ← a1, ← a2, ← a3]
    unfold fullN
    generalize Lib.firstT (l.getD 0 0).toNat = x at hsz ⊢
    generalize (l.getD 1 0).toNat = b1
    generalize (l.getD 2 0).toNat = b2
    generalize Lib.accLo (x / 16) = lo
    generalize Lib.accHi (x / 16) = hi
    generalize x % 8 = sz at hsz ⊢
    generalize l.length = L at hp ⊢
    rw [if_neg (show ¬ L = 0 by omega)]
    by_cases c1 : sz ≤ L
    · rw [if_pos c1, Bool.eq_iff_iff]
      simp only [Bool.and_eq_true, decide_eq_true_eq, Bool.not_true, Bool.false_eq_true, and_false, false_and, false_iff]
      omega
    · rw [if_neg c1]
      by_cases c2 : 1 < L ∧ (b1 < lo ∨ hi < b1)
      · rw [if_pos c2, Bool.eq_iff_iff]
        simp only [Bool.and_eq_true, decide_eq_true_eq, Bool.not_true, Bool.false_eq_true, and_false, false_and, false_iff]
        omega
      · rw [if_neg c2, Bool.eq_iff_iff]
        simp only [Bool.and_eq_true, Bool.not_eq_true', decide_eq_true_eq, decide_eq_false_iff_not]
        omega
theorem tb_same : ∀ (f : Nat) (l : List UInt8) (m : Nat), l.length ≤ f → l.length < m → opensB l m = tbB l m
  | 0, l, m, hf, hm => by
    have : l = [] := List.eq_nil_of_length_eq_zero (by omega)
    subst this; rfl
  | f + 1, l, m, hf, hm => by
    by_cases hl : l = []
    · subst hl; rfl
    · cases hb : badL l
      · have hle := Lib.decodeL_le l hl
        have hw := Lib.decodeL_width l
        rw [opensB_step hl hb, tb_same f _ _ (by rw [List.length_drop]; omega) (by rw [List.length_drop]; omega)]
        unfold tbB
        rw [tb_good hl hb m 4 (by omega) (by omega)]
        congr 1
        omega
      · rw [opensB_bad hl hb, bad_same hl hb]
        unfold tbB
        rw [tb_bad hl hb m 4 (by omega) (by omega)]
theorem opensB_tb {l : List UInt8} {m : Nat} (h : l.length < m) : opensB l m = tbB l m := tb_same _ l m (Nat.le_refl _) h
theorem may_t4 {t : ByteArray} (h : ¬ t.size ≤ 100) {k : Nat} (hk : k = 4 ∨ k = 5) : mayB ⟨k, 0, 0, t⟩ = false := by
  rcases hk with rfl | rfl <;> simp [mayB, h]
/-- The code's answer is the reference's. -/
theorem getV_refG : ∀ l : List UInt8, getV l = refG l
  | [] => rfl
  | c :: r => by
    by_cases k4 : c.toNat = 4 ∨ c.toNat = 5
    · rw [refG_t c r k4]
      simp only [getV]
      rw [if_neg (by omega), if_neg (by omega), if_neg (by omega), if_neg (by omega), if_pos k4]
      cases r with
      | nil => rfl
      | cons b r =>
        simp only
        by_cases h100 : 100 < b.toNat
        · have hE : textE (c.toNat == 5) (b :: r) = 7 := by rw [textE, if_pos h100]
          rw [hE, if_neg (by decide)]
          by_cases hsh : r.length < b.toNat
          · rw [if_pos hsh, decide_eq_false (by omega)]; rfl
          · rw [if_neg hsh, finV_not (may_t4 (by simp [ByteArray.size]; omega) k4)]
        · by_cases hsh : r.length < b.toNat
          · rw [if_pos hsh, decide_eq_true (by omega), Bool.true_and]
            have ht : r.take b.toNat = r := List.take_of_length_le (by omega)
            have hE : textE (c.toNat == 5) (b :: r) = if (c.toNat == 5) && !tbB r b.toNat then 7 else 6 := by
              rw [textE, if_neg h100, if_pos hsh, ht, opensB_tb hsh]
            rw [hE]
            rcases k4 with k4 | k4
            · rw [k4]; rfl
            · rw [k4]
              cases tbB r b.toNat <;> rfl
          · rw [if_neg hsh]
            have hE : textE (c.toNat == 5) (b :: r) = if (c.toNat == 5) && !opensB (r.take b.toNat) b.toNat then 7 else 0 := by
              rw [textE, if_neg h100, if_neg hsh]
            rw [hE]
            rcases k4 with k4 | k4
            · rw [k4]; rfl
            · rw [k4]
              cases ho : opensB (r.take b.toNat) b.toNat
              · have hv : Lib.validD (r.take b.toNat) = false := by
                  cases hv : Lib.validD (r.take b.toNat)
                  · rfl
                  · rw [opensB_valid _ hv] at ho; cases ho
                have hm : mayB ⟨((5 : Nat) : Int), 0, 0, ⟨(r.take b.toNat).toArray⟩⟩ = false := by simp [mayB, hv]
                rw [finV_not hm]; rfl
              · rfl
    · simp only [getV, refG]
      by_cases k0 : c.toNat = 0
      · rw [if_pos k0, if_pos k0]
      by_cases k1 : c.toNat = 1
      · rw [if_neg k0, if_neg k0, if_pos k1, if_pos k1]
        cases r <;> rfl
      rw [if_neg k0, if_neg k0, if_neg k1, if_neg k1, if_neg k4, if_neg k4]
end Go.Proofs.YtjdfodmialhakaaDoor
