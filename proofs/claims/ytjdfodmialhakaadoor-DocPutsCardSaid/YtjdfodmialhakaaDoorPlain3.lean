/- Several texts in one: see each part's head. -/
import Derived.Test.YtjdfodmialhakaaDoorPlain
/- Plain laws: of what is got the bytes are what it was got of; what is less than a row's bytes is ErrEnd. -/
namespace Go.Proofs.YtjdfodmialhakaaDoor
open Go.RowKit

theorem textE_range (b : Bool) (l : List UInt8) : textE b l = 0 ∨ textE b l = 6 ∨ textE b l = 7 := by
  unfold textE
  repeat' split
  all_goals simp
theorem finV_range (v : V) (n : Nat) : (finV v n).1 = 0 ∨ (finV v n).1 = 6 ∨ (finV v n).1 = 7 := by
  unfold finV
  split <;> simp
theorem getV_range (l : List UInt8) : (getV l).1 = 0 ∨ (getV l).1 = 6 ∨ (getV l).1 = 7 := by
  unfold getV
  repeat' split
  all_goals first | exact finV_range _ _ | (simp; done) | (dsimp only; exact textE_range _ _)
theorem getVs_range : ∀ (n : Nat) (l : List UInt8), (getVs n l).1 = 0 ∨ (getVs n l).1 = 6 ∨ (getVs n l).1 = 7
  | 0, _ => .inl rfl
  | n + 1, l => by
    rw [getVs]
    split
    · split
      · exact .inl rfl
      · exact getVs_range n _
    · exact getV_range l
theorem getRow_range (l : List UInt8) : (getRow l).1 = 0 ∨ (getRow l).1 = 6 ∨ (getRow l).1 = 7 := by
  unfold getRow
  repeat' split
  all_goals first | (simp; done) | exact getVs_range _ _
/-- Of what is got the bytes are what it was got of. -/
theorem getVs_back : ∀ (n : Nat) (l : List UInt8), (getVs n l).1 = 0 →
    (getVs n l).2.1.length = n ∧ (∀ v ∈ (getVs n l).2.1, v.wf ∧ mayB v = true) ∧ l.take (getVs n l).2.2 = (getVs n l).2.1.flatMap putL ∧ (getVs n l).2.2 ≤ l.length
  | 0, l, _ => ⟨rfl, (fun v h => by cases h), by simp [getVs], by simp [getVs]⟩
  | n + 1, l, h => by
    rw [getVs] at h ⊢
    by_cases hv : (getV l).1 = 0
    · rw [if_pos hv] at h ⊢
      by_cases hr : (getVs n (l.drop (getV l).2.2)).1 = 0
      · rw [if_pos hr] at h ⊢
        obtain ⟨i1, i2, i3, i4⟩ := getVs_back n _ hr
        obtain ⟨v1, v2, v3, v4⟩ := getV_cases hv
        refine ⟨by simp [i1], ?_, ?_, ?_⟩
        · intro v hm
          rcases List.mem_cons.1 hm with rfl | hm
          · exact ⟨v2, v1⟩
          · exact i2 v hm
        · simp only [List.flatMap_cons]
          rw [List.take_add, v3, i3]
        · simp only
          rw [List.length_drop] at i4
          omega
      · rw [if_neg hr] at h
        exact absurd h hr
    · rw [if_neg hv] at h
      exact absurd h hv
theorem getRow_back {l : List UInt8} (h : (getRow l).1 = 0) :
    rowB (getRow l).2.1 = true ∧ (∀ v ∈ (getRow l).2.1, v.wf) ∧ l.take (getRow l).2.2 = putRowL (getRow l).2.1 ∧ 1 ≤ (getRow l).2.2 ∧ (getRow l).2.2 ≤ l.length := by
  cases l with
  | nil => cases h
  | cons c r =>
    by_cases hc : c.toNat < 1 ∨ 8 < c.toNat
    · rw [getRow, if_pos hc] at h; cases h
    · by_cases hv : (getVs c.toNat r).1 = 0
      · have e : getRow (c :: r) = (0, (getVs c.toNat r).2.1, 1 + (getVs c.toNat r).2.2) := by rw [getRow, if_neg hc, if_pos hv]
        rw [e]
        obtain ⟨i1, i2, i3, i4⟩ := getVs_back _ _ hv
        refine ⟨?_, fun v hm => (i2 v hm).1, ?_, by simp, by simp; omega⟩
        · unfold rowB
          simp only [Bool.and_eq_true, decide_eq_true_eq, List.all_eq_true, i1]
          exact ⟨⟨by omega, by omega⟩, fun v hm => (i2 v hm).2⟩
        · unfold putRowL
          simp only [i1]
          rw [Nat.add_comm, List.take_succ_cons, i3]
          simp
      · rw [getRow, if_neg hc, if_neg hv] at h
        exact absurd h hv
end Go.Proofs.YtjdfodmialhakaaDoor

/- Plain laws of valid texts that are cut: what is there of them begins one that may be. -/
namespace Go.Proofs.YtjdfodmialhakaaDoor
open Go.RowKit

theorem slow_ok {n b0 b1 b2 b3 sz lo hi : Nat} (hs : 2 ≤ sz ∧ sz ≤ 4) (h : ¬ ((Lib.slowN n b0 b1 b2 b3 sz lo hi).1 = 65533 ∧ (Lib.slowN n b0 b1 b2 b3 sz lo hi).2 = 1)) :
    sz ≤ n ∧ lo ≤ b1 ∧ b1 ≤ hi ∧ (3 ≤ sz → 128 ≤ b2 ∧ b2 ≤ 191) ∧ (4 ≤ sz → 128 ≤ b3 ∧ b3 ≤ 191) ∧ (Lib.slowN n b0 b1 b2 b3 sz lo hi).2 = sz := by
  unfold Lib.slowN at h ⊢
  by_cases c1 : n < sz
  · rw [if_pos c1] at h; simp at h
  rw [if_neg c1] at h ⊢
  by_cases c2 : b1 < lo ∨ hi < b1
  · rw [if_pos c2] at h; simp at h
  rw [if_neg c2] at h ⊢
  by_cases c3 : sz ≤ 2
  · rw [if_pos c3]
    refine ⟨by omega, by omega, by omega, fun h => by omega, fun h => by omega, by simp; omega⟩
  rw [if_neg c3] at h ⊢
  by_cases c4 : b2 < 128 ∨ 191 < b2
  · rw [if_pos c4] at h; simp at h
  rw [if_neg c4] at h ⊢
  by_cases c5 : sz ≤ 3
  · rw [if_pos c5]
    refine ⟨by omega, by omega, by omega, fun h => by omega, fun h => by omega, by simp; omega⟩
  rw [if_neg c5] at h ⊢
  by_cases c6 : b3 < 128 ∨ 191 < b3
  · rw [if_pos c6] at h; simp at h
  rw [if_neg c6]
  refine ⟨by omega, by omega, by omega, fun h => by omega, fun h => by omega, by simp; omega⟩
theorem slow_same {n n' b0 b1 b2 b3 c2 c3 sz lo hi : Nat} (hn : sz ≤ n) (hn' : sz ≤ n') (h2 : 3 ≤ sz → c2 = b2) (h3 : 4 ≤ sz → c3 = b3) : Lib.slowN n' b0 b1 c2 c3 sz lo hi = Lib.slowN n b0 b1 b2 b3 sz lo hi := by
  have m1 : ¬ n' < sz := by omega
  have m2 : ¬ n < sz := by omega
  unfold Lib.slowN
  simp only [if_neg m1, if_neg m2]
  by_cases k2 : sz ≤ 2
  · simp only [if_pos k2]
  · rw [h2 (by omega)]
    by_cases k3 : sz ≤ 3
    · simp only [if_pos k3]
    · rw [h3 (by omega)]
theorem slow_short {n b0 b1 b2 b3 sz lo hi : Nat} (h : n < sz) : Lib.slowN n b0 b1 b2 b3 sz lo hi = (65533, 1) := by
  unfold Lib.slowN
  rw [if_pos h]
theorem getD_take (l : List UInt8) (j i : Nat) (h : i < j) : (l.take j).getD i 0 = l.getD i 0 := by
  simp [List.getD_eq_getElem?_getD, List.getElem?_take_of_lt h]
theorem byte_lt (l : List UInt8) (i : Nat) : (l.getD i 0).toNat < 256 := UInt8.toNat_lt _
theorem firstT_sz {b : Nat} (h : Lib.firstT b < 240) : 2 ≤ Lib.firstT b % 8 ∧ Lib.firstT b % 8 ≤ 4 := by
  have := Lib.firstT_cases b
  omega
theorem need_sz {b : UInt8} (h : Lib.firstT b.toNat < 240) : needB b = Lib.firstT b.toNat % 8 := by
  unfold needB
  rcases Lib.firstT_low h with c | c | c | c | c | c | c
  · rw [Lib.firstT_C2 c, if_neg (by omega), if_neg (by omega)]
  · rw [Lib.firstT_E0 c, if_neg (by omega), if_pos (by omega)]
  · rw [Lib.firstT_E1 c, if_neg (by omega), if_pos (by omega)]
  · rw [Lib.firstT_ED c, if_neg (by omega), if_pos (by omega)]
  · rw [Lib.firstT_F0 c, if_pos (by omega)]
  · rw [Lib.firstT_F1 c, if_pos (by omega)]
  · rw [Lib.firstT_F4 c, if_pos (by omega)]
theorem bad_iff (l : List UInt8) : badL l = true ↔ (Lib.decodeL l).1 = 65533 ∧ (Lib.decodeL l).2 = 1 := by
  simp [badL]
/-- A letter that is cut behind its end is the letter; one that is cut within is none yet, and begins one of as many bytes. -/
theorem rune_cut {l : List UInt8} (hl : l ≠ []) (hb : badL l = false) (j : Nat) (hj : 1 ≤ j) :
    ((Lib.decodeL l).2 ≤ j → Lib.decodeL (l.take j) = Lib.decodeL l) ∧
    (j < (Lib.decodeL l).2 → badL (l.take j) = true ∧ fullB (l.take j) = false ∧ needB ((l.take j).getD 0 0) = (Lib.decodeL l).2) := by
  have hlen : 1 ≤ l.length := List.length_pos_iff.2 hl
  have hnb : ¬ ((Lib.decodeL l).1 = 65533 ∧ (Lib.decodeL l).2 = 1) := fun h => by rw [(bad_iff l).2 h] at hb; cases hb
  have e0 : (l.take j).getD 0 0 = l.getD 0 0 := getD_take l j 0 (by omega)
  have hx := Lib.firstT_cases (l.getD 0 0).toNat
  have hxle : Lib.firstT (l.getD 0 0).toNat = 240 ∨ Lib.firstT (l.getD 0 0).toNat = 241 ∨ Lib.firstT (l.getD 0 0).toNat < 240 := by omega
  have hlj : (l.take j).length = min j l.length := by simp
  rw [Lib.decodeL_N l] at hnb ⊢
  rw [bad_iff, Lib.decodeL_N (l.take j), e0, hlj]
  rcases hxle with hx | hx | hx
  · rw [Lib.ascii_eq _ _ _ _ _ hx, Lib.ascii_eq _ _ _ _ _ hx]
    exact ⟨fun _ => rfl, fun h => by simp only at h; omega⟩
  · rw [Lib.bad_eq _ _ _ _ _ (byte_lt l 0) hx] at hnb
    exact absurd ⟨rfl, rfl⟩ hnb
  · have hsz := firstT_sz hx
    rw [← Lib.slow_eq l.length _ _ _ _ hlen (byte_lt l 1) (byte_lt l 2) (byte_lt l 3) hx] at hnb ⊢
    rw [← Lib.slow_eq (min j l.length) _ _ _ _ (by omega) (byte_lt _ 1) (byte_lt _ 2) (byte_lt _ 3) hx]
    obtain ⟨k1, k2, k3, k4, k5, k6⟩ := slow_ok hsz hnb
    rw [k6]
    refine ⟨fun hle => ?_, fun hlt => ⟨?_, ?_, ?_⟩⟩
    · rw [getD_take l j 1 (by omega)]
      exact slow_same k1 (by omega) (fun h => by rw [getD_take l j 2 (by omega)]) (fun h => by rw [getD_take l j 3 (by omega)])
    · rw [slow_short (by omega)]
      exact ⟨rfl, rfl⟩
    · unfold fullB fullN
      rw [hlj, e0, if_neg (by omega), if_neg (by omega)]
      have n1 : ¬ (1 < min j l.length ∧ (((l.take j).getD 1 0).toNat < Lib.accLo (Lib.firstT (l.getD 0 0).toNat / 16) ∨ Lib.accHi (Lib.firstT (l.getD 0 0).toNat / 16) < ((l.take j).getD 1 0).toNat)) := by
        rintro ⟨h1, h2⟩
        rw [getD_take l j 1 (by omega)] at h2
        omega
      rw [if_neg n1]
      refine decide_eq_false ?_
      rintro ⟨h1, h2⟩
      rw [getD_take l j 2 (by omega)] at h2
      have := k4 (by omega)
      omega
    · exact need_sz hx
/-- A valid text that is cut: what is there of it begins one of its length. -/
theorem opens_cut : ∀ (f : Nat) (t : List UInt8) (j m : Nat), t.length ≤ f → Lib.validD t = true → t.length ≤ m → j ≤ t.length → opensB (t.take j) m = true
  | 0, t, j, m, hf, _, _, _ => by
    have : t = [] := List.eq_nil_of_length_eq_zero (by omega)
    subst this
    simp [opensB_nil]
  | f + 1, t, j, m, hf, hv, hm, hj => by
    rcases Nat.eq_zero_or_pos j with rfl | hpos
    · simp [opensB_nil]
    · have hl : t ≠ [] := by
        intro e
        subst e
        simp at hj
        omega
      have hl' : t.take j ≠ [] := by
        intro e
        have h1 : (t.take j).length = 0 := by rw [e]; rfl
        rw [List.length_take] at h1
        have := List.length_pos_iff.2 hl
        omega
      rw [Lib.validD_step t hl] at hv
      by_cases hb : (Lib.decodeL t).1 = 65533 ∧ (Lib.decodeL t).2 = 1
      · rw [if_pos hb] at hv; cases hv
      · rw [if_neg hb] at hv
        have hbad : badL t = false := by
          cases h : badL t
          · rfl
          · exact absurd ((bad_iff t).1 h) hb
        have hw := Lib.decodeL_width t
        have hle := Lib.decodeL_le t hl
        obtain ⟨r1, r2⟩ := rune_cut hl hbad j hpos
        by_cases hz : (Lib.decodeL t).2 ≤ j
        · have hd := r1 hz
          have hbad' : badL (t.take j) = false := by
            have : badL (t.take j) = badL t := by unfold badL; rw [hd]
            rw [this]; exact hbad
          rw [opensB_step hl' hbad', hd]
          have e : (t.take j).drop (Lib.decodeL t).2 = (t.drop (Lib.decodeL t).2).take (j - (Lib.decodeL t).2) := by rw [List.drop_take]
          rw [e]
          exact opens_cut f _ _ _ (by rw [List.length_drop]; omega) hv (by rw [List.length_drop]; omega) (by rw [List.length_drop]; omega)
        · obtain ⟨q1, q2, q3⟩ := r2 (by omega)
          rw [opensB_bad hl' q1, q2, q3]
          have hlj : (t.take j).length = j := by simp; omega
          rw [hlj]
          simp
          omega

theorem text_cut {t : ByteArray} (k : Nat) (_hk : k = 4 ∨ k = 5) (ht : t.size ≤ 100) (hv : k = 5 → Lib.validD t.data.toList = true) (j : Nat) (hj : j < t.size) :
    textE (k == 5) (UInt8.ofNat t.size :: t.data.toList.take j) = 6 := by
  have hs := toNat_small ht
  have hlen : t.data.toList.length = t.size := by simp
  rw [textE, hs, if_neg (by omega)]
  have htk : (t.data.toList.take j).take t.size = t.data.toList.take j := List.take_of_length_le (by rw [List.length_take]; omega)
  rw [htk]
  have ho : ((k == 5) && !opensB (t.data.toList.take j) t.size) = false := by
    by_cases h5 : k = 5
    · rw [opens_cut _ t.data.toList j t.size (Nat.le_refl _) (hv h5) (by omega) (by omega)]
      simp
    · simp [h5]
  rw [ho]
  have hl : (t.data.toList.take j).length < t.size := by rw [List.length_take]; omega
  simp only [Bool.false_eq_true, if_false, if_pos hl]
theorem text_get_cut (k : Nat) (hk : k = 4 ∨ k = 5) (t : ByteArray) (ht : t.size ≤ 100) (hv : k = 5 → Lib.validD t.data.toList = true) (i : Nat) (hi : i < t.size + 2) :
    (getV ((UInt8.ofNat k :: UInt8.ofNat t.size :: t.data.toList).take i)).1 = 6 := by
  have hk' : (UInt8.ofNat k).toNat = k := toNat_small (by omega)
  have k0 : ¬ k = 0 := by omega
  have k1 : ¬ k = 1 := by omega
  have k2 : ¬ k = 2 := by omega
  have k3 : ¬ k = 3 := by omega
  match i with
  | 0 => rfl
  | 1 => simp [getV, hk', k0, k1, k2, k3, hk]
  | j + 2 =>
    have h := text_cut k hk ht hv j (by omega)
    simp only [List.take_succ_cons]
    rw [getV, hk', if_neg k0, if_neg k1, if_neg k2, if_neg k3, if_pos hk]
    simp only [h]
    rfl
theorem num_get_cut (c : UInt8) (hc : c.toNat = 2 ∨ c.toNat = 3) (x : List UInt8) (h8 : x.length = 8) (i : Nat) (hi : i < 9) : (getV ((c :: x).take i)).1 = 6 := by
  match i with
  | 0 => rfl
  | j + 1 =>
    have hl : (x.take j).length < 8 := by rw [List.length_take]; omega
    rw [List.take_succ_cons]
    generalize x.take j = y at hl
    rcases hc with hc | hc
    · simp [getV, hc, hl]
    · simp [getV, hc, hl]
/-- All that is less than a value's bytes is ErrEnd. -/
theorem put_cut (v : V) (hm : mayB v = true) (i : Nat) (hi : i < (putL v).length) : (getV ((putL v).take i)).1 = 6 := by
  have hk := may_kind hm
  obtain ⟨k, n, r, t⟩ := v
  simp only at hk
  rcases hk with rfl | rfl | rfl | rfl | rfl | rfl
  · have e : putL ⟨0, n, r, t⟩ = [0] := by simp [putL]
    rw [e] at hi ⊢
    obtain rfl : i = 0 := by simp at hi; omega
    rfl
  · have e : putL ⟨1, n, r, t⟩ = [1, UInt8.ofNat n.toNat] := by simp [putL]
    rw [e] at hi ⊢
    match i, hi with
    | 0, _ => rfl
    | 1, _ => rfl
  · have e : putL ⟨2, n, r, t⟩ = 2 :: numL 8 (u64of n) := by simp [putL]
    rw [e] at hi ⊢
    exact num_get_cut 2 (.inl rfl) _ (numL_length _ _) i (by rw [List.length_cons, numL_length] at hi; omega)
  · have e : putL ⟨3, n, r, t⟩ = 3 :: numL 8 r.toNat := by simp [putL]
    rw [e] at hi ⊢
    exact num_get_cut 3 (.inr rfl) _ (numL_length _ _) i (by rw [List.length_cons, numL_length] at hi; omega)
  · obtain ⟨_, _, ht⟩ := may_4 hm
    have e : putL ⟨4, n, r, t⟩ = UInt8.ofNat 4 :: UInt8.ofNat t.size :: t.data.toList := by simp [putL]
    rw [e] at hi ⊢
    exact text_get_cut 4 (.inl rfl) t ht (fun h => by cases h) i (by simp at hi; omega)
  · obtain ⟨_, _, ht, hv⟩ := may_5 hm
    have e : putL ⟨5, n, r, t⟩ = UInt8.ofNat 5 :: UInt8.ofNat t.size :: t.data.toList := by simp [putL]
    rw [e] at hi ⊢
    exact text_get_cut 5 (.inr rfl) t ht (fun _ => hv) i (by simp at hi; omega)
theorem puts_cut : ∀ (l : List V), (∀ v ∈ l, v.wf) → (∀ v ∈ l, mayB v = true) → ∀ i, i < (l.flatMap putL).length → (getVs l.length ((l.flatMap putL).take i)).1 = 6
  | [], _, _, i, hi => by simp at hi
  | v :: l, hw, hm, i, hi => by
    rw [List.length_cons, List.flatMap_cons, getVs]
    by_cases h : i < (putL v).length
    · have e : (putL v ++ l.flatMap putL).take i = (putL v).take i := List.take_append_of_le_length (by omega)
      have hc := put_cut v (hm v (by simp)) i h
      rw [e, if_neg (by rw [hc]; decide)]
      exact hc
    · have e : (putL v ++ l.flatMap putL).take i = putL v ++ (l.flatMap putL).take (i - (putL v).length) := by
        rw [List.take_append, List.take_of_length_le (by omega)]
      have hg := put_get v (hw v (by simp)) (hm v (by simp)) ((l.flatMap putL).take (i - (putL v).length))
      have ih := puts_cut l (fun x hx => hw x (by simp [hx])) (fun x hx => hm x (by simp [hx])) (i - (putL v).length) (by rw [List.flatMap_cons, List.length_append] at hi; omega)
      rw [e, hg]
      simp only [if_true, List.drop_left]
      rw [if_neg (by rw [ih]; decide)]
      exact ih
/-- All that is less than a row's bytes is ErrEnd. -/
theorem putRow_cut (l : List V) (hw : ∀ v ∈ l, v.wf) (hm : rowB l = true) (i : Nat) (hi : i < (putRowL l).length) : (getRow ((putRowL l).take i)).1 = 6 := by
  obtain ⟨h1, h8, hall⟩ := row_may hm
  have hs : (UInt8.ofNat l.length).toNat = l.length := toNat_small (by omega)
  unfold putRowL at hi ⊢
  match i with
  | 0 => rfl
  | j + 1 =>
    have hc := puts_cut l hw hall j (by rw [List.length_cons] at hi; omega)
    rw [List.take_succ_cons, getRow, hs, if_neg (by omega), if_neg (by rw [hc]; decide)]
    exact hc
end Go.Proofs.YtjdfodmialhakaaDoor
