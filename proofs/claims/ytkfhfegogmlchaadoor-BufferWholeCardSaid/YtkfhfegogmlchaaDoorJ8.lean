/- Several texts in one: see each part's head. -/
import Derived.Test.YtkfhfegogmlchaaDoorJ7
import Derived.StillTailTactics
import Derived.LoopN
import Derived.Test.YtkfhfegogmlchaaDoorJ5
import Derived.Test.YtkfhfegogmlchaaDoorJ3
import Derived.Test.YtkfhfegogmlchaaDoorJ1
import Derived.Test.YtkfhfegogmlchaaDoorJ6
/- Records of topics that come to a buffer in any mixture: the plain law. -/
namespace Go.Proofs.YtkfhfegogmlchaaDoor

/-- How many changes of table k the first i transactions have; T: each transaction's changes' tables. -/
def preT (T : List (List Nat)) : Nat → Nat → Nat
  | 0, _ => 0
  | i + 1, k => preT T i k + (T.getD i []).count k
/-- How many changes the first i have. -/
def szT (T : List (List Nat)) : Nat → Nat
  | 0 => 0
  | i + 1 => szT T i + (T.getD i []).length
theorem preT_mono {T : List (List Nat)} {i j k : Nat} (h : i ≤ j) : preT T i k ≤ preT T j k := by
  induction h with
  | refl => exact Nat.le_refl _
  | step _ ih => exact Nat.le_trans ih (Nat.le_add_right _ _)
theorem szT_mono {T : List (List Nat)} {i j : Nat} (h : i ≤ j) : szT T i ≤ szT T j := by
  induction h with
  | refl => exact Nat.le_refl _
  | step _ ih => exact Nat.le_trans ih (Nat.le_add_right _ _)
def sumN (f : Nat → Nat) : Nat → Nat
  | 0 => 0
  | n + 1 => sumN f n + f n
theorem sumN_le {f g : Nat → Nat} : ∀ n, (∀ k, k < n → f k ≤ g k) → sumN f n ≤ sumN g n
  | 0, _ => Nat.le_refl _
  | n + 1, h => Nat.add_le_add (sumN_le n (fun k hk => h k (by omega))) (h n (by omega))
theorem sumN_add {f g : Nat → Nat} : ∀ n, sumN (fun k => f k + g k) n = sumN f n + sumN g n
  | 0 => rfl
  | n + 1 => by simp only [sumN]; rw [sumN_add n]; omega
theorem sumN_congr {f g : Nat → Nat} : ∀ n, (∀ k, k < n → f k = g k) → sumN f n = sumN g n
  | 0, _ => rfl
  | n + 1, h => by simp only [sumN]; rw [sumN_congr n (fun k hk => h k (by omega)), h n (by omega)]
theorem sumN_zero : ∀ n, sumN (fun _ => 0) n = 0
  | 0 => rfl
  | n + 1 => by simp only [sumN]; rw [sumN_zero n]
theorem sumN_one {f : Nat → Nat} {j : Nat} : ∀ n, j < n → sumN (fun k => if k = j then f k + 1 else f k) n = sumN f n + 1
  | 0, h => by omega
  | n + 1, h => by
    simp only [sumN]
    by_cases e : n = j
    · subst e
      rw [if_pos rfl, sumN_congr (g := f) n (fun k hk => if_neg (by omega))]
      omega
    · rw [if_neg e, sumN_one n (by omega)]
      omega
theorem count_sum (nt : Nat) : ∀ l : List Nat, (∀ t ∈ l, t < nt) → sumN (fun k => l.count k) nt = l.length
  | [], _ => by simp [sumN_zero]
  | t :: l, h => by
    have ih := count_sum nt l (fun x hx => h x (by simp [hx]))
    have ht := h t (by simp)
    rw [List.length_cons, ← ih, ← sumN_one nt ht]
    refine sumN_congr nt (fun k _ => ?_)
    rw [List.count_cons]
    by_cases e : k = t
    · subst e; simp
    · have : (t == k) = false := by simp; omega
      rw [this, if_neg e]
      simp
/-- All tables are below nt. -/
def okT (nt : Nat) (T : List (List Nat)) : Prop := ∀ l ∈ T, ∀ t ∈ l, t < nt
theorem pre_sum {nt : Nat} {T : List (List Nat)} (h : okT nt T) : ∀ i, sumN (preT T i) nt = szT T i
  | 0 => by show sumN (fun _ => 0) nt = 0; exact sumN_zero nt
  | i + 1 => by
    show sumN (fun k => preT T i k + (T.getD i []).count k) nt = _
    rw [sumN_add, pre_sum h i, count_sum nt _ (by
      intro t ht
      rw [List.getD_eq_getElem?_getD] at ht
      cases e : T[i]? with
      | none => rw [e] at ht; simp at ht
      | some l => rw [e] at ht; exact h l (List.mem_of_getElem? e) t ht)]
    rfl
/-- How far it has come: so many are dropped, so many marks and so many events of each table taken. -/
structure Bs where
  done : Nat
  a0 : Nat
  a : Nat → Nat
structure BsInv (nt n : Nat) (T : List (List Nat)) (s : Bs) : Prop where
  len : s.done ≤ T.length
  lo : 2 * s.done ≤ s.a0
  hi : s.a0 ≤ 2 * T.length
  ahead : (s.a0 + 1) / 2 - s.done ≤ 16
  pre : ∀ k, k < nt → preT T s.done k ≤ s.a k
  upto : ∃ m, s.done ≤ m ∧ 2 * m ≤ s.a0 ∧ (∀ k, k < nt → s.a k ≤ preT T m k) ∧ szT T m - szT T s.done ≤ n
theorem BsInv.start (nt n : Nat) (T : List (List Nat)) : BsInv nt n T ⟨0, 0, fun _ => 0⟩ :=
  ⟨Nat.zero_le _, Nat.le_refl _, Nat.zero_le _, by simp, fun _ _ => Nat.le_refl _, 0, Nat.le_refl _, Nat.le_refl _, fun _ _ => Nat.le_refl _, by simp⟩
/-- There are never more events than the bound. -/
theorem BsInv.few {nt n : Nat} {T : List (List Nat)} {s : Bs} (h : BsInv nt n T s) (ht : okT nt T) : sumN (fun k => s.a k - preT T s.done k) nt ≤ n := by
  obtain ⟨m, h1, h2, h3, h4⟩ := h.upto
  have e1 : sumN (fun k => s.a k - preT T s.done k) nt + sumN (preT T s.done) nt ≤ sumN (preT T m) nt := by
    rw [← sumN_add]
    exact sumN_le nt (fun k hk => by have := h.pre k hk; have := h3 k hk; omega)
  rw [pre_sum ht, pre_sum ht] at e1
  omega
theorem BsInv.mark {nt n : Nat} {T : List (List Nat)} {s : Bs} (h : BsInv nt n T s) (h1 : s.a0 < 2 * T.length) (h2 : s.a0 % 2 = 1 ∨ s.a0 / 2 - s.done < 16) : BsInv nt n T { s with a0 := s.a0 + 1 } := by
  obtain ⟨m, g1, g2, g3, g4⟩ := h.upto
  have := h.lo
  have := h.ahead
  exact ⟨h.len, by show 2 * s.done ≤ s.a0 + 1; omega, by show s.a0 + 1 ≤ _; omega, by show (s.a0 + 1 + 1) / 2 - s.done ≤ 16; omega, h.pre, m, g1, by show 2 * m ≤ s.a0 + 1; omega, g3, g4⟩
def Bs.takeK (s : Bs) (k : Nat) : Bs := { s with a := fun j => if j = k then s.a j + 1 else s.a j }
theorem BsInv.event {nt n : Nat} {T : List (List Nat)} {s : Bs} (h : BsInv nt n T s) {i k : Nat} (hk : k < nt) (h2 : s.a k < preT T (i + 1) k) (hi : s.done ≤ i) (hf : 2 * (i + 1) ≤ s.a0) (hs : szT T (i + 1) - szT T s.done ≤ n) : BsInv nt n T (s.takeK k) := by
  obtain ⟨m, g1, g2, g3, g4⟩ := h.upto
  refine ⟨h.len, h.lo, h.hi, h.ahead, fun j hj => ?_, max m (i + 1), by show s.done ≤ _; omega, by show 2 * _ ≤ s.a0; omega, fun j hj => ?_, ?_⟩
  · show preT T s.done j ≤ if j = k then s.a j + 1 else s.a j
    have := h.pre j hj
    split <;> omega
  · show (if j = k then s.a j + 1 else s.a j) ≤ _
    have a1 := g3 j hj
    have a2 := preT_mono (T := T) (k := j) (show m ≤ max m (i + 1) by omega)
    split
    · next e =>
      subst e
      have a3 := preT_mono (T := T) (k := j) (show i + 1 ≤ max m (i + 1) by omega)
      omega
    · omega
  · show szT T (max m (i + 1)) - szT T s.done ≤ n
    by_cases e : m ≤ i + 1
    · rw [Nat.max_eq_right e]; exact hs
    · rw [Nat.max_eq_left (by omega)]; exact g4
/-- All records of transaction i are taken. -/
def compB (nt : Nat) (T : List (List Nat)) (s : Bs) (i : Nat) : Prop := 2 * (i + 1) ≤ s.a0 ∧ ∀ k, k < nt → (T.getD i []).count k = 0 ∨ preT T (i + 1) k ≤ s.a k
theorem BsInv.drop {nt n : Nat} {T : List (List Nat)} {s : Bs} (h : BsInv nt n T s) (hc : compB nt T s s.done) : BsInv nt n T { s with done := s.done + 1 } := by
  obtain ⟨m, g1, g2, g3, g4⟩ := h.upto
  have h1 := h.hi
  have h2 := h.ahead
  have h3 := hc.1
  have hp : ∀ k, k < nt → preT T (s.done + 1) k ≤ s.a k := fun k hk => by
    rcases hc.2 k hk with h0 | h0
    · have := h.pre k hk
      simp only [preT]
      omega
    · exact h0
  refine ⟨by show s.done + 1 ≤ _; omega, by show 2 * (s.done + 1) ≤ _; omega, h1, by show (s.a0 + 1) / 2 - (s.done + 1) ≤ 16; omega, hp, max m (s.done + 1), by show s.done + 1 ≤ _; omega, by show 2 * _ ≤ s.a0; omega, fun k hk => ?_, ?_⟩
  · have a1 := g3 k hk
    have a2 := preT_mono (T := T) (k := k) (show m ≤ max m (s.done + 1) by omega)
    show s.a k ≤ _
    omega
  · show szT T (max m (s.done + 1)) - szT T (s.done + 1) ≤ n
    by_cases e : m ≤ s.done + 1
    · rw [Nat.max_eq_right e]; omega
    · rw [Nat.max_eq_left (by omega)]
      have := szT_mono (T := T) (show s.done ≤ s.done + 1 by omega)
      omega
/-- How many records are left. -/
def leftB (nt : Nat) (T : List (List Nat)) (s : Bs) : Nat := (2 * T.length - s.a0) + sumN (fun k => preT T T.length k - s.a k) nt
/-- How many of the first n numbers meet p. -/
noncomputable def cntP (p : Nat → Prop) : Nat → Nat
  | 0 => 0
  | n + 1 => cntP p n + @ite _ (p n) (Classical.propDecidable _) 1 0
theorem cntP_le {p q : Nat → Prop} : ∀ n, (∀ i, i < n → p i → q i) → cntP p n ≤ cntP q n
  | 0, _ => Nat.le_refl _
  | n + 1, h => by
    have ih := cntP_le n (fun i hi => h i (by omega))
    have h1 := h n (by omega)
    simp only [cntP]
    by_cases hp : p n
    · rw [if_pos hp, if_pos (h1 hp)]; omega
    · rw [if_neg hp]; omega
theorem cntP_one {p q : Nat → Prop} {j : Nat} : ∀ n, (∀ i, i < n → p i → q i ∨ i = j) → cntP p n ≤ cntP q n + 1
  | 0, _ => by simp [cntP]
  | n + 1, h => by
    simp only [cntP]
    by_cases e : n = j
    · have h2 := cntP_le (p := p) (q := q) n (fun i hi hp => by
        rcases h i (by omega) hp with h1 | h1
        · exact h1
        · omega)
      split <;> omega
    · have ih := cntP_one (p := p) (q := q) (j := j) n (fun i hi => h i (by omega))
      by_cases hp : p n
      · have : q n := by
          rcases h n (by omega) hp with h1 | h1
          · exact h1
          · exact absurd h1 e
        rw [if_pos hp, if_pos this]
        omega
      · rw [if_neg hp]; omega
theorem cntP_drop {p q : Nat → Prop} {j : Nat} : ∀ n, j < n → p j → (∀ i, i < n → q i → p i ∧ i ≠ j) → cntP q n + 1 ≤ cntP p n
  | 0, h, _, _ => by omega
  | n + 1, hj, hp, h => by
    simp only [cntP]
    by_cases e : n = j
    · subst e
      have h2 := cntP_le (p := q) (q := p) n (fun i hi hq => (h i (by omega) hq).1)
      have hq : ¬ q n := fun hq => (h n (by omega) hq).2 rfl
      rw [if_neg hq, if_pos hp]
      omega
    · have ih := cntP_drop n (by omega) hp (fun i hi => h i (by omega))
      by_cases hq : q n
      · rw [if_pos hq, if_pos (h n (by omega) hq).1]; omega
      · rw [if_neg hq]; omega
/-- How many transactions that are not dropped have come whole. -/
noncomputable def wholeB (nt : Nat) (T : List (List Nat)) (s : Bs) : Nat := cntP (fun i => s.done ≤ i ∧ compB nt T s i) T.length
theorem preT_at {T : List (List Nat)} {i j k q : Nat} (h1 : preT T i k ≤ q) (h2 : q < preT T (i + 1) k) (h3 : preT T j k ≤ q) (h4 : q < preT T (j + 1) k) : i = j := by
  rcases Nat.lt_trichotomy i j with h | h | h
  · have := preT_mono (T := T) (k := k) (show i + 1 ≤ j by omega); omega
  · exact h
  · have := preT_mono (T := T) (k := k) (show j + 1 ≤ i by omega); omega
theorem preT_succ (T : List (List Nat)) (i k : Nat) : preT T (i + 1) k = preT T i k + (T.getD i []).count k := rfl
theorem compB.mark {nt : Nat} {T : List (List Nat)} {s : Bs} {i : Nat} (h : compB nt T { s with a0 := s.a0 + 1 } i) : compB nt T s i ∨ 2 * (i + 1) = s.a0 + 1 := by
  have h1 : 2 * (i + 1) ≤ s.a0 + 1 := h.1
  by_cases e : 2 * (i + 1) ≤ s.a0
  · exact Or.inl ⟨e, h.2⟩
  · right; omega
theorem compB.event {nt : Nat} {T : List (List Nat)} {s : Bs} {i i0 k : Nat} (h : compB nt T (s.takeK k) i) (h1 : preT T i0 k ≤ s.a k) (h2 : s.a k < preT T (i0 + 1) k) : compB nt T s i ∨ i = i0 := by
  by_cases e : i = i0
  · exact Or.inr e
  · left
    refine ⟨h.1, fun j hj => ?_⟩
    rcases h.2 j hj with h0 | h0
    · exact Or.inl h0
    · by_cases ej : j = k
      · subst ej
        have h0' : preT T (i + 1) j ≤ s.a j + 1 := by
          have : (s.takeK j).a j = s.a j + 1 := if_pos rfl
          rw [this] at h0; exact h0
        by_cases hz : (T.getD i []).count j = 0
        · exact Or.inl hz
        · right
          by_cases hlt : preT T (i + 1) j ≤ s.a j
          · exact hlt
          · exfalso
            rw [preT_succ] at h0' hlt
            exact e (preT_at (q := s.a j) (by omega) (by rw [preT_succ]; omega) h1 h2)
      · have : (s.takeK k).a j = s.a j := if_neg ej
        rw [this] at h0
        exact Or.inr h0
theorem left_mark {nt : Nat} {T : List (List Nat)} {s : Bs} (h : s.a0 < 2 * T.length) : leftB nt T { s with a0 := s.a0 + 1 } + 1 = leftB nt T s := by
  show 2 * T.length - (s.a0 + 1) + sumN (fun k => preT T T.length k - s.a k) nt + 1 = 2 * T.length - s.a0 + sumN (fun k => preT T T.length k - s.a k) nt
  omega
theorem left_event {nt : Nat} {T : List (List Nat)} {s : Bs} {k : Nat} (hk : k < nt) (h : s.a k < preT T T.length k) : leftB nt T (s.takeK k) + 1 = leftB nt T s := by
  unfold leftB
  have e : sumN (fun j => preT T T.length j - s.a j) nt = sumN (fun j => preT T T.length j - (s.takeK k).a j) nt + 1 := by
    rw [← sumN_one nt hk]
    refine sumN_congr nt (fun j _ => ?_)
    by_cases ej : j = k
    · subst ej
      have : (s.takeK j).a j = s.a j + 1 := if_pos rfl
      rw [if_pos rfl, this]
      omega
    · have : (s.takeK k).a j = s.a j := if_neg ej
      rw [if_neg ej, this]
  rw [e]
  show 2 * T.length - s.a0 + sumN (fun j => preT T T.length j - (s.takeK k).a j) nt + 1 = _
  omega
/-- The head of this topic is a record of the first transaction that is left. -/
def firstB (nt : Nat) (T : List (List Nat)) (s : Bs) (top : Nat) : Prop := (top = 0 ∧ s.a0 < 2 * (s.done + 1)) ∨ ∃ k, top = k + 1 ∧ k < nt ∧ 2 * (s.done + 1) ≤ s.a0 ∧ s.a k < preT T (s.done + 1) k
theorem first_some {nt : Nat} {T : List (List Nat)} {s : Bs} (hc : ¬ compB nt T s s.done) : ∃ top, top < nt + 1 ∧ firstB nt T s top := by
  by_cases h1 : s.a0 < 2 * (s.done + 1)
  · exact ⟨0, by omega, Or.inl ⟨rfl, h1⟩⟩
  · by_cases h2 : ∃ k, k < nt ∧ s.a k < preT T (s.done + 1) k
    · obtain ⟨k, hk, h3⟩ := h2
      exact ⟨k + 1, by omega, Or.inr ⟨k, rfl, hk, by omega, h3⟩⟩
    · exact absurd ⟨by omega, fun k hk => Or.inr (Nat.le_of_not_lt fun h4 => h2 ⟨k, hk, h4⟩)⟩ hc
/-- The next record of a topic comes: it is not taken, and is none of the first transaction; or it is taken. -/
def comeB (nt n : Nat) (T : List (List Nat)) (s : Bs) (top : Nat) (s1 : Bs) : Prop :=
  (s1 = s ∧ ¬ firstB nt T s top) ∨ (top = 0 ∧ s.a0 < 2 * T.length ∧ (s.a0 % 2 = 1 ∨ s.a0 / 2 - s.done < 16) ∧ s1 = { s with a0 := s.a0 + 1 }) ∨
  (∃ i k, top = k + 1 ∧ k < nt ∧ preT T i k ≤ s.a k ∧ s.a k < preT T (i + 1) k ∧ i < T.length ∧ s.done ≤ i ∧ 2 * (i + 1) ≤ s.a0 ∧ szT T (i + 1) - szT T s.done ≤ n ∧ s1 = s.takeK k)
theorem comeB.inv {nt n : Nat} {T : List (List Nat)} {s s1 : Bs} {top : Nat} (hc : comeB nt n T s top s1) (h : BsInv nt n T s) : BsInv nt n T s1 ∧ s1.done = s.done := by
  rcases hc with ⟨rfl, _⟩ | ⟨_, h1, h2, rfl⟩ | ⟨i, k, _, hk, _, h2, _, h4, h5, h6, rfl⟩
  · exact ⟨h, rfl⟩
  · exact ⟨h.mark h1 h2, rfl⟩
  · exact ⟨h.event hk h2 h4 h5 h6, rfl⟩
theorem comeB.pot {nt n : Nat} {T : List (List Nat)} {s s1 : Bs} {top : Nat} (hc : comeB nt n T s top s1) : (s1 = s ∧ ¬ firstB nt T s top) ∨ (leftB nt T s1 + 1 = leftB nt T s ∧ wholeB nt T s1 ≤ wholeB nt T s + 1) := by
  rcases hc with h0 | ⟨_, h1, h2, rfl⟩ | ⟨i, k, _, hk, h1, h2, h3, h4, h5, h6, rfl⟩
  · exact Or.inl h0
  · exact Or.inr ⟨left_mark h1, cntP_one (j := (s.a0 - 1) / 2) _ (fun x _ hx => by
      rcases hx.2.mark with g | g
      · exact Or.inl ⟨hx.1, g⟩
      · right; omega)⟩
  · have hl : s.a k < preT T T.length k := Nat.lt_of_lt_of_le h2 (preT_mono (by omega))
    exact Or.inr ⟨left_event hk hl, cntP_one (j := i) _ (fun x _ hx => by
      rcases hx.2.event h1 h2 with g | g
      · exact Or.inl ⟨hx.1, g⟩
      · exact Or.inr g)⟩
/-- A record of the first transaction makes no other one whole. -/
theorem comeB.need {nt n : Nat} {T : List (List Nat)} {s s1 : Bs} {top : Nat} (hc : comeB nt n T s top s1) (hn : firstB nt T s top) (x : Nat) (hx : s.done < x) (hw : compB nt T s1 x) : compB nt T s x := by
  rcases hc with ⟨rfl, h0⟩ | ⟨rfl, h1, h2, rfl⟩ | ⟨i, k, rfl, hk, h1, h2, h3, h4, h5, h6, rfl⟩
  · exact absurd hn h0
  · rcases hw.mark with g | g
    · exact g
    · rcases hn with ⟨_, h3⟩ | ⟨k, h3, _⟩
      · omega
      · omega
  · rcases hw.event h1 h2 with g | g
    · exact g
    · rcases hn with ⟨h7, _⟩ | ⟨k', h7, _, _, h8⟩
      · omega
      · obtain rfl : k = k' := by omega
        have := preT_mono (T := T) (k := k) (show s.done + 1 ≤ i by omega)
        omega
theorem comeB.keep {nt n : Nat} {T : List (List Nat)} {s s1 : Bs} {top : Nat} (hc : comeB nt n T s top s1) {x : Nat} (h : compB nt T s x) : compB nt T s1 x := by
  rcases hc with ⟨rfl, _⟩ | ⟨_, h1, h2, rfl⟩ | ⟨i, k, _, hk, _, h2, _, h4, h5, h6, rfl⟩
  · exact h
  · exact ⟨by show 2 * (x + 1) ≤ s.a0 + 1; have := h.1; omega, h.2⟩
  · refine ⟨h.1, fun j hj => ?_⟩
    rcases h.2 j hj with g | g
    · exact Or.inl g
    · right
      show preT T (x + 1) j ≤ if j = k then s.a j + 1 else s.a j
      split <;> omega
theorem whole_drop {nt : Nat} {T : List (List Nat)} {s : Bs} (hl : s.done < T.length) (hc : compB nt T s s.done) : wholeB nt T { s with done := s.done + 1 } + 1 ≤ wholeB nt T s :=
  cntP_drop (j := s.done) _ hl ⟨Nat.le_refl _, hc⟩ (fun x _ hx => ⟨⟨Nat.le_of_succ_le hx.1, hx.2⟩, by have : s.done + 1 ≤ x := hx.1; omega⟩)
def Bs.drop (s : Bs) : Bs := { s with done := s.done + 1 }
/-- So many steps till a record of the first transaction comes. -/
def waitB (nt : Nat) (T : List (List Nat)) (s : Bs) (step w : Nat) : Prop := 1 ≤ w ∧ w ≤ nt + 1 ∧ (compB nt T s s.done → w = nt + 1) ∧ (¬ compB nt T s s.done → firstB nt T s ((step + w - 1) % (nt + 1)))
noncomputable def potB (nt : Nat) (T : List (List Nat)) (w : Nat) (s : Bs) : Nat := (nt + 1) * leftB nt T s + wholeB nt T s + w
theorem mod_pick (L step top : Nat) (h : top < L) : ∃ w, 1 ≤ w ∧ w ≤ L ∧ (step + w - 1) % L = top := by
  have h0 : L * (step / L) + step % L = step := Nat.div_add_mod step L
  have h1 : step % L < L := Nat.mod_lt _ (by omega)
  generalize step % L = r at h0 h1
  by_cases e : r ≤ top
  · refine ⟨top - r + 1, by omega, by omega, ?_⟩
    rw [show step + (top - r + 1) - 1 = L * (step / L) + top by omega, Nat.mul_add_mod, Nat.mod_eq_of_lt h]
  · refine ⟨top + L - r + 1, by omega, by omega, ?_⟩
    rw [show step + (top + L - r + 1) - 1 = L * (step / L + 1) + top by rw [Nat.mul_add]; omega, Nat.mul_add_mod, Nat.mod_eq_of_lt h]
theorem wait_some {nt : Nat} {T : List (List Nat)} {s : Bs} (step : Nat) : ∃ w, waitB nt T s step w := by
  by_cases hc : compB nt T s s.done
  · exact ⟨nt + 1, by omega, Nat.le_refl _, fun _ => rfl, fun h' => absurd hc h'⟩
  · obtain ⟨top, ht, hf⟩ := first_some hc
    obtain ⟨w, h1, h2, h3⟩ := mod_pick (nt + 1) step top ht
    exact ⟨w, h1, h2, fun h' => absurd h' hc, fun _ => by rw [h3]; exact hf⟩
theorem mul_left1 {L a b : Nat} (h : a + 1 = b) : L * a + L = L * b := by rw [← h, Nat.mul_add, Nat.mul_one]
theorem round_pot {nt n : Nat} {T : List (List Nat)} {s s1 : Bs} {step w : Nat} (h : BsInv nt n T s) (hl : s.done < T.length) (hw : waitB nt T s step w) (hc : comeB nt n T s (step % (nt + 1)) s1) :
    (compB nt T s1 s1.done → ∃ w2, waitB nt T s1.drop (step + 1) w2 ∧ potB nt T w2 s1.drop + 1 ≤ potB nt T w s) ∧ (¬ compB nt T s1 s1.done → ∃ w2, waitB nt T s1 (step + 1) w2 ∧ potB nt T w2 s1 + 1 ≤ potB nt T w s) := by
  obtain ⟨h1, hd⟩ := hc.inv h
  obtain ⟨w1, w2, w3, w4⟩ := hw
  have hl1 : s1.done < T.length := by omega
  by_cases hcs : compB nt T s s.done
  · have hwl := w3 hcs
    constructor
    · intro hc1
      obtain ⟨w', hw'⟩ := wait_some (nt := nt) (T := T) (s := s1.drop) (step + 1)
      refine ⟨w', hw', ?_⟩
      have hd1 := whole_drop hl1 hc1
      have hle := hw'.2.1
      show (nt + 1) * leftB nt T s1 + wholeB nt T { s1 with done := s1.done + 1 } + w' + 1 ≤ (nt + 1) * leftB nt T s + wholeB nt T s + w
      rcases hc.pot with ⟨rfl, _⟩ | ⟨g1, g2⟩
      · omega
      · have := mul_left1 (L := nt + 1) g1
        omega
    · intro hc1
      exact absurd (hd ▸ hc.keep hcs) hc1
  · have hf := w4 hcs
    by_cases hw1 : w = 1
    · subst hw1
      have hf' : firstB nt T s (step % (nt + 1)) := hf
      rcases hc.pot with ⟨_, h0⟩ | ⟨g1, g2⟩
      · exact absurd hf' h0
      · have hm := mul_left1 (L := nt + 1) g1
        constructor
        · intro hc1
          obtain ⟨w', hw'⟩ := wait_some (nt := nt) (T := T) (s := s1.drop) (step + 1)
          refine ⟨w', hw', ?_⟩
          have hle := hw'.2.1
          have hwh : wholeB nt T s1.drop ≤ wholeB nt T s := cntP_le _ (fun x _ hx => by
            have hx1 : s1.done + 1 ≤ x := hx.1
            exact ⟨by omega, hc.need hf' x (by omega) hx.2⟩)
          show (nt + 1) * leftB nt T s1 + wholeB nt T s1.drop + w' + 1 ≤ (nt + 1) * leftB nt T s + wholeB nt T s + 1
          omega
        · intro hc1
          obtain ⟨w', hw'⟩ := wait_some (nt := nt) (T := T) (s := s1) (step + 1)
          refine ⟨w', hw', ?_⟩
          have hle := hw'.2.1
          have hwh : wholeB nt T s1 ≤ wholeB nt T s := cntP_le _ (fun x _ hx => by
            have hx1 : s1.done ≤ x := hx.1
            have hne : x ≠ s1.done := fun e => hc1 (e ▸ hx.2)
            exact ⟨by omega, hc.need hf' x (by omega) hx.2⟩)
          show (nt + 1) * leftB nt T s1 + wholeB nt T s1 + w' + 1 ≤ (nt + 1) * leftB nt T s + wholeB nt T s + 1
          omega
    · rcases hc.pot with ⟨rfl, _⟩ | ⟨g1, g2⟩
      · refine ⟨fun hc1 => absurd hc1 hcs, fun _ => ⟨w - 1, ⟨by omega, by omega, fun h' => absurd h' hcs, fun _ => ?_⟩, ?_⟩⟩
        · rw [show step + 1 + (w - 1) - 1 = step + w - 1 by omega]; exact hf
        · show (nt + 1) * leftB nt T s1 + wholeB nt T s1 + (w - 1) + 1 ≤ (nt + 1) * leftB nt T s1 + wholeB nt T s1 + w
          omega
      · have hm := mul_left1 (L := nt + 1) g1
        constructor
        · intro hc1
          obtain ⟨w', hw'⟩ := wait_some (nt := nt) (T := T) (s := s1.drop) (step + 1)
          refine ⟨w', hw', ?_⟩
          have hle := hw'.2.1
          have hd1 := whole_drop hl1 hc1
          show (nt + 1) * leftB nt T s1 + wholeB nt T { s1 with done := s1.done + 1 } + w' + 1 ≤ (nt + 1) * leftB nt T s + wholeB nt T s + w
          omega
        · intro _
          obtain ⟨w', hw'⟩ := wait_some (nt := nt) (T := T) (s := s1) (step + 1)
          refine ⟨w', hw', ?_⟩
          have hle := hw'.2.1
          show (nt + 1) * leftB nt T s1 + wholeB nt T s1 + w' + 1 ≤ (nt + 1) * leftB nt T s + wholeB nt T s + w
          omega
/-- Ahead of the steps in turn nothing is lost. -/
theorem mix_pot {nt n : Nat} {T : List (List Nat)} {s s1 : Bs} {top : Nat} (h : BsInv nt n T s) (hl : s.done < T.length) (hc : comeB nt n T s top s1) :
    (compB nt T s1 s1.done → (nt + 1) * leftB nt T s1.drop + wholeB nt T s1.drop ≤ (nt + 1) * leftB nt T s + wholeB nt T s) ∧ (nt + 1) * leftB nt T s1 + wholeB nt T s1 ≤ (nt + 1) * leftB nt T s + wholeB nt T s := by
  obtain ⟨h1, hd⟩ := hc.inv h
  have h2 : (nt + 1) * leftB nt T s1 + wholeB nt T s1 ≤ (nt + 1) * leftB nt T s + wholeB nt T s := by
    rcases hc.pot with ⟨rfl, _⟩ | ⟨g1, g2⟩
    · exact Nat.le_refl _
    · have := mul_left1 (L := nt + 1) g1
      omega
  refine ⟨fun hc1 => ?_, h2⟩
  have := whole_drop (by omega) hc1
  show (nt + 1) * leftB nt T s1 + wholeB nt T { s1 with done := s1.done + 1 } ≤ _
  omega
/-- What holds ahead of each step. -/
def roundB (nt n : Nat) (T : List (List Nat)) (mix step : Nat) (s : Bs) : Prop :=
  BsInv nt n T s ∧ ((step ≤ mix ∧ (nt + 1) * leftB nt T s + wholeB nt T s ≤ (nt + 1) * leftB nt T ⟨0, 0, fun _ => 0⟩) ∨ (mix ≤ step ∧ ∃ w, waitB nt T s step w ∧ potB nt T w s + (step - mix) ≤ (nt + 1) * leftB nt T ⟨0, 0, fun _ => 0⟩ + (nt + 1)))
theorem whole_start (nt : Nat) (T : List (List Nat)) : wholeB nt T ⟨0, 0, fun _ => 0⟩ = 0 := by
  have h := cntP_le (p := fun i => (⟨0, 0, fun _ => 0⟩ : Bs).done ≤ i ∧ compB nt T ⟨0, 0, fun _ => 0⟩ i) (q := fun _ => False) T.length (fun i _ hi => by have : 2 * (i + 1) ≤ 0 := hi.2.1; omega)
  have e : ∀ n, cntP (fun _ => False) n = 0 := by
    intro n
    induction n with
    | zero => rfl
    | succ n ih => simp only [cntP]; rw [ih]; simp
  rw [e] at h
  exact Nat.le_zero.1 h
theorem roundB.start (nt n : Nat) (T : List (List Nat)) (mix : Nat) : roundB nt n T mix 0 ⟨0, 0, fun _ => 0⟩ := ⟨BsInv.start nt n T, Or.inl ⟨Nat.zero_le _, by rw [whole_start]; exact Nat.le_refl _⟩⟩
theorem roundB.few {nt n : Nat} {T : List (List Nat)} {mix step : Nat} {s : Bs} (h : roundB nt n T mix step s) : step ≤ mix + (nt + 1) * (leftB nt T ⟨0, 0, fun _ => 0⟩ + 2) := by
  have e := Nat.mul_add (nt + 1) (leftB nt T ⟨0, 0, fun _ => 0⟩) 2
  rcases h.2 with ⟨h1, _⟩ | ⟨h1, w, _, h2⟩
  · omega
  · omega
/-- One step. -/
theorem roundB.next {nt n : Nat} {T : List (List Nat)} {mix step top : Nat} {s s1 : Bs} (h : roundB nt n T mix step s) (hl : s.done < T.length) (ht : mix ≤ step → top = step % (nt + 1)) (hc : comeB nt n T s top s1) :
    (compB nt T s1 s1.done → roundB nt n T mix (step + 1) s1.drop) ∧ (¬ compB nt T s1 s1.done → roundB nt n T mix (step + 1) s1) := by
  obtain ⟨hi, hp⟩ := h
  obtain ⟨h1, hd⟩ := hc.inv hi
  by_cases hm : mix ≤ step
  · obtain rfl := ht hm
    obtain ⟨w, hw, hpw⟩ : ∃ w, waitB nt T s step w ∧ potB nt T w s + (step - mix) ≤ (nt + 1) * leftB nt T ⟨0, 0, fun _ => 0⟩ + (nt + 1) := by
      rcases hp with ⟨g1, g2⟩ | ⟨_, g⟩
      · obtain ⟨w, hw⟩ := wait_some (nt := nt) (T := T) (s := s) step
        refine ⟨w, hw, ?_⟩
        have := hw.2.1
        unfold potB
        omega
      · exact g
    obtain ⟨ha, hb⟩ := round_pot hi hl hw hc
    refine ⟨fun hc1 => ?_, fun hc1 => ?_⟩
    · obtain ⟨w2, g1, g2⟩ := ha hc1
      exact ⟨h1.drop hc1, Or.inr ⟨by omega, w2, g1, by omega⟩⟩
    · obtain ⟨w2, g1, g2⟩ := hb hc1
      exact ⟨h1, Or.inr ⟨by omega, w2, g1, by omega⟩⟩
  · have hq : (nt + 1) * leftB nt T s + wholeB nt T s ≤ (nt + 1) * leftB nt T ⟨0, 0, fun _ => 0⟩ := by
      rcases hp with ⟨_, g⟩ | ⟨g, _⟩
      · exact g
      · omega
    obtain ⟨ha, hb⟩ := mix_pot hi hl hc
    exact ⟨fun hc1 => ⟨h1.drop hc1, Or.inl ⟨by omega, by have := ha hc1; omega⟩⟩, fun _ => ⟨h1, Or.inl ⟨by omega, by omega⟩⟩⟩
theorem left_start {nt : Nat} {T : List (List Nat)} (h : okT nt T) : leftB nt T ⟨0, 0, fun _ => 0⟩ = 2 * T.length + szT T T.length := by
  show 2 * T.length - 0 + sumN (fun k => preT T T.length k - 0) nt = _
  rw [← pre_sum h]
  rfl
end Go.Proofs.YtkfhfegogmlchaaDoor

/- Several texts in one: see each part's head. -/
/- Plain laws: of what is got the bytes are what it was got of; what is less than a row's bytes is ErrEnd. -/
namespace Go.Proofs.YtkfhfegogmlchaaDoor
open Go.RowKit

/-- Of what is got the bytes are what it was got of. -/
theorem getVs_back : ∀ (n : Nat) (l : List UInt8), (getVs n l).1 = 0 →
    (getVs n l).2.1.length = n ∧ (∀ v ∈ (getVs n l).2.1, v.wf ∧ mayB v = true) ∧ l.take (getVs n l).2.2 = (getVs n l).2.1.flatMap putL ∧ (getVs n l).2.2 ≤ l.length
  | 0, l, _ => ⟨rfl, (fun v h => by cases h), by simp [getVs], by simp [getVs]⟩
  | n + 1, l, h => by
    rw [getVs] at h ⊢
    by_cases hv : (getV l).1 = 0
    · rw [if_pos hv] at h ⊢
      by_cases hr : (getVs n (l.drop (getV l).2.2)).1 = 0
      · rw [if_pos hr] at h ⊢
        obtain ⟨i1, i2, i3, i4⟩ := getVs_back n _ hr
        obtain ⟨v1, v2, v3, v4⟩ := getV_cases hv
        refine ⟨by simp [i1], ?_, ?_, ?_⟩
        · intro v hm
          rcases List.mem_cons.1 hm with rfl | hm
          · exact ⟨v2, v1⟩
          · exact i2 v hm
        · simp only [List.flatMap_cons]
          rw [List.take_add, v3, i3]
        · simp only
          rw [List.length_drop] at i4
          omega
      · rw [if_neg hr] at h
        exact absurd h hr
    · rw [if_neg hv] at h
      exact absurd h hv
theorem getRow_back {l : List UInt8} (h : (getRow l).1 = 0) :
    rowB (getRow l).2.1 = true ∧ (∀ v ∈ (getRow l).2.1, v.wf) ∧ l.take (getRow l).2.2 = putRowL (getRow l).2.1 ∧ 1 ≤ (getRow l).2.2 ∧ (getRow l).2.2 ≤ l.length := by
  cases l with
  | nil => cases h
  | cons c r =>
    by_cases hc : c.toNat < 1 ∨ 8 < c.toNat
    · rw [getRow, if_pos hc] at h; cases h
    · by_cases hv : (getVs c.toNat r).1 = 0
      · have e : getRow (c :: r) = (0, (getVs c.toNat r).2.1, 1 + (getVs c.toNat r).2.2) := by rw [getRow, if_neg hc, if_pos hv]
        rw [e]
        obtain ⟨i1, i2, i3, i4⟩ := getVs_back _ _ hv
        refine ⟨?_, fun v hm => (i2 v hm).1, ?_, by simp, by simp; omega⟩
        · unfold rowB
          simp only [Bool.and_eq_true, decide_eq_true_eq, List.all_eq_true, i1]
          exact ⟨⟨by omega, by omega⟩, fun v hm => (i2 v hm).2⟩
        · unfold putRowL
          simp only [i1]
          rw [Nat.add_comm, List.take_succ_cons, i3]
          simp
      · rw [getRow, if_neg hc, if_neg hv] at h
        exact absurd h hv
end Go.Proofs.YtkfhfegogmlchaaDoor

/- Plain laws of valid texts that are cut: what is there of them begins one that may be. -/
namespace Go.Proofs.YtkfhfegogmlchaaDoor
open Go.RowKit


end Go.Proofs.YtkfhfegogmlchaaDoor

/- Several texts in one: see each part's head. -/
/- The contract of the reference's GetRow: the same row as the code's. -/
namespace Go.Proofs.YtkfhfegogmlchaaDoor
open Go.RowKit

end Go.Proofs.YtkfhfegogmlchaaDoor

/- The contract of code.Get: which value any bytes begin with, or why with none. -/
namespace Go.Proofs.YtkfhfegogmlchaaDoor
open Go.RowKit

theorem EBlk.drew {w : World} {b : Nat} {n : Int} (h : EBlk w b n) : EBlk w.drew b n := h
theorem VBlk.drew {w : World} {b : Nat} {v : V} (h : VBlk w b v) : VBlk w.drew b v := h
def W0 (w : World) (s : ByteArray) : World := ((w.alloc (.cells #[.int .u8 0, .int .i64 0, .int .u64 0, .string ⟨#[]⟩] 97)).alloc (.cells #[.int .i64 0] 43)).alloc (.cells #[.string s, .int .i64 0] 138)
end Go.Proofs.YtkfhfegogmlchaaDoor

/- The contract of the layer's own examples: they hold. -/
namespace Go.Proofs.YtkfhfegogmlchaaDoor
open Go.RowKit

theorem VRow.nil_ (w : World) : VRow w none [] := ⟨(fun _ h => by cases h), by simp, (fun h => absurd rfl h)⟩
end Go.Proofs.YtkfhfegogmlchaaDoor

/- Several texts in one: see each part's head. -/
/- The walk of CodeApart: whatever two rows come in, it answers true. -/
namespace Go.Proofs.YtkfhfegogmlchaaDoor
open Go.RowKit

theorem putrow_ok (l : List V) (A : Option Addr) (c : Nat) (w : World) (hr : VRow w A l) (hT : Tabs w) (hm : rowB l = true) :
    Calls Tryd.prog 60 #[.slice A l.length c] w fun e w' => e = .returned (.tuple #[.string ⟨(putRowL l).toArray⟩, .int .i64 0]) ∧ Below w.heap.size w w' := by
  have h := putrow_any l A c w hr hT
  unfold putRowR at h
  rw [hm] at h
  exact h

theorem beq_str {a b : ByteArray} (h : ¬ a = b) : (a.toList == b.toList) = false := by
  rw [beq_eq_false_iff_ne]
  exact fun e => h (toList_inj e)
end Go.Proofs.YtkfhfegogmlchaaDoor

/- The walk of CodePuts: whatever value and row come in, it answers true. -/
namespace Go.Proofs.YtkfhfegogmlchaaDoor
open Go.RowKit

theorem same_self (l : List V) (A B : Option Addr) (c d : Nat) (w : World) (hr : VRow w A l) (hs : VRow w B l) :
    Calls Tryd.prog 35 #[.slice A l.length c, .slice B l.length d] w fun e w' => e = .returned (.bool true) ∧ Below w.heap.size w w' := by
  have h := same_any l l A B c d w hr hs
  rwa [decide_eq_true rfl] at h
theorem VBlk.cells {w : World} {b : Nat} {v : V} (h : VBlk w b v) : w.cell? ⟨b, 0, none⟩ = some (.int .u8 v.k) ∧ w.cell? ⟨b, 1, none⟩ = some (.int .i64 v.n) ∧ w.cell? ⟨b, 2, none⟩ = some (.int .u64 v.r) ∧ w.cell? ⟨b, 3, none⟩ = some (.string v.t) :=
  ⟨cell_of_row w b 0 _ _ (0, 0) h, cell_of_row w b 1 _ _ (0, 0) h, cell_of_row w b 2 _ _ (0, 0) h, cell_of_row w b 3 _ _ (0, 0) h⟩
theorem putRowL_length {l : List V} (hm : rowB l = true) : (putRowL l).length ≤ 825 := by
  obtain ⟨_, h8, hall⟩ := row_may hm
  have h : ∀ m : List V, (∀ v ∈ m, mayB v = true) → (m.flatMap putL).length ≤ 102 * m.length := by
    intro m
    induction m with
    | nil => intro _; simp
    | cons v m ih =>
      intro hm
      have h1 := putL_length (hm v (by simp))
      have h2 := ih (fun x hx => hm x (by simp [hx]))
      simp only [List.flatMap_cons, List.length_append, List.length_cons]
      omega
  have := h l hall
  unfold putRowL
  rw [List.length_cons]
  omega

end Go.Proofs.YtkfhfegogmlchaaDoor

/- The walk of CodeBack: whatever row, texts and cut come in, it answers true. -/
namespace Go.Proofs.YtkfhfegogmlchaaDoor
open Go.RowKit

theorem str_ne (l : List UInt8) (h : l ≠ []) : (⟨l.toArray⟩ : ByteArray).toList.isEmpty = false ∧ ¬ (⟨l.toArray⟩ : ByteArray).toList = [] := by
  have e : (⟨l.toArray⟩ : ByteArray).toList = l := by rw [Lib.toList_data]
  rw [e]
  exact ⟨by cases l <;> simp_all, h⟩

end Go.Proofs.YtkfhfegogmlchaaDoor
