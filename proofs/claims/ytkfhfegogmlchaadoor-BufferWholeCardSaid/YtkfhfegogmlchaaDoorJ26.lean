/- Several texts in one: see each part's head. -/
import Derived.Test.YtkfhfegogmlchaaDoorJ14
import Derived.Test.YtkfhfegogmlchaaDoorJ25
/- What a buffer has of the transactions' records: the plain law. -/
namespace Go.Proofs.YtkfhfegogmlchaaDoor

/-- What is known of transaction i, whose changes are l. -/
structure TbRel (nt : Nat) (first : Int) (l : List Ch) (T : List (List Nat)) (s : Bs) (i : Nat) (t : Tb) : Prop where
  n : t.n = first + (i : Nat)
  f0 : 2 * (i + 1) ≤ s.a0 → ∃ f, t.fin = some f ∧ f.cnt = cntsOf nt l ∧ f.sq.length = nt
  f1 : s.a0 < 2 * (i + 1) → t.fin = none
  nth : ∀ k, k < nt → t.nth[k]? = some ((min (cntT l (k : Int)) (s.a k - preT T i k) : Nat) : Int)
  es : ∀ p ∈ t.es, ∃ (m : Nat) (c : Ch), l[m]? = some c ∧ p.1 = evAt (first + (i : Nat)) l m c ∧ cntT (l.take m) c.tb < s.a c.tb.toNat - preT T i c.tb.toNat
  len : t.es.length = sumN (fun k => min (cntT l (k : Int)) (s.a k - preT T i k)) nt
structure BufRel (nt : Nat) (first : Int) (ls : List (List Ch)) (s : Bs) (l : List Tb) : Prop where
  len : l.length = (s.a0 + 1) / 2 - s.done
  at_ : ∀ (j : Nat) t, l[j]? = some t → ∃ lc, ls[s.done + j]? = some lc ∧ TbRel nt first lc (tabsOf ls) s (s.done + j) t
theorem BufRel.start (nt : Nat) (first : Int) (ls : List (List Ch)) : BufRel nt first ls ⟨0, 0, fun _ => 0⟩ [] := ⟨rfl, fun _ _ h => by cases h⟩
/-- A transaction begins. -/
theorem BufRel.begin_ {nt n : Nat} {first : Int} {ls : List (List Ch)} {s : Bs} {l : List Tb} (h : BufRel nt first ls s l) (hi : BsInv nt n (tabsOf ls) s) {q : Nat} (hq : s.a0 = 2 * q) (hl : q < ls.length) (X N M : Nat) :
    BufRel nt first ls { s with a0 := s.a0 + 1 } (l ++ [⟨X, N, M, first + (q : Nat), none, List.replicate nt 0, []⟩]) := by
  have hlen := h.len
  have hlo := hi.lo
  refine ⟨by rw [List.length_append]; show _ = (s.a0 + 1 + 1) / 2 - s.done; simp; omega, fun j t hj => ?_⟩
  rw [List.getElem?_append] at hj
  split at hj
  · obtain ⟨lc, h1, h2⟩ := h.at_ j t hj
    exact ⟨lc, h1, h2.n, fun (g : 2 * (s.done + j + 1) ≤ s.a0 + 1) => h2.f0 (by omega), fun (g : s.a0 + 1 < 2 * (s.done + j + 1)) => h2.f1 (by omega), h2.nth, h2.es, h2.len⟩
  · next hge =>
    have hj0 : j = l.length := by
      rcases Nat.lt_or_ge l.length j with hlt | hlt
      · rw [List.getElem?_eq_none (by simp; omega)] at hj; cases hj
      · omega
    subst hj0
    simp at hj
    subst hj
    have e : s.done + l.length = q := by omega
    show ∃ lc, ls[s.done + l.length]? = some lc ∧ TbRel nt first lc (tabsOf ls) { s with a0 := s.a0 + 1 } (s.done + l.length) _
    rw [e]
    obtain ⟨m, g1, g2, g3, g4⟩ := hi.upto
    have hz : ∀ k, k < nt → s.a k - preT (tabsOf ls) q k = 0 := fun k hk => by
      have a1 := g3 k hk
      have a2 := preT_mono (T := tabsOf ls) (k := k) (show m ≤ q by omega)
      omega
    refine ⟨ls[q], List.getElem?_eq_getElem hl, rfl, fun (g : 2 * (q + 1) ≤ s.a0 + 1) => by omega, fun _ => rfl, fun k hk => ?_, (fun p hp => by cases hp), ?_⟩
    · show (List.replicate nt (0 : Int))[k]? = some ((min (cntT ls[q] (k : Int)) (s.a k - preT (tabsOf ls) q k) : Nat) : Int)
      rw [hz k hk, Nat.min_zero, List.getElem?_replicate, if_pos hk]
      rfl
    · show 0 = sumN (fun k => min (cntT ls[q] (k : Int)) (s.a k - preT (tabsOf ls) q k)) nt
      rw [sumN_congr (g := fun _ => 0) nt (fun k hk => by rw [hz k hk, Nat.min_zero]), sumN_zero]
/-- .. and ends. -/
theorem BufRel.finish_ {nt n : Nat} {first : Int} {ls : List (List Ch)} {s : Bs} {l : List Tb} {t : Tb} {lc : List Ch} (h : BufRel nt first ls s (l ++ [t])) (hi : BsInv nt n (tabsOf ls) s) {q : Nat} (hq : s.a0 = 2 * q + 1) (hl : ls[q]? = some lc) (f : Fi) (hf : f.cnt = cntsOf nt lc) (hf2 : f.sq.length = nt) :
    BufRel nt first ls { s with a0 := s.a0 + 1 } (l ++ [{ t with fin := some f }]) := by
  have hlen := h.len
  have hlo := hi.lo
  rw [List.length_append] at hlen
  simp only [List.length_cons, List.length_nil] at hlen
  refine ⟨by rw [List.length_append]; show _ = (s.a0 + 1 + 1) / 2 - s.done; simp; omega, fun j u hj => ?_⟩
  rw [List.getElem?_append] at hj
  split at hj
  · next hlt =>
    obtain ⟨lc', h1, h2⟩ := h.at_ j u (by rw [List.getElem?_append_left hlt]; exact hj)
    exact ⟨lc', h1, h2.n, fun (g : 2 * (s.done + j + 1) ≤ s.a0 + 1) => h2.f0 (by omega), fun (g : s.a0 + 1 < 2 * (s.done + j + 1)) => h2.f1 (by omega), h2.nth, h2.es, h2.len⟩
  · next hge =>
    have hj0 : j = l.length := by
      rcases Nat.lt_or_ge l.length j with hlt | hlt
      · rw [List.getElem?_eq_none (by simp; omega)] at hj; cases hj
      · omega
    subst hj0
    simp at hj
    subst hj
    obtain ⟨lc', h1, h2⟩ := h.at_ l.length t (by simp)
    have e : s.done + l.length = q := by omega
    rw [e] at h1 h2
    rw [hl] at h1
    obtain rfl := Option.some.inj h1
    show ∃ lc, ls[s.done + l.length]? = some lc ∧ TbRel nt first lc (tabsOf ls) { s with a0 := s.a0 + 1 } (s.done + l.length) _
    rw [e]
    exact ⟨lc, hl, h2.n, fun _ => ⟨f, rfl, hf, hf2⟩, fun (g : s.a0 + 1 < 2 * (q + 1)) => by omega, h2.nth, h2.es, h2.len⟩
/-- The next transaction is let go. -/
theorem BufRel.drop_ {nt : Nat} {first : Int} {ls : List (List Ch)} {s : Bs} {l : List Tb} {t : Tb} (h : BufRel nt first ls s (t :: l)) : BufRel nt first ls s.drop l := by
  have hlen := h.len
  rw [List.length_cons] at hlen
  refine ⟨by show _ = (s.a0 + 1) / 2 - (s.done + 1); omega, fun j u hj => ?_⟩
  obtain ⟨lc, h1, h2⟩ := h.at_ (j + 1) u (by simpa using hj)
  rw [show s.done + (j + 1) = s.done + 1 + j by omega] at h1 h2
  exact ⟨lc, h1, h2.n, h2.f0, h2.f1, h2.nth, h2.es, h2.len⟩
theorem takeK_same (s : Bs) (k : Nat) : (s.takeK k).a k = s.a k + 1 := if_pos rfl
theorem takeK_other (s : Bs) {k j : Nat} (h : j ≠ k) : (s.takeK k).a j = s.a j := if_neg h
theorem takeK_le (s : Bs) (k j : Nat) : s.a j ≤ (s.takeK k).a j := by
  by_cases h : j = k
  · subst h; rw [takeK_same]; omega
  · rw [takeK_other s h]; omega
/-- An event is taken. -/
theorem BufRel.event_ {nt : Nat} {first : Int} {ls : List (List Ch)} {s : Bs} {l1 l2 : List Tb} {t : Tb} {lc : List Ch} {m k i : Nat} {c : Ch} (h : BufRel nt first ls s (l1 ++ t :: l2)) (hp : ∀ l ∈ ls, ∀ c ∈ l, 0 ≤ c.tb ∧ c.tb < nt) (hn : t.n = first + (i : Nat)) (hl : ls[i]? = some lc) (hc : lc[m]? = some c) (hk : c.tb = k) (ha : s.a k = preT (tabsOf ls) i k + cntT (lc.take m) (k : Int)) (v : Value) :
    BufRel nt first ls (s.takeK k) (l1 ++ { t with nth := t.nth.set k (cntT (lc.take m) (k : Int) + 1), es := t.es ++ [(evAt (first + (i : Nat)) lc m c, v)] } :: l2) := by
  have hlt := cntT_lt hc
  rw [hk] at hlt
  have hknt : k < nt := by have := hp lc (List.mem_of_getElem? hl) c (List.mem_of_getElem? hc); omega
  have hpos : ∀ (i' : Nat) (l : List Ch), ls[i']? = some l → preT (tabsOf ls) (i' + 1) k = preT (tabsOf ls) i' k + cntT l (k : Int) := fun i' l hl' => by
    rw [preT_succ, tabs_count hl' (fun c hc => (hp l (List.mem_of_getElem? hl') c hc).1)]
  obtain ⟨lc0, g1, g2⟩ := h.at_ l1.length t (by simp)
  have e : s.done + l1.length = i := by have := g2.n; omega
  rw [e] at g1 g2
  rw [hl] at g1
  obtain rfl := Option.some.inj g1
  -- other transactions
  have oth : ∀ (i' : Nat) (l : List Ch) (u : Tb), i' ≠ i → ls[i']? = some l → TbRel nt first l (tabsOf ls) s i' u → TbRel nt first l (tabsOf ls) (s.takeK k) i' u := by
    intro i' l u hne hl' hu
    have hmin : ∀ j, j < nt → min (cntT l (j : Int)) ((s.takeK k).a j - preT (tabsOf ls) i' j) = min (cntT l (j : Int)) (s.a j - preT (tabsOf ls) i' j) := by
      intro j hj
      by_cases hjk : j = k
      · subst hjk
        rw [takeK_same]
        rcases Nat.lt_or_ge i' i with hlt' | hge'
        · have a1 := hpos i' l hl'
          have a2 := preT_mono (T := tabsOf ls) (k := j) (show i' + 1 ≤ i from hlt')
          omega
        · have a1 := hpos i lc hl
          have a2 := preT_mono (T := tabsOf ls) (k := j) (show i + 1 ≤ i' by omega)
          omega
      · rw [takeK_other s hjk]
    refine ⟨hu.n, hu.f0, hu.f1, fun j hj => by rw [hmin j hj]; exact hu.nth j hj, fun p hp' => ?_, by rw [hu.len]; exact sumN_congr nt (fun j hj => (hmin j hj).symm)⟩
    obtain ⟨m', c', b1, b2, b3⟩ := hu.es p hp'
    exact ⟨m', c', b1, b2, by have := takeK_le s k c'.tb.toNat; omega⟩
  refine ⟨by have := h.len; simp at this ⊢; exact this, fun j u hj => ?_⟩
  rcases Nat.lt_trichotomy j l1.length with hlt' | heq | hgt
  · show ∃ lc', ls[s.done + j]? = some lc' ∧ TbRel nt first lc' (tabsOf ls) (s.takeK k) (s.done + j) u
    rw [List.getElem?_append_left hlt'] at hj
    obtain ⟨l, b1, b2⟩ := h.at_ j u (by rw [List.getElem?_append_left hlt']; exact hj)
    exact ⟨l, b1, oth _ l u (by omega) b1 b2⟩
  · subst heq
    simp at hj
    subst hj
    show ∃ lc', ls[s.done + l1.length]? = some lc' ∧ TbRel nt first lc' (tabsOf ls) (s.takeK k) (s.done + l1.length) _
    rw [e]
    have hmin : ∀ j, j < nt → min (cntT lc (j : Int)) ((s.takeK k).a j - preT (tabsOf ls) i j) = if j = k then min (cntT lc (j : Int)) (s.a j - preT (tabsOf ls) i j) + 1 else min (cntT lc (j : Int)) (s.a j - preT (tabsOf ls) i j) := by
      intro j hj
      by_cases hjk : j = k
      · subst hjk
        rw [takeK_same, if_pos rfl]
        omega
      · rw [takeK_other s hjk, if_neg hjk]
    refine ⟨lc, hl, g2.n, g2.f0, g2.f1, fun j hj => ?_, fun p hp' => ?_, ?_⟩
    · show (t.nth.set k _)[j]? = _
      rw [hmin j hj]
      by_cases hjk : j = k
      · subst hjk
        have hlen : j < t.nth.length := (List.getElem?_eq_some_iff.1 (g2.nth j hj)).1
        rw [if_pos rfl, List.getElem?_set_self hlen]
        congr 1
        omega
      · rw [if_neg hjk, List.getElem?_set_ne (fun e => hjk e.symm)]
        exact g2.nth j hj
    · rcases List.mem_append.1 hp' with hp' | hp'
      · obtain ⟨m', c', b1, b2, b3⟩ := g2.es p hp'
        exact ⟨m', c', b1, b2, by have := takeK_le s k c'.tb.toNat; omega⟩
      · obtain rfl := List.mem_singleton.1 hp'
        refine ⟨m, c, hc, rfl, ?_⟩
        rw [hk, Int.toNat_natCast, takeK_same]
        omega
    · show (t.es ++ [_]).length = _
      rw [List.length_append, g2.len, sumN_congr nt hmin, sumN_one nt hknt]
      rfl
  · obtain ⟨d, rfl⟩ : ∃ d, j = l1.length + 1 + d := ⟨j - l1.length - 1, by omega⟩
    have hj' : (l1 ++ t :: l2)[l1.length + 1 + d]? = some u := by
      rw [List.getElem?_append_right (by omega), show l1.length + 1 + d - l1.length = d + 1 by omega, List.getElem?_cons_succ] at hj ⊢
      exact hj
    show ∃ lc', ls[s.done + (l1.length + 1 + d)]? = some lc' ∧ TbRel nt first lc' (tabsOf ls) (s.takeK k) (s.done + (l1.length + 1 + d)) u
    obtain ⟨l, b1, b2⟩ := h.at_ _ u hj'
    exact ⟨l, b1, oth _ l u (by omega) b1 b2⟩
/-- Where a transaction has room. -/
theorem szT_at {ls : List (List Ch)} {i : Nat} {l : List Ch} (h : ls[i]? = some l) : szT (tabsOf ls) (i + 1) = szT (tabsOf ls) i + l.length := by
  show szT (tabsOf ls) i + ((tabsOf ls).getD i []).length = _
  rw [tabs_at h, List.length_map]
theorem fin_sum {nt : Nat} {first : Int} {lc : List Ch} {T : List (List Nat)} {s : Bs} {i : Nat} {t : Tb} (h : TbRel nt first lc T s i t) (hp : ∀ c ∈ lc, 0 ≤ c.tb ∧ c.tb < nt) {f : Fi} (hf : t.fin = some f) : 2 * (i + 1) ≤ s.a0 ∧ f.cnt = cntsOf nt lc ∧ f.sq.length = nt ∧ f.cnt.sum = lc.length := by
  rcases Nat.lt_or_ge s.a0 (2 * (i + 1)) with hlt | hge
  · rw [h.f1 hlt] at hf; cases hf
  · obtain ⟨f', e1, e2, e3⟩ := h.f0 hge
    rw [hf] at e1
    obtain rfl := Option.some.inj e1
    exact ⟨hge, e2, e3, by rw [e2]; exact cnts_sum hp⟩
theorem room_rel {nt : Nat} {first : Int} {ls : List (List Ch)} {s : Bs} (hp : ∀ l ∈ ls, ∀ c ∈ l, 0 ≤ c.tb ∧ c.tb < nt) (bd : Nat) (i : Nat) : ∀ (l : List Tb) (d : Nat) (a : Nat), (∀ (j : Nat) t, l[j]? = some t → ∃ lc, ls[d + j]? = some lc ∧ TbRel nt first lc (tabsOf ls) s (d + j) t) → ∀ X, roomL bd (first + (i : Nat)) (a : Int) l = some X →
    ∃ l1 t l2, l = l1 ++ t :: l2 ∧ t.X = X ∧ d + l1.length = i ∧ 2 * (i + 1) ≤ s.a0 ∧ a + (szT (tabsOf ls) (i + 1) - szT (tabsOf ls) d) ≤ bd
  | [], _, _, _, X, h => by cases h
  | t :: l, d, a, hl, X, h => by
    obtain ⟨lc, h1, h2⟩ := hl 0 t rfl
    simp only [Nat.add_zero] at h1 h2
    have hpl := hp lc (List.mem_of_getElem? h1)
    rw [roomL] at h
    cases hf : t.fin with
    | none => rw [hf] at h; cases h
    | some f =>
      obtain ⟨b1, b2, b3, b4⟩ := fin_sum h2 hpl hf
      have hsz := szT_at h1
      rw [hf, if_neg (by simp), show sumF (some f) = f.cnt.sum from rfl, b4] at h
      by_cases hb : (bd : Int) < (a : Int) + (lc.length : Int)
      · rw [if_pos hb] at h; cases h
      · rw [if_neg hb] at h
        by_cases hn : t.n = first + (i : Nat)
        · rw [if_pos hn] at h
          have hdi : d = i := by have := h2.n; omega
          subst hdi
          refine ⟨[], t, l, rfl, Option.some.inj h, rfl, b1, by omega⟩
        · rw [if_neg hn] at h
          have hc : (a : Int) + (lc.length : Int) = ((a + lc.length : Nat) : Int) := by omega
          rw [hc] at h
          obtain ⟨l1, u, l2, e1, e2, e3, e4, e5⟩ := room_rel hp bd i l (d + 1) (a + lc.length) (fun j u hj => by
            have := hl (j + 1) u (by simpa using hj)
            rw [show d + (j + 1) = d + 1 + j by omega] at this
            exact this) X h
          have hm := szT_mono (T := tabsOf ls) (show d + 1 ≤ i + 1 by omega)
          exact ⟨t :: l1, u, l2, by rw [e1]; rfl, e2, by rw [List.length_cons]; omega, e4, by omega⟩
theorem room_first {nt : Nat} {first : Int} {ls : List (List Ch)} {s : Bs} {l : List Tb} {lc : List Ch} (h : BufRel nt first ls s l) (hp : ∀ l ∈ ls, ∀ c ∈ l, 0 ≤ c.tb ∧ c.tb < nt) (hl : ls[s.done]? = some lc) (bd : Nat) (hb : lc.length ≤ bd) (ha : 2 * (s.done + 1) ≤ s.a0) : roomL bd (first + (s.done : Nat)) 0 l ≠ none := by
  have hlen := h.len
  cases l with
  | nil => simp only [List.length_nil] at hlen; omega
  | cons t l =>
    obtain ⟨lc', h1, h2⟩ := h.at_ 0 t rfl
    simp only [Nat.add_zero] at h1 h2
    rw [hl] at h1
    obtain rfl := Option.some.inj h1
    obtain ⟨f, hf, _, _⟩ := h2.f0 ha
    obtain ⟨b1, b2, b3, b4⟩ := fin_sum h2 (hp lc (List.mem_of_getElem? hl)) hf
    rw [roomL, hf, if_neg (by simp), show sumF (some f) = f.cnt.sum from rfl, b4, if_neg (by omega), if_pos h2.n]
    simp
theorem min_all {nt : Nat} {T : List (List Nat)} {s : Bs} {i : Nat} {lc : List Ch} (hs : sumN (fun k => min (cntT lc (k : Int)) (s.a k - preT T i k)) nt = sumN (fun k => cntT lc (k : Int)) nt) : ∀ k, k < nt → cntT lc (k : Int) ≤ s.a k - preT T i k := by
  induction nt with
  | zero => intro k hk; omega
  | succ n ih =>
    simp only [sumN] at hs
    have hle := sumN_le (f := fun k => min (cntT lc (k : Int)) (s.a k - preT T i k)) (g := fun k => cntT lc (k : Int)) n (fun k _ => Nat.min_le_left _ _)
    intro k hk
    rcases Nat.lt_or_ge k n with h | h
    · exact ih (by omega) k h
    · obtain rfl : k = n := by omega
      omega
theorem cnt_total {nt : Nat} {lc : List Ch} (hp : ∀ c ∈ lc, 0 ≤ c.tb ∧ c.tb < nt) : sumN (fun k => cntT lc (k : Int)) nt = lc.length := by
  have h1 := cnts_sum hp
  have h2 : ∀ n, ((List.range n).map fun (k : Nat) => (cntT lc (k : Int) : Int)).sum = sumN (fun k => cntT lc (k : Int)) n := by
    intro n
    induction n with
    | zero => rfl
    | succ n ih => rw [List.range_succ, List.map_append, List.sum_append, ih]; simp [sumN]
  unfold cntsOf at h1
  rw [h2] at h1
  omega
/-- The next transaction is ready just where all its records have come. -/
theorem ready_rel {nt n : Nat} {first : Int} {ls : List (List Ch)} {s : Bs} {l : List Tb} {lc : List Ch} (h : BufRel nt first ls s l) (hi : BsInv nt n (tabsOf ls) s) (hp : ∀ l ∈ ls, ∀ c ∈ l, 0 ≤ c.tb ∧ c.tb < nt) (hl : ls[s.done]? = some lc) : readyL l = true ↔ compB nt (tabsOf ls) s s.done := by
  have hlen := h.len
  have hpl := hp lc (List.mem_of_getElem? hl)
  have hct : ∀ k, ((tabsOf ls).getD s.done []).count k = cntT lc (k : Int) := fun k => tabs_count hl (fun c hc => (hpl c hc).1)
  have htot := cnt_total hpl
  cases l with
  | nil =>
    simp only [List.length_nil] at hlen
    refine ⟨(fun h' => by cases h'), fun h' => ?_⟩
    have := h'.1
    omega
  | cons t l =>
    obtain ⟨lc', h1, h2⟩ := h.at_ 0 t rfl
    simp only [Nat.add_zero] at h1 h2
    rw [hl] at h1
    obtain rfl := Option.some.inj h1
    cases hf : t.fin with
    | none =>
      have e : readyL (t :: l) = false := by simp only [readyL, hf]
      rw [e]
      refine ⟨(fun h' => by cases h'), fun h' => ?_⟩
      obtain ⟨f, e, _⟩ := h2.f0 h'.1
      rw [hf] at e
      cases e
    | some f =>
      obtain ⟨b1, b2, b3, b4⟩ := fin_sum h2 hpl hf
      have e : readyL (t :: l) = decide ((t.es.length : Int) = f.cnt.sum) := by simp only [readyL, hf]
      rw [e, decide_eq_true_iff, b4, h2.len]
      constructor
      · intro h'
        have hall := min_all (s := s) (T := tabsOf ls) (i := s.done) (lc := lc) (by rw [htot]; omega)
        refine ⟨b1, fun k hk => Or.inr ?_⟩
        rw [preT_succ, hct]
        have := hall k hk
        have := hi.pre k hk
        omega
      · intro h'
        rw [sumN_congr (g := fun k => cntT lc (k : Int)) nt (fun k hk => ?_), htot]
        rcases h'.2 k hk with h0 | h0
        · rw [hct] at h0
          omega
        · rw [preT_succ, hct] at h0
          omega
/-- It is whole then. -/
theorem nodup_le : ∀ (n : Nat) (l : List Nat), l.Nodup → (∀ x ∈ l, x < n) → l.length ≤ n
  | 0, l, _, hb => by
    cases l with
    | nil => exact Nat.le_refl _
    | cons x l => exact absurd (hb x (by simp)) (by omega)
  | n + 1, l, hn, hb => by
    by_cases hm : n ∈ l
    · have h1 := nodup_le n (l.erase n) (hn.erase n) (fun x hx => by
        have h2 := hb x (List.mem_of_mem_erase hx)
        have h3 : x ≠ n := fun e => by
          subst e
          exact ((List.Nodup.mem_erase_iff hn).1 hx).1 rfl
        omega)
      rw [List.length_erase_of_mem hm] at h1
      omega
    · have h1 := nodup_le n l hn (fun x hx => by
        have h2 := hb x hx
        have h3 : x ≠ n := fun e => hm (e ▸ hx)
        omega)
      omega
theorem nodup_full : ∀ (n : Nat) (l : List Nat), l.Nodup → (∀ x ∈ l, x < n) → n ≤ l.length → ∀ k, k < n → k ∈ l
  | 0, _, _, _, _, k, hk => by omega
  | n + 1, l, hn, hb, hl, k, hk => by
    by_cases hm : n ∈ l
    · rcases Nat.lt_or_ge k n with h | h
      · have h1 := nodup_full n (l.erase n) (hn.erase n) (fun x hx => by
          have h2 := hb x (List.mem_of_mem_erase hx)
          have h3 : x ≠ n := fun e => by
            subst e
            exact (List.Nodup.mem_erase_iff hn).1 hx |>.1 rfl
          omega) (by rw [List.length_erase_of_mem hm]; omega) k h
        exact List.mem_of_mem_erase h1
      · obtain rfl : k = n := by omega
        exact hm
    · exfalso
      have h1 : ∀ x ∈ l, x < n := fun x hx => by
        have h2 := hb x hx
        have h3 : x ≠ n := fun e => hm (e ▸ hx)
        omega
      have h2 := nodup_le n l hn h1
      omega
theorem whole_rel {nt n : Nat} {first : Int} {ls : List (List Ch)} {s : Bs} {l : List Tb} {lc : List Ch} (h : BufRel nt first ls s l) (hi : BsInv nt n (tabsOf ls) s) (hp : ∀ l ∈ ls, ∀ c ∈ l, 0 ≤ c.tb ∧ c.tb < nt) (hnt : 1 ≤ nt) (hnt2 : nt ≤ 12) (hl : ls[s.done]? = some lc) (hc : compB nt (tabsOf ls) s s.done) (hnd : ∀ t ∈ l, (t.ev.map (·.1)).Nodup) :
    ∃ t l' f, l = t :: l' ∧ Whole t f ∧ t.n = first + (s.done : Nat) ∧ f.cnt.sum = lc.length ∧ ∀ p ∈ t.es, ∃ (m : Nat) (c : Ch), lc[m]? = some c ∧ p.1 = evAt (first + (s.done : Nat)) lc m c := by
  have hr := (ready_rel h hi hp hl).2 hc
  have hpl := hp lc (List.mem_of_getElem? hl)
  cases l with
  | nil => cases hr
  | cons t l =>
    obtain ⟨lc', h1, h2⟩ := h.at_ 0 t rfl
    simp only [Nat.add_zero] at h1 h2
    rw [hl] at h1
    obtain rfl := Option.some.inj h1
    obtain ⟨f, hf, _, _⟩ := h2.f0 hc.1
    obtain ⟨b1, b2, b3, b4⟩ := fin_sum h2 hpl hf
    have e : readyL (t :: l) = decide ((t.es.length : Int) = f.cnt.sum) := by simp only [readyL, hf]
    rw [e] at hr
    have hlen := of_decide_eq_true hr
    have hes : ∀ p ∈ t.es, ∃ (m : Nat) (c : Ch), lc[m]? = some c ∧ p.1 = evAt (first + (s.done : Nat)) lc m c := fun p hp' => by
      obtain ⟨m, c, e1, e2, _⟩ := h2.es p hp'
      exact ⟨m, c, e1, e2⟩
    refine ⟨t, l, f, rfl, ⟨hf, hlen, fun k hk => ?_, ?_, ?_, ?_⟩, h2.n, b4, hes⟩
    · have hnd' : (t.es.map fun p => p.1.tot.toNat).Nodup := by
        have h0 := hnd t (by simp)
        have h3 : t.ev.map (·.1) = t.es.map fun p => p.1.tot := by simp [Tb.ev, Function.comp_def]
        rw [h3] at h0
        have h4 : (t.es.map fun p => p.1.tot) = (t.es.map fun p => p.1.tot.toNat).map (fun x : Nat => (x : Int)) := by
          rw [List.map_map]
          refine List.map_congr_left (fun p hp' => ?_)
          obtain ⟨m, c, _, e2⟩ := hes p hp'
          show p.1.tot = ((p.1.tot.toNat : Nat) : Int)
          rw [e2]
          show ((m : Nat) : Int) = (((m : Nat) : Int).toNat : Int)
          omega
        rw [h4, List.nodup_iff_pairwise_ne, List.pairwise_map] at h0
        rw [List.nodup_iff_pairwise_ne]
        exact h0.imp (fun hne e => hne (by rw [e]))
      have hk' := nodup_full lc.length (t.es.map fun p => p.1.tot.toNat) hnd' (fun x hx => by
        obtain ⟨p, hp', rfl⟩ := List.mem_map.1 hx
        obtain ⟨m, c, e1, e2⟩ := hes p hp'
        rw [e2]
        have := (List.getElem?_eq_some_iff.1 e1).1
        show ((m : Int)).toNat < _
        omega) (by rw [List.length_map]; omega) k (by omega)
      obtain ⟨p, hp', e⟩ := List.mem_map.1 hk'
      obtain ⟨m, c, e1, e2⟩ := hes p hp'
      refine ⟨p.1, p.2, hp', ?_⟩
      rw [e2] at e ⊢
      show ((m : Nat) : Int) = _
      have : ((m : Nat) : Int).toNat = k := e
      omega
    · intro e
      rw [b2] at e
      have := congrArg List.length e
      rw [cntsOf_length] at this
      simp at this
      omega
    · intro e
      rw [e] at b3
      simp at b3
      omega
    · omega
/-- There are never more events than the bound. -/
theorem len_rel {nt : Nat} {first : Int} {ls : List (List Ch)} {s : Bs} (hp : ∀ l ∈ ls, ∀ c ∈ l, 0 ≤ c.tb ∧ c.tb < nt) : ∀ (l : List Tb) (d : Nat), (∀ (j : Nat) t, l[j]? = some t → ∃ lc, ls[d + j]? = some lc ∧ TbRel nt first lc (tabsOf ls) s (d + j) t) → lenL l ≤ sumN (fun k => s.a k - preT (tabsOf ls) d k) nt
  | [], _, _ => Nat.zero_le _
  | t :: l, d, hl => by
    obtain ⟨lc, h1, h2⟩ := hl 0 t rfl
    simp only [Nat.add_zero] at h1 h2
    have hpl := hp lc (List.mem_of_getElem? h1)
    have ih := len_rel hp l (d + 1) (fun j u hj => by
      have := hl (j + 1) u (by simpa using hj)
      rw [show d + (j + 1) = d + 1 + j by omega] at this
      exact this)
    have e : lenL (t :: l) = t.es.length + lenL l := by simp [lenL]
    rw [e, h2.len]
    refine Nat.le_trans (Nat.add_le_add_left ih _) ?_
    rw [← sumN_add]
    refine sumN_le nt (fun k _ => ?_)
    rw [preT_succ, tabs_count h1 (fun c hc => (hpl c hc).1)]
    omega
end Go.Proofs.YtkfhfegogmlchaaDoor
