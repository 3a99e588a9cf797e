/- Several texts in one: see each part's head. -/
import Derived.Test.YtgklopgeimjgiaaGreatDoorJ8
/- Schemas, the plain side: which may be (schB), depths, roots. -/
namespace Go.Proofs.YtgklopgeimjgiaaGreatDoor
open Go.RowKit

def colK (c : Co) : Bool := decide (1 ≤ c.k ∧ c.k ≤ 5)
def kAt (l : List Co) (i : Int) : Int := (l[i.toNat]?.map (·.k)).getD 0
def nlAt (l : List Co) (i : Int) : Bool := (l[i.toNat]?.map (·.nl)).getD false
def colsB (t : Ta) : Bool := decide (1 ≤ t.cs.length ∧ t.cs.length ≤ 8) && (t.cs.all colK && (namedB (t.cs.map (·.nm)) && (decide (0 ≤ t.key ∧ t.key < t.cs.length) && !(nlAt t.cs t.key))))
def rootB (t : Ta) : Bool := decide (t.ref = -1 ∧ t.par = -1)
def relB (n : Nat) (t : Ta) : Bool := decide ((0 ≤ t.ref ∧ t.ref < t.cs.length) ∧ t.ref ≠ t.key ∧ 0 ≤ t.par ∧ t.par < n)
def kinB (ahead : List Ta) (t : Ta) : Bool := match ahead[t.par.toNat]? with
  | some p => decide (kAt p.cs p.key = kAt t.cs t.ref)
  | none => false
def belB (ahead : List Ta) (t : Ta) : Bool := rootB t || (relB ahead.length t && kinB ahead t)
def depI (ds : List Int) (t : Ta) : Int := if rootB t then 1 else ds.getD t.par.toNat 0 + 1
def tabB (ahead : List Ta) (ds : List Int) (t : Ta) : Bool := colsB t && (belB ahead t && decide (depI ds t ≤ 8))
def deps (l : List Ta) : List Int := l.foldl (fun ds t => ds ++ [depI ds t]) []
theorem deps_snoc (l : List Ta) (t : Ta) : deps (l ++ [t]) = deps l ++ [depI (deps l) t] := by simp [deps, List.foldl_append]
theorem deps_fold : ∀ (l : List Ta) (ds : List Int), (l.foldl (fun ds t => ds ++ [depI ds t]) ds).length = ds.length + l.length
  | [], ds => by simp
  | t :: l, ds => by rw [List.foldl_cons, deps_fold l]; simp; omega
theorem deps_length (l : List Ta) : (deps l).length = l.length := by unfold deps; rw [deps_fold]; simp
/-- The first k tables fit, each behind those ahead of it. -/
def preB (ts : List Ta) (k : Nat) : Bool := (List.range k).all fun i => match ts[i]? with
  | some t => tabB (ts.take i) (deps (ts.take i)) t
  | none => true
def schB (ts : List Ta) : Bool := decide (1 ≤ ts.length ∧ ts.length ≤ 12) && (preB ts ts.length && namedB (ts.map (·.nm)))
theorem pre_zero (ts : List Ta) : preB ts 0 = true := rfl
theorem pre_succ {ts : List Ta} {k : Nat} {t : Ta} (h : ts[k]? = some t) : preB ts (k + 1) = (preB ts k && tabB (ts.take k) (deps (ts.take k)) t) := by
  unfold preB
  rw [List.range_succ, List.all_append]
  simp only [List.all_cons, List.all_nil, Bool.and_true, h]
theorem pre_at {ts : List Ta} {k j : Nat} {t : Ta} (h : preB ts k = true) (hj : j < k) (ht : ts[j]? = some t) : tabB (ts.take j) (deps (ts.take j)) t = true := by
  have := List.all_eq_true.1 h j (List.mem_range.2 hj)
  rwa [ht] at this
theorem pre_not {ts : List Ta} {k : Nat} {t : Ta} (ht : ts[k]? = some t) (h : tabB (ts.take k) (deps (ts.take k)) t = false) : schB ts = false := by
  have hk := (List.getElem?_eq_some_iff.1 ht).1
  have : preB ts ts.length = false := by
    unfold preB
    rw [List.all_eq_false]
    exact ⟨k, List.mem_range.2 hk, by rw [ht]; simp [h]⟩
  unfold schB
  rw [this]
  simp
theorem getD_app_l {α : Type} {l m : List α} {j : Nat} {d : α} (h : j < l.length) : (l ++ m).getD j d = l.getD j d := by
  rw [List.getD_eq_getElem?_getD, List.getD_eq_getElem?_getD, List.getElem?_append_left h]
theorem getD_app_r {α : Type} {l : List α} {x d : α} {j : Nat} (h : l.length = j) : (l ++ [x]).getD j d = x := by
  rw [List.getD_eq_getElem?_getD, List.getElem?_append_right (by omega), h, Nat.sub_self]
  rfl
theorem deps_take (ts : List Ta) : ∀ (k j : Nat), j < k → k ≤ ts.length → (deps (ts.take k)).getD j 0 = (deps (ts.take (j + 1))).getD j 0
  | 0, j, h, _ => absurd h (by omega)
  | k + 1, j, h, hk => by
    by_cases e : j = k
    · subst e; rfl
    · have hlt : k < ts.length := by omega
      rw [take_snoc (List.getElem?_eq_getElem hlt), deps_snoc, getD_app_l (by rw [deps_length]; simp; omega)]
      exact deps_take ts k j (by omega) (by omega)
theorem deps_at {ts : List Ta} {j k : Nat} {t : Ta} (ht : ts[j]? = some t) (hj : j < k) (hk : k ≤ ts.length) : (deps (ts.take k)).getD j 0 = depI (deps (ts.take j)) t := by
  have hl : j < ts.length := by omega
  rw [deps_take ts k j hj hk, take_snoc ht, deps_snoc, getD_app_r (by rw [deps_length]; simp; omega)]
/-- Table j's depth. -/
def depA (ts : List Ta) (j : Nat) : Int := (deps ts).getD j 0
theorem depA_at {ts : List Ta} {j : Nat} {t : Ta} (ht : ts[j]? = some t) : depA ts j = depI (deps (ts.take j)) t := by
  have hj := (List.getElem?_eq_some_iff.1 ht).1
  unfold depA
  have := deps_at ht hj (Nat.le_refl _)
  rwa [List.take_length] at this
theorem bel_par {ahead : List Ta} {t : Ta} (h : belB ahead t = true) : (t.par = -1 ∧ t.ref = -1 ∧ rootB t = true) ∨ (0 ≤ t.par ∧ t.par < ahead.length ∧ rootB t = false ∧ (0 ≤ t.ref ∧ t.ref < t.cs.length) ∧ t.ref ≠ t.key ∧ kinB ahead t = true) := by
  unfold belB at h
  rcases Bool.or_eq_true_iff.1 h with h | h
  · have h' := of_decide_eq_true h
    exact Or.inl ⟨h'.2, h'.1, h⟩
  · obtain ⟨h1, h2⟩ := Bool.and_eq_true_iff.1 h
    obtain ⟨h3, h4, h5, h6⟩ := of_decide_eq_true h1
    refine Or.inr ⟨h5, h6, ?_, h3, h4, h2⟩
    unfold rootB
    apply decide_eq_false
    omega
theorem tab_parts {ahead : List Ta} {ds : List Int} {t : Ta} (h : tabB ahead ds t = true) : colsB t = true ∧ belB ahead t = true ∧ depI ds t ≤ 8 := by
  unfold tabB at h
  obtain ⟨h1, h2⟩ := Bool.and_eq_true_iff.1 h
  obtain ⟨h3, h4⟩ := Bool.and_eq_true_iff.1 h2
  exact ⟨h1, h3, of_decide_eq_true h4⟩
theorem cols_parts {t : Ta} (h : colsB t = true) : (1 ≤ t.cs.length ∧ t.cs.length ≤ 8) ∧ t.cs.all colK = true ∧ namedB (t.cs.map (·.nm)) = true ∧ (0 ≤ t.key ∧ t.key < t.cs.length) ∧ nlAt t.cs t.key = false := by
  unfold colsB at h
  obtain ⟨h1, h⟩ := Bool.and_eq_true_iff.1 h
  obtain ⟨h2, h⟩ := Bool.and_eq_true_iff.1 h
  obtain ⟨h3, h⟩ := Bool.and_eq_true_iff.1 h
  obtain ⟨h4, h5⟩ := Bool.and_eq_true_iff.1 h
  exact ⟨of_decide_eq_true h1, h2, h3, of_decide_eq_true h4, by simpa using h5⟩
/-- What a table's depth has to do with its parent's. -/
theorem dep_par {ts : List Ta} {k j : Nat} {t : Ta} (hp : preB ts k = true) (hj : j < k) (ht : ts[j]? = some t) :
    (t.par = -1 ∧ t.ref = -1 ∧ depA ts j = 1) ∨ (0 ≤ t.par ∧ t.par < j ∧ depA ts j = depA ts t.par.toNat + 1) := by
  have hjl := (List.getElem?_eq_some_iff.1 ht).1
  obtain ⟨_, hb, _⟩ := tab_parts (pre_at hp hj ht)
  rw [depA_at ht]
  unfold depI
  rcases bel_par hb with ⟨h1, h2, h3⟩ | ⟨h1, h2, h3, _⟩
  · rw [if_pos h3]; exact Or.inl ⟨h1, h2, rfl⟩
  · rw [if_neg (by simp [h3])]
    have h2' : t.par < j := by rw [List.length_take] at h2; omega
    refine Or.inr ⟨h1, h2', ?_⟩
    have hpl : t.par.toNat < ts.length := by omega
    rw [depA_at (List.getElem?_eq_getElem hpl), deps_at (List.getElem?_eq_getElem hpl) (show t.par.toNat < j by omega) (by omega)]
theorem dep_range {ts : List Ta} {k : Nat} (hp : preB ts k = true) : ∀ (n j : Nat), j < n → j < k → k ≤ ts.length → 1 ≤ depA ts j ∧ depA ts j ≤ 8
  | 0, j, h, _, _ => absurd h (by omega)
  | n + 1, j, hn, hj, hk => by
    have hjl : j < ts.length := by omega
    have ht := List.getElem?_eq_getElem hjl
    have h8 := (tab_parts (pre_at hp hj ht)).2.2
    rw [← depA_at ht] at h8
    rcases dep_par hp hj ht with ⟨_, _, e⟩ | ⟨h1, h2, e⟩
    · omega
    · have := (dep_range hp n ts[j].par.toNat (by omega) (by omega) hk).1
      omega
theorem sch_parts {ts : List Ta} (h : schB ts = true) : (1 ≤ ts.length ∧ ts.length ≤ 12) ∧ preB ts ts.length = true ∧ namedB (ts.map (·.nm)) = true := by
  unfold schB at h
  obtain ⟨h1, h2⟩ := Bool.and_eq_true_iff.1 h
  obtain ⟨h3, h4⟩ := Bool.and_eq_true_iff.1 h2
  exact ⟨of_decide_eq_true h1, h3, h4⟩
theorem sch_len {ts : List Ta} (h : ¬ (1 ≤ ts.length ∧ ts.length ≤ 12)) : schB ts = false := by unfold schB; rw [decide_eq_false h]; rfl
theorem kAt_at {l : List Co} {i : Int} {c : Co} (h : l[i.toNat]? = some c) : kAt l i = c.k := by unfold kAt; rw [h]; rfl
theorem nlAt_at {l : List Co} {i : Int} {c : Co} (h : l[i.toNat]? = some c) : nlAt l i = c.nl := by unfold nlAt; rw [h]; rfl
end Go.Proofs.YtgklopgeimjgiaaGreatDoor
