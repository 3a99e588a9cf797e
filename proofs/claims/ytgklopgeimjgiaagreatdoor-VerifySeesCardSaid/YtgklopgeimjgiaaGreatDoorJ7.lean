/- Several texts in one: see each part's head. -/
import Derived.Test.YtgklopgeimjgiaaGreatDoorJ4
import Derived.Laws.OwnMore
import Derived.Deep.DeepCutAuto
import Derived.Laws.Concat
import Derived.Test.YtgklopgeimjgiaaGreatDoorJ5
/- VerifySees, the plain law: a state's rows in order (by tables, then by keys); where a row stands, or would; what an op makes of them. -/
namespace Go.Proofs.YtgklopgeimjgiaaGreatDoor
open Go.Sort (SWO)

/-- Is a place ahead of another one: by tables, then by keys. -/
def pLess : Nat × V → Nat × V → Bool := lexL (fun a b => decide ((a.1 : Int) < b.1)) (fun a b => vLess a.2 b.2)
theorem swo_map {α β : Type} {p : β → β → Bool} (h : SWO p) (f : α → β) : SWO (fun a b => p (f a) (f b)) where
  irrefl := fun x => h.irrefl (f x)
  trans := fun x y z => h.trans (f x) (f y) (f z)
  ntrans := fun x y z => h.ntrans (f x) (f y) (f z)
theorem pLess_swo : SWO pLess := by
  have h2 := swo_map vLess_swo (fun a : Nat × V => a.2)
  have h1 := swo_lex (swo_on fun a : Nat × V => (a.1 : Int)) h2
  unfold pLess
  exact h1
/-- A key that a row may have. -/
def okK (v : V) : Prop := v.wf ∧ v.r = canonZ v.r
theorem pLess_eq {a b : Nat × V} (h1 : pLess a b = false) (h2 : pLess b a = false) (ha : okK a.2) (hb : okK b.2) : a = b := by
  unfold pLess at h1 h2
  obtain ⟨k1, k2, h1, h2⟩ := lex_eq h1 h2
  simp only [decide_eq_false_iff_not, Int.not_lt] at k1 k2
  exact Prod.ext (by omega) (vLess_eq h1 h2 ha.2 hb.2 ha.1 hb.1)
section
variable (pl : Rw → Nat × V)
/-- Rising. -/
def Ris (l : List Rw) : Prop := l.Pairwise fun a b => pLess (pl a) (pl b) = true
/-- Where a place stands among rows, or would. -/
def atI (l : List Rw) (p : Nat × V) : Nat := (l.takeWhile fun y => pLess (pl y) p).length
def HasP (l : List Rw) (p : Nat × V) : Prop := ∃ y ∈ l, pl y = p
variable {pl} {l : List Rw} {p : Nat × V}
theorem atI_le (l : List Rw) (p : Nat × V) : atI pl l p ≤ l.length := (List.takeWhile_sublist _).length_le
theorem atI_cons {a : Rw} : atI pl (a :: l) p = if pLess (pl a) p then atI pl l p + 1 else 0 := by
  unfold atI; rw [List.takeWhile_cons]; by_cases h : pLess (pl a) p = true <;> simp [h]
theorem at_get : ∀ {l : List Rw}, Ris pl l → ∀ {y : Rw}, y ∈ l → pl y = p → l[atI pl l p]? = some y
  | [], _, _, h, _ => absurd h (by simp)
  | a :: r, hs, y, h, he => by
    have hs' := List.pairwise_cons.1 hs
    rw [atI_cons]
    by_cases hb : pLess (pl a) p = true
    · rw [if_pos hb, List.getElem?_cons_succ]
      rcases List.mem_cons.1 h with rfl | h
      · rw [he, pLess_swo.irrefl] at hb; exact absurd hb (by simp)
      · exact at_get hs'.2 h he
    · rw [if_neg hb]
      rcases List.mem_cons.1 h with rfl | h
      · rfl
      · exact absurd (he ▸ hs'.1 y h) hb
theorem at_has (hs : Ris pl l) : HasP pl l p ↔ ∃ y, l[atI pl l p]? = some y ∧ pl y = p :=
  ⟨fun ⟨y, h1, h2⟩ => ⟨y, at_get hs h1 h2, h2⟩, fun ⟨y, h1, h2⟩ => ⟨y, List.mem_of_getElem? h1, h2⟩⟩
/-- Rows of one place are one. -/
theorem ris_one (hs : Ris pl l) {x y : Rw} (hx : x ∈ l) (hy : y ∈ l) (e : pl x = pl y) : x = y :=
  Option.some.inj ((at_get (p := pl y) hs hx e).symm.trans (at_get hs hy rfl))
theorem ris_nodup (hs : Ris pl l) : l.Nodup := hs.imp fun {a b} h e => by subst e; rw [pLess_swo.irrefl] at h; exact absurd h (by simp)
/-- A row of a new place, laid where it would stand. -/
theorem ins_ris {x : Rw} (hx : pl x = p) (hok : okK p.2) : ∀ {l : List Rw}, Ris pl l → (∀ y ∈ l, okK (pl y).2) → ¬ HasP pl l p → Ris pl (l.take (atI pl l p) ++ x :: l.drop (atI pl l p))
  | [], _, _, _ => by simp [Ris, atI]
  | a :: r, hs, ho, hn => by
    have hs' := List.pairwise_cons.1 hs
    rw [atI_cons]
    by_cases hb : pLess (pl a) p = true
    · rw [if_pos hb, List.take_succ_cons, List.drop_succ_cons, List.cons_append]
      refine List.pairwise_cons.2 ⟨fun y hy => ?_, ins_ris hx hok hs'.2 (fun y hy => ho y (List.mem_cons_of_mem _ hy)) (fun ⟨y, h1, h2⟩ => hn ⟨y, List.mem_cons_of_mem _ h1, h2⟩)⟩
      rcases List.mem_append.1 hy with hy | hy
      · exact hs'.1 y (List.mem_of_mem_take hy)
      · rcases List.mem_cons.1 hy with rfl | hy
        · rw [hx]; exact hb
        · exact hs'.1 y (List.mem_of_mem_drop hy)
    · rw [if_neg hb, List.take_zero, List.drop_zero, List.nil_append]
      have hb' : pLess (pl a) p = false := by simpa using hb
      have hpa : pLess p (pl a) = true := by
        cases h : pLess p (pl a) with
        | true => rfl
        | false => exact absurd ⟨a, List.mem_cons_self .., pLess_eq hb' h (ho a (List.mem_cons_self ..)) hok⟩ hn
      refine List.pairwise_cons.2 ⟨fun y hy => ?_, hs⟩
      rw [hx]
      rcases List.mem_cons.1 hy with rfl | hy
      · exact hpa
      · exact pLess_swo.trans _ _ _ hpa (hs'.1 y hy)
theorem ins_mem {x y : Rw} {i : Nat} : y ∈ l.take i ++ x :: l.drop i ↔ y = x ∨ y ∈ l := by
  rw [List.mem_append, List.mem_cons]
  constructor
  · rintro (h | h | h)
    · exact Or.inr (List.mem_of_mem_take h)
    · exact Or.inl h
    · exact Or.inr (List.mem_of_mem_drop h)
  · rintro (h | h)
    · exact Or.inr (Or.inl h)
    · rw [← List.take_append_drop i l, List.mem_append] at h
      exact h.elim Or.inl fun h => Or.inr (Or.inr h)
/-- A row laid in the place of one of its own place. -/
theorem set_ris {x y : Rw} {i : Nat} (hs : Ris pl l) (hi : l[i]? = some y) (he : pl x = pl y) : Ris pl (l.set i x) := by
  have e : (l.set i x).map pl = l.map pl := by
    rw [List.map_set, he]
    refine List.ext_getElem? fun j => ?_
    rw [List.getElem?_set]
    by_cases h : i = j
    · subst h
      rw [if_pos rfl, List.getElem?_map, hi]
      obtain ⟨h1, _⟩ := List.getElem?_eq_some_iff.1 hi
      rw [if_pos (by rw [List.length_map]; exact h1)]; rfl
    · rw [if_neg h]
  have h1 : (l.map pl).Pairwise fun a b => pLess a b = true := List.pairwise_map.2 hs
  rw [← e] at h1
  exact List.pairwise_map.1 h1
theorem del_ris (hs : Ris pl l) (i : Nat) : Ris pl (l.eraseIdx i) := hs.sublist (List.eraseIdx_sublist ..)
/-- Rising rows of the same things are the same. -/
theorem ris_unique : ∀ {l m : List Rw}, Ris pl l → Ris pl m → (∀ x, x ∈ l ↔ x ∈ m) → l = m
  | [], [], _, _, _ => rfl
  | [], b :: m, _, _, h => absurd ((h b).2 (List.mem_cons_self ..)) (by simp)
  | a :: l, [], _, _, h => absurd ((h a).1 (List.mem_cons_self ..)) (by simp)
  | a :: l, b :: m, hl, hm, h => by
    have hl' := List.pairwise_cons.1 hl
    have hm' := List.pairwise_cons.1 hm
    have e : a = b := by
      rcases List.mem_cons.1 ((h a).1 (List.mem_cons_self ..)) with h1 | h1
      · exact h1
      · rcases List.mem_cons.1 ((h b).2 (List.mem_cons_self ..)) with h2 | h2
        · exact h2.symm
        · have := pLess_swo.trans _ _ _ (hl'.1 b h2) (hm'.1 a h1)
          rw [pLess_swo.irrefl] at this; exact absurd this (by simp)
    subst e
    rw [ris_unique hl'.2 hm'.2 fun x => ?_]
    constructor
    · intro hx
      rcases List.mem_cons.1 ((h x).1 (List.mem_cons_of_mem _ hx)) with rfl | h1
      · have := hl'.1 x hx; rw [pLess_swo.irrefl] at this; exact absurd this (by simp)
      · exact h1
    · intro hx
      rcases List.mem_cons.1 ((h x).2 (List.mem_cons_of_mem _ hx)) with rfl | h1
      · have := hm'.1 x hx; rw [pLess_swo.irrefl] at this; exact absurd this (by simp)
      · exact h1
end
end Go.Proofs.YtgklopgeimjgiaaGreatDoor

/- VerifySees, the plain law: roots in order, each once (compP); the documents of a state have roots of their own (allD_nodup). -/
namespace Go.Proofs.YtgklopgeimjgiaaGreatDoor
open Go.Sort (SWO)

/-- Of equal ones side by side, the first. -/
def compP {α : Type} (eq : α → α → Bool) : List α → List α
  | [] => []
  | [a] => [a]
  | a :: b :: r => if eq a b then compP eq (a :: r) else a :: compP eq (b :: r)
  termination_by l => l.length
theorem compP_mem {α : Type} {eq : α → α → Bool} : ∀ (n : Nat) (l : List α), l.length ≤ n → (∀ a ∈ l, ∀ b ∈ l, eq a b = true → a = b) → ∀ x, x ∈ compP eq l ↔ x ∈ l
  | _, [], _, _, x => by rw [compP]
  | _, [a], _, _, x => by rw [compP]
  | 0, a :: b :: r, h, _, x => by simp at h
  | n + 1, a :: b :: r, h, he, x => by
    rw [compP]
    by_cases e : eq a b = true
    · have e2 := he a (List.mem_cons_self ..) b (List.mem_cons_of_mem _ (List.mem_cons_self ..)) e
      rw [if_pos e, compP_mem n (a :: r) (by simp only [List.length_cons] at *; omega)
        (fun u hu v hv => he u ((List.mem_cons.1 hu).elim (fun h => h ▸ List.mem_cons_self ..) fun h => List.mem_cons_of_mem _ (List.mem_cons_of_mem _ h)) v ((List.mem_cons.1 hv).elim (fun h => h ▸ List.mem_cons_self ..) fun h => List.mem_cons_of_mem _ (List.mem_cons_of_mem _ h)))]
      subst e2
      simp
    · rw [if_neg e, List.mem_cons, compP_mem n (b :: r) (by simp only [List.length_cons] at *; omega) (fun u hu v hv => he u (List.mem_cons_of_mem _ hu) v (List.mem_cons_of_mem _ hv)), List.mem_cons (a := x) (b := a)]
theorem compP_head {α : Type} {eq : α → α → Bool} : ∀ (n : Nat) (a : α) (r : List α), r.length ≤ n → ∃ m, compP eq (a :: r) = a :: m
  | _, a, [], _ => ⟨[], by rw [compP]⟩
  | 0, a, b :: r, h => by simp at h
  | n + 1, a, b :: r, h => by
    rw [compP]
    by_cases e : eq a b = true
    · rw [if_pos e]; exact compP_head n a r (by simp only [List.length_cons] at *; omega)
    · rw [if_neg e]; exact ⟨_, rfl⟩
/-- Of things in order, each once: they rise. -/
theorem compP_ris {α : Type} {eq lt : α → α → Bool} (hO : SWO lt) (he : ∀ a b, eq a b = (!lt a b && !lt b a)) :
    ∀ (n : Nat) (l : List α), l.length ≤ n → l.Pairwise (fun a b => lt b a = false) → (compP eq l).Pairwise (fun a b => lt a b = true)
  | _, [], _, _ => by rw [compP]; exact List.Pairwise.nil
  | _, [a], _, _ => by rw [compP]; simp
  | 0, a :: b :: r, h, _ => by simp at h
  | n + 1, a :: b :: r, h, hs => by
    have hs' := List.pairwise_cons.1 hs
    rw [compP]
    by_cases e : eq a b = true
    · rw [if_pos e]
      exact compP_ris hO he n (a :: r) (by simp only [List.length_cons] at *; omega) (List.pairwise_cons.2 ⟨fun y hy => hs'.1 y (List.mem_cons_of_mem _ hy), (List.pairwise_cons.1 hs'.2).2⟩)
    · rw [if_neg e]
      have ih := compP_ris hO he n (b :: r) (by simp only [List.length_cons] at *; omega) hs'.2
      have hab : lt a b = true := by
        have h1 := hs'.1 b (List.mem_cons_self ..)
        rw [he, h1] at e
        cases h2 : lt a b with
        | true => rfl
        | false => rw [h2] at e; exact absurd rfl e
      obtain ⟨m, hm⟩ := compP_head (eq := eq) r.length b r (Nat.le_refl _)
      rw [hm] at ih ⊢
      refine List.pairwise_cons.2 ⟨fun y hy => ?_, ih⟩
      rcases List.mem_cons.1 hy with rfl | hy
      · exact hab
      · exact hO.trans _ _ _ hab ((List.pairwise_cons.1 ih).1 y hy)
theorem ris_nd {α : Type} {lt : α → α → Bool} (hO : SWO lt) {l : List α} (h : l.Pairwise fun a b => lt a b = true) : l.Nodup :=
  h.imp fun {a b} h e => by subst e; rw [hO.irrefl] at h; exact absurd h (by simp)
section
variable {kids : Nat → List Nat} {key ref : Nat → List V → V}
/-- A document's root. -/
def rtD (key : Nat → List V → V) (d : De) : Nat × V := (d.tb.toNat, key d.tb.toNat d.row)
theorem rtD_docF (st : List Rw) (f : Nat) (x : Rw) : rtD key (docF kids key ref st f x) = (x.1, key x.1 x.2) := by
  cases f <;> simp [rtD, docF, De.tb, De.row]
/-- A state's documents: of each table of roots, by keys. -/
def allD (kids : Nat → List Nat) (key ref : Nat → List V → V) (st : List Rw) (tabs : List Nat) : List De :=
  tabs.flatMap fun t => (st.filter fun x => x.1 = t).map (docF kids key ref st 8)
theorem allD_mem {st : List Rw} {tabs : List Nat} {d : De} : d ∈ allD kids key ref st tabs ↔ ∃ x ∈ st, x.1 ∈ tabs ∧ d = docF kids key ref st 8 x := by
  unfold allD
  rw [List.mem_flatMap]
  constructor
  · rintro ⟨t, ht, h⟩
    obtain ⟨x, hx, rfl⟩ := List.mem_map.1 h
    rw [List.mem_filter, decide_eq_true_eq] at hx
    exact ⟨x, hx.1, hx.2 ▸ ht, rfl⟩
  · rintro ⟨x, hx, ht, rfl⟩
    exact ⟨x.1, ht, List.mem_map.2 ⟨x, by rw [List.mem_filter, decide_eq_true_eq]; exact ⟨hx, rfl⟩, rfl⟩⟩
theorem allD_nodup {dp : Nat → Nat} {st : List Rw} (h : StOk kids key dp st) {tabs : List Nat} (ht : tabs.Nodup) : ((allD kids key ref st tabs).map (rtD key)).Nodup := by
  unfold allD
  rw [List.map_flatMap, List.Nodup, List.pairwise_flatMap]
  refine ⟨fun t _ => ?_, ht.imp fun {a b} hab u hu v hv e => ?_⟩
  · rw [List.map_map, List.pairwise_map]
    refine (List.Pairwise.and_mem.1 (List.Pairwise.filter _ h.nd)).imp fun {a b} ⟨ha, hb, hab⟩ e => ?_
    rw [List.mem_filter, decide_eq_true_eq] at ha hb
    rw [Function.comp, Function.comp, rtD_docF, rtD_docF] at e
    exact hab (h.one a ha.1 b hb.1 (Prod.mk.inj e).1 (Prod.mk.inj e).2)
  · rw [List.map_map] at hu hv
    obtain ⟨x, hx, rfl⟩ := List.mem_map.1 hu
    obtain ⟨y, hy, rfl⟩ := List.mem_map.1 hv
    rw [List.mem_filter, decide_eq_true_eq] at hx hy
    rw [Function.comp, Function.comp, rtD_docF, rtD_docF] at e
    exact hab (hx.2.symm.trans ((Prod.mk.inj e).1.trans hy.2))
end
end Go.Proofs.YtgklopgeimjgiaaGreatDoor

/- Marks as data: rows of numbers; event.CheckMark: which marks may be. -/
namespace Go.Proofs.YtgklopgeimjgiaaGreatDoor
open Go.RowKit

/-- A slice of numbers reads as l. -/
def NRow (k : IntKind) (w : World) (A : Option Addr) (l : List Int) : Prop :=
  l.length ≤ 17592186044416 ∧ (l ≠ [] → ∃ b off, A = some ⟨b, off, none⟩ ∧ b < w.heap.size ∧ ∀ i v, l[i]? = some v → w.cell? ⟨b, off + i, none⟩ = some (.int k v))
theorem NRow.ext {k : IntKind} {w w' : World} {A : Option Addr} {l : List Int} (h : NRow k w A l) (hb : Below w.heap.size w w') : NRow k w' A l := by
  refine ⟨h.1, fun hl => ?_⟩
  obtain ⟨b, off, rfl, hlt, hc⟩ := h.2 hl
  exact ⟨b, off, rfl, Nat.lt_of_lt_of_le hlt hb.size, fun i v hi => (hb.cell (p := ⟨b, _, none⟩) hlt).trans (hc i v hi)⟩
theorem NRow.at_ {k : IntKind} {w : World} {A : Option Addr} {l : List Int} (h : NRow k w A l) {j : Nat} (hj : j < l.length) :
    ∃ (b off : Nat) (v : Int), A = some ⟨b, off, none⟩ ∧ b < w.heap.size ∧ l[j]? = some v ∧ v ∈ l ∧ w.cell? ⟨b, off + j, none⟩ = some (.int k v) := by
  obtain ⟨b, off, rfl, hlt, hc⟩ := h.2 (by intro e; simp [e] at hj)
  have hv := List.getElem?_eq_getElem hj
  exact ⟨b, off, l[j], rfl, hlt, hv, List.getElem_mem hj, hc j _ hv⟩
theorem NRow.nil (k : IntKind) (w : World) (A : Option Addr) : NRow k w A [] := ⟨by simp, fun h => absurd rfl h⟩

structure Mk where
  k : Int
  tx : Int
  cs : List Int
  sq : List Int
def Mk.wf (m : Mk) : Prop := (0 ≤ m.k ∧ m.k ≤ 255) ∧ (0 ≤ m.tx ∧ m.tx ≤ 18446744073709551615) ∧ (∀ v ∈ m.cs, -9223372036854775808 ≤ v ∧ v ≤ 9223372036854775807) ∧ (∀ v ∈ m.sq, 0 ≤ v ∧ v ≤ 18446744073709551615)

theorem okE_f' {b : Bool} (h : b = false) : okE b = 2 := by rw [h]; rfl
theorem okE_t' {b : Bool} (h : b = true) : okE b = 0 := by rw [h]; rfl
end Go.Proofs.YtgklopgeimjgiaaGreatDoor

/- A block of memory told whole and turned: putBlk; rows of the call's own beside it. -/
namespace Go.Proofs.YtgklopgeimjgiaaGreatDoor
open Go.RowKit

/-- A world with one block's cells told. -/
def putBlk (w : World) (b : Nat) (cs : Array Value) (t : TypeId) : World := { w with heap := w.heap.setIfInBounds b (.cells cs t (0, 0)) }
theorem putBlk_self {w : World} {b : Nat} {cs : Array Value} {t : TypeId} (h : Blk w b cs t) : putBlk w b cs t = w := by
  have : w.heap.setIfInBounds b (.cells cs t (0, 0)) = w.heap := by
    apply Array.ext_getElem?
    intro i
    rw [Array.getElem?_setIfInBounds]
    split
    · next e =>
      subst e
      split
      · exact h.symm
      · next hn => exact absurd h.lt hn
    · rfl
  unfold putBlk
  rw [this]
theorem putBlk_size (w : World) (b : Nat) (cs : Array Value) (t : TypeId) : (putBlk w b cs t).heap.size = w.heap.size := by simp [putBlk]
theorem putBlk_blk {w : World} {b : Nat} (cs : Array Value) (t : TypeId) (h : b < w.heap.size) : Blk (putBlk w b cs t) b cs t := by
  unfold Blk putBlk
  simp [h]
theorem putBlk_ne {w : World} {b c : Nat} {cs cs' : Array Value} {t t' : TypeId} (h : Blk w c cs' t') (hne : c ≠ b) : Blk (putBlk w b cs t) c cs' t' := by
  unfold Blk putBlk at *
  simp only
  rw [Array.getElem?_setIfInBounds_ne (Ne.symm hne)]
  exact h
theorem putBlk_below {w a : World} {B b : Nat} (cs : Array Value) (t : TypeId) (h : Below B a w) (hb : B ≤ b) : Below B a (putBlk w b cs t) := by
  refine ⟨h.os, h.tape, h.output, by rw [putBlk_size]; exact h.size, fun c hc => ?_⟩
  refine Eq.trans ?_ (h.block c hc)
  unfold putBlk
  simp only
  rw [Array.getElem?_setIfInBounds_ne (by omega)]
theorem putBlk_set {w : World} {b : Nat} (cs : Array Value) (t : TypeId) (h : b < w.heap.size) (i : Nat) (v : Value) : (putBlk w b cs t).setCell ⟨b, i, none⟩ v = putBlk w b (cs.setIfInBounds i v) t := by
  unfold putBlk World.setCell
  simp only [World.mk.injEq, and_true]
  apply Array.ext_getElem?
  intro j
  rw [Array.getElem?_modify, Array.getElem?_setIfInBounds, Array.getElem?_setIfInBounds]
  by_cases e : b = j
  · subst e
    simp [h]
  · simp [e]
theorem putBlk_facts {w : World} {b : Nat} (t : TypeId) (h : b < w.heap.size) :
    (∀ cs i, (putBlk w b cs t).cell? ⟨b, i, none⟩ = cs[i]?) ∧ (∀ cs i, (putBlk w b cs t).frozen? ⟨b, i, none⟩ = false) ∧ ∀ cs i v, (putBlk w b cs t).setCell ⟨b, i, none⟩ v = putBlk w b (cs.setIfInBounds i v) t :=
  ⟨fun cs i => (putBlk_blk cs t h).cell i, fun cs i => (putBlk_blk cs t h).frozen i, fun cs i v => putBlk_set cs t h i v⟩
theorem blk_put {w : World} {b : Nat} {cs : Array Value} {t : TypeId} (h : Blk w b cs t) : ∃ w3, w = putBlk w3 b cs t ∧ b < w3.heap.size := ⟨w, (putBlk_self h).symm, h.lt⟩
theorem putBlk_old {w : World} {b c : Nat} {cs cs' : Array Value} {t t' : TypeId} (h : Blk (putBlk w b cs t) c cs' t') (hne : c ≠ b) (ds : Array Value) : Blk (putBlk w b ds t) c cs' t' := by
  unfold Blk putBlk at *
  simp only at *
  rw [Array.getElem?_setIfInBounds_ne (Ne.symm hne)] at h ⊢
  exact h
theorem putBlk_belows {w a : World} {B b : Nat} {cs : Array Value} {t : TypeId} (h : Below B a (putBlk w b cs t)) (hb : B ≤ b) (ds : Array Value) : Below B a (putBlk w b ds t) := by
  have := putBlk_below (b := b) ds t h hb
  have e : putBlk (putBlk w b cs t) b ds t = putBlk w b ds t := by unfold putBlk; simp
  rwa [e] at this
theorem own_below {w w' : World} {base : Nat} {e : TypeId} {size n : Nat} {v : Value} {xs : List Value} (h : w.ownsRow base e size v n xs) (hb : Below w.heap.size w w') : w'.ownsRow base e size v n xs := by
  refine ⟨h.1, ?_⟩
  rcases h.2 with h0 | ⟨g, cap, cur, rfl, hbg, hh, h1, h2, h3, h4⟩
  · exact .inl h0
  · have hlt : g < w.heap.size := by
      rcases Nat.lt_or_ge g w.heap.size with hlt | hge
      · exact hlt
      · rw [Array.getElem?_eq_none hge] at hh; cases hh
    exact .inr ⟨g, cap, cur, rfl, hbg, (hb.block g hlt).trans hh, h1, h2, h3, h4⟩
theorem own_far {w : World} {b1 b2 : Nat} {e1 e2 : TypeId} {s1 s2 n1 n2 : Nat} {v1 v2 : Value} {x1 x2 : List Value} (h1 : w.ownsRow b1 e1 s1 v1 n1 x1) (h2 : w.ownsRow b2 e2 s2 v2 n2 x2) (hne : e1 ≠ e2) : v2.ownBlock = none ∨ v1.ownBlock ≠ v2.ownBlock := by
  rcases h2.2 with ⟨rfl, _⟩ | ⟨g, cap, cur, rfl, _, hh, _⟩
  · exact .inl rfl
  · exact .inr (own_ne h1 hh hne)
theorem Blk.grown {w w' : World} {b : Nat} {cs : Array Value} {t : TypeId} {base : Nat} {e : TypeId} {sz n : Nat} {v : Value} {xs : List Value} (h : Blk w b cs t) (ho : w.ownsRow base e sz v n xs) (hne : e ≠ t) (hg : w.grownBy w' v.ownBlock) : Blk w' b cs t :=
  (hg.block b h.lt (own_ne ho h hne).symm).trans h
theorem own_form {w : World} {base : Nat} {e : TypeId} {size n : Nat} {v : Value} {xs : List Value} (h : w.ownsRow base e size v n xs) : ∃ A c, v = .slice A n c := by
  rcases h.2 with ⟨rfl, rfl⟩ | ⟨g, cap, cur, rfl, _⟩
  · exact ⟨none, 0, rfl⟩
  · exact ⟨_, _, rfl⟩
theorem cells_new1 (w : World) (a : Value) (t : TypeId) : ∀ j u, [a][j]? = some u → (w.alloc (.cells #[a] t)).cell? ((⟨w.heap.size, 0, none⟩ : Addr).add j) = some u := by
  intro j u h
  match j with
  | 0 => exact ((Blk.new w #[a] t).cell 0).trans (by simpa using h)
  | j + 1 => simp at h
theorem ne_empty {rb : ByteArray} (h : ¬ rb.size = 0) : rb.toList.isEmpty = false ∧ rb.data.toList ≠ [] := by
  have h1 : rb.data.toList ≠ [] := by
    intro h'
    apply h
    have := congrArg List.length h'
    simpa using this
  have := str_ne rb.data.toList h1
  rw [Array.toArray_toList] at this
  exact ⟨this.1, h1⟩
theorem byte_at (s : ByteArray) (i : Nat) (h : i < s.size) : s[i] = s.data.toList.getD i 0 := by
  rw [List.getD_eq_getElem?_getD, Array.getElem?_toList, Array.getElem?_eq_getElem h]
  rfl
theorem putBlk_cell_ne {w : World} {b g : Nat} (h : g ≠ b) (cs ds : Array Value) (t : TypeId) (i : Nat) : (putBlk w b ds t).cell? ⟨g, i, none⟩ = (putBlk w b cs t).cell? ⟨g, i, none⟩ := by
  unfold putBlk World.cell?
  simp only
  rw [Array.getElem?_setIfInBounds_ne (Ne.symm h), Array.getElem?_setIfInBounds_ne (Ne.symm h)]
theorem own_put {w : World} {b : Nat} {cs : Array Value} {t : TypeId} {base : Nat} {e : TypeId} {size n : Nat} {v : Value} {xs : List Value} (h3 : (putBlk w b cs t).ownsRow base e size v n xs) (hb : b < w.heap.size) (hne : e ≠ t) (ds : Array Value) : (putBlk w b ds t).ownsRow base e size v n xs := by
  have hfar := own_ne h3 (putBlk_blk cs t hb) hne
  refine ⟨h3.1, ?_⟩
  rcases h3.2 with h0 | ⟨g, cap, cur, hv, hbg, hh, h4⟩
  · exact .inl h0
  · refine .inr ⟨g, cap, cur, hv, hbg, ?_, h4⟩
    have hgb : b ≠ g := by
      intro e
      apply hfar
      rw [hv, e]
      rfl
    unfold putBlk at hh ⊢
    simp only at hh ⊢
    rw [Array.getElem?_setIfInBounds_ne hgb] at hh ⊢
    exact hh
end Go.Proofs.YtgklopgeimjgiaaGreatDoor

/- event.GetMark: which mark bytes are. -/
namespace Go.Proofs.YtgklopgeimjgiaaGreatDoor
open Go.RowKit

theorem NRow.of_own {k : IntKind} {w : World} {base n c : Nat} {e : TypeId} {A : Option Addr} {l : List Int} (hlen : l.length ≤ 17592186044416)
    (h : w.ownsRow base e 1 (.slice A n c) n (l.map (Value.int k))) : NRow k w A l ∧ n = l.length := by
  have hn : n = l.length := by have := h.1; simp at this; omega
  refine ⟨⟨hlen, fun hl => ?_⟩, hn⟩
  have hpos : 0 < n := by rw [hn]; exact List.length_pos_iff.2 hl
  obtain ⟨g, cap, hv, _, hlt⟩ := h.form hpos
  have hA : A = some ⟨g, 0, none⟩ := by injection hv
  subst hA
  refine ⟨g, 0, rfl, hlt, fun i v hi => ?_⟩
  have hc := h.cells (g := g) rfl i (.int k v) (by rw [List.getElem?_map, hi]; rfl)
  have e : (⟨g, 0, none⟩ : Addr).add i = ⟨g, 0 + i, none⟩ := by
    unfold Addr.add; split
    · next h0 => subst h0; rfl
    · simp
  rwa [e] at hc
theorem info_i64 : (Tryz.prog.info? 3).map (fun i => (i.zero, i.size, i.bytes)) = some (some (.int .i64 0), 1, 8) := by kernel_rfl
theorem cells_blk1 {w : World} {b : Nat} {a : Value} {t : TypeId} (h : Blk w b #[a] t) : ∀ j u, [a][j]? = some u → w.cell? ((⟨b, 0, none⟩ : Addr).add j) = some u := by
  intro j u hu
  match j with
  | 0 => exact (h.cell 0).trans (by simpa using hu)
  | j + 1 => simp at hu
theorem str_empty {rb : ByteArray} (h : rb.size = 0) : rb = ByteArray.empty := by
  apply ByteArray.ext; apply Array.eq_empty_of_size_eq_zero; exact h
end Go.Proofs.YtgklopgeimjgiaaGreatDoor

/- The reference's side of marks: MayMark, PutMark, CopyMark, SameMark. -/
namespace Go.Proofs.YtgklopgeimjgiaaGreatDoor
open Go.RowKit

theorem NRow.none_ {k : IntKind} {w : World} {l : List Int} (h : NRow k w none l) : l.length = 0 := by
  rcases l with _ | ⟨v, l⟩
  · rfl
  · obtain ⟨b, off, h, _⟩ := h.2 (by simp)
    cases h
theorem NRow.cells_ {k : IntKind} {w : World} {A : Option Addr} {l : List Int} (h : NRow k w A l) : ∀ ad, A = some ad → ∀ j u, (l.map (Value.int k))[j]? = some u → w.cell? (ad.add j) = some u := by
  rintro ad rfl j u hu
  rw [List.getElem?_map] at hu
  cases hj : l[j]? with
  | none => rw [hj] at hu; cases hu
  | some v =>
    rw [hj] at hu
    simp only [Option.map_some, Option.some.injEq] at hu
    subst hu
    have hne : l ≠ [] := by rintro rfl; simp at hj
    obtain ⟨b, off, e, _, hc⟩ := h.2 hne
    injection e with e
    subst e
    have ea : (⟨b, off, none⟩ : Addr).add j = ⟨b, off + j, none⟩ := by
      unfold Addr.add; split
      · next h0 => subst h0; rfl
      · rfl
    rw [ea]
    exact hc j v hj
end Go.Proofs.YtgklopgeimjgiaaGreatDoor
