/- A block of memory told whole and turned: putBlk; rows of the call's own beside it. -/
import Derived.Test.YtjdfodmialhakaaDoorEv2
import Derived.Laws.OwnMore
namespace Go.Proofs.YtjdfodmialhakaaDoor
open Go.RowKit

/-- A world with one block's cells told. -/
def putBlk (w : World) (b : Nat) (cs : Array Value) (t : TypeId) : World := { w with heap := w.heap.setIfInBounds b (.cells cs t (0, 0)) }
theorem putBlk_self {w : World} {b : Nat} {cs : Array Value} {t : TypeId} (h : Blk w b cs t) : putBlk w b cs t = w := by
  have : w.heap.setIfInBounds b (.cells cs t (0, 0)) = w.heap := by
    apply Array.ext_getElem?
    intro i
    rw [Array.getElem?_setIfInBounds]
    split
    · next e =>
      subst e
      split
      · exact h.symm
      · next hn => exact absurd h.lt hn
    · rfl
  unfold putBlk
  rw [this]
theorem putBlk_size (w : World) (b : Nat) (cs : Array Value) (t : TypeId) : (putBlk w b cs t).heap.size = w.heap.size := by simp [putBlk]
theorem putBlk_blk {w : World} {b : Nat} (cs : Array Value) (t : TypeId) (h : b < w.heap.size) : Blk (putBlk w b cs t) b cs t := by
  unfold Blk putBlk
  simp [h]
theorem putBlk_ne {w : World} {b c : Nat} {cs cs' : Array Value} {t t' : TypeId} (h : Blk w c cs' t') (hne : c ≠ b) : Blk (putBlk w b cs t) c cs' t' := by
  unfold Blk putBlk at *
  simp only
  rw [Array.getElem?_setIfInBounds_ne (Ne.symm hne)]
  exact h
theorem putBlk_below {w a : World} {B b : Nat} (cs : Array Value) (t : TypeId) (h : Below B a w) (hb : B ≤ b) : Below B a (putBlk w b cs t) := by
  refine ⟨h.os, h.tape, h.output, by rw [putBlk_size]; exact h.size, fun c hc => ?_⟩
  refine Eq.trans ?_ (h.block c hc)
  unfold putBlk
  simp only
  rw [Array.getElem?_setIfInBounds_ne (by omega)]
theorem putBlk_set {w : World} {b : Nat} (cs : Array Value) (t : TypeId) (h : b < w.heap.size) (i : Nat) (v : Value) : (putBlk w b cs t).setCell ⟨b, i, none⟩ v = putBlk w b (cs.setIfInBounds i v) t := by
  unfold putBlk World.setCell
  simp only [World.mk.injEq, and_true]
  apply Array.ext_getElem?
  intro j
  rw [Array.getElem?_modify, Array.getElem?_setIfInBounds, Array.getElem?_setIfInBounds]
  by_cases e : b = j
  · subst e
    simp [h]
  · simp [e]
theorem putBlk_facts {w : World} {b : Nat} (t : TypeId) (h : b < w.heap.size) :
    (∀ cs i, (putBlk w b cs t).cell? ⟨b, i, none⟩ = cs[i]?) ∧ (∀ cs i, (putBlk w b cs t).frozen? ⟨b, i, none⟩ = false) ∧ ∀ cs i v, (putBlk w b cs t).setCell ⟨b, i, none⟩ v = putBlk w b (cs.setIfInBounds i v) t :=
  ⟨fun cs i => (putBlk_blk cs t h).cell i, fun cs i => (putBlk_blk cs t h).frozen i, fun cs i v => putBlk_set cs t h i v⟩
theorem blk_put {w : World} {b : Nat} {cs : Array Value} {t : TypeId} (h : Blk w b cs t) : ∃ w3, w = putBlk w3 b cs t ∧ b < w3.heap.size := ⟨w, (putBlk_self h).symm, h.lt⟩
theorem putBlk_old {w : World} {b c : Nat} {cs cs' : Array Value} {t t' : TypeId} (h : Blk (putBlk w b cs t) c cs' t') (hne : c ≠ b) (ds : Array Value) : Blk (putBlk w b ds t) c cs' t' := by
  unfold Blk putBlk at *
  simp only at *
  rw [Array.getElem?_setIfInBounds_ne (Ne.symm hne)] at h ⊢
  exact h
theorem putBlk_belows {w a : World} {B b : Nat} {cs : Array Value} {t : TypeId} (h : Below B a (putBlk w b cs t)) (hb : B ≤ b) (ds : Array Value) : Below B a (putBlk w b ds t) := by
  have := putBlk_below (b := b) ds t h hb
  have e : putBlk (putBlk w b cs t) b ds t = putBlk w b ds t := by unfold putBlk; simp
  rwa [e] at this
theorem own_below {w w' : World} {base : Nat} {e : TypeId} {size n : Nat} {v : Value} {xs : List Value} (h : w.ownsRow base e size v n xs) (hb : Below w.heap.size w w') : w'.ownsRow base e size v n xs := by
  refine ⟨h.1, ?_⟩
  rcases h.2 with h0 | ⟨g, cap, cur, rfl, hbg, hh, h1, h2, h3, h4⟩
  · exact .inl h0
  · have hlt : g < w.heap.size := by
      rcases Nat.lt_or_ge g w.heap.size with hlt | hge
      · exact hlt
      · rw [Array.getElem?_eq_none hge] at hh; cases hh
    exact .inr ⟨g, cap, cur, rfl, hbg, (hb.block g hlt).trans hh, h1, h2, h3, h4⟩
theorem own_far {w : World} {b1 b2 : Nat} {e1 e2 : TypeId} {s1 s2 n1 n2 : Nat} {v1 v2 : Value} {x1 x2 : List Value} (h1 : w.ownsRow b1 e1 s1 v1 n1 x1) (h2 : w.ownsRow b2 e2 s2 v2 n2 x2) (hne : e1 ≠ e2) : v2.ownBlock = none ∨ v1.ownBlock ≠ v2.ownBlock := by
  rcases h2.2 with ⟨rfl, _⟩ | ⟨g, cap, cur, rfl, _, hh, _⟩
  · exact .inl rfl
  · exact .inr (own_ne h1 hh hne)
theorem own_first {w : World} {base : Nat} {e : TypeId} {n c : Nat} {A : Option Addr} {x : Value} {xs : List Value} (h : w.ownsRow base e 1 (.slice A n c) n (x :: xs)) :
    ∃ g, A = some ⟨g, 0, none⟩ ∧ w.cell? ⟨g, 0, none⟩ = some x ∧ ∀ y ys, xs = y :: ys → w.cell? ⟨g, 1, none⟩ = some y := by
  have hn : 0 < n := by have := h.1; simp at this; omega
  obtain ⟨g, cap, hv, _, _⟩ := h.form hn
  have hA : A = some ⟨g, 0, none⟩ := by injection hv
  subst hA
  have hc := h.cells (g := g) rfl
  refine ⟨g, rfl, hc 0 x rfl, fun y ys hy => ?_⟩
  subst hy
  exact hc 1 y rfl
theorem Blk.grown {w w' : World} {b : Nat} {cs : Array Value} {t : TypeId} {base : Nat} {e : TypeId} {sz n : Nat} {v : Value} {xs : List Value} (h : Blk w b cs t) (ho : w.ownsRow base e sz v n xs) (hne : e ≠ t) (hg : w.grownBy w' v.ownBlock) : Blk w' b cs t :=
  (hg.block b h.lt (own_ne ho h hne).symm).trans h
theorem own_form {w : World} {base : Nat} {e : TypeId} {size n : Nat} {v : Value} {xs : List Value} (h : w.ownsRow base e size v n xs) : ∃ A c, v = .slice A n c := by
  rcases h.2 with ⟨rfl, rfl⟩ | ⟨g, cap, cur, rfl, _⟩
  · exact ⟨none, 0, rfl⟩
  · exact ⟨_, _, rfl⟩
theorem cells_new1 (w : World) (a : Value) (t : TypeId) : ∀ j u, [a][j]? = some u → (w.alloc (.cells #[a] t)).cell? ((⟨w.heap.size, 0, none⟩ : Addr).add j) = some u := by
  intro j u h
  match j with
  | 0 => exact ((Blk.new w #[a] t).cell 0).trans (by simpa using h)
  | j + 1 => simp at h
theorem ne_empty {rb : ByteArray} (h : ¬ rb.size = 0) : rb.toList.isEmpty = false ∧ rb.data.toList ≠ [] := by
  have h1 : rb.data.toList ≠ [] := by
    intro h'
    apply h
    have := congrArg List.length h'
    simpa using this
  have := str_ne rb.data.toList h1
  rw [Array.toArray_toList] at this
  exact ⟨this.1, h1⟩
theorem slice_at (s : ByteArray) (i j : Nat) : (s.extract i j).data.toList = (s.data.toList.drop i).take (j - i) := by
  simp [ByteArray.data_extract]
theorem drop_str (s : ByteArray) (n : Nat) : (s.extract n s.size).data.toList = s.data.toList.drop n := by
  rw [slice_at, List.take_of_length_le (by simp)]
theorem byte_at (s : ByteArray) (i : Nat) (h : i < s.size) : s[i] = s.data.toList.getD i 0 := by
  rw [List.getD_eq_getElem?_getD, Array.getElem?_toList, Array.getElem?_eq_getElem h]
  rfl
theorem cell_lt {w : World} {g i : Nat} {v : Value} (h : w.cell? ⟨g, i, none⟩ = some v) : g < w.heap.size := by
  rcases Nat.lt_or_ge g w.heap.size with h' | h'
  · exact h'
  · simp [World.cell?, Array.getElem?_eq_none h'] at h
theorem putBlk_cell_ne {w : World} {b g : Nat} (h : g ≠ b) (cs ds : Array Value) (t : TypeId) (i : Nat) : (putBlk w b ds t).cell? ⟨g, i, none⟩ = (putBlk w b cs t).cell? ⟨g, i, none⟩ := by
  unfold putBlk World.cell?
  simp only
  rw [Array.getElem?_setIfInBounds_ne (Ne.symm h), Array.getElem?_setIfInBounds_ne (Ne.symm h)]
theorem own_blk_far {w : World} {base : Nat} {e : TypeId} {size n c g b : Nat} {xs : List Value} {cs : Array Value} {t : TypeId} (h : w.ownsRow base e size (.slice (some ⟨g, 0, none⟩) n c) n xs) (hb : Blk w b cs t) (hne : e ≠ t) : g ≠ b := by
  intro e
  exact own_ne h hb hne (by rw [e]; rfl)
def strLen : Value → Nat
  | .string b => b.size
  | _ => 0
theorem own_put {w : World} {b : Nat} {cs : Array Value} {t : TypeId} {base : Nat} {e : TypeId} {size n : Nat} {v : Value} {xs : List Value} (h3 : (putBlk w b cs t).ownsRow base e size v n xs) (hb : b < w.heap.size) (hne : e ≠ t) (ds : Array Value) : (putBlk w b ds t).ownsRow base e size v n xs := by
  have hfar := own_ne h3 (putBlk_blk cs t hb) hne
  refine ⟨h3.1, ?_⟩
  rcases h3.2 with h0 | ⟨g, cap, cur, hv, hbg, hh, h4⟩
  · exact .inl h0
  · refine .inr ⟨g, cap, cur, hv, hbg, ?_, h4⟩
    have hgb : b ≠ g := by
      intro e
      apply hfar
      rw [hv, e]
      rfl
    unfold putBlk at hh ⊢
    simp only at hh ⊢
    rw [Array.getElem?_setIfInBounds_ne hgb] at hh ⊢
    exact hh
end Go.Proofs.YtjdfodmialhakaaDoor
