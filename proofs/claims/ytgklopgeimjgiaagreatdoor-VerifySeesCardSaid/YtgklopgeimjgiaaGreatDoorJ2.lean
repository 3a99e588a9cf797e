/- Several texts in one: see each part's head. -/
import Derived.Laws.OwnMore
import Derived.Deep.AppendLies
import Derived.Maps.AppendAt
import Derived.Deep.Draws
import Derived.OwnWalk
import Derived.Test.YtgklopgeimjgiaaGreatDoorJ1
import Derived.LoopN
import Derived.Laws.IdiomStrings
import Derived.Laws.BytesArg
import Derived.IntWalk
import Derived.Laws.BitsAllLaws
import Derived.Deep.QuietTactic
import Derived.BigQuiet
import Derived.Lib.ValidLaws
import Derived.Lib.TrimUEq
import Derived.Lib.MapLaws
import Derived.Shelf.Unicode.DecodeLastEight
import Derived.Defers
import Derived.Recover
import Derived.Laws.Pointers
import Derived.WideLaws
import Derived.Deep.RegionHeld3
import Derived.RegionTactic
import Derived.ChangeAlike
import Derived.StillTailTactics
/- Contracts of the reference's Copy and Same. -/
namespace Go.Proofs.YtgklopgeimjgiaaGreatDoor
open Go.RowKit

theorem below_drewN {B : Nat} {a w : World} (h : Below B a w) (n : Nat) : Below B a (w.drewN n) := ⟨h.os, h.tape, h.output, h.size, h.block⟩
def V.cells (v : V) : List Value := [.int .u8 v.k, .int .i64 v.n, .int .u64 v.r, .string v.t]
def rowCells (l : List V) : List Value := l.flatMap V.cells
theorem rowCells_length (l : List V) : (rowCells l).length = l.length * 4 := by
  induction l with
  | nil => rfl
  | cons v l ih => simp only [rowCells, List.flatMap_cons, List.length_append, List.length_cons] at ih ⊢; rw [ih]; simp [V.cells]; omega
theorem rowCells_one (l : List V) : ∀ u ∈ rowCells l, u.oneCell' = true := by
  intro u hu
  simp only [rowCells, List.mem_flatMap] at hu
  obtain ⟨v, _, hu⟩ := hu
  simp only [V.cells, List.mem_cons, List.not_mem_nil, or_false] at hu
  rcases hu with rfl | rfl | rfl | rfl <;> rfl
theorem rowCells_at (l : List V) : ∀ (i : Nat) (v : V) (j : Nat), l[i]? = some v → j < 4 → (rowCells l)[i * 4 + j]? = v.cells[j]? := by
  induction l with
  | nil => intro i v j h; simp at h
  | cons x l ih =>
    intro i v j h hj
    simp only [rowCells, List.flatMap_cons]
    cases i with
    | zero =>
      simp only [List.getElem?_cons_zero, Option.some.injEq] at h
      subst h
      rw [List.getElem?_append_left (by simp [V.cells]; omega)]
      simp
    | succ i =>
      rw [List.getElem?_append_right (by simp [V.cells]; omega)]
      have e : (i + 1) * 4 + j - x.cells.length = i * 4 + j := by simp [V.cells]; omega
      rw [e]
      exact ih i v j (by simpa using h) hj
/-- A row of the call's own reads as a row. -/
theorem VRow.of_own {w : World} {base n c : Nat} {A : Option Addr} {l : List V} (hwf : ∀ v ∈ l, v.wf) (hlen : l.length ≤ 35184372088832)
    (h : w.ownsRow base 49 4 (.slice A n c) n (rowCells l)) : VRow w A l ∧ n = l.length := by
  have hn : n = l.length := by have := h.1; rw [rowCells_length] at this; omega
  refine ⟨⟨hwf, hlen, fun hl => ?_⟩, hn⟩
  have hpos : 0 < n := by rw [hn]; exact List.length_pos_iff.2 hl
  obtain ⟨g, cap, hv, _, hlt⟩ := h.form hpos
  have hA : A = some ⟨g, 0, none⟩ := by injection hv
  subst hA
  refine ⟨g, 0, rfl, hlt, fun i v hi => ?_⟩
  have hc := h.cells (g := g) rfl
  have key : ∀ j, j < 4 → ∀ u, v.cells[j]? = some u → w.cell? ⟨g, 0 + i * 4 + j, none⟩ = some u := by
    intro j hj u hu
    have := hc (i * 4 + j) u (by rw [rowCells_at l i v j hi hj]; exact hu)
    have e : (⟨g, 0, none⟩ : Addr).add (i * 4 + j) = ⟨g, 0 + i * 4 + j, none⟩ := by
      unfold Addr.add; split
      · next h0 =>
        obtain rfl : i = 0 := by omega
        obtain rfl : j = 0 := by omega
        rfl
      · simp
    rwa [e] at this
  exact ⟨key 0 (by omega) _ rfl, key 1 (by omega) _ rfl, key 2 (by omega) _ rfl, key 3 (by omega) _ rfl⟩
/-- The cells of a row, from its address on. -/
theorem VRow.cells_ {w : World} {l : List V} {b off : Nat} (h : VRow w (some ⟨b, off, none⟩) l) : ∀ j u, (rowCells l)[j]? = some u → w.cell? ((⟨b, off, none⟩ : Addr).add j) = some u := by
  intro j u hu
  have hj : j < l.length * 4 := by
    have := (List.getElem?_eq_some_iff.1 hu).1
    rwa [rowCells_length] at this
  obtain ⟨b', off', v, hA, _, hlk, _, _, c0, c1, c2, c3⟩ := h.at_ (k := j / 4) (by omega)
  injection hA with hA
  injection hA with e1 e2
  subst e1; subst e2
  have e : j = j / 4 * 4 + j % 4 := by omega
  rw [e, rowCells_at l (j / 4) v (j % 4) hlk (by omega)] at hu
  have ea : (⟨b, off, none⟩ : Addr).add j = ⟨b, off + j / 4 * 4 + j % 4, none⟩ := by
    unfold Addr.add; split
    · next h0 => subst h0; rfl
    · show (⟨b, off + j, none⟩ : Addr) = _
      rw [show off + j = off + j / 4 * 4 + j % 4 by omega]
  rw [ea]
  have hm : j % 4 = 0 ∨ j % 4 = 1 ∨ j % 4 = 2 ∨ j % 4 = 3 := by omega
  rcases hm with hm | hm | hm | hm <;> rw [hm] at hu ⊢ <;> simp only [V.cells, List.getElem?_cons_zero, List.getElem?_cons_succ, Option.some.injEq] at hu <;> subst hu
  · exact c0
  · exact c1
  · exact c2
  · exact c3
theorem info_V : (Tryz.prog.info? 49).map (fun i => (i.zero, i.size, i.bytes)) = some (some (.agg #[.int .u8 0, .int .i64 0, .int .u64 0, .string ⟨#[]⟩]), 4, 40) := by kernel_rfl

set_option maxRecDepth 100000 in
theorem copy_any (l : List V) (A : Option Addr) (c : Nat) (w : World) (hr : VRow w A l) (hl : l.length ≤ 2932031007402) :
    Calls Tryz.prog 46 #[.slice A l.length c] w fun e w' => ∃ A' c', e = .returned (.slice A' l.length c') ∧ w'.ownsRow w.heap.size 49 4 (.slice A' l.length c') l.length (rowCells l) ∧ Below w.heap.size w w' := by
  obtain ⟨i0, hi0, hz0, hz1, hz2⟩ := info_parts info_V
  have h0 : w.ownsRow w.heap.size 49 4 (.slice none 0 0) 0 [] := ⟨rfl, .inl ⟨rfl, rfl⟩⟩
  rcases A with _ | ad
  · obtain rfl : l = [] := by
      rcases l with _ | ⟨v, l⟩
      · rfl
      · obtain ⟨b, off, h, _⟩ := hr.2.2 (by simp)
        cases h
    go_enter Tryz.func46, Tryz.ntmps46
    go_wp2
    go_ret
    exact ⟨none, 0, rfl, h0, Below.refl _ _⟩
  · have hc : ∀ j u, (rowCells l)[j]? = some u → w.cell? (ad.add j) = some u := by
      rcases l with _ | ⟨v, l⟩
      · intro j u h; simp [rowCells] at h
      · obtain ⟨b, off, h, _⟩ := hr.2.2 (by simp)
        injection h with h
        subst h
        exact hr.cells_
    have HC := Lib.hid hc
    clear hc hr
    go_enter Tryz.func46, Tryz.ntmps46
    go_wp2_with (at_builtin; refine wpList_append_own _ rfl _ _ 26 rfl w.heap.size 49 i0 _ 4 40 Tryz.underlying26 hi0 hz0 hz1 hz2 rfl (by decide) (.slice none 0 0) 0 [] rfl h0 ad l.length c (rowCells l) rfl (rowCells_length l) HC.out (rowCells_one l) ?c3 ?c4 ?c5 ?_)
    case c3 => simp only [maxLen]; omega
    case c4 => omega
    case c5 => exact Nat.le_refl _
    intro v' w1 hown1 hg1 _
    have hbw1 : Below w.heap.size w w1 := (Below.refl _ _).grown hg1 (Nat.le_refl _) (by simp [Value.ownBlock])
    obtain ⟨A', c', rfl⟩ : ∃ A' c', v' = .slice A' l.length c' := by
      rcases hown1.2 with ⟨rfl, h⟩ | ⟨g, cap, cur, rfl, _⟩
      · exact ⟨none, 0, by rw [h]⟩
      · exact ⟨_, _, rfl⟩
    clear hg1
    go_wp2
    go_ret
    exact ⟨A', c', rfl, hown1, hbw1⟩

/-- Are two values the same? -/
def sameV (a b : V) : Bool := decide (a.k = b.k) && decide (a.n = b.n) && decide (a.r = b.r) && decide (a.t = b.t)
theorem sameV_iff {a b : V} : sameV a b = true ↔ a = b := by
  cases a; cases b
  simp [sameV]
  constructor
  · rintro ⟨⟨⟨h1, h2⟩, h3⟩, h4⟩; exact ⟨h1, h2, h3, h4⟩
  · rintro ⟨h1, h2, h3, h4⟩; exact ⟨⟨⟨h1, h2⟩, h3⟩, h4⟩
instance : DecidableEq V := fun a b => decidable_of_iff (sameV a b = true) sameV_iff
theorem toList_inj {t t' : ByteArray} (h : t.toList = t'.toList) : t = t' := by
  rw [Lib.toList_data, Lib.toList_data] at h
  obtain ⟨⟨a⟩⟩ := t
  obtain ⟨⟨b⟩⟩ := t'
  simp only at h
  rw [h]
set_option maxRecDepth 100000 in
theorem neq_ne (k n r k' n' r' : Int) (t t' : ByteArray) (h : (⟨k, n, r, t⟩ : V) ≠ ⟨k', n', r', t'⟩) (w : World) :
    (binOp .neq 49 (.agg #[.int .u8 k, .int .i64 n, .int .u64 r, .string t]) (.agg #[.int .u8 k', .int .i64 n', .int .u64 r', .string t'])).run Tryz.prog w = .ok (.bool true) w := by
  go_simp
  rintro rfl rfl rfl ht
  exact h (by rw [toList_inj ht])
set_option maxRecDepth 100000 in
theorem neq_eq (k n r : Int) (t : ByteArray) (w : World) :
    (binOp .neq 49 (.agg #[.int .u8 k, .int .i64 n, .int .u64 r, .string t]) (.agg #[.int .u8 k, .int .i64 n, .int .u64 r, .string t])).run Tryz.prog w = .ok (.bool false) w := by
  go_simp
theorem take_same {l m : List V} {k : Nat} {v : V} (h : l.take k = m.take k) (hl : l[k]? = some v) (hm : m[k]? = some v) : Hid (l.take (k + 1) = m.take (k + 1)) := by
  show _ = _
  obtain ⟨h1, e1⟩ := List.getElem?_eq_some_iff.1 hl
  obtain ⟨h2, e2⟩ := List.getElem?_eq_some_iff.1 hm
  rw [List.take_succ_eq_append_getElem h1, List.take_succ_eq_append_getElem h2, h, e1, e2]
end Go.Proofs.YtgklopgeimjgiaaGreatDoor

/- Several texts in one: see each part's head. -/
/- Contracts of word.Put at eight bytes, code.num, and the reference's Num at eight: a number's bytes, the lowest first. -/
namespace Go.Proofs.YtgklopgeimjgiaaGreatDoor
open Go.RowKit







theorem own_ge {w : World} {base : Nat} {e : TypeId} {size n : Nat} {v : Value} {xs : List Value} (h : w.ownsRow base e size v n xs) : ∀ g, v.ownBlock = some g → base ≤ g := by
  intro g hg
  rcases h.2 with ⟨rfl, _⟩ | ⟨g', cap, cur, rfl, hb, _⟩
  · cases hg
  · have : g' = g := by simpa [Value.ownBlock] using hg
    omega
end Go.Proofs.YtgklopgeimjgiaaGreatDoor

/- Contracts of code.Put and of the reference's Put: which bytes any value has, or that it has none. -/
namespace Go.Proofs.YtgklopgeimjgiaaGreatDoor
open Go.RowKit





end Go.Proofs.YtgklopgeimjgiaaGreatDoor

/- Contracts of the reader's value. -/
namespace Go.Proofs.YtgklopgeimjgiaaGreatDoor
open Go.RowKit

def V0 : V := ⟨0, 0, 0, ByteArray.empty⟩

def VBlk (w : World) (b : Nat) (v : V) : Prop := w.heap[b]? = some (.cells #[.int .u8 v.k, .int .i64 v.n, .int .u64 v.r, .string v.t] 49 (0, 0))
theorem VBlk.lt {w : World} {b : Nat} {v : V} (h : VBlk w b v) : b < w.heap.size := by
  rcases Nat.lt_or_ge b w.heap.size with hlt | hge
  · exact hlt
  · unfold VBlk at h; rw [Array.getElem?_eq_none hge] at h; cases h
theorem VBlk.ext {w w' : World} {b : Nat} {v : V} (h : VBlk w b v) (hb : Below w.heap.size w w') : VBlk w' b v := (hb.block b h.lt).trans h
theorem VBlk.grown {w w' : World} {b : Nat} {v : V} {row : Option Nat} (h : VBlk w b v) (hb : w.grownBy w' row) (hn : some b ≠ row) : VBlk w' b v := (hb.block b h.lt hn).trans h
theorem VBlk.new (w : World) : VBlk (w.alloc (.cells #[.int .u8 0, .int .i64 0, .int .u64 0, .string ⟨#[]⟩] 49)) w.heap.size V0 := heap_alloc_new w _



theorem VBlk.zero {w : World} {b : Nat} (h : VBlk w b V0) : w.cell? ⟨b, 0, none⟩ = some (.int .u8 0) ∧ w.cell? ⟨b, 1, none⟩ = some (.int .i64 0) ∧ w.cell? ⟨b, 2, none⟩ = some (.int .u64 0) ∧ w.cell? ⟨b, 3, none⟩ = some (.string ⟨#[]⟩) ∧ ∀ i, w.frozen? ⟨b, i, none⟩ = false :=
  ⟨cell_of_row w b 0 _ _ (0, 0) h, cell_of_row w b 1 _ _ (0, 0) h, cell_of_row w b 2 _ _ (0, 0) h, cell_of_row w b 3 _ _ (0, 0) h, fun i => by unfold VBlk at h; simp [World.frozen?, h]⟩
theorem VBlk.far {w : World} {b : Nat} {v : V} (h : VBlk w b v) {p : Addr} (hn : b ≠ p.block) (u : Value) : VBlk (w.setCell p u) b v := (Below.heap_setCell w p u b hn).trans h
end Go.Proofs.YtgklopgeimjgiaaGreatDoor

/- Several texts in one: see each part's head. -/
/- Contracts of the reader's value where it gives up; all ways joined. -/
namespace Go.Proofs.YtgklopgeimjgiaaGreatDoor
open Go.RowKit

end Go.Proofs.YtgklopgeimjgiaaGreatDoor

/- Contracts of the deferred call that catches a reader's giving up. -/
namespace Go.Proofs.YtgklopgeimjgiaaGreatDoor
open Go.RowKit

end Go.Proofs.YtgklopgeimjgiaaGreatDoor

/- The contract of code.GetRow: which row any bytes begin with, or why with none. -/
namespace Go.Proofs.YtgklopgeimjgiaaGreatDoor
open Go.RowKit


/-- The error's own cell. -/
def EBlk (w : World) (b : Nat) (n : Int) : Prop := w.heap[b]? = some (.cells #[.int .i64 n] 35 (0, 0))
theorem EBlk.lt {w : World} {b : Nat} {n : Int} (h : EBlk w b n) : b < w.heap.size := by
  rcases Nat.lt_or_ge b w.heap.size with hlt | hge
  · exact hlt
  · unfold EBlk at h; rw [Array.getElem?_eq_none hge] at h; cases h
theorem EBlk.set {w : World} {b : Nat} {n : Int} (h : EBlk w b n) (m : Int) : EBlk (w.setCell ⟨b, 0, none⟩ (.int .i64 m)) b m := by
  unfold EBlk at h ⊢
  simp [World.setCell, Array.getElem?_modify, h]
theorem EBlk.grown {w w' : World} {b : Nat} {n : Int} {row : Option Nat} (h : EBlk w b n) (hb : w.grownBy w' row) (hn : some b ≠ row) : EBlk w' b n := (hb.block b h.lt hn).trans h
theorem EBlk.ext {w w' : World} {b : Nat} {n : Int} (h : EBlk w b n) (hb : Below w.heap.size w w') : EBlk w' b n := (hb.block b h.lt).trans h
theorem own_grown {w w' : World} {base : Nat} {e : TypeId} {size n : Nat} {v : Value} {xs : List Value} {row : Option Nat} (h : w.ownsRow base e size v n xs) (hb : w.grownBy w' row) (hn : row = none ∨ v.ownBlock ≠ row) : w'.ownsRow base e size v n xs := by
  refine ⟨h.1, ?_⟩
  rcases h.2 with h0 | ⟨g, cap, cur, rfl, hbg, hh, h1, h2, h3, h4⟩
  · exact .inl h0
  · have hlt : g < w.heap.size := by
      rcases Nat.lt_or_ge g w.heap.size with hlt | hge
      · exact hlt
      · rw [Array.getElem?_eq_none hge] at hh; cases hh
    refine .inr ⟨g, cap, cur, rfl, hbg, (hb.block g hlt ?_).trans hh, h1, h2, h3, h4⟩
    rcases hn with rfl | hn
    · simp
    · exact hn
theorem own_ne {w : World} {base : Nat} {e t : TypeId} {size n : Nat} {v : Value} {xs : List Value} {b : Nat} {cs : Array Value} (h : w.ownsRow base e size v n xs) (hb : w.heap[b]? = some (.cells cs t (0, 0))) (hne : e ≠ t) : v.ownBlock ≠ some b := by
  rcases h.2 with ⟨rfl, _⟩ | ⟨g, cap, cur, rfl, _, hh, _⟩
  · simp [Value.ownBlock]
  · intro he
    have : g = b := by simpa [Value.ownBlock] using he
    subst this
    rw [hh] at hb
    injection hb with hb
    injection hb with _ hb
    exact hne hb


end Go.Proofs.YtgklopgeimjgiaaGreatDoor

/- Several texts in one: see each part's head. -/
/- The walk of CodeApart: whatever two rows come in, it answers true. -/
namespace Go.Proofs.YtgklopgeimjgiaaGreatDoor
open Go.RowKit


end Go.Proofs.YtgklopgeimjgiaaGreatDoor

/- The walk of CodePuts: whatever value and row come in, it answers true. -/
namespace Go.Proofs.YtgklopgeimjgiaaGreatDoor
open Go.RowKit

theorem VBlk.cells {w : World} {b : Nat} {v : V} (h : VBlk w b v) : w.cell? ⟨b, 0, none⟩ = some (.int .u8 v.k) ∧ w.cell? ⟨b, 1, none⟩ = some (.int .i64 v.n) ∧ w.cell? ⟨b, 2, none⟩ = some (.int .u64 v.r) ∧ w.cell? ⟨b, 3, none⟩ = some (.string v.t) :=
  ⟨cell_of_row w b 0 _ _ (0, 0) h, cell_of_row w b 1 _ _ (0, 0) h, cell_of_row w b 2 _ _ (0, 0) h, cell_of_row w b 3 _ _ (0, 0) h⟩
theorem VBlk.made (w : World) (v : V) : VBlk (w.alloc (.cells #[.int .u8 v.k, .int .i64 v.n, .int .u64 v.r, .string v.t] 49)) w.heap.size v := heap_alloc_new w _

end Go.Proofs.YtgklopgeimjgiaaGreatDoor

/- The walk of CodeBack: whatever row, texts and cut come in, it answers true. -/
namespace Go.Proofs.YtgklopgeimjgiaaGreatDoor
open Go.RowKit

theorem str_ne (l : List UInt8) (h : l ≠ []) : (⟨l.toArray⟩ : ByteArray).toList.isEmpty = false ∧ ¬ (⟨l.toArray⟩ : ByteArray).toList = [] := by
  have e : (⟨l.toArray⟩ : ByteArray).toList = l := by rw [Lib.toList_data]
  rw [e]
  exact ⟨by cases l <;> simp_all, h⟩

end Go.Proofs.YtgklopgeimjgiaaGreatDoor
