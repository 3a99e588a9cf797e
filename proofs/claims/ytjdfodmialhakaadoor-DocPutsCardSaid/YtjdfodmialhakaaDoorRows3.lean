/- Contracts of the reference's Copy and Same. -/
import Derived.Test.YtjdfodmialhakaaDoorRows1
import Derived.Laws.OwnMore
import Derived.Deep.AppendLies
import Derived.Maps.AppendAt
import Derived.Deep.Draws
import Derived.OwnWalk
namespace Go.Proofs.YtjdfodmialhakaaDoor
open Go.RowKit

theorem below_drewN {B : Nat} {a w : World} (h : Below B a w) (n : Nat) : Below B a (w.drewN n) := ⟨h.os, h.tape, h.output, h.size, h.block⟩
def V.cells (v : V) : List Value := [.int .u8 v.k, .int .i64 v.n, .int .u64 v.r, .string v.t]
def rowCells (l : List V) : List Value := l.flatMap V.cells
theorem rowCells_length (l : List V) : (rowCells l).length = l.length * 4 := by
  induction l with
  | nil => rfl
  | cons v l ih => simp only [rowCells, List.flatMap_cons, List.length_append, List.length_cons] at ih ⊢; rw [ih]; simp [V.cells]; omega
theorem rowCells_one (l : List V) : ∀ u ∈ rowCells l, u.oneCell' = true := by
  intro u hu
  simp only [rowCells, List.mem_flatMap] at hu
  obtain ⟨v, _, hu⟩ := hu
  simp only [V.cells, List.mem_cons, List.not_mem_nil, or_false] at hu
  rcases hu with rfl | rfl | rfl | rfl <;> rfl
theorem rowCells_at (l : List V) : ∀ (i : Nat) (v : V) (j : Nat), l[i]? = some v → j < 4 → (rowCells l)[i * 4 + j]? = v.cells[j]? := by
  induction l with
  | nil => intro i v j h; simp at h
  | cons x l ih =>
    intro i v j h hj
    simp only [rowCells, List.flatMap_cons]
    cases i with
    | zero =>
      simp only [List.getElem?_cons_zero, Option.some.injEq] at h
      subst h
      rw [List.getElem?_append_left (by simp [V.cells]; omega)]
      simp
    | succ i =>
      rw [List.getElem?_append_right (by simp [V.cells]; omega)]
      have e : (i + 1) * 4 + j - x.cells.length = i * 4 + j := by simp [V.cells]; omega
      rw [e]
      exact ih i v j (by simpa using h) hj
/-- A row of the call's own reads as a row. -/
theorem VRow.of_own {w : World} {base n c : Nat} {A : Option Addr} {l : List V} (hwf : ∀ v ∈ l, v.wf) (hlen : l.length ≤ 35184372088832)
    (h : w.ownsRow base 24 4 (.slice A n c) n (rowCells l)) : VRow w A l ∧ n = l.length := by
  have hn : n = l.length := by have := h.1; rw [rowCells_length] at this; omega
  refine ⟨⟨hwf, hlen, fun hl => ?_⟩, hn⟩
  have hpos : 0 < n := by rw [hn]; exact List.length_pos_iff.2 hl
  obtain ⟨g, cap, hv, _, hlt⟩ := h.form hpos
  have hA : A = some ⟨g, 0, none⟩ := by injection hv
  subst hA
  refine ⟨g, 0, rfl, hlt, fun i v hi => ?_⟩
  have hc := h.cells (g := g) rfl
  have key : ∀ j, j < 4 → ∀ u, v.cells[j]? = some u → w.cell? ⟨g, 0 + i * 4 + j, none⟩ = some u := by
    intro j hj u hu
    have := hc (i * 4 + j) u (by rw [rowCells_at l i v j hi hj]; exact hu)
    have e : (⟨g, 0, none⟩ : Addr).add (i * 4 + j) = ⟨g, 0 + i * 4 + j, none⟩ := by
      unfold Addr.add; split
      · next h0 =>
        obtain rfl : i = 0 := by omega
        obtain rfl : j = 0 := by omega
        rfl
      · simp
    rwa [e] at this
  exact ⟨key 0 (by omega) _ rfl, key 1 (by omega) _ rfl, key 2 (by omega) _ rfl, key 3 (by omega) _ rfl⟩
/-- The cells of a row, from its address on. -/
theorem VRow.cells_ {w : World} {l : List V} {b off : Nat} (h : VRow w (some ⟨b, off, none⟩) l) : ∀ j u, (rowCells l)[j]? = some u → w.cell? ((⟨b, off, none⟩ : Addr).add j) = some u := by
  intro j u hu
  have hj : j < l.length * 4 := by
    have := (List.getElem?_eq_some_iff.1 hu).1
    rwa [rowCells_length] at this
  obtain ⟨b', off', v, hA, _, hlk, _, _, c0, c1, c2, c3⟩ := h.at_ (k := j / 4) (by omega)
  injection hA with hA
  injection hA with e1 e2
  subst e1; subst e2
  have e : j = j / 4 * 4 + j % 4 := by omega
  rw [e, rowCells_at l (j / 4) v (j % 4) hlk (by omega)] at hu
  have ea : (⟨b, off, none⟩ : Addr).add j = ⟨b, off + j / 4 * 4 + j % 4, none⟩ := by
    unfold Addr.add; split
    · next h0 => subst h0; rfl
    · show (⟨b, off + j, none⟩ : Addr) = _
      rw [show off + j = off + j / 4 * 4 + j % 4 by omega]
  rw [ea]
  have hm : j % 4 = 0 ∨ j % 4 = 1 ∨ j % 4 = 2 ∨ j % 4 = 3 := by omega
  rcases hm with hm | hm | hm | hm <;> rw [hm] at hu ⊢ <;> simp only [V.cells, List.getElem?_cons_zero, List.getElem?_cons_succ, Option.some.injEq] at hu <;> subst hu
  · exact c0
  · exact c1
  · exact c2
  · exact c3
theorem info_V : (Tryd.prog.info? 24).map (fun i => (i.zero, i.size, i.bytes)) = some (some (.agg #[.int .u8 0, .int .i64 0, .int .u64 0, .string ⟨#[]⟩]), 4, 40) := by kernel_rfl

set_option maxRecDepth 100000 in
theorem copy_any (l : List V) (A : Option Addr) (c : Nat) (w : World) (hr : VRow w A l) (hl : l.length ≤ 2932031007402) :
    Calls Tryd.prog 19 #[.slice A l.length c] w fun e w' => ∃ A' c', e = .returned (.slice A' l.length c') ∧ w'.ownsRow w.heap.size 24 4 (.slice A' l.length c') l.length (rowCells l) ∧ Below w.heap.size w w' := by
  obtain ⟨i0, hi0, hz0, hz1, hz2⟩ := info_parts info_V
  have h0 : w.ownsRow w.heap.size 24 4 (.slice none 0 0) 0 [] := ⟨rfl, .inl ⟨rfl, rfl⟩⟩
  rcases A with _ | ad
  · obtain rfl : l = [] := by
      rcases l with _ | ⟨v, l⟩
      · rfl
      · obtain ⟨b, off, h, _⟩ := hr.2.2 (by simp)
        cases h
    go_enter Tryd.func19, Tryd.ntmps19
    go_wp2
    go_ret
    exact ⟨none, 0, rfl, h0, Below.refl _ _⟩
  · have hc : ∀ j u, (rowCells l)[j]? = some u → w.cell? (ad.add j) = some u := by
      rcases l with _ | ⟨v, l⟩
      · intro j u h; simp [rowCells] at h
      · obtain ⟨b, off, h, _⟩ := hr.2.2 (by simp)
        injection h with h
        subst h
        exact hr.cells_
    have HC := Lib.hid hc
    clear hc hr
    go_enter Tryd.func19, Tryd.ntmps19
    go_wp2_with (at_builtin; refine wpList_append_own _ rfl _ _ 25 rfl w.heap.size 24 i0 _ 4 40 Tryd.underlying25 hi0 hz0 hz1 hz2 rfl (by decide) (.slice none 0 0) 0 [] rfl h0 ad l.length c (rowCells l) rfl (rowCells_length l) HC.out (rowCells_one l) ?c3 ?c4 ?c5 ?_)
    case c3 => simp only [maxLen]; omega
    case c4 => omega
    case c5 => exact Nat.le_refl _
    intro v' w1 hown1 hg1 _
    have hbw1 : Below w.heap.size w w1 := (Below.refl _ _).grown hg1 (Nat.le_refl _) (by simp [Value.ownBlock])
    obtain ⟨A', c', rfl⟩ : ∃ A' c', v' = .slice A' l.length c' := by
      rcases hown1.2 with ⟨rfl, h⟩ | ⟨g, cap, cur, rfl, _⟩
      · exact ⟨none, 0, by rw [h]⟩
      · exact ⟨_, _, rfl⟩
    clear hg1
    go_wp2
    go_ret
    exact ⟨A', c', rfl, hown1, hbw1⟩

/-- Are two values the same? -/
def sameV (a b : V) : Bool := decide (a.k = b.k) && decide (a.n = b.n) && decide (a.r = b.r) && decide (a.t = b.t)
theorem sameV_iff {a b : V} : sameV a b = true ↔ a = b := by
  cases a; cases b
  simp [sameV]
  constructor
  · rintro ⟨⟨⟨h1, h2⟩, h3⟩, h4⟩; exact ⟨h1, h2, h3, h4⟩
  · rintro ⟨h1, h2, h3, h4⟩; exact ⟨⟨⟨h1, h2⟩, h3⟩, h4⟩
instance : DecidableEq V := fun a b => decidable_of_iff (sameV a b = true) sameV_iff
theorem toList_inj {t t' : ByteArray} (h : t.toList = t'.toList) : t = t' := by
  rw [Lib.toList_data, Lib.toList_data] at h
  obtain ⟨⟨a⟩⟩ := t
  obtain ⟨⟨b⟩⟩ := t'
  simp only at h
  rw [h]
set_option maxRecDepth 100000 in
theorem neq_ne (k n r k' n' r' : Int) (t t' : ByteArray) (h : (⟨k, n, r, t⟩ : V) ≠ ⟨k', n', r', t'⟩) (w : World) :
    (binOp .neq 24 (.agg #[.int .u8 k, .int .i64 n, .int .u64 r, .string t]) (.agg #[.int .u8 k', .int .i64 n', .int .u64 r', .string t'])).run Tryd.prog w = .ok (.bool true) w := by
  go_simp
  rintro rfl rfl rfl ht
  exact h (by rw [toList_inj ht])
set_option maxRecDepth 100000 in
theorem neq_eq (k n r : Int) (t : ByteArray) (w : World) :
    (binOp .neq 24 (.agg #[.int .u8 k, .int .i64 n, .int .u64 r, .string t]) (.agg #[.int .u8 k, .int .i64 n, .int .u64 r, .string t])).run Tryd.prog w = .ok (.bool false) w := by
  go_simp
theorem take_same {l m : List V} {k : Nat} {v : V} (h : l.take k = m.take k) (hl : l[k]? = some v) (hm : m[k]? = some v) : Hid (l.take (k + 1) = m.take (k + 1)) := by
  show _ = _
  obtain ⟨h1, e1⟩ := List.getElem?_eq_some_iff.1 hl
  obtain ⟨h2, e2⟩ := List.getElem?_eq_some_iff.1 hm
  rw [List.take_succ_eq_append_getElem h1, List.take_succ_eq_append_getElem h2, h, e1, e2]
set_option maxRecDepth 100000 in
theorem same_any (l m : List V) (A B : Option Addr) (c d : Nat) (w : World) (hr : VRow w A l) (hs : VRow w B m) :
    Calls Tryd.prog 22 #[.slice A l.length c, .slice B m.length d] w fun e w' => e = .returned (.bool (decide (l = m))) ∧ Below w.heap.size w w' := by
  have hlen := hr.2.1
  have hlen2 := hs.2.1
  have HV := Lib.hid hr
  have HW := Lib.hid hs
  clear hr hs
  by_cases hne : l.length = m.length
  · generalize hP : decide (l = m) = P
    have HP := Lib.hid hP
    clear hP
    have HN := Lib.hid hne
    have hb1 : ((l.length : Int) != (m.length : Int)) = false := by simp [hne]
    have hle : l.length ≤ m.length := by omega
    clear hne
    go_enter Tryd.func22, Tryd.ntmps22
    go_wp2
    clear hb1
    go_loopw [5] (fun i wr => ∃ k : Nat, k ≤ l.length ∧ i = .int .i64 k ∧ Hid (l.take k = m.take k) ∧ Below w.heap.size w wr) (fun i _ => l.length - (intOf i).toNat)
    case atStart => exact ⟨0, by omega, rfl, (by simp : _ = _), Below.refl _ _⟩
    case round =>
      obtain ⟨k, hk1, rfl, HS, hbw⟩ := hrel
      by_cases hlt : k < l.length
      · obtain ⟨b, off, v, rfl, hb, hlk, hmem, hwf, c0, c1, c2, c3⟩ := (HV.out.ext hbw).at_ hlt
        obtain ⟨b', off', v', rfl, hb', hlk', hmem', hwf', c0', c1', c2', c3'⟩ := (HW.out.ext hbw).at_ (Nat.lt_of_lt_of_le hlt hle)
        have HL := Lib.hid hlk
        have HL' := Lib.hid hlk'
        clear hlk hlk' hmem hmem' hwf hwf'
        have i0 : (0 : Int) ≤ k := by omega
        have i1 : (k : Int) < l.length := by omega
        have i2 : (k : Int) < m.length := by omega
        by_cases hvv : v = v'
        · subst hvv
          obtain ⟨vk, vn, vr, vt⟩ := v
          simp only at c0 c1 c2 c3 c0' c1' c2' c3'
          have hq := neq_eq vk vn vr vt
          go_wp2
          go_quiet (fail)
          go_wp2
          go_roundw
          case rel => exact ⟨k + 1, by omega, by go_num, take_same HS.out HL.out HL'.out, by repeat (first | assumption | refine Below.drew ?_ | refine below_drewN ?_ _)⟩
          case measure => simp [intOf]; omega
        · have HNE := Lib.hid hvv
          clear hvv
          obtain ⟨vk, vn, vr, vt⟩ := v
          obtain ⟨xk, xn, xr, xt⟩ := v'
          simp only at c0 c1 c2 c3 c0' c1' c2' c3'
          have hq := neq_ne vk vn vr xk xn xr vt xt HNE.out
          go_wp2
          go_quiet (fail)
          go_wp2
          go_ret
          refine ⟨ret_bool ?_, by repeat (first | assumption | refine Below.drew ?_ | refine below_drewN ?_ _)⟩
          rw [← HP.out]
          refine (decide_eq_false ?_).symm
          rintro rfl
          have e := HL.out
          rw [HL'.out] at e
          exact HNE.out (Option.some.inj e.symm)
      · have hk : k = l.length := by omega
        have HK := Lib.hid hk
        clear hk
        go_wp2
        go_ret
        refine ⟨ret_bool ?_, hbw⟩
        rw [← HP.out]
        refine (decide_eq_true ?_).symm
        have e := HS.out
        rw [HK.out, List.take_length, HN.out, List.take_length] at e
        exact e
  · have hb1 : ((l.length : Int) != (m.length : Int)) = true := by
      rw [bne_iff_ne]; omega
    have e : decide (l = m) = false := decide_eq_false (fun e => hne (by rw [e]))
    rw [e]
    clear e hne
    go_enter Tryd.func22, Tryd.ntmps22
    go_wp2
    go_ret
    exact ⟨rfl, Below.refl _ _⟩
end Go.Proofs.YtjdfodmialhakaaDoor
