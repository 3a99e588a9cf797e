/- Several texts in one: see each part's head. -/
import Derived.Laws.OwnMore
import Derived.Deep.AppendLies
import Derived.Maps.AppendAt
import Derived.Deep.Draws
import Derived.OwnWalk
import Derived.Test.YtfekohonidggjaaGreatDoorJ2
import Derived.LoopN
import Derived.Laws.IdiomStrings
import Derived.Laws.BytesArg
import Derived.Test.YtfekohonidggjaaGreatDoorJ1
import Derived.IntWalk
import Derived.Laws.BitsAllLaws
import Derived.Deep.QuietTactic
import Derived.BigQuiet
import Derived.Lib.ValidLaws
import Derived.Lib.TrimUEq
import Derived.Lib.MapLaws
import Derived.Shelf.Unicode.DecodeLastEight
import Derived.Defers
import Derived.Recover
import Derived.Laws.Pointers
import Derived.WideLaws
import Derived.Deep.RegionHeld3
import Derived.RegionTactic
import Derived.ChangeAlike
import Derived.StillTailTactics
/- Contracts of the reference's Copy and Same. -/
namespace Go.Proofs.YtfekohonidggjaaGreatDoor
open Go.RowKit

theorem below_drewN {B : Nat} {a w : World} (h : Below B a w) (n : Nat) : Below B a (w.drewN n) := ⟨h.os, h.tape, h.output, h.size, h.block⟩
def V.cells (v : V) : List Value := [.int .u8 v.k, .int .i64 v.n, .int .u64 v.r, .string v.t]
def rowCells (l : List V) : List Value := l.flatMap V.cells
theorem rowCells_length (l : List V) : (rowCells l).length = l.length * 4 := by
  induction l with
  | nil => rfl
  | cons v l ih => simp only [rowCells, List.flatMap_cons, List.length_append, List.length_cons] at ih ⊢; rw [ih]; simp [V.cells]; omega
theorem rowCells_one (l : List V) : ∀ u ∈ rowCells l, u.oneCell' = true := by
  intro u hu
  simp only [rowCells, List.mem_flatMap] at hu
  obtain ⟨v, _, hu⟩ := hu
  simp only [V.cells, List.mem_cons, List.not_mem_nil, or_false] at hu
  rcases hu with rfl | rfl | rfl | rfl <;> rfl
theorem rowCells_at (l : List V) : ∀ (i : Nat) (v : V) (j : Nat), l[i]? = some v → j < 4 → (rowCells l)[i * 4 + j]? = v.cells[j]? := by
  induction l with
  | nil => intro i v j h; simp at h
  | cons x l ih =>
    intro i v j h hj
    simp only [rowCells, List.flatMap_cons]
    cases i with
    | zero =>
      simp only [List.getElem?_cons_zero, Option.some.injEq] at h
      subst h
      rw [List.getElem?_append_left (by simp [V.cells]; omega)]
      simp
    | succ i =>
      rw [List.getElem?_append_right (by simp [V.cells]; omega)]
      have e : (i + 1) * 4 + j - x.cells.length = i * 4 + j := by simp [V.cells]; omega
      rw [e]
      exact ih i v j (by simpa using h) hj
/-- A row of the call's own reads as a row. -/
theorem VRow.of_own {w : World} {base n c : Nat} {A : Option Addr} {l : List V} (hwf : ∀ v ∈ l, v.wf) (hlen : l.length ≤ 35184372088832)
    (h : w.ownsRow base 48 4 (.slice A n c) n (rowCells l)) : VRow w A l ∧ n = l.length := by
  have hn : n = l.length := by have := h.1; rw [rowCells_length] at this; omega
  refine ⟨⟨hwf, hlen, fun hl => ?_⟩, hn⟩
  have hpos : 0 < n := by rw [hn]; exact List.length_pos_iff.2 hl
  obtain ⟨g, cap, hv, _, hlt⟩ := h.form hpos
  have hA : A = some ⟨g, 0, none⟩ := by injection hv
  subst hA
  refine ⟨g, 0, rfl, hlt, fun i v hi => ?_⟩
  have hc := h.cells (g := g) rfl
  have key : ∀ j, j < 4 → ∀ u, v.cells[j]? = some u → w.cell? ⟨g, 0 + i * 4 + j, none⟩ = some u := by
    intro j hj u hu
    have := hc (i * 4 + j) u (by rw [rowCells_at l i v j hi hj]; exact hu)
    have e : (⟨g, 0, none⟩ : Addr).add (i * 4 + j) = ⟨g, 0 + i * 4 + j, none⟩ := by
      unfold Addr.add; split
      · next h0 =>
        obtain rfl : i = 0 := by omega
        obtain rfl : j = 0 := by omega
        rfl
      · simp
    rwa [e] at this
  exact ⟨key 0 (by omega) _ rfl, key 1 (by omega) _ rfl, key 2 (by omega) _ rfl, key 3 (by omega) _ rfl⟩
/-- The cells of a row, from its address on. -/
theorem VRow.cells_ {w : World} {l : List V} {b off : Nat} (h : VRow w (some ⟨b, off, none⟩) l) : ∀ j u, (rowCells l)[j]? = some u → w.cell? ((⟨b, off, none⟩ : Addr).add j) = some u := by
  intro j u hu
  have hj : j < l.length * 4 := by
    have := (List.getElem?_eq_some_iff.1 hu).1
    rwa [rowCells_length] at this
  obtain ⟨b', off', v, hA, _, hlk, _, _, c0, c1, c2, c3⟩ := h.at_ (k := j / 4) (by omega)
  injection hA with hA
  injection hA with e1 e2
  subst e1; subst e2
  have e : j = j / 4 * 4 + j % 4 := by omega
  rw [e, rowCells_at l (j / 4) v (j % 4) hlk (by omega)] at hu
  have ea : (⟨b, off, none⟩ : Addr).add j = ⟨b, off + j / 4 * 4 + j % 4, none⟩ := by
    unfold Addr.add; split
    · next h0 => subst h0; rfl
    · show (⟨b, off + j, none⟩ : Addr) = _
      rw [show off + j = off + j / 4 * 4 + j % 4 by omega]
  rw [ea]
  have hm : j % 4 = 0 ∨ j % 4 = 1 ∨ j % 4 = 2 ∨ j % 4 = 3 := by omega
  rcases hm with hm | hm | hm | hm <;> rw [hm] at hu ⊢ <;> simp only [V.cells, List.getElem?_cons_zero, List.getElem?_cons_succ, Option.some.injEq] at hu <;> subst hu
  · exact c0
  · exact c1
  · exact c2
  · exact c3
theorem info_V : (Tryz.prog.info? 48).map (fun i => (i.zero, i.size, i.bytes)) = some (some (.agg #[.int .u8 0, .int .i64 0, .int .u64 0, .string ⟨#[]⟩]), 4, 40) := by kernel_rfl

set_option maxRecDepth 100000 in
theorem copy_any (l : List V) (A : Option Addr) (c : Nat) (w : World) (hr : VRow w A l) (hl : l.length ≤ 2932031007402) :
    Calls Tryz.prog 29 #[.slice A l.length c] w fun e w' => ∃ A' c', e = .returned (.slice A' l.length c') ∧ w'.ownsRow w.heap.size 48 4 (.slice A' l.length c') l.length (rowCells l) ∧ Below w.heap.size w w' := by
  obtain ⟨i0, hi0, hz0, hz1, hz2⟩ := info_parts info_V
  have h0 : w.ownsRow w.heap.size 48 4 (.slice none 0 0) 0 [] := ⟨rfl, .inl ⟨rfl, rfl⟩⟩
  rcases A with _ | ad
  · obtain rfl : l = [] := by
      rcases l with _ | ⟨v, l⟩
      · rfl
      · obtain ⟨b, off, h, _⟩ := hr.2.2 (by simp)
        cases h
    go_enter Tryz.func29, Tryz.ntmps29
    go_wp2
    go_ret
    exact ⟨none, 0, rfl, h0, Below.refl _ _⟩
  · have hc : ∀ j u, (rowCells l)[j]? = some u → w.cell? (ad.add j) = some u := by
      rcases l with _ | ⟨v, l⟩
      · intro j u h; simp [rowCells] at h
      · obtain ⟨b, off, h, _⟩ := hr.2.2 (by simp)
        injection h with h
        subst h
        exact hr.cells_
    have HC := Lib.hid hc
    clear hc hr
    go_enter Tryz.func29, Tryz.ntmps29
    go_wp2_with (at_builtin; refine wpList_append_own _ rfl _ _ 38 rfl w.heap.size 48 i0 _ 4 40 Tryz.underlying38 hi0 hz0 hz1 hz2 rfl (by decide) (.slice none 0 0) 0 [] rfl h0 ad l.length c (rowCells l) rfl (rowCells_length l) HC.out (rowCells_one l) ?c3 ?c4 ?c5 ?_)
    case c3 => simp only [maxLen]; omega
    case c4 => omega
    case c5 => exact Nat.le_refl _
    intro v' w1 hown1 hg1 _
    have hbw1 : Below w.heap.size w w1 := (Below.refl _ _).grown hg1 (Nat.le_refl _) (by simp [Value.ownBlock])
    obtain ⟨A', c', rfl⟩ : ∃ A' c', v' = .slice A' l.length c' := by
      rcases hown1.2 with ⟨rfl, h⟩ | ⟨g, cap, cur, rfl, _⟩
      · exact ⟨none, 0, by rw [h]⟩
      · exact ⟨_, _, rfl⟩
    clear hg1
    go_wp2
    go_ret
    exact ⟨A', c', rfl, hown1, hbw1⟩

/-- Are two values the same? -/
def sameV (a b : V) : Bool := decide (a.k = b.k) && decide (a.n = b.n) && decide (a.r = b.r) && decide (a.t = b.t)
theorem sameV_iff {a b : V} : sameV a b = true ↔ a = b := by
  cases a; cases b
  simp [sameV]
  constructor
  · rintro ⟨⟨⟨h1, h2⟩, h3⟩, h4⟩; exact ⟨h1, h2, h3, h4⟩
  · rintro ⟨h1, h2, h3, h4⟩; exact ⟨⟨⟨h1, h2⟩, h3⟩, h4⟩
instance : DecidableEq V := fun a b => decidable_of_iff (sameV a b = true) sameV_iff
theorem toList_inj {t t' : ByteArray} (h : t.toList = t'.toList) : t = t' := by
  rw [Lib.toList_data, Lib.toList_data] at h
  obtain ⟨⟨a⟩⟩ := t
  obtain ⟨⟨b⟩⟩ := t'
  simp only at h
  rw [h]
set_option maxRecDepth 100000 in
theorem neq_ne (k n r k' n' r' : Int) (t t' : ByteArray) (h : (⟨k, n, r, t⟩ : V) ≠ ⟨k', n', r', t'⟩) (w : World) :
    (binOp .neq 48 (.agg #[.int .u8 k, .int .i64 n, .int .u64 r, .string t]) (.agg #[.int .u8 k', .int .i64 n', .int .u64 r', .string t'])).run Tryz.prog w = .ok (.bool true) w := by
  go_simp
  rintro rfl rfl rfl ht
  exact h (by rw [toList_inj ht])
set_option maxRecDepth 100000 in
theorem neq_eq (k n r : Int) (t : ByteArray) (w : World) :
    (binOp .neq 48 (.agg #[.int .u8 k, .int .i64 n, .int .u64 r, .string t]) (.agg #[.int .u8 k, .int .i64 n, .int .u64 r, .string t])).run Tryz.prog w = .ok (.bool false) w := by
  go_simp
theorem take_same {l m : List V} {k : Nat} {v : V} (h : l.take k = m.take k) (hl : l[k]? = some v) (hm : m[k]? = some v) : Hid (l.take (k + 1) = m.take (k + 1)) := by
  show _ = _
  obtain ⟨h1, e1⟩ := List.getElem?_eq_some_iff.1 hl
  obtain ⟨h2, e2⟩ := List.getElem?_eq_some_iff.1 hm
  rw [List.take_succ_eq_append_getElem h1, List.take_succ_eq_append_getElem h2, h, e1, e2]
set_option maxRecDepth 100000 in
theorem same_any (l m : List V) (A B : Option Addr) (c d : Nat) (w : World) (hr : VRow w A l) (hs : VRow w B m) :
    Calls Tryz.prog 60 #[.slice A l.length c, .slice B m.length d] w fun e w' => e = .returned (.bool (decide (l = m))) ∧ Below w.heap.size w w' := by
  have hlen := hr.2.1
  have hlen2 := hs.2.1
  have HV := Lib.hid hr
  have HW := Lib.hid hs
  clear hr hs
  by_cases hne : l.length = m.length
  · generalize hP : decide (l = m) = P
    have HP := Lib.hid hP
    clear hP
    have HN := Lib.hid hne
    have hb1 : ((l.length : Int) != (m.length : Int)) = false := by simp [hne]
    have hle : l.length ≤ m.length := by omega
    clear hne
    go_enter Tryz.func60, Tryz.ntmps60
    go_wp2
    clear hb1
    go_loopw [5] (fun i wr => ∃ k : Nat, k ≤ l.length ∧ i = .int .i64 k ∧ Hid (l.take k = m.take k) ∧ Below w.heap.size w wr) (fun i _ => l.length - (intOf i).toNat)
    case atStart => exact ⟨0, by omega, rfl, (by simp : _ = _), Below.refl _ _⟩
    case round =>
      obtain ⟨k, hk1, rfl, HS, hbw⟩ := hrel
      by_cases hlt : k < l.length
      · obtain ⟨b, off, v, rfl, hb, hlk, hmem, hwf, c0, c1, c2, c3⟩ := (HV.out.ext hbw).at_ hlt
        obtain ⟨b', off', v', rfl, hb', hlk', hmem', hwf', c0', c1', c2', c3'⟩ := (HW.out.ext hbw).at_ (Nat.lt_of_lt_of_le hlt hle)
        have HL := Lib.hid hlk
        have HL' := Lib.hid hlk'
        clear hlk hlk' hmem hmem' hwf hwf'
        have i0 : (0 : Int) ≤ k := by omega
        have i1 : (k : Int) < l.length := by omega
        have i2 : (k : Int) < m.length := by omega
        by_cases hvv : v = v'
        · subst hvv
          obtain ⟨vk, vn, vr, vt⟩ := v
          simp only at c0 c1 c2 c3 c0' c1' c2' c3'
          have hq := neq_eq vk vn vr vt
          go_wp2
          go_quiet (fail)
          go_wp2
          go_roundw
          case rel => exact ⟨k + 1, by omega, by go_num, take_same HS.out HL.out HL'.out, by repeat (first | assumption | refine Below.drew ?_ | refine below_drewN ?_ _)⟩
          case measure => simp [intOf]; omega
        · have HNE := Lib.hid hvv
          clear hvv
          obtain ⟨vk, vn, vr, vt⟩ := v
          obtain ⟨xk, xn, xr, xt⟩ := v'
          simp only at c0 c1 c2 c3 c0' c1' c2' c3'
          have hq := neq_ne vk vn vr xk xn xr vt xt HNE.out
          go_wp2
          go_quiet (fail)
          go_wp2
          go_ret
          refine ⟨ret_bool ?_, by repeat (first | assumption | refine Below.drew ?_ | refine below_drewN ?_ _)⟩
          rw [← HP.out]
          refine (decide_eq_false ?_).symm
          rintro rfl
          have e := HL.out
          rw [HL'.out] at e
          exact HNE.out (Option.some.inj e.symm)
      · have hk : k = l.length := by omega
        have HK := Lib.hid hk
        clear hk
        go_wp2
        go_ret
        refine ⟨ret_bool ?_, hbw⟩
        rw [← HP.out]
        refine (decide_eq_true ?_).symm
        have e := HS.out
        rw [HK.out, List.take_length, HN.out, List.take_length] at e
        exact e
  · have hb1 : ((l.length : Int) != (m.length : Int)) = true := by
      rw [bne_iff_ne]; omega
    have e : decide (l = m) = false := decide_eq_false (fun e => hne (by rw [e]))
    rw [e]
    clear e hne
    go_enter Tryz.func60, Tryz.ntmps60
    go_wp2
    go_ret
    exact ⟨rfl, Below.refl _ _⟩
end Go.Proofs.YtfekohonidggjaaGreatDoor

/- Several texts in one: see each part's head. -/
/- Contracts of word.Put at eight bytes, code.num, and the reference's Num at eight: a number's bytes, the lowest first. -/
namespace Go.Proofs.YtfekohonidggjaaGreatDoor
open Go.RowKit






def byteCell (b : UInt8) : Value := .int .u8 (b.toNat : Int)
/-- 'string(b)' of a row of bytes of the call's own. -/
theorem conv_own {w : World} {base n : Nat} {v : Value} (l : List UInt8) (h : w.ownsRow base 5 1 v n (l.map byteCell)) :
    (convert 114 9 v).run Tryz.prog w = .ok (.string ⟨l.toArray⟩) w := by
  obtain ⟨hl, h | ⟨g, cap, cur, rfl, _, hg, hnc, _, hcs, htk⟩⟩ := h
  · obtain ⟨rfl, rfl⟩ := h
    have : l = [] := List.eq_nil_of_length_eq_zero (by simpa using hl)
    subst this
    exact run_convert_bytes_nil w 114 5 Tryz.underlying114 Tryz.underlying5 0 0 9 Tryz.underlying9
  · obtain rfl : n = l.length := by simpa using hl.symm
    refine run_convert_bytes_back w 114 9 5 ⟨g, 0, none⟩ cap l Tryz.underlying114 Tryz.underlying5 Tryz.underlying9 (fun j hj => ?_)
    have e : (⟨g, 0, none⟩ : Addr).add j = ⟨g, j, none⟩ := by unfold Addr.add; split <;> simp_all
    rw [e, cell_of_row w g j cur 5 (0, 0) hg]
    have : (cur.toList.take (l.length * 1))[j]? = (l.map byteCell)[j]? := by rw [htk]
    rw [List.getElem?_take_of_lt (by omega)] at this
    rw [← Array.getElem?_toList, this]
    simp [List.getElem?_eq_getElem hj, byteCell]
theorem info_u8 : (Tryz.prog.info? 5).map (fun i => (i.zero, i.size, i.bytes)) = some (some (.int .u8 0), 1, 1) := by kernel_rfl

theorem own_ge {w : World} {base : Nat} {e : TypeId} {size n : Nat} {v : Value} {xs : List Value} (h : w.ownsRow base e size v n xs) : ∀ g, v.ownBlock = some g → base ≤ g := by
  intro g hg
  rcases h.2 with ⟨rfl, _⟩ | ⟨g', cap, cur, rfl, hb, _⟩
  · cases hg
  · have : g' = g := by simpa [Value.ownBlock] using hg
    omega
end Go.Proofs.YtfekohonidggjaaGreatDoor

/- Contracts of code.Put and of the reference's Put: which bytes any value has, or that it has none. -/
namespace Go.Proofs.YtfekohonidggjaaGreatDoor
open Go.RowKit


theorem may_size {v : V} (h : mayB v = true) : v.t.size ≤ 100 := by
  unfold mayB at h
  repeat' split at h
  all_goals first | (simp only [Bool.and_eq_true, decide_eq_true_eq] at h; omega) | cases h



end Go.Proofs.YtfekohonidggjaaGreatDoor

/- Several texts in one: see each part's head. -/
/- Contracts of the reader's take and number. -/
namespace Go.Proofs.YtfekohonidggjaaGreatDoor
open Go.RowKit

theorem only_below {a w : World} (h : Below a.heap.size a w) (row : Option Nat) : a.grownBy w row := ⟨h.os, h.tape, h.output, h.size, fun i hi _ => h.block i hi⟩
theorem only_trans {a b c : World} {row : Option Nat} (h : a.grownBy b row) (k : b.grownBy c row) : a.grownBy c row :=
  ⟨k.os.trans h.os, k.tape.trans h.tape, k.output.trans h.output, Nat.le_trans h.size k.size, fun i hi hne => (k.block i (Nat.lt_of_lt_of_le hi h.size) hne).trans (h.block i hi hne)⟩


end Go.Proofs.YtfekohonidggjaaGreatDoor

/- Contracts of word.Get at eight bytes and of the reader's number. -/
namespace Go.Proofs.YtfekohonidggjaaGreatDoor
open Go.RowKit



end Go.Proofs.YtfekohonidggjaaGreatDoor

/- Contracts of the reader's text. -/
namespace Go.Proofs.YtfekohonidggjaaGreatDoor
open Go.RowKit


theorem lt_of_cell {w : World} {a : Addr} {v : Value} (h : w.cell? a = some v) : a.block < w.heap.size := by
  rcases Nat.lt_or_ge a.block w.heap.size with h' | h'
  · exact h'
  · simp [World.cell?, Array.getElem?_eq_none h'] at h


end Go.Proofs.YtfekohonidggjaaGreatDoor

/- Contracts of the reader's value. -/
namespace Go.Proofs.YtfekohonidggjaaGreatDoor
open Go.RowKit

def V0 : V := ⟨0, 0, 0, ByteArray.empty⟩

def VBlk (w : World) (b : Nat) (v : V) : Prop := w.heap[b]? = some (.cells #[.int .u8 v.k, .int .i64 v.n, .int .u64 v.r, .string v.t] 48 (0, 0))
theorem VBlk.lt {w : World} {b : Nat} {v : V} (h : VBlk w b v) : b < w.heap.size := by
  rcases Nat.lt_or_ge b w.heap.size with hlt | hge
  · exact hlt
  · unfold VBlk at h; rw [Array.getElem?_eq_none hge] at h; cases h
theorem VBlk.ext {w w' : World} {b : Nat} {v : V} (h : VBlk w b v) (hb : Below w.heap.size w w') : VBlk w' b v := (hb.block b h.lt).trans h
theorem VBlk.grown {w w' : World} {b : Nat} {v : V} {row : Option Nat} (h : VBlk w b v) (hb : w.grownBy w' row) (hn : some b ≠ row) : VBlk w' b v := (hb.block b h.lt hn).trans h
theorem VBlk.new (w : World) : VBlk (w.alloc (.cells #[.int .u8 0, .int .i64 0, .int .u64 0, .string ⟨#[]⟩] 48)) w.heap.size V0 := heap_alloc_new w _



theorem VBlk.zero {w : World} {b : Nat} (h : VBlk w b V0) : w.cell? ⟨b, 0, none⟩ = some (.int .u8 0) ∧ w.cell? ⟨b, 1, none⟩ = some (.int .i64 0) ∧ w.cell? ⟨b, 2, none⟩ = some (.int .u64 0) ∧ w.cell? ⟨b, 3, none⟩ = some (.string ⟨#[]⟩) ∧ ∀ i, w.frozen? ⟨b, i, none⟩ = false :=
  ⟨cell_of_row w b 0 _ _ (0, 0) h, cell_of_row w b 1 _ _ (0, 0) h, cell_of_row w b 2 _ _ (0, 0) h, cell_of_row w b 3 _ _ (0, 0) h, fun i => by unfold VBlk at h; simp [World.frozen?, h]⟩
end Go.Proofs.YtfekohonidggjaaGreatDoor

/- Several texts in one: see each part's head. -/
/- Contracts of the reader's value where it gives up; all ways joined. -/
namespace Go.Proofs.YtfekohonidggjaaGreatDoor
open Go.RowKit

end Go.Proofs.YtfekohonidggjaaGreatDoor

/- Contracts of the deferred call that catches a reader's giving up. -/
namespace Go.Proofs.YtfekohonidggjaaGreatDoor
open Go.RowKit

end Go.Proofs.YtfekohonidggjaaGreatDoor

/- The contract of code.GetRow: which row any bytes begin with, or why with none. -/
namespace Go.Proofs.YtfekohonidggjaaGreatDoor
open Go.RowKit


/-- The error's own cell. -/
def EBlk (w : World) (b : Nat) (n : Int) : Prop := w.heap[b]? = some (.cells #[.int .i64 n] 32 (0, 0))
theorem EBlk.lt {w : World} {b : Nat} {n : Int} (h : EBlk w b n) : b < w.heap.size := by
  rcases Nat.lt_or_ge b w.heap.size with hlt | hge
  · exact hlt
  · unfold EBlk at h; rw [Array.getElem?_eq_none hge] at h; cases h
theorem EBlk.set {w : World} {b : Nat} {n : Int} (h : EBlk w b n) (m : Int) : EBlk (w.setCell ⟨b, 0, none⟩ (.int .i64 m)) b m := by
  unfold EBlk at h ⊢
  simp [World.setCell, Array.getElem?_modify, h]
theorem EBlk.grown {w w' : World} {b : Nat} {n : Int} {row : Option Nat} (h : EBlk w b n) (hb : w.grownBy w' row) (hn : some b ≠ row) : EBlk w' b n := (hb.block b h.lt hn).trans h
theorem EBlk.ext {w w' : World} {b : Nat} {n : Int} (h : EBlk w b n) (hb : Below w.heap.size w w') : EBlk w' b n := (hb.block b h.lt).trans h
theorem own_grown {w w' : World} {base : Nat} {e : TypeId} {size n : Nat} {v : Value} {xs : List Value} {row : Option Nat} (h : w.ownsRow base e size v n xs) (hb : w.grownBy w' row) (hn : row = none ∨ v.ownBlock ≠ row) : w'.ownsRow base e size v n xs := by
  refine ⟨h.1, ?_⟩
  rcases h.2 with h0 | ⟨g, cap, cur, rfl, hbg, hh, h1, h2, h3, h4⟩
  · exact .inl h0
  · have hlt : g < w.heap.size := by
      rcases Nat.lt_or_ge g w.heap.size with hlt | hge
      · exact hlt
      · rw [Array.getElem?_eq_none hge] at hh; cases hh
    refine .inr ⟨g, cap, cur, rfl, hbg, (hb.block g hlt ?_).trans hh, h1, h2, h3, h4⟩
    rcases hn with rfl | hn
    · simp
    · exact hn
theorem own_ne {w : World} {base : Nat} {e t : TypeId} {size n : Nat} {v : Value} {xs : List Value} {b : Nat} {cs : Array Value} (h : w.ownsRow base e size v n xs) (hb : w.heap[b]? = some (.cells cs t (0, 0))) (hne : e ≠ t) : v.ownBlock ≠ some b := by
  rcases h.2 with ⟨rfl, _⟩ | ⟨g, cap, cur, rfl, _, hh, _⟩
  · simp [Value.ownBlock]
  · intro he
    have : g = b := by simpa [Value.ownBlock] using he
    subst this
    rw [hh] at hb
    injection hb with hb
    injection hb with _ hb
    exact hne hb


end Go.Proofs.YtfekohonidggjaaGreatDoor

/- Several texts in one: see each part's head. -/
/- The contract of the reference's GetRow: the same row as the code's. -/
namespace Go.Proofs.YtfekohonidggjaaGreatDoor
open Go.RowKit

end Go.Proofs.YtfekohonidggjaaGreatDoor

/- The contract of code.Get: which value any bytes begin with, or why with none. -/
namespace Go.Proofs.YtfekohonidggjaaGreatDoor
open Go.RowKit

theorem EBlk.drew {w : World} {b : Nat} {n : Int} (h : EBlk w b n) : EBlk w.drew b n := h
theorem VBlk.drew {w : World} {b : Nat} {v : V} (h : VBlk w b v) : VBlk w.drew b v := h
end Go.Proofs.YtfekohonidggjaaGreatDoor

/- Several texts in one: see each part's head. -/
/- The walk of CodeApart: whatever two rows come in, it answers true. -/
namespace Go.Proofs.YtfekohonidggjaaGreatDoor
open Go.RowKit


end Go.Proofs.YtfekohonidggjaaGreatDoor

/- The walk of CodePuts: whatever value and row come in, it answers true. -/
namespace Go.Proofs.YtfekohonidggjaaGreatDoor
open Go.RowKit

theorem VBlk.cells {w : World} {b : Nat} {v : V} (h : VBlk w b v) : w.cell? ⟨b, 0, none⟩ = some (.int .u8 v.k) ∧ w.cell? ⟨b, 1, none⟩ = some (.int .i64 v.n) ∧ w.cell? ⟨b, 2, none⟩ = some (.int .u64 v.r) ∧ w.cell? ⟨b, 3, none⟩ = some (.string v.t) :=
  ⟨cell_of_row w b 0 _ _ (0, 0) h, cell_of_row w b 1 _ _ (0, 0) h, cell_of_row w b 2 _ _ (0, 0) h, cell_of_row w b 3 _ _ (0, 0) h⟩

end Go.Proofs.YtfekohonidggjaaGreatDoor

/- The walk of CodeBack: whatever row, texts and cut come in, it answers true. -/
namespace Go.Proofs.YtfekohonidggjaaGreatDoor
open Go.RowKit

theorem str_ne (l : List UInt8) (h : l ≠ []) : (⟨l.toArray⟩ : ByteArray).toList.isEmpty = false ∧ ¬ (⟨l.toArray⟩ : ByteArray).toList = [] := by
  have e : (⟨l.toArray⟩ : ByteArray).toList = l := by rw [Lib.toList_data]
  rw [e]
  exact ⟨by cases l <;> simp_all, h⟩

end Go.Proofs.YtfekohonidggjaaGreatDoor

/- Several texts in one: see each part's head. -/
/- Numbers of two and eight bytes, as the event's package and its reference write and read them. -/
namespace Go.Proofs.YtfekohonidggjaaGreatDoor
open Go.RowKit

end Go.Proofs.YtfekohonidggjaaGreatDoor

/- Events as data: rows of rows, event.rows. -/
namespace Go.Proofs.YtfekohonidggjaaGreatDoor
open Go.RowKit

/-- A block that lies in memory, not frozen. -/
def Blk (w : World) (b : Nat) (cs : Array Value) (t : TypeId) : Prop := w.heap[b]? = some (.cells cs t (0, 0))
theorem Blk.lt {w : World} {b : Nat} {cs : Array Value} {t : TypeId} (h : Blk w b cs t) : b < w.heap.size := by
  rcases Nat.lt_or_ge b w.heap.size with h' | h'
  · exact h'
  · unfold Blk at h; rw [Array.getElem?_eq_none h'] at h; cases h
theorem Blk.ext {w w' : World} {b : Nat} {cs : Array Value} {t : TypeId} (h : Blk w b cs t) (hb : Below w.heap.size w w') : Blk w' b cs t := (hb.block b h.lt).trans h
theorem Blk.cell {w : World} {b : Nat} {cs : Array Value} {t : TypeId} (h : Blk w b cs t) (i : Nat) : w.cell? ⟨b, i, none⟩ = cs[i]? := cell_of_row w b i _ _ (0, 0) h
theorem Blk.new (w : World) (cs : Array Value) (t : TypeId) : Blk (w.alloc (.cells cs t)) w.heap.size cs t := heap_alloc_new w _
theorem Blk.at {w : World} {cs : Array Value} {t : TypeId} {b : Nat} (h : w.heap.size = b) : Blk (w.alloc (.cells cs t)) b cs t := by subst h; exact Blk.new _ _ _
theorem Blk.old {w : World} {b : Nat} {cs : Array Value} {t : TypeId} (h : Blk w b cs t) (o : Obj) : Blk (w.alloc o) b cs t := h.ext ((Below.refl _ _).alloc (Nat.le_refl _) _)
theorem Blk.drew {w : World} {b : Nat} {cs : Array Value} {t : TypeId} (h : Blk w b cs t) : Blk w.drew b cs t := h
theorem Blk.frozen {w : World} {b : Nat} {cs : Array Value} {t : TypeId} (h : Blk w b cs t) (i : Nat) : w.frozen? ⟨b, i, none⟩ = false := by
  unfold Blk at h
  simp [World.frozen?, h]

structure Ev where
  tx : Int
  tot : Int
  nth : Int
  k : Int
  tb : Int
  bf : List V
  af : List V
def Ev.wf (e : Ev) : Prop := (0 ≤ e.tx ∧ e.tx ≤ 18446744073709551615) ∧ (-9223372036854775808 ≤ e.tot ∧ e.tot ≤ 9223372036854775807) ∧ (-9223372036854775808 ≤ e.nth ∧ e.nth ≤ 9223372036854775807) ∧ (0 ≤ e.k ∧ e.k ≤ 255) ∧ (-9223372036854775808 ≤ e.tb ∧ e.tb ≤ 9223372036854775807)

end Go.Proofs.YtfekohonidggjaaGreatDoor

/- Marks as data: rows of numbers; event.CheckMark: which marks may be. -/
namespace Go.Proofs.YtfekohonidggjaaGreatDoor
open Go.RowKit

/-- A slice of numbers reads as l. -/
def NRow (k : IntKind) (w : World) (A : Option Addr) (l : List Int) : Prop :=
  l.length ≤ 17592186044416 ∧ (l ≠ [] → ∃ b off, A = some ⟨b, off, none⟩ ∧ b < w.heap.size ∧ ∀ i v, l[i]? = some v → w.cell? ⟨b, off + i, none⟩ = some (.int k v))
theorem NRow.ext {k : IntKind} {w w' : World} {A : Option Addr} {l : List Int} (h : NRow k w A l) (hb : Below w.heap.size w w') : NRow k w' A l := by
  refine ⟨h.1, fun hl => ?_⟩
  obtain ⟨b, off, rfl, hlt, hc⟩ := h.2 hl
  exact ⟨b, off, rfl, Nat.lt_of_lt_of_le hlt hb.size, fun i v hi => (hb.cell (p := ⟨b, _, none⟩) hlt).trans (hc i v hi)⟩
theorem NRow.at_ {k : IntKind} {w : World} {A : Option Addr} {l : List Int} (h : NRow k w A l) {j : Nat} (hj : j < l.length) :
    ∃ (b off : Nat) (v : Int), A = some ⟨b, off, none⟩ ∧ b < w.heap.size ∧ l[j]? = some v ∧ v ∈ l ∧ w.cell? ⟨b, off + j, none⟩ = some (.int k v) := by
  obtain ⟨b, off, rfl, hlt, hc⟩ := h.2 (by intro e; simp [e] at hj)
  have hv := List.getElem?_eq_getElem hj
  exact ⟨b, off, l[j], rfl, hlt, hv, List.getElem_mem hj, hc j _ hv⟩
theorem NRow.nil (k : IntKind) (w : World) (A : Option Addr) : NRow k w A [] := ⟨by simp, fun h => absurd rfl h⟩

structure Mk where
  k : Int
  tx : Int
  cs : List Int
  sq : List Int
def Mk.wf (m : Mk) : Prop := (0 ≤ m.k ∧ m.k ≤ 255) ∧ (0 ≤ m.tx ∧ m.tx ≤ 18446744073709551615) ∧ (∀ v ∈ m.cs, -9223372036854775808 ≤ v ∧ v ≤ 9223372036854775807) ∧ (∀ v ∈ m.sq, 0 ≤ v ∧ v ≤ 18446744073709551615)

end Go.Proofs.YtfekohonidggjaaGreatDoor
