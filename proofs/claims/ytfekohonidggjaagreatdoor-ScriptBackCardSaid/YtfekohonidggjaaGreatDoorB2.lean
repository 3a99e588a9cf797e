/- Texts joined by a tool: contracts and walks of this claim. -/
import Derived.Test.YtfekohonidggjaaGreatDoorB1
import Derived.Deep.QuietTactic
import Derived.BigQuiet
import Derived.Laws.OwnMore
import Derived.Deep.AppendLies
import Derived.Maps.AppendAt
import Derived.Deep.Draws
import Derived.OwnWalk
import Derived.LoopN
import Derived.Laws.IdiomStrings
import Derived.Laws.BytesArg
import Derived.IntWalk
import Derived.Lib.ValidLaws
import Derived.Lib.TrimUEq
import Derived.Lib.MapLaws
import Derived.Shelf.Unicode.DecodeLastEight
import Derived.Defers
import Derived.Recover
import Derived.Laws.Pointers
import Derived.WideLaws
import Derived.Deep.RegionHeld3
import Derived.RegionTactic
import Derived.ChangeAlike
import Derived.StillTailTactics
namespace Go.Proofs.YtfekohonidggjaaGreatDoor
open Go.RowKit
set_option maxRecDepth 100000 in
theorem may_plain (v : V) (hv : v.wf) (hk : v.k ≤ 2) (w : World) :
 Calls Tryz.prog 42 #[v.agg] w fun e w' => e = .returned (.bool (mayB v)) ∧ Below w.heap.size w w' := by
 obtain ⟨k, n, r, t⟩ := v
 obtain ⟨hk0, _, h1, h2, h3, h4, h5⟩ := hv
 simp only at h1 h2 h3 h4 h5 hk hk0
 unfold V.agg
 have hkk : k = 0 ∨ k = 1 ∨ k = 2 := by omega
 by_cases ht : t.size = 0
 · obtain rfl := empty_of_size ht
   clear ht
   rcases hkk with rfl | rfl | rfl
   all_goals
    generalize hM : mayB _ = M
    have HM := hd_ hM
    clear hM
    go_enter Tryz.func42, Tryz.ntmps42
    go_wp2
    all_goals
     go_ret
     refine ⟨ret_bool ?_, by repeat (first | exact Below.refl _ _ | refine Below.alloc ?_ (by simp) _)⟩
     rw [← HM.out]
     first
      | (have hh : (n != 0) = true ∧ (n != 1) = true := by assumption
         simp only [bne_iff_ne, ne_eq] at hh
         simp [mayB, hh.1, hh.2]; done)
      | (have hh : (n != 0) = false ∨ (n != 1) = false := by assumption
         simp only [bne_eq_false_iff_eq] at hh
         have hr : r = 0 := by assumption
         rcases hh with rfl | rfl <;> simp [mayB, hr]; done)
      | (simp [mayB, *]; done)
 · have ht' := toList_ne ht
   have htp : 0 < t.size := by omega
   rcases hkk with rfl | rfl | rfl
   all_goals
    generalize hM : mayB _ = M
    have HM := hd_ hM
    clear hM
    go_enter Tryz.func42, Tryz.ntmps42
    go_wp2
    all_goals
     go_ret
     refine ⟨ret_bool ?_, by repeat (first | exact Below.refl _ _ | refine Below.alloc ?_ (by simp) _)⟩
     rw [← HM.out]
     simp [mayB, ht]
set_option maxRecDepth 100000 in
theorem may_bytes (v : V) (hv : v.wf) (hk : v.k = 4) (w : World) :
 Calls Tryz.prog 42 #[v.agg] w fun e w' => e = .returned (.bool (mayB v)) ∧ Below w.heap.size w w' := by
 obtain ⟨k, n, r, t⟩ := v
 obtain ⟨_, _, h1, h2, h3, h4, h5⟩ := hv
 simp only at h1 h2 h3 h4 h5 hk
 subst hk
 unfold V.agg
 generalize hM : mayB _ = M
 have HM := hd_ hM
 clear hM
 go_enter Tryz.func42, Tryz.ntmps42
 go_wp2
 all_goals
  go_ret
  refine ⟨ret_bool ?_, by repeat (first | exact Below.refl _ _ | refine Below.alloc ?_ (by simp) _)⟩
  rw [← HM.out]
  first
   | (simp [mayB, *]; done)
   | (simp [mayB, *]; omega)
set_option maxRecDepth 100000 in
theorem may_real (v : V) (hv : v.wf) (hk : v.k = 3) (w : World) :
 Calls Tryz.prog 42 #[v.agg] w fun e w' => e = .returned (.bool (mayB v)) ∧ Below w.heap.size w w' := by
 obtain ⟨k, n, r, t⟩ := v
 obtain ⟨_, _, h1, h2, h3, h4, h5⟩ := hv
 simp only at h1 h2 h3 h4 h5 hk
 subst hk
 unfold V.agg
 generalize hM : mayB _ = M
 have HM := hd_ hM
 clear hM
 have HC := hd_ (canonR_any r h3 h4)
 generalize hc : canonZ r = c at HC
 have Hc := hd_ hc
 clear hc
 by_cases ht : t.size = 0
 · obtain rfl := empty_of_size ht
   clear ht
   go_enter Tryz.func42, Tryz.ntmps42
   go_wp2_with (go_at_call 85; refine (HC.out _).mono ?_; rintro e w' ⟨rfl, rfl⟩)
   all_goals
    go_ret
    refine ⟨ret_bool ?_, by repeat (first | exact Below.refl _ _ | refine Below.alloc ?_ (by simp) _)⟩
    rw [← HM.out]
    first
     | (have e : canonZ r = r := by rw [Hc.out]; symm; assumption
        have hn : n = 0 := by assumption
        simp only [mayB, e, hn]; rfl)
     | (have e : ¬ r = canonZ r := by rw [Hc.out]; assumption
        simp [mayB, e]; done)
     | (have hn : ¬ n = 0 := by assumption
        simp [mayB, hn]; done)
 · have ht' := toList_ne ht
   have htp : 0 < t.size := by omega
   go_enter Tryz.func42, Tryz.ntmps42
   go_wp2_with (go_at_call 85; refine (HC.out _).mono ?_; rintro e w' ⟨rfl, rfl⟩)
   all_goals
    go_ret
    refine ⟨ret_bool ?_, by repeat (first | exact Below.refl _ _ | refine Below.alloc ?_ (by simp) _)⟩
    rw [← HM.out]
    simp [mayB, ht]
set_option maxRecDepth 100000 in
theorem may_other (v : V) (hv : v.wf) (hk : 5 < v.k) (w : World) :
 Calls Tryz.prog 42 #[v.agg] w fun e w' => e = .returned (.bool (mayB v)) ∧ Below w.heap.size w w' := by
 obtain ⟨k, n, r, t⟩ := v
 obtain ⟨_, _, h1, h2, h3, h4, h5⟩ := hv
 simp only at h1 h2 h3 h4 h5 hk
 unfold V.agg
 have hM : mayB ⟨k, n, r, t⟩ = false := by
  have e0 : ¬ k = 0 := by omega
  have e1 : ¬ k = 1 := by omega
  have e2 : ¬ k = 2 := by omega
  have e3 : ¬ k = 3 := by omega
  have e4 : ¬ k = 4 := by omega
  have e5 : ¬ k = 5 := by omega
  simp [mayB, e0, e1, e2, e3, e4, e5]
 rw [hM]
 clear hM
 go_enter Tryz.func42, Tryz.ntmps42
 go_wp2
 all_goals
  go_ret
  exact ⟨rfl, by repeat (first | exact Below.refl _ _ | refine Below.alloc ?_ (by simp) _)⟩
set_option maxRecDepth 100000 in
theorem may_text (v : V) (hv : v.wf) (hk : v.k = 5) (w : World) (hT : Tabs w) :
 Calls Tryz.prog 42 #[v.agg] w fun e w' => e = .returned (.bool (mayB v)) ∧ Below w.heap.size w w' := by
 obtain ⟨k, n, r, t⟩ := v
 obtain ⟨_, _, h1, h2, h3, h4, h5⟩ := hv
 simp only at h1 h2 h3 h4 h5 hk
 subst hk
 unfold V.agg
 generalize hM : mayB _ = M
 have HM := hd_ hM
 clear hM
 have HV := hd_ (fun W hW => valid_any t W (by omega) hW)
 generalize hc : Lib.validD t.data.toList = c at HV
 have Hc := hd_ hc
 clear hc
 have HT := hd_ hT
 clear hT
 cases c
 all_goals
  go_enter Tryz.func42, Tryz.ntmps42
  go_wp2_with (go_at_call 86; refine (HV.out _ (HT.out.ext (by repeat (first | exact Below.refl _ _ | refine Below.alloc ?_ (by simp) _)))).mono ?_; rintro e w' ⟨rfl, hb⟩; obtain ⟨hcl, hfr⟩ := bcell hb; have HB := hd_ hb; clear hb)
  all_goals
   go_ret
   refine ⟨ret_bool ?_, ?_⟩
   · rw [← HM.out]
     have hc := Hc.out
     clear hcl hfr HB
     first
      | (simp [mayB, *]; done)
      | (simp [mayB, *]; omega)
   · have hb := HB.out
     repeat (refine Below.setCell ?_ (by simp) _)
     refine Below.trans ?_ (hb.mono (by simp; omega))
     repeat (first | exact Below.refl _ _ | refine Below.alloc ?_ (by simp) _)
theorem may_any (v : V) (hv : v.wf) (w : World) (hT : Tabs w) :
 Calls Tryz.prog 42 #[v.agg] w fun e w' => e = .returned (.bool (mayB v)) ∧ Below w.heap.size w w' := by
 have h0 := hv.1
 by_cases h2 : v.k ≤ 2
 · exact may_plain v hv h2 w
 · by_cases h3 : v.k = 3
   · exact may_real v hv h3 w
   · by_cases h4 : v.k = 4
     · exact may_bytes v hv h4 w
     · by_cases h5 : v.k = 5
       · exact may_text v hv h5 w hT
       · exact may_other v hv (by omega) w
def VRow (w : World) (A : Option Addr) (l : List V) : Prop :=
 (∀ v ∈ l, v.wf) ∧ l.length ≤ 35184372088832 ∧ (l ≠ [] → ∃ b off, A = some ⟨b, off, none⟩ ∧ b < w.heap.size ∧ ∀ i v, l[i]? = some v →
   w.cell? ⟨b, off + i * 4, none⟩ = some (.int .u8 v.k) ∧ w.cell? ⟨b, off + i * 4 + 1, none⟩ = some (.int .i64 v.n) ∧ w.cell? ⟨b, off + i * 4 + 2, none⟩ = some (.int .u64 v.r) ∧ w.cell? ⟨b, off + i * 4 + 3, none⟩ = some (.string v.t))
theorem VRow.ext {w w' : World} {A : Option Addr} {l : List V} (h : VRow w A l) (hb : Below w.heap.size w w') : VRow w' A l := by
 refine ⟨h.1, h.2.1, fun hl => ?_⟩
 obtain ⟨b, off, rfl, hlt, hc⟩ := h.2.2 hl
 refine ⟨b, off, rfl, Nat.lt_of_lt_of_le hlt hb.size, fun i v hi => ?_⟩
 obtain ⟨c0, c1, c2, c3⟩ := hc i v hi
 exact ⟨(hb.cell (p := ⟨b, _, none⟩) hlt).trans c0, (hb.cell (p := ⟨b, _, none⟩) hlt).trans c1, (hb.cell (p := ⟨b, _, none⟩) hlt).trans c2, (hb.cell (p := ⟨b, _, none⟩) hlt).trans c3⟩
theorem VRow.at_ {w : World} {A : Option Addr} {l : List V} (h : VRow w A l) {k : Nat} (hk : k < l.length) :
 ∃ (b off : Nat) (v : V), A = some ⟨b, off, none⟩ ∧ b < w.heap.size ∧ l[k]? = some v ∧ v ∈ l ∧ v.wf ∧
  w.cell? ⟨b, off + k * 4, none⟩ = some (.int .u8 v.k) ∧ w.cell? ⟨b, off + k * 4 + 1, none⟩ = some (.int .i64 v.n) ∧ w.cell? ⟨b, off + k * 4 + 2, none⟩ = some (.int .u64 v.r) ∧ w.cell? ⟨b, off + k * 4 + 3, none⟩ = some (.string v.t) := by
 obtain ⟨b, off, rfl, hlt, hc⟩ := h.2.2 (by intro e; simp [e] at hk)
 have hv := List.getElem?_eq_getElem hk
 obtain ⟨c0, c1, c2, c3⟩ := hc k _ hv
 exact ⟨b, off, l[k], rfl, hlt, hv, List.getElem_mem hk, h.1 _ (List.getElem_mem hk), c0, c1, c2, c3⟩
theorem below_drewN {B : Nat} {a w : World} (h : Below B a w) (n : Nat) : Below B a (w.drewN n) := ⟨h.os, h.tape, h.output, h.size, h.block⟩
def V.cells (v : V) : List Value := [.int .u8 v.k, .int .i64 v.n, .int .u64 v.r, .string v.t]
def rowCells (l : List V) : List Value := l.flatMap V.cells
theorem rowCells_length (l : List V) : (rowCells l).length = l.length * 4 := by
 induction l with
 | nil => rfl
 | cons v l ih => simp only [rowCells, List.flatMap_cons, List.length_append, List.length_cons] at ih ⊢; rw [ih]; simp [V.cells]; omega
theorem rowCells_at (l : List V) : ∀ (i : Nat) (v : V) (j : Nat), l[i]? = some v → j < 4 → (rowCells l)[i * 4 + j]? = v.cells[j]? := by
 induction l with
 | nil => intro i v j h; simp at h
 | cons x l ih =>
  intro i v j h hj
  simp only [rowCells, List.flatMap_cons]
  cases i with
  | zero =>
   simp only [List.getElem?_cons_zero, Option.some.injEq] at h
   subst h
   rw [List.getElem?_append_left (by simp [V.cells]; omega)]
   simp
  | succ i =>
   rw [List.getElem?_append_right (by simp [V.cells]; omega)]
   have e : (i + 1) * 4 + j - x.cells.length = i * 4 + j := by simp [V.cells]; omega
   rw [e]
   exact ih i v j (by simpa using h) hj
theorem VRow.of_own {w : World} {base n c : Nat} {A : Option Addr} {l : List V} (hwf : ∀ v ∈ l, v.wf) (hlen : l.length ≤ 35184372088832)
 (h : w.ownsRow base 48 4 (.slice A n c) n (rowCells l)) : VRow w A l ∧ n = l.length := by
 have hn : n = l.length := by have := h.1; rw [rowCells_length] at this; omega
 refine ⟨⟨hwf, hlen, fun hl => ?_⟩, hn⟩
 have hpos : 0 < n := by rw [hn]; exact List.length_pos_iff.2 hl
 obtain ⟨g, cap, hv, _, hlt⟩ := h.form hpos
 have hA : A = some ⟨g, 0, none⟩ := by injection hv
 subst hA
 refine ⟨g, 0, rfl, hlt, fun i v hi => ?_⟩
 have hc := h.cells (g := g) rfl
 have key : ∀ j, j < 4 → ∀ u, v.cells[j]? = some u → w.cell? ⟨g, 0 + i * 4 + j, none⟩ = some u := by
  intro j hj u hu
  have := hc (i * 4 + j) u (by rw [rowCells_at l i v j hi hj]; exact hu)
  have e : (⟨g, 0, none⟩ : Addr).add (i * 4 + j) = ⟨g, 0 + i * 4 + j, none⟩ := by
   unfold Addr.add; split
   · next h0 =>
     obtain rfl : i = 0 := by omega
     obtain rfl : j = 0 := by omega
     rfl
   · simp
  rwa [e] at this
 exact ⟨key 0 (by omega) _ rfl, key 1 (by omega) _ rfl, key 2 (by omega) _ rfl, key 3 (by omega) _ rfl⟩
theorem info_V : (Tryz.prog.info? 48).map (fun i => (i.zero, i.size, i.bytes)) = some (some (.agg #[.int .u8 0, .int .i64 0, .int .u64 0, .string ⟨#[]⟩]), 4, 40) := by kernel_rfl
def sameV (a b : V) : Bool := decide (a.k = b.k) && decide (a.n = b.n) && decide (a.r = b.r) && decide (a.t = b.t)
theorem sameV_iff {a b : V} : sameV a b = true ↔ a = b := by
 cases a; cases b
 simp [sameV]
 constructor
 · rintro ⟨⟨⟨h1, h2⟩, h3⟩, h4⟩; exact ⟨h1, h2, h3, h4⟩
 · rintro ⟨h1, h2, h3, h4⟩; exact ⟨⟨⟨h1, h2⟩, h3⟩, h4⟩
instance : DecidableEq V := fun a b => decidable_of_iff (sameV a b = true) sameV_iff
theorem toList_inj {t t' : ByteArray} (h : t.toList = t'.toList) : t = t' := by
 rw [Lib.toList_data, Lib.toList_data] at h
 obtain ⟨⟨a⟩⟩ := t
 obtain ⟨⟨b⟩⟩ := t'
 simp only at h
 rw [h]
set_option maxRecDepth 100000 in
theorem neq_ne (k n r k' n' r' : Int) (t t' : ByteArray) (h : (⟨k, n, r, t⟩ : V) ≠ ⟨k', n', r', t'⟩) (w : World) :
 (binOp .neq 48 (.agg #[.int .u8 k, .int .i64 n, .int .u64 r, .string t]) (.agg #[.int .u8 k', .int .i64 n', .int .u64 r', .string t'])).run Tryz.prog w = .ok (.bool true) w := by
 go_simp
 rintro rfl rfl rfl ht
 exact h (by rw [toList_inj ht])
set_option maxRecDepth 100000 in
theorem neq_eq (k n r : Int) (t : ByteArray) (w : World) :
 (binOp .neq 48 (.agg #[.int .u8 k, .int .i64 n, .int .u64 r, .string t]) (.agg #[.int .u8 k, .int .i64 n, .int .u64 r, .string t])).run Tryz.prog w = .ok (.bool false) w := by
 go_simp
theorem take_same {l m : List V} {k : Nat} {v : V} (h : l.take k = m.take k) (hl : l[k]? = some v) (hm : m[k]? = some v) : Hid (l.take (k + 1) = m.take (k + 1)) := by
 show _ = _
 obtain ⟨h1, e1⟩ := List.getElem?_eq_some_iff.1 hl
 obtain ⟨h2, e2⟩ := List.getElem?_eq_some_iff.1 hm
 rw [List.take_succ_eq_append_getElem h1, List.take_succ_eq_append_getElem h2, h, e1, e2]
set_option maxRecDepth 100000 in
theorem same_any (l m : List V) (A B : Option Addr) (c d : Nat) (w : World) (hr : VRow w A l) (hs : VRow w B m) :
 Calls Tryz.prog 60 #[.slice A l.length c, .slice B m.length d] w fun e w' => e = .returned (.bool (decide (l = m))) ∧ Below w.heap.size w w' := by
 have hlen := hr.2.1
 have hlen2 := hs.2.1
 have HV := hd_ hr
 have HW := hd_ hs
 clear hr hs
 by_cases hne : l.length = m.length
 · generalize hP : decide (l = m) = P
   have HP := hd_ hP
   clear hP
   have HN := hd_ hne
   have hb1 : ((l.length : Int) != (m.length : Int)) = false := by simp [hne]
   have hle : l.length ≤ m.length := by omega
   clear hne
   go_enter Tryz.func60, Tryz.ntmps60
   go_wp2
   clear hb1
   go_loopw [5] (fun i wr => ∃ k : Nat, k ≤ l.length ∧ i = .int .i64 k ∧ Hid (l.take k = m.take k) ∧ Below w.heap.size w wr) (fun i _ => l.length - (intOf i).toNat)
   case atStart => exact ⟨0, by omega, rfl, (by simp : _ = _), Below.refl _ _⟩
   case round =>
    obtain ⟨k, hk1, rfl, HS, hbw⟩ := hrel
    by_cases hlt : k < l.length
    · obtain ⟨b, off, v, rfl, hb, hlk, hmem, hwf, c0, c1, c2, c3⟩ := (HV.out.ext hbw).at_ hlt
      obtain ⟨b', off', v', rfl, hb', hlk', hmem', hwf', c0', c1', c2', c3'⟩ := (HW.out.ext hbw).at_ (Nat.lt_of_lt_of_le hlt hle)
      have HL := hd_ hlk
      have HL' := hd_ hlk'
      clear hlk hlk' hmem hmem' hwf hwf'
      have i0 : (0 : Int) ≤ k := by omega
      have i1 : (k : Int) < l.length := by omega
      have i2 : (k : Int) < m.length := by omega
      by_cases hvv : v = v'
      · subst hvv
        obtain ⟨vk, vn, vr, vt⟩ := v
        simp only at c0 c1 c2 c3 c0' c1' c2' c3'
        have hq := neq_eq vk vn vr vt
        go_wp2
        go_quiet (fail)
        go_wp2
        go_roundw
        case rel => exact ⟨k + 1, by omega, by go_num, take_same HS.out HL.out HL'.out, by repeat (first | assumption | refine Below.drew ?_ | refine below_drewN ?_ _)⟩
        case measure => simp [intOf]; omega
      · have HNE := hd_ hvv
        clear hvv
        obtain ⟨vk, vn, vr, vt⟩ := v
        obtain ⟨xk, xn, xr, xt⟩ := v'
        simp only at c0 c1 c2 c3 c0' c1' c2' c3'
        have hq := neq_ne vk vn vr xk xn xr vt xt HNE.out
        go_wp2
        go_quiet (fail)
        go_wp2
        go_ret
        refine ⟨ret_bool ?_, by repeat (first | assumption | refine Below.drew ?_ | refine below_drewN ?_ _)⟩
        rw [← HP.out]
        refine (decide_eq_false ?_).symm
        rintro rfl
        have e := HL.out
        rw [HL'.out] at e
        exact HNE.out (Option.some.inj e.symm)
    · have hk : k = l.length := by omega
      have HK := hd_ hk
      clear hk
      go_wp2
      go_ret
      refine ⟨ret_bool ?_, hbw⟩
      rw [← HP.out]
      refine (decide_eq_true ?_).symm
      have e := HS.out
      rw [HK.out, List.take_length, HN.out, List.take_length] at e
      exact e
 · have hb1 : ((l.length : Int) != (m.length : Int)) = true := by
    rw [bne_iff_ne]; omega
   have e : decide (l = m) = false := decide_eq_false (fun e => hne (by rw [e]))
   rw [e]
   clear e hne
   go_enter Tryz.func60, Tryz.ntmps60
   go_wp2
   go_ret
   exact ⟨rfl, Below.refl _ _⟩
theorem cell_new (w : World) (C : Array Value) (t : TypeId) (j : Nat) : (w.alloc (.cells C t)).cell? ⟨w.heap.size, j, none⟩ = C[j]? := World.cell?_alloc_mark w C t (0, 0) j
theorem conv_new (w : World) (xs : List Int) (n c : Nat) (hn : xs.length = n) :
 (convert 114 9 (.slice (some ⟨w.heap.size, 0, none⟩) n c)).run Tryz.prog (w.alloc (.cells (xs.map (Value.int .u8)).toArray 5)) = .ok (.string (strOfNums xs)) (w.alloc (.cells (xs.map (Value.int .u8)).toArray 5)) :=
 run_convert_bytes_arg _ 114 5 Tryz.underlying114 Tryz.underlying5 w.heap.size 0 n c xs hn (fun i hi => by
  rw [Nat.zero_add, cell_new]
  simp [List.getElem?_eq_getElem (show i < xs.length by omega)]) 9 Tryz.underlying9
theorem conv1 (w : World) (a : Int) (c : Nat) :
 (convert 114 9 (.slice (some ⟨w.heap.size, 0, none⟩) 1 c)).run Tryz.prog (w.alloc (.cells #[.int .u8 a] 5)) = .ok (.string (strOfNums [a])) (w.alloc (.cells #[.int .u8 a] 5)) :=
 conv_new w [a] 1 c rfl
def byteCell (b : UInt8) : Value := .int .u8 (b.toNat : Int)
theorem conv_own {w : World} {base n : Nat} {v : Value} (l : List UInt8) (h : w.ownsRow base 5 1 v n (l.map byteCell)) :
 (convert 114 9 v).run Tryz.prog w = .ok (.string ⟨l.toArray⟩) w := by
 obtain ⟨hl, h | ⟨g, cap, cur, rfl, _, hg, hnc, _, hcs, htk⟩⟩ := h
 · obtain ⟨rfl, rfl⟩ := h
   have : l = [] := List.eq_nil_of_length_eq_zero (by simpa using hl)
   subst this
   exact run_convert_bytes_nil w 114 5 Tryz.underlying114 Tryz.underlying5 0 0 9 Tryz.underlying9
 · obtain rfl : n = l.length := by simpa using hl.symm
   refine run_convert_bytes_back w 114 9 5 ⟨g, 0, none⟩ cap l Tryz.underlying114 Tryz.underlying5 Tryz.underlying9 (fun j hj => ?_)
   have e : (⟨g, 0, none⟩ : Addr).add j = ⟨g, j, none⟩ := by unfold Addr.add; split <;> simp_all
   rw [e, cell_of_row w g j cur 5 (0, 0) hg]
   have : (cur.toList.take (l.length * 1))[j]? = (l.map byteCell)[j]? := by rw [htk]
   rw [List.getElem?_take_of_lt (by omega)] at this
   rw [← Array.getElem?_toList, this]
   simp [List.getElem?_eq_getElem hj, byteCell]
theorem info_u8 : (Tryz.prog.info? 5).map (fun i => (i.zero, i.size, i.bytes)) = some (some (.int .u8 0), 1, 1) := by kernel_rfl
theorem own_ge {w : World} {base : Nat} {e : TypeId} {size n : Nat} {v : Value} {xs : List Value} (h : w.ownsRow base e size v n xs) : ∀ g, v.ownBlock = some g → base ≤ g := by
 intro g hg
 rcases h.2 with ⟨rfl, _⟩ | ⟨g', cap, cur, rfl, hb, _⟩
 · cases hg
 · have : g' = g := by simpa [Value.ownBlock] using hg
   omega
theorem may_size {v : V} (h : mayB v = true) : v.t.size ≤ 100 := by
 unfold mayB at h
 repeat' split at h
 all_goals first | (simp only [Bool.and_eq_true, decide_eq_true_eq] at h; omega) | cases h
theorem strOf1 (a : Int) : strOfNums [a] = ⟨#[UInt8.ofNat a.toNat]⟩ := rfl
theorem only_below {a w : World} (h : Below a.heap.size a w) (row : Option Nat) : a.grownBy w row := ⟨h.os, h.tape, h.output, h.size, fun i hi _ => h.block i hi⟩
theorem only_trans {a b c : World} {row : Option Nat} (h : a.grownBy b row) (k : b.grownBy c row) : a.grownBy c row :=
 ⟨k.os.trans h.os, k.tape.trans h.tape, k.output.trans h.output, Nat.le_trans h.size k.size, fun i hi hne => (k.block i (Nat.lt_of_lt_of_le hi h.size) hne).trans (h.block i hi hne)⟩
theorem lt_of_cell {w : World} {a : Addr} {v : Value} (h : w.cell? a = some v) : a.block < w.heap.size := by
 rcases Nat.lt_or_ge a.block w.heap.size with h' | h'
 · exact h'
 · simp [World.cell?, Array.getElem?_eq_none h'] at h
def V0 : V := ⟨0, 0, 0, ByteArray.empty⟩
def VBlk (w : World) (b : Nat) (v : V) : Prop := w.heap[b]? = some (.cells #[.int .u8 v.k, .int .i64 v.n, .int .u64 v.r, .string v.t] 48 (0, 0))
theorem VBlk.lt {w : World} {b : Nat} {v : V} (h : VBlk w b v) : b < w.heap.size := by
 rcases Nat.lt_or_ge b w.heap.size with hlt | hge
 · exact hlt
 · unfold VBlk at h; rw [Array.getElem?_eq_none hge] at h; cases h
theorem VBlk.ext {w w' : World} {b : Nat} {v : V} (h : VBlk w b v) (hb : Below w.heap.size w w') : VBlk w' b v := (hb.block b h.lt).trans h
theorem VBlk.grown {w w' : World} {b : Nat} {v : V} {row : Option Nat} (h : VBlk w b v) (hb : w.grownBy w' row) (hn : some b ≠ row) : VBlk w' b v := (hb.block b h.lt hn).trans h
theorem VBlk.new (w : World) : VBlk (w.alloc (.cells #[.int .u8 0, .int .i64 0, .int .u64 0, .string ⟨#[]⟩] 48)) w.heap.size V0 := heap_alloc_new w _
theorem VBlk.zero {w : World} {b : Nat} (h : VBlk w b V0) : w.cell? ⟨b, 0, none⟩ = some (.int .u8 0) ∧ w.cell? ⟨b, 1, none⟩ = some (.int .i64 0) ∧ w.cell? ⟨b, 2, none⟩ = some (.int .u64 0) ∧ w.cell? ⟨b, 3, none⟩ = some (.string ⟨#[]⟩) ∧ ∀ i, w.frozen? ⟨b, i, none⟩ = false :=
 ⟨cell_of_row w b 0 _ _ (0, 0) h, cell_of_row w b 1 _ _ (0, 0) h, cell_of_row w b 2 _ _ (0, 0) h, cell_of_row w b 3 _ _ (0, 0) h, fun i => by unfold VBlk at h; simp [World.frozen?, h]⟩
def EBlk (w : World) (b : Nat) (n : Int) : Prop := w.heap[b]? = some (.cells #[.int .i64 n] 32 (0, 0))
theorem EBlk.lt {w : World} {b : Nat} {n : Int} (h : EBlk w b n) : b < w.heap.size := by
 rcases Nat.lt_or_ge b w.heap.size with hlt | hge
 · exact hlt
 · unfold EBlk at h; rw [Array.getElem?_eq_none hge] at h; cases h
theorem EBlk.set {w : World} {b : Nat} {n : Int} (h : EBlk w b n) (m : Int) : EBlk (w.setCell ⟨b, 0, none⟩ (.int .i64 m)) b m := by
 unfold EBlk at h ⊢
 simp [World.setCell, Array.getElem?_modify, h]
theorem EBlk.grown {w w' : World} {b : Nat} {n : Int} {row : Option Nat} (h : EBlk w b n) (hb : w.grownBy w' row) (hn : some b ≠ row) : EBlk w' b n := (hb.block b h.lt hn).trans h
theorem EBlk.ext {w w' : World} {b : Nat} {n : Int} (h : EBlk w b n) (hb : Below w.heap.size w w') : EBlk w' b n := (hb.block b h.lt).trans h
theorem own_grown {w w' : World} {base : Nat} {e : TypeId} {size n : Nat} {v : Value} {xs : List Value} {row : Option Nat} (h : w.ownsRow base e size v n xs) (hb : w.grownBy w' row) (hn : row = none ∨ v.ownBlock ≠ row) : w'.ownsRow base e size v n xs := by
 refine ⟨h.1, ?_⟩
 rcases h.2 with h0 | ⟨g, cap, cur, rfl, hbg, hh, h1, h2, h3, h4⟩
 · exact .inl h0
 · have hlt : g < w.heap.size := by
    rcases Nat.lt_or_ge g w.heap.size with hlt | hge
    · exact hlt
    · rw [Array.getElem?_eq_none hge] at hh; cases hh
   refine .inr ⟨g, cap, cur, rfl, hbg, (hb.block g hlt ?_).trans hh, h1, h2, h3, h4⟩
   rcases hn with rfl | hn
   · simp
   · exact hn
theorem own_ne {w : World} {base : Nat} {e t : TypeId} {size n : Nat} {v : Value} {xs : List Value} {b : Nat} {cs : Array Value} (h : w.ownsRow base e size v n xs) (hb : w.heap[b]? = some (.cells cs t (0, 0))) (hne : e ≠ t) : v.ownBlock ≠ some b := by
 rcases h.2 with ⟨rfl, _⟩ | ⟨g, cap, cur, rfl, _, hh, _⟩
 · simp [Value.ownBlock]
 · intro he
   have : g = b := by simpa [Value.ownBlock] using he
   subst this
   rw [hh] at hb
   injection hb with hb
   injection hb with _ hb
   exact hne hb
theorem EBlk.drew {w : World} {b : Nat} {n : Int} (h : EBlk w b n) : EBlk w.drew b n := h
theorem VBlk.drew {w : World} {b : Nat} {v : V} (h : VBlk w b v) : VBlk w.drew b v := h
theorem VBlk.cells {w : World} {b : Nat} {v : V} (h : VBlk w b v) : w.cell? ⟨b, 0, none⟩ = some (.int .u8 v.k) ∧ w.cell? ⟨b, 1, none⟩ = some (.int .i64 v.n) ∧ w.cell? ⟨b, 2, none⟩ = some (.int .u64 v.r) ∧ w.cell? ⟨b, 3, none⟩ = some (.string v.t) :=
 ⟨cell_of_row w b 0 _ _ (0, 0) h, cell_of_row w b 1 _ _ (0, 0) h, cell_of_row w b 2 _ _ (0, 0) h, cell_of_row w b 3 _ _ (0, 0) h⟩
theorem str_ne (l : List UInt8) (h : l ≠ []) : (⟨l.toArray⟩ : ByteArray).toList.isEmpty = false ∧ ¬ (⟨l.toArray⟩ : ByteArray).toList = [] := by
 have e : (⟨l.toArray⟩ : ByteArray).toList = l := by rw [Lib.toList_data]
 rw [e]
 exact ⟨by cases l <;> simp_all, h⟩
def Blk (w : World) (b : Nat) (cs : Array Value) (t : TypeId) : Prop := w.heap[b]? = some (.cells cs t (0, 0))
theorem Blk.lt {w : World} {b : Nat} {cs : Array Value} {t : TypeId} (h : Blk w b cs t) : b < w.heap.size := by
 rcases Nat.lt_or_ge b w.heap.size with h' | h'
 · exact h'
 · unfold Blk at h; rw [Array.getElem?_eq_none h'] at h; cases h
theorem Blk.ext {w w' : World} {b : Nat} {cs : Array Value} {t : TypeId} (h : Blk w b cs t) (hb : Below w.heap.size w w') : Blk w' b cs t := (hb.block b h.lt).trans h
theorem Blk.cell {w : World} {b : Nat} {cs : Array Value} {t : TypeId} (h : Blk w b cs t) (i : Nat) : w.cell? ⟨b, i, none⟩ = cs[i]? := cell_of_row w b i _ _ (0, 0) h
theorem Blk.new (w : World) (cs : Array Value) (t : TypeId) : Blk (w.alloc (.cells cs t)) w.heap.size cs t := heap_alloc_new w _
theorem Blk.at {w : World} {cs : Array Value} {t : TypeId} {b : Nat} (h : w.heap.size = b) : Blk (w.alloc (.cells cs t)) b cs t := by subst h; exact Blk.new _ _ _
theorem Blk.old {w : World} {b : Nat} {cs : Array Value} {t : TypeId} (h : Blk w b cs t) (o : Obj) : Blk (w.alloc o) b cs t := h.ext ((Below.refl _ _).alloc (Nat.le_refl _) _)
theorem Blk.drew {w : World} {b : Nat} {cs : Array Value} {t : TypeId} (h : Blk w b cs t) : Blk w.drew b cs t := h
theorem Blk.frozen {w : World} {b : Nat} {cs : Array Value} {t : TypeId} (h : Blk w b cs t) (i : Nat) : w.frozen? ⟨b, i, none⟩ = false := by
 unfold Blk at h
 simp [World.frozen?, h]
structure Ev where
 tx : Int
 tot : Int
 nth : Int
 k : Int
 tb : Int
 bf : List V
 af : List V
def Ev.wf (e : Ev) : Prop := (0 ≤ e.tx ∧ e.tx ≤ 18446744073709551615) ∧ (-9223372036854775808 ≤ e.tot ∧ e.tot ≤ 9223372036854775807) ∧ (-9223372036854775808 ≤ e.nth ∧ e.nth ≤ 9223372036854775807) ∧ (0 ≤ e.k ∧ e.k ≤ 255) ∧ (-9223372036854775808 ≤ e.tb ∧ e.tb ≤ 9223372036854775807)
def NRow (k : IntKind) (w : World) (A : Option Addr) (l : List Int) : Prop :=
 l.length ≤ 17592186044416 ∧ (l ≠ [] → ∃ b off, A = some ⟨b, off, none⟩ ∧ b < w.heap.size ∧ ∀ i v, l[i]? = some v → w.cell? ⟨b, off + i, none⟩ = some (.int k v))
theorem NRow.ext {k : IntKind} {w w' : World} {A : Option Addr} {l : List Int} (h : NRow k w A l) (hb : Below w.heap.size w w') : NRow k w' A l := by
 refine ⟨h.1, fun hl => ?_⟩
 obtain ⟨b, off, rfl, hlt, hc⟩ := h.2 hl
 exact ⟨b, off, rfl, Nat.lt_of_lt_of_le hlt hb.size, fun i v hi => (hb.cell (p := ⟨b, _, none⟩) hlt).trans (hc i v hi)⟩
theorem NRow.at_ {k : IntKind} {w : World} {A : Option Addr} {l : List Int} (h : NRow k w A l) {j : Nat} (hj : j < l.length) :
 ∃ (b off : Nat) (v : Int), A = some ⟨b, off, none⟩ ∧ b < w.heap.size ∧ l[j]? = some v ∧ v ∈ l ∧ w.cell? ⟨b, off + j, none⟩ = some (.int k v) := by
 obtain ⟨b, off, rfl, hlt, hc⟩ := h.2 (by intro e; simp [e] at hj)
 have hv := List.getElem?_eq_getElem hj
 exact ⟨b, off, l[j], rfl, hlt, hv, List.getElem_mem hj, hc j _ hv⟩
theorem NRow.nil (k : IntKind) (w : World) (A : Option Addr) : NRow k w A [] := ⟨by simp, fun h => absurd rfl h⟩
structure Mk where
 k : Int
 tx : Int
 cs : List Int
 sq : List Int
def Mk.wf (m : Mk) : Prop := (0 ≤ m.k ∧ m.k ≤ 255) ∧ (0 ≤ m.tx ∧ m.tx ≤ 18446744073709551615) ∧ (∀ v ∈ m.cs, -9223372036854775808 ≤ v ∧ v ≤ 9223372036854775807) ∧ (∀ v ∈ m.sq, 0 ≤ v ∧ v ≤ 18446744073709551615)
end Go.Proofs.YtfekohonidggjaaGreatDoor
