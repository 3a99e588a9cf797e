/- Texts joined by a tool: contracts and walks of this claim. -/
import Derived.WalkKit
import Derived.WalkMore
import Derived.WalkLawsBesides
import Derived.WalkSpells
import Derived.Lib.Hide
import Derived.Laws.BitsAllLaws
import Derived.Laws.Externs
import Derived.Below
import Derived.Test.YtceoficoappkpaaGreatDoorProg
import Derived.Test.YtceoficoappkpaaGreatDoorShelf
import Derived.Deep.QuietTactic
import Derived.BigQuiet
import Derived.Laws.OwnMore
import Derived.Deep.AppendLies
import Derived.Maps.AppendAt
import Derived.Deep.Draws
import Derived.OwnWalk
import Derived.LoopN
import Derived.Laws.IdiomStrings
import Derived.Laws.BytesArg
namespace Go.Proofs.YtceoficoappkpaaGreatDoor
open Go.RowKit
theorem bel1 (w : World) (o : Obj) : Below w.heap.size w (w.alloc o) := Below.alloc (Below.refl _ _) (Nat.le_refl _) _
theorem hd_ {p : Prop} (h : p) : Hid p := h
def nanB (b : Int) : Bool := decide (b / 4503599627370496 % 2048 = 2047) && decide (b % 4503599627370496 ≠ 0)
def canonZ (b : Int) : Int := if nanB b then 9221120237041090561 else b
theorem order_self (d : Ieee.Datum) : (d.order d != some .eq) = d.isNaN := by
 cases d with
 | number s m i => simp [Ieee.Datum.order, Ieee.Datum.isNaN]
 | infinity s => simp [Ieee.Datum.order, Ieee.Datum.isNaN]
 | nan s t => simp [Ieee.Datum.order, Ieee.Datum.isNaN]
theorem isNaN_read (x : Nat) (_hx : x ≤ 18446744073709551615) : (Ieee.double.read x).isNaN = nanB (x : Int) := by
 have hs : Ieee.double.signWeight = 9223372036854775808 := by decide
 have hb : Ieee.double.binade = 4503599627370496 := by decide
 have hi : Ieee.double.infRung = 9218868437227405312 := by decide
 unfold Ieee.Format.read
 simp only [hs, hb, hi]
 unfold nanB
 by_cases c1 : x % 9223372036854775808 < 4503599627370496
 · rw [if_pos c1]
   have : ¬ ((x : Int) / 4503599627370496 % 2048 = 2047) := by omega
   simp [Ieee.Datum.isNaN, this]
 · rw [if_neg c1]
   by_cases c2 : x % 9223372036854775808 < 9218868437227405312
   · rw [if_pos c2]
     have : ¬ ((x : Int) / 4503599627370496 % 2048 = 2047) := by omega
     simp [Ieee.Datum.isNaN, this]
   · rw [if_neg c2]
     have h1 : (x : Int) / 4503599627370496 % 2048 = 2047 := by omega
     by_cases c3 : x % 9223372036854775808 = 9218868437227405312
     · rw [if_pos c3]
       have h2 : (x : Int) % 4503599627370496 = 0 := by omega
       simp [Ieee.Datum.isNaN, h1, h2]
     · rw [if_neg c3]
       have h2 : ¬ (x : Int) % 4503599627370496 = 0 := by omega
       simp [Ieee.Datum.isNaN, h1, h2]
theorem frombits_run (b : Int) (w : World) : (callFunc 130 #[.int .u64 b]).run Tryz.prog w = .ok (.value (.float .f64 b.toNat)) w := by
 rw [run_callFunc_extern Tryz.func130 (by kernel_rfl) (by kernel_rfl) (by kernel_rfl) (e := Extern.MathFloatBits.float64frombits) (by kernel_rfl)]
 rfl
theorem nan_neq (b : Int) (h0 : 0 ≤ b) (h1 : b ≤ 18446744073709551615) : (FloatKind.f64.format.order b.toNat b.toNat != some .eq) = nanB b := by
 obtain ⟨n, rfl⟩ := Int.eq_ofNat_of_zero_le h0
 rw [← isNaN_read n (by omega), ← order_self]
 rfl
set_option maxRecDepth 100000 in
theorem canon_any (b : Int) (h0 : 0 ≤ b) (h1 : b ≤ 18446744073709551615) (w : World) :
  Calls Tryz.prog 91 #[.int .u64 b] w fun e w' => e = .returned (.int .u64 (canonZ b)) ∧ w = w' := by
 have hfb := frombits_run b
 have hn := nan_neq b h0 h1
 have HN := hd_ hn
 cases hc : nanB b
 · have HC := hd_ hc
   rw [hc] at hn
   clear hc
   go_enter Tryz.func91, Tryz.ntmps91
   go_wp2
   go_ret
   exact ⟨by simp [canonZ, HC.out], rfl⟩
 · have HC := hd_ hc
   rw [hc] at hn
   clear hc
   go_enter Tryz.func91, Tryz.ntmps91
   go_wp2
   go_ret
   exact ⟨by simp [canonZ, HC.out], rfl⟩
structure V where
 k : Int
 n : Int
 r : Int
 t : ByteArray
def V.wf (v : V) : Prop := 0 ≤ v.k ∧ v.k ≤ 255 ∧ -9223372036854775808 ≤ v.n ∧ v.n ≤ 9223372036854775807 ∧ 0 ≤ v.r ∧ v.r ≤ 18446744073709551615 ∧ v.t.size ≤ 140737488355328
def V.agg (v : V) : Value := .agg #[.int .u8 v.k, .int .i64 v.n, .int .u64 v.r, .string v.t]
def mayB (v : V) : Bool :=
 if v.k = 0 then decide (v.n = 0) && decide (v.r = 0) && decide (v.t.size = 0)
 else if v.k = 1 then (decide (v.n = 0) || decide (v.n = 1)) && decide (v.r = 0) && decide (v.t.size = 0)
 else if v.k = 2 then decide (v.r = 0) && decide (v.t.size = 0)
 else if v.k = 3 then decide (v.n = 0) && decide (v.r = canonZ v.r) && decide (v.t.size = 0)
 else if v.k = 4 then decide (v.n = 0) && decide (v.r = 0) && decide (v.t.size ≤ 100)
 else if v.k = 5 then Lib.validD v.t.data.toList && (decide (v.n = 0) && decide (v.r = 0) && decide (v.t.size ≤ 100))
 else false
def okE (b : Bool) : Int := if b then 0 else 2
theorem ret_int {k : IntKind} {a b : Int} (h : a = b) : Ending.returned (.int k a) = .returned (.int k b) := by rw [h]
theorem ret_bool {a b : Bool} (h : a = b) : Ending.returned (.bool a) = .returned (.bool b) := by rw [h]
theorem empty_of_size {t : ByteArray} (h : t.size = 0) : t = ByteArray.empty := by
 obtain ⟨d⟩ := t
 have : d = #[] := Array.eq_empty_of_size_eq_zero h
 rw [this]; rfl
theorem toList_ne {t : ByteArray} (h : ¬ t.size = 0) : ¬ t.toList = [] := by
 intro e
 apply h
 rw [Lib.toList_data] at e
 have : t.data.toList.length = 0 := by rw [e]; rfl
 simpa using this
theorem bt {W a b : World} (h : Below W.heap.size W a) (k : Below a.heap.size a b) : Below W.heap.size W b := h.trans (k.mono h.size)
theorem bcell {W w1 : World} (hb : Below W.heap.size W w1) : (∀ b o, b < W.heap.size → w1.cell? ⟨b, o, none⟩ = W.cell? ⟨b, o, none⟩) ∧ (∀ b o, b < W.heap.size → w1.frozen? ⟨b, o, none⟩ = W.frozen? ⟨b, o, none⟩) :=
 ⟨fun b o h => hb.cell (p := ⟨b, o, none⟩) h, fun b o h => hb.frozen (p := ⟨b, o, none⟩) h⟩
def Tabs (w : World) : Prop := Lib.Utf8Tabs 0 1 w
theorem Tabs.ext {w w' : World} (h : Tabs w) (hb : Below w.heap.size w w') : Tabs w' := Utf8Tabs_below h hb
theorem wrap_le1 {n : Int} (h1 : -9223372036854775808 ≤ n) (h2 : n ≤ 9223372036854775807) (h : IntKind.u64.wrap n ≤ 1) : n = 0 ∨ n = 1 := by
 rw [IntKind.wrap_u64] at h; omega
theorem wrap_gt1 {n : Int} (h : 1 < IntKind.u64.wrap n) : ¬ n = 0 ∧ ¬ n = 1 := by
 rw [IntKind.wrap_u64] at h; omega
theorem valid_any (s : ByteArray) (w : World) (hs : s.size ≤ 9223372036854775807) (hT : Tabs w) :
  Calls Tryz.prog 92 #[.string s] w fun e w' => e = .returned (.bool (Lib.validD s.data.toList)) ∧ Below w.heap.size w w' :=
 Tryz.utf8_ValidString s w hs hT
set_option maxRecDepth 100000 in
theorem check_plain (v : V) (hv : v.wf) (hk : v.k ≤ 2) (w : World) :
  Calls Tryz.prog 58 #[v.agg] w fun e w' => e = .returned (.int .i64 (okE (mayB v))) ∧ Below w.heap.size w w' := by
 obtain ⟨k, n, r, t⟩ := v
 obtain ⟨hk0, _, h1, h2, h3, h4, h5⟩ := hv
 simp only at h1 h2 h3 h4 h5 hk hk0
 unfold V.agg
 have hkk : k = 0 ∨ k = 1 ∨ k = 2 := by omega
 by_cases ht : t.size = 0
 · obtain rfl := empty_of_size ht
   clear ht
   rcases hkk with rfl | rfl | rfl
   all_goals
    generalize hM : okE (mayB _) = M
    have HM := hd_ hM
    clear hM
    go_enter Tryz.func58, Tryz.ntmps58
    go_wp2
    all_goals
     go_ret
     refine ⟨ret_int ?_, by repeat (first | exact Below.refl _ _ | refine Below.alloc ?_ (by simp) _)⟩
     rw [← HM.out]
     first
      | (have hw := wrap_le1 h1 h2 (by assumption); simp [okE, mayB, *]; done)
      | (have hw := wrap_gt1 (by assumption); simp [okE, mayB, hw.1, hw.2]; done)
      | (simp [okE, mayB, *]; done)
 · have ht' := toList_ne ht
   have htp : 0 < t.size := by omega
   rcases hkk with rfl | rfl | rfl
   all_goals
    generalize hM : okE (mayB _) = M
    have HM := hd_ hM
    clear hM
    go_enter Tryz.func58, Tryz.ntmps58
    go_wp2
    all_goals
     go_ret
     refine ⟨ret_int ?_, by repeat (first | exact Below.refl _ _ | refine Below.alloc ?_ (by simp) _)⟩
     rw [← HM.out]
     simp [okE, mayB, ht]
set_option maxRecDepth 100000 in
theorem check_bytes (v : V) (hv : v.wf) (hk : v.k = 4) (w : World) :
  Calls Tryz.prog 58 #[v.agg] w fun e w' => e = .returned (.int .i64 (okE (mayB v))) ∧ Below w.heap.size w w' := by
 obtain ⟨k, n, r, t⟩ := v
 obtain ⟨_, _, h1, h2, h3, h4, h5⟩ := hv
 simp only at h1 h2 h3 h4 h5 hk
 subst hk
 unfold V.agg
 generalize hM : okE (mayB _) = M
 have HM := hd_ hM
 clear hM
 go_enter Tryz.func58, Tryz.ntmps58
 go_wp2
 all_goals
  go_ret
  refine ⟨ret_int ?_, by repeat (first | exact Below.refl _ _ | refine Below.alloc ?_ (by simp) _)⟩
  rw [← HM.out]
  first
   | (have hl : ¬ t.size ≤ 100 := by omega
      simp [okE, mayB, hl]; done)
   | (have hl : t.size ≤ 100 := by omega
      simp [okE, mayB, *]; done)
   | (simp [okE, mayB, *]; done)
set_option maxRecDepth 100000 in
theorem check_real (v : V) (hv : v.wf) (hk : v.k = 3) (w : World) :
  Calls Tryz.prog 58 #[v.agg] w fun e w' => e = .returned (.int .i64 (okE (mayB v))) ∧ Below w.heap.size w w' := by
 obtain ⟨k, n, r, t⟩ := v
 obtain ⟨_, _, h1, h2, h3, h4, h5⟩ := hv
 simp only at h1 h2 h3 h4 h5 hk
 subst hk
 unfold V.agg
 generalize hM : okE (mayB _) = M
 have HM := hd_ hM
 clear hM
 have HC := hd_ (canon_any r h3 h4)
 generalize hc : canonZ r = c at HC
 have Hc := hd_ hc
 clear hc
 by_cases ht : t.size = 0
 · obtain rfl := empty_of_size ht
   clear ht
   go_enter Tryz.func58, Tryz.ntmps58
   go_wp2_with (go_at_call 91; refine (HC.out _).mono ?_; rintro e w' ⟨rfl, rfl⟩)
   all_goals
    go_ret
    refine ⟨ret_int ?_, by repeat (first | exact Below.refl _ _ | refine Below.alloc ?_ (by simp) _)⟩
    rw [← HM.out]
    first
     | (have e : canonZ r = r := by rw [Hc.out]; symm; assumption
        have hn : n = 0 := by assumption
        simp only [okE, mayB, e, hn]; rfl)
     | (have e : ¬ r = canonZ r := by rw [Hc.out]; assumption
        simp [okE, mayB, e]; done)
     | (have hn : ¬ n = 0 := by assumption
        simp [okE, mayB, hn]; done)
 · have ht' := toList_ne ht
   have htp : 0 < t.size := by omega
   go_enter Tryz.func58, Tryz.ntmps58
   go_wp2_with (go_at_call 91; refine (HC.out _).mono ?_; rintro e w' ⟨rfl, rfl⟩)
   all_goals
    go_ret
    refine ⟨ret_int ?_, by repeat (first | exact Below.refl _ _ | refine Below.alloc ?_ (by simp) _)⟩
    rw [← HM.out]
    simp [okE, mayB, ht]
set_option maxRecDepth 100000 in
theorem check_other (v : V) (hv : v.wf) (hk : 5 < v.k) (w : World) :
  Calls Tryz.prog 58 #[v.agg] w fun e w' => e = .returned (.int .i64 (okE (mayB v))) ∧ Below w.heap.size w w' := by
 obtain ⟨k, n, r, t⟩ := v
 obtain ⟨_, _, h1, h2, h3, h4, h5⟩ := hv
 simp only at h1 h2 h3 h4 h5 hk
 unfold V.agg
 have hM : okE (mayB ⟨k, n, r, t⟩) = 2 := by
  have e0 : ¬ k = 0 := by omega
  have e1 : ¬ k = 1 := by omega
  have e2 : ¬ k = 2 := by omega
  have e3 : ¬ k = 3 := by omega
  have e4 : ¬ k = 4 := by omega
  have e5 : ¬ k = 5 := by omega
  simp [mayB, okE, e0, e1, e2, e3, e4, e5]
 rw [hM]
 clear hM
 go_enter Tryz.func58, Tryz.ntmps58
 go_wp2
 all_goals
  go_ret
  exact ⟨rfl, by repeat (first | exact Below.refl _ _ | refine Below.alloc ?_ (by simp) _)⟩
set_option maxRecDepth 100000 in
theorem check_text (v : V) (hv : v.wf) (hk : v.k = 5) (w : World) (hT : Tabs w) :
  Calls Tryz.prog 58 #[v.agg] w fun e w' => e = .returned (.int .i64 (okE (mayB v))) ∧ Below w.heap.size w w' := by
 obtain ⟨k, n, r, t⟩ := v
 obtain ⟨_, _, h1, h2, h3, h4, h5⟩ := hv
 simp only at h1 h2 h3 h4 h5 hk
 subst hk
 unfold V.agg
 generalize hM : okE (mayB _) = M
 have HM := hd_ hM
 clear hM
 have HV := hd_ (fun W hW => valid_any t W (by omega) hW)
 generalize hc : Lib.validD t.data.toList = c at HV
 have Hc := hd_ hc
 clear hc
 have HT := hd_ hT
 clear hT
 cases c
 all_goals
  go_enter Tryz.func58, Tryz.ntmps58
  go_wp2_with (go_at_call 92; refine (HV.out _ (HT.out.ext (by repeat (first | exact Below.refl _ _ | refine Below.alloc ?_ (by simp) _)))).mono ?_; rintro e w' ⟨rfl, hb⟩; obtain ⟨hcl, hfr⟩ := bcell hb; have HB := hd_ hb; clear hb)
  all_goals
   go_ret
   refine ⟨ret_int ?_, ?_⟩
   · rw [← HM.out]
     first
      | (have hc := Hc.out
         have hl : ¬ t.size ≤ 100 := by omega
         simp [okE, mayB, hl]; done)
      | (have hc := Hc.out
         have hl : t.size ≤ 100 := by omega
         simp [okE, mayB, *]; done)
      | (have hc := Hc.out
         simp [okE, mayB, *]; done)
   · have hb := HB.out
     repeat (refine Below.setCell ?_ (by simp) _)
     refine Below.trans ?_ (hb.mono (by simp; omega))
     repeat (first | exact Below.refl _ _ | refine Below.alloc ?_ (by simp) _)
theorem check_any (v : V) (hv : v.wf) (w : World) (hT : Tabs w) :
  Calls Tryz.prog 58 #[v.agg] w fun e w' => e = .returned (.int .i64 (okE (mayB v))) ∧ Below w.heap.size w w' := by
 have h0 := hv.1
 by_cases h2 : v.k ≤ 2
 · exact check_plain v hv h2 w
 · by_cases h3 : v.k = 3
   · exact check_real v hv h3 w
   · by_cases h4 : v.k = 4
     · exact check_bytes v hv h4 w
     · by_cases h5 : v.k = 5
       · exact check_text v hv h5 w hT
       · exact check_other v hv (by omega) w
def VRow (w : World) (A : Option Addr) (l : List V) : Prop :=
 (∀ v ∈ l, v.wf) ∧ l.length ≤ 35184372088832 ∧ (l ≠ [] → ∃ b off, A = some ⟨b, off, none⟩ ∧ b < w.heap.size ∧ ∀ i v, l[i]? = some v →
   w.cell? ⟨b, off + i * 4, none⟩ = some (.int .u8 v.k) ∧ w.cell? ⟨b, off + i * 4 + 1, none⟩ = some (.int .i64 v.n) ∧ w.cell? ⟨b, off + i * 4 + 2, none⟩ = some (.int .u64 v.r) ∧ w.cell? ⟨b, off + i * 4 + 3, none⟩ = some (.string v.t))
theorem VRow.ext {w w' : World} {A : Option Addr} {l : List V} (h : VRow w A l) (hb : Below w.heap.size w w') : VRow w' A l := by
 refine ⟨h.1, h.2.1, fun hl => ?_⟩
 obtain ⟨b, off, rfl, hlt, hc⟩ := h.2.2 hl
 refine ⟨b, off, rfl, Nat.lt_of_lt_of_le hlt hb.size, fun i v hi => ?_⟩
 obtain ⟨c0, c1, c2, c3⟩ := hc i v hi
 exact ⟨(hb.cell (p := ⟨b, _, none⟩) hlt).trans c0, (hb.cell (p := ⟨b, _, none⟩) hlt).trans c1, (hb.cell (p := ⟨b, _, none⟩) hlt).trans c2, (hb.cell (p := ⟨b, _, none⟩) hlt).trans c3⟩
theorem VRow.at_ {w : World} {A : Option Addr} {l : List V} (h : VRow w A l) {k : Nat} (hk : k < l.length) :
  ∃ (b off : Nat) (v : V), A = some ⟨b, off, none⟩ ∧ b < w.heap.size ∧ l[k]? = some v ∧ v ∈ l ∧ v.wf ∧
   w.cell? ⟨b, off + k * 4, none⟩ = some (.int .u8 v.k) ∧ w.cell? ⟨b, off + k * 4 + 1, none⟩ = some (.int .i64 v.n) ∧ w.cell? ⟨b, off + k * 4 + 2, none⟩ = some (.int .u64 v.r) ∧ w.cell? ⟨b, off + k * 4 + 3, none⟩ = some (.string v.t) := by
 obtain ⟨b, off, rfl, hlt, hc⟩ := h.2.2 (by intro e; simp [e] at hk)
 have hv := List.getElem?_eq_getElem hk
 obtain ⟨c0, c1, c2, c3⟩ := hc k _ hv
 exact ⟨b, off, l[k], rfl, hlt, hv, List.getElem_mem hk, h.1 _ (List.getElem_mem hk), c0, c1, c2, c3⟩
theorem all_step {l : List V} {k : Nat} {v : V} (h : (l.take k).all mayB = true) (hk : l[k]? = some v) (hm : mayB v = true) : Hid ((l.take (k + 1)).all mayB = true) := by
 show _ = _
 obtain ⟨hlt, hv⟩ := List.getElem?_eq_some_iff.1 hk
 rw [List.take_succ_eq_append_getElem hlt, List.all_append, h, hv]
 simp [hm]
def rowB (l : List V) : Bool := decide (1 ≤ l.length) && decide (l.length ≤ 8) && l.all mayB
theorem below_drewN {B : Nat} {a w : World} (h : Below B a w) (n : Nat) : Below B a (w.drewN n) := ⟨h.os, h.tape, h.output, h.size, h.block⟩
def V.cells (v : V) : List Value := [.int .u8 v.k, .int .i64 v.n, .int .u64 v.r, .string v.t]
def rowCells (l : List V) : List Value := l.flatMap V.cells
theorem rowCells_length (l : List V) : (rowCells l).length = l.length * 4 := by
 induction l with
 | nil => rfl
 | cons v l ih => simp only [rowCells, List.flatMap_cons, List.length_append, List.length_cons] at ih ⊢; rw [ih]; simp [V.cells]; omega
theorem rowCells_one (l : List V) : ∀ u ∈ rowCells l, u.oneCell' = true := by
 intro u hu
 simp only [rowCells, List.mem_flatMap] at hu
 obtain ⟨v, _, hu⟩ := hu
 simp only [V.cells, List.mem_cons, List.not_mem_nil, or_false] at hu
 rcases hu with rfl | rfl | rfl | rfl <;> rfl
theorem rowCells_at (l : List V) : ∀ (i : Nat) (v : V) (j : Nat), l[i]? = some v → j < 4 → (rowCells l)[i * 4 + j]? = v.cells[j]? := by
 induction l with
 | nil => intro i v j h; simp at h
 | cons x l ih =>
  intro i v j h hj
  simp only [rowCells, List.flatMap_cons]
  cases i with
  | zero =>
   simp only [List.getElem?_cons_zero, Option.some.injEq] at h
   subst h
   rw [List.getElem?_append_left (by simp [V.cells]; omega)]
   simp
  | succ i =>
   rw [List.getElem?_append_right (by simp [V.cells]; omega)]
   have e : (i + 1) * 4 + j - x.cells.length = i * 4 + j := by simp [V.cells]; omega
   rw [e]
   exact ih i v j (by simpa using h) hj
theorem VRow.of_own {w : World} {base n c : Nat} {A : Option Addr} {l : List V} (hwf : ∀ v ∈ l, v.wf) (hlen : l.length ≤ 35184372088832)
  (h : w.ownsRow base 47 4 (.slice A n c) n (rowCells l)) : VRow w A l ∧ n = l.length := by
 have hn : n = l.length := by have := h.1; rw [rowCells_length] at this; omega
 refine ⟨⟨hwf, hlen, fun hl => ?_⟩, hn⟩
 have hpos : 0 < n := by rw [hn]; exact List.length_pos_iff.2 hl
 obtain ⟨g, cap, hv, _, hlt⟩ := h.form hpos
 have hA : A = some ⟨g, 0, none⟩ := by injection hv
 subst hA
 refine ⟨g, 0, rfl, hlt, fun i v hi => ?_⟩
 have hc := h.cells (g := g) rfl
 have key : ∀ j, j < 4 → ∀ u, v.cells[j]? = some u → w.cell? ⟨g, 0 + i * 4 + j, none⟩ = some u := by
  intro j hj u hu
  have := hc (i * 4 + j) u (by rw [rowCells_at l i v j hi hj]; exact hu)
  have e : (⟨g, 0, none⟩ : Addr).add (i * 4 + j) = ⟨g, 0 + i * 4 + j, none⟩ := by
   unfold Addr.add; split
   · next h0 =>
     obtain rfl : i = 0 := by omega
     obtain rfl : j = 0 := by omega
     rfl
   · simp
  rwa [e] at this
 exact ⟨key 0 (by omega) _ rfl, key 1 (by omega) _ rfl, key 2 (by omega) _ rfl, key 3 (by omega) _ rfl⟩
theorem VRow.cells_ {w : World} {l : List V} {b off : Nat} (h : VRow w (some ⟨b, off, none⟩) l) : ∀ j u, (rowCells l)[j]? = some u → w.cell? ((⟨b, off, none⟩ : Addr).add j) = some u := by
 intro j u hu
 have hj : j < l.length * 4 := by
  have := (List.getElem?_eq_some_iff.1 hu).1
  rwa [rowCells_length] at this
 obtain ⟨b', off', v, hA, _, hlk, _, _, c0, c1, c2, c3⟩ := h.at_ (k := j / 4) (by omega)
 injection hA with hA
 injection hA with e1 e2
 subst e1; subst e2
 have e : j = j / 4 * 4 + j % 4 := by omega
 rw [e, rowCells_at l (j / 4) v (j % 4) hlk (by omega)] at hu
 have ea : (⟨b, off, none⟩ : Addr).add j = ⟨b, off + j / 4 * 4 + j % 4, none⟩ := by
  unfold Addr.add; split
  · next h0 => subst h0; rfl
  · show (⟨b, off + j, none⟩ : Addr) = _
    rw [show off + j = off + j / 4 * 4 + j % 4 by omega]
 rw [ea]
 have hm : j % 4 = 0 ∨ j % 4 = 1 ∨ j % 4 = 2 ∨ j % 4 = 3 := by omega
 rcases hm with hm | hm | hm | hm <;> rw [hm] at hu ⊢ <;> simp only [V.cells, List.getElem?_cons_zero, List.getElem?_cons_succ, Option.some.injEq] at hu <;> subst hu
 · exact c0
 · exact c1
 · exact c2
 · exact c3
theorem info_V : (Tryz.prog.info? 47).map (fun i => (i.zero, i.size, i.bytes)) = some (some (.agg #[.int .u8 0, .int .i64 0, .int .u64 0, .string ⟨#[]⟩]), 4, 40) := by kernel_rfl
def sameV (a b : V) : Bool := decide (a.k = b.k) && decide (a.n = b.n) && decide (a.r = b.r) && decide (a.t = b.t)
theorem sameV_iff {a b : V} : sameV a b = true ↔ a = b := by
 cases a; cases b
 simp [sameV]
 constructor
 · rintro ⟨⟨⟨h1, h2⟩, h3⟩, h4⟩; exact ⟨h1, h2, h3, h4⟩
 · rintro ⟨h1, h2, h3, h4⟩; exact ⟨⟨⟨h1, h2⟩, h3⟩, h4⟩
instance : DecidableEq V := fun a b => decidable_of_iff (sameV a b = true) sameV_iff
theorem toList_inj {t t' : ByteArray} (h : t.toList = t'.toList) : t = t' := by
 rw [Lib.toList_data, Lib.toList_data] at h
 obtain ⟨⟨a⟩⟩ := t
 obtain ⟨⟨b⟩⟩ := t'
 simp only at h
 rw [h]
def numL : Nat → Nat → List UInt8
 | 0, _ => []
 | n + 1, v => UInt8.ofNat (v % 256) :: numL n (v / 256)
theorem numL_length : ∀ n v, (numL n v).length = n
 | 0, _ => rfl
 | n + 1, v => by simp [numL, numL_length n]
theorem cell_new (w : World) (C : Array Value) (t : TypeId) (j : Nat) : (w.alloc (.cells C t)).cell? ⟨w.heap.size, j, none⟩ = C[j]? := World.cell?_alloc_mark w C t (0, 0) j
theorem conv_new (w : World) (xs : List Int) (n c : Nat) (hn : xs.length = n) :
  (convert 128 9 (.slice (some ⟨w.heap.size, 0, none⟩) n c)).run Tryz.prog (w.alloc (.cells (xs.map (Value.int .u8)).toArray 5)) = .ok (.string (strOfNums xs)) (w.alloc (.cells (xs.map (Value.int .u8)).toArray 5)) :=
 run_convert_bytes_arg _ 128 5 Tryz.underlying128 Tryz.underlying5 w.heap.size 0 n c xs hn (fun i hi => by
  rw [Nat.zero_add, cell_new]
  simp [List.getElem?_eq_getElem (show i < xs.length by omega)]) 9 Tryz.underlying9
theorem conv1 (w : World) (a : Int) (c : Nat) :
  (convert 128 9 (.slice (some ⟨w.heap.size, 0, none⟩) 1 c)).run Tryz.prog (w.alloc (.cells #[.int .u8 a] 5)) = .ok (.string (strOfNums [a])) (w.alloc (.cells #[.int .u8 a] 5)) :=
 conv_new w [a] 1 c rfl
theorem conv8 (w : World) (a b c d e f g h : Int) (k : Nat) :
  (convert 128 9 (.slice (some ⟨w.heap.size, 0, none⟩) 8 k)).run Tryz.prog (w.alloc (.cells #[.int .u8 a, .int .u8 b, .int .u8 c, .int .u8 d, .int .u8 e, .int .u8 f, .int .u8 g, .int .u8 h] 5)) =
    .ok (.string (strOfNums [a, b, c, d, e, f, g, h])) (w.alloc (.cells #[.int .u8 a, .int .u8 b, .int .u8 c, .int .u8 d, .int .u8 e, .int .u8 f, .int .u8 g, .int .u8 h] 5)) :=
 conv_new w [a, b, c, d, e, f, g, h] 8 k rfl
theorem num8_eq (v : Nat) (hv : v ≤ 18446744073709551615) :
  numL 8 v = [(v : Int) % 256, (v : Int) / 256 % 256, (v : Int) / 65536 % 256, (v : Int) / 16777216 % 256, (v : Int) / 4294967296 % 256, (v : Int) / 1099511627776 % 256, (v : Int) / 281474976710656 % 256, (v : Int) / 72057594037927936].map fun n => UInt8.ofNat n.toNat := by
 simp only [numL, List.map_cons, List.map_nil, Nat.div_div_eq_div_mul, List.cons.injEq, and_true]
 refine ⟨?_, ?_, ?_, ?_, ?_, ?_, ?_, ?_⟩ <;> congr 1 <;> omega
theorem strOf8 (v : Int) (h0 : 0 ≤ v) (h1 : v ≤ 18446744073709551615) :
  strOfNums [v % 256, v / 256 % 256, v / 65536 % 256, v / 16777216 % 256, v / 4294967296 % 256, v / 1099511627776 % 256, v / 281474976710656 % 256, v / 72057594037927936] = ⟨(numL 8 v.toNat).toArray⟩ := by
 obtain ⟨n, rfl⟩ := Int.eq_ofNat_of_zero_le h0
 rw [Int.toNat_natCast, num8_eq n (by omega)]
 rfl
theorem ret_tup2 {a b c d : Value} (h : a = b) (k : c = d) : Ending.returned (.tuple #[a, c]) = .returned (.tuple #[b, d]) := by rw [h, k]
set_option maxRecDepth 100000 in
theorem wput8 (v : Int) (h0 : 0 ≤ v) (h1 : v ≤ 18446744073709551615) (w : World) :
  Calls Tryz.prog 161 #[.int .u64 v, .int .i64 8] w fun e w' => e = .returned (.tuple #[.string ⟨(numL 8 v.toNat).toArray⟩, .int .i64 0]) ∧ Below w.heap.size w w' := by
 have hmk : ∀ w : World, (Instr.makeSlice 128 (.int .i64 8) (.int .i64 8)).run Tryz.prog w = .ok (.slice (some ⟨w.heap.size, 0, none⟩) 8 8) (w.alloc (.cells #[.int .u8 0, .int .u8 0, .int .u8 0, .int .u8 0, .int .u8 0, .int .u8 0, .int .u8 0, .int .u8 0] 5)) := fun _ => by kernel_rfl
 have hcv := conv8
 generalize hM : numL 8 v.toNat = M
 have HM := hd_ hM
 clear hM
 go_enter Tryz.func161, Tryz.ntmps161
 go_wp2
 refine wp_loop_rounds 9 ?_
 iterate 9 (rw [rounds_succ]; go_wp2)
 go_ret2
 refine ⟨ret_tup2 ?_ rfl, (Below.refl _ _).alloc (Nat.le_refl _) _⟩
 rw [← HM.out]
 exact congrArg Value.string (strOf8 v h0 h1)
theorem num_any (v : Int) (h0 : 0 ≤ v) (h1 : v ≤ 18446744073709551615) (w : World) :
  Calls Tryz.prog 112 #[.int .u64 v] w fun e w' => e = .returned (.string ⟨(numL 8 v.toNat).toArray⟩) ∧ Below w.heap.size w w' := by
 have HC := hd_ (wput8 v h0 h1)
 generalize numL 8 v.toNat = M at HC ⊢
 go_enter Tryz.func112, Tryz.ntmps112
 go_wp2_with (go_at_call 161; refine (HC.out _).mono ?_; rintro e w' ⟨rfl, hb⟩)
 go_ret
 exact ⟨rfl, hb⟩
def byteCell (b : UInt8) : Value := .int .u8 (b.toNat : Int)
theorem byteCell_one (u : Value) (l : List UInt8) (h : u ∈ l.map byteCell) : u.oneCell' = true := by
 simp only [List.mem_map] at h
 obtain ⟨b, _, rfl⟩ := h
 rfl
theorem conv_own {w : World} {base n : Nat} {v : Value} (l : List UInt8) (h : w.ownsRow base 5 1 v n (l.map byteCell)) :
  (convert 128 9 v).run Tryz.prog w = .ok (.string ⟨l.toArray⟩) w := by
 obtain ⟨hl, h | ⟨g, cap, cur, rfl, _, hg, hnc, _, hcs, htk⟩⟩ := h
 · obtain ⟨rfl, rfl⟩ := h
   have : l = [] := List.eq_nil_of_length_eq_zero (by simpa using hl)
   subst this
   exact run_convert_bytes_nil w 128 5 Tryz.underlying128 Tryz.underlying5 0 0 9 Tryz.underlying9
 · obtain rfl : n = l.length := by simpa using hl.symm
   refine run_convert_bytes_back w 128 9 5 ⟨g, 0, none⟩ cap l Tryz.underlying128 Tryz.underlying5 Tryz.underlying9 (fun j hj => ?_)
   have e : (⟨g, 0, none⟩ : Addr).add j = ⟨g, j, none⟩ := by unfold Addr.add; split <;> simp_all
   rw [e, cell_of_row w g j cur 5 (0, 0) hg]
   have : (cur.toList.take (l.length * 1))[j]? = (l.map byteCell)[j]? := by rw [htk]
   rw [List.getElem?_take_of_lt (by omega)] at this
   rw [← Array.getElem?_toList, this]
   simp [List.getElem?_eq_getElem hj, byteCell]
theorem info_u8 : (Tryz.prog.info? 5).map (fun i => (i.zero, i.size, i.bytes)) = some (some (.int .u8 0), 1, 1) := by kernel_rfl
theorem own_ge {w : World} {base : Nat} {e : TypeId} {size n : Nat} {v : Value} {xs : List Value} (h : w.ownsRow base e size v n xs) : ∀ g, v.ownBlock = some g → base ≤ g := by
 intro g hg
 rcases h.2 with ⟨rfl, _⟩ | ⟨g', cap, cur, rfl, hb, _⟩
 · cases hg
 · have : g' = g := by simpa [Value.ownBlock] using hg
   omega
def u64of (n : Int) : Nat := (n % 18446744073709551616).toNat
def putL (v : V) : List UInt8 :=
 UInt8.ofNat v.k.toNat ::
  (if v.k = 1 then [UInt8.ofNat v.n.toNat]
   else if v.k = 2 then numL 8 (u64of v.n)
   else if v.k = 3 then numL 8 v.r.toNat
   else if v.k = 4 ∨ v.k = 5 then UInt8.ofNat v.t.size :: v.t.data.toList
   else [])
def putR (v : V) : Value := .tuple #[.string ⟨(if mayB v then putL v else []).toArray⟩, .int .i64 (okE (mayB v))]
theorem check_yes (v : V) (hv : v.wf) (hm : mayB v = true) (w : World) (hT : Tabs w) :
  Calls Tryz.prog 58 #[v.agg] w fun e w' => e = .returned (.int .i64 0) ∧ Below w.heap.size w w' := by
 have h := check_any v hv w hT
 rw [hm] at h
 exact h
theorem check_not (v : V) (hv : v.wf) (hm : mayB v = false) (w : World) (hT : Tabs w) :
  Calls Tryz.prog 58 #[v.agg] w fun e w' => e = .returned (.int .i64 2) ∧ Below w.heap.size w w' := by
 have h := check_any v hv w hT
 rw [hm] at h
 exact h
theorem conv1b (w : World) (o : Obj) (a : Int) (c : Nat) :
  (convert 128 9 (.slice (some ⟨w.heap.size + 1, 0, none⟩) 1 c)).run Tryz.prog ((w.alloc o).alloc (.cells #[.int .u8 a] 5)) = .ok (.string (strOfNums [a])) ((w.alloc o).alloc (.cells #[.int .u8 a] 5)) := by
 have := conv1 (w.alloc o) a c
 simpa using this
theorem may_size {v : V} (h : mayB v = true) : v.t.size ≤ 100 := by
 unfold mayB at h
 repeat' split at h
 all_goals first | (simp only [Bool.and_eq_true, decide_eq_true_eq] at h; omega) | cases h
theorem bool_of {v : V} (h : mayB v = true) (hk : v.k = 1) : v.n = 0 ∨ v.n = 1 := by
 unfold mayB at h
 rw [if_neg (by omega), if_pos hk] at h
 simp at h
 omega
theorem may_kind {v : V} (hm : mayB v = true) : v.k = 0 ∨ v.k = 1 ∨ v.k = 2 ∨ v.k = 3 ∨ v.k = 4 ∨ v.k = 5 := by
 unfold mayB at hm
 by_cases c0 : v.k = 0; · omega
 by_cases c1 : v.k = 1; · omega
 by_cases c2 : v.k = 2; · omega
 by_cases c3 : v.k = 3; · omega
 by_cases c4 : v.k = 4; · omega
 by_cases c5 : v.k = 5; · omega
 simp [c0, c1, c2, c3, c4, c5] at hm
theorem ba_of {s : ByteArray} {l : List UInt8} (h : s.data.toList = l) : s = ⟨l.toArray⟩ := by
 rw [← h]
theorem putR_of (v : V) (hm : mayB v = true) (s : ByteArray) (hs : s.data.toList = putL v) : Value.tuple #[.string s, .int .i64 0] = putR v := by
 unfold putR
 rw [hm, if_pos rfl, ← hs]
 rfl
set_option maxRecDepth 100000 in
theorem put_not (v : V) (hv : v.wf) (hm : mayB v = false) (w : World) (hT : Tabs w) :
  Calls Tryz.prog 75 #[v.agg] w fun e w' => e = .returned (putR v) ∧ Below w.heap.size w w' := by
 have HC := hd_ (check_not v hv hm)
 have hR : putR v = .tuple #[.string ⟨#[]⟩, .int .i64 2] := by unfold putR; rw [hm]; rfl
 rw [hR]
 clear hm hR hv
 have HT := hd_ hT
 clear hT
 obtain ⟨k, n, r, t⟩ := v
 unfold V.agg at HC ⊢
 go_enter Tryz.func75, Tryz.ntmps75
 go_wp2_with (go_at_call 58; refine (HC.out _ (HT.out.ext ((Below.refl _ _).alloc (Nat.le_refl _) _))).mono ?_; rintro e w' ⟨rfl, hb⟩)
 go_ret2
 exact ⟨rfl, ((Below.refl _ _).alloc (Nat.le_refl _) _).trans (hb.mono (by simp))⟩
set_option maxRecDepth 100000 in
theorem put_yes (v : V) (hv : v.wf) (hm : mayB v = true) (w : World) (hT : Tabs w) :
  Calls Tryz.prog 75 #[v.agg] w fun e w' => e = .returned (putR v) ∧ Below w.heap.size w w' := by
 have HC := hd_ (check_yes v hv hm)
 have HT := hd_ hT
 clear hT
 have HMY := hd_ hm
 have hc1 := conv1
 have hk5 := may_kind hm
 clear hm
 obtain ⟨k, n, r, t⟩ := v
 obtain ⟨hk0, hkM, h1, h2, h3, h4, h5⟩ := hv
 simp only at h1 h2 h3 h4 h5 hk5 hk0 hkM
 unfold V.agg at HC ⊢
 generalize hR : putR _ = R
 have HR := hd_ hR
 clear hR
 have hc2 := conv1b
 have hs1 : ∀ a : Int, (strOfNums [a]).size = 1 := fun _ => rfl
 have hs8 : ∀ a : Nat, (ByteArray.mk (numL 8 a).toArray).size = 8 := fun a => by simp [ByteArray.size, numL_length]
 have HN2 := hd_ (num_any (IntKind.u64.wrap n) (by rw [IntKind.wrap_u64]; omega) (by rw [IntKind.wrap_u64]; omega))
 have HN3 := hd_ (num_any r h3 h4)
 rcases hk5 with rfl | rfl | rfl | rfl | rfl | rfl
 all_goals
  have ht := may_size HMY.out
  simp only at ht
  go_enter Tryz.func75, Tryz.ntmps75
  go_wp2_with (first | (go_at_call 58; refine (HC.out _ (HT.out.ext ((Below.refl _ _).alloc (Nat.le_refl _) _))).mono ?_; rintro e w1 ⟨rfl, hb⟩; obtain ⟨hcl, hfr⟩ := bcell hb; have hz : w.heap.size < w1.heap.size := (by have := hb.size; simp at this; omega); have HB := hd_ hb; clear hb) | (go_at_call 112; ((with_reducible refine (HN2.out _).mono ?_); rintro e w2 ⟨rfl, hb2⟩)) | (go_at_call 112; ((with_reducible refine (HN3.out _).mono ?_); rintro e w2 ⟨rfl, hb2⟩)))
  go_ret2
  refine ⟨?_, ?_⟩
  · rw [← HR.out]
    refine congrArg Ending.returned (putR_of _ HMY.out _ ?_)
    have hm := HMY.out
    clear hcl hfr HB
    first
     | (rcases bool_of hm rfl with rfl | rfl <;> rfl)
     | (simp [putL, strOfNums, ByteArray.data_append, IntKind.wrap_u64, u64of]; done)
     | (simp [putL, strOfNums, ByteArray.data_append]; exact congrArg UInt8.ofNat (by omega))
     | rfl
  · have hb := HB.out
    have hw1 : Below w.heap.size w w1 := ((Below.refl _ _).alloc (Nat.le_refl _) _).trans (hb.mono (by simp))
    first
     | exact (hw1.alloc hw1.size _).trans (hb2.mono (by simp; omega))
     | exact (hw1.alloc hw1.size _).alloc (by simp; omega) _
     | exact hw1.alloc hw1.size _
theorem put_any (v : V) (hv : v.wf) (w : World) (hT : Tabs w) :
  Calls Tryz.prog 75 #[v.agg] w fun e w' => e = .returned (putR v) ∧ Below w.heap.size w w' := by
 cases hm : mayB v
 · exact put_not v hv hm w hT
 · exact put_yes v hv hm w hT
end Go.Proofs.YtceoficoappkpaaGreatDoor
