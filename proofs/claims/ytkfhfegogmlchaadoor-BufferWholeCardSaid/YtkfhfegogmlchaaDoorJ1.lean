/- Several texts in one: see each part's head. -/
import Derived.WalkKit
import Derived.WalkMore
import Derived.WalkLawsBesides
import Derived.WalkSpells
import Derived.Lib.Hide
import Derived.Laws.BitsAllLaws
import Derived.Laws.Externs
import Derived.Below
import Derived.Test.YtkfhfegogmlchaaDoorProg
import Derived.Test.YtkfhfegogmlchaaDoorShelf
import Derived.Deep.QuietTactic
import Derived.BigQuiet
import Derived.Laws.OwnMore
import Derived.Deep.AppendLies
import Derived.Maps.AppendAt
import Derived.Deep.Draws
import Derived.OwnWalk
/- Several texts in one: see each part's head. -/
/- Contracts of the smallest functions: the canonical bits of a float, by the program and by the reference. No conditions beyond the types' own ranges. -/
namespace Go.Proofs.YtkfhfegogmlchaaDoor
open Go.RowKit

/-- Are bits no number's? -/
def nanB (b : Int) : Bool := decide (b / 4503599627370496 % 2048 = 2047) && decide (b % 4503599627370496 ≠ 0)
def canonZ (b : Int) : Int := if nanB b then 9221120237041090561 else b


theorem order_self (d : Ieee.Datum) : (d.order d != some .eq) = d.isNaN := by
  cases d with
  | number s m i => simp [Ieee.Datum.order, Ieee.Datum.isNaN]
  | infinity s => simp [Ieee.Datum.order, Ieee.Datum.isNaN]
  | nan s t => simp [Ieee.Datum.order, Ieee.Datum.isNaN]
theorem isNaN_read (x : Nat) (_hx : x ≤ 18446744073709551615) : (Ieee.double.read x).isNaN = nanB (x : Int) := by
  have hs : Ieee.double.signWeight = 9223372036854775808 := by decide
  have hb : Ieee.double.binade = 4503599627370496 := by decide
  have hi : Ieee.double.infRung = 9218868437227405312 := by decide
  unfold Ieee.Format.read
  simp only [hs, hb, hi]
  unfold nanB
  by_cases c1 : x % 9223372036854775808 < 4503599627370496
  · rw [if_pos c1]
    have : ¬ ((x : Int) / 4503599627370496 % 2048 = 2047) := by omega
    simp [Ieee.Datum.isNaN, this]
  · rw [if_neg c1]
    by_cases c2 : x % 9223372036854775808 < 9218868437227405312
    · rw [if_pos c2]
      have : ¬ ((x : Int) / 4503599627370496 % 2048 = 2047) := by omega
      simp [Ieee.Datum.isNaN, this]
    · rw [if_neg c2]
      have h1 : (x : Int) / 4503599627370496 % 2048 = 2047 := by omega
      by_cases c3 : x % 9223372036854775808 = 9218868437227405312
      · rw [if_pos c3]
        have h2 : (x : Int) % 4503599627370496 = 0 := by omega
        simp [Ieee.Datum.isNaN, h1, h2]
      · rw [if_neg c3]
        have h2 : ¬ (x : Int) % 4503599627370496 = 0 := by omega
        simp [Ieee.Datum.isNaN, h1, h2]
theorem frombits_run (b : Int) (w : World) : (callFunc 83 #[.int .u64 b]).run Tryd.prog w = .ok (.value (.float .f64 b.toNat)) w := by
  rw [run_callFunc_extern Tryd.func83 (by kernel_rfl) (by kernel_rfl) (by kernel_rfl) (e := Extern.MathFloatBits.float64frombits) (by kernel_rfl)]
  rfl
theorem nan_neq (b : Int) (h0 : 0 ≤ b) (h1 : b ≤ 18446744073709551615) : (FloatKind.f64.format.order b.toNat b.toNat != some .eq) = nanB b := by
  obtain ⟨n, rfl⟩ := Int.eq_ofNat_of_zero_le h0
  rw [← isNaN_read n (by omega), ← order_self]
  rfl
set_option maxRecDepth 100000 in
theorem canon_any (b : Int) (h0 : 0 ≤ b) (h1 : b ≤ 18446744073709551615) (w : World) :
    Calls Tryd.prog 76 #[.int .u64 b] w fun e w' => e = .returned (.int .u64 (canonZ b)) ∧ w = w' := by
  have hfb := frombits_run b
  have hn := nan_neq b h0 h1
  have HN := Lib.hid hn
  cases hc : nanB b
  · have HC := Lib.hid hc
    rw [hc] at hn
    clear hc
    go_enter Tryd.func76, Tryd.ntmps76
    go_wp2
    go_ret
    exact ⟨by simp [canonZ, HC.out], rfl⟩
  · have HC := Lib.hid hc
    rw [hc] at hn
    clear hc
    go_enter Tryd.func76, Tryd.ntmps76
    go_wp2
    go_ret
    exact ⟨by simp [canonZ, HC.out], rfl⟩
end Go.Proofs.YtkfhfegogmlchaaDoor

/- Contracts of value.Check and of the reference's May: each tells, for any value, whether it may be (mayB). -/
namespace Go.Proofs.YtkfhfegogmlchaaDoor
open Go.RowKit

/-- A value, field by field. -/
structure V where
  k : Int
  n : Int
  r : Int
  t : ByteArray
def V.wf (v : V) : Prop := 0 ≤ v.k ∧ v.k ≤ 255 ∧ -9223372036854775808 ≤ v.n ∧ v.n ≤ 9223372036854775807 ∧ 0 ≤ v.r ∧ v.r ≤ 18446744073709551615 ∧ v.t.size ≤ 140737488355328
def V.agg (v : V) : Value := .agg #[.int .u8 v.k, .int .i64 v.n, .int .u64 v.r, .string v.t]

/-- All but the kind's own: is the rest zero, and the text not too long? -/
def mayB (v : V) : Bool :=
  if v.k = 0 then decide (v.n = 0) && decide (v.r = 0) && decide (v.t.size = 0)
  else if v.k = 1 then (decide (v.n = 0) || decide (v.n = 1)) && decide (v.r = 0) && decide (v.t.size = 0)
  else if v.k = 2 then decide (v.r = 0) && decide (v.t.size = 0)
  else if v.k = 3 then decide (v.n = 0) && decide (v.r = canonZ v.r) && decide (v.t.size = 0)
  else if v.k = 4 then decide (v.n = 0) && decide (v.r = 0) && decide (v.t.size ≤ 100)
  else if v.k = 5 then Lib.validD v.t.data.toList && (decide (v.n = 0) && decide (v.r = 0) && decide (v.t.size ≤ 100))
  else false
/-- OK or ErrArg. -/
def okE (b : Bool) : Int := if b then 0 else 2

theorem ret_int {k : IntKind} {a b : Int} (h : a = b) : Ending.returned (.int k a) = .returned (.int k b) := by rw [h]
theorem ret_bool {a b : Bool} (h : a = b) : Ending.returned (.bool a) = .returned (.bool b) := by rw [h]
theorem empty_of_size {t : ByteArray} (h : t.size = 0) : t = ByteArray.empty := by
  obtain ⟨d⟩ := t
  have : d = #[] := Array.eq_empty_of_size_eq_zero h
  rw [this]; rfl
theorem toList_ne {t : ByteArray} (h : ¬ t.size = 0) : ¬ t.toList = [] := by
  intro e
  apply h
  rw [Lib.toList_data] at e
  have : t.data.toList.length = 0 := by rw [e]; rfl
  simpa using this
theorem bt {W a b : World} (h : Below W.heap.size W a) (k : Below a.heap.size a b) : Below W.heap.size W b := h.trans (k.mono h.size)
theorem bcell {W w1 : World} (hb : Below W.heap.size W w1) : (∀ b o, b < W.heap.size → w1.cell? ⟨b, o, none⟩ = W.cell? ⟨b, o, none⟩) ∧ (∀ b o, b < W.heap.size → w1.frozen? ⟨b, o, none⟩ = W.frozen? ⟨b, o, none⟩) :=
  ⟨fun b o h => hb.cell (p := ⟨b, o, none⟩) h, fun b o h => hb.frozen (p := ⟨b, o, none⟩) h⟩
/-- unicode/utf8's two tables lie in memory as its text lays them. -/
def Tabs (w : World) : Prop := Lib.Utf8Tabs 0 1 w
theorem Tabs.ext {w w' : World} (h : Tabs w) (hb : Below w.heap.size w w') : Tabs w' := Utf8Tabs_below h hb
theorem wrap_le1 {n : Int} (h1 : -9223372036854775808 ≤ n) (h2 : n ≤ 9223372036854775807) (h : IntKind.u64.wrap n ≤ 1) : n = 0 ∨ n = 1 := by
  rw [IntKind.wrap_u64] at h; omega
theorem wrap_gt1 {n : Int} (h : 1 < IntKind.u64.wrap n) : ¬ n = 0 ∧ ¬ n = 1 := by
  rw [IntKind.wrap_u64] at h; omega
theorem valid_any (s : ByteArray) (w : World) (hs : s.size ≤ 9223372036854775807) (hT : Tabs w) :
    Calls Tryd.prog 77 #[.string s] w fun e w' => e = .returned (.bool (Lib.validD s.data.toList)) ∧ Below w.heap.size w w' :=
  Tryd.utf8_ValidString s w hs hT

set_option maxRecDepth 100000 in
theorem check_plain (v : V) (hv : v.wf) (hk : v.k ≤ 2) (w : World) :
    Calls Tryd.prog 67 #[v.agg] w fun e w' => e = .returned (.int .i64 (okE (mayB v))) ∧ Below w.heap.size w w' := by
  obtain ⟨k, n, r, t⟩ := v
  obtain ⟨hk0, _, h1, h2, h3, h4, h5⟩ := hv
  simp only at h1 h2 h3 h4 h5 hk hk0
  unfold V.agg
  have hkk : k = 0 ∨ k = 1 ∨ k = 2 := by omega
  by_cases ht : t.size = 0
  · obtain rfl := empty_of_size ht
    clear ht
    rcases hkk with rfl | rfl | rfl
    all_goals
      generalize hM : okE (mayB _) = M
      have HM := Lib.hid hM
      clear hM
      go_enter Tryd.func67, Tryd.ntmps67
      go_wp2
      all_goals
        go_ret
        refine ⟨ret_int ?_, by repeat (first | exact Below.refl _ _ | refine Below.alloc ?_ (by simp) _)⟩
        rw [← HM.out]
        first
          | (have hw := wrap_le1 h1 h2 (by assumption); simp [okE, mayB, *]; done)
          | (have hw := wrap_gt1 (by assumption); simp [okE, mayB, hw.1, hw.2]; done)
          | (simp [okE, mayB, *]; done)
  · have ht' := toList_ne ht
    have htp : 0 < t.size := by omega
    rcases hkk with rfl | rfl | rfl
    all_goals
      generalize hM : okE (mayB _) = M
      have HM := Lib.hid hM
      clear hM
      go_enter Tryd.func67, Tryd.ntmps67
      go_wp2
      all_goals
        go_ret
        refine ⟨ret_int ?_, by repeat (first | exact Below.refl _ _ | refine Below.alloc ?_ (by simp) _)⟩
        rw [← HM.out]
        simp [okE, mayB, ht]

set_option maxRecDepth 100000 in
theorem check_bytes (v : V) (hv : v.wf) (hk : v.k = 4) (w : World) :
    Calls Tryd.prog 67 #[v.agg] w fun e w' => e = .returned (.int .i64 (okE (mayB v))) ∧ Below w.heap.size w w' := by
  obtain ⟨k, n, r, t⟩ := v
  obtain ⟨_, _, h1, h2, h3, h4, h5⟩ := hv
  simp only at h1 h2 h3 h4 h5 hk
  subst hk
  unfold V.agg
  generalize hM : okE (mayB _) = M
  have HM := Lib.hid hM
  clear hM
  go_enter Tryd.func67, Tryd.ntmps67
  go_wp2
  all_goals
    go_ret
    refine ⟨ret_int ?_, by repeat (first | exact Below.refl _ _ | refine Below.alloc ?_ (by simp) _)⟩
    rw [← HM.out]
    first
      | (have hl : ¬ t.size ≤ 100 := by omega
         simp [okE, mayB, hl]; done)
      | (have hl : t.size ≤ 100 := by omega
         simp [okE, mayB, *]; done)
      | (simp [okE, mayB, *]; done)

set_option maxRecDepth 100000 in
theorem check_real (v : V) (hv : v.wf) (hk : v.k = 3) (w : World) :
    Calls Tryd.prog 67 #[v.agg] w fun e w' => e = .returned (.int .i64 (okE (mayB v))) ∧ Below w.heap.size w w' := by
  obtain ⟨k, n, r, t⟩ := v
  obtain ⟨_, _, h1, h2, h3, h4, h5⟩ := hv
  simp only at h1 h2 h3 h4 h5 hk
  subst hk
  unfold V.agg
  generalize hM : okE (mayB _) = M
  have HM := Lib.hid hM
  clear hM
  have HC := Lib.hid (canon_any r h3 h4)
  generalize hc : canonZ r = c at HC
  have Hc := Lib.hid hc
  clear hc
  by_cases ht : t.size = 0
  · obtain rfl := empty_of_size ht
    clear ht
    go_enter Tryd.func67, Tryd.ntmps67
    go_wp2_with (go_at_call 76; refine (HC.out _).mono ?_; rintro e w' ⟨rfl, rfl⟩)
    all_goals
      go_ret
      refine ⟨ret_int ?_, by repeat (first | exact Below.refl _ _ | refine Below.alloc ?_ (by simp) _)⟩
      rw [← HM.out]
      first
        | (have e : canonZ r = r := by rw [Hc.out]; symm; assumption
           have hn : n = 0 := by assumption
           simp only [okE, mayB, e, hn]; rfl)
        | (have e : ¬ r = canonZ r := by rw [Hc.out]; assumption
           simp [okE, mayB, e]; done)
        | (have hn : ¬ n = 0 := by assumption
           simp [okE, mayB, hn]; done)
  · have ht' := toList_ne ht
    have htp : 0 < t.size := by omega
    go_enter Tryd.func67, Tryd.ntmps67
    go_wp2_with (go_at_call 76; refine (HC.out _).mono ?_; rintro e w' ⟨rfl, rfl⟩)
    all_goals
      go_ret
      refine ⟨ret_int ?_, by repeat (first | exact Below.refl _ _ | refine Below.alloc ?_ (by simp) _)⟩
      rw [← HM.out]
      simp [okE, mayB, ht]

set_option maxRecDepth 100000 in
theorem check_other (v : V) (hv : v.wf) (hk : 5 < v.k) (w : World) :
    Calls Tryd.prog 67 #[v.agg] w fun e w' => e = .returned (.int .i64 (okE (mayB v))) ∧ Below w.heap.size w w' := by
  obtain ⟨k, n, r, t⟩ := v
  obtain ⟨_, _, h1, h2, h3, h4, h5⟩ := hv
  simp only at h1 h2 h3 h4 h5 hk
  unfold V.agg
  have hM : okE (mayB ⟨k, n, r, t⟩) = 2 := by
    have e0 : ¬ k = 0 := by omega
    have e1 : ¬ k = 1 := by omega
    have e2 : ¬ k = 2 := by omega
    have e3 : ¬ k = 3 := by omega
    have e4 : ¬ k = 4 := by omega
    have e5 : ¬ k = 5 := by omega
    simp [mayB, okE, e0, e1, e2, e3, e4, e5]
  rw [hM]
  clear hM
  go_enter Tryd.func67, Tryd.ntmps67
  go_wp2
  all_goals
    go_ret
    exact ⟨rfl, by repeat (first | exact Below.refl _ _ | refine Below.alloc ?_ (by simp) _)⟩

set_option maxRecDepth 100000 in
theorem check_text (v : V) (hv : v.wf) (hk : v.k = 5) (w : World) (hT : Tabs w) :
    Calls Tryd.prog 67 #[v.agg] w fun e w' => e = .returned (.int .i64 (okE (mayB v))) ∧ Below w.heap.size w w' := by
  obtain ⟨k, n, r, t⟩ := v
  obtain ⟨_, _, h1, h2, h3, h4, h5⟩ := hv
  simp only at h1 h2 h3 h4 h5 hk
  subst hk
  unfold V.agg
  generalize hM : okE (mayB _) = M
  have HM := Lib.hid hM
  clear hM
  have HV := Lib.hid (fun W hW => valid_any t W (by omega) hW)
  generalize hc : Lib.validD t.data.toList = c at HV
  have Hc := Lib.hid hc
  clear hc
  have HT := Lib.hid hT
  clear hT
  cases c
  all_goals
    go_enter Tryd.func67, Tryd.ntmps67
    go_wp2_with (go_at_call 77; refine (HV.out _ (HT.out.ext (by repeat (first | exact Below.refl _ _ | refine Below.alloc ?_ (by simp) _)))).mono ?_; rintro e w' ⟨rfl, hb⟩; obtain ⟨hcl, hfr⟩ := bcell hb; have HB := Lib.hid hb; clear hb)
    all_goals
      go_ret
      refine ⟨ret_int ?_, ?_⟩
      · rw [← HM.out]
        first
          | (have hc := Hc.out
             have hl : ¬ t.size ≤ 100 := by omega
             simp [okE, mayB, hl]; done)
          | (have hc := Hc.out
             have hl : t.size ≤ 100 := by omega
             simp [okE, mayB, *]; done)
          | (have hc := Hc.out
             simp [okE, mayB, *]; done)
      · have hb := HB.out
        repeat (refine Below.setCell ?_ (by simp) _)
        refine Below.trans ?_ (hb.mono (by simp; omega))
        repeat (first | exact Below.refl _ _ | refine Below.alloc ?_ (by simp) _)

theorem check_any (v : V) (hv : v.wf) (w : World) (hT : Tabs w) :
    Calls Tryd.prog 67 #[v.agg] w fun e w' => e = .returned (.int .i64 (okE (mayB v))) ∧ Below w.heap.size w w' := by
  have h0 := hv.1
  by_cases h2 : v.k ≤ 2
  · exact check_plain v hv h2 w
  · by_cases h3 : v.k = 3
    · exact check_real v hv h3 w
    · by_cases h4 : v.k = 4
      · exact check_bytes v hv h4 w
      · by_cases h5 : v.k = 5
        · exact check_text v hv h5 w hT
        · exact check_other v hv (by omega) w
end Go.Proofs.YtkfhfegogmlchaaDoor

/- Several texts in one: see each part's head. -/
/- The contract of the reference's May: it tells, for any value, whether it may be (mayB). -/
namespace Go.Proofs.YtkfhfegogmlchaaDoor
open Go.RowKit






end Go.Proofs.YtkfhfegogmlchaaDoor

/- Contracts of functions that read a row of values: the reference's Row, the statements' Long. -/
namespace Go.Proofs.YtkfhfegogmlchaaDoor
open Go.RowKit

/-- A slice of values reads as l: each element's four cells. -/
def VRow (w : World) (A : Option Addr) (l : List V) : Prop :=
  (∀ v ∈ l, v.wf) ∧ l.length ≤ 35184372088832 ∧ (l ≠ [] → ∃ b off, A = some ⟨b, off, none⟩ ∧ b < w.heap.size ∧ ∀ i v, l[i]? = some v →
    w.cell? ⟨b, off + i * 4, none⟩ = some (.int .u8 v.k) ∧ w.cell? ⟨b, off + i * 4 + 1, none⟩ = some (.int .i64 v.n) ∧ w.cell? ⟨b, off + i * 4 + 2, none⟩ = some (.int .u64 v.r) ∧ w.cell? ⟨b, off + i * 4 + 3, none⟩ = some (.string v.t))
theorem VRow.ext {w w' : World} {A : Option Addr} {l : List V} (h : VRow w A l) (hb : Below w.heap.size w w') : VRow w' A l := by
  refine ⟨h.1, h.2.1, fun hl => ?_⟩
  obtain ⟨b, off, rfl, hlt, hc⟩ := h.2.2 hl
  refine ⟨b, off, rfl, Nat.lt_of_lt_of_le hlt hb.size, fun i v hi => ?_⟩
  obtain ⟨c0, c1, c2, c3⟩ := hc i v hi
  exact ⟨(hb.cell (p := ⟨b, _, none⟩) hlt).trans c0, (hb.cell (p := ⟨b, _, none⟩) hlt).trans c1, (hb.cell (p := ⟨b, _, none⟩) hlt).trans c2, (hb.cell (p := ⟨b, _, none⟩) hlt).trans c3⟩
theorem VRow.at_ {w : World} {A : Option Addr} {l : List V} (h : VRow w A l) {k : Nat} (hk : k < l.length) :
    ∃ (b off : Nat) (v : V), A = some ⟨b, off, none⟩ ∧ b < w.heap.size ∧ l[k]? = some v ∧ v ∈ l ∧ v.wf ∧
      w.cell? ⟨b, off + k * 4, none⟩ = some (.int .u8 v.k) ∧ w.cell? ⟨b, off + k * 4 + 1, none⟩ = some (.int .i64 v.n) ∧ w.cell? ⟨b, off + k * 4 + 2, none⟩ = some (.int .u64 v.r) ∧ w.cell? ⟨b, off + k * 4 + 3, none⟩ = some (.string v.t) := by
  obtain ⟨b, off, rfl, hlt, hc⟩ := h.2.2 (by intro e; simp [e] at hk)
  have hv := List.getElem?_eq_getElem hk
  obtain ⟨c0, c1, c2, c3⟩ := hc k _ hv
  exact ⟨b, off, l[k], rfl, hlt, hv, List.getElem_mem hk, h.1 _ (List.getElem_mem hk), c0, c1, c2, c3⟩

theorem sum_step {l : List V} {k : Nat} {s a : Int} {v : V} (h : s = a + ((l.take k).map fun v => (v.t.size : Int) / 8).sum) (hk : l[k]? = some v) :
    Hid (s + (v.t.size : Int) / 8 = a + ((l.take (k + 1)).map fun v => (v.t.size : Int) / 8).sum) := by
  show _ = _
  obtain ⟨hlt, hv⟩ := List.getElem?_eq_some_iff.1 hk
  rw [List.take_succ_eq_append_getElem hlt, List.map_append, List.sum_append, hv, h]
  simp
  omega
theorem all_step {l : List V} {k : Nat} {v : V} (h : (l.take k).all mayB = true) (hk : l[k]? = some v) (hm : mayB v = true) : Hid ((l.take (k + 1)).all mayB = true) := by
  show _ = _
  obtain ⟨hlt, hv⟩ := List.getElem?_eq_some_iff.1 hk
  rw [List.take_succ_eq_append_getElem hlt, List.all_append, h, hv]
  simp [hm]
/-- Long: the count of values, and of eighths of letters of the first hundred. -/
def longN (l : List V) : Int := (l.length : Int) + ((l.take 100).map fun v => (v.t.size : Int) / 8).sum
theorem long_end {l : List V} {k : Nat} {s : Int} (h : s = (l.length : Int) + ((l.take k).map fun v => (v.t.size : Int) / 8).sum) (hk : k = 100 ∨ (k = l.length ∧ k ≤ 100)) : decide (4000 < s) = decide (4000 < longN l) := by
  have : s = longN l := by
    rw [h]
    unfold longN
    rcases hk with rfl | ⟨rfl, h100⟩
    · rfl
    · rw [List.take_of_length_le (Nat.le_refl _), List.take_of_length_le h100]
  rw [this]
set_option maxRecDepth 100000 in
theorem long_any (l : List V) (A : Option Addr) (c : Nat) (w : World) (hr : VRow w A l) :
    Calls Tryd.prog 15 #[.slice A l.length c] w fun e w' => e = .returned (.bool (decide (4000 < longN l))) ∧ w = w' := by
  have hlen := hr.2.1
  generalize hM : decide (4000 < longN l) = M
  have HM := Lib.hid hM
  clear hM
  go_enter Tryd.func15, Tryd.ntmps15
  go_wp2
  go_loop [3, 4] (fun n i => ∃ (k : Nat) (s : Int), k ≤ l.length ∧ k ≤ 100 ∧ i = .int .i64 k ∧ n = .int .i64 s ∧ 0 ≤ s ∧ s ≤ 35184372088832 + k * 17592186044416 ∧ Hid (s = (l.length : Int) + ((l.take k).map fun v => (v.t.size : Int) / 8).sum)) (fun _ i => l.length - (intOf i).toNat)
  case atStart => exact ⟨0, l.length, by omega, by omega, rfl, rfl, by omega, by omega, (by simp : _ = _)⟩
  case round =>
    obtain ⟨k, s, hk1, hk2, rfl, rfl, hs0, hs1, HS⟩ := hrel
    by_cases hlt : k < l.length
    · obtain ⟨b, off, v, rfl, hb, hlk, hmem, hwf, c0, c1, c2, c3⟩ := hr.at_ hlt
      obtain ⟨vk, vn, vr, vt⟩ := v
      have hts : vt.size ≤ 140737488355328 := hwf.2.2.2.2.2.2
      have HL := Lib.hid hlk
      clear hlk hwf hmem
      by_cases h100 : k < 100
      · go_wp2
        go_round
        case rel => exact ⟨k + 1, s + (vt.size : Int) / 8, by omega, by omega, by go_num, rfl, by omega, by omega, sum_step HS.out HL.out⟩
        case measure => simp [intOf]; omega
      · go_wp2
        go_ret
        exact ⟨ret_bool (by rw [← HM.out]; exact long_end HS.out (Or.inl (by omega))), rfl⟩
    · go_wp2
      go_ret
      exact ⟨ret_bool (by rw [← HM.out]; exact long_end HS.out (Or.inr ⟨by omega, by omega⟩)), rfl⟩

/-- Rows that may be. -/
def rowB (l : List V) : Bool := decide (1 ≤ l.length) && decide (l.length ≤ 8) && l.all mayB
end Go.Proofs.YtkfhfegogmlchaaDoor

/- Contracts of the reference's Copy and Same. -/
namespace Go.Proofs.YtkfhfegogmlchaaDoor
open Go.RowKit

theorem below_drewN {B : Nat} {a w : World} (h : Below B a w) (n : Nat) : Below B a (w.drewN n) := ⟨h.os, h.tape, h.output, h.size, h.block⟩
def V.cells (v : V) : List Value := [.int .u8 v.k, .int .i64 v.n, .int .u64 v.r, .string v.t]
def rowCells (l : List V) : List Value := l.flatMap V.cells
theorem rowCells_length (l : List V) : (rowCells l).length = l.length * 4 := by
  induction l with
  | nil => rfl
  | cons v l ih => simp only [rowCells, List.flatMap_cons, List.length_append, List.length_cons] at ih ⊢; rw [ih]; simp [V.cells]; omega
theorem rowCells_one (l : List V) : ∀ u ∈ rowCells l, u.oneCell' = true := by
  intro u hu
  simp only [rowCells, List.mem_flatMap] at hu
  obtain ⟨v, _, hu⟩ := hu
  simp only [V.cells, List.mem_cons, List.not_mem_nil, or_false] at hu
  rcases hu with rfl | rfl | rfl | rfl <;> rfl
theorem rowCells_at (l : List V) : ∀ (i : Nat) (v : V) (j : Nat), l[i]? = some v → j < 4 → (rowCells l)[i * 4 + j]? = v.cells[j]? := by
  induction l with
  | nil => intro i v j h; simp at h
  | cons x l ih =>
    intro i v j h hj
    simp only [rowCells, List.flatMap_cons]
    cases i with
    | zero =>
      simp only [List.getElem?_cons_zero, Option.some.injEq] at h
      subst h
      rw [List.getElem?_append_left (by simp [V.cells]; omega)]
      simp
    | succ i =>
      rw [List.getElem?_append_right (by simp [V.cells]; omega)]
      have e : (i + 1) * 4 + j - x.cells.length = i * 4 + j := by simp [V.cells]; omega
      rw [e]
      exact ih i v j (by simpa using h) hj
/-- A row of the call's own reads as a row. -/
theorem VRow.of_own {w : World} {base n c : Nat} {A : Option Addr} {l : List V} (hwf : ∀ v ∈ l, v.wf) (hlen : l.length ≤ 35184372088832)
    (h : w.ownsRow base 97 4 (.slice A n c) n (rowCells l)) : VRow w A l ∧ n = l.length := by
  have hn : n = l.length := by have := h.1; rw [rowCells_length] at this; omega
  refine ⟨⟨hwf, hlen, fun hl => ?_⟩, hn⟩
  have hpos : 0 < n := by rw [hn]; exact List.length_pos_iff.2 hl
  obtain ⟨g, cap, hv, _, hlt⟩ := h.form hpos
  have hA : A = some ⟨g, 0, none⟩ := by injection hv
  subst hA
  refine ⟨g, 0, rfl, hlt, fun i v hi => ?_⟩
  have hc := h.cells (g := g) rfl
  have key : ∀ j, j < 4 → ∀ u, v.cells[j]? = some u → w.cell? ⟨g, 0 + i * 4 + j, none⟩ = some u := by
    intro j hj u hu
    have := hc (i * 4 + j) u (by rw [rowCells_at l i v j hi hj]; exact hu)
    have e : (⟨g, 0, none⟩ : Addr).add (i * 4 + j) = ⟨g, 0 + i * 4 + j, none⟩ := by
      unfold Addr.add; split
      · next h0 =>
        obtain rfl : i = 0 := by omega
        obtain rfl : j = 0 := by omega
        rfl
      · simp
    rwa [e] at this
  exact ⟨key 0 (by omega) _ rfl, key 1 (by omega) _ rfl, key 2 (by omega) _ rfl, key 3 (by omega) _ rfl⟩
/-- The cells of a row, from its address on. -/
theorem VRow.cells_ {w : World} {l : List V} {b off : Nat} (h : VRow w (some ⟨b, off, none⟩) l) : ∀ j u, (rowCells l)[j]? = some u → w.cell? ((⟨b, off, none⟩ : Addr).add j) = some u := by
  intro j u hu
  have hj : j < l.length * 4 := by
    have := (List.getElem?_eq_some_iff.1 hu).1
    rwa [rowCells_length] at this
  obtain ⟨b', off', v, hA, _, hlk, _, _, c0, c1, c2, c3⟩ := h.at_ (k := j / 4) (by omega)
  injection hA with hA
  injection hA with e1 e2
  subst e1; subst e2
  have e : j = j / 4 * 4 + j % 4 := by omega
  rw [e, rowCells_at l (j / 4) v (j % 4) hlk (by omega)] at hu
  have ea : (⟨b, off, none⟩ : Addr).add j = ⟨b, off + j / 4 * 4 + j % 4, none⟩ := by
    unfold Addr.add; split
    · next h0 => subst h0; rfl
    · show (⟨b, off + j, none⟩ : Addr) = _
      rw [show off + j = off + j / 4 * 4 + j % 4 by omega]
  rw [ea]
  have hm : j % 4 = 0 ∨ j % 4 = 1 ∨ j % 4 = 2 ∨ j % 4 = 3 := by omega
  rcases hm with hm | hm | hm | hm <;> rw [hm] at hu ⊢ <;> simp only [V.cells, List.getElem?_cons_zero, List.getElem?_cons_succ, Option.some.injEq] at hu <;> subst hu
  · exact c0
  · exact c1
  · exact c2
  · exact c3
theorem info_V : (Tryd.prog.info? 97).map (fun i => (i.zero, i.size, i.bytes)) = some (some (.agg #[.int .u8 0, .int .i64 0, .int .u64 0, .string ⟨#[]⟩]), 4, 40) := by kernel_rfl


/-- Are two values the same? -/
def sameV (a b : V) : Bool := decide (a.k = b.k) && decide (a.n = b.n) && decide (a.r = b.r) && decide (a.t = b.t)
theorem sameV_iff {a b : V} : sameV a b = true ↔ a = b := by
  cases a; cases b
  simp [sameV]
  constructor
  · rintro ⟨⟨⟨h1, h2⟩, h3⟩, h4⟩; exact ⟨h1, h2, h3, h4⟩
  · rintro ⟨h1, h2, h3, h4⟩; exact ⟨⟨⟨h1, h2⟩, h3⟩, h4⟩
instance : DecidableEq V := fun a b => decidable_of_iff (sameV a b = true) sameV_iff
theorem toList_inj {t t' : ByteArray} (h : t.toList = t'.toList) : t = t' := by
  rw [Lib.toList_data, Lib.toList_data] at h
  obtain ⟨⟨a⟩⟩ := t
  obtain ⟨⟨b⟩⟩ := t'
  simp only at h
  rw [h]
set_option maxRecDepth 100000 in
theorem neq_ne (k n r k' n' r' : Int) (t t' : ByteArray) (h : (⟨k, n, r, t⟩ : V) ≠ ⟨k', n', r', t'⟩) (w : World) :
    (binOp .neq 97 (.agg #[.int .u8 k, .int .i64 n, .int .u64 r, .string t]) (.agg #[.int .u8 k', .int .i64 n', .int .u64 r', .string t'])).run Tryd.prog w = .ok (.bool true) w := by
  go_simp
  rintro rfl rfl rfl ht
  exact h (by rw [toList_inj ht])
set_option maxRecDepth 100000 in
theorem neq_eq (k n r : Int) (t : ByteArray) (w : World) :
    (binOp .neq 97 (.agg #[.int .u8 k, .int .i64 n, .int .u64 r, .string t]) (.agg #[.int .u8 k, .int .i64 n, .int .u64 r, .string t])).run Tryd.prog w = .ok (.bool false) w := by
  go_simp
theorem take_same {l m : List V} {k : Nat} {v : V} (h : l.take k = m.take k) (hl : l[k]? = some v) (hm : m[k]? = some v) : Hid (l.take (k + 1) = m.take (k + 1)) := by
  show _ = _
  obtain ⟨h1, e1⟩ := List.getElem?_eq_some_iff.1 hl
  obtain ⟨h2, e2⟩ := List.getElem?_eq_some_iff.1 hm
  rw [List.take_succ_eq_append_getElem h1, List.take_succ_eq_append_getElem h2, h, e1, e2]
set_option maxRecDepth 100000 in
theorem same_any (l m : List V) (A B : Option Addr) (c d : Nat) (w : World) (hr : VRow w A l) (hs : VRow w B m) :
    Calls Tryd.prog 35 #[.slice A l.length c, .slice B m.length d] w fun e w' => e = .returned (.bool (decide (l = m))) ∧ Below w.heap.size w w' := by
  have hlen := hr.2.1
  have hlen2 := hs.2.1
  have HV := Lib.hid hr
  have HW := Lib.hid hs
  clear hr hs
  by_cases hne : l.length = m.length
  · generalize hP : decide (l = m) = P
    have HP := Lib.hid hP
    clear hP
    have HN := Lib.hid hne
    have hb1 : ((l.length : Int) != (m.length : Int)) = false := by simp [hne]
    have hle : l.length ≤ m.length := by omega
    clear hne
    go_enter Tryd.func35, Tryd.ntmps35
    go_wp2
    clear hb1
    go_loopw [5] (fun i wr => ∃ k : Nat, k ≤ l.length ∧ i = .int .i64 k ∧ Hid (l.take k = m.take k) ∧ Below w.heap.size w wr) (fun i _ => l.length - (intOf i).toNat)
    case atStart => exact ⟨0, by omega, rfl, (by simp : _ = _), Below.refl _ _⟩
    case round =>
      obtain ⟨k, hk1, rfl, HS, hbw⟩ := hrel
      by_cases hlt : k < l.length
      · obtain ⟨b, off, v, rfl, hb, hlk, hmem, hwf, c0, c1, c2, c3⟩ := (HV.out.ext hbw).at_ hlt
        obtain ⟨b', off', v', rfl, hb', hlk', hmem', hwf', c0', c1', c2', c3'⟩ := (HW.out.ext hbw).at_ (Nat.lt_of_lt_of_le hlt hle)
        have HL := Lib.hid hlk
        have HL' := Lib.hid hlk'
        clear hlk hlk' hmem hmem' hwf hwf'
        have i0 : (0 : Int) ≤ k := by omega
        have i1 : (k : Int) < l.length := by omega
        have i2 : (k : Int) < m.length := by omega
        by_cases hvv : v = v'
        · subst hvv
          obtain ⟨vk, vn, vr, vt⟩ := v
          simp only at c0 c1 c2 c3 c0' c1' c2' c3'
          have hq := neq_eq vk vn vr vt
          go_wp2
          go_quiet (fail)
          go_wp2
          go_roundw
          case rel => exact ⟨k + 1, by omega, by go_num, take_same HS.out HL.out HL'.out, by repeat (first | assumption | refine Below.drew ?_ | refine below_drewN ?_ _)⟩
          case measure => simp [intOf]; omega
        · have HNE := Lib.hid hvv
          clear hvv
          obtain ⟨vk, vn, vr, vt⟩ := v
          obtain ⟨xk, xn, xr, xt⟩ := v'
          simp only at c0 c1 c2 c3 c0' c1' c2' c3'
          have hq := neq_ne vk vn vr xk xn xr vt xt HNE.out
          go_wp2
          go_quiet (fail)
          go_wp2
          go_ret
          refine ⟨ret_bool ?_, by repeat (first | assumption | refine Below.drew ?_ | refine below_drewN ?_ _)⟩
          rw [← HP.out]
          refine (decide_eq_false ?_).symm
          rintro rfl
          have e := HL.out
          rw [HL'.out] at e
          exact HNE.out (Option.some.inj e.symm)
      · have hk : k = l.length := by omega
        have HK := Lib.hid hk
        clear hk
        go_wp2
        go_ret
        refine ⟨ret_bool ?_, hbw⟩
        rw [← HP.out]
        refine (decide_eq_true ?_).symm
        have e := HS.out
        rw [HK.out, List.take_length, HN.out, List.take_length] at e
        exact e
  · have hb1 : ((l.length : Int) != (m.length : Int)) = true := by
      rw [bne_iff_ne]; omega
    have e : decide (l = m) = false := decide_eq_false (fun e => hne (by rw [e]))
    rw [e]
    clear e hne
    go_enter Tryd.func35, Tryd.ntmps35
    go_wp2
    go_ret
    exact ⟨rfl, Below.refl _ _⟩
end Go.Proofs.YtkfhfegogmlchaaDoor
