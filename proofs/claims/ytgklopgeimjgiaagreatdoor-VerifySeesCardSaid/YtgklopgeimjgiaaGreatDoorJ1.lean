/- Several texts in one: see each part's head. -/
import Derived.WalkKit
import Derived.WalkMore
import Derived.WalkLawsBesides
import Derived.WalkSpells
import Derived.Lib.Hide
import Derived.Laws.BitsAllLaws
import Derived.Laws.Externs
import Derived.Below
import Derived.Test.YtgklopgeimjgiaaGreatDoorProg
import Derived.Test.YtgklopgeimjgiaaGreatDoorShelf
import Derived.Deep.QuietTactic
import Derived.BigQuiet
/- Several texts in one: see each part's head. -/
/- Contracts of the smallest functions: the canonical bits of a float, by the program and by the reference. No conditions beyond the types' own ranges. -/
namespace Go.Proofs.YtgklopgeimjgiaaGreatDoor
open Go.RowKit

/-- Are bits no number's? -/
def nanB (b : Int) : Bool := decide (b / 4503599627370496 % 2048 = 2047) && decide (b % 4503599627370496 ≠ 0)
def canonZ (b : Int) : Int := if nanB b then 9221120237041090561 else b

theorem none_any (b : Int) (h0 : 0 ≤ b) (h1 : b ≤ 18446744073709551615) (w : World) :
    Calls Tryz.prog 106 #[.int .u64 b] w fun e w' => e = .returned (.bool (nanB b)) ∧ w = w' := by
  go_enter Tryz.func106, Tryz.ntmps106
  go_wp2
  all_goals go_ret
  · rename_i h
    refine ⟨?_, rfl⟩
    by_cases hz : b % 4503599627370496 = 0 <;> simp [nanB, h, bne, hz]
  · rename_i h
    exact ⟨by simp [nanB, h], rfl⟩

theorem order_self (d : Ieee.Datum) : (d.order d != some .eq) = d.isNaN := by
  cases d with
  | number s m i => simp [Ieee.Datum.order, Ieee.Datum.isNaN]
  | infinity s => simp [Ieee.Datum.order, Ieee.Datum.isNaN]
  | nan s t => simp [Ieee.Datum.order, Ieee.Datum.isNaN]
theorem isNaN_read (x : Nat) (_hx : x ≤ 18446744073709551615) : (Ieee.double.read x).isNaN = nanB (x : Int) := by
  have hs : Ieee.double.signWeight = 9223372036854775808 := by decide
  have hb : Ieee.double.binade = 4503599627370496 := by decide
  have hi : Ieee.double.infRung = 9218868437227405312 := by decide
  unfold Ieee.Format.read
  simp only [hs, hb, hi]
  unfold nanB
  by_cases c1 : x % 9223372036854775808 < 4503599627370496
  · rw [if_pos c1]
    have : ¬ ((x : Int) / 4503599627370496 % 2048 = 2047) := by omega
    simp [Ieee.Datum.isNaN, this]
  · rw [if_neg c1]
    by_cases c2 : x % 9223372036854775808 < 9218868437227405312
    · rw [if_pos c2]
      have : ¬ ((x : Int) / 4503599627370496 % 2048 = 2047) := by omega
      simp [Ieee.Datum.isNaN, this]
    · rw [if_neg c2]
      have h1 : (x : Int) / 4503599627370496 % 2048 = 2047 := by omega
      by_cases c3 : x % 9223372036854775808 = 9218868437227405312
      · rw [if_pos c3]
        have h2 : (x : Int) % 4503599627370496 = 0 := by omega
        simp [Ieee.Datum.isNaN, h1, h2]
      · rw [if_neg c3]
        have h2 : ¬ (x : Int) % 4503599627370496 = 0 := by omega
        simp [Ieee.Datum.isNaN, h1, h2]
theorem frombits_run (b : Int) (w : World) : (callFunc 119 #[.int .u64 b]).run Tryz.prog w = .ok (.value (.float .f64 b.toNat)) w := by
  rw [run_callFunc_extern Tryz.func119 (by kernel_rfl) (by kernel_rfl) (by kernel_rfl) (e := Extern.MathFloatBits.float64frombits) (by kernel_rfl)]
  rfl
theorem nan_neq (b : Int) (h0 : 0 ≤ b) (h1 : b ≤ 18446744073709551615) : (FloatKind.f64.format.order b.toNat b.toNat != some .eq) = nanB b := by
  obtain ⟨n, rfl⟩ := Int.eq_ofNat_of_zero_le h0
  rw [← isNaN_read n (by omega), ← order_self]
  rfl
set_option maxRecDepth 100000 in
theorem canon_any (b : Int) (h0 : 0 ≤ b) (h1 : b ≤ 18446744073709551615) (w : World) :
    Calls Tryz.prog 90 #[.int .u64 b] w fun e w' => e = .returned (.int .u64 (canonZ b)) ∧ w = w' := by
  have hfb := frombits_run b
  have hn := nan_neq b h0 h1
  have HN := Lib.hid hn
  cases hc : nanB b
  · have HC := Lib.hid hc
    rw [hc] at hn
    clear hc
    go_enter Tryz.func90, Tryz.ntmps90
    go_wp2
    go_ret
    exact ⟨by simp [canonZ, HC.out], rfl⟩
  · have HC := Lib.hid hc
    rw [hc] at hn
    clear hc
    go_enter Tryz.func90, Tryz.ntmps90
    go_wp2
    go_ret
    exact ⟨by simp [canonZ, HC.out], rfl⟩
theorem canonR_any (b : Int) (h0 : 0 ≤ b) (h1 : b ≤ 18446744073709551615) (w : World) :
    Calls Tryz.prog 83 #[.int .u64 b] w fun e w' => e = .returned (.int .u64 (canonZ b)) ∧ w = w' := by
  cases hc : nanB b
  all_goals
    have hn := none_any b h0 h1
    rw [hc] at hn
    have HN := Lib.hid hn
    clear hn
    have HC := Lib.hid hc
    clear hc
    go_enter Tryz.func83, Tryz.ntmps83
    go_wp2_with (go_at_call 106; refine (HN.out _).mono ?_; rintro e w' ⟨rfl, rfl⟩)
    go_ret
    exact ⟨by simp [canonZ, HC.out], rfl⟩
end Go.Proofs.YtgklopgeimjgiaaGreatDoor

/- Contracts of value.Check and of the reference's May: each tells, for any value, whether it may be (mayB). -/
namespace Go.Proofs.YtgklopgeimjgiaaGreatDoor
open Go.RowKit

/-- A value, field by field. -/
structure V where
  k : Int
  n : Int
  r : Int
  t : ByteArray
def V.wf (v : V) : Prop := 0 ≤ v.k ∧ v.k ≤ 255 ∧ -9223372036854775808 ≤ v.n ∧ v.n ≤ 9223372036854775807 ∧ 0 ≤ v.r ∧ v.r ≤ 18446744073709551615 ∧ v.t.size ≤ 140737488355328
def V.agg (v : V) : Value := .agg #[.int .u8 v.k, .int .i64 v.n, .int .u64 v.r, .string v.t]

/-- All but the kind's own: is the rest zero, and the text not too long? -/
def mayB (v : V) : Bool :=
  if v.k = 0 then decide (v.n = 0) && decide (v.r = 0) && decide (v.t.size = 0)
  else if v.k = 1 then (decide (v.n = 0) || decide (v.n = 1)) && decide (v.r = 0) && decide (v.t.size = 0)
  else if v.k = 2 then decide (v.r = 0) && decide (v.t.size = 0)
  else if v.k = 3 then decide (v.n = 0) && decide (v.r = canonZ v.r) && decide (v.t.size = 0)
  else if v.k = 4 then decide (v.n = 0) && decide (v.r = 0) && decide (v.t.size ≤ 100)
  else if v.k = 5 then Lib.validD v.t.data.toList && (decide (v.n = 0) && decide (v.r = 0) && decide (v.t.size ≤ 100))
  else false
/-- OK or ErrArg. -/
def okE (b : Bool) : Int := if b then 0 else 2

theorem ret_int {k : IntKind} {a b : Int} (h : a = b) : Ending.returned (.int k a) = .returned (.int k b) := by rw [h]
theorem ret_bool {a b : Bool} (h : a = b) : Ending.returned (.bool a) = .returned (.bool b) := by rw [h]
theorem empty_of_size {t : ByteArray} (h : t.size = 0) : t = ByteArray.empty := by
  obtain ⟨d⟩ := t
  have : d = #[] := Array.eq_empty_of_size_eq_zero h
  rw [this]; rfl
theorem toList_ne {t : ByteArray} (h : ¬ t.size = 0) : ¬ t.toList = [] := by
  intro e
  apply h
  rw [Lib.toList_data] at e
  have : t.data.toList.length = 0 := by rw [e]; rfl
  simpa using this
theorem bt {W a b : World} (h : Below W.heap.size W a) (k : Below a.heap.size a b) : Below W.heap.size W b := h.trans (k.mono h.size)
theorem bcell {W w1 : World} (hb : Below W.heap.size W w1) : (∀ b o, b < W.heap.size → w1.cell? ⟨b, o, none⟩ = W.cell? ⟨b, o, none⟩) ∧ (∀ b o, b < W.heap.size → w1.frozen? ⟨b, o, none⟩ = W.frozen? ⟨b, o, none⟩) :=
  ⟨fun b o h => hb.cell (p := ⟨b, o, none⟩) h, fun b o h => hb.frozen (p := ⟨b, o, none⟩) h⟩
/-- unicode/utf8's two tables lie in memory as its text lays them. -/
def Tabs (w : World) : Prop := Lib.Utf8Tabs 0 1 w
theorem Tabs.ext {w w' : World} (h : Tabs w) (hb : Below w.heap.size w w') : Tabs w' := Utf8Tabs_below h hb
theorem wrap_le1 {n : Int} (h1 : -9223372036854775808 ≤ n) (h2 : n ≤ 9223372036854775807) (h : IntKind.u64.wrap n ≤ 1) : n = 0 ∨ n = 1 := by
  rw [IntKind.wrap_u64] at h; omega
theorem wrap_gt1 {n : Int} (h : 1 < IntKind.u64.wrap n) : ¬ n = 0 ∧ ¬ n = 1 := by
  rw [IntKind.wrap_u64] at h; omega
theorem valid_any (s : ByteArray) (w : World) (hs : s.size ≤ 9223372036854775807) (hT : Tabs w) :
    Calls Tryz.prog 84 #[.string s] w fun e w' => e = .returned (.bool (Lib.validD s.data.toList)) ∧ Below w.heap.size w w' :=
  Tryz.utf8_ValidString s w hs hT

set_option maxRecDepth 100000 in
theorem check_plain (v : V) (hv : v.wf) (hk : v.k ≤ 2) (w : World) :
    Calls Tryz.prog 77 #[v.agg] w fun e w' => e = .returned (.int .i64 (okE (mayB v))) ∧ Below w.heap.size w w' := by
  obtain ⟨k, n, r, t⟩ := v
  obtain ⟨hk0, _, h1, h2, h3, h4, h5⟩ := hv
  simp only at h1 h2 h3 h4 h5 hk hk0
  unfold V.agg
  have hkk : k = 0 ∨ k = 1 ∨ k = 2 := by omega
  by_cases ht : t.size = 0
  · obtain rfl := empty_of_size ht
    clear ht
    rcases hkk with rfl | rfl | rfl
    all_goals
      generalize hM : okE (mayB _) = M
      have HM := Lib.hid hM
      clear hM
      go_enter Tryz.func77, Tryz.ntmps77
      go_wp2
      all_goals
        go_ret
        refine ⟨ret_int ?_, by repeat (first | exact Below.refl _ _ | refine Below.alloc ?_ (by simp) _)⟩
        rw [← HM.out]
        first
          | (have hw := wrap_le1 h1 h2 (by assumption); simp [okE, mayB, *]; done)
          | (have hw := wrap_gt1 (by assumption); simp [okE, mayB, hw.1, hw.2]; done)
          | (simp [okE, mayB, *]; done)
  · have ht' := toList_ne ht
    have htp : 0 < t.size := by omega
    rcases hkk with rfl | rfl | rfl
    all_goals
      generalize hM : okE (mayB _) = M
      have HM := Lib.hid hM
      clear hM
      go_enter Tryz.func77, Tryz.ntmps77
      go_wp2
      all_goals
        go_ret
        refine ⟨ret_int ?_, by repeat (first | exact Below.refl _ _ | refine Below.alloc ?_ (by simp) _)⟩
        rw [← HM.out]
        simp [okE, mayB, ht]

set_option maxRecDepth 100000 in
theorem check_bytes (v : V) (hv : v.wf) (hk : v.k = 4) (w : World) :
    Calls Tryz.prog 77 #[v.agg] w fun e w' => e = .returned (.int .i64 (okE (mayB v))) ∧ Below w.heap.size w w' := by
  obtain ⟨k, n, r, t⟩ := v
  obtain ⟨_, _, h1, h2, h3, h4, h5⟩ := hv
  simp only at h1 h2 h3 h4 h5 hk
  subst hk
  unfold V.agg
  generalize hM : okE (mayB _) = M
  have HM := Lib.hid hM
  clear hM
  go_enter Tryz.func77, Tryz.ntmps77
  go_wp2
  all_goals
    go_ret
    refine ⟨ret_int ?_, by repeat (first | exact Below.refl _ _ | refine Below.alloc ?_ (by simp) _)⟩
    rw [← HM.out]
    first
      | (have hl : ¬ t.size ≤ 100 := by omega
         simp [okE, mayB, hl]; done)
      | (have hl : t.size ≤ 100 := by omega
         simp [okE, mayB, *]; done)
      | (simp [okE, mayB, *]; done)

set_option maxRecDepth 100000 in
theorem check_real (v : V) (hv : v.wf) (hk : v.k = 3) (w : World) :
    Calls Tryz.prog 77 #[v.agg] w fun e w' => e = .returned (.int .i64 (okE (mayB v))) ∧ Below w.heap.size w w' := by
  obtain ⟨k, n, r, t⟩ := v
  obtain ⟨_, _, h1, h2, h3, h4, h5⟩ := hv
  simp only at h1 h2 h3 h4 h5 hk
  subst hk
  unfold V.agg
  generalize hM : okE (mayB _) = M
  have HM := Lib.hid hM
  clear hM
  have HC := Lib.hid (canon_any r h3 h4)
  generalize hc : canonZ r = c at HC
  have Hc := Lib.hid hc
  clear hc
  by_cases ht : t.size = 0
  · obtain rfl := empty_of_size ht
    clear ht
    go_enter Tryz.func77, Tryz.ntmps77
    go_wp2_with (go_at_call 90; refine (HC.out _).mono ?_; rintro e w' ⟨rfl, rfl⟩)
    all_goals
      go_ret
      refine ⟨ret_int ?_, by repeat (first | exact Below.refl _ _ | refine Below.alloc ?_ (by simp) _)⟩
      rw [← HM.out]
      first
        | (have e : canonZ r = r := by rw [Hc.out]; symm; assumption
           have hn : n = 0 := by assumption
           simp only [okE, mayB, e, hn]; rfl)
        | (have e : ¬ r = canonZ r := by rw [Hc.out]; assumption
           simp [okE, mayB, e]; done)
        | (have hn : ¬ n = 0 := by assumption
           simp [okE, mayB, hn]; done)
  · have ht' := toList_ne ht
    have htp : 0 < t.size := by omega
    go_enter Tryz.func77, Tryz.ntmps77
    go_wp2_with (go_at_call 90; refine (HC.out _).mono ?_; rintro e w' ⟨rfl, rfl⟩)
    all_goals
      go_ret
      refine ⟨ret_int ?_, by repeat (first | exact Below.refl _ _ | refine Below.alloc ?_ (by simp) _)⟩
      rw [← HM.out]
      simp [okE, mayB, ht]

set_option maxRecDepth 100000 in
theorem check_other (v : V) (hv : v.wf) (hk : 5 < v.k) (w : World) :
    Calls Tryz.prog 77 #[v.agg] w fun e w' => e = .returned (.int .i64 (okE (mayB v))) ∧ Below w.heap.size w w' := by
  obtain ⟨k, n, r, t⟩ := v
  obtain ⟨_, _, h1, h2, h3, h4, h5⟩ := hv
  simp only at h1 h2 h3 h4 h5 hk
  unfold V.agg
  have hM : okE (mayB ⟨k, n, r, t⟩) = 2 := by
    have e0 : ¬ k = 0 := by omega
    have e1 : ¬ k = 1 := by omega
    have e2 : ¬ k = 2 := by omega
    have e3 : ¬ k = 3 := by omega
    have e4 : ¬ k = 4 := by omega
    have e5 : ¬ k = 5 := by omega
    simp [mayB, okE, e0, e1, e2, e3, e4, e5]
  rw [hM]
  clear hM
  go_enter Tryz.func77, Tryz.ntmps77
  go_wp2
  all_goals
    go_ret
    exact ⟨rfl, by repeat (first | exact Below.refl _ _ | refine Below.alloc ?_ (by simp) _)⟩

set_option maxRecDepth 100000 in
theorem check_text (v : V) (hv : v.wf) (hk : v.k = 5) (w : World) (hT : Tabs w) :
    Calls Tryz.prog 77 #[v.agg] w fun e w' => e = .returned (.int .i64 (okE (mayB v))) ∧ Below w.heap.size w w' := by
  obtain ⟨k, n, r, t⟩ := v
  obtain ⟨_, _, h1, h2, h3, h4, h5⟩ := hv
  simp only at h1 h2 h3 h4 h5 hk
  subst hk
  unfold V.agg
  generalize hM : okE (mayB _) = M
  have HM := Lib.hid hM
  clear hM
  have HV := Lib.hid (fun W hW => valid_any t W (by omega) hW)
  generalize hc : Lib.validD t.data.toList = c at HV
  have Hc := Lib.hid hc
  clear hc
  have HT := Lib.hid hT
  clear hT
  cases c
  all_goals
    go_enter Tryz.func77, Tryz.ntmps77
    go_wp2_with (go_at_call 84; refine (HV.out _ (HT.out.ext (by repeat (first | exact Below.refl _ _ | refine Below.alloc ?_ (by simp) _)))).mono ?_; rintro e w' ⟨rfl, hb⟩; obtain ⟨hcl, hfr⟩ := bcell hb; have HB := Lib.hid hb; clear hb)
    all_goals
      go_ret
      refine ⟨ret_int ?_, ?_⟩
      · rw [← HM.out]
        first
          | (have hc := Hc.out
             have hl : ¬ t.size ≤ 100 := by omega
             simp [okE, mayB, hl]; done)
          | (have hc := Hc.out
             have hl : t.size ≤ 100 := by omega
             simp [okE, mayB, *]; done)
          | (have hc := Hc.out
             simp [okE, mayB, *]; done)
      · have hb := HB.out
        repeat (refine Below.setCell ?_ (by simp) _)
        refine Below.trans ?_ (hb.mono (by simp; omega))
        repeat (first | exact Below.refl _ _ | refine Below.alloc ?_ (by simp) _)

theorem check_any (v : V) (hv : v.wf) (w : World) (hT : Tabs w) :
    Calls Tryz.prog 77 #[v.agg] w fun e w' => e = .returned (.int .i64 (okE (mayB v))) ∧ Below w.heap.size w w' := by
  have h0 := hv.1
  by_cases h2 : v.k ≤ 2
  · exact check_plain v hv h2 w
  · by_cases h3 : v.k = 3
    · exact check_real v hv h3 w
    · by_cases h4 : v.k = 4
      · exact check_bytes v hv h4 w
      · by_cases h5 : v.k = 5
        · exact check_text v hv h5 w hT
        · exact check_other v hv (by omega) w
end Go.Proofs.YtgklopgeimjgiaaGreatDoor

/- Several texts in one: see each part's head. -/
/- The contract of the reference's May: it tells, for any value, whether it may be (mayB). -/
namespace Go.Proofs.YtgklopgeimjgiaaGreatDoor
open Go.RowKit

set_option maxRecDepth 100000 in
theorem may_plain (v : V) (hv : v.wf) (hk : v.k ≤ 2) (w : World) :
    Calls Tryz.prog 60 #[v.agg] w fun e w' => e = .returned (.bool (mayB v)) ∧ Below w.heap.size w w' := by
  obtain ⟨k, n, r, t⟩ := v
  obtain ⟨hk0, _, h1, h2, h3, h4, h5⟩ := hv
  simp only at h1 h2 h3 h4 h5 hk hk0
  unfold V.agg
  have hkk : k = 0 ∨ k = 1 ∨ k = 2 := by omega
  by_cases ht : t.size = 0
  · obtain rfl := empty_of_size ht
    clear ht
    rcases hkk with rfl | rfl | rfl
    all_goals
      generalize hM : mayB _ = M
      have HM := Lib.hid hM
      clear hM
      go_enter Tryz.func60, Tryz.ntmps60
      go_wp2
      all_goals
        go_ret
        refine ⟨ret_bool ?_, by repeat (first | exact Below.refl _ _ | refine Below.alloc ?_ (by simp) _)⟩
        rw [← HM.out]
        first
          | (have hh : (n != 0) = true ∧ (n != 1) = true := by assumption
             simp only [bne_iff_ne, ne_eq] at hh
             simp [mayB, hh.1, hh.2]; done)
          | (have hh : (n != 0) = false ∨ (n != 1) = false := by assumption
             simp only [bne_eq_false_iff_eq] at hh
             have hr : r = 0 := by assumption
             rcases hh with rfl | rfl <;> simp [mayB, hr]; done)
          | (simp [mayB, *]; done)
  · have ht' := toList_ne ht
    have htp : 0 < t.size := by omega
    rcases hkk with rfl | rfl | rfl
    all_goals
      generalize hM : mayB _ = M
      have HM := Lib.hid hM
      clear hM
      go_enter Tryz.func60, Tryz.ntmps60
      go_wp2
      all_goals
        go_ret
        refine ⟨ret_bool ?_, by repeat (first | exact Below.refl _ _ | refine Below.alloc ?_ (by simp) _)⟩
        rw [← HM.out]
        simp [mayB, ht]

set_option maxRecDepth 100000 in
theorem may_bytes (v : V) (hv : v.wf) (hk : v.k = 4) (w : World) :
    Calls Tryz.prog 60 #[v.agg] w fun e w' => e = .returned (.bool (mayB v)) ∧ Below w.heap.size w w' := by
  obtain ⟨k, n, r, t⟩ := v
  obtain ⟨_, _, h1, h2, h3, h4, h5⟩ := hv
  simp only at h1 h2 h3 h4 h5 hk
  subst hk
  unfold V.agg
  generalize hM : mayB _ = M
  have HM := Lib.hid hM
  clear hM
  go_enter Tryz.func60, Tryz.ntmps60
  go_wp2
  all_goals
    go_ret
    refine ⟨ret_bool ?_, by repeat (first | exact Below.refl _ _ | refine Below.alloc ?_ (by simp) _)⟩
    rw [← HM.out]
    first
      | (simp [mayB, *]; done)
      | (simp [mayB, *]; omega)

set_option maxRecDepth 100000 in
theorem may_real (v : V) (hv : v.wf) (hk : v.k = 3) (w : World) :
    Calls Tryz.prog 60 #[v.agg] w fun e w' => e = .returned (.bool (mayB v)) ∧ Below w.heap.size w w' := by
  obtain ⟨k, n, r, t⟩ := v
  obtain ⟨_, _, h1, h2, h3, h4, h5⟩ := hv
  simp only at h1 h2 h3 h4 h5 hk
  subst hk
  unfold V.agg
  generalize hM : mayB _ = M
  have HM := Lib.hid hM
  clear hM
  have HC := Lib.hid (canonR_any r h3 h4)
  generalize hc : canonZ r = c at HC
  have Hc := Lib.hid hc
  clear hc
  by_cases ht : t.size = 0
  · obtain rfl := empty_of_size ht
    clear ht
    go_enter Tryz.func60, Tryz.ntmps60
    go_wp2_with (go_at_call 83; refine (HC.out _).mono ?_; rintro e w' ⟨rfl, rfl⟩)
    all_goals
      go_ret
      refine ⟨ret_bool ?_, by repeat (first | exact Below.refl _ _ | refine Below.alloc ?_ (by simp) _)⟩
      rw [← HM.out]
      first
        | (have e : canonZ r = r := by rw [Hc.out]; symm; assumption
           have hn : n = 0 := by assumption
           simp only [mayB, e, hn]; rfl)
        | (have e : ¬ r = canonZ r := by rw [Hc.out]; assumption
           simp [mayB, e]; done)
        | (have hn : ¬ n = 0 := by assumption
           simp [mayB, hn]; done)
  · have ht' := toList_ne ht
    have htp : 0 < t.size := by omega
    go_enter Tryz.func60, Tryz.ntmps60
    go_wp2_with (go_at_call 83; refine (HC.out _).mono ?_; rintro e w' ⟨rfl, rfl⟩)
    all_goals
      go_ret
      refine ⟨ret_bool ?_, by repeat (first | exact Below.refl _ _ | refine Below.alloc ?_ (by simp) _)⟩
      rw [← HM.out]
      simp [mayB, ht]

set_option maxRecDepth 100000 in
theorem may_other (v : V) (hv : v.wf) (hk : 5 < v.k) (w : World) :
    Calls Tryz.prog 60 #[v.agg] w fun e w' => e = .returned (.bool (mayB v)) ∧ Below w.heap.size w w' := by
  obtain ⟨k, n, r, t⟩ := v
  obtain ⟨_, _, h1, h2, h3, h4, h5⟩ := hv
  simp only at h1 h2 h3 h4 h5 hk
  unfold V.agg
  have hM : mayB ⟨k, n, r, t⟩ = false := by
    have e0 : ¬ k = 0 := by omega
    have e1 : ¬ k = 1 := by omega
    have e2 : ¬ k = 2 := by omega
    have e3 : ¬ k = 3 := by omega
    have e4 : ¬ k = 4 := by omega
    have e5 : ¬ k = 5 := by omega
    simp [mayB, e0, e1, e2, e3, e4, e5]
  rw [hM]
  clear hM
  go_enter Tryz.func60, Tryz.ntmps60
  go_wp2
  all_goals
    go_ret
    exact ⟨rfl, by repeat (first | exact Below.refl _ _ | refine Below.alloc ?_ (by simp) _)⟩

set_option maxRecDepth 100000 in
theorem may_text (v : V) (hv : v.wf) (hk : v.k = 5) (w : World) (hT : Tabs w) :
    Calls Tryz.prog 60 #[v.agg] w fun e w' => e = .returned (.bool (mayB v)) ∧ Below w.heap.size w w' := by
  obtain ⟨k, n, r, t⟩ := v
  obtain ⟨_, _, h1, h2, h3, h4, h5⟩ := hv
  simp only at h1 h2 h3 h4 h5 hk
  subst hk
  unfold V.agg
  generalize hM : mayB _ = M
  have HM := Lib.hid hM
  clear hM
  have HV := Lib.hid (fun W hW => valid_any t W (by omega) hW)
  generalize hc : Lib.validD t.data.toList = c at HV
  have Hc := Lib.hid hc
  clear hc
  have HT := Lib.hid hT
  clear hT
  cases c
  all_goals
    go_enter Tryz.func60, Tryz.ntmps60
    go_wp2_with (go_at_call 84; refine (HV.out _ (HT.out.ext (by repeat (first | exact Below.refl _ _ | refine Below.alloc ?_ (by simp) _)))).mono ?_; rintro e w' ⟨rfl, hb⟩; obtain ⟨hcl, hfr⟩ := bcell hb; have HB := Lib.hid hb; clear hb)
    all_goals
      go_ret
      refine ⟨ret_bool ?_, ?_⟩
      · rw [← HM.out]
        have hc := Hc.out
        clear hcl hfr HB
        first
          | (simp [mayB, *]; done)
          | (simp [mayB, *]; omega)
      · have hb := HB.out
        repeat (refine Below.setCell ?_ (by simp) _)
        refine Below.trans ?_ (hb.mono (by simp; omega))
        repeat (first | exact Below.refl _ _ | refine Below.alloc ?_ (by simp) _)

theorem may_any (v : V) (hv : v.wf) (w : World) (hT : Tabs w) :
    Calls Tryz.prog 60 #[v.agg] w fun e w' => e = .returned (.bool (mayB v)) ∧ Below w.heap.size w w' := by
  have h0 := hv.1
  by_cases h2 : v.k ≤ 2
  · exact may_plain v hv h2 w
  · by_cases h3 : v.k = 3
    · exact may_real v hv h3 w
    · by_cases h4 : v.k = 4
      · exact may_bytes v hv h4 w
      · by_cases h5 : v.k = 5
        · exact may_text v hv h5 w hT
        · exact may_other v hv (by omega) w
end Go.Proofs.YtgklopgeimjgiaaGreatDoor

/- Contracts of functions that read a row of values: the reference's Row, the statements' Long. -/
namespace Go.Proofs.YtgklopgeimjgiaaGreatDoor
open Go.RowKit

/-- A slice of values reads as l: each element's four cells. -/
def VRow (w : World) (A : Option Addr) (l : List V) : Prop :=
  (∀ v ∈ l, v.wf) ∧ l.length ≤ 35184372088832 ∧ (l ≠ [] → ∃ b off, A = some ⟨b, off, none⟩ ∧ b < w.heap.size ∧ ∀ i v, l[i]? = some v →
    w.cell? ⟨b, off + i * 4, none⟩ = some (.int .u8 v.k) ∧ w.cell? ⟨b, off + i * 4 + 1, none⟩ = some (.int .i64 v.n) ∧ w.cell? ⟨b, off + i * 4 + 2, none⟩ = some (.int .u64 v.r) ∧ w.cell? ⟨b, off + i * 4 + 3, none⟩ = some (.string v.t))
theorem VRow.ext {w w' : World} {A : Option Addr} {l : List V} (h : VRow w A l) (hb : Below w.heap.size w w') : VRow w' A l := by
  refine ⟨h.1, h.2.1, fun hl => ?_⟩
  obtain ⟨b, off, rfl, hlt, hc⟩ := h.2.2 hl
  refine ⟨b, off, rfl, Nat.lt_of_lt_of_le hlt hb.size, fun i v hi => ?_⟩
  obtain ⟨c0, c1, c2, c3⟩ := hc i v hi
  exact ⟨(hb.cell (p := ⟨b, _, none⟩) hlt).trans c0, (hb.cell (p := ⟨b, _, none⟩) hlt).trans c1, (hb.cell (p := ⟨b, _, none⟩) hlt).trans c2, (hb.cell (p := ⟨b, _, none⟩) hlt).trans c3⟩
theorem VRow.at_ {w : World} {A : Option Addr} {l : List V} (h : VRow w A l) {k : Nat} (hk : k < l.length) :
    ∃ (b off : Nat) (v : V), A = some ⟨b, off, none⟩ ∧ b < w.heap.size ∧ l[k]? = some v ∧ v ∈ l ∧ v.wf ∧
      w.cell? ⟨b, off + k * 4, none⟩ = some (.int .u8 v.k) ∧ w.cell? ⟨b, off + k * 4 + 1, none⟩ = some (.int .i64 v.n) ∧ w.cell? ⟨b, off + k * 4 + 2, none⟩ = some (.int .u64 v.r) ∧ w.cell? ⟨b, off + k * 4 + 3, none⟩ = some (.string v.t) := by
  obtain ⟨b, off, rfl, hlt, hc⟩ := h.2.2 (by intro e; simp [e] at hk)
  have hv := List.getElem?_eq_getElem hk
  obtain ⟨c0, c1, c2, c3⟩ := hc k _ hv
  exact ⟨b, off, l[k], rfl, hlt, hv, List.getElem_mem hk, h.1 _ (List.getElem_mem hk), c0, c1, c2, c3⟩

theorem sum_step {l : List V} {k : Nat} {s a : Int} {v : V} (h : s = a + ((l.take k).map fun v => (v.t.size : Int) / 8).sum) (hk : l[k]? = some v) :
    Hid (s + (v.t.size : Int) / 8 = a + ((l.take (k + 1)).map fun v => (v.t.size : Int) / 8).sum) := by
  show _ = _
  obtain ⟨hlt, hv⟩ := List.getElem?_eq_some_iff.1 hk
  rw [List.take_succ_eq_append_getElem hlt, List.map_append, List.sum_append, hv, h]
  simp
  omega
/-- Long: the count of values, and of eighths of letters of the first hundred. -/
def longN (l : List V) : Int := (l.length : Int) + ((l.take 100).map fun v => (v.t.size : Int) / 8).sum
theorem long_end {l : List V} {k : Nat} {s : Int} (h : s = (l.length : Int) + ((l.take k).map fun v => (v.t.size : Int) / 8).sum) (hk : k = 100 ∨ (k = l.length ∧ k ≤ 100)) : decide (4000 < s) = decide (4000 < longN l) := by
  have : s = longN l := by
    rw [h]
    unfold longN
    rcases hk with rfl | ⟨rfl, h100⟩
    · rfl
    · rw [List.take_of_length_le (Nat.le_refl _), List.take_of_length_le h100]
  rw [this]
set_option maxRecDepth 100000 in
theorem long_any (l : List V) (A : Option Addr) (c : Nat) (w : World) (hr : VRow w A l) :
    Calls Tryz.prog 14 #[.slice A l.length c] w fun e w' => e = .returned (.bool (decide (4000 < longN l))) ∧ w = w' := by
  have hlen := hr.2.1
  generalize hM : decide (4000 < longN l) = M
  have HM := Lib.hid hM
  clear hM
  go_enter Tryz.func14, Tryz.ntmps14
  go_wp2
  go_loop [3, 4] (fun n i => ∃ (k : Nat) (s : Int), k ≤ l.length ∧ k ≤ 100 ∧ i = .int .i64 k ∧ n = .int .i64 s ∧ 0 ≤ s ∧ s ≤ 35184372088832 + k * 17592186044416 ∧ Hid (s = (l.length : Int) + ((l.take k).map fun v => (v.t.size : Int) / 8).sum)) (fun _ i => l.length - (intOf i).toNat)
  case atStart => exact ⟨0, l.length, by omega, by omega, rfl, rfl, by omega, by omega, (by simp : _ = _)⟩
  case round =>
    obtain ⟨k, s, hk1, hk2, rfl, rfl, hs0, hs1, HS⟩ := hrel
    by_cases hlt : k < l.length
    · obtain ⟨b, off, v, rfl, hb, hlk, hmem, hwf, c0, c1, c2, c3⟩ := hr.at_ hlt
      obtain ⟨vk, vn, vr, vt⟩ := v
      have hts : vt.size ≤ 140737488355328 := hwf.2.2.2.2.2.2
      have HL := Lib.hid hlk
      clear hlk hwf hmem
      by_cases h100 : k < 100
      · go_wp2
        go_round
        case rel => exact ⟨k + 1, s + (vt.size : Int) / 8, by omega, by omega, by go_num, rfl, by omega, by omega, sum_step HS.out HL.out⟩
        case measure => simp [intOf]; omega
      · go_wp2
        go_ret
        exact ⟨ret_bool (by rw [← HM.out]; exact long_end HS.out (Or.inl (by omega))), rfl⟩
    · go_wp2
      go_ret
      exact ⟨ret_bool (by rw [← HM.out]; exact long_end HS.out (Or.inr ⟨by omega, by omega⟩)), rfl⟩

/-- Rows that may be. -/
def rowB (l : List V) : Bool := decide (1 ≤ l.length) && decide (l.length ≤ 8) && l.all mayB
end Go.Proofs.YtgklopgeimjgiaaGreatDoor
