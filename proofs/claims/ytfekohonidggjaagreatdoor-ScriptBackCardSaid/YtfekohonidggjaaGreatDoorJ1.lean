/- Several texts in one: see each part's head. -/
import Derived.WalkKit
import Derived.WalkMore
import Derived.WalkLawsBesides
import Derived.WalkSpells
import Derived.Lib.Hide
import Derived.Laws.BitsAllLaws
import Derived.Laws.Externs
import Derived.Below
import Derived.Test.YtfekohonidggjaaGreatDoorProg
import Derived.Test.YtfekohonidggjaaGreatDoorShelf
/- Several texts in one: see each part's head. -/
/- Contracts of the smallest functions: the canonical bits of a float, by the program and by the reference. No conditions beyond the types' own ranges. -/
namespace Go.Proofs.YtfekohonidggjaaGreatDoor
open Go.RowKit

/-- Are bits no number's? -/
def nanB (b : Int) : Bool := decide (b / 4503599627370496 % 2048 = 2047) && decide (b % 4503599627370496 ≠ 0)
def canonZ (b : Int) : Int := if nanB b then 9221120237041090561 else b


theorem order_self (d : Ieee.Datum) : (d.order d != some .eq) = d.isNaN := by
  cases d with
  | number s m i => simp [Ieee.Datum.order, Ieee.Datum.isNaN]
  | infinity s => simp [Ieee.Datum.order, Ieee.Datum.isNaN]
  | nan s t => simp [Ieee.Datum.order, Ieee.Datum.isNaN]
theorem isNaN_read (x : Nat) (_hx : x ≤ 18446744073709551615) : (Ieee.double.read x).isNaN = nanB (x : Int) := by
  have hs : Ieee.double.signWeight = 9223372036854775808 := by decide
  have hb : Ieee.double.binade = 4503599627370496 := by decide
  have hi : Ieee.double.infRung = 9218868437227405312 := by decide
  unfold Ieee.Format.read
  simp only [hs, hb, hi]
  unfold nanB
  by_cases c1 : x % 9223372036854775808 < 4503599627370496
  · rw [if_pos c1]
    have : ¬ ((x : Int) / 4503599627370496 % 2048 = 2047) := by omega
    simp [Ieee.Datum.isNaN, this]
  · rw [if_neg c1]
    by_cases c2 : x % 9223372036854775808 < 9218868437227405312
    · rw [if_pos c2]
      have : ¬ ((x : Int) / 4503599627370496 % 2048 = 2047) := by omega
      simp [Ieee.Datum.isNaN, this]
    · rw [if_neg c2]
      have h1 : (x : Int) / 4503599627370496 % 2048 = 2047 := by omega
      by_cases c3 : x % 9223372036854775808 = 9218868437227405312
      · rw [if_pos c3]
        have h2 : (x : Int) % 4503599627370496 = 0 := by omega
        simp [Ieee.Datum.isNaN, h1, h2]
      · rw [if_neg c3]
        have h2 : ¬ (x : Int) % 4503599627370496 = 0 := by omega
        simp [Ieee.Datum.isNaN, h1, h2]
theorem frombits_run (b : Int) (w : World) : (callFunc 137 #[.int .u64 b]).run Tryz.prog w = .ok (.value (.float .f64 b.toNat)) w := by
  rw [run_callFunc_extern Tryz.func137 (by kernel_rfl) (by kernel_rfl) (by kernel_rfl) (e := Extern.MathFloatBits.float64frombits) (by kernel_rfl)]
  rfl
theorem nan_neq (b : Int) (h0 : 0 ≤ b) (h1 : b ≤ 18446744073709551615) : (FloatKind.f64.format.order b.toNat b.toNat != some .eq) = nanB b := by
  obtain ⟨n, rfl⟩ := Int.eq_ofNat_of_zero_le h0
  rw [← isNaN_read n (by omega), ← order_self]
  rfl
set_option maxRecDepth 100000 in
theorem canon_any (b : Int) (h0 : 0 ≤ b) (h1 : b ≤ 18446744073709551615) (w : World) :
    Calls Tryz.prog 101 #[.int .u64 b] w fun e w' => e = .returned (.int .u64 (canonZ b)) ∧ w = w' := by
  have hfb := frombits_run b
  have hn := nan_neq b h0 h1
  have HN := Lib.hid hn
  cases hc : nanB b
  · have HC := Lib.hid hc
    rw [hc] at hn
    clear hc
    go_enter Tryz.func101, Tryz.ntmps101
    go_wp2
    go_ret
    exact ⟨by simp [canonZ, HC.out], rfl⟩
  · have HC := Lib.hid hc
    rw [hc] at hn
    clear hc
    go_enter Tryz.func101, Tryz.ntmps101
    go_wp2
    go_ret
    exact ⟨by simp [canonZ, HC.out], rfl⟩
end Go.Proofs.YtfekohonidggjaaGreatDoor

/- Contracts of value.Check and of the reference's May: each tells, for any value, whether it may be (mayB). -/
namespace Go.Proofs.YtfekohonidggjaaGreatDoor
open Go.RowKit

/-- A value, field by field. -/
structure V where
  k : Int
  n : Int
  r : Int
  t : ByteArray
def V.wf (v : V) : Prop := 0 ≤ v.k ∧ v.k ≤ 255 ∧ -9223372036854775808 ≤ v.n ∧ v.n ≤ 9223372036854775807 ∧ 0 ≤ v.r ∧ v.r ≤ 18446744073709551615 ∧ v.t.size ≤ 140737488355328
def V.agg (v : V) : Value := .agg #[.int .u8 v.k, .int .i64 v.n, .int .u64 v.r, .string v.t]

/-- All but the kind's own: is the rest zero, and the text not too long? -/
def mayB (v : V) : Bool :=
  if v.k = 0 then decide (v.n = 0) && decide (v.r = 0) && decide (v.t.size = 0)
  else if v.k = 1 then (decide (v.n = 0) || decide (v.n = 1)) && decide (v.r = 0) && decide (v.t.size = 0)
  else if v.k = 2 then decide (v.r = 0) && decide (v.t.size = 0)
  else if v.k = 3 then decide (v.n = 0) && decide (v.r = canonZ v.r) && decide (v.t.size = 0)
  else if v.k = 4 then decide (v.n = 0) && decide (v.r = 0) && decide (v.t.size ≤ 100)
  else if v.k = 5 then Lib.validD v.t.data.toList && (decide (v.n = 0) && decide (v.r = 0) && decide (v.t.size ≤ 100))
  else false
/-- OK or ErrArg. -/
def okE (b : Bool) : Int := if b then 0 else 2

theorem ret_int {k : IntKind} {a b : Int} (h : a = b) : Ending.returned (.int k a) = .returned (.int k b) := by rw [h]
theorem ret_bool {a b : Bool} (h : a = b) : Ending.returned (.bool a) = .returned (.bool b) := by rw [h]
theorem empty_of_size {t : ByteArray} (h : t.size = 0) : t = ByteArray.empty := by
  obtain ⟨d⟩ := t
  have : d = #[] := Array.eq_empty_of_size_eq_zero h
  rw [this]; rfl
theorem toList_ne {t : ByteArray} (h : ¬ t.size = 0) : ¬ t.toList = [] := by
  intro e
  apply h
  rw [Lib.toList_data] at e
  have : t.data.toList.length = 0 := by rw [e]; rfl
  simpa using this
theorem bt {W a b : World} (h : Below W.heap.size W a) (k : Below a.heap.size a b) : Below W.heap.size W b := h.trans (k.mono h.size)
theorem bcell {W w1 : World} (hb : Below W.heap.size W w1) : (∀ b o, b < W.heap.size → w1.cell? ⟨b, o, none⟩ = W.cell? ⟨b, o, none⟩) ∧ (∀ b o, b < W.heap.size → w1.frozen? ⟨b, o, none⟩ = W.frozen? ⟨b, o, none⟩) :=
  ⟨fun b o h => hb.cell (p := ⟨b, o, none⟩) h, fun b o h => hb.frozen (p := ⟨b, o, none⟩) h⟩
/-- unicode/utf8's two tables lie in memory as its text lays them. -/
def Tabs (w : World) : Prop := Lib.Utf8Tabs 0 1 w
theorem Tabs.ext {w w' : World} (h : Tabs w) (hb : Below w.heap.size w w') : Tabs w' := Utf8Tabs_below h hb
theorem wrap_le1 {n : Int} (h1 : -9223372036854775808 ≤ n) (h2 : n ≤ 9223372036854775807) (h : IntKind.u64.wrap n ≤ 1) : n = 0 ∨ n = 1 := by
  rw [IntKind.wrap_u64] at h; omega
theorem wrap_gt1 {n : Int} (h : 1 < IntKind.u64.wrap n) : ¬ n = 0 ∧ ¬ n = 1 := by
  rw [IntKind.wrap_u64] at h; omega
theorem valid_any (s : ByteArray) (w : World) (hs : s.size ≤ 9223372036854775807) (hT : Tabs w) :
    Calls Tryz.prog 86 #[.string s] w fun e w' => e = .returned (.bool (Lib.validD s.data.toList)) ∧ Below w.heap.size w w' :=
  Tryz.utf8_ValidString s w hs hT

set_option maxRecDepth 100000 in
theorem check_plain (v : V) (hv : v.wf) (hk : v.k ≤ 2) (w : World) :
    Calls Tryz.prog 61 #[v.agg] w fun e w' => e = .returned (.int .i64 (okE (mayB v))) ∧ Below w.heap.size w w' := by
  obtain ⟨k, n, r, t⟩ := v
  obtain ⟨hk0, _, h1, h2, h3, h4, h5⟩ := hv
  simp only at h1 h2 h3 h4 h5 hk hk0
  unfold V.agg
  have hkk : k = 0 ∨ k = 1 ∨ k = 2 := by omega
  by_cases ht : t.size = 0
  · obtain rfl := empty_of_size ht
    clear ht
    rcases hkk with rfl | rfl | rfl
    all_goals
      generalize hM : okE (mayB _) = M
      have HM := Lib.hid hM
      clear hM
      go_enter Tryz.func61, Tryz.ntmps61
      go_wp2
      all_goals
        go_ret
        refine ⟨ret_int ?_, by repeat (first | exact Below.refl _ _ | refine Below.alloc ?_ (by simp) _)⟩
        rw [← HM.out]
        first
          | (have hw := wrap_le1 h1 h2 (by assumption); simp [okE, mayB, *]; done)
          | (have hw := wrap_gt1 (by assumption); simp [okE, mayB, hw.1, hw.2]; done)
          | (simp [okE, mayB, *]; done)
  · have ht' := toList_ne ht
    have htp : 0 < t.size := by omega
    rcases hkk with rfl | rfl | rfl
    all_goals
      generalize hM : okE (mayB _) = M
      have HM := Lib.hid hM
      clear hM
      go_enter Tryz.func61, Tryz.ntmps61
      go_wp2
      all_goals
        go_ret
        refine ⟨ret_int ?_, by repeat (first | exact Below.refl _ _ | refine Below.alloc ?_ (by simp) _)⟩
        rw [← HM.out]
        simp [okE, mayB, ht]

set_option maxRecDepth 100000 in
theorem check_bytes (v : V) (hv : v.wf) (hk : v.k = 4) (w : World) :
    Calls Tryz.prog 61 #[v.agg] w fun e w' => e = .returned (.int .i64 (okE (mayB v))) ∧ Below w.heap.size w w' := by
  obtain ⟨k, n, r, t⟩ := v
  obtain ⟨_, _, h1, h2, h3, h4, h5⟩ := hv
  simp only at h1 h2 h3 h4 h5 hk
  subst hk
  unfold V.agg
  generalize hM : okE (mayB _) = M
  have HM := Lib.hid hM
  clear hM
  go_enter Tryz.func61, Tryz.ntmps61
  go_wp2
  all_goals
    go_ret
    refine ⟨ret_int ?_, by repeat (first | exact Below.refl _ _ | refine Below.alloc ?_ (by simp) _)⟩
    rw [← HM.out]
    first
      | (have hl : ¬ t.size ≤ 100 := by omega
         simp [okE, mayB, hl]; done)
      | (have hl : t.size ≤ 100 := by omega
         simp [okE, mayB, *]; done)
      | (simp [okE, mayB, *]; done)

set_option maxRecDepth 100000 in
theorem check_real (v : V) (hv : v.wf) (hk : v.k = 3) (w : World) :
    Calls Tryz.prog 61 #[v.agg] w fun e w' => e = .returned (.int .i64 (okE (mayB v))) ∧ Below w.heap.size w w' := by
  obtain ⟨k, n, r, t⟩ := v
  obtain ⟨_, _, h1, h2, h3, h4, h5⟩ := hv
  simp only at h1 h2 h3 h4 h5 hk
  subst hk
  unfold V.agg
  generalize hM : okE (mayB _) = M
  have HM := Lib.hid hM
  clear hM
  have HC := Lib.hid (canon_any r h3 h4)
  generalize hc : canonZ r = c at HC
  have Hc := Lib.hid hc
  clear hc
  by_cases ht : t.size = 0
  · obtain rfl := empty_of_size ht
    clear ht
    go_enter Tryz.func61, Tryz.ntmps61
    go_wp2_with (go_at_call 101; refine (HC.out _).mono ?_; rintro e w' ⟨rfl, rfl⟩)
    all_goals
      go_ret
      refine ⟨ret_int ?_, by repeat (first | exact Below.refl _ _ | refine Below.alloc ?_ (by simp) _)⟩
      rw [← HM.out]
      first
        | (have e : canonZ r = r := by rw [Hc.out]; symm; assumption
           have hn : n = 0 := by assumption
           simp only [okE, mayB, e, hn]; rfl)
        | (have e : ¬ r = canonZ r := by rw [Hc.out]; assumption
           simp [okE, mayB, e]; done)
        | (have hn : ¬ n = 0 := by assumption
           simp [okE, mayB, hn]; done)
  · have ht' := toList_ne ht
    have htp : 0 < t.size := by omega
    go_enter Tryz.func61, Tryz.ntmps61
    go_wp2_with (go_at_call 101; refine (HC.out _).mono ?_; rintro e w' ⟨rfl, rfl⟩)
    all_goals
      go_ret
      refine ⟨ret_int ?_, by repeat (first | exact Below.refl _ _ | refine Below.alloc ?_ (by simp) _)⟩
      rw [← HM.out]
      simp [okE, mayB, ht]

set_option maxRecDepth 100000 in
theorem check_other (v : V) (hv : v.wf) (hk : 5 < v.k) (w : World) :
    Calls Tryz.prog 61 #[v.agg] w fun e w' => e = .returned (.int .i64 (okE (mayB v))) ∧ Below w.heap.size w w' := by
  obtain ⟨k, n, r, t⟩ := v
  obtain ⟨_, _, h1, h2, h3, h4, h5⟩ := hv
  simp only at h1 h2 h3 h4 h5 hk
  unfold V.agg
  have hM : okE (mayB ⟨k, n, r, t⟩) = 2 := by
    have e0 : ¬ k = 0 := by omega
    have e1 : ¬ k = 1 := by omega
    have e2 : ¬ k = 2 := by omega
    have e3 : ¬ k = 3 := by omega
    have e4 : ¬ k = 4 := by omega
    have e5 : ¬ k = 5 := by omega
    simp [mayB, okE, e0, e1, e2, e3, e4, e5]
  rw [hM]
  clear hM
  go_enter Tryz.func61, Tryz.ntmps61
  go_wp2
  all_goals
    go_ret
    exact ⟨rfl, by repeat (first | exact Below.refl _ _ | refine Below.alloc ?_ (by simp) _)⟩

set_option maxRecDepth 100000 in
theorem check_text (v : V) (hv : v.wf) (hk : v.k = 5) (w : World) (hT : Tabs w) :
    Calls Tryz.prog 61 #[v.agg] w fun e w' => e = .returned (.int .i64 (okE (mayB v))) ∧ Below w.heap.size w w' := by
  obtain ⟨k, n, r, t⟩ := v
  obtain ⟨_, _, h1, h2, h3, h4, h5⟩ := hv
  simp only at h1 h2 h3 h4 h5 hk
  subst hk
  unfold V.agg
  generalize hM : okE (mayB _) = M
  have HM := Lib.hid hM
  clear hM
  have HV := Lib.hid (fun W hW => valid_any t W (by omega) hW)
  generalize hc : Lib.validD t.data.toList = c at HV
  have Hc := Lib.hid hc
  clear hc
  have HT := Lib.hid hT
  clear hT
  cases c
  all_goals
    go_enter Tryz.func61, Tryz.ntmps61
    go_wp2_with (go_at_call 86; refine (HV.out _ (HT.out.ext (by repeat (first | exact Below.refl _ _ | refine Below.alloc ?_ (by simp) _)))).mono ?_; rintro e w' ⟨rfl, hb⟩; obtain ⟨hcl, hfr⟩ := bcell hb; have HB := Lib.hid hb; clear hb)
    all_goals
      go_ret
      refine ⟨ret_int ?_, ?_⟩
      · rw [← HM.out]
        first
          | (have hc := Hc.out
             have hl : ¬ t.size ≤ 100 := by omega
             simp [okE, mayB, hl]; done)
          | (have hc := Hc.out
             have hl : t.size ≤ 100 := by omega
             simp [okE, mayB, *]; done)
          | (have hc := Hc.out
             simp [okE, mayB, *]; done)
      · have hb := HB.out
        repeat (refine Below.setCell ?_ (by simp) _)
        refine Below.trans ?_ (hb.mono (by simp; omega))
        repeat (first | exact Below.refl _ _ | refine Below.alloc ?_ (by simp) _)

theorem check_any (v : V) (hv : v.wf) (w : World) (hT : Tabs w) :
    Calls Tryz.prog 61 #[v.agg] w fun e w' => e = .returned (.int .i64 (okE (mayB v))) ∧ Below w.heap.size w w' := by
  have h0 := hv.1
  by_cases h2 : v.k ≤ 2
  · exact check_plain v hv h2 w
  · by_cases h3 : v.k = 3
    · exact check_real v hv h3 w
    · by_cases h4 : v.k = 4
      · exact check_bytes v hv h4 w
      · by_cases h5 : v.k = 5
        · exact check_text v hv h5 w hT
        · exact check_other v hv (by omega) w
end Go.Proofs.YtfekohonidggjaaGreatDoor
