/- Contracts of the smallest functions: the canonical bits of a float, by the program and by the reference. No conditions beyond the types' own ranges. -/
import Derived.Test.YtjdfodmialhakaaDoorProg
import Derived.WalkKit
import Derived.WalkMore
import Derived.WalkLawsBesides
import Derived.WalkSpells
import Derived.Lib.Hide
import Derived.Laws.BitsAllLaws
import Derived.Laws.Externs
namespace Go.Proofs.YtjdfodmialhakaaDoor
open Go.RowKit

/-- Are bits no number's? -/
def nanB (b : Int) : Bool := decide (b / 4503599627370496 % 2048 = 2047) && decide (b % 4503599627370496 ≠ 0)
def canonZ (b : Int) : Int := if nanB b then 9221120237041090561 else b

theorem none_any (b : Int) (h0 : 0 ≤ b) (h1 : b ≤ 18446744073709551615) (w : World) :
    Calls Tryd.prog 158 #[.int .u64 b] w fun e w' => e = .returned (.bool (nanB b)) ∧ w = w' := by
  go_enter Tryd.func158, Tryd.ntmps158
  go_wp2
  all_goals go_ret
  · rename_i h
    refine ⟨?_, rfl⟩
    by_cases hz : b % 4503599627370496 = 0 <;> simp [nanB, h, bne, hz]
  · rename_i h
    exact ⟨by simp [nanB, h], rfl⟩

theorem order_self (d : Ieee.Datum) : (d.order d != some .eq) = d.isNaN := by
  cases d with
  | number s m i => simp [Ieee.Datum.order, Ieee.Datum.isNaN]
  | infinity s => simp [Ieee.Datum.order, Ieee.Datum.isNaN]
  | nan s t => simp [Ieee.Datum.order, Ieee.Datum.isNaN]
theorem isNaN_read (x : Nat) (_hx : x ≤ 18446744073709551615) : (Ieee.double.read x).isNaN = nanB (x : Int) := by
  have hs : Ieee.double.signWeight = 9223372036854775808 := by decide
  have hb : Ieee.double.binade = 4503599627370496 := by decide
  have hi : Ieee.double.infRung = 9218868437227405312 := by decide
  unfold Ieee.Format.read
  simp only [hs, hb, hi]
  unfold nanB
  by_cases c1 : x % 9223372036854775808 < 4503599627370496
  · rw [if_pos c1]
    have : ¬ ((x : Int) / 4503599627370496 % 2048 = 2047) := by omega
    simp [Ieee.Datum.isNaN, this]
  · rw [if_neg c1]
    by_cases c2 : x % 9223372036854775808 < 9218868437227405312
    · rw [if_pos c2]
      have : ¬ ((x : Int) / 4503599627370496 % 2048 = 2047) := by omega
      simp [Ieee.Datum.isNaN, this]
    · rw [if_neg c2]
      have h1 : (x : Int) / 4503599627370496 % 2048 = 2047 := by omega
      by_cases c3 : x % 9223372036854775808 = 9218868437227405312
      · rw [if_pos c3]
        have h2 : (x : Int) % 4503599627370496 = 0 := by omega
        simp [Ieee.Datum.isNaN, h1, h2]
      · rw [if_neg c3]
        have h2 : ¬ (x : Int) % 4503599627370496 = 0 := by omega
        simp [Ieee.Datum.isNaN, h1, h2]
theorem frombits_run (b : Int) (w : World) : (callFunc 173 #[.int .u64 b]).run Tryd.prog w = .ok (.value (.float .f64 b.toNat)) w := by
  rw [run_callFunc_extern Tryd.func173 (by kernel_rfl) (by kernel_rfl) (by kernel_rfl) (e := Extern.MathFloatBits.float64frombits) (by kernel_rfl)]
  rfl
theorem nan_neq (b : Int) (h0 : 0 ≤ b) (h1 : b ≤ 18446744073709551615) : (FloatKind.f64.format.order b.toNat b.toNat != some .eq) = nanB b := by
  obtain ⟨n, rfl⟩ := Int.eq_ofNat_of_zero_le h0
  rw [← isNaN_read n (by omega), ← order_self]
  rfl
set_option maxRecDepth 100000 in
theorem canon_any (b : Int) (h0 : 0 ≤ b) (h1 : b ≤ 18446744073709551615) (w : World) :
    Calls Tryd.prog 154 #[.int .u64 b] w fun e w' => e = .returned (.int .u64 (canonZ b)) ∧ w = w' := by
  have hfb := frombits_run b
  have hn := nan_neq b h0 h1
  have HN := Lib.hid hn
  cases hc : nanB b
  · have HC := Lib.hid hc
    rw [hc] at hn
    clear hc
    go_enter Tryd.func154, Tryd.ntmps154
    go_wp2
    go_ret
    exact ⟨by simp [canonZ, HC.out], rfl⟩
  · have HC := Lib.hid hc
    rw [hc] at hn
    clear hc
    go_enter Tryd.func154, Tryd.ntmps154
    go_wp2
    go_ret
    exact ⟨by simp [canonZ, HC.out], rfl⟩
theorem canonR_any (b : Int) (h0 : 0 ≤ b) (h1 : b ≤ 18446744073709551615) (w : World) :
    Calls Tryd.prog 97 #[.int .u64 b] w fun e w' => e = .returned (.int .u64 (canonZ b)) ∧ w = w' := by
  cases hc : nanB b
  all_goals
    have hn := none_any b h0 h1
    rw [hc] at hn
    have HN := Lib.hid hn
    clear hn
    have HC := Lib.hid hc
    clear hc
    go_enter Tryd.func97, Tryd.ntmps97
    go_wp2_with (go_at_call 158; refine (HN.out _).mono ?_; rintro e w' ⟨rfl, rfl⟩)
    go_ret
    exact ⟨by simp [canonZ, HC.out], rfl⟩
end Go.Proofs.YtjdfodmialhakaaDoor
