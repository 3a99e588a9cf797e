/- The contract of the reference's begins, where the bytes hold no whole value. -/
import Derived.Test.YtjdfodmialhakaaDoorRef5
import Derived.StillTailTactics
namespace Go.Proofs.YtjdfodmialhakaaDoor
open Go.RowKit

def beginsB : List UInt8 → Bool
  | [] => true
  | c :: r =>
    if c.toNat = 1 ∨ c.toNat = 2 ∨ c.toNat = 3 then true
    else if c.toNat = 4 then (match r with | [] => true | b :: _ => decide (b.toNat ≤ 100))
    else if c.toNat = 5 then (match r with | [] => true | b :: r' => decide (b.toNat ≤ 100) && tbB r' b.toNat)
    else false
set_option maxRecDepth 100000 in
theorem begins_nil (w : World) :
    Calls Tryd.prog 104 #[.string ByteArray.empty] w fun e w' => e = .returned (.bool true) ∧ Below w.heap.size w w' := by
  go_enter Tryd.func104, Tryd.ntmps104
  go_wp2
  go_ret
  exact ⟨rfl, Below.refl _ _⟩
set_option maxRecDepth 100000 in
theorem begins_12 (s : ByteArray) (c : UInt8) (h : 0 < s.size) (e0 : s[0]'h = c) (hc : c.toNat = 1 ∨ c.toNat = 2) (w : World) :
    Calls Tryd.prog 104 #[.string s] w fun e w' => e = .returned (.bool true) ∧ Below w.heap.size w w' := by
  have g0 : ((s.size : Int) == 0) = false := by rw [beq_eq_false_iff_ne]; omega
  rcases hc with hc | hc
  · have hq : (c.toNat : Int) = 1 := by omega
    clear hc
    go_enter Tryd.func104, Tryd.ntmps104
    go_wp2
    go_ret
    exact ⟨rfl, Below.refl _ _⟩
  · have hq : (c.toNat : Int) = 2 := by omega
    clear hc
    go_enter Tryd.func104, Tryd.ntmps104
    go_wp2
    go_ret
    exact ⟨rfl, Below.refl _ _⟩
set_option maxRecDepth 100000 in
theorem begins_3 (s : ByteArray) (c : UInt8) (h : 0 < s.size) (h9 : s.size < 9) (e0 : s[0]'h = c) (hc : c.toNat = 3) (w : World) :
    Calls Tryd.prog 104 #[.string s] w fun e w' => e = .returned (.bool true) ∧ Below w.heap.size w w' := by
  have g0 : ((s.size : Int) == 0) = false := by rw [beq_eq_false_iff_ne]; omega
  have hq : (c.toNat : Int) = 3 := by omega
  have HV := Lib.hid (fun W => refreal_any (s.extract 1 s.size) W (by rw [ByteArray.size_extract]; omega))
  have hge : 1 ≤ s.size := by omega
  clear hc h9
  go_enter Tryd.func104, Tryd.ntmps104
  go_wp2_with (go_at_call 162; refine (HV.out _).mono ?_; rintro e w' ⟨rfl, rfl⟩)
  go_ret
  exact ⟨rfl, Below.refl _ _⟩
set_option maxRecDepth 100000 in
theorem begins_o (s : ByteArray) (c : UInt8) (h : 0 < s.size) (e0 : s[0]'h = c) (hc : 5 < c.toNat) (w : World) :
    Calls Tryd.prog 104 #[.string s] w fun e w' => e = .returned (.bool false) ∧ Below w.heap.size w w' := by
  have g0 : ((s.size : Int) == 0) = false := by rw [beq_eq_false_iff_ne]; omega
  have hq : (5 : Int) < c.toNat := by omega
  clear hc
  go_enter Tryd.func104, Tryd.ntmps104
  go_wp2
  go_ret
  exact ⟨rfl, Below.refl _ _⟩
set_option maxRecDepth 100000 in
theorem begins_45e (s : ByteArray) (c : UInt8) (h : 0 < s.size) (h1 : s.size < 2) (e0 : s[0]'h = c) (hc : c.toNat = 4 ∨ c.toNat = 5) (w : World) :
    Calls Tryd.prog 104 #[.string s] w fun e w' => e = .returned (.bool true) ∧ Below w.heap.size w w' := by
  have g0 : ((s.size : Int) == 0) = false := by rw [beq_eq_false_iff_ne]; omega
  have hI : (s.size : Int) < 2 := by omega
  rcases hc with hc | hc
  · have hq : (c.toNat : Int) = 4 := by omega
    clear hc h1
    go_enter Tryd.func104, Tryd.ntmps104
    go_wp2
    go_ret
    exact ⟨rfl, Below.refl _ _⟩
  · have hq : (c.toNat : Int) = 5 := by omega
    clear hc h1
    go_enter Tryd.func104, Tryd.ntmps104
    go_wp2
    go_quiet (fail)
    go_wp2
    go_ret
    exact ⟨rfl, below_drewN (Below.refl _ _) _⟩
set_option maxRecDepth 100000 in
theorem begins_4 (s : ByteArray) (c b : UInt8) (h : 1 < s.size) (e0 : s[0]'(by omega) = c) (e1 : s[1]'h = b) (hc : c.toNat = 4) (w : World) :
    Calls Tryd.prog 104 #[.string s] w fun e w' => e = .returned (.bool (decide (b.toNat ≤ 100))) ∧ Below w.heap.size w w' := by
  have g0 : ((s.size : Int) == 0) = false := by rw [beq_eq_false_iff_ne]; omega
  have hq : (c.toNat : Int) = 4 := by omega
  have hI : (2 : Int) ≤ s.size := by omega
  have hb : (b.toNat : Int) < 256 := by have := b.toNat_lt; omega
  have hb0 : (0 : Int) ≤ b.toNat := by omega
  by_cases h100 : b.toNat ≤ 100
  · have hk : (b.toNat : Int) ≤ 100 := by omega
    have hd : decide (b.toNat ≤ 100) = true := by simpa using h100
    rw [hd]
    clear hc hd h100
    go_enter Tryd.func104, Tryd.ntmps104
    go_wp2
    go_ret
    exact ⟨ret_bool (by first | (simp; done) | (simp; omega)), Below.refl _ _⟩
  · have hk : (100 : Int) < b.toNat := by omega
    have hd : decide (b.toNat ≤ 100) = false := by simpa using h100
    rw [hd]
    clear hc hd h100
    go_enter Tryd.func104, Tryd.ntmps104
    go_wp2
    go_ret
    exact ⟨ret_bool (by first | (simp; done) | (simp; omega)), Below.refl _ _⟩
set_option maxRecDepth 100000 in
theorem begins_5n (s : ByteArray) (c b : UInt8) (h : 1 < s.size) (e0 : s[0]'(by omega) = c) (e1 : s[1]'h = b) (hc : c.toNat = 5) (h100 : 100 < b.toNat) (w : World) :
    Calls Tryd.prog 104 #[.string s] w fun e w' => e = .returned (.bool false) ∧ Below w.heap.size w w' := by
  have g0 : ((s.size : Int) == 0) = false := by rw [beq_eq_false_iff_ne]; omega
  have hq : (c.toNat : Int) = 5 := by omega
  have hI : (2 : Int) ≤ s.size := by omega
  have hb : (b.toNat : Int) < 256 := by have := b.toNat_lt; omega
  have hb0 : (0 : Int) ≤ b.toNat := by omega
  have hk : (100 : Int) < b.toNat := by omega
  have hd1 : decide ((s.size : Int) < 2) = false := by simp; omega
  have hd2 : decide ((b.toNat : Int) ≤ 100) = false := by simp; omega
  clear hc h100
  go_enter Tryd.func104, Tryd.ntmps104
  go_wp2
  go_quiet (fail)
  go_wp2
  go_ret
  exact ⟨rfl, below_drewN (Below.refl _ _) _⟩
set_option maxRecDepth 100000 in
theorem begins_5 (s : ByteArray) (c b : UInt8) (h : 1 < s.size) (e0 : s[0]'(by omega) = c) (e1 : s[1]'h = b) (hc : c.toNat = 5) (h100 : b.toNat ≤ 100) (hs : s.size ≤ 102) (w : World) (hT : Tabs w) :
    Calls Tryd.prog 104 #[.string s] w fun e w' => e = .returned (.bool (tbB (s.data.toList.drop 2) b.toNat)) ∧ Below w.heap.size w w' := by
  have g0 : ((s.size : Int) == 0) = false := by rw [beq_eq_false_iff_ne]; omega
  have hq : (c.toNat : Int) = 5 := by omega
  have hI : (2 : Int) ≤ s.size := by omega
  have hb : (b.toNat : Int) < 256 := by have := b.toNat_lt; omega
  have hb0 : (0 : Int) ≤ b.toNat := by omega
  have hk : (b.toNat : Int) ≤ 100 := by omega
  have hd1 : decide ((s.size : Int) < 2) = false := by simp; omega
  have hd2 : decide ((b.toNat : Int) ≤ 100) = true := by simp; omega
  have hI1 : (1 : Int) < s.size := by omega
  have hw : IntKind.i64.wrap (b.toNat : Int) = b.toNat := by simp [IntKind.wrap, IntKind.bits, IntKind.signed]; omega
  have hsl := slice_tail s 2 (by omega)
  have hv := fun W hW => tb_any (s.extract 2 s.size) b.toNat (by rw [ByteArray.size_extract]; omega) h100 W hW
  rw [tail_list] at hv
  have HV := Lib.hid hv
  have HT := Lib.hid hT
  generalize tbB (s.data.toList.drop 2) b.toNat = M at HV ⊢
  clear hc h100 hs hv hT
  go_enter Tryd.func104, Tryd.ntmps104
  go_wp2
  go_still_tail 14, (by kernel_rfl)
  change wpList _ _ _ _ _ w.drew
  have hbd := (Below.refl w.heap.size w).drew
  generalize w.drew = wd at hbd ⊢
  go_wp2_with (go_at_call 163; refine (HV.out _ (HT.out.ext hbd)).mono ?_; rintro e w' ⟨rfl, hb1⟩)
  go_ret
  exact ⟨rfl, bt hbd hb1⟩
end Go.Proofs.YtjdfodmialhakaaDoor
