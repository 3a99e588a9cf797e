/- Contracts of the reference's size, realBegins, Value at eight bytes. -/
import Derived.Test.YtjdfodmialhakaaDoorRead4
import Derived.LoopN
namespace Go.Proofs.YtjdfodmialhakaaDoor
open Go.RowKit

/-- How many bytes a value has that begins so; below 0: they do not tell yet. -/
def sizeL : List UInt8 → Int
  | [] => -1
  | c :: r =>
    if c.toNat = 1 then 2 else if c.toNat = 2 ∨ c.toNat = 3 then 9
    else if c.toNat = 4 ∨ c.toNat = 5 then (match r with | [] => -1 | b :: _ => 2 + (b.toNat : Int))
    else 1
theorem idx_at (s : ByteArray) (i : Nat) (c : UInt8) (h : s.data.toList[i]? = some c) (hi : i < s.size) : s[i] = c := by
  have h' : i < s.data.toList.length := by simpa using hi
  rw [List.getElem?_eq_getElem h'] at h
  exact Option.some.inj h
set_option maxRecDepth 100000 in
theorem refsize_any (s : ByteArray) (w : World) (hs : s.size ≤ 140737488355328) :
    Calls Tryd.prog 103 #[.string s] w fun e w' => e = .returned (.int .i64 (sizeL s.data.toList)) ∧ w = w' := by
  have hlen : s.data.toList.length = s.size := by simp
  cases hl : s.data.toList with
  | nil =>
    have h0 : s.size = 0 := by rw [← hlen, hl]; rfl
    obtain rfl := empty_of_size h0
    clear hl hlen h0
    go_enter Tryd.func103, Tryd.ntmps103
    go_wp2
    go_ret
    exact ⟨rfl, rfl⟩
  | cons c r =>
    have hz : s.size = r.length + 1 := by rw [← hlen, hl]; rfl
    have hpos : 0 < s.size := by omega
    have g0 : ((s.size : Int) == 0) = false := by rw [beq_eq_false_iff_ne]; omega
    have e0 : s[0]'hpos = c := idx_at s 0 c (by rw [hl]; rfl) hpos
    have hcb := c.toNat_lt
    have hc : c.toNat = 1 ∨ c.toNat = 2 ∨ c.toNat = 3 ∨ c.toNat = 4 ∨ c.toNat = 5 ∨ c.toNat = 0 ∨ 5 < c.toNat := by omega
    generalize hM : sizeL (c :: r) = M
    have HM := Lib.hid hM
    clear hM
    cases r with
    | nil =>
      have hle : s.size ≤ 1 := by rw [hz]; simp
      have HZ := Lib.hid hz
      clear hz hl hlen
      rcases hc with hc | hc | hc | hc | hc | hc | hc
      all_goals
        have hcI : (c.toNat : Int) = c.toNat := rfl
        have HC := Lib.hid hc
        first
          | (have hq : (c.toNat : Int) = 1 := by omega)
          | (have hq : (c.toNat : Int) = 2 := by omega)
          | (have hq : (c.toNat : Int) = 3 := by omega)
          | (have hq : (c.toNat : Int) = 4 := by omega)
          | (have hq : (c.toNat : Int) = 5 := by omega)
          | (have hq : (c.toNat : Int) = 0 := by omega)
          | (have hq : (5 : Int) < (c.toNat : Int) := by omega)
        clear hcI hc
        go_enter Tryd.func103, Tryd.ntmps103
        go_wp2
        go_ret
        refine ⟨ret_int ?_, rfl⟩
        rw [← HM.out]
        have hc := HC.out
        first | (simp [sizeL, hc]; done) | (simp [sizeL]; omega)
    | cons b r =>
      have h1 : 1 < s.size := by rw [hz]; simp
      have e1 : s[1]'h1 = b := idx_at s 1 b (by rw [hl]; rfl) h1
      have hb : (b.toNat : Int) < 256 := by have := b.toNat_lt; omega
      have hb0 : (0 : Int) ≤ b.toNat := by omega
      have hge : 2 ≤ s.size := by omega
      clear hz hl hlen
      rcases hc with hc | hc | hc | hc | hc | hc | hc
      all_goals
        have HC := Lib.hid hc
        first
          | (have hq : (c.toNat : Int) = 1 := by omega)
          | (have hq : (c.toNat : Int) = 2 := by omega)
          | (have hq : (c.toNat : Int) = 3 := by omega)
          | (have hq : (c.toNat : Int) = 4 := by omega)
          | (have hq : (c.toNat : Int) = 5 := by omega)
          | (have hq : (c.toNat : Int) = 0 := by omega)
          | (have hq : (5 : Int) < (c.toNat : Int) := by omega)
        clear hc
        go_enter Tryd.func103, Tryd.ntmps103
        go_wp2
        go_ret
        refine ⟨ret_int ?_, rfl⟩
        rw [← HM.out]
        have hc := HC.out
        first | (simp [sizeL, hc]; done) | (simp [sizeL]; omega)
theorem refreal_any (s : ByteArray) (w : World) (hs : s.size < 8) :
    Calls Tryd.prog 162 #[.string s] w fun e w' => e = .returned (.bool true) ∧ w = w' := by
  have h : decide ((s.size : Int) < 8) = true := by simp; omega
  go_enter Tryd.func162, Tryd.ntmps162
  go_wp2
  go_ret
  exact ⟨rfl, rfl⟩
set_option maxRecDepth 100000 in
theorem refvalue8 (s : ByteArray) (h1 : 8 ≤ s.size) (h2 : s.size ≤ 8) (w : World) :
    Calls Tryd.prog 136 #[.string s] w fun e w' => e = .returned (.int .u64 (valL s.data.toList)) ∧ w = w' := by
  have hl8 := list8 s (Nat.le_antisymm h2 h1)
  have b0 := (s[0]'(by omega)).toNat_lt
  have b1 := (s[1]'(by omega)).toNat_lt
  have b2 := (s[2]'(by omega)).toNat_lt
  have b3 := (s[3]'(by omega)).toNat_lt
  have b4 := (s[4]'(by omega)).toNat_lt
  have b5 := (s[5]'(by omega)).toNat_lt
  have b6 := (s[6]'(by omega)).toNat_lt
  have b7 := (s[7]'(by omega)).toNat_lt
  have hs8 : (s.size : Int) - 1 = 7 := by omega
  generalize hM : valL s.data.toList = M
  have HM := Lib.hid hM
  have HL := Lib.hid hl8
  clear hM hl8
  go_enter Tryd.func136, Tryd.ntmps136
  go_wp2
  refine wp_loop_rounds 9 ?_
  iterate 9 (rw [rounds_succ]; go_wp2)
  go_ret
  refine ⟨ret_int ?_, rfl⟩
  rw [← HM.out, HL.out]
  simp only [valL]
  omega
end Go.Proofs.YtjdfodmialhakaaDoor
