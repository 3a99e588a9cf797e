/- The contracts of the reference's textBegins and begins. -/
import Derived.Test.YtjdfodmialhakaaDoorRef3
import Derived.Test.YtjdfodmialhakaaDoorMay
import Derived.Test.YtjdfodmialhakaaDoorPlain
namespace Go.Proofs.YtjdfodmialhakaaDoor
open Go.RowKit

/-- The shortest cut, from 4 - f on, ahead of which all is valid. -/
def tbFrom (l : List UInt8) (n : Int) : Nat → Bool
  | 0 => false
  | f + 1 =>
    if l.length < 3 - f then false
    else if Lib.validD (l.take (l.length - (3 - f))) then ((3 - f == 0) || ropensB (l.drop (l.length - (3 - f))) (n - l.length + ((3 - f : Nat) : Int)))
    else tbFrom l n f
def tbB (l : List UInt8) (n : Int) : Bool := tbFrom l n 4
theorem may5 (t : ByteArray) (h : t.size ≤ 100) : mayB ⟨5, 0, 0, t⟩ = Lib.validD t.data.toList := by
  simp [mayB, h]
theorem mayT (t : ByteArray) (h : t.size ≤ 100) (w : World) (hT : Tabs w) (b : Bool) (hb : Lib.validD t.data.toList = b) :
    Calls Tryd.prog 23 #[.agg #[.int .u8 5, .int .i64 0, .int .u64 0, .string t]] w fun e w' => e = .returned (.bool b) ∧ Below w.heap.size w w' := by
  have := may_any ⟨5, 0, 0, t⟩ (wf_mk (by omega) (by omega) (by omega) (by omega) (by omega) (by omega) (by omega)) w hT
  rwa [may5 t h, hb] at this
theorem upto_list (s : ByteArray) (k : Nat) : (s.extract 0 k).data.toList = s.data.toList.take k := by simp [ByteArray.data_extract]
theorem slice_upto (s : ByteArray) (k : Nat) (h : k ≤ s.size) (W : World) : (Instr.slice 9 (.string s) none (some (.int .i64 (k : Int))) none).run Tryd.prog W = .ok (.string (s.extract 0 k)) W := by
  have q0 : (0 : Int) ≤ k := by omega
  have q1 : (k : Int) ≤ s.size := by omega
  go_simp
theorem tb_step {l : List UInt8} {n : Int} {M : Bool} {k : Nat} (h : M = tbFrom l n (4 - k)) (hk : k ≤ 3) (hl : k ≤ l.length) (hv : Lib.validD (l.take (l.length - k)) = false) : Hid (M = tbFrom l n (4 - (k + 1))) := by
  show M = _
  obtain ⟨f, hf⟩ : ∃ f, 4 - k = f + 1 := ⟨3 - k, by omega⟩
  have e : 3 - f = k := by omega
  have e2 : 4 - (k + 1) = f := by omega
  rw [h, hf, tbFrom, e, e2, if_neg (by omega), hv]
  rfl
theorem tb_hit {l : List UInt8} {n : Int} {M : Bool} {k : Nat} (h : M = tbFrom l n (4 - k)) (hk : k ≤ 3) (hl : k ≤ l.length) (hv : Lib.validD (l.take (l.length - k)) = true) : M = ((k == 0) || ropensB (l.drop (l.length - k)) (n - l.length + k)) := by
  obtain ⟨f, hf⟩ : ∃ f, 4 - k = f + 1 := ⟨3 - k, by omega⟩
  have e : 3 - f = k := by omega
  rw [h, hf, tbFrom, e, if_neg (by omega), hv]
  rfl
theorem tb_end {l : List UInt8} {n : Int} {M : Bool} {k : Nat} (h : M = tbFrom l n (4 - k)) (hk : k ≤ 4) (hl : k = 4 ∨ l.length < k) : M = false := by
  rcases Nat.lt_or_ge k 4 with h4 | h4
  · obtain ⟨f, hf⟩ : ∃ f, 4 - k = f + 1 := ⟨3 - k, by omega⟩
    have e : 3 - f = k := by omega
    rw [h, hf, tbFrom, e, if_pos (by omega)]
  · rw [h, show 4 - k = 0 by omega, tbFrom]
set_option maxRecDepth 100000 in
set_option maxHeartbeats 400000 in
theorem tb_any (s : ByteArray) (n : Nat) (hs : s.size ≤ 100) (hn : n ≤ 100) (w : World) (hT : Tabs w) :
    Calls Tryd.prog 163 #[.string s, .int .i64 n] w fun e w' => e = .returned (.bool (tbB s.data.toList n)) ∧ Below w.heap.size w w' := by
  have HT := Lib.hid hT
  clear hT
  have hlen : s.data.toList.length = s.size := by simp
  have HLEN := Lib.hid hlen
  clear hlen
  obtain ⟨M, hM⟩ : ∃ M, M = tbB s.data.toList n := ⟨_, rfl⟩
  rw [← hM]
  have HM := Lib.hid hM
  clear hM
  go_enter Tryd.func163, Tryd.ntmps163
  go_wp2
  go_loopw [5] (fun i wr => ∃ k : Nat, k ≤ 4 ∧ i = .int .i64 k ∧ Hid (M = tbFrom s.data.toList n (4 - k)) ∧ Below w.heap.size w wr) (fun i _ => 5 - (intOf i).toNat)
  case atStart => exact ⟨0, by omega, rfl, HM, Below.refl _ _⟩
  case round =>
    obtain ⟨k, hk, rfl, HS, hbw⟩ := hrel
    by_cases hin : k ≤ 3 ∧ k ≤ s.size
    · obtain ⟨h3, hks⟩ := hin
      have hI3 : (k : Int) ≤ 3 := by omega
      have hIs : (k : Int) ≤ s.size := by omega
      have hsub : ((s.size - k : Nat) : Int) = (s.size : Int) - k := by omega
      have hsl := slice_upto s (s.size - k) (by omega)
      rw [hsub] at hsl
      have hz : (s.extract 0 (s.size - k)).size ≤ 100 := by rw [ByteArray.size_extract]; omega
      cases hv : Lib.validD (s.data.toList.take (s.size - k))
      · have HC := Lib.hid (mayT (s.extract 0 (s.size - k)) hz wr (HT.out.ext hbw) false (by rw [upto_list]; exact hv))
        have hst := tb_step HS.out h3 (by rw [HLEN.out]; exact hks) (by rw [HLEN.out]; exact hv)
        clear hv hsub
        go_wp2_with (go_at_call 23; refine (HC.out).mono ?_; rintro e w1 ⟨rfl, hb1⟩)
        go_roundw
        case rel => exact ⟨k + 1, by omega, by go_num, hst, bt hbw hb1⟩
        case measure => simp [intOf]; omega
      · have HC := Lib.hid (mayT (s.extract 0 (s.size - k)) hz wr (HT.out.ext hbw) true (by rw [upto_list]; exact hv))
        have hst := tb_hit HS.out h3 (by rw [HLEN.out]; exact hks) (by rw [HLEN.out]; exact hv)
        rw [HLEN.out] at hst
        have HST := Lib.hid hst
        clear hv hst
        by_cases hk0 : k = 0
        · have g0 : ((k : Int) == 0) = true := by simp [hk0]
          have HK := Lib.hid hk0
          clear hk0 hsub
          go_wp2_with (go_at_call 23; refine (HC.out).mono ?_; rintro e w1 ⟨rfl, hb1⟩)
          go_ret
          refine ⟨ret_bool ?_, bt hbw hb1⟩
          rw [HST.out, HK.out]
          rfl
        · have g0 : ((k : Int) == 0) = false := by rw [beq_eq_false_iff_ne]; omega
          have htl := slice_tail s (s.size - k) (by omega)
          rw [hsub] at htl
          have hzt : (s.extract (s.size - k) s.size).size = k := by rw [ByteArray.size_extract]; omega
          have hro := fun W => ropens_any (s.extract (s.size - k) s.size) ((n : Int) - s.size + k) (by omega) (by omega) W
          rw [tail_list] at hro
          have HRO := Lib.hid hro
          have hk0' : (k == 0) = false := by simp [hk0]
          rw [hk0', Bool.false_or] at HST
          clear hk0 hk0' hsub hzt hro
          generalize ropensB (s.data.toList.drop (s.size - k)) ((n : Int) - s.size + k) = ro at HRO HST
          go_wp2_with (first | (go_at_call 23; refine (HC.out).mono ?_; rintro e w1 ⟨rfl, hb1⟩) | (go_at_call 177; refine (HRO.out _).mono ?_; rintro e w2 ⟨rfl, rfl⟩))
          go_ret
          refine ⟨ret_bool ?_, bt hbw hb1⟩
          rw [HST.out]
    · have hend := tb_end HS.out hk (by rw [HLEN.out]; omega)
      have HE := Lib.hid hend
      clear hend
      by_cases h3 : k ≤ 3
      · have hgt : ¬ (k : Int) ≤ s.size := by omega
        have hI3 : (k : Int) ≤ 3 := by omega
        go_wp2
        go_ret
        exact ⟨ret_bool HE.out.symm, hbw⟩
      · have hI3 : ¬ (k : Int) ≤ 3 := by omega
        go_wp2
        go_ret
        exact ⟨ret_bool HE.out.symm, hbw⟩
end Go.Proofs.YtjdfodmialhakaaDoor
