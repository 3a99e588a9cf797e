/- Several texts in one: see each part's head. -/
import Derived.Test.YtjdfodmialhakaaDoorRef3
import Derived.Test.YtjdfodmialhakaaDoorRows1
import Derived.Test.YtjdfodmialhakaaDoorPlain
import Derived.StillTailTactics
/- The contracts of the reference's textBegins and begins. -/
namespace Go.Proofs.YtjdfodmialhakaaDoor
open Go.RowKit

/-- The shortest cut, from 4 - f on, ahead of which all is valid. -/
def tbFrom (l : List UInt8) (n : Int) : Nat → Bool
  | 0 => false
  | f + 1 =>
    if l.length < 3 - f then false
    else if Lib.validD (l.take (l.length - (3 - f))) then ((3 - f == 0) || ropensB (l.drop (l.length - (3 - f))) (n - l.length + ((3 - f : Nat) : Int)))
    else tbFrom l n f
def tbB (l : List UInt8) (n : Int) : Bool := tbFrom l n 4
theorem may5 (t : ByteArray) (h : t.size ≤ 100) : mayB ⟨5, 0, 0, t⟩ = Lib.validD t.data.toList := by
  simp [mayB, h]
theorem mayT (t : ByteArray) (h : t.size ≤ 100) (w : World) (hT : Tabs w) (b : Bool) (hb : Lib.validD t.data.toList = b) :
    Calls Tryd.prog 23 #[.agg #[.int .u8 5, .int .i64 0, .int .u64 0, .string t]] w fun e w' => e = .returned (.bool b) ∧ Below w.heap.size w w' := by
  have := may_any ⟨5, 0, 0, t⟩ (wf_mk (by omega) (by omega) (by omega) (by omega) (by omega) (by omega) (by omega)) w hT
  rwa [may5 t h, hb] at this
theorem upto_list (s : ByteArray) (k : Nat) : (s.extract 0 k).data.toList = s.data.toList.take k := by simp [ByteArray.data_extract]
theorem slice_upto (s : ByteArray) (k : Nat) (h : k ≤ s.size) (W : World) : (Instr.slice 9 (.string s) none (some (.int .i64 (k : Int))) none).run Tryd.prog W = .ok (.string (s.extract 0 k)) W := by
  have q0 : (0 : Int) ≤ k := by omega
  have q1 : (k : Int) ≤ s.size := by omega
  go_simp
theorem tb_step {l : List UInt8} {n : Int} {M : Bool} {k : Nat} (h : M = tbFrom l n (4 - k)) (hk : k ≤ 3) (hl : k ≤ l.length) (hv : Lib.validD (l.take (l.length - k)) = false) : Hid (M = tbFrom l n (4 - (k + 1))) := by
  show M = _
  obtain ⟨f, hf⟩ : ∃ f, 4 - k = f + 1 := ⟨3 - k, by omega⟩
  have e : 3 - f = k := by omega
  have e2 : 4 - (k + 1) = f := by omega
  rw [h, hf, tbFrom, e, e2, if_neg (by omega), hv]
  rfl
theorem tb_hit {l : List UInt8} {n : Int} {M : Bool} {k : Nat} (h : M = tbFrom l n (4 - k)) (hk : k ≤ 3) (hl : k ≤ l.length) (hv : Lib.validD (l.take (l.length - k)) = true) : M = ((k == 0) || ropensB (l.drop (l.length - k)) (n - l.length + k)) := by
  obtain ⟨f, hf⟩ : ∃ f, 4 - k = f + 1 := ⟨3 - k, by omega⟩
  have e : 3 - f = k := by omega
  rw [h, hf, tbFrom, e, if_neg (by omega), hv]
  rfl
theorem tb_end {l : List UInt8} {n : Int} {M : Bool} {k : Nat} (h : M = tbFrom l n (4 - k)) (hk : k ≤ 4) (hl : k = 4 ∨ l.length < k) : M = false := by
  rcases Nat.lt_or_ge k 4 with h4 | h4
  · obtain ⟨f, hf⟩ : ∃ f, 4 - k = f + 1 := ⟨3 - k, by omega⟩
    have e : 3 - f = k := by omega
    rw [h, hf, tbFrom, e, if_pos (by omega)]
  · rw [h, show 4 - k = 0 by omega, tbFrom]
set_option maxRecDepth 100000 in
set_option maxHeartbeats 400000 in
theorem tb_any (s : ByteArray) (n : Nat) (hs : s.size ≤ 100) (hn : n ≤ 100) (w : World) (hT : Tabs w) :
    Calls Tryd.prog 163 #[.string s, .int .i64 n] w fun e w' => e = .returned (.bool (tbB s.data.toList n)) ∧ Below w.heap.size w w' := by
  have HT := Lib.hid hT
  clear hT
  have hlen : s.data.toList.length = s.size := by simp
  have HLEN := Lib.hid hlen
  clear hlen
  obtain ⟨M, hM⟩ : ∃ M, M = tbB s.data.toList n := ⟨_, rfl⟩
  rw [← hM]
  have HM := Lib.hid hM
  clear hM
  go_enter Tryd.func163, Tryd.ntmps163
  go_wp2
  go_loopw [5] (fun i wr => ∃ k : Nat, k ≤ 4 ∧ i = .int .i64 k ∧ Hid (M = tbFrom s.data.toList n (4 - k)) ∧ Below w.heap.size w wr) (fun i _ => 5 - (intOf i).toNat)
  case atStart => exact ⟨0, by omega, rfl, HM, Below.refl _ _⟩
  case round =>
    obtain ⟨k, hk, rfl, HS, hbw⟩ := hrel
    by_cases hin : k ≤ 3 ∧ k ≤ s.size
    · obtain ⟨h3, hks⟩ := hin
      have hI3 : (k : Int) ≤ 3 := by omega
      have hIs : (k : Int) ≤ s.size := by omega
      have hsub : ((s.size - k : Nat) : Int) = (s.size : Int) - k := by omega
      have hsl := slice_upto s (s.size - k) (by omega)
      rw [hsub] at hsl
      have hz : (s.extract 0 (s.size - k)).size ≤ 100 := by rw [ByteArray.size_extract]; omega
      cases hv : Lib.validD (s.data.toList.take (s.size - k))
      · have HC := Lib.hid (mayT (s.extract 0 (s.size - k)) hz wr (HT.out.ext hbw) false (by rw [upto_list]; exact hv))
        have hst := tb_step HS.out h3 (by rw [HLEN.out]; exact hks) (by rw [HLEN.out]; exact hv)
        clear hv hsub
        go_wp2_with (go_at_call 23; refine (HC.out).mono ?_; rintro e w1 ⟨rfl, hb1⟩)
        go_roundw
        case rel => exact ⟨k + 1, by omega, by go_num, hst, bt hbw hb1⟩
        case measure => simp [intOf]; omega
      · have HC := Lib.hid (mayT (s.extract 0 (s.size - k)) hz wr (HT.out.ext hbw) true (by rw [upto_list]; exact hv))
        have hst := tb_hit HS.out h3 (by rw [HLEN.out]; exact hks) (by rw [HLEN.out]; exact hv)
        rw [HLEN.out] at hst
        have HST := Lib.hid hst
        clear hv hst
        by_cases hk0 : k = 0
        · have g0 : ((k : Int) == 0) = true := by simp [hk0]
          have HK := Lib.hid hk0
          clear hk0 hsub
          go_wp2_with (go_at_call 23; refine (HC.out).mono ?_; rintro e w1 ⟨rfl, hb1⟩)
          go_ret
          refine ⟨ret_bool ?_, bt hbw hb1⟩
          rw [HST.out, HK.out]
          rfl
        · have g0 : ((k : Int) == 0) = false := by rw [beq_eq_false_iff_ne]; omega
          have htl := slice_tail s (s.size - k) (by omega)
          rw [hsub] at htl
          have hzt : (s.extract (s.size - k) s.size).size = k := by rw [ByteArray.size_extract]; omega
          have hro := fun W => ropens_any (s.extract (s.size - k) s.size) ((n : Int) - s.size + k) (by omega) (by omega) W
          rw [tail_list] at hro
          have HRO := Lib.hid hro
          have hk0' : (k == 0) = false := by simp [hk0]
          rw [hk0', Bool.false_or] at HST
          clear hk0 hk0' hsub hzt hro
          generalize ropensB (s.data.toList.drop (s.size - k)) ((n : Int) - s.size + k) = ro at HRO HST
          go_wp2_with (first | (go_at_call 23; refine (HC.out).mono ?_; rintro e w1 ⟨rfl, hb1⟩) | (go_at_call 177; refine (HRO.out _).mono ?_; rintro e w2 ⟨rfl, rfl⟩))
          go_ret
          refine ⟨ret_bool ?_, bt hbw hb1⟩
          rw [HST.out]
    · have hend := tb_end HS.out hk (by rw [HLEN.out]; omega)
      have HE := Lib.hid hend
      clear hend
      by_cases h3 : k ≤ 3
      · have hgt : ¬ (k : Int) ≤ s.size := by omega
        have hI3 : (k : Int) ≤ 3 := by omega
        go_wp2
        go_ret
        exact ⟨ret_bool HE.out.symm, hbw⟩
      · have hI3 : ¬ (k : Int) ≤ 3 := by omega
        go_wp2
        go_ret
        exact ⟨ret_bool HE.out.symm, hbw⟩
end Go.Proofs.YtjdfodmialhakaaDoor

/- The contract of the reference's whole: the value of just these bytes. -/
namespace Go.Proofs.YtjdfodmialhakaaDoor
open Go.RowKit

set_option maxRecDepth 100000 in
theorem whole_o (s : ByteArray) (c : UInt8) (h : 0 < s.size) (e0 : s[0]'h = c) (hc : c.toNat = 0 ∨ 5 < c.toNat) (w : World) :
    Calls Tryd.prog 105 #[.string s] w fun e w' => e = .returned (V.agg ⟨c.toNat, 0, 0, ByteArray.empty⟩) ∧ Below w.heap.size w w' := by
  rcases hc with hc | hc
  · have hq : (c.toNat : Int) = 0 := by omega
    clear hc
    go_enter Tryd.func105, Tryd.ntmps105
    go_wp2
    refine bodyPost_ret (v := V.agg ⟨c.toNat, 0, 0, ByteArray.empty⟩) (by simp [results, Tryd.results105, go_sem, V.agg, hq]; rfl) rfl ⟨rfl, by repeat (first | exact Below.refl _ _ | refine Below.alloc ?_ (by simp) _)⟩
  · have hq : (5 : Int) < (c.toNat : Int) := by omega
    clear hc
    go_enter Tryd.func105, Tryd.ntmps105
    go_wp2
    refine bodyPost_ret (v := V.agg ⟨c.toNat, 0, 0, ByteArray.empty⟩) (by simp [results, Tryd.results105, go_sem, V.agg]; rfl) rfl ⟨rfl, by repeat (first | exact Below.refl _ _ | refine Below.alloc ?_ (by simp) _)⟩
set_option maxRecDepth 100000 in
theorem whole_1 (s : ByteArray) (c b : UInt8) (h : 1 < s.size) (e0 : s[0]'(by omega) = c) (e1 : s[1]'h = b) (hc : c.toNat = 1) (w : World) :
    Calls Tryd.prog 105 #[.string s] w fun e w' => e = .returned (V.agg ⟨1, b.toNat, 0, ByteArray.empty⟩) ∧ Below w.heap.size w w' := by
  have hq : (c.toNat : Int) = 1 := by omega
  have hb : (b.toNat : Int) < 256 := by have := b.toNat_lt; omega
  have hb0 : (0 : Int) ≤ b.toNat := by omega
  clear hc
  go_enter Tryd.func105, Tryd.ntmps105
  go_wp2
  refine bodyPost_ret (v := V.agg ⟨1, b.toNat, 0, ByteArray.empty⟩) (by simp [results, Tryd.results105, go_sem, V.agg]; rfl) rfl ⟨rfl, by repeat (first | exact Below.refl _ _ | refine Below.alloc ?_ (by simp) _)⟩
set_option maxRecDepth 100000 in
theorem whole_2 (s : ByteArray) (c : UInt8) (h : 0 < s.size) (h9 : s.size = 9) (e0 : s[0]'h = c) (hc : c.toNat = 2) (w : World) :
    Calls Tryd.prog 105 #[.string s] w fun e w' => e = .returned (V.agg ⟨2, i64of (valL (s.data.toList.drop 1)), 0, ByteArray.empty⟩) ∧ Below w.heap.size w w' := by
  have hq : (c.toNat : Int) = 2 := by omega
  have hz : (s.extract 1 s.size).size = 8 := by rw [ByteArray.size_extract]; omega
  have hv := refvalue8 (s.extract 1 s.size) (by omega) (by omega)
  rw [tail_list] at hv
  have HV := Lib.hid hv
  have hge : 1 ≤ s.size := by omega
  clear hc hz hv h9
  unfold i64of
  generalize valL (s.data.toList.drop 1) = M at HV ⊢
  go_enter Tryd.func105, Tryd.ntmps105
  go_wp2_with (go_at_call 136; refine (HV.out _).mono ?_; rintro e w' ⟨rfl, rfl⟩)
  refine bodyPost_ret (v := V.agg ⟨2, wrap64 M, 0, ByteArray.empty⟩) (by simp [results, Tryd.results105, go_sem, V.agg]; rfl) rfl ⟨rfl, by repeat (first | exact Below.refl _ _ | refine Below.alloc ?_ (by simp) _)⟩
set_option maxRecDepth 100000 in
theorem whole_3 (s : ByteArray) (c : UInt8) (h : 0 < s.size) (h9 : s.size = 9) (e0 : s[0]'h = c) (hc : c.toNat = 3) (w : World) :
    Calls Tryd.prog 105 #[.string s] w fun e w' => e = .returned (V.agg ⟨3, 0, valL (s.data.toList.drop 1), ByteArray.empty⟩) ∧ Below w.heap.size w w' := by
  have hq : (c.toNat : Int) = 3 := by omega
  have hz : (s.extract 1 s.size).size = 8 := by rw [ByteArray.size_extract]; omega
  have hv := refvalue8 (s.extract 1 s.size) (by omega) (by omega)
  rw [tail_list] at hv
  have HV := Lib.hid hv
  have hge : 1 ≤ s.size := by omega
  clear hc hz hv h9
  generalize valL (s.data.toList.drop 1) = M at HV ⊢
  go_enter Tryd.func105, Tryd.ntmps105
  go_wp2_with (go_at_call 136; refine (HV.out _).mono ?_; rintro e w' ⟨rfl, rfl⟩)
  refine bodyPost_ret (v := V.agg ⟨3, 0, M, ByteArray.empty⟩) (by simp [results, Tryd.results105, go_sem, V.agg]; rfl) rfl ⟨rfl, by repeat (first | exact Below.refl _ _ | refine Below.alloc ?_ (by simp) _)⟩
set_option maxRecDepth 100000 in
theorem whole_t (s : ByteArray) (c : UInt8) (h : 1 < s.size) (e0 : s[0]'(by omega) = c) (hc : c.toNat = 4 ∨ c.toNat = 5) (w : World) :
    Calls Tryd.prog 105 #[.string s] w fun e w' => e = .returned (V.agg ⟨c.toNat, 0, 0, s.extract 2 s.size⟩) ∧ Below w.heap.size w w' := by
  have hsl := slice_tail s 2 (by omega)
  have hge : (2 : Int) ≤ s.size := by omega
  rcases hc with hc | hc
  · have hq : (c.toNat : Int) = 4 := by omega
    clear hc
    go_enter Tryd.func105, Tryd.ntmps105
    go_wp2
    refine bodyPost_ret (v := V.agg ⟨c.toNat, 0, 0, s.extract 2 s.size⟩) (by simp [results, Tryd.results105, go_sem, V.agg, hq]) rfl ⟨rfl, by repeat (first | exact Below.refl _ _ | refine Below.alloc ?_ (by simp) _)⟩
  · have hq : (c.toNat : Int) = 5 := by omega
    clear hc
    go_enter Tryd.func105, Tryd.ntmps105
    go_wp2
    refine bodyPost_ret (v := V.agg ⟨c.toNat, 0, 0, s.extract 2 s.size⟩) (by simp [results, Tryd.results105, go_sem, V.agg, hq]) rfl ⟨rfl, by repeat (first | exact Below.refl _ _ | refine Below.alloc ?_ (by simp) _)⟩
end Go.Proofs.YtjdfodmialhakaaDoor

/- The contract of the reference's begins, where the bytes hold no whole value. -/
namespace Go.Proofs.YtjdfodmialhakaaDoor
open Go.RowKit

def beginsB : List UInt8 → Bool
  | [] => true
  | c :: r =>
    if c.toNat = 1 ∨ c.toNat = 2 ∨ c.toNat = 3 then true
    else if c.toNat = 4 then (match r with | [] => true | b :: _ => decide (b.toNat ≤ 100))
    else if c.toNat = 5 then (match r with | [] => true | b :: r' => decide (b.toNat ≤ 100) && tbB r' b.toNat)
    else false
set_option maxRecDepth 100000 in
theorem begins_nil (w : World) :
    Calls Tryd.prog 104 #[.string ByteArray.empty] w fun e w' => e = .returned (.bool true) ∧ Below w.heap.size w w' := by
  go_enter Tryd.func104, Tryd.ntmps104
  go_wp2
  go_ret
  exact ⟨rfl, Below.refl _ _⟩
set_option maxRecDepth 100000 in
theorem begins_12 (s : ByteArray) (c : UInt8) (h : 0 < s.size) (e0 : s[0]'h = c) (hc : c.toNat = 1 ∨ c.toNat = 2) (w : World) :
    Calls Tryd.prog 104 #[.string s] w fun e w' => e = .returned (.bool true) ∧ Below w.heap.size w w' := by
  have g0 : ((s.size : Int) == 0) = false := by rw [beq_eq_false_iff_ne]; omega
  rcases hc with hc | hc
  · have hq : (c.toNat : Int) = 1 := by omega
    clear hc
    go_enter Tryd.func104, Tryd.ntmps104
    go_wp2
    go_ret
    exact ⟨rfl, Below.refl _ _⟩
  · have hq : (c.toNat : Int) = 2 := by omega
    clear hc
    go_enter Tryd.func104, Tryd.ntmps104
    go_wp2
    go_ret
    exact ⟨rfl, Below.refl _ _⟩
set_option maxRecDepth 100000 in
theorem begins_3 (s : ByteArray) (c : UInt8) (h : 0 < s.size) (h9 : s.size < 9) (e0 : s[0]'h = c) (hc : c.toNat = 3) (w : World) :
    Calls Tryd.prog 104 #[.string s] w fun e w' => e = .returned (.bool true) ∧ Below w.heap.size w w' := by
  have g0 : ((s.size : Int) == 0) = false := by rw [beq_eq_false_iff_ne]; omega
  have hq : (c.toNat : Int) = 3 := by omega
  have HV := Lib.hid (fun W => refreal_any (s.extract 1 s.size) W (by rw [ByteArray.size_extract]; omega))
  have hge : 1 ≤ s.size := by omega
  clear hc h9
  go_enter Tryd.func104, Tryd.ntmps104
  go_wp2_with (go_at_call 162; refine (HV.out _).mono ?_; rintro e w' ⟨rfl, rfl⟩)
  go_ret
  exact ⟨rfl, Below.refl _ _⟩
set_option maxRecDepth 100000 in
theorem begins_o (s : ByteArray) (c : UInt8) (h : 0 < s.size) (e0 : s[0]'h = c) (hc : 5 < c.toNat) (w : World) :
    Calls Tryd.prog 104 #[.string s] w fun e w' => e = .returned (.bool false) ∧ Below w.heap.size w w' := by
  have g0 : ((s.size : Int) == 0) = false := by rw [beq_eq_false_iff_ne]; omega
  have hq : (5 : Int) < c.toNat := by omega
  clear hc
  go_enter Tryd.func104, Tryd.ntmps104
  go_wp2
  go_ret
  exact ⟨rfl, Below.refl _ _⟩
set_option maxRecDepth 100000 in
theorem begins_45e (s : ByteArray) (c : UInt8) (h : 0 < s.size) (h1 : s.size < 2) (e0 : s[0]'h = c) (hc : c.toNat = 4 ∨ c.toNat = 5) (w : World) :
    Calls Tryd.prog 104 #[.string s] w fun e w' => e = .returned (.bool true) ∧ Below w.heap.size w w' := by
  have g0 : ((s.size : Int) == 0) = false := by rw [beq_eq_false_iff_ne]; omega
  have hI : (s.size : Int) < 2 := by omega
  rcases hc with hc | hc
  · have hq : (c.toNat : Int) = 4 := by omega
    clear hc h1
    go_enter Tryd.func104, Tryd.ntmps104
    go_wp2
    go_ret
    exact ⟨rfl, Below.refl _ _⟩
  · have hq : (c.toNat : Int) = 5 := by omega
    clear hc h1
    go_enter Tryd.func104, Tryd.ntmps104
    go_wp2
    go_quiet (fail)
    go_wp2
    go_ret
    exact ⟨rfl, below_drewN (Below.refl _ _) _⟩
set_option maxRecDepth 100000 in
theorem begins_4 (s : ByteArray) (c b : UInt8) (h : 1 < s.size) (e0 : s[0]'(by omega) = c) (e1 : s[1]'h = b) (hc : c.toNat = 4) (w : World) :
    Calls Tryd.prog 104 #[.string s] w fun e w' => e = .returned (.bool (decide (b.toNat ≤ 100))) ∧ Below w.heap.size w w' := by
  have g0 : ((s.size : Int) == 0) = false := by rw [beq_eq_false_iff_ne]; omega
  have hq : (c.toNat : Int) = 4 := by omega
  have hI : (2 : Int) ≤ s.size := by omega
  have hb : (b.toNat : Int) < 256 := by have := b.toNat_lt; omega
  have hb0 : (0 : Int) ≤ b.toNat := by omega
  by_cases h100 : b.toNat ≤ 100
  · have hk : (b.toNat : Int) ≤ 100 := by omega
    have hd : decide (b.toNat ≤ 100) = true := by simpa using h100
    rw [hd]
    clear hc hd h100
    go_enter Tryd.func104, Tryd.ntmps104
    go_wp2
    go_ret
    exact ⟨ret_bool (by first | (simp; done) | (simp; omega)), Below.refl _ _⟩
  · have hk : (100 : Int) < b.toNat := by omega
    have hd : decide (b.toNat ≤ 100) = false := by simpa using h100
    rw [hd]
    clear hc hd h100
    go_enter Tryd.func104, Tryd.ntmps104
    go_wp2
    go_ret
    exact ⟨ret_bool (by first | (simp; done) | (simp; omega)), Below.refl _ _⟩
set_option maxRecDepth 100000 in
theorem begins_5n (s : ByteArray) (c b : UInt8) (h : 1 < s.size) (e0 : s[0]'(by omega) = c) (e1 : s[1]'h = b) (hc : c.toNat = 5) (h100 : 100 < b.toNat) (w : World) :
    Calls Tryd.prog 104 #[.string s] w fun e w' => e = .returned (.bool false) ∧ Below w.heap.size w w' := by
  have g0 : ((s.size : Int) == 0) = false := by rw [beq_eq_false_iff_ne]; omega
  have hq : (c.toNat : Int) = 5 := by omega
  have hI : (2 : Int) ≤ s.size := by omega
  have hb : (b.toNat : Int) < 256 := by have := b.toNat_lt; omega
  have hb0 : (0 : Int) ≤ b.toNat := by omega
  have hk : (100 : Int) < b.toNat := by omega
  have hd1 : decide ((s.size : Int) < 2) = false := by simp; omega
  have hd2 : decide ((b.toNat : Int) ≤ 100) = false := by simp; omega
  clear hc h100
  go_enter Tryd.func104, Tryd.ntmps104
  go_wp2
  go_quiet (fail)
  go_wp2
  go_ret
  exact ⟨rfl, below_drewN (Below.refl _ _) _⟩
set_option maxRecDepth 100000 in
theorem begins_5 (s : ByteArray) (c b : UInt8) (h : 1 < s.size) (e0 : s[0]'(by omega) = c) (e1 : s[1]'h = b) (hc : c.toNat = 5) (h100 : b.toNat ≤ 100) (hs : s.size ≤ 102) (w : World) (hT : Tabs w) :
    Calls Tryd.prog 104 #[.string s] w fun e w' => e = .returned (.bool (tbB (s.data.toList.drop 2) b.toNat)) ∧ Below w.heap.size w w' := by
  have g0 : ((s.size : Int) == 0) = false := by rw [beq_eq_false_iff_ne]; omega
  have hq : (c.toNat : Int) = 5 := by omega
  have hI : (2 : Int) ≤ s.size := by omega
  have hb : (b.toNat : Int) < 256 := by have := b.toNat_lt; omega
  have hb0 : (0 : Int) ≤ b.toNat := by omega
  have hk : (b.toNat : Int) ≤ 100 := by omega
  have hd1 : decide ((s.size : Int) < 2) = false := by simp; omega
  have hd2 : decide ((b.toNat : Int) ≤ 100) = true := by simp; omega
  have hI1 : (1 : Int) < s.size := by omega
  have hw : IntKind.i64.wrap (b.toNat : Int) = b.toNat := by simp [IntKind.wrap, IntKind.bits, IntKind.signed]; omega
  have hsl := slice_tail s 2 (by omega)
  have hv := fun W hW => tb_any (s.extract 2 s.size) b.toNat (by rw [ByteArray.size_extract]; omega) h100 W hW
  rw [tail_list] at hv
  have HV := Lib.hid hv
  have HT := Lib.hid hT
  generalize tbB (s.data.toList.drop 2) b.toNat = M at HV ⊢
  clear hc h100 hs hv hT
  go_enter Tryd.func104, Tryd.ntmps104
  go_wp2
  go_still_tail 14, (by kernel_rfl)
  change wpList _ _ _ _ _ w.drew
  have hbd := (Below.refl w.heap.size w).drew
  generalize w.drew = wd at hbd ⊢
  go_wp2_with (go_at_call 163; refine (HV.out _ (HT.out.ext hbd)).mono ?_; rintro e w' ⟨rfl, hb1⟩)
  go_ret
  exact ⟨rfl, bt hbd hb1⟩
end Go.Proofs.YtjdfodmialhakaaDoor

/- The contract of the reference's Get. -/
namespace Go.Proofs.YtjdfodmialhakaaDoor
open Go.RowKit

def trip (R : Int × V × Nat) : Value := .tuple #[R.2.1.agg, .int .i64 R.2.2, .int .i64 R.1]
theorem ret_get {tmps : Array Value} {W : World} {b : Nat} (v : V) (n e : Int) (ht : tmps.getD 2 undef = .pointer (some ⟨b, 0, none⟩)) (h3 : tmps.getD 3 undef = .int .i64 n) (h4 : tmps.getD 4 undef = .int .i64 e) (h : VBlk W b v) :
    (results Tryd.f29 tmps).run Tryd.prog W = .ok (.tuple #[v.agg, .int .i64 n, .int .i64 e]) W := by
  have hl := load_V v h
  have ht' : tmps[2]?.getD undef = .pointer (some ⟨b, 0, none⟩) := by simpa using ht
  have h3' : tmps[3]?.getD undef = .int .i64 n := by simpa using h3
  have h4' : tmps[4]?.getD undef = .int .i64 e := by simpa using h4
  simp only [results, Tryd.results29]
  simp [ht', h3', h4', asAddr, hl]
set_option maxRecDepth 100000 in
set_option maxHeartbeats 400000 in
theorem refget_short (s : ByteArray) (hs : s.size ≤ 140737488355328) (z : Int) (hz : sizeL s.data.toList = z) (h : z < 0 ∨ (0 ≤ z ∧ (s.size : Int) < z)) (bb : Bool)
    (hB : ∀ W, Tabs W → Calls Tryd.prog 104 #[.string s] W fun e w' => e = .returned (.bool bb) ∧ Below W.heap.size W w') (w : World) (hT : Tabs w) :
    Calls Tryd.prog 29 #[.string s] w fun e w' => e = .returned (trip (if bb then 6 else 7, V0, 0)) ∧ Below w.heap.size w w' := by
  have hS := fun W => refsize_any s W hs
  rw [hz] at hS
  have HS := Lib.hid hS
  have HB := Lib.hid hB
  have HT := Lib.hid hT
  clear hS hB hT hz
  have tail : ∀ (a : Act) (w1 : World) (E : Int), VBlk w1 w.heap.size V0 → Below w.heap.size w w1 → a.tmps.getD 2 undef = .pointer (some ⟨w.heap.size, 0, none⟩) → a.tmps.getD 3 undef = .int .i64 0 → a.tmps.getD 4 undef = .int .i64 E → a.defers = [] →
      bodyPost Tryd.prog Tryd.f29 (fun e w' => e = .returned (trip (E, V0, 0)) ∧ Below w.heap.size w w') Exit.ret a ((((w1.setCell ⟨w.heap.size, 0, none⟩ (.int .u8 0)).setCell ⟨w.heap.size, 1, none⟩ (.int .i64 0)).setCell ⟨w.heap.size, 2, none⟩ (.int .u64 0)).setCell ⟨w.heap.size, 3, none⟩ (.string ByteArray.empty)) := by
    intro a w1 E hV hb h2 h3 h4 hd
    refine bodyPost_ret (ret_get V0 0 E h2 h3 h4 (hV.set4 0 0 0 ByteArray.empty)) hd ⟨rfl, ?_⟩
    exact (((hb.setCell (Nat.le_refl _) _).setCell (Nat.le_refl _) _).setCell (Nat.le_refl _) _).setCell (Nat.le_refl _) _
  have TL := Lib.hid tail
  clear tail
  rcases h with h | h
  · have hd1 : decide (z < 0) = true := by simpa using h
    cases bb
    all_goals
      go_enter Tryd.func29, Tryd.ntmps29
      go_wp2_with (first | (go_at_call 103; refine (HS.out _).mono ?_; rintro e w' ⟨rfl, rfl⟩) | (go_at_call 104; refine (HB.out _ (HT.out.ext ((Below.refl _ _).alloc (Nat.le_refl _) _))).mono ?_; rintro e w1 ⟨rfl, hb1⟩; have hV := (VBlk.new w).ext hb1; obtain ⟨d0, d1, d2, d3, d4⟩ := hV.zero; have HV := Lib.hid hV; have HB1 := Lib.hid hb1; clear hV hb1))
      exact TL.out _ _ _ HV.out (bt ((Below.refl _ _).alloc (Nat.le_refl _) _) HB1.out) rfl rfl rfl rfl
  · obtain ⟨h1, h2⟩ := h
    cases bb
    all_goals
      go_enter Tryd.func29, Tryd.ntmps29
      go_wp2_with (first | (go_at_call 103; refine (HS.out _).mono ?_; rintro e w' ⟨rfl, rfl⟩) | (go_at_call 104; refine (HB.out _ (HT.out.ext ((Below.refl _ _).alloc (Nat.le_refl _) _))).mono ?_; rintro e w1 ⟨rfl, hb1⟩; have hV := (VBlk.new w).ext hb1; obtain ⟨d0, d1, d2, d3, d4⟩ := hV.zero; have HV := Lib.hid hV; have HB1 := Lib.hid hb1; clear hV hb1))
      exact TL.out _ _ _ HV.out (bt ((Below.refl _ _).alloc (Nat.le_refl _) _) HB1.out) rfl rfl rfl rfl
theorem VBlk.cells4 {w : World} {b : Nat} {k n r : Int} {t : ByteArray} (h : VBlk w b ⟨k, n, r, t⟩) : w.cell? ⟨b, 0, none⟩ = some (.int .u8 k) ∧ w.cell? ⟨b, 1, none⟩ = some (.int .i64 n) ∧ w.cell? ⟨b, 2, none⟩ = some (.int .u64 r) ∧ w.cell? ⟨b, 3, none⟩ = some (.string t) ∧ ∀ i, w.frozen? ⟨b, i, none⟩ = false :=
  ⟨cell_of_row w b 0 _ _ (0, 0) h, cell_of_row w b 1 _ _ (0, 0) h, cell_of_row w b 2 _ _ (0, 0) h, cell_of_row w b 3 _ _ (0, 0) h, fun i => by unfold VBlk at h; simp [World.frozen?, h]⟩
theorem VBlk.mk4 (w : World) (k n r : Int) (t : ByteArray) : VBlk (w.alloc (.cells #[.int .u8 k, .int .i64 n, .int .u64 r, .string t] 24)) w.heap.size ⟨k, n, r, t⟩ := heap_alloc_new w _
theorem ret_end {w w1 : World} {a : Act} (v : V) (n E : Int) (hV : VBlk w1 w.heap.size V0) (hb : Below w.heap.size w w1) (h2 : a.tmps.getD 2 undef = .pointer (some ⟨w.heap.size, 0, none⟩)) (h3 : a.tmps.getD 3 undef = .int .i64 n) (h4 : a.tmps.getD 4 undef = .int .i64 E) (hd : a.defers = []) :
      bodyPost Tryd.prog Tryd.f29 (fun e w' => e = .returned (.tuple #[v.agg, .int .i64 n, .int .i64 E]) ∧ Below w.heap.size w w') Exit.ret a ((((w1.setCell ⟨w.heap.size, 0, none⟩ (.int .u8 v.k)).setCell ⟨w.heap.size, 1, none⟩ (.int .i64 v.n)).setCell ⟨w.heap.size, 2, none⟩ (.int .u64 v.r)).setCell ⟨w.heap.size, 3, none⟩ (.string v.t)) := by
  refine bodyPost_ret (ret_get v n E h2 h3 h4 (hV.set4 v.k v.n v.r v.t)) hd ⟨rfl, ?_⟩
  exact (((hb.setCell (Nat.le_refl _) _).setCell (Nat.le_refl _) _).setCell (Nat.le_refl _) _).setCell (Nat.le_refl _) _
set_option maxRecDepth 100000 in
set_option maxHeartbeats 400000 in
theorem refget_long (s : ByteArray) (hs : s.size ≤ 140737488355328) (z : Nat) (hz : sizeL s.data.toList = z) (h : z ≤ s.size) (v : V) (hv : v.wf)
    (hW : ∀ W, Calls Tryd.prog 105 #[.string (s.extract 0 z)] W fun e w' => e = .returned v.agg ∧ Below W.heap.size W w') (w : World) (hT : Tabs w) :
    Calls Tryd.prog 29 #[.string s] w fun e w' => e = .returned (trip (finV v z)) ∧ Below w.heap.size w w' := by
  have hS := fun W => refsize_any s W hs
  rw [hz] at hS
  have hM := fun W hW => may_any v hv W hW
  obtain ⟨k, n, r, t⟩ := v
  have hsl := slice_upto s z h
  have h0 : (0 : Int) ≤ z := by omega
  have h1 : (z : Int) ≤ s.size := by omega
  have HS := Lib.hid hS
  have HT := Lib.hid hT
  cases hm : mayB ⟨k, n, r, t⟩
  · rw [finV_not hm]
    rw [hm] at hM
    unfold V.agg at hM hW
    have HM := Lib.hid hM
    have HW := Lib.hid hW
    clear hS hM hW hT hz hm hv
    go_enter Tryd.func29, Tryd.ntmps29
    go_wp2_with (first | (go_at_call 103; refine (HS.out _).mono ?_; rintro e w' ⟨rfl, rfl⟩) | (go_at_call 105; refine (HW.out _).mono ?_; rintro e w1 ⟨rfl, hb1⟩; have hz1 : w.heap.size < w1.heap.size := (by have := hb1.size; simp at this; omega); have hV := (VBlk.new w).ext hb1; have HV := Lib.hid hV; have HB1 := Lib.hid (bt ((Below.refl w.heap.size w).alloc (Nat.le_refl _) _) hb1); clear hV hb1) | (go_at_call 23; refine (HM.out _ (HT.out.ext (bt HB1.out ((Below.refl _ _).alloc (Nat.le_refl _) _)))).mono ?_; rintro e w2 ⟨rfl, hb2⟩; have hV2 := (HV.out.ext ((Below.refl _ _).alloc (Nat.le_refl _) _)).ext hb2; have hU2 := (VBlk.mk4 w1 k n r t).ext hb2; obtain ⟨d0, d1, d2, d3, d4⟩ := hV2.zero; obtain ⟨c0, c1, c2, c3, c4⟩ := hU2.cells4; have HV2 := Lib.hid hV2; have HB2 := Lib.hid (bt HB1.out (bt ((Below.refl w1.heap.size w1).alloc (Nat.le_refl _) _) hb2)); clear hV2 hb2 hU2))
    exact ret_end V0 0 7 HV2.out HB2.out rfl rfl rfl rfl
  · rw [finV_yes hm]
    rw [hm] at hM
    unfold V.agg at hM hW
    have HM := Lib.hid hM
    have HW := Lib.hid hW
    clear hS hM hW hT hz hm hv
    go_enter Tryd.func29, Tryd.ntmps29
    go_wp2_with (first | (go_at_call 103; refine (HS.out _).mono ?_; rintro e w' ⟨rfl, rfl⟩) | (go_at_call 105; refine (HW.out _).mono ?_; rintro e w1 ⟨rfl, hb1⟩; have hz1 : w.heap.size < w1.heap.size := (by have := hb1.size; simp at this; omega); have hV := (VBlk.new w).ext hb1; have HV := Lib.hid hV; have HB1 := Lib.hid (bt ((Below.refl w.heap.size w).alloc (Nat.le_refl _) _) hb1); clear hV hb1) | (go_at_call 23; refine (HM.out _ (HT.out.ext (bt HB1.out ((Below.refl _ _).alloc (Nat.le_refl _) _)))).mono ?_; rintro e w2 ⟨rfl, hb2⟩; have hV2 := (HV.out.ext ((Below.refl _ _).alloc (Nat.le_refl _) _)).ext hb2; have hU2 := (VBlk.mk4 w1 k n r t).ext hb2; obtain ⟨d0, d1, d2, d3, d4⟩ := hV2.zero; obtain ⟨c0, c1, c2, c3, c4⟩ := hU2.cells4; have HV2 := Lib.hid hV2; have HB2 := Lib.hid (bt HB1.out (bt ((Below.refl w1.heap.size w1).alloc (Nat.le_refl _) _) hb2)); clear hV2 hb2 hU2))
    exact ret_end ⟨k, n, r, t⟩ z 0 HV2.out HB2.out rfl rfl rfl rfl
end Go.Proofs.YtjdfodmialhakaaDoor

/- The reference's Get, at all bytes. -/
namespace Go.Proofs.YtjdfodmialhakaaDoor
open Go.RowKit

def refG : List UInt8 → Int × V × Nat
  | [] => (6, V0, 0)
  | c :: r =>
    if c.toNat = 0 then finV ⟨0, 0, 0, ByteArray.empty⟩ 1
    else if c.toNat = 1 then (match r with | [] => (6, V0, 0) | b :: _ => finV ⟨1, b.toNat, 0, ByteArray.empty⟩ 2)
    else if c.toNat = 2 then if r.length < 8 then (6, V0, 0) else finV ⟨2, i64of (valL (r.take 8)), 0, ByteArray.empty⟩ 9
    else if c.toNat = 3 then if r.length < 8 then (6, V0, 0) else finV ⟨3, 0, valL (r.take 8), ByteArray.empty⟩ 9
    else if c.toNat = 4 ∨ c.toNat = 5 then
      (match r with
        | [] => (6, V0, 0)
        | b :: r' => if r'.length < b.toNat then (if (decide (b.toNat ≤ 100) && (c.toNat == 4 || tbB r' b.toNat)) = true then 6 else 7, V0, 0) else finV ⟨c.toNat, 0, 0, ⟨(r'.take b.toNat).toArray⟩⟩ (2 + b.toNat))
    else (7, V0, 0)
theorem valL_lt8 (l : List UInt8) (h : l.length = 8) : valL l < 18446744073709551616 := by
  have := valL_lt l
  rw [h] at this
  exact this
theorem bytes_ext {s : ByteArray} {l : List UInt8} (h : s.data.toList = l) : s = ⟨l.toArray⟩ := by subst h; rfl
theorem head_at {s : ByteArray} {i : Nat} {c : UInt8} (h : s.data.toList[i]? = some c) : ∃ hi : i < s.size, s[i]'hi = c := by
  have hi : i < s.size := by
    rcases Nat.lt_or_ge i s.size with h' | h'
    · exact h'
    · rw [List.getElem?_eq_none (by simpa using h')] at h; cases h
  exact ⟨hi, idx_at s i c h hi⟩
theorem sizeL_t (c : UInt8) (r : List UInt8) (k4 : c.toNat = 4 ∨ c.toNat = 5) : sizeL (c :: r) = (match r with | [] => -1 | b :: _ => 2 + (b.toNat : Int)) := by
  simp only [sizeL]; rw [if_neg (by omega), if_neg (by omega), if_pos k4]; cases r <;> rfl
theorem refG_t (c : UInt8) (r : List UInt8) (k4 : c.toNat = 4 ∨ c.toNat = 5) : refG (c :: r) = (match r with
        | [] => (6, V0, 0)
        | b :: r' => if r'.length < b.toNat then (if (decide (b.toNat ≤ 100) && (c.toNat == 4 || tbB r' b.toNat)) = true then 6 else 7, V0, 0) else finV ⟨c.toNat, 0, 0, ⟨(r'.take b.toNat).toArray⟩⟩ (2 + b.toNat)) := by
  simp only [refG]; rw [if_neg (by omega), if_neg (by omega), if_neg (by omega), if_neg (by omega), if_pos k4]
theorem may_far {k : Int} (h : 5 < k) : mayB ⟨k, 0, 0, ByteArray.empty⟩ = false := by
  unfold mayB; simp only; rw [if_neg (by omega), if_neg (by omega), if_neg (by omega), if_neg (by omega), if_neg (by omega), if_neg (by omega)]
theorem refget_any (s : ByteArray) (hs : s.size ≤ 140737488355328) (w : World) (hT : Tabs w) :
    Calls Tryd.prog 29 #[.string s] w fun e w' => e = .returned (trip (refG s.data.toList)) ∧ Below w.heap.size w w' := by
  have hlen : s.data.toList.length = s.size := by simp
  cases hl : s.data.toList with
  | nil =>
    have h0 : s.size = 0 := by rw [← hlen, hl]; rfl
    obtain rfl := empty_of_size h0
    exact refget_short _ hs (-1) rfl (Or.inl (by omega)) true (fun W _ => begins_nil W) w hT
  | cons c r =>
    have hz : s.size = r.length + 1 := by rw [← hlen, hl]; rfl
    obtain ⟨p0, e0⟩ := head_at (s := s) (i := 0) (c := c) (by rw [hl]; rfl)
    have hcb := c.toNat_lt
    have long : ∀ (z : Nat) (v : V), sizeL (c :: r) = z → z ≤ s.size → v.wf → (∀ W, Calls Tryd.prog 105 #[.string (s.extract 0 z)] W fun e w' => e = .returned v.agg ∧ Below W.heap.size W w') → refG (c :: r) = finV v z → Calls Tryd.prog 29 #[.string s] w fun e w' => e = .returned (trip (refG (c :: r))) ∧ Below w.heap.size w w' := by
      intro z v h1 h2 h3 h4 h5
      rw [h5]
      exact refget_long s hs z (by rw [hl]; exact h1) h2 v h3 h4 w hT
    have short : ∀ (bb : Bool), (sizeL (c :: r) < 0 ∨ (0 ≤ sizeL (c :: r) ∧ (s.size : Int) < sizeL (c :: r))) → (∀ W, Tabs W → Calls Tryd.prog 104 #[.string s] W fun e w' => e = .returned (.bool bb) ∧ Below W.heap.size W w') → refG (c :: r) = (if bb then 6 else 7, V0, 0) → Calls Tryd.prog 29 #[.string s] w fun e w' => e = .returned (trip (refG (c :: r))) ∧ Below w.heap.size w w' := by
      intro bb h1 h2 h3
      rw [h3]
      exact refget_short s hs (sizeL (c :: r)) (by rw [hl]) h1 bb h2 w hT
    have upz : ∀ z, z ≤ s.size → (s.extract 0 z).size = z := by intro z h; rw [ByteArray.size_extract]; omega
    have upl : ∀ z, (s.extract 0 z).data.toList = (c :: r).take z := by intro z; rw [upto_list, hl]
    have nb : ∀ (b : UInt8), b.toNat < 256 := fun b => b.toNat_lt
    have h0z : (ByteArray.empty).size ≤ 140737488355328 := by decide
    by_cases k0 : c.toNat = 0
    · refine long 1 ⟨0, 0, 0, ByteArray.empty⟩ (by simp [sizeL, k0]) (by omega) (wf_mk (by omega) (by omega) (by omega) (by omega) (by omega) (by omega) h0z) (fun W => ?_) (by simp [refG, k0])
      obtain ⟨q0, f0⟩ := head_at (s := s.extract 0 1) (i := 0) (c := c) (by rw [upl]; rfl)
      have := whole_o (s.extract 0 1) c q0 f0 (Or.inl k0) W
      simpa [k0] using this
    by_cases k1 : c.toNat = 1
    · cases r with
      | nil => exact short true (Or.inr ⟨by simp [sizeL, k1], by simp [sizeL, k1]; simp at hz; omega⟩) (fun W _ => begins_12 s c p0 e0 (Or.inl k1) W) (by simp [refG, k1])
      | cons b r =>
        have := nb b
        simp at hz
        refine long 2 ⟨1, b.toNat, 0, ByteArray.empty⟩ (by simp [sizeL, k1]) (by omega) (wf_mk (by omega) (by omega) (by omega) (by omega) (by omega) (by omega) h0z) (fun W => ?_) (by simp [refG, k1])
        obtain ⟨q0, f0⟩ := head_at (s := s.extract 0 2) (i := 0) (c := c) (by rw [upl]; rfl)
        obtain ⟨q1, f1⟩ := head_at (s := s.extract 0 2) (i := 1) (c := b) (by rw [upl]; rfl)
        exact whole_1 (s.extract 0 2) c b q1 f0 f1 k1 W
    by_cases k2 : c.toNat = 2
    · by_cases h8 : r.length < 8
      · exact short true (Or.inr ⟨by simp [sizeL, k2], by simp [sizeL, k2]; omega⟩) (fun W _ => begins_12 s c p0 e0 (Or.inr k2) W) (by simp [refG, k2, h8])
      · have hv := valL_lt8 (r.take 8) (by simp; omega)
        have hi := i64of_range (valL (r.take 8)) (by omega)
        refine long 9 ⟨2, i64of (valL (r.take 8)), 0, ByteArray.empty⟩ (by simp [sizeL, k2]) (by omega) (wf_mk (by omega) (by omega) hi.1 hi.2 (by omega) (by omega) h0z) (fun W => ?_) (by simp [refG, k2, h8])
        obtain ⟨q0, f0⟩ := head_at (s := s.extract 0 9) (i := 0) (c := c) (by rw [upl]; rfl)
        have := whole_2 (s.extract 0 9) c q0 (upz 9 (by omega)) f0 k2 W
        rw [upl] at this
        exact this
    by_cases k3 : c.toNat = 3
    · by_cases h8 : r.length < 8
      · exact short true (Or.inr ⟨by simp [sizeL, k3], by simp [sizeL, k3]; omega⟩) (fun W _ => begins_3 s c p0 (by omega) e0 k3 W) (by simp [refG, k3, h8])
      · have hv := valL_lt8 (r.take 8) (by simp; omega)
        refine long 9 ⟨3, 0, valL (r.take 8), ByteArray.empty⟩ (by simp [sizeL, k3]) (by omega) (wf_mk (by omega) (by omega) (by omega) (by omega) (by omega) (by omega) h0z) (fun W => ?_) (by simp [refG, k3, h8])
        obtain ⟨q0, f0⟩ := head_at (s := s.extract 0 9) (i := 0) (c := c) (by rw [upl]; rfl)
        have := whole_3 (s.extract 0 9) c q0 (upz 9 (by omega)) f0 k3 W
        rw [upl] at this
        exact this
    by_cases k5 : 5 < c.toNat
    · have k4 : ¬ (c.toNat = 4 ∨ c.toNat = 5) := by omega
      have ks : sizeL (c :: r) = (1 : Nat) := by simp only [sizeL]; rw [if_neg k1, if_neg (by omega), if_neg k4]; rfl
      refine long 1 ⟨c.toNat, 0, 0, ByteArray.empty⟩ ks (by omega) (wf_mk (by omega) (by omega) (by omega) (by omega) (by omega) (by omega) h0z) (fun W => ?_) ?_
      · obtain ⟨q0, f0⟩ := head_at (s := s.extract 0 1) (i := 0) (c := c) (by rw [upl]; rfl)
        exact whole_o (s.extract 0 1) c q0 f0 (Or.inr k5) W
      · rw [finV_not (may_far (by omega))]
        simp only [refG]; rw [if_neg k0, if_neg k1, if_neg k2, if_neg k3, if_neg k4]
    have k4 : c.toNat = 4 ∨ c.toNat = 5 := by omega
    have kz := sizeL_t c r k4
    have kg := refG_t c r k4
    cases r with
    | nil =>
      simp at hz
      exact short true (Or.inl (by rw [kz]; simp)) (fun W _ => begins_45e s c p0 (by omega) e0 k4 W) kg
    | cons b r =>
      have hbl := nb b
      simp at hz
      simp only at kz kg
      by_cases hsh : r.length < b.toNat
      · rw [if_pos hsh] at kg
        obtain ⟨p1, e1⟩ := head_at (s := s) (i := 1) (c := b) (by rw [hl]; rfl)
        have hsz : sizeL (c :: b :: r) < 0 ∨ (0 ≤ sizeL (c :: b :: r) ∧ (s.size : Int) < sizeL (c :: b :: r)) := Or.inr ⟨by omega, by omega⟩
        rcases k4 with k4 | k4
        · refine short (decide (b.toNat ≤ 100)) hsz (fun W _ => begins_4 s c b p1 e0 e1 k4 W) ?_
          rw [kg]; simp [k4]
        · by_cases h100 : b.toNat ≤ 100
          · refine short (tbB r b.toNat) hsz (fun W hW => ?_) ?_
            · have := begins_5 s c b p1 e0 e1 k4 h100 (by omega) W hW
              rw [hl] at this
              exact this
            · rw [kg]; simp [k4, h100]
          · refine short false hsz (fun W _ => begins_5n s c b p1 e0 e1 k4 (by omega) W) ?_
            rw [kg]; simp [h100]
      · rw [if_neg hsh] at kg
        refine long (2 + b.toNat) ⟨c.toNat, 0, 0, ⟨(r.take b.toNat).toArray⟩⟩ (by rw [kz]; omega) (by omega) (wf_mk (by omega) (by omega) (by omega) (by omega) (by omega) (by omega) (by simp [ByteArray.size]; omega)) (fun W => ?_) kg
        obtain ⟨q0, f0⟩ := head_at (s := s.extract 0 (2 + b.toNat)) (i := 0) (c := c) (by rw [upl, Nat.add_comm]; rfl)
        have q1 : 1 < (s.extract 0 (2 + b.toNat)).size := by rw [upz _ (by omega)]; omega
        have := whole_t (s.extract 0 (2 + b.toNat)) c q1 f0 k4 W
        rw [bytes_ext (s := (s.extract 0 (2 + b.toNat)).extract 2 (s.extract 0 (2 + b.toNat)).size) (l := r.take b.toNat) (by rw [tail_list, upl, Nat.add_comm]; rfl)] at this
        exact this
end Go.Proofs.YtjdfodmialhakaaDoor
