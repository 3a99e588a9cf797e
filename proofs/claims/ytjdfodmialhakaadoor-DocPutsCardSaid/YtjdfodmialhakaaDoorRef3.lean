/- Several texts in one: see each part's head. -/
import Derived.Test.YtjdfodmialhakaaDoorRef1
import Derived.Test.YtjdfodmialhakaaDoorOpens
/- The contract of the reference's opens: whether some bytes, at most three, begin a letter of so many at most. -/
namespace Go.Proofs.YtjdfodmialhakaaDoor
open Go.RowKit

def leadN (c : Nat) : Nat := if c < 194 then 0 else if c < 224 then 2 else if c < 240 then 3 else if c < 245 then 4 else 0
def lowN (c : Nat) : Nat := if c = 224 then 160 else if c = 240 then 144 else 128
def highN (c : Nat) : Nat := if c = 237 then 159 else if c = 244 then 143 else 191
def ropensN (k lo hi len : Nat) (m : Int) (b1 b2 : Nat) : Bool := decide (k ≠ 0 ∧ (k : Int) ≤ m ∧ len < k ∧ (2 ≤ len → lo ≤ b1 ∧ b1 ≤ hi) ∧ (3 ≤ len → 128 ≤ b2 ∧ b2 ≤ 191))
def ropensB (l : List UInt8) (m : Int) : Bool := ropensN (leadN (l.getD 0 0).toNat) (lowN (l.getD 0 0).toNat) (highN (l.getD 0 0).toNat) l.length m (l.getD 1 0).toNat (l.getD 2 0).toNat
theorem lead_class (c : Nat) (h : c < 256) :
    (c < 194 ∧ leadN c = 0) ∨ ((194 ≤ c ∧ c ≤ 223) ∧ leadN c = 2 ∧ lowN c = 128 ∧ highN c = 191) ∨ (c = 224 ∧ leadN c = 3 ∧ lowN c = 160 ∧ highN c = 191) ∨
    ((225 ≤ c ∧ c ≤ 236) ∧ leadN c = 3 ∧ lowN c = 128 ∧ highN c = 191) ∨ (c = 237 ∧ leadN c = 3 ∧ lowN c = 128 ∧ highN c = 159) ∨ ((238 ≤ c ∧ c ≤ 239) ∧ leadN c = 3 ∧ lowN c = 128 ∧ highN c = 191) ∨
    (c = 240 ∧ leadN c = 4 ∧ lowN c = 144 ∧ highN c = 191) ∨ ((241 ≤ c ∧ c ≤ 243) ∧ leadN c = 4 ∧ lowN c = 128 ∧ highN c = 191) ∨ (c = 244 ∧ leadN c = 4 ∧ lowN c = 128 ∧ highN c = 143) ∨ (245 ≤ c ∧ leadN c = 0) := by
  have L0 : c < 194 → leadN c = 0 := fun h => by unfold leadN; rw [if_pos h]
  have L2 : 194 ≤ c → c < 224 → leadN c = 2 := fun h h' => by unfold leadN; rw [if_neg (by omega), if_pos h']
  have L3 : 224 ≤ c → c < 240 → leadN c = 3 := fun h h' => by unfold leadN; rw [if_neg (by omega), if_neg (by omega), if_pos h']
  have L4 : 240 ≤ c → c < 245 → leadN c = 4 := fun h h' => by unfold leadN; rw [if_neg (by omega), if_neg (by omega), if_neg (by omega), if_pos h']
  have L5 : 245 ≤ c → leadN c = 0 := fun h => by unfold leadN; rw [if_neg (by omega), if_neg (by omega), if_neg (by omega), if_neg (by omega)]
  have A1 : c = 224 → lowN c = 160 := fun h => by unfold lowN; rw [if_pos h]
  have A2 : c = 240 → lowN c = 144 := fun h => by unfold lowN; rw [if_neg (by omega), if_pos h]
  have A3 : ¬ c = 224 → ¬ c = 240 → lowN c = 128 := fun h h' => by unfold lowN; rw [if_neg h, if_neg h']
  have B1 : c = 237 → highN c = 159 := fun h => by unfold highN; rw [if_pos h]
  have B2 : c = 244 → highN c = 143 := fun h => by unfold highN; rw [if_neg (by omega), if_pos h]
  have B3 : ¬ c = 237 → ¬ c = 244 → highN c = 191 := fun h h' => by unfold highN; rw [if_neg h, if_neg h']
  have hc : c < 194 ∨ (194 ≤ c ∧ c ≤ 223) ∨ c = 224 ∨ (225 ≤ c ∧ c ≤ 236) ∨ c = 237 ∨ (238 ≤ c ∧ c ≤ 239) ∨ c = 240 ∨ (241 ≤ c ∧ c ≤ 243) ∨ c = 244 ∨ 245 ≤ c := by omega
  rcases hc with h | h | h | h | h | h | h | h | h | h
  · exact .inl ⟨h, L0 h⟩
  · exact .inr (.inl ⟨h, L2 h.1 (by omega), A3 (by omega) (by omega), B3 (by omega) (by omega)⟩)
  · exact .inr (.inr (.inl ⟨h, L3 (by omega) (by omega), A1 h, B3 (by omega) (by omega)⟩))
  · exact .inr (.inr (.inr (.inl ⟨h, L3 (by omega) (by omega), A3 (by omega) (by omega), B3 (by omega) (by omega)⟩)))
  · exact .inr (.inr (.inr (.inr (.inl ⟨h, L3 (by omega) (by omega), A3 (by omega) (by omega), B1 h⟩))))
  · exact .inr (.inr (.inr (.inr (.inr (.inl ⟨h, L3 (by omega) (by omega), A3 (by omega) (by omega), B3 (by omega) (by omega)⟩)))))
  · exact .inr (.inr (.inr (.inr (.inr (.inr (.inl ⟨h, L4 (by omega) (by omega), A2 h, B3 (by omega) (by omega)⟩))))))
  · exact .inr (.inr (.inr (.inr (.inr (.inr (.inr (.inl ⟨h, L4 (by omega) (by omega), A3 (by omega) (by omega), B3 (by omega) (by omega)⟩)))))))
  · exact .inr (.inr (.inr (.inr (.inr (.inr (.inr (.inr (.inl ⟨h, L4 (by omega) (by omega), A3 (by omega) (by omega), B2 h⟩))))))))
  · exact .inr (.inr (.inr (.inr (.inr (.inr (.inr (.inr (.inr ⟨h, L5 h⟩))))))))
set_option maxRecDepth 100000 in
theorem ropens_a1 (s : ByteArray) (c : UInt8) (hq : (c.toNat : Int) < 194) (m : Int) (h1 : 1 ≤ s.size) (h2 : s.size ≤ 1) (e0 : s[0]'(by omega) = c) (b1 : Nat) (b2 : Nat) (lo hi : Nat) (w : World) :
    Calls Tryd.prog 177 #[.string s, .int .i64 m] w fun e w' => e = .returned (.bool (ropensN 0 lo hi 1 m b1 b2)) ∧ w = w' := by
  generalize hM : ropensN 0 lo hi 1 m _ _ = M
  have HM := Lib.hid hM
  clear hM
  go_enter Tryd.func177, Tryd.ntmps177
  go_wp2
  all_goals try (refine wp_loop_rounds 1 ?_; iterate 1 (all_goals try (rw [rounds_succ]; go_wp2)))
  all_goals
    go_ret
    refine ⟨ret_bool ?_, rfl⟩
    rw [← HM.out]
    unfold ropensN
    first
      | exact (decide_eq_true (by omega)).symm
      | exact (decide_eq_false (by omega)).symm
set_option maxRecDepth 100000 in
theorem ropens_a2 (s : ByteArray) (c : UInt8) (hq : (c.toNat : Int) < 194) (m : Int) (h1 : 2 ≤ s.size) (h2 : s.size ≤ 2) (e0 : s[0]'(by omega) = c) (b2 : Nat) (lo hi : Nat) (w : World) :
    Calls Tryd.prog 177 #[.string s, .int .i64 m] w fun e w' => e = .returned (.bool (ropensN 0 lo hi 2 m (s[1]'(by omega)).toNat b2)) ∧ w = w' := by
  generalize hM : ropensN 0 lo hi 2 m _ _ = M
  have HM := Lib.hid hM
  clear hM
  go_enter Tryd.func177, Tryd.ntmps177
  go_wp2
  all_goals try (refine wp_loop_rounds 2 ?_; iterate 2 (all_goals try (rw [rounds_succ]; go_wp2)))
  all_goals
    go_ret
    refine ⟨ret_bool ?_, rfl⟩
    rw [← HM.out]
    unfold ropensN
    first
      | exact (decide_eq_true (by omega)).symm
      | exact (decide_eq_false (by omega)).symm
set_option maxRecDepth 100000 in
theorem ropens_a3 (s : ByteArray) (c : UInt8) (hq : (c.toNat : Int) < 194) (m : Int) (h1 : 3 ≤ s.size) (h2 : s.size ≤ 3) (e0 : s[0]'(by omega) = c) (lo hi : Nat) (w : World) :
    Calls Tryd.prog 177 #[.string s, .int .i64 m] w fun e w' => e = .returned (.bool (ropensN 0 lo hi 3 m (s[1]'(by omega)).toNat (s[2]'(by omega)).toNat)) ∧ w = w' := by
  generalize hM : ropensN 0 lo hi 3 m _ _ = M
  have HM := Lib.hid hM
  clear hM
  go_enter Tryd.func177, Tryd.ntmps177
  go_wp2
  all_goals try (refine wp_loop_rounds 3 ?_; iterate 3 (all_goals try (rw [rounds_succ]; go_wp2)))
  all_goals
    go_ret
    refine ⟨ret_bool ?_, rfl⟩
    rw [← HM.out]
    unfold ropensN
    first
      | exact (decide_eq_true (by omega)).symm
      | exact (decide_eq_false (by omega)).symm
set_option maxRecDepth 100000 in
theorem ropens_b1 (s : ByteArray) (c : UInt8) (hq : (194 : Int) ≤ c.toNat) (hq' : (c.toNat : Int) ≤ 223) (m : Int) (h1 : 1 ≤ s.size) (h2 : s.size ≤ 1) (e0 : s[0]'(by omega) = c) (b1 : Nat) (b2 : Nat) (w : World) :
    Calls Tryd.prog 177 #[.string s, .int .i64 m] w fun e w' => e = .returned (.bool (ropensN 2 128 191 1 m b1 b2)) ∧ w = w' := by
  generalize hM : ropensN 2 128 191 1 m _ _ = M
  have HM := Lib.hid hM
  clear hM
  go_enter Tryd.func177, Tryd.ntmps177
  go_wp2
  all_goals try (refine wp_loop_rounds 1 ?_; iterate 1 (all_goals try (rw [rounds_succ]; go_wp2)))
  all_goals
    go_ret
    refine ⟨ret_bool ?_, rfl⟩
    rw [← HM.out]
    unfold ropensN
    first
      | exact (decide_eq_true (by omega)).symm
      | exact (decide_eq_false (by omega)).symm
set_option maxRecDepth 100000 in
theorem ropens_b2 (s : ByteArray) (c : UInt8) (hq : (194 : Int) ≤ c.toNat) (hq' : (c.toNat : Int) ≤ 223) (m : Int) (h1 : 2 ≤ s.size) (h2 : s.size ≤ 2) (e0 : s[0]'(by omega) = c) (b2 : Nat) (w : World) :
    Calls Tryd.prog 177 #[.string s, .int .i64 m] w fun e w' => e = .returned (.bool (ropensN 2 128 191 2 m (s[1]'(by omega)).toNat b2)) ∧ w = w' := by
  generalize hM : ropensN 2 128 191 2 m _ _ = M
  have HM := Lib.hid hM
  clear hM
  go_enter Tryd.func177, Tryd.ntmps177
  go_wp2
  all_goals try (refine wp_loop_rounds 2 ?_; iterate 2 (all_goals try (rw [rounds_succ]; go_wp2)))
  all_goals
    go_ret
    refine ⟨ret_bool ?_, rfl⟩
    rw [← HM.out]
    unfold ropensN
    first
      | exact (decide_eq_true (by omega)).symm
      | exact (decide_eq_false (by omega)).symm
set_option maxRecDepth 100000 in
theorem ropens_b3 (s : ByteArray) (c : UInt8) (hq : (194 : Int) ≤ c.toNat) (hq' : (c.toNat : Int) ≤ 223) (m : Int) (h1 : 3 ≤ s.size) (h2 : s.size ≤ 3) (e0 : s[0]'(by omega) = c) (w : World) :
    Calls Tryd.prog 177 #[.string s, .int .i64 m] w fun e w' => e = .returned (.bool (ropensN 2 128 191 3 m (s[1]'(by omega)).toNat (s[2]'(by omega)).toNat)) ∧ w = w' := by
  generalize hM : ropensN 2 128 191 3 m _ _ = M
  have HM := Lib.hid hM
  clear hM
  go_enter Tryd.func177, Tryd.ntmps177
  go_wp2
  all_goals try (refine wp_loop_rounds 3 ?_; iterate 3 (all_goals try (rw [rounds_succ]; go_wp2)))
  all_goals
    go_ret
    refine ⟨ret_bool ?_, rfl⟩
    rw [← HM.out]
    unfold ropensN
    first
      | exact (decide_eq_true (by omega)).symm
      | exact (decide_eq_false (by omega)).symm
set_option maxRecDepth 100000 in
theorem ropens_c1 (s : ByteArray) (c : UInt8) (hq : (c.toNat : Int) = 224) (m : Int) (h1 : 1 ≤ s.size) (h2 : s.size ≤ 1) (e0 : s[0]'(by omega) = c) (b1 : Nat) (b2 : Nat) (w : World) :
    Calls Tryd.prog 177 #[.string s, .int .i64 m] w fun e w' => e = .returned (.bool (ropensN 3 160 191 1 m b1 b2)) ∧ w = w' := by
  generalize hM : ropensN 3 160 191 1 m _ _ = M
  have HM := Lib.hid hM
  clear hM
  go_enter Tryd.func177, Tryd.ntmps177
  go_wp2
  all_goals try (refine wp_loop_rounds 1 ?_; iterate 1 (all_goals try (rw [rounds_succ]; go_wp2)))
  all_goals
    go_ret
    refine ⟨ret_bool ?_, rfl⟩
    rw [← HM.out]
    unfold ropensN
    first
      | exact (decide_eq_true (by omega)).symm
      | exact (decide_eq_false (by omega)).symm
set_option maxRecDepth 100000 in
theorem ropens_c2 (s : ByteArray) (c : UInt8) (hq : (c.toNat : Int) = 224) (m : Int) (h1 : 2 ≤ s.size) (h2 : s.size ≤ 2) (e0 : s[0]'(by omega) = c) (b2 : Nat) (w : World) :
    Calls Tryd.prog 177 #[.string s, .int .i64 m] w fun e w' => e = .returned (.bool (ropensN 3 160 191 2 m (s[1]'(by omega)).toNat b2)) ∧ w = w' := by
  generalize hM : ropensN 3 160 191 2 m _ _ = M
  have HM := Lib.hid hM
  clear hM
  go_enter Tryd.func177, Tryd.ntmps177
  go_wp2
  all_goals try (refine wp_loop_rounds 2 ?_; iterate 2 (all_goals try (rw [rounds_succ]; go_wp2)))
  all_goals
    go_ret
    refine ⟨ret_bool ?_, rfl⟩
    rw [← HM.out]
    unfold ropensN
    first
      | exact (decide_eq_true (by omega)).symm
      | exact (decide_eq_false (by omega)).symm
set_option maxRecDepth 100000 in
theorem ropens_c3 (s : ByteArray) (c : UInt8) (hq : (c.toNat : Int) = 224) (m : Int) (h1 : 3 ≤ s.size) (h2 : s.size ≤ 3) (e0 : s[0]'(by omega) = c) (w : World) :
    Calls Tryd.prog 177 #[.string s, .int .i64 m] w fun e w' => e = .returned (.bool (ropensN 3 160 191 3 m (s[1]'(by omega)).toNat (s[2]'(by omega)).toNat)) ∧ w = w' := by
  generalize hM : ropensN 3 160 191 3 m _ _ = M
  have HM := Lib.hid hM
  clear hM
  go_enter Tryd.func177, Tryd.ntmps177
  go_wp2
  all_goals try (refine wp_loop_rounds 3 ?_; iterate 3 (all_goals try (rw [rounds_succ]; go_wp2)))
  all_goals
    go_ret
    refine ⟨ret_bool ?_, rfl⟩
    rw [← HM.out]
    unfold ropensN
    first
      | exact (decide_eq_true (by omega)).symm
      | exact (decide_eq_false (by omega)).symm
set_option maxRecDepth 100000 in
theorem ropens_d1 (s : ByteArray) (c : UInt8) (hq : (225 : Int) ≤ c.toNat) (hq' : (c.toNat : Int) ≤ 236) (m : Int) (h1 : 1 ≤ s.size) (h2 : s.size ≤ 1) (e0 : s[0]'(by omega) = c) (b1 : Nat) (b2 : Nat) (w : World) :
    Calls Tryd.prog 177 #[.string s, .int .i64 m] w fun e w' => e = .returned (.bool (ropensN 3 128 191 1 m b1 b2)) ∧ w = w' := by
  generalize hM : ropensN 3 128 191 1 m _ _ = M
  have HM := Lib.hid hM
  clear hM
  go_enter Tryd.func177, Tryd.ntmps177
  go_wp2
  all_goals try (refine wp_loop_rounds 1 ?_; iterate 1 (all_goals try (rw [rounds_succ]; go_wp2)))
  all_goals
    go_ret
    refine ⟨ret_bool ?_, rfl⟩
    rw [← HM.out]
    unfold ropensN
    first
      | exact (decide_eq_true (by omega)).symm
      | exact (decide_eq_false (by omega)).symm
set_option maxRecDepth 100000 in
theorem ropens_d2 (s : ByteArray) (c : UInt8) (hq : (225 : Int) ≤ c.toNat) (hq' : (c.toNat : Int) ≤ 236) (m : Int) (h1 : 2 ≤ s.size) (h2 : s.size ≤ 2) (e0 : s[0]'(by omega) = c) (b2 : Nat) (w : World) :
    Calls Tryd.prog 177 #[.string s, .int .i64 m] w fun e w' => e = .returned (.bool (ropensN 3 128 191 2 m (s[1]'(by omega)).toNat b2)) ∧ w = w' := by
  generalize hM : ropensN 3 128 191 2 m _ _ = M
  have HM := Lib.hid hM
  clear hM
  go_enter Tryd.func177, Tryd.ntmps177
  go_wp2
  all_goals try (refine wp_loop_rounds 2 ?_; iterate 2 (all_goals try (rw [rounds_succ]; go_wp2)))
  all_goals
    go_ret
    refine ⟨ret_bool ?_, rfl⟩
    rw [← HM.out]
    unfold ropensN
    first
      | exact (decide_eq_true (by omega)).symm
      | exact (decide_eq_false (by omega)).symm
set_option maxRecDepth 100000 in
theorem ropens_d3 (s : ByteArray) (c : UInt8) (hq : (225 : Int) ≤ c.toNat) (hq' : (c.toNat : Int) ≤ 236) (m : Int) (h1 : 3 ≤ s.size) (h2 : s.size ≤ 3) (e0 : s[0]'(by omega) = c) (w : World) :
    Calls Tryd.prog 177 #[.string s, .int .i64 m] w fun e w' => e = .returned (.bool (ropensN 3 128 191 3 m (s[1]'(by omega)).toNat (s[2]'(by omega)).toNat)) ∧ w = w' := by
  generalize hM : ropensN 3 128 191 3 m _ _ = M
  have HM := Lib.hid hM
  clear hM
  go_enter Tryd.func177, Tryd.ntmps177
  go_wp2
  all_goals try (refine wp_loop_rounds 3 ?_; iterate 3 (all_goals try (rw [rounds_succ]; go_wp2)))
  all_goals
    go_ret
    refine ⟨ret_bool ?_, rfl⟩
    rw [← HM.out]
    unfold ropensN
    first
      | exact (decide_eq_true (by omega)).symm
      | exact (decide_eq_false (by omega)).symm
set_option maxRecDepth 100000 in
theorem ropens_e1 (s : ByteArray) (c : UInt8) (hq : (c.toNat : Int) = 237) (m : Int) (h1 : 1 ≤ s.size) (h2 : s.size ≤ 1) (e0 : s[0]'(by omega) = c) (b1 : Nat) (b2 : Nat) (w : World) :
    Calls Tryd.prog 177 #[.string s, .int .i64 m] w fun e w' => e = .returned (.bool (ropensN 3 128 159 1 m b1 b2)) ∧ w = w' := by
  generalize hM : ropensN 3 128 159 1 m _ _ = M
  have HM := Lib.hid hM
  clear hM
  go_enter Tryd.func177, Tryd.ntmps177
  go_wp2
  all_goals try (refine wp_loop_rounds 1 ?_; iterate 1 (all_goals try (rw [rounds_succ]; go_wp2)))
  all_goals
    go_ret
    refine ⟨ret_bool ?_, rfl⟩
    rw [← HM.out]
    unfold ropensN
    first
      | exact (decide_eq_true (by omega)).symm
      | exact (decide_eq_false (by omega)).symm
set_option maxRecDepth 100000 in
theorem ropens_e2 (s : ByteArray) (c : UInt8) (hq : (c.toNat : Int) = 237) (m : Int) (h1 : 2 ≤ s.size) (h2 : s.size ≤ 2) (e0 : s[0]'(by omega) = c) (b2 : Nat) (w : World) :
    Calls Tryd.prog 177 #[.string s, .int .i64 m] w fun e w' => e = .returned (.bool (ropensN 3 128 159 2 m (s[1]'(by omega)).toNat b2)) ∧ w = w' := by
  generalize hM : ropensN 3 128 159 2 m _ _ = M
  have HM := Lib.hid hM
  clear hM
  go_enter Tryd.func177, Tryd.ntmps177
  go_wp2
  all_goals try (refine wp_loop_rounds 2 ?_; iterate 2 (all_goals try (rw [rounds_succ]; go_wp2)))
  all_goals
    go_ret
    refine ⟨ret_bool ?_, rfl⟩
    rw [← HM.out]
    unfold ropensN
    first
      | exact (decide_eq_true (by omega)).symm
      | exact (decide_eq_false (by omega)).symm
set_option maxRecDepth 100000 in
theorem ropens_e3 (s : ByteArray) (c : UInt8) (hq : (c.toNat : Int) = 237) (m : Int) (h1 : 3 ≤ s.size) (h2 : s.size ≤ 3) (e0 : s[0]'(by omega) = c) (w : World) :
    Calls Tryd.prog 177 #[.string s, .int .i64 m] w fun e w' => e = .returned (.bool (ropensN 3 128 159 3 m (s[1]'(by omega)).toNat (s[2]'(by omega)).toNat)) ∧ w = w' := by
  generalize hM : ropensN 3 128 159 3 m _ _ = M
  have HM := Lib.hid hM
  clear hM
  go_enter Tryd.func177, Tryd.ntmps177
  go_wp2
  all_goals try (refine wp_loop_rounds 3 ?_; iterate 3 (all_goals try (rw [rounds_succ]; go_wp2)))
  all_goals
    go_ret
    refine ⟨ret_bool ?_, rfl⟩
    rw [← HM.out]
    unfold ropensN
    first
      | exact (decide_eq_true (by omega)).symm
      | exact (decide_eq_false (by omega)).symm
end Go.Proofs.YtjdfodmialhakaaDoor

/- The contract of the reference's opens: the other lead bytes; joined. -/
namespace Go.Proofs.YtjdfodmialhakaaDoor
open Go.RowKit

set_option maxRecDepth 100000 in
theorem ropens_f1 (s : ByteArray) (c : UInt8) (hq : (238 : Int) ≤ c.toNat) (hq' : (c.toNat : Int) ≤ 239) (m : Int) (h1 : 1 ≤ s.size) (h2 : s.size ≤ 1) (e0 : s[0]'(by omega) = c) (b1 : Nat) (b2 : Nat) (w : World) :
    Calls Tryd.prog 177 #[.string s, .int .i64 m] w fun e w' => e = .returned (.bool (ropensN 3 128 191 1 m b1 b2)) ∧ w = w' := by
  generalize hM : ropensN 3 128 191 1 m _ _ = M
  have HM := Lib.hid hM
  clear hM
  go_enter Tryd.func177, Tryd.ntmps177
  go_wp2
  all_goals try (refine wp_loop_rounds 1 ?_; iterate 1 (all_goals try (rw [rounds_succ]; go_wp2)))
  all_goals
    go_ret
    refine ⟨ret_bool ?_, rfl⟩
    rw [← HM.out]
    unfold ropensN
    first
      | exact (decide_eq_true (by omega)).symm
      | exact (decide_eq_false (by omega)).symm
set_option maxRecDepth 100000 in
theorem ropens_f2 (s : ByteArray) (c : UInt8) (hq : (238 : Int) ≤ c.toNat) (hq' : (c.toNat : Int) ≤ 239) (m : Int) (h1 : 2 ≤ s.size) (h2 : s.size ≤ 2) (e0 : s[0]'(by omega) = c) (b2 : Nat) (w : World) :
    Calls Tryd.prog 177 #[.string s, .int .i64 m] w fun e w' => e = .returned (.bool (ropensN 3 128 191 2 m (s[1]'(by omega)).toNat b2)) ∧ w = w' := by
  generalize hM : ropensN 3 128 191 2 m _ _ = M
  have HM := Lib.hid hM
  clear hM
  go_enter Tryd.func177, Tryd.ntmps177
  go_wp2
  all_goals try (refine wp_loop_rounds 2 ?_; iterate 2 (all_goals try (rw [rounds_succ]; go_wp2)))
  all_goals
    go_ret
    refine ⟨ret_bool ?_, rfl⟩
    rw [← HM.out]
    unfold ropensN
    first
      | exact (decide_eq_true (by omega)).symm
      | exact (decide_eq_false (by omega)).symm
set_option maxRecDepth 100000 in
theorem ropens_f3 (s : ByteArray) (c : UInt8) (hq : (238 : Int) ≤ c.toNat) (hq' : (c.toNat : Int) ≤ 239) (m : Int) (h1 : 3 ≤ s.size) (h2 : s.size ≤ 3) (e0 : s[0]'(by omega) = c) (w : World) :
    Calls Tryd.prog 177 #[.string s, .int .i64 m] w fun e w' => e = .returned (.bool (ropensN 3 128 191 3 m (s[1]'(by omega)).toNat (s[2]'(by omega)).toNat)) ∧ w = w' := by
  generalize hM : ropensN 3 128 191 3 m _ _ = M
  have HM := Lib.hid hM
  clear hM
  go_enter Tryd.func177, Tryd.ntmps177
  go_wp2
  all_goals try (refine wp_loop_rounds 3 ?_; iterate 3 (all_goals try (rw [rounds_succ]; go_wp2)))
  all_goals
    go_ret
    refine ⟨ret_bool ?_, rfl⟩
    rw [← HM.out]
    unfold ropensN
    first
      | exact (decide_eq_true (by omega)).symm
      | exact (decide_eq_false (by omega)).symm
set_option maxRecDepth 100000 in
theorem ropens_g1 (s : ByteArray) (c : UInt8) (hq : (c.toNat : Int) = 240) (m : Int) (h1 : 1 ≤ s.size) (h2 : s.size ≤ 1) (e0 : s[0]'(by omega) = c) (b1 : Nat) (b2 : Nat) (w : World) :
    Calls Tryd.prog 177 #[.string s, .int .i64 m] w fun e w' => e = .returned (.bool (ropensN 4 144 191 1 m b1 b2)) ∧ w = w' := by
  generalize hM : ropensN 4 144 191 1 m _ _ = M
  have HM := Lib.hid hM
  clear hM
  go_enter Tryd.func177, Tryd.ntmps177
  go_wp2
  all_goals try (refine wp_loop_rounds 1 ?_; iterate 1 (all_goals try (rw [rounds_succ]; go_wp2)))
  all_goals
    go_ret
    refine ⟨ret_bool ?_, rfl⟩
    rw [← HM.out]
    unfold ropensN
    first
      | exact (decide_eq_true (by omega)).symm
      | exact (decide_eq_false (by omega)).symm
set_option maxRecDepth 100000 in
theorem ropens_g2 (s : ByteArray) (c : UInt8) (hq : (c.toNat : Int) = 240) (m : Int) (h1 : 2 ≤ s.size) (h2 : s.size ≤ 2) (e0 : s[0]'(by omega) = c) (b2 : Nat) (w : World) :
    Calls Tryd.prog 177 #[.string s, .int .i64 m] w fun e w' => e = .returned (.bool (ropensN 4 144 191 2 m (s[1]'(by omega)).toNat b2)) ∧ w = w' := by
  generalize hM : ropensN 4 144 191 2 m _ _ = M
  have HM := Lib.hid hM
  clear hM
  go_enter Tryd.func177, Tryd.ntmps177
  go_wp2
  all_goals try (refine wp_loop_rounds 2 ?_; iterate 2 (all_goals try (rw [rounds_succ]; go_wp2)))
  all_goals
    go_ret
    refine ⟨ret_bool ?_, rfl⟩
    rw [← HM.out]
    unfold ropensN
    first
      | exact (decide_eq_true (by omega)).symm
      | exact (decide_eq_false (by omega)).symm
set_option maxRecDepth 100000 in
theorem ropens_g3 (s : ByteArray) (c : UInt8) (hq : (c.toNat : Int) = 240) (m : Int) (h1 : 3 ≤ s.size) (h2 : s.size ≤ 3) (e0 : s[0]'(by omega) = c) (w : World) :
    Calls Tryd.prog 177 #[.string s, .int .i64 m] w fun e w' => e = .returned (.bool (ropensN 4 144 191 3 m (s[1]'(by omega)).toNat (s[2]'(by omega)).toNat)) ∧ w = w' := by
  generalize hM : ropensN 4 144 191 3 m _ _ = M
  have HM := Lib.hid hM
  clear hM
  go_enter Tryd.func177, Tryd.ntmps177
  go_wp2
  all_goals try (refine wp_loop_rounds 3 ?_; iterate 3 (all_goals try (rw [rounds_succ]; go_wp2)))
  all_goals
    go_ret
    refine ⟨ret_bool ?_, rfl⟩
    rw [← HM.out]
    unfold ropensN
    first
      | exact (decide_eq_true (by omega)).symm
      | exact (decide_eq_false (by omega)).symm
set_option maxRecDepth 100000 in
theorem ropens_h1 (s : ByteArray) (c : UInt8) (hq : (241 : Int) ≤ c.toNat) (hq' : (c.toNat : Int) ≤ 243) (m : Int) (h1 : 1 ≤ s.size) (h2 : s.size ≤ 1) (e0 : s[0]'(by omega) = c) (b1 : Nat) (b2 : Nat) (w : World) :
    Calls Tryd.prog 177 #[.string s, .int .i64 m] w fun e w' => e = .returned (.bool (ropensN 4 128 191 1 m b1 b2)) ∧ w = w' := by
  generalize hM : ropensN 4 128 191 1 m _ _ = M
  have HM := Lib.hid hM
  clear hM
  go_enter Tryd.func177, Tryd.ntmps177
  go_wp2
  all_goals try (refine wp_loop_rounds 1 ?_; iterate 1 (all_goals try (rw [rounds_succ]; go_wp2)))
  all_goals
    go_ret
    refine ⟨ret_bool ?_, rfl⟩
    rw [← HM.out]
    unfold ropensN
    first
      | exact (decide_eq_true (by omega)).symm
      | exact (decide_eq_false (by omega)).symm
set_option maxRecDepth 100000 in
theorem ropens_h2 (s : ByteArray) (c : UInt8) (hq : (241 : Int) ≤ c.toNat) (hq' : (c.toNat : Int) ≤ 243) (m : Int) (h1 : 2 ≤ s.size) (h2 : s.size ≤ 2) (e0 : s[0]'(by omega) = c) (b2 : Nat) (w : World) :
    Calls Tryd.prog 177 #[.string s, .int .i64 m] w fun e w' => e = .returned (.bool (ropensN 4 128 191 2 m (s[1]'(by omega)).toNat b2)) ∧ w = w' := by
  generalize hM : ropensN 4 128 191 2 m _ _ = M
  have HM := Lib.hid hM
  clear hM
  go_enter Tryd.func177, Tryd.ntmps177
  go_wp2
  all_goals try (refine wp_loop_rounds 2 ?_; iterate 2 (all_goals try (rw [rounds_succ]; go_wp2)))
  all_goals
    go_ret
    refine ⟨ret_bool ?_, rfl⟩
    rw [← HM.out]
    unfold ropensN
    first
      | exact (decide_eq_true (by omega)).symm
      | exact (decide_eq_false (by omega)).symm
set_option maxRecDepth 100000 in
theorem ropens_h3 (s : ByteArray) (c : UInt8) (hq : (241 : Int) ≤ c.toNat) (hq' : (c.toNat : Int) ≤ 243) (m : Int) (h1 : 3 ≤ s.size) (h2 : s.size ≤ 3) (e0 : s[0]'(by omega) = c) (w : World) :
    Calls Tryd.prog 177 #[.string s, .int .i64 m] w fun e w' => e = .returned (.bool (ropensN 4 128 191 3 m (s[1]'(by omega)).toNat (s[2]'(by omega)).toNat)) ∧ w = w' := by
  generalize hM : ropensN 4 128 191 3 m _ _ = M
  have HM := Lib.hid hM
  clear hM
  go_enter Tryd.func177, Tryd.ntmps177
  go_wp2
  all_goals try (refine wp_loop_rounds 3 ?_; iterate 3 (all_goals try (rw [rounds_succ]; go_wp2)))
  all_goals
    go_ret
    refine ⟨ret_bool ?_, rfl⟩
    rw [← HM.out]
    unfold ropensN
    first
      | exact (decide_eq_true (by omega)).symm
      | exact (decide_eq_false (by omega)).symm
set_option maxRecDepth 100000 in
theorem ropens_i1 (s : ByteArray) (c : UInt8) (hq : (c.toNat : Int) = 244) (m : Int) (h1 : 1 ≤ s.size) (h2 : s.size ≤ 1) (e0 : s[0]'(by omega) = c) (b1 : Nat) (b2 : Nat) (w : World) :
    Calls Tryd.prog 177 #[.string s, .int .i64 m] w fun e w' => e = .returned (.bool (ropensN 4 128 143 1 m b1 b2)) ∧ w = w' := by
  generalize hM : ropensN 4 128 143 1 m _ _ = M
  have HM := Lib.hid hM
  clear hM
  go_enter Tryd.func177, Tryd.ntmps177
  go_wp2
  all_goals try (refine wp_loop_rounds 1 ?_; iterate 1 (all_goals try (rw [rounds_succ]; go_wp2)))
  all_goals
    go_ret
    refine ⟨ret_bool ?_, rfl⟩
    rw [← HM.out]
    unfold ropensN
    first
      | exact (decide_eq_true (by omega)).symm
      | exact (decide_eq_false (by omega)).symm
set_option maxRecDepth 100000 in
theorem ropens_i2 (s : ByteArray) (c : UInt8) (hq : (c.toNat : Int) = 244) (m : Int) (h1 : 2 ≤ s.size) (h2 : s.size ≤ 2) (e0 : s[0]'(by omega) = c) (b2 : Nat) (w : World) :
    Calls Tryd.prog 177 #[.string s, .int .i64 m] w fun e w' => e = .returned (.bool (ropensN 4 128 143 2 m (s[1]'(by omega)).toNat b2)) ∧ w = w' := by
  generalize hM : ropensN 4 128 143 2 m _ _ = M
  have HM := Lib.hid hM
  clear hM
  go_enter Tryd.func177, Tryd.ntmps177
  go_wp2
  all_goals try (refine wp_loop_rounds 2 ?_; iterate 2 (all_goals try (rw [rounds_succ]; go_wp2)))
  all_goals
    go_ret
    refine ⟨ret_bool ?_, rfl⟩
    rw [← HM.out]
    unfold ropensN
    first
      | exact (decide_eq_true (by omega)).symm
      | exact (decide_eq_false (by omega)).symm
set_option maxRecDepth 100000 in
theorem ropens_i3 (s : ByteArray) (c : UInt8) (hq : (c.toNat : Int) = 244) (m : Int) (h1 : 3 ≤ s.size) (h2 : s.size ≤ 3) (e0 : s[0]'(by omega) = c) (w : World) :
    Calls Tryd.prog 177 #[.string s, .int .i64 m] w fun e w' => e = .returned (.bool (ropensN 4 128 143 3 m (s[1]'(by omega)).toNat (s[2]'(by omega)).toNat)) ∧ w = w' := by
  generalize hM : ropensN 4 128 143 3 m _ _ = M
  have HM := Lib.hid hM
  clear hM
  go_enter Tryd.func177, Tryd.ntmps177
  go_wp2
  all_goals try (refine wp_loop_rounds 3 ?_; iterate 3 (all_goals try (rw [rounds_succ]; go_wp2)))
  all_goals
    go_ret
    refine ⟨ret_bool ?_, rfl⟩
    rw [← HM.out]
    unfold ropensN
    first
      | exact (decide_eq_true (by omega)).symm
      | exact (decide_eq_false (by omega)).symm
set_option maxRecDepth 100000 in
theorem ropens_j1 (s : ByteArray) (c : UInt8) (hq : (245 : Int) ≤ c.toNat) (m : Int) (h1 : 1 ≤ s.size) (h2 : s.size ≤ 1) (e0 : s[0]'(by omega) = c) (b1 : Nat) (b2 : Nat) (lo hi : Nat) (w : World) :
    Calls Tryd.prog 177 #[.string s, .int .i64 m] w fun e w' => e = .returned (.bool (ropensN 0 lo hi 1 m b1 b2)) ∧ w = w' := by
  generalize hM : ropensN 0 lo hi 1 m _ _ = M
  have HM := Lib.hid hM
  clear hM
  go_enter Tryd.func177, Tryd.ntmps177
  go_wp2
  all_goals try (refine wp_loop_rounds 1 ?_; iterate 1 (all_goals try (rw [rounds_succ]; go_wp2)))
  all_goals
    go_ret
    refine ⟨ret_bool ?_, rfl⟩
    rw [← HM.out]
    unfold ropensN
    first
      | exact (decide_eq_true (by omega)).symm
      | exact (decide_eq_false (by omega)).symm
set_option maxRecDepth 100000 in
theorem ropens_j2 (s : ByteArray) (c : UInt8) (hq : (245 : Int) ≤ c.toNat) (m : Int) (h1 : 2 ≤ s.size) (h2 : s.size ≤ 2) (e0 : s[0]'(by omega) = c) (b2 : Nat) (lo hi : Nat) (w : World) :
    Calls Tryd.prog 177 #[.string s, .int .i64 m] w fun e w' => e = .returned (.bool (ropensN 0 lo hi 2 m (s[1]'(by omega)).toNat b2)) ∧ w = w' := by
  generalize hM : ropensN 0 lo hi 2 m _ _ = M
  have HM := Lib.hid hM
  clear hM
  go_enter Tryd.func177, Tryd.ntmps177
  go_wp2
  all_goals try (refine wp_loop_rounds 2 ?_; iterate 2 (all_goals try (rw [rounds_succ]; go_wp2)))
  all_goals
    go_ret
    refine ⟨ret_bool ?_, rfl⟩
    rw [← HM.out]
    unfold ropensN
    first
      | exact (decide_eq_true (by omega)).symm
      | exact (decide_eq_false (by omega)).symm
set_option maxRecDepth 100000 in
theorem ropens_j3 (s : ByteArray) (c : UInt8) (hq : (245 : Int) ≤ c.toNat) (m : Int) (h1 : 3 ≤ s.size) (h2 : s.size ≤ 3) (e0 : s[0]'(by omega) = c) (lo hi : Nat) (w : World) :
    Calls Tryd.prog 177 #[.string s, .int .i64 m] w fun e w' => e = .returned (.bool (ropensN 0 lo hi 3 m (s[1]'(by omega)).toNat (s[2]'(by omega)).toNat)) ∧ w = w' := by
  generalize hM : ropensN 0 lo hi 3 m _ _ = M
  have HM := Lib.hid hM
  clear hM
  go_enter Tryd.func177, Tryd.ntmps177
  go_wp2
  all_goals try (refine wp_loop_rounds 3 ?_; iterate 3 (all_goals try (rw [rounds_succ]; go_wp2)))
  all_goals
    go_ret
    refine ⟨ret_bool ?_, rfl⟩
    rw [← HM.out]
    unfold ropensN
    first
      | exact (decide_eq_true (by omega)).symm
      | exact (decide_eq_false (by omega)).symm
theorem ropens_any (s : ByteArray) (m : Int) (h1 : 1 ≤ s.size) (h3 : s.size ≤ 3) (w : World) :
    Calls Tryd.prog 177 #[.string s, .int .i64 m] w fun e w' => e = .returned (.bool (ropensB s.data.toList m)) ∧ w = w' := by
  have hlen : s.data.toList.length = s.size := by simp
  have g0 := getD_at s 0 (by omega)
  unfold ropensB
  rw [g0, hlen]
  obtain ⟨c, hc⟩ : ∃ c, s[0]'(by omega) = c := ⟨_, rfl⟩
  rw [hc]
  have hcl := lead_class c.toNat c.toNat_lt
  have hs : s.size = 1 ∨ s.size = 2 ∨ s.size = 3 := by omega
  rcases hs with hs | hs | hs
  · rw [hs]
    rcases hcl with ⟨q, k⟩ | ⟨q, k, l, u⟩ | ⟨q, k, l, u⟩ | ⟨q, k, l, u⟩ | ⟨q, k, l, u⟩ | ⟨q, k, l, u⟩ | ⟨q, k, l, u⟩ | ⟨q, k, l, u⟩ | ⟨q, k, l, u⟩ | ⟨q, k⟩
    · rw [k]; exact ropens_a1 s c (by omega) m (by omega) (by omega) hc _ _ _ _ w
    · rw [k, l, u]; exact ropens_b1 s c (by omega) (by omega) m (by omega) (by omega) hc _ _ w
    · rw [k, l, u]; exact ropens_c1 s c (by omega) m (by omega) (by omega) hc _ _ w
    · rw [k, l, u]; exact ropens_d1 s c (by omega) (by omega) m (by omega) (by omega) hc _ _ w
    · rw [k, l, u]; exact ropens_e1 s c (by omega) m (by omega) (by omega) hc _ _ w
    · rw [k, l, u]; exact ropens_f1 s c (by omega) (by omega) m (by omega) (by omega) hc _ _ w
    · rw [k, l, u]; exact ropens_g1 s c (by omega) m (by omega) (by omega) hc _ _ w
    · rw [k, l, u]; exact ropens_h1 s c (by omega) (by omega) m (by omega) (by omega) hc _ _ w
    · rw [k, l, u]; exact ropens_i1 s c (by omega) m (by omega) (by omega) hc _ _ w
    · rw [k]; exact ropens_j1 s c (by omega) m (by omega) (by omega) hc _ _ _ _ w
  · rw [hs, getD_at s 1 (by omega)]
    rcases hcl with ⟨q, k⟩ | ⟨q, k, l, u⟩ | ⟨q, k, l, u⟩ | ⟨q, k, l, u⟩ | ⟨q, k, l, u⟩ | ⟨q, k, l, u⟩ | ⟨q, k, l, u⟩ | ⟨q, k, l, u⟩ | ⟨q, k, l, u⟩ | ⟨q, k⟩
    · rw [k]; exact ropens_a2 s c (by omega) m (by omega) (by omega) hc _ _ _ w
    · rw [k, l, u]; exact ropens_b2 s c (by omega) (by omega) m (by omega) (by omega) hc _ w
    · rw [k, l, u]; exact ropens_c2 s c (by omega) m (by omega) (by omega) hc _ w
    · rw [k, l, u]; exact ropens_d2 s c (by omega) (by omega) m (by omega) (by omega) hc _ w
    · rw [k, l, u]; exact ropens_e2 s c (by omega) m (by omega) (by omega) hc _ w
    · rw [k, l, u]; exact ropens_f2 s c (by omega) (by omega) m (by omega) (by omega) hc _ w
    · rw [k, l, u]; exact ropens_g2 s c (by omega) m (by omega) (by omega) hc _ w
    · rw [k, l, u]; exact ropens_h2 s c (by omega) (by omega) m (by omega) (by omega) hc _ w
    · rw [k, l, u]; exact ropens_i2 s c (by omega) m (by omega) (by omega) hc _ w
    · rw [k]; exact ropens_j2 s c (by omega) m (by omega) (by omega) hc _ _ _ w
  · rw [hs, getD_at s 1 (by omega), getD_at s 2 (by omega)]
    rcases hcl with ⟨q, k⟩ | ⟨q, k, l, u⟩ | ⟨q, k, l, u⟩ | ⟨q, k, l, u⟩ | ⟨q, k, l, u⟩ | ⟨q, k, l, u⟩ | ⟨q, k, l, u⟩ | ⟨q, k, l, u⟩ | ⟨q, k, l, u⟩ | ⟨q, k⟩
    · rw [k]; exact ropens_a3 s c (by omega) m (by omega) (by omega) hc _ _ w
    · rw [k, l, u]; exact ropens_b3 s c (by omega) (by omega) m (by omega) (by omega) hc w
    · rw [k, l, u]; exact ropens_c3 s c (by omega) m (by omega) (by omega) hc w
    · rw [k, l, u]; exact ropens_d3 s c (by omega) (by omega) m (by omega) (by omega) hc w
    · rw [k, l, u]; exact ropens_e3 s c (by omega) m (by omega) (by omega) hc w
    · rw [k, l, u]; exact ropens_f3 s c (by omega) (by omega) m (by omega) (by omega) hc w
    · rw [k, l, u]; exact ropens_g3 s c (by omega) m (by omega) (by omega) hc w
    · rw [k, l, u]; exact ropens_h3 s c (by omega) (by omega) m (by omega) (by omega) hc w
    · rw [k, l, u]; exact ropens_i3 s c (by omega) m (by omega) (by omega) hc w
    · rw [k]; exact ropens_j3 s c (by omega) m (by omega) (by omega) hc _ _ w
end Go.Proofs.YtjdfodmialhakaaDoor
