/- The contract of the reference's opens: the other lead bytes; joined. -/
import Derived.Test.YtjdfodmialhakaaDoorRef2
namespace Go.Proofs.YtjdfodmialhakaaDoor
open Go.RowKit

set_option maxRecDepth 100000 in
theorem ropens_f1 (s : ByteArray) (c : UInt8) (hq : (238 : Int) ≤ c.toNat) (hq' : (c.toNat : Int) ≤ 239) (m : Int) (h1 : 1 ≤ s.size) (h2 : s.size ≤ 1) (e0 : s[0]'(by omega) = c) (b1 : Nat) (b2 : Nat) (w : World) :
    Calls Tryd.prog 177 #[.string s, .int .i64 m] w fun e w' => e = .returned (.bool (ropensN 3 128 191 1 m b1 b2)) ∧ w = w' := by
  generalize hM : ropensN 3 128 191 1 m _ _ = M
  have HM := Lib.hid hM
  clear hM
  go_enter Tryd.func177, Tryd.ntmps177
  go_wp2
  all_goals try (refine wp_loop_rounds 1 ?_; iterate 1 (all_goals try (rw [rounds_succ]; go_wp2)))
  all_goals
    go_ret
    refine ⟨ret_bool ?_, rfl⟩
    rw [← HM.out]
    unfold ropensN
    first
      | exact (decide_eq_true (by omega)).symm
      | exact (decide_eq_false (by omega)).symm
set_option maxRecDepth 100000 in
theorem ropens_f2 (s : ByteArray) (c : UInt8) (hq : (238 : Int) ≤ c.toNat) (hq' : (c.toNat : Int) ≤ 239) (m : Int) (h1 : 2 ≤ s.size) (h2 : s.size ≤ 2) (e0 : s[0]'(by omega) = c) (b2 : Nat) (w : World) :
    Calls Tryd.prog 177 #[.string s, .int .i64 m] w fun e w' => e = .returned (.bool (ropensN 3 128 191 2 m (s[1]'(by omega)).toNat b2)) ∧ w = w' := by
  generalize hM : ropensN 3 128 191 2 m _ _ = M
  have HM := Lib.hid hM
  clear hM
  go_enter Tryd.func177, Tryd.ntmps177
  go_wp2
  all_goals try (refine wp_loop_rounds 2 ?_; iterate 2 (all_goals try (rw [rounds_succ]; go_wp2)))
  all_goals
    go_ret
    refine ⟨ret_bool ?_, rfl⟩
    rw [← HM.out]
    unfold ropensN
    first
      | exact (decide_eq_true (by omega)).symm
      | exact (decide_eq_false (by omega)).symm
set_option maxRecDepth 100000 in
theorem ropens_f3 (s : ByteArray) (c : UInt8) (hq : (238 : Int) ≤ c.toNat) (hq' : (c.toNat : Int) ≤ 239) (m : Int) (h1 : 3 ≤ s.size) (h2 : s.size ≤ 3) (e0 : s[0]'(by omega) = c) (w : World) :
    Calls Tryd.prog 177 #[.string s, .int .i64 m] w fun e w' => e = .returned (.bool (ropensN 3 128 191 3 m (s[1]'(by omega)).toNat (s[2]'(by omega)).toNat)) ∧ w = w' := by
  generalize hM : ropensN 3 128 191 3 m _ _ = M
  have HM := Lib.hid hM
  clear hM
  go_enter Tryd.func177, Tryd.ntmps177
  go_wp2
  all_goals try (refine wp_loop_rounds 3 ?_; iterate 3 (all_goals try (rw [rounds_succ]; go_wp2)))
  all_goals
    go_ret
    refine ⟨ret_bool ?_, rfl⟩
    rw [← HM.out]
    unfold ropensN
    first
      | exact (decide_eq_true (by omega)).symm
      | exact (decide_eq_false (by omega)).symm
set_option maxRecDepth 100000 in
theorem ropens_g1 (s : ByteArray) (c : UInt8) (hq : (c.toNat : Int) = 240) (m : Int) (h1 : 1 ≤ s.size) (h2 : s.size ≤ 1) (e0 : s[0]'(by omega) = c) (b1 : Nat) (b2 : Nat) (w : World) :
    Calls Tryd.prog 177 #[.string s, .int .i64 m] w fun e w' => e = .returned (.bool (ropensN 4 144 191 1 m b1 b2)) ∧ w = w' := by
  generalize hM : ropensN 4 144 191 1 m _ _ = M
  have HM := Lib.hid hM
  clear hM
  go_enter Tryd.func177, Tryd.ntmps177
  go_wp2
  all_goals try (refine wp_loop_rounds 1 ?_; iterate 1 (all_goals try (rw [rounds_succ]; go_wp2)))
  all_goals
    go_ret
    refine ⟨ret_bool ?_, rfl⟩
    rw [← HM.out]
    unfold ropensN
    first
      | exact (decide_eq_true (by omega)).symm
      | exact (decide_eq_false (by omega)).symm
set_option maxRecDepth 100000 in
theorem ropens_g2 (s : ByteArray) (c : UInt8) (hq : (c.toNat : Int) = 240) (m : Int) (h1 : 2 ≤ s.size) (h2 : s.size ≤ 2) (e0 : s[0]'(by omega) = c) (b2 : Nat) (w : World) :
    Calls Tryd.prog 177 #[.string s, .int .i64 m] w fun e w' => e = .returned (.bool (ropensN 4 144 191 2 m (s[1]'(by omega)).toNat b2)) ∧ w = w' := by
  generalize hM : ropensN 4 144 191 2 m _ _ = M
  have HM := Lib.hid hM
  clear hM
  go_enter Tryd.func177, Tryd.ntmps177
  go_wp2
  all_goals try (refine wp_loop_rounds 2 ?_; iterate 2 (all_goals try (rw [rounds_succ]; go_wp2)))
  all_goals
    go_ret
    refine ⟨ret_bool ?_, rfl⟩
    rw [← HM.out]
    unfold ropensN
    first
      | exact (decide_eq_true (by omega)).symm
      | exact (decide_eq_false (by omega)).symm
set_option maxRecDepth 100000 in
theorem ropens_g3 (s : ByteArray) (c : UInt8) (hq : (c.toNat : Int) = 240) (m : Int) (h1 : 3 ≤ s.size) (h2 : s.size ≤ 3) (e0 : s[0]'(by omega) = c) (w : World) :
    Calls Tryd.prog 177 #[.string s, .int .i64 m] w fun e w' => e = .returned (.bool (ropensN 4 144 191 3 m (s[1]'(by omega)).toNat (s[2]'(by omega)).toNat)) ∧ w = w' := by
  generalize hM : ropensN 4 144 191 3 m _ _ = M
  have HM := Lib.hid hM
  clear hM
  go_enter Tryd.func177, Tryd.ntmps177
  go_wp2
  all_goals try (refine wp_loop_rounds 3 ?_; iterate 3 (all_goals try (rw [rounds_succ]; go_wp2)))
  all_goals
    go_ret
    refine ⟨ret_bool ?_, rfl⟩
    rw [← HM.out]
    unfold ropensN
    first
      | exact (decide_eq_true (by omega)).symm
      | exact (decide_eq_false (by omega)).symm
set_option maxRecDepth 100000 in
theorem ropens_h1 (s : ByteArray) (c : UInt8) (hq : (241 : Int) ≤ c.toNat) (hq' : (c.toNat : Int) ≤ 243) (m : Int) (h1 : 1 ≤ s.size) (h2 : s.size ≤ 1) (e0 : s[0]'(by omega) = c) (b1 : Nat) (b2 : Nat) (w : World) :
    Calls Tryd.prog 177 #[.string s, .int .i64 m] w fun e w' => e = .returned (.bool (ropensN 4 128 191 1 m b1 b2)) ∧ w = w' := by
  generalize hM : ropensN 4 128 191 1 m _ _ = M
  have HM := Lib.hid hM
  clear hM
  go_enter Tryd.func177, Tryd.ntmps177
  go_wp2
  all_goals try (refine wp_loop_rounds 1 ?_; iterate 1 (all_goals try (rw [rounds_succ]; go_wp2)))
  all_goals
    go_ret
    refine ⟨ret_bool ?_, rfl⟩
    rw [← HM.out]
    unfold ropensN
    first
      | exact (decide_eq_true (by omega)).symm
      | exact (decide_eq_false (by omega)).symm
set_option maxRecDepth 100000 in
theorem ropens_h2 (s : ByteArray) (c : UInt8) (hq : (241 : Int) ≤ c.toNat) (hq' : (c.toNat : Int) ≤ 243) (m : Int) (h1 : 2 ≤ s.size) (h2 : s.size ≤ 2) (e0 : s[0]'(by omega) = c) (b2 : Nat) (w : World) :
    Calls Tryd.prog 177 #[.string s, .int .i64 m] w fun e w' => e = .returned (.bool (ropensN 4 128 191 2 m (s[1]'(by omega)).toNat b2)) ∧ w = w' := by
  generalize hM : ropensN 4 128 191 2 m _ _ = M
  have HM := Lib.hid hM
  clear hM
  go_enter Tryd.func177, Tryd.ntmps177
  go_wp2
  all_goals try (refine wp_loop_rounds 2 ?_; iterate 2 (all_goals try (rw [rounds_succ]; go_wp2)))
  all_goals
    go_ret
    refine ⟨ret_bool ?_, rfl⟩
    rw [← HM.out]
    unfold ropensN
    first
      | exact (decide_eq_true (by omega)).symm
      | exact (decide_eq_false (by omega)).symm
set_option maxRecDepth 100000 in
theorem ropens_h3 (s : ByteArray) (c : UInt8) (hq : (241 : Int) ≤ c.toNat) (hq' : (c.toNat : Int) ≤ 243) (m : Int) (h1 : 3 ≤ s.size) (h2 : s.size ≤ 3) (e0 : s[0]'(by omega) = c) (w : World) :
    Calls Tryd.prog 177 #[.string s, .int .i64 m] w fun e w' => e = .returned (.bool (ropensN 4 128 191 3 m (s[1]'(by omega)).toNat (s[2]'(by omega)).toNat)) ∧ w = w' := by
  generalize hM : ropensN 4 128 191 3 m _ _ = M
  have HM := Lib.hid hM
  clear hM
  go_enter Tryd.func177, Tryd.ntmps177
  go_wp2
  all_goals try (refine wp_loop_rounds 3 ?_; iterate 3 (all_goals try (rw [rounds_succ]; go_wp2)))
  all_goals
    go_ret
    refine ⟨ret_bool ?_, rfl⟩
    rw [← HM.out]
    unfold ropensN
    first
      | exact (decide_eq_true (by omega)).symm
      | exact (decide_eq_false (by omega)).symm
set_option maxRecDepth 100000 in
theorem ropens_i1 (s : ByteArray) (c : UInt8) (hq : (c.toNat : Int) = 244) (m : Int) (h1 : 1 ≤ s.size) (h2 : s.size ≤ 1) (e0 : s[0]'(by omega) = c) (b1 : Nat) (b2 : Nat) (w : World) :
    Calls Tryd.prog 177 #[.string s, .int .i64 m] w fun e w' => e = .returned (.bool (ropensN 4 128 143 1 m b1 b2)) ∧ w = w' := by
  generalize hM : ropensN 4 128 143 1 m _ _ = M
  have HM := Lib.hid hM
  clear hM
  go_enter Tryd.func177, Tryd.ntmps177
  go_wp2
  all_goals try (refine wp_loop_rounds 1 ?_; iterate 1 (all_goals try (rw [rounds_succ]; go_wp2)))
  all_goals
    go_ret
    refine ⟨ret_bool ?_, rfl⟩
    rw [← HM.out]
    unfold ropensN
    first
      | exact (decide_eq_true (by omega)).symm
      | exact (decide_eq_false (by omega)).symm
set_option maxRecDepth 100000 in
theorem ropens_i2 (s : ByteArray) (c : UInt8) (hq : (c.toNat : Int) = 244) (m : Int) (h1 : 2 ≤ s.size) (h2 : s.size ≤ 2) (e0 : s[0]'(by omega) = c) (b2 : Nat) (w : World) :
    Calls Tryd.prog 177 #[.string s, .int .i64 m] w fun e w' => e = .returned (.bool (ropensN 4 128 143 2 m (s[1]'(by omega)).toNat b2)) ∧ w = w' := by
  generalize hM : ropensN 4 128 143 2 m _ _ = M
  have HM := Lib.hid hM
  clear hM
  go_enter Tryd.func177, Tryd.ntmps177
  go_wp2
  all_goals try (refine wp_loop_rounds 2 ?_; iterate 2 (all_goals try (rw [rounds_succ]; go_wp2)))
  all_goals
    go_ret
    refine ⟨ret_bool ?_, rfl⟩
    rw [← HM.out]
    unfold ropensN
    first
      | exact (decide_eq_true (by omega)).symm
      | exact (decide_eq_false (by omega)).symm
set_option maxRecDepth 100000 in
theorem ropens_i3 (s : ByteArray) (c : UInt8) (hq : (c.toNat : Int) = 244) (m : Int) (h1 : 3 ≤ s.size) (h2 : s.size ≤ 3) (e0 : s[0]'(by omega) = c) (w : World) :
    Calls Tryd.prog 177 #[.string s, .int .i64 m] w fun e w' => e = .returned (.bool (ropensN 4 128 143 3 m (s[1]'(by omega)).toNat (s[2]'(by omega)).toNat)) ∧ w = w' := by
  generalize hM : ropensN 4 128 143 3 m _ _ = M
  have HM := Lib.hid hM
  clear hM
  go_enter Tryd.func177, Tryd.ntmps177
  go_wp2
  all_goals try (refine wp_loop_rounds 3 ?_; iterate 3 (all_goals try (rw [rounds_succ]; go_wp2)))
  all_goals
    go_ret
    refine ⟨ret_bool ?_, rfl⟩
    rw [← HM.out]
    unfold ropensN
    first
      | exact (decide_eq_true (by omega)).symm
      | exact (decide_eq_false (by omega)).symm
set_option maxRecDepth 100000 in
theorem ropens_j1 (s : ByteArray) (c : UInt8) (hq : (245 : Int) ≤ c.toNat) (m : Int) (h1 : 1 ≤ s.size) (h2 : s.size ≤ 1) (e0 : s[0]'(by omega) = c) (b1 : Nat) (b2 : Nat) (lo hi : Nat) (w : World) :
    Calls Tryd.prog 177 #[.string s, .int .i64 m] w fun e w' => e = .returned (.bool (ropensN 0 lo hi 1 m b1 b2)) ∧ w = w' := by
  generalize hM : ropensN 0 lo hi 1 m _ _ = M
  have HM := Lib.hid hM
  clear hM
  go_enter Tryd.func177, Tryd.ntmps177
  go_wp2
  all_goals try (refine wp_loop_rounds 1 ?_; iterate 1 (all_goals try (rw [rounds_succ]; go_wp2)))
  all_goals
    go_ret
    refine ⟨ret_bool ?_, rfl⟩
    rw [← HM.out]
    unfold ropensN
    first
      | exact (decide_eq_true (by omega)).symm
      | exact (decide_eq_false (by omega)).symm
set_option maxRecDepth 100000 in
theorem ropens_j2 (s : ByteArray) (c : UInt8) (hq : (245 : Int) ≤ c.toNat) (m : Int) (h1 : 2 ≤ s.size) (h2 : s.size ≤ 2) (e0 : s[0]'(by omega) = c) (b2 : Nat) (lo hi : Nat) (w : World) :
    Calls Tryd.prog 177 #[.string s, .int .i64 m] w fun e w' => e = .returned (.bool (ropensN 0 lo hi 2 m (s[1]'(by omega)).toNat b2)) ∧ w = w' := by
  generalize hM : ropensN 0 lo hi 2 m _ _ = M
  have HM := Lib.hid hM
  clear hM
  go_enter Tryd.func177, Tryd.ntmps177
  go_wp2
  all_goals try (refine wp_loop_rounds 2 ?_; iterate 2 (all_goals try (rw [rounds_succ]; go_wp2)))
  all_goals
    go_ret
    refine ⟨ret_bool ?_, rfl⟩
    rw [← HM.out]
    unfold ropensN
    first
      | exact (decide_eq_true (by omega)).symm
      | exact (decide_eq_false (by omega)).symm
set_option maxRecDepth 100000 in
theorem ropens_j3 (s : ByteArray) (c : UInt8) (hq : (245 : Int) ≤ c.toNat) (m : Int) (h1 : 3 ≤ s.size) (h2 : s.size ≤ 3) (e0 : s[0]'(by omega) = c) (lo hi : Nat) (w : World) :
    Calls Tryd.prog 177 #[.string s, .int .i64 m] w fun e w' => e = .returned (.bool (ropensN 0 lo hi 3 m (s[1]'(by omega)).toNat (s[2]'(by omega)).toNat)) ∧ w = w' := by
  generalize hM : ropensN 0 lo hi 3 m _ _ = M
  have HM := Lib.hid hM
  clear hM
  go_enter Tryd.func177, Tryd.ntmps177
  go_wp2
  all_goals try (refine wp_loop_rounds 3 ?_; iterate 3 (all_goals try (rw [rounds_succ]; go_wp2)))
  all_goals
    go_ret
    refine ⟨ret_bool ?_, rfl⟩
    rw [← HM.out]
    unfold ropensN
    first
      | exact (decide_eq_true (by omega)).symm
      | exact (decide_eq_false (by omega)).symm
theorem ropens_any (s : ByteArray) (m : Int) (h1 : 1 ≤ s.size) (h3 : s.size ≤ 3) (w : World) :
    Calls Tryd.prog 177 #[.string s, .int .i64 m] w fun e w' => e = .returned (.bool (ropensB s.data.toList m)) ∧ w = w' := by
  have hlen : s.data.toList.length = s.size := by simp
  have g0 := getD_at s 0 (by omega)
  unfold ropensB
  rw [g0, hlen]
  obtain ⟨c, hc⟩ : ∃ c, s[0]'(by omega) = c := ⟨_, rfl⟩
  rw [hc]
  have hcl := lead_class c.toNat c.toNat_lt
  have hs : s.size = 1 ∨ s.size = 2 ∨ s.size = 3 := by omega
  rcases hs with hs | hs | hs
  · rw [hs]
    rcases hcl with ⟨q, k⟩ | ⟨q, k, l, u⟩ | ⟨q, k, l, u⟩ | ⟨q, k, l, u⟩ | ⟨q, k, l, u⟩ | ⟨q, k, l, u⟩ | ⟨q, k, l, u⟩ | ⟨q, k, l, u⟩ | ⟨q, k, l, u⟩ | ⟨q, k⟩
    · rw [k]; exact ropens_a1 s c (by omega) m (by omega) (by omega) hc _ _ _ _ w
    · rw [k, l, u]; exact ropens_b1 s c (by omega) (by omega) m (by omega) (by omega) hc _ _ w
    · rw [k, l, u]; exact ropens_c1 s c (by omega) m (by omega) (by omega) hc _ _ w
    · rw [k, l, u]; exact ropens_d1 s c (by omega) (by omega) m (by omega) (by omega) hc _ _ w
    · rw [k, l, u]; exact ropens_e1 s c (by omega) m (by omega) (by omega) hc _ _ w
    · rw [k, l, u]; exact ropens_f1 s c (by omega) (by omega) m (by omega) (by omega) hc _ _ w
    · rw [k, l, u]; exact ropens_g1 s c (by omega) m (by omega) (by omega) hc _ _ w
    · rw [k, l, u]; exact ropens_h1 s c (by omega) (by omega) m (by omega) (by omega) hc _ _ w
    · rw [k, l, u]; exact ropens_i1 s c (by omega) m (by omega) (by omega) hc _ _ w
    · rw [k]; exact ropens_j1 s c (by omega) m (by omega) (by omega) hc _ _ _ _ w
  · rw [hs, getD_at s 1 (by omega)]
    rcases hcl with ⟨q, k⟩ | ⟨q, k, l, u⟩ | ⟨q, k, l, u⟩ | ⟨q, k, l, u⟩ | ⟨q, k, l, u⟩ | ⟨q, k, l, u⟩ | ⟨q, k, l, u⟩ | ⟨q, k, l, u⟩ | ⟨q, k, l, u⟩ | ⟨q, k⟩
    · rw [k]; exact ropens_a2 s c (by omega) m (by omega) (by omega) hc _ _ _ w
    · rw [k, l, u]; exact ropens_b2 s c (by omega) (by omega) m (by omega) (by omega) hc _ w
    · rw [k, l, u]; exact ropens_c2 s c (by omega) m (by omega) (by omega) hc _ w
    · rw [k, l, u]; exact ropens_d2 s c (by omega) (by omega) m (by omega) (by omega) hc _ w
    · rw [k, l, u]; exact ropens_e2 s c (by omega) m (by omega) (by omega) hc _ w
    · rw [k, l, u]; exact ropens_f2 s c (by omega) (by omega) m (by omega) (by omega) hc _ w
    · rw [k, l, u]; exact ropens_g2 s c (by omega) m (by omega) (by omega) hc _ w
    · rw [k, l, u]; exact ropens_h2 s c (by omega) (by omega) m (by omega) (by omega) hc _ w
    · rw [k, l, u]; exact ropens_i2 s c (by omega) m (by omega) (by omega) hc _ w
    · rw [k]; exact ropens_j2 s c (by omega) m (by omega) (by omega) hc _ _ _ w
  · rw [hs, getD_at s 1 (by omega), getD_at s 2 (by omega)]
    rcases hcl with ⟨q, k⟩ | ⟨q, k, l, u⟩ | ⟨q, k, l, u⟩ | ⟨q, k, l, u⟩ | ⟨q, k, l, u⟩ | ⟨q, k, l, u⟩ | ⟨q, k, l, u⟩ | ⟨q, k, l, u⟩ | ⟨q, k, l, u⟩ | ⟨q, k⟩
    · rw [k]; exact ropens_a3 s c (by omega) m (by omega) (by omega) hc _ _ w
    · rw [k, l, u]; exact ropens_b3 s c (by omega) (by omega) m (by omega) (by omega) hc w
    · rw [k, l, u]; exact ropens_c3 s c (by omega) m (by omega) (by omega) hc w
    · rw [k, l, u]; exact ropens_d3 s c (by omega) (by omega) m (by omega) (by omega) hc w
    · rw [k, l, u]; exact ropens_e3 s c (by omega) m (by omega) (by omega) hc w
    · rw [k, l, u]; exact ropens_f3 s c (by omega) (by omega) m (by omega) (by omega) hc w
    · rw [k, l, u]; exact ropens_g3 s c (by omega) m (by omega) (by omega) hc w
    · rw [k, l, u]; exact ropens_h3 s c (by omega) (by omega) m (by omega) (by omega) hc w
    · rw [k, l, u]; exact ropens_i3 s c (by omega) m (by omega) (by omega) hc w
    · rw [k]; exact ropens_j3 s c (by omega) m (by omega) (by omega) hc _ _ w
end Go.Proofs.YtjdfodmialhakaaDoor
