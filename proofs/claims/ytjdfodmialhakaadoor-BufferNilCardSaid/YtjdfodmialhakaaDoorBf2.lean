/- Several texts in one: see each part's head. -/
import Derived.Test.YtjdfodmialhakaaDoorEr4
import Derived.Test.YtjdfodmialhakaaDoorRegApp
import Derived.BigQuiet
/- BufferNil: what no buffer answers; heavy of one step. -/
namespace Go.Proofs.YtjdfodmialhakaaDoor
open Go.RowKit

set_option maxRecDepth 100000 in
theorem fault_nil (w : World) : Calls Tryd.prog 40 #[.pointer none] w fun r w' => r = .returned (.int .i64 1) ∧ w = w' := by
  go_enter Tryd.func40, Tryd.ntmps40
  go_wp2
  go_ret
  exact ⟨rfl, rfl⟩
set_option maxRecDepth 100000 in
theorem taken_nil (f : Value) (w : World) : Calls Tryd.prog 109 #[.pointer none, .func (.func 40) #[.pointer none] #[], f] w fun r w' => r = .returned (.tuple #[.bool false, .int .i64 1]) ∧ w = w' := by
  go_enter Tryd.func109, Tryd.ntmps109
  go_wp2_with fail
  refine (fault_nil _).mono ?_
  rintro r w1 ⟨rfl, rfl⟩
  go_wp2_with fail
  go_ret2
  exact ⟨rfl, rfl⟩
set_option maxRecDepth 100000 in
theorem mark_nil (cs : Array Value) (w : World) : Calls Tryd.prog 33 #[.pointer none, .agg cs] w fun r w' => r = .returned (.tuple #[.bool false, .int .i64 1]) ∧ Below w.heap.size w w' := by
  go_enter Tryd.func33, Tryd.ntmps33
  go_wp2_with fail
  refine (taken_nil _ _).mono ?_
  rintro r w1 ⟨rfl, rfl⟩
  go_wp2_with fail
  go_ret2
  exact ⟨rfl, (by repeat (first | exact Below.refl _ _ | assumption | refine Below.drew ?_ | refine below_drewN ?_ _ | refine Below.alloc ?_ (by simp <;> omega) _))⟩
set_option maxRecDepth 100000 in
theorem event_nil (cs : Array Value) (w : World) : Calls Tryd.prog 34 #[.pointer none, .agg cs] w fun r w' => r = .returned (.tuple #[.bool false, .int .i64 1]) ∧ Below w.heap.size w w' := by
  go_enter Tryd.func34, Tryd.ntmps34
  go_wp2_with fail
  refine (taken_nil _ _).mono ?_
  rintro r w1 ⟨rfl, rfl⟩
  go_wp2_with fail
  go_ret2
  exact ⟨rfl, (by repeat (first | exact Below.refl _ _ | assumption | refine Below.drew ?_ | refine below_drewN ?_ _ | refine Below.alloc ?_ (by simp <;> omega) _))⟩
set_option maxRecDepth 100000 in
theorem next_nil (w : World) : Calls Tryd.prog 36 #[.pointer none] w fun r w' => r = .returned (.tuple #[.int .u64 0, .bool false]) ∧ w = w' := by
  go_enter Tryd.func36, Tryd.ntmps36
  go_wp2
  go_ret2
  exact ⟨rfl, rfl⟩
set_option maxRecDepth 100000 in
theorem len_nil (w : World) : Calls Tryd.prog 38 #[.pointer none] w fun r w' => r = .returned (.int .i64 0) ∧ w = w' := by
  go_enter Tryd.func38, Tryd.ntmps38
  go_wp2
  go_ret
  exact ⟨rfl, rfl⟩
set_option maxRecDepth 100000 in
theorem ready_nil (w : World) : Calls Tryd.prog 39 #[.pointer none] w fun r w' => r = .returned (.bool false) ∧ Below w.heap.size w w' := by
  go_enter Tryd.func39, Tryd.ntmps39
  go_upto_region 1 with fail
  refine region_grow [false, false, true, true, true, true, true, true, true, true, true, true, true, true, true, true, true, true, true, true, true, true, true, true, true, true, true, true, true, true, true, true, true, true, true, true, true, true, true, true, true, true, true, true, true] [3, 4, 5, 6, 7, 8, 9, 10, 11, 12, 13, 14, 15, 16, 17, 18, 19, 20, 21, 22, 23, 24, 25, 26, 27, 28, 29, 30, 31, 32, 33, 34, 35, 36, 37, 38, 39, 40, 41, 42, 43, 44, 2] [.val (.pointer none), .val (.bool false), .val (.bool false), .val undef, .val undef, .val undef, .val undef, .val undef, .val undef, .val (.bool false), .val (.bool false), .val undef, .val undef, .val undef, .val undef, .val undef, .val undef, .val undef, .val undef, .val undef, .val undef, .val (.bool false), .val (.bool false), .val undef, .val undef, .val undef, .val undef, .val undef, .val undef, .val undef, .val undef, .val undef, .val undef, .val undef, .val undef, .val undef, .val undef, .val undef, .val undef, .val undef, .val undef, .val (.bool false), .val (.bool false)] [42] (by kernel_rfl) (by kernel_rfl) (by kernel_rfl) (by kernel_rfl) (by kernel_rfl) ⟨?_, ?_, ?_, ?_, ?_, ?_, ?_, ?_, ?_, ?_, ?_, ?_, ?_, ?_, ?_, ?_, ?_, ?_, ?_, ?_, ?_, ?_, ?_, ?_, ?_, ?_, ?_, ?_, ?_, ?_, ?_, ?_, ?_, ?_, ?_, ?_, ?_, ?_, ?_, ?_, ?_, ?_, ?_, trivial⟩ ?done
  case done =>
    intro x w5 hb5
    simp only [StepGoal, overlay, upd, cond_true, cond_false, List.getD_cons_zero, List.getD_cons_succ, Nat.zero_add, Nat.reduceAdd, Nat.reduceEqDiff, reduceIte]
    go_wp2_with fail
    go_ret
    exact ⟨rfl, hb5⟩
  all_goals
    intro x w5 hb5
    intro K hK
    first
      | (rw [if_neg (by exact Bool.false_ne_true)]; exact hK.out _ _ (Below.refl _ _) rfl)
      | (rw [if_pos (by rfl)]; simp only [overlay, upd, cond_true, cond_false, List.getD_cons_zero, List.getD_cons_succ, Nat.reduceEqDiff, reduceIte]
         go_simp
         exact hK.out _ _ (Below.refl _ _) rfl)
set_option maxRecDepth 100000 in
theorem peek_nil (w : World) : Calls Tryd.prog 35 #[.pointer none] w fun r w' => r = .returned (.tuple #[.agg #[.int .u8 0, .int .u64 0, .slice none 0 0, .slice none 0 0], .slice none 0 0, .int .i64 1]) ∧ Below w.heap.size w w' := by
  go_enter Tryd.func35, Tryd.ntmps35
  go_wp2_with fail
  refine (fault_nil _).mono ?_
  rintro r w1 ⟨rfl, rfl⟩
  go_wp2_with fail
  refine bodyPost_ret (v := .tuple #[.agg #[.int .u8 0, .int .u64 0, .slice none 0 0, .slice none 0 0], .slice none 0 0, .int .i64 1]) (by simp [results, Tryd.results35, go_sem]) rfl ?_
  exact ⟨rfl, (by repeat (first | exact Below.refl _ _ | assumption | refine Below.drew ?_ | refine below_drewN ?_ _ | refine Below.alloc ?_ (by simp <;> omega) _))⟩
set_option maxRecDepth 100000 in
theorem drop_nil (w : World) : Calls Tryd.prog 37 #[.pointer none] w fun r w' => r = .returned (.int .i64 1) ∧ Below w.heap.size w w' := by
  go_enter Tryd.func37, Tryd.ntmps37
  go_wp2_with fail
  refine (peek_nil _).mono ?_
  rintro r w1 ⟨rfl, hb⟩
  have HC := Lib.hid hb
  clear hb
  go_wp2_with fail
  go_ret
  exact ⟨rfl, bt HC.out (by repeat (first | exact Below.refl _ _ | assumption | refine Below.drew ?_ | refine below_drewN ?_ _ | refine Below.alloc ?_ (by simp <;> omega) _))⟩
def HvP (w : World) (r : Ending) (w' : World) : Prop := ∃ v, r = .returned (.bool v) ∧ w = w'
set_option maxRecDepth 100000 in
set_option maxHeartbeats 800000 in
theorem heavy_any (mk mt tx tot nth ek tb : Int) (C S A B : Option Addr) (n1 c1 n2 c2 ca cb g : Nat) (bf af : List V) (w : World)
    (hb : Blk w g #[.int .i64 0, .int .u8 mk, .int .u64 mt, .slice C n1 c1, .slice S n2 c2, .int .u64 tx, .int .i64 tot, .int .i64 nth, .int .u8 ek, .int .i64 tb, .slice A bf.length ca, .slice B af.length cb] 55)
    (hl : VRow w A bf) (hm : VRow w B af) :
    Calls Tryd.prog 31 #[.slice (some ⟨g, 0, none⟩) 1 1] w (HvP w) := by
  have HL := Lib.hid (long_any bf A ca w hl)
  have HM := Lib.hid (long_any af B cb w hm)
  have z3 := hb.cell 3
  have z4 := hb.cell 4
  have z10 := hb.cell 10
  have z11 := hb.cell 11
  simp only [List.getElem?_toArray, List.getElem?_cons_zero, List.getElem?_cons_succ] at z3 z4 z10 z11
  have hlt := hb.lt
  generalize decide (4000 < longN bf) = x1 at HL
  generalize decide (4000 < longN af) = x2 at HM
  clear hb hl hm
  go_enter Tryd.func31, Tryd.ntmps31
  go_wp2_with fail
  go_loopw [3] (fun i wr => ∃ k : Nat, k ≤ 1 ∧ i = .int .i64 k ∧ wr = w) (fun i _ => 1 - (intOf i).toNat)
  case atStart => exact ⟨0, by omega, rfl, rfl⟩
  case round =>
    obtain ⟨k, hk, rfl, rfl⟩ := hrel
    by_cases hlt0 : k < 1
    · obtain rfl : k = 0 := by omega
      by_cases h1 : 40 < n1
      · have h1' : (40 : Int) < n1 := by omega
        go_wp2_with fail
        go_ret
        exact ⟨_, rfl, rfl⟩
      · by_cases h2 : 40 < n2
        · have h1' : (n1 : Int) ≤ 40 := by omega
          have h2' : (40 : Int) < n2 := by omega
          go_wp2_with fail
          go_ret
          exact ⟨_, rfl, rfl⟩
        · have h1' : (n1 : Int) ≤ 40 := by omega
          have h2' : (n2 : Int) ≤ 40 := by omega
          go_wp2_with fail
          refine HL.out.mono ?_
          rintro r w1 ⟨rfl, rfl⟩
          cases x1
          · go_wp2_with fail
            refine HM.out.mono ?_
            rintro r w1 ⟨rfl, rfl⟩
            cases x2
            · go_wp2_with fail
              go_roundw
              case rel => exact ⟨1, by omega, rfl, trivial⟩
              case measure => simp [intOf]
            · go_wp2_with fail
              go_ret
              exact ⟨_, rfl, rfl⟩
          · go_wp2_with fail
            go_ret
            exact ⟨_, rfl, rfl⟩
    · obtain rfl : k = 1 := by omega
      go_wp2_with fail
      go_ret
      exact ⟨_, rfl, rfl⟩
end Go.Proofs.YtjdfodmialhakaaDoor

/- BufferNil: the buffer's small methods, at the states that the chapter's example meets. -/
namespace Go.Proofs.YtjdfodmialhakaaDoor
open Go.RowKit

set_option maxRecDepth 100000 in
theorem fault_ok (B n c : Nat) (A : Option Addr) (tb bd nx fa : Int) (hs : Bool) (w : World) (hb : Blk w B #[.int .i64 tb, .int .i64 bd, .int .u64 nx, .bool hs, .slice A n c, .int .i64 fa] 146) :
    Calls Tryd.prog 40 #[.pointer (some ⟨B, 0, none⟩)] w fun r w' => r = .returned (.int .i64 fa) ∧ w = w' := by
  have z5 := hb.cell 5
  have lt := hb.lt
  simp only [List.getElem?_toArray, List.getElem?_cons_zero, List.getElem?_cons_succ] at z5
  clear hb
  go_enter Tryd.func40, Tryd.ntmps40
  go_wp2
  go_ret
  exact ⟨rfl, rfl⟩
set_option maxRecDepth 100000 in
theorem new_bad (w : World) : Calls Tryd.prog 107 #[.int .i64 0, .int .i64 2] w fun r w' => r = .returned (.tuple #[.pointer none, .int .i64 2]) ∧ w = w' := by
  go_enter Tryd.func107, Tryd.ntmps107
  go_wp2
  go_ret2
  exact ⟨rfl, rfl⟩
set_option maxRecDepth 100000 in
theorem new_ok (w : World) : Calls Tryd.prog 107 #[.int .i64 1, .int .i64 2] w fun r w' => r = .returned (.tuple #[.pointer (some ⟨w.heap.size, 0, none⟩), .int .i64 0]) ∧ w' = w.alloc (.cells #[.int .i64 1, .int .i64 2, .int .u64 0, .bool false, .slice none 0 0, .int .i64 0] 146) := by
  go_enter Tryd.func107, Tryd.ntmps107
  go_wp2
  go_ret2
  exact ⟨rfl, rfl⟩
set_option maxRecDepth 100000 in
theorem from_ok (w : World) : Calls Tryd.prog 106 #[.int .i64 1, .int .i64 2, .int .u64 5] w fun r w' => r = .returned (.tuple #[.pointer (some ⟨w.heap.size, 0, none⟩), .int .i64 0]) ∧ Blk w' w.heap.size #[.int .i64 1, .int .i64 2, .int .u64 5, .bool true, .slice none 0 0, .int .i64 0] 146 ∧ Below w.heap.size w w' := by
  go_enter Tryd.func106, Tryd.ntmps106
  go_wp2_with fail
  refine (new_ok _).mono ?_
  rintro r w1 ⟨rfl, rfl⟩
  go_wp2_with fail
  go_ret2
  exact ⟨rfl, Blk.new _ _ _, (by repeat (first | exact Below.refl _ _ | assumption | refine Below.drew ?_ | refine below_drewN ?_ _ | refine Below.alloc ?_ (by simp <;> omega) _))⟩
def ZV : V := ⟨0, 0, 0, ⟨#[]⟩⟩
set_option maxRecDepth 100000 in
theorem one_ok (w : World) : Calls Tryd.prog 108 #[.int .u64 5] w fun r w' => ∃ g, r = .returned (.agg #[.int .u64 5, .int .i64 0, .int .i64 0, .int .u8 1, .int .i64 0, .slice none 0 0, .slice (some ⟨g, 0, none⟩) 1 1]) ∧ w.heap.size ≤ g ∧ Blk w' g #[.int .u8 0, .int .i64 0, .int .u64 0, .string ⟨#[]⟩] 24 ∧ Below w.heap.size w w' := by
  go_enter Tryd.func108, Tryd.ntmps108
  go_wp2_with fail
  refine bodyPost_ret (v := .agg #[.int .u64 5, .int .i64 0, .int .i64 0, .int .u8 1, .int .i64 0, .slice none 0 0, .slice (some ⟨w.heap.size + 1, 0, none⟩) 1 1]) (by simp [results, Tryd.results108, go_sem]) rfl ?_
  exact ⟨w.heap.size + 1, rfl, by omega, (by repeat (first | exact Blk.at (by simp) | assumption | refine Blk.drew ?_ | refine Blk.old ?_ _)), (by repeat (first | exact Below.refl _ _ | assumption | refine Below.drew ?_ | refine below_drewN ?_ _ | refine Below.alloc ?_ (by simp <;> omega) _))⟩
set_option maxRecDepth 100000 in
theorem last_none (B c : Nat) (A : Option Addr) (tb bd nx fa : Int) (hs : Bool) (w : World) (hb : Blk w B #[.int .i64 tb, .int .i64 bd, .int .u64 nx, .bool hs, .slice A 0 c, .int .i64 fa] 146) :
    Calls Tryd.prog 164 #[.pointer (some ⟨B, 0, none⟩)] w fun r w' => r = .returned (.pointer none) ∧ w = w' := by
  have z4 := hb.cell 4
  have lt := hb.lt
  simp only [List.getElem?_toArray, List.getElem?_cons_zero, List.getElem?_cons_succ] at z4
  clear hb
  go_enter Tryd.func164, Tryd.ntmps164
  go_wp2
  go_ret
  exact ⟨rfl, rfl⟩
set_option maxRecDepth 100000 in
theorem last_one (B c g X : Nat) (tb bd nx fa : Int) (hs : Bool) (w : World) (hb : Blk w B #[.int .i64 tb, .int .i64 bd, .int .u64 nx, .bool hs, .slice (some ⟨g, 0, none⟩) 1 c, .int .i64 fa] 146) (hx : w.cell? ⟨g, 0, none⟩ = some (.pointer (some ⟨X, 0, none⟩))) :
    Calls Tryd.prog 164 #[.pointer (some ⟨B, 0, none⟩)] w fun r w' => r = .returned (.pointer (some ⟨X, 0, none⟩)) ∧ ∃ q, w' = w.drewN q := by
  have z4 := hb.cell 4
  have lt := hb.lt
  have lg := cell_lt hx
  simp only [List.getElem?_toArray, List.getElem?_cons_zero, List.getElem?_cons_succ] at z4
  clear hb
  go_enter Tryd.func164, Tryd.ntmps164
  go_upto_region 3 with fail
  go_quiet (fail)
  go_wp2_with fail
  go_ret
  exact ⟨rfl, _, rfl⟩
set_option maxRecDepth 100000 in
theorem size_one (X E cb cc : Nat) (n mt : Int) (mk k : Int) (nth m sq : Value) (w : World) (hx : Blk w X #[.int .u64 n, .pointer (some ⟨E, 0, none⟩), nth, m] 154) (he : Blk w E #[.int .u8 mk, .int .u64 mt, .slice (some ⟨cb, 0, none⟩) 1 cc, sq] 48) (hc : w.cell? ⟨cb, 0, none⟩ = some (.int .i64 k)) (h0 : 0 ≤ k) (h1 : k ≤ 100) :
    Calls Tryd.prog 115 #[.pointer (some ⟨X, 0, none⟩)] w fun r w' => r = .returned (.int .i64 k) ∧ w = w' := by
  have x1 := hx.cell 1
  have e2 := he.cell 2
  have lx := hx.lt
  have le := he.lt
  have lc := cell_lt hc
  simp only [List.getElem?_toArray, List.getElem?_cons_zero, List.getElem?_cons_succ] at x1 e2
  clear hx he
  go_enter Tryd.func115, Tryd.ntmps115
  go_wp2_with fail
  go_loopw [2, 13] (fun s i wr => ((s = .int .i64 0 ∧ i = .int .i64 0) ∨ (s = .int .i64 k ∧ i = .int .i64 1)) ∧ wr = w) (fun _ i _ => 1 - (intOf i).toNat)
  case atStart => exact ⟨Or.inl ⟨rfl, rfl⟩, rfl⟩
  case round =>
    obtain ⟨h | h, rfl⟩ := hrel
    · obtain ⟨rfl, rfl⟩ := h
      go_wp2_with fail
      go_roundw
      case rel => exact ⟨Or.inr ⟨rfl, rfl⟩, trivial⟩
      case measure => simp [intOf]
    · obtain ⟨rfl, rfl⟩ := h
      go_wp2_with fail
      go_ret
      exact ⟨rfl, rfl⟩
set_option maxRecDepth 100000 in
theorem room_none (B c : Nat) (A : Option Addr) (tb bd nx fa n : Int) (hs : Bool) (w : World) (hb : Blk w B #[.int .i64 tb, .int .i64 bd, .int .u64 nx, .bool hs, .slice A 0 c, .int .i64 fa] 146) :
    Calls Tryd.prog 114 #[.pointer (some ⟨B, 0, none⟩), .int .u64 n] w fun r w' => r = .returned (.pointer none) ∧ w = w' := by
  have z4 := hb.cell 4
  have lt := hb.lt
  simp only [List.getElem?_toArray, List.getElem?_cons_zero, List.getElem?_cons_succ] at z4
  clear hb
  go_enter Tryd.func114, Tryd.ntmps114
  go_wp2_with fail
  go_loopw [13] (fun i wr => i = .int .i64 0 ∧ wr = w) (fun _ _ => 1)
  case atStart => exact ⟨rfl, rfl⟩
  case round =>
    obtain ⟨rfl, rfl⟩ := hrel
    go_wp2_with fail
    go_ret
    exact ⟨rfl, rfl⟩
set_option maxRecDepth 100000 in
theorem room_one (B c g X E cb cc : Nat) (tb nx fa n mt mk k : Int) (hs : Bool) (nth m sq : Value) (w : World) (hb : Blk w B #[.int .i64 tb, .int .i64 2, .int .u64 nx, .bool hs, .slice (some ⟨g, 0, none⟩) 1 c, .int .i64 fa] 146) (hg : w.cell? ⟨g, 0, none⟩ = some (.pointer (some ⟨X, 0, none⟩)))
    (hx : Blk w X #[.int .u64 n, .pointer (some ⟨E, 0, none⟩), nth, m] 154) (he : Blk w E #[.int .u8 mk, .int .u64 mt, .slice (some ⟨cb, 0, none⟩) 1 cc, sq] 48) (hc : w.cell? ⟨cb, 0, none⟩ = some (.int .i64 k)) (h0 : 0 ≤ k) (h1 : k ≤ 2) :
    Calls Tryd.prog 114 #[.pointer (some ⟨B, 0, none⟩), .int .u64 n] w fun r w' => r = .returned (.pointer (some ⟨X, 0, none⟩)) ∧ w = w' := by
  have HSZ := Lib.hid (size_one X E cb cc n mt mk k nth m sq w hx he hc h0 (by omega))
  have z1 := hb.cell 1
  have z4 := hb.cell 4
  have x0 := hx.cell 0
  have x1 := hx.cell 1
  have lt := hb.lt
  have lx := hx.lt
  have lg := cell_lt hg
  simp only [List.getElem?_toArray, List.getElem?_cons_zero, List.getElem?_cons_succ] at z1 z4 x0 x1
  clear hb hx he hc
  go_enter Tryd.func114, Tryd.ntmps114
  go_wp2_with fail
  go_loopw [5, 13] (fun s i wr => s = .int .i64 0 ∧ i = .int .i64 0 ∧ wr = w) (fun _ _ _ => 1)
  case atStart => exact ⟨rfl, rfl, rfl⟩
  case round =>
    obtain ⟨rfl, rfl, rfl⟩ := hrel
    go_wp2_with fail
    refine HSZ.out.mono ?_
    rintro r w1 ⟨rfl, rfl⟩
    go_wp2_with fail
    go_ret
    exact ⟨rfl, rfl⟩
end Go.Proofs.YtjdfodmialhakaaDoor
