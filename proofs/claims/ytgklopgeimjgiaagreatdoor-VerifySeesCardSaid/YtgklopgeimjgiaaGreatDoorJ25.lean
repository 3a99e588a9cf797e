/- Several texts in one: see each part's head. -/
import Derived.BigQuiet
import Derived.Test.YtgklopgeimjgiaaGreatDoorJ6
import Derived.Test.YtgklopgeimjgiaaGreatDoorJ7
/- VerifySees: the reference's answer to which of two values is ahead: rank, Less, Text, Less: vLess too. -/
namespace Go.Proofs.YtgklopgeimjgiaaGreatDoor
open Go.RowKit

def rankZ (b : Int) : Int := if nanB b then 2 else if b < 9223372036854775808 then 1 else 0
set_option maxRecDepth 100000 in
theorem rank_any (b : Int) (h0 : 0 ≤ b) (h1 : b ≤ 18446744073709551615) (w : World) :
    Calls Tryz.prog 110 #[.int .u64 b] w fun e w' => e = .returned (.int .i64 (rankZ b)) ∧ w = w' := by
  have HN := Lib.hid (none_any b h0 h1)
  unfold rankZ
  cases hn : nanB b
  · rw [hn] at HN
    clear hn
    by_cases hb : b < 9223372036854775808
    · have e : b / 9223372036854775808 = 0 := by omega
      go_enter Tryz.func110, Tryz.ntmps110
      go_wp2_with fail
      refine (HN.out _).mono ?_
      rintro r w1 ⟨rfl, rfl⟩
      go_wp2_with fail
      go_ret
      exact ⟨rfl, rfl⟩
    · have e : b / 9223372036854775808 = 1 := by omega
      go_enter Tryz.func110, Tryz.ntmps110
      go_wp2_with fail
      refine (HN.out _).mono ?_
      rintro r w1 ⟨rfl, rfl⟩
      go_wp2_with fail
      go_ret
      exact ⟨rfl, rfl⟩
  · rw [hn] at HN
    clear hn
    go_enter Tryz.func110, Tryz.ntmps110
    go_wp2_with fail
    refine (HN.out _).mono ?_
    rintro r w1 ⟨rfl, rfl⟩
    go_wp2_with fail
    go_ret
    exact ⟨rfl, rfl⟩
theorem rank_less (a b : Int) (ha : 0 ≤ a ∧ a ≤ 18446744073709551615) (hb : 0 ≤ b ∧ b ≤ 18446744073709551615) :
    decide (keyZ a < keyZ b) = (if rankZ (canonZ a) ≠ rankZ (canonZ b) then decide (rankZ (canonZ a) < rankZ (canonZ b)) else if rankZ (canonZ a) = 0 then decide (canonZ b < canonZ a) else decide (canonZ a < canonZ b)) := by
  have key : ∀ c : Int, 0 ≤ c ∧ c ≤ 18446744073709551615 → (rankZ (canonZ c) = 2 ∧ canonZ c = 9221120237041090561 ∧ keyZ c = 18444492273895866369) ∨ (rankZ (canonZ c) = 1 ∧ canonZ c ≤ 9218868437227405312 ∧ 0 ≤ canonZ c ∧ keyZ c = canonZ c + 9223372036854775808)
      ∨ (rankZ (canonZ c) = 0 ∧ 9223372036854775808 ≤ canonZ c ∧ canonZ c ≤ 18446744073709551615 ∧ keyZ c = 18446744073709551615 - canonZ c) := by
    intro c hc
    cases hn : nanB c
    · have e : canonZ c = c := by simp [canonZ, hn]
      unfold keyZ rankZ
      rw [e, hn]
      unfold nanB at hn
      simp only [Bool.and_eq_false_iff, decide_eq_false_iff_not, ne_eq, Decidable.not_not] at hn
      by_cases h : c < 9223372036854775808
      · right; left
        simp only [h, if_true, Bool.false_eq_true, if_false, true_and, and_true]
        omega
      · right; right
        simp only [h, Bool.false_eq_true, if_false, true_and, and_true]
        omega
    · have e : canonZ c = 9221120237041090561 := by simp [canonZ, hn]
      left
      unfold keyZ rankZ
      rw [e]
      exact ⟨by decide, rfl, by decide⟩
  rcases key a ha with ⟨r1, c1, k1⟩ | ⟨r1, c1, k1⟩ | ⟨r1, c1, c1', k1⟩ <;> rcases key b hb with ⟨r2, c2, k2⟩ | ⟨r2, c2, k2⟩ | ⟨r2, c2, c2', k2⟩ <;> rw [r1, r2] <;> simp <;> omega
set_option maxRecDepth 100000 in
theorem refrless_any (a b : Int) (ha : 0 ≤ a ∧ a ≤ 18446744073709551615) (hb : 0 ≤ b ∧ b ≤ 18446744073709551615) (w : World) :
    Calls Tryz.prog 87 #[.int .u64 a, .int .u64 b] w fun e w' => e = .returned (.bool (decide (keyZ a < keyZ b))) ∧ w = w' := by
  have HA := Lib.hid (canonR_any a ha.1 ha.2)
  have HB := Lib.hid (canonR_any b hb.1 hb.2)
  have ca := canonZ_in a ha.1 ha.2
  have cb := canonZ_in b hb.1 hb.2
  have HRA := Lib.hid (rank_any (canonZ a) ca.1 ca.2)
  have HRB := Lib.hid (rank_any (canonZ b) cb.1 cb.2)
  rw [rank_less a b ha hb]
  generalize rankZ (canonZ a) = x at *
  generalize rankZ (canonZ b) = y at *
  generalize canonZ a = p at *
  generalize canonZ b = q at *
  clear ha hb ca cb
  by_cases h1 : x ≠ y
  · rw [if_pos h1]
    have h1' : (x != y) = true := by simp [h1]
    clear h1
    go_enter Tryz.func87, Tryz.ntmps87
    go_wp2_with fail
    refine (HA.out _).mono ?_
    rintro r w1 ⟨rfl, rfl⟩
    go_wp2_with fail
    refine (HB.out _).mono ?_
    rintro r w1 ⟨rfl, rfl⟩
    go_wp2_with fail
    refine (HRA.out _).mono ?_
    rintro r w1 ⟨rfl, rfl⟩
    go_wp2_with fail
    refine (HRB.out _).mono ?_
    rintro r w1 ⟨rfl, rfl⟩
    go_wp2_with fail
    refine (HRA.out _).mono ?_
    rintro r w1 ⟨rfl, rfl⟩
    go_wp2_with fail
    refine (HRB.out _).mono ?_
    rintro r w1 ⟨rfl, rfl⟩
    go_wp2_with fail
    go_ret
    exact ⟨rfl, rfl⟩
  · rw [if_neg h1]
    have h1' : (x != y) = false := by simpa using h1
    clear h1
    by_cases h2 : x = 0
    · rw [if_pos h2]
      have h2' : (x == 0) = true := by simp [h2]
      clear h2
      go_enter Tryz.func87, Tryz.ntmps87
      go_wp2_with fail
      refine (HA.out _).mono ?_
      rintro r w1 ⟨rfl, rfl⟩
      go_wp2_with fail
      refine (HB.out _).mono ?_
      rintro r w1 ⟨rfl, rfl⟩
      go_wp2_with fail
      refine (HRA.out _).mono ?_
      rintro r w1 ⟨rfl, rfl⟩
      go_wp2_with fail
      refine (HRB.out _).mono ?_
      rintro r w1 ⟨rfl, rfl⟩
      go_wp2_with fail
      refine (HRA.out _).mono ?_
      rintro r w1 ⟨rfl, rfl⟩
      go_wp2_with fail
      go_ret
      exact ⟨rfl, rfl⟩
    · rw [if_neg h2]
      have h2' : (x == 0) = false := by simpa using h2
      clear h2
      go_enter Tryz.func87, Tryz.ntmps87
      go_wp2_with fail
      refine (HA.out _).mono ?_
      rintro r w1 ⟨rfl, rfl⟩
      go_wp2_with fail
      refine (HB.out _).mono ?_
      rintro r w1 ⟨rfl, rfl⟩
      go_wp2_with fail
      refine (HRA.out _).mono ?_
      rintro r w1 ⟨rfl, rfl⟩
      go_wp2_with fail
      refine (HRB.out _).mono ?_
      rintro r w1 ⟨rfl, rfl⟩
      go_wp2_with fail
      refine (HRA.out _).mono ?_
      rintro r w1 ⟨rfl, rfl⟩
      go_wp2_with fail
      go_ret
      exact ⟨rfl, rfl⟩
/-- Which of two texts is ahead, as a number. -/
def textF : List UInt8 → List UInt8 → Int
  | a :: xs, b :: ys => if a = b then textF xs ys else (a.toNat : Int) - b.toNat
  | xs, ys => (xs.length : Int) - ys.length
theorem textF_cmp : ∀ a b : List UInt8, textF a b < 0 ↔ Lib.compareBytes a b < 0
  | [], [] => by simp [textF, Lib.compareBytes]
  | [], _ :: _ => by simp [textF, Lib.compareBytes] <;> omega
  | _ :: _, [] => by simp [textF, Lib.compareBytes] <;> omega
  | a :: xs, b :: ys => by
    have ih := textF_cmp xs ys
    simp only [textF, Lib.compareBytes, UInt8.lt_iff_toNat_lt]
    by_cases e : a = b
    · subst e
      rw [if_pos rfl, if_neg (by omega), if_neg (by omega)]; exact ih
    · have hne : a.toNat ≠ b.toNat := fun h => e (UInt8.toNat_inj.1 h)
      rw [if_neg e]
      by_cases h1 : a.toNat < b.toNat
      · rw [if_pos h1]; omega
      · rw [if_neg h1, if_pos (by omega)]; omega
theorem textF_same {a b : List UInt8} {j : Nat} (ha : j < a.length) (hb : j < b.length) (h : a.getD j 0 = b.getD j 0) : textF (a.drop j) (b.drop j) = textF (a.drop (j + 1)) (b.drop (j + 1)) := by
  rw [List.drop_eq_getElem_cons ha, List.drop_eq_getElem_cons hb]
  rw [List.getD_eq_getElem?_getD, List.getD_eq_getElem?_getD, List.getElem?_eq_getElem ha, List.getElem?_eq_getElem hb] at h
  simp only [Option.getD_some] at h
  rw [textF, if_pos h]
theorem textF_diff {a b : List UInt8} {j : Nat} (ha : j < a.length) (hb : j < b.length) (h : a.getD j 0 ≠ b.getD j 0) : textF (a.drop j) (b.drop j) = ((a.getD j 0).toNat : Int) - (b.getD j 0).toNat := by
  rw [List.drop_eq_getElem_cons ha, List.drop_eq_getElem_cons hb]
  rw [List.getD_eq_getElem?_getD, List.getD_eq_getElem?_getD, List.getElem?_eq_getElem ha, List.getElem?_eq_getElem hb] at h ⊢
  simp only [Option.getD_some] at h ⊢
  rw [textF, if_neg h]
theorem textF_end {a b : List UInt8} {j : Nat} (h : a.length ≤ j ∨ b.length ≤ j) (ha : j ≤ a.length) (hb : j ≤ b.length) : textF (a.drop j) (b.drop j) = (a.length : Int) - b.length := by
  rcases h with h | h
  · rw [List.drop_of_length_le h]
    cases hb' : b.drop j with
    | nil => have := congrArg List.length hb'; simp at this; simp [textF]; omega
    | cons x y => have := congrArg List.length hb'; simp at this; simp [textF]; omega
  · rw [List.drop_of_length_le h]
    cases ha' : a.drop j with
    | nil => have := congrArg List.length ha'; simp at this; simp [textF]; omega
    | cons x y => have := congrArg List.length ha'; simp at this; simp [textF]; omega
set_option maxRecDepth 100000 in
theorem reftext_any (a b : ByteArray) (w : World) (ha : a.size ≤ 140737488355328) (hb : b.size ≤ 140737488355328) :
    Calls Tryz.prog 88 #[.string a, .string b] w fun e w' => e = .returned (.int .i64 (textF a.data.toList b.data.toList)) ∧ Below w.heap.size w w' := by
  have HLA : Hid (a.data.toList.length = a.size) := by show _ = _; simp
  have HLB : Hid (b.data.toList.length = b.size) := by show _ = _; simp
  obtain ⟨R, hR⟩ : ∃ q, q = textF a.data.toList b.data.toList := ⟨_, rfl⟩
  rw [← hR]
  have HR : Hid (textF (a.data.toList.drop 0) (b.data.toList.drop 0) = R) := by show _ = _; rw [hR]; rfl
  clear hR
  go_enter Tryz.func88, Tryz.ntmps88
  go_wp2_with fail
  go_loopw [5] (fun i wr => ∃ j : Nat, j ≤ a.size ∧ j ≤ b.size ∧ i = .int .i64 j ∧ Hid (textF (a.data.toList.drop j) (b.data.toList.drop j) = R) ∧ Hid (Below w.heap.size w wr)) (fun i _ => a.size - (intOf i).toNat)
  case atStart => exact ⟨0, by omega, by omega, rfl, HR.out, Below.refl _ _⟩
  case round =>
    obtain ⟨j, hja, hjb, rfl, HJ, HW⟩ := hrel
    by_cases la : j < a.size
    · have i0 : (j : Int) < a.size := by omega
      by_cases lb : j < b.size
      · have i1 : (j : Int) < b.size := by omega
        obtain ⟨x, hx⟩ : ∃ x : Int, x = ((a.data.toList.getD j 0).toNat : Int) := ⟨_, rfl⟩
        obtain ⟨y, hy⟩ : ∃ y : Int, y = ((b.data.toList.getD j 0).toNat : Int) := ⟨_, rfl⟩
        have c1 : ∀ hh, ((a[j]'hh).toNat : Int) = x := fun hh => by rw [hx, byte_at a j hh]
        have c2 : ∀ hh, ((b[j]'hh).toNat : Int) = y := fun hh => by rw [hy, byte_at b j hh]
        have hx0 : 0 ≤ x ∧ x ≤ 255 := by rw [hx]; have := (a.data.toList.getD j 0).toNat_lt; omega
        have hy0 : 0 ≤ y ∧ y ≤ 255 := by rw [hy]; have := (b.data.toList.getD j 0).toNat_lt; omega
        by_cases hne : a.data.toList.getD j 0 = b.data.toList.getD j 0
        · have HN : Hid (textF (a.data.toList.drop (j + 1)) (b.data.toList.drop (j + 1)) = R) := by
            show _ = _
            rw [← textF_same (by rw [HLA.out]; exact la) (by rw [HLB.out]; exact lb) hne]; exact HJ.out
          have q : (x != y) = false := by rw [hx, hy, hne]; simp
          clear hx hy hne
          go_upto_region 4 with fail
          go_quiet (fail)
          go_wp2_with fail
          go_roundw
          case rel => exact ⟨j + 1, by omega, by omega, by go_num, HN, below_drewN HW.out _⟩
          case measure => simp [intOf]; omega
        · have HN : Hid (R = x - y) := by
            show _ = _
            rw [hx, hy, ← textF_diff (by rw [HLA.out]; exact la) (by rw [HLB.out]; exact lb) hne]; exact HJ.out.symm
          have q : (x != y) = true := by rw [hx, hy, bne_iff_ne]; intro e; exact hne (UInt8.toNat_inj.1 (by omega))
          clear hx hy hne
          go_upto_region 4 with fail
          go_quiet (fail)
          go_wp2_with fail
          go_upto_region 5 with fail
          go_quiet (fail)
          go_wp2_with fail
          go_ret
          exact ⟨ret_int HN.out.symm, below_drewN (below_drewN HW.out _) _⟩
      · have HN : Hid (R = a.size - b.size) := by
          show _ = _
          rw [← HLA.out, ← HLB.out, ← textF_end (j := j) (Or.inr (by rw [HLB.out]; omega)) (by rw [HLA.out]; omega) (by rw [HLB.out]; omega)]; exact HJ.out.symm
        have i1 : ¬ (j : Int) < b.size := by omega
        go_wp2_with fail
        go_ret
        exact ⟨ret_int HN.out.symm, HW.out⟩
    · have HN : Hid (R = a.size - b.size) := by
        show _ = _
        rw [← HLA.out, ← HLB.out, ← textF_end (j := j) (Or.inl (by rw [HLA.out]; omega)) (by rw [HLA.out]; omega) (by rw [HLB.out]; omega)]; exact HJ.out.symm
      have i0 : ¬ (j : Int) < a.size := by omega
      go_wp2_with fail
      go_ret
      exact ⟨ret_int HN.out.symm, HW.out⟩
theorem vLess_k {a b : V} (h : a.k ≠ b.k) : vLess a b = decide (a.k < b.k) := by
  unfold vLess lexL
  simp only []
  by_cases h1 : a.k < b.k
  · simp [h1]
  · have h2 : b.k < a.k := by omega
    simp [h1, h2]
theorem vLess_n {a b : V} (h : a.k = b.k) (h' : a.n ≠ b.n) : vLess a b = decide (a.n < b.n) := by
  unfold vLess lexL
  simp only []
  by_cases h1 : a.n < b.n
  · simp [h, h1]
  · have h2 : b.n < a.n := by omega
    simp [h, h1, h2]
theorem vLess_r {a b : V} (h : a.k = b.k) (h' : a.n = b.n) (h2 : keyZ a.r < keyZ b.r ∨ keyZ b.r < keyZ a.r) : vLess a b = decide (keyZ a.r < keyZ b.r) := by
  unfold vLess lexL
  simp only []
  by_cases h1 : keyZ a.r < keyZ b.r
  · simp [h, h', h1]
  · have h3 : keyZ b.r < keyZ a.r := by omega
    simp [h, h', h1, h3]
theorem vLess_t {a b : V} (h : a.k = b.k) (h' : a.n = b.n) (h2 : ¬ keyZ a.r < keyZ b.r) (h3 : ¬ keyZ b.r < keyZ a.r) : vLess a b = decide (textF a.t.data.toList b.t.data.toList < 0) := by
  unfold vLess lexL
  simp only []
  have e : decide (textF a.t.data.toList b.t.data.toList < 0) = decide (Lib.compareBytes a.t.data.toList b.t.data.toList < 0) := decide_eq_decide.2 (textF_cmp a.t.data.toList b.t.data.toList)
  rw [e]
  simp [h, h', h2, h3]
set_option maxRecDepth 100000 in
set_option maxHeartbeats 1600000 in
theorem refvless_any (a b : V) (w : World) (ha : a.wf) (hb : b.wf) : Calls Tryz.prog 72 #[a.agg, b.agg] w fun e w' => e = .returned (.bool (vLess a b)) ∧ Below w.heap.size w w' := by
  obtain ⟨R, hR⟩ : ∃ q, q = vLess a b := ⟨_, rfl⟩
  rw [← hR]
  have wa := ha.2.2.2.2
  have wb := hb.2.2.2.2
  have HK := Lib.hid (fun h => hR.trans (vLess_k (a := a) (b := b) h))
  have HNN := Lib.hid (fun h h' => hR.trans (vLess_n (a := a) (b := b) h h'))
  have HRR := Lib.hid (fun h h' h2 => hR.trans (vLess_r (a := a) (b := b) h h' h2))
  have HTT := Lib.hid (fun h h' h2 h3 => hR.trans (vLess_t (a := a) (b := b) h h' h2 h3))
  obtain ⟨ak, an, ar, at'⟩ := a
  obtain ⟨bk, bn, br, bt'⟩ := b
  unfold V.agg
  simp only at HK HNN HRR HTT wa wb ⊢
  have HL1 := Lib.hid (refrless_any ar br ⟨wa.1, wa.2.1⟩ ⟨wb.1, wb.2.1⟩)
  have HL2 := Lib.hid (refrless_any br ar ⟨wb.1, wb.2.1⟩ ⟨wa.1, wa.2.1⟩)
  have HTX := Lib.hid (fun W => reftext_any at' bt' W wa.2.2 wb.2.2)
  clear ha hb hR wa wb
  generalize textF at'.data.toList bt'.data.toList = TX at HTT HTX
  generalize keyZ ar = x at HL1 HL2 HRR HTT
  generalize keyZ br = y at HL1 HL2 HRR HTT
  go_enter Tryz.func72, Tryz.ntmps72
  go_upto_region 1 with fail
  have HB0 : Hid (Blk ((w.alloc (.cells #[.int .u8 ak, .int .i64 an, .int .u64 ar, .string at'] 49)).alloc (.cells #[.int .u8 bk, .int .i64 bn, .int .u64 br, .string bt'] 49)) w.heap.size #[.int .u8 ak, .int .i64 an, .int .u64 ar, .string at'] 49) := (Blk.new w _ _).old _
  have HB1 : Hid (Blk ((w.alloc (.cells #[.int .u8 ak, .int .i64 an, .int .u64 ar, .string at'] 49)).alloc (.cells #[.int .u8 bk, .int .i64 bn, .int .u64 br, .string bt'] 49)) (w.heap.size + 1) #[.int .u8 bk, .int .i64 bn, .int .u64 br, .string bt'] 49) := (by repeat (first | exact Blk.at (by simp) | assumption | refine Blk.drew ?_ | refine Blk.old ?_ _))
  have HC : Hid (Below w.heap.size w ((w.alloc (.cells #[.int .u8 ak, .int .i64 an, .int .u64 ar, .string at'] 49)).alloc (.cells #[.int .u8 bk, .int .i64 bn, .int .u64 br, .string bt'] 49))) := (by repeat (first | exact Below.refl _ _ | assumption | refine Below.drew ?_ | refine below_drewN ?_ _ | refine Below.alloc ?_ (by simp <;> omega) _))
  generalize (w.alloc (.cells #[.int .u8 ak, .int .i64 an, .int .u64 ar, .string at'] 49)).alloc (.cells #[.int .u8 bk, .int .i64 bn, .int .u64 br, .string bt'] 49) = W0 at HB0 HB1 HC ⊢
  generalize w.heap.size + 1 = B1 at HB1 ⊢
  generalize hbw : w.heap.size = B0 at HB0 ⊢
  clear hbw
  have x0 := HB0.out.cell 0
  have x1 := HB0.out.cell 1
  have x2 := HB0.out.cell 2
  have x3 := HB0.out.cell 3
  have y0 := HB1.out.cell 0
  have y1 := HB1.out.cell 1
  have y2 := HB1.out.cell 2
  have y3 := HB1.out.cell 3
  have l0 := HB0.out.lt
  have l1 := HB1.out.lt
  simp only [List.getElem?_toArray, List.getElem?_cons_zero, List.getElem?_cons_succ] at x0 x1 x2 x3 y0 y1 y2 y3
  by_cases hk : ak = bk
  · have k1 : (ak != bk) = false := by simp [hk]
    by_cases hn : an = bn
    · have n1 : (an != bn) = false := by simp [hn]
      by_cases h1 : x < y
      · have HF := Lib.hid (HRR.out hk hn (Or.inl h1))
        rw [decide_eq_true h1] at HL1 HF
        clear hk hn h1
        go_wp2_with fail
        refine (HL1.out _).mono ?_
        rintro r w1 ⟨rfl, rfl⟩
        go_wp2_with fail
        refine (HL1.out _).mono ?_
        rintro r w1 ⟨rfl, rfl⟩
        go_wp2_with fail
        go_ret
        exact ⟨ret_bool HF.out.symm, HC.out⟩
      · by_cases h2 : y < x
        · have HF := Lib.hid (HRR.out hk hn (Or.inr h2))
          rw [decide_eq_false h1] at HL1 HF
          rw [decide_eq_true h2] at HL2
          clear hk hn h1 h2
          go_wp2_with fail
          refine (HL1.out _).mono ?_
          rintro r w1 ⟨rfl, rfl⟩
          go_wp2_with fail
          refine (HL2.out _).mono ?_
          rintro r w1 ⟨rfl, rfl⟩
          go_wp2_with fail
          refine (HL1.out _).mono ?_
          rintro r w1 ⟨rfl, rfl⟩
          go_wp2_with fail
          go_ret
          exact ⟨ret_bool HF.out.symm, HC.out⟩
        · have HF := Lib.hid (HTT.out hk hn h1 h2)
          rw [decide_eq_false h1] at HL1
          rw [decide_eq_false h2] at HL2
          clear hk hn h1 h2
          go_wp2_with fail
          refine (HL1.out _).mono ?_
          rintro r w1 ⟨rfl, rfl⟩
          go_wp2_with fail
          refine (HL2.out _).mono ?_
          rintro r w1 ⟨rfl, rfl⟩
          go_wp2_with fail
          refine (HTX.out _).mono ?_
          rintro r w1 ⟨rfl, hb⟩
          have HC := Lib.hid (bt HC.out hb)
          go_wp2_with fail
          go_ret
          exact ⟨ret_bool HF.out.symm, HC.out⟩
    · have n1 : (an != bn) = true := by simp [hn]
      have HF := Lib.hid (HNN.out hk hn)
      clear hk hn
      go_wp2_with fail
      go_ret
      exact ⟨ret_bool HF.out.symm, HC.out⟩
  · have k1 : (ak != bk) = true := by simp [hk]
    have HF := Lib.hid (HK.out hk)
    clear hk
    go_wp2_with fail
    go_ret
    exact ⟨ret_bool HF.out.symm, HC.out⟩
end Go.Proofs.YtgklopgeimjgiaaGreatDoor
