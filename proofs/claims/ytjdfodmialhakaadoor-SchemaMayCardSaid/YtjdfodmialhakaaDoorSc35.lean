/- Several texts in one: see each part's head. -/
import Derived.Test.YtjdfodmialhakaaDoorSc24
import Derived.Test.YtjdfodmialhakaaDoorRegApp
import Derived.Test.YtjdfodmialhakaaDoorSc6
import Derived.Test.YtjdfodmialhakaaDoorSc7
import Derived.Test.YtjdfodmialhakaaDoorSc20
import Derived.Test.YtjdfodmialhakaaDoorPuts
/- Fits: may a value stand in a column? schema.fits and the reference's. -/
namespace Go.Proofs.YtjdfodmialhakaaDoor
open Go.RowKit

def fitB (c : Co) (v : V) : Bool := mayB v && (decide (v.k = c.k) || (c.nl && decide (v.k = 0)))
theorem may_null {v : V} (h : mayB v = true) (hk : v.k = 0) : v = ⟨0, 0, 0, ⟨#[]⟩⟩ := by
  unfold mayB at h
  rw [if_pos hk] at h
  obtain ⟨h1, h2⟩ := Bool.and_eq_true_iff.1 h
  obtain ⟨h3, h4⟩ := Bool.and_eq_true_iff.1 h1
  have h5 : v.t = ByteArray.empty := str_empty (of_decide_eq_true h2)
  obtain ⟨k, n, r, t⟩ := v
  simp only at hk h3 h4 h5
  rw [hk, of_decide_eq_true h3, of_decide_eq_true h4, h5]
  rfl
set_option maxRecDepth 100000 in
theorem null_any (w : World) : Calls Tryd.prog 172 #[] w fun r w' => r = .returned (.agg #[.int .u8 0, .int .i64 0, .int .u64 0, .string ⟨#[]⟩]) ∧ Below w.heap.size w w' := by
  go_enter Tryd.func172, Tryd.ntmps172
  go_wp2
  exact bodyPost_ret (v := .agg #[.int .u8 0, .int .i64 0, .int .u64 0, .string ⟨#[]⟩]) (by simp [results, Tryd.results172, go_sem]) rfl ⟨rfl, (by repeat (first | exact Below.refl _ _ | assumption | refine Below.drew ?_ | refine below_drewN ?_ _ | refine Below.alloc ?_ (by simp <;> omega) _))⟩
set_option maxRecDepth 100000 in
theorem eql_null (k n r : Int) (t : ByteArray) (h : k ≠ 0) (w : World) :
    (binOp .eql 24 (.agg #[.int .u8 k, .int .i64 n, .int .u64 r, .string t]) (.agg #[.int .u8 0, .int .i64 0, .int .u64 0, .string ⟨#[]⟩])).run Tryd.prog w = .ok (.bool false) w := by
  go_simp
set_option maxRecDepth 100000 in
set_option maxHeartbeats 3200000 in
theorem colfits_any (c : Co) (v : V) (w : World) (hv : v.wf) (hT : Tabs w) :
    Calls Tryd.prog 151 #[.agg #[.string c.nm, .int .u8 c.k, .bool c.nl], v.agg] w fun r w' => r = .returned (.bool (fitB c v)) ∧ Below w.heap.size w w' := by
  obtain ⟨R, hR⟩ : ∃ q, q = fitB c v := ⟨_, rfl⟩
  rw [← hR]
  have HCK := Lib.hid (fun (W : World) (hW : Below w.heap.size w W) => check_any v hv W (hT.ext hW))
  have HNU := Lib.hid null_any
  have HNL := Lib.hid (fun (h : mayB v = true) (hk : v.k = 0) => may_null h hk)
  unfold fitB at hR
  obtain ⟨cn, ck, cl⟩ := c
  obtain ⟨vk, vn, vr, vt⟩ := v
  unfold V.agg at HCK ⊢
  simp only at hR HCK HNL ⊢
  clear hv hT
  go_enter Tryd.func151, Tryd.ntmps151
  go_upto_region 1 with fail
  have hB0 : Blk ((w.alloc (.cells #[.string cn, .int .u8 ck, .bool cl] 180)).alloc (.cells #[.int .u8 vk, .int .i64 vn, .int .u64 vr, .string vt] 24)) w.heap.size #[.string cn, .int .u8 ck, .bool cl] 180 := (Blk.new w _ _).old _
  have hB1 : Blk ((w.alloc (.cells #[.string cn, .int .u8 ck, .bool cl] 180)).alloc (.cells #[.int .u8 vk, .int .i64 vn, .int .u64 vr, .string vt] 24)) (w.heap.size + 1) #[.int .u8 vk, .int .i64 vn, .int .u64 vr, .string vt] 24 := (by repeat (first | exact Blk.at (by simp) | assumption | refine Blk.drew ?_ | refine Blk.old ?_ _))
  have hC : Below w.heap.size w ((w.alloc (.cells #[.string cn, .int .u8 ck, .bool cl] 180)).alloc (.cells #[.int .u8 vk, .int .i64 vn, .int .u64 vr, .string vt] 24)) := (by repeat (first | exact Below.refl _ _ | assumption | refine Below.drew ?_ | refine below_drewN ?_ _ | refine Below.alloc ?_ (by simp <;> omega) _))
  have HB0 := Lib.hid hB0
  have HB1 := Lib.hid hB1
  have HC := Lib.hid hC
  clear hB0 hB1 hC
  generalize (w.alloc (.cells #[.string cn, .int .u8 ck, .bool cl] 180)).alloc (.cells #[.int .u8 vk, .int .i64 vn, .int .u64 vr, .string vt] 24) = W0 at HB0 HB1 HC ⊢
  generalize w.heap.size + 1 = b1 at HB1 ⊢
  generalize hb0 : w.heap.size = b0 at HB0 ⊢
  clear hb0
  cases hm : mayB ⟨vk, vn, vr, vt⟩
  · rw [hm] at hR HCK
    rw [okE_f' rfl] at HCK
    have HR : Hid (R = false) := hR
    clear hR hm HNL
    refine region_grow [false, false, false, false, true, true, true, true, true, true, true, true, true, true, true, true, true, true, true, true, true, true, true, true] [5, 6, 7, 8, 9, 10, 11, 12, 13, 14, 15, 16, 17, 18, 19, 20, 21, 22, 23, 4] [.val (.agg #[.int .u8 vk, .int .i64 vn, .int .u64 vr, .string vt]), .val (.int .i64 2), .val (.bool false), .val (.bool false), .val undef, .val undef, .val undef, .val undef, .val undef, .val undef, .val undef, .val undef, .val undef, .val undef, .val undef, .val undef, .val undef, .val undef, .val (.bool false), .val (.bool false)] [19] (by kernel_rfl) (by kernel_rfl) (by kernel_rfl) (by kernel_rfl) (by kernel_rfl) ⟨?_, ?_, ?_, ?_, ?_, ?_, ?_, ?_, ?_, ?_, ?_, ?_, ?_, ?_, ?_, ?_, ?_, ?_, ?_, ?_, trivial⟩ ?done
    case done =>
      intro x w5 hb5
      simp only [StepGoal, overlay, upd, cond_true, cond_false, List.getD_cons_zero, List.getD_cons_succ, Nat.zero_add, Nat.reduceAdd, Nat.reduceEqDiff, reduceIte]
      go_wp2_with fail
      go_ret
      exact ⟨ret_bool HR.out.symm, bt HC.out hb5⟩
    all_goals
      intro x w5 hb5
      intro K hK
      have hB0 := HB0.out.ext hb5
      have hB1 := HB1.out.ext hb5
      have y0 := hB0.cell 0
      have y1 := hB0.cell 1
      have y2 := hB0.cell 2
      have z0 := hB1.cell 0
      have z1 := hB1.cell 1
      have z2 := hB1.cell 2
      have z3 := hB1.cell 3
      have l0 := hB0.lt
      have l1 := hB1.lt
      simp only [List.getElem?_toArray, List.getElem?_cons_zero, List.getElem?_cons_succ] at y0 y1 y2 z0 z1 z2 z3
      first
        | (rw [if_neg (by exact Bool.false_ne_true)]; exact hK.out _ _ (Below.refl _ _) rfl)
        | (rw [if_pos (by rfl)]; simp only [overlay, upd, cond_true, cond_false, List.getD_cons_zero, List.getD_cons_succ, Nat.reduceEqDiff, reduceIte]
           go_simp
           first
             | exact hK.out _ _ (Below.refl _ _) rfl
             | ((with_reducible refine (HCK.out _ (bt HC.out hb5)).mono ?_); rintro e wa ⟨rfl, hba⟩; go_wp2_with fail; exact hK.out _ _ hba rfl)
             | ((with_reducible refine (HNU.out _).mono ?_); rintro e wa ⟨rfl, hba⟩; go_wp2_with fail; exact hK.out _ _ hba rfl))
  · rw [hm] at hR HCK
    rw [okE_t' rfl] at HCK
    by_cases hk : vk = ck
    · subst hk
      have HR : Hid (R = true) := by show _ = _; rw [hR]; simp
      clear hR hm HNL
      refine region_grow [false, false, false, false, true, true, true, true, true, true, true, true, true, true, true, true, true, true, true, true, true, true, true, true] [5, 6, 7, 8, 9, 10, 11, 12, 13, 14, 15, 16, 17, 18, 19, 20, 21, 22, 23, 4] [.val (.agg #[.int .u8 vk, .int .i64 vn, .int .u64 vr, .string vt]), .val (.int .i64 0), .val (.bool true), .val (.bool true), .val (.pointer (some ⟨b1, 0, none⟩)), .val (.int .u8 vk), .val (.pointer (some ⟨b0, 1, none⟩)), .val (.int .u8 vk), .val (.bool true), .val (.bool true), .val undef, .val undef, .val undef, .val undef, .val undef, .val undef, .val undef, .val (.bool true), .val (.bool true), .val (.bool true)] [19] (by kernel_rfl) (by kernel_rfl) (by kernel_rfl) (by kernel_rfl) (by kernel_rfl) ⟨?_, ?_, ?_, ?_, ?_, ?_, ?_, ?_, ?_, ?_, ?_, ?_, ?_, ?_, ?_, ?_, ?_, ?_, ?_, ?_, trivial⟩ ?done
      case done =>
        intro x w5 hb5
        simp only [StepGoal, overlay, upd, cond_true, cond_false, List.getD_cons_zero, List.getD_cons_succ, Nat.zero_add, Nat.reduceAdd, Nat.reduceEqDiff, reduceIte]
        go_wp2_with fail
        go_ret
        exact ⟨ret_bool HR.out.symm, bt HC.out hb5⟩
      all_goals
        intro x w5 hb5
        intro K hK
        have hB0 := HB0.out.ext hb5
        have hB1 := HB1.out.ext hb5
        have y0 := hB0.cell 0
        have y1 := hB0.cell 1
        have y2 := hB0.cell 2
        have z0 := hB1.cell 0
        have z1 := hB1.cell 1
        have z2 := hB1.cell 2
        have z3 := hB1.cell 3
        have l0 := hB0.lt
        have l1 := hB1.lt
        simp only [List.getElem?_toArray, List.getElem?_cons_zero, List.getElem?_cons_succ] at y0 y1 y2 z0 z1 z2 z3
        first
          | (rw [if_neg (by exact Bool.false_ne_true)]; exact hK.out _ _ (Below.refl _ _) rfl)
          | (rw [if_pos (by rfl)]; simp only [overlay, upd, cond_true, cond_false, List.getD_cons_zero, List.getD_cons_succ, Nat.reduceEqDiff, reduceIte]
             go_simp
             first
               | exact hK.out _ _ (Below.refl _ _) rfl
               | ((with_reducible refine (HCK.out _ (bt HC.out hb5)).mono ?_); rintro e wa ⟨rfl, hba⟩; go_wp2_with fail; exact hK.out _ _ hba rfl)
               | ((with_reducible refine (HNU.out _).mono ?_); rintro e wa ⟨rfl, hba⟩; go_wp2_with fail; exact hK.out _ _ hba rfl))
    · have q1 : (vk == ck) = false := by rw [beq_eq_false_iff_ne]; exact hk
      cases cl
      · have HR : Hid (R = false) := by show _ = _; rw [hR]; simp [hk]
        clear hR hm HNL hk
        refine region_grow [false, false, false, false, true, true, true, true, true, true, true, true, true, true, true, true, true, true, true, true, true, true, true, true] [5, 6, 7, 8, 9, 10, 11, 12, 13, 14, 15, 16, 17, 18, 19, 20, 21, 22, 23, 4] [.val (.agg #[.int .u8 vk, .int .i64 vn, .int .u64 vr, .string vt]), .val (.int .i64 0), .val (.bool true), .val (.bool true), .val (.pointer (some ⟨b1, 0, none⟩)), .val (.int .u8 vk), .val (.pointer (some ⟨b0, 1, none⟩)), .val (.int .u8 ck), .val (.bool false), .val (.bool false), .val (.pointer (some ⟨b0, 2, none⟩)), .val (.bool false), .val (.bool false), .val undef, .val undef, .val undef, .val (.bool false), .val (.bool false), .val (.bool false), .val (.bool false)] [19] (by kernel_rfl) (by kernel_rfl) (by kernel_rfl) (by kernel_rfl) (by kernel_rfl) ⟨?_, ?_, ?_, ?_, ?_, ?_, ?_, ?_, ?_, ?_, ?_, ?_, ?_, ?_, ?_, ?_, ?_, ?_, ?_, ?_, trivial⟩ ?done
        case done =>
          intro x w5 hb5
          simp only [StepGoal, overlay, upd, cond_true, cond_false, List.getD_cons_zero, List.getD_cons_succ, Nat.zero_add, Nat.reduceAdd, Nat.reduceEqDiff, reduceIte]
          go_wp2_with fail
          go_ret
          exact ⟨ret_bool HR.out.symm, bt HC.out hb5⟩
        all_goals
          intro x w5 hb5
          intro K hK
          have hB0 := HB0.out.ext hb5
          have hB1 := HB1.out.ext hb5
          have y0 := hB0.cell 0
          have y1 := hB0.cell 1
          have y2 := hB0.cell 2
          have z0 := hB1.cell 0
          have z1 := hB1.cell 1
          have z2 := hB1.cell 2
          have z3 := hB1.cell 3
          have l0 := hB0.lt
          have l1 := hB1.lt
          simp only [List.getElem?_toArray, List.getElem?_cons_zero, List.getElem?_cons_succ] at y0 y1 y2 z0 z1 z2 z3
          first
            | (rw [if_neg (by exact Bool.false_ne_true)]; exact hK.out _ _ (Below.refl _ _) rfl)
            | (rw [if_pos (by rfl)]; simp only [overlay, upd, cond_true, cond_false, List.getD_cons_zero, List.getD_cons_succ, Nat.reduceEqDiff, reduceIte]
               go_simp
               first
                 | exact hK.out _ _ (Below.refl _ _) rfl
                 | ((with_reducible refine (HCK.out _ (bt HC.out hb5)).mono ?_); rintro e wa ⟨rfl, hba⟩; go_wp2_with fail; exact hK.out _ _ hba rfl)
                 | ((with_reducible refine (HNU.out _).mono ?_); rintro e wa ⟨rfl, hba⟩; go_wp2_with fail; exact hK.out _ _ hba rfl))
      · by_cases hk0 : vk = 0
        · have HR : Hid (R = true) := by show _ = _; rw [hR]; simp [hk0]
          have hnl := HNL.out hm hk0
          injection hnl with e1 e2 e3 e4
          subst e1; subst e2; subst e3; subst e4
          clear hR hm HNL hk hk0
          refine region_grow [false, false, false, false, true, true, true, true, true, true, true, true, true, true, true, true, true, true, true, true, true, true, true, true] [5, 6, 7, 8, 9, 10, 11, 12, 13, 14, 15, 16, 17, 18, 19, 20, 21, 22, 23, 4] [.val (.agg #[.int .u8 0, .int .i64 0, .int .u64 0, .string ⟨#[]⟩]), .val (.int .i64 0), .val (.bool true), .val (.bool true), .val (.pointer (some ⟨b1, 0, none⟩)), .val (.int .u8 0), .val (.pointer (some ⟨b0, 1, none⟩)), .val (.int .u8 ck), .val (.bool false), .val (.bool false), .val (.pointer (some ⟨b0, 2, none⟩)), .val (.bool true), .val (.bool true), .val (.agg #[.int .u8 0, .int .i64 0, .int .u64 0, .string ⟨#[]⟩]), .val (.agg #[.int .u8 0, .int .i64 0, .int .u64 0, .string ⟨#[]⟩]), .val (.bool true), .val (.bool true), .val (.bool true), .val (.bool true), .val (.bool true)] [19] (by kernel_rfl) (by kernel_rfl) (by kernel_rfl) (by kernel_rfl) (by kernel_rfl) ⟨?_, ?_, ?_, ?_, ?_, ?_, ?_, ?_, ?_, ?_, ?_, ?_, ?_, ?_, ?_, ?_, ?_, ?_, ?_, ?_, trivial⟩ ?done
          case done =>
            intro x w5 hb5
            simp only [StepGoal, overlay, upd, cond_true, cond_false, List.getD_cons_zero, List.getD_cons_succ, Nat.zero_add, Nat.reduceAdd, Nat.reduceEqDiff, reduceIte]
            go_wp2_with fail
            go_ret
            exact ⟨ret_bool HR.out.symm, bt HC.out hb5⟩
          all_goals
            intro x w5 hb5
            intro K hK
            have hB0 := HB0.out.ext hb5
            have hB1 := HB1.out.ext hb5
            have y0 := hB0.cell 0
            have y1 := hB0.cell 1
            have y2 := hB0.cell 2
            have z0 := hB1.cell 0
            have z1 := hB1.cell 1
            have z2 := hB1.cell 2
            have z3 := hB1.cell 3
            have l0 := hB0.lt
            have l1 := hB1.lt
            simp only [List.getElem?_toArray, List.getElem?_cons_zero, List.getElem?_cons_succ] at y0 y1 y2 z0 z1 z2 z3
            first
              | (rw [if_neg (by exact Bool.false_ne_true)]; exact hK.out _ _ (Below.refl _ _) rfl)
              | (rw [if_pos (by rfl)]; simp only [overlay, upd, cond_true, cond_false, List.getD_cons_zero, List.getD_cons_succ, Nat.reduceEqDiff, reduceIte]
                 go_simp
                 first
                   | exact hK.out _ _ (Below.refl _ _) rfl
                   | ((with_reducible refine (HCK.out _ (bt HC.out hb5)).mono ?_); rintro e wa ⟨rfl, hba⟩; go_wp2_with fail; exact hK.out _ _ hba rfl)
                   | ((with_reducible refine (HNU.out _).mono ?_); rintro e wa ⟨rfl, hba⟩; go_wp2_with fail; exact hK.out _ _ hba rfl))
        · have HR : Hid (R = false) := by show _ = _; rw [hR]; simp [hk, hk0]
          have hen := eql_null vk vn vr vt hk0
          clear hR hm HNL hk hk0
          refine region_grow [false, false, false, false, true, true, true, true, true, true, true, true, true, true, true, true, true, true, true, true, true, true, true, true] [5, 6, 7, 8, 9, 10, 11, 12, 13, 14, 15, 16, 17, 18, 19, 20, 21, 22, 23, 4] [.val (.agg #[.int .u8 vk, .int .i64 vn, .int .u64 vr, .string vt]), .val (.int .i64 0), .val (.bool true), .val (.bool true), .val (.pointer (some ⟨b1, 0, none⟩)), .val (.int .u8 vk), .val (.pointer (some ⟨b0, 1, none⟩)), .val (.int .u8 ck), .val (.bool false), .val (.bool false), .val (.pointer (some ⟨b0, 2, none⟩)), .val (.bool true), .val (.bool true), .val (.agg #[.int .u8 vk, .int .i64 vn, .int .u64 vr, .string vt]), .val (.agg #[.int .u8 0, .int .i64 0, .int .u64 0, .string ⟨#[]⟩]), .val (.bool false), .val (.bool false), .val (.bool false), .val (.bool false), .val (.bool false)] [19] (by kernel_rfl) (by kernel_rfl) (by kernel_rfl) (by kernel_rfl) (by kernel_rfl) ⟨?_, ?_, ?_, ?_, ?_, ?_, ?_, ?_, ?_, ?_, ?_, ?_, ?_, ?_, ?_, ?_, ?_, ?_, ?_, ?_, trivial⟩ ?done
          case done =>
            intro x w5 hb5
            simp only [StepGoal, overlay, upd, cond_true, cond_false, List.getD_cons_zero, List.getD_cons_succ, Nat.zero_add, Nat.reduceAdd, Nat.reduceEqDiff, reduceIte]
            go_wp2_with fail
            go_ret
            exact ⟨ret_bool HR.out.symm, bt HC.out hb5⟩
          all_goals
            intro x w5 hb5
            intro K hK
            have hB0 := HB0.out.ext hb5
            have hB1 := HB1.out.ext hb5
            have y0 := hB0.cell 0
            have y1 := hB0.cell 1
            have y2 := hB0.cell 2
            have z0 := hB1.cell 0
            have z1 := hB1.cell 1
            have z2 := hB1.cell 2
            have z3 := hB1.cell 3
            have l0 := hB0.lt
            have l1 := hB1.lt
            simp only [List.getElem?_toArray, List.getElem?_cons_zero, List.getElem?_cons_succ] at y0 y1 y2 z0 z1 z2 z3
            first
              | (rw [if_neg (by exact Bool.false_ne_true)]; exact hK.out _ _ (Below.refl _ _) rfl)
              | (rw [if_pos (by rfl)]; simp only [overlay, upd, cond_true, cond_false, List.getD_cons_zero, List.getD_cons_succ, Nat.reduceEqDiff, reduceIte]
                 go_simp
                 first
                   | exact hK.out _ _ (Below.refl _ _) rfl
                   | ((with_reducible refine (HCK.out _ (bt HC.out hb5)).mono ?_); rintro e wa ⟨rfl, hba⟩; go_wp2_with fail; exact hK.out _ _ hba rfl)
                   | ((with_reducible refine (HNU.out _).mono ?_); rintro e wa ⟨rfl, hba⟩; go_wp2_with fail; exact hK.out _ _ hba rfl))
set_option maxRecDepth 100000 in
theorem refcolfits_any (c : Co) (v : V) (w : World) (hv : v.wf) (hT : Tabs w) :
    Calls Tryd.prog 153 #[.agg #[.string c.nm, .int .u8 c.k, .bool c.nl], v.agg] w fun r w' => r = .returned (.bool (fitB c v)) ∧ Below w.heap.size w w' := by
  obtain ⟨R, hR⟩ : ∃ q, q = fitB c v := ⟨_, rfl⟩
  rw [← hR]
  have HMY := Lib.hid (fun (W : World) (hW : Below w.heap.size w W) => may_any v hv W (hT.ext hW))
  unfold fitB at hR
  obtain ⟨cn, ck, cl⟩ := c
  obtain ⟨vk, vn, vr, vt⟩ := v
  unfold V.agg at HMY ⊢
  simp only at hR HMY ⊢
  clear hv hT
  go_enter Tryd.func153, Tryd.ntmps153
  go_upto_region 1 with fail
  have hB0 : Blk ((w.alloc (.cells #[.string cn, .int .u8 ck, .bool cl] 180)).alloc (.cells #[.int .u8 vk, .int .i64 vn, .int .u64 vr, .string vt] 24)) w.heap.size #[.string cn, .int .u8 ck, .bool cl] 180 := (Blk.new w _ _).old _
  have hB1 : Blk ((w.alloc (.cells #[.string cn, .int .u8 ck, .bool cl] 180)).alloc (.cells #[.int .u8 vk, .int .i64 vn, .int .u64 vr, .string vt] 24)) (w.heap.size + 1) #[.int .u8 vk, .int .i64 vn, .int .u64 vr, .string vt] 24 := (by repeat (first | exact Blk.at (by simp) | assumption | refine Blk.drew ?_ | refine Blk.old ?_ _))
  have hC : Below w.heap.size w ((w.alloc (.cells #[.string cn, .int .u8 ck, .bool cl] 180)).alloc (.cells #[.int .u8 vk, .int .i64 vn, .int .u64 vr, .string vt] 24)) := (by repeat (first | exact Below.refl _ _ | assumption | refine Below.drew ?_ | refine below_drewN ?_ _ | refine Below.alloc ?_ (by simp <;> omega) _))
  have HB0 := Lib.hid hB0
  have HB1 := Lib.hid hB1
  have HC := Lib.hid hC
  have z0 := hB1.cell 0
  have z1 := hB1.cell 1
  have z2 := hB1.cell 2
  have z3 := hB1.cell 3
  have l1 := hB1.lt
  simp only [List.getElem?_toArray, List.getElem?_cons_zero, List.getElem?_cons_succ] at z0 z1 z2 z3
  clear hB0 hB1 hC
  generalize (w.alloc (.cells #[.string cn, .int .u8 ck, .bool cl] 180)).alloc (.cells #[.int .u8 vk, .int .i64 vn, .int .u64 vr, .string vt] 24) = W0 at HB0 HB1 HC z0 z1 z2 z3 l1 ⊢
  generalize w.heap.size + 1 = b1 at HB1 z0 z1 z2 z3 l1 ⊢
  go_wp2_with fail
  refine (HMY.out _ HC.out).mono ?_
  rintro r w1 ⟨rfl, hb⟩
  have hB0 := HB0.out.ext hb
  have hB1 := HB1.out.ext hb
  have HC := Lib.hid (bt HC.out hb)
  clear z0 z1 z2 z3 l1 hb HMY
  have y1 := hB0.cell 1
  have y2 := hB0.cell 2
  have z0 := hB1.cell 0
  have l0 := hB0.lt
  have l1 := hB1.lt
  simp only [List.getElem?_toArray, List.getElem?_cons_zero, List.getElem?_cons_succ] at y1 y2 z0
  clear hB0 hB1 HB0 HB1
  cases hm : mayB ⟨vk, vn, vr, vt⟩
  · rw [hm] at hR
    have HR : Hid (R = false) := hR
    clear hR hm
    go_wp2_with fail
    go_ret
    exact ⟨ret_bool HR.out.symm, HC.out⟩
  · rw [hm] at hR
    by_cases hk : vk = ck
    · subst hk
      have HR : Hid (R = true) := by show _ = _; rw [hR]; simp
      clear hR hm
      go_wp2_with fail
      go_ret
      exact ⟨ret_bool HR.out.symm, HC.out⟩
    · have q1 : (vk == ck) = false := by rw [beq_eq_false_iff_ne]; exact hk
      cases cl
      · have HR : Hid (R = false) := by show _ = _; rw [hR]; simp [hk]
        clear hR hm hk
        go_wp2_with fail
        go_ret
        exact ⟨ret_bool HR.out.symm, HC.out⟩
      · by_cases hk0 : vk = 0
        · have HR : Hid (R = true) := by show _ = _; rw [hR]; simp [hk0]
          have q2 : (vk == 0) = true := by rw [hk0]; rfl
          clear hR hm hk hk0
          go_wp2_with fail
          go_ret
          exact ⟨ret_bool HR.out.symm, HC.out⟩
        · have HR : Hid (R = false) := by show _ = _; rw [hR]; simp [hk, hk0]
          have q2 : (vk == 0) = false := by rw [beq_eq_false_iff_ne]; exact hk0
          clear hR hm hk hk0
          go_wp2_with fail
          go_ret
          exact ⟨ret_bool HR.out.symm, HC.out⟩
end Go.Proofs.YtjdfodmialhakaaDoor

/- Rows that fit a table, values that may be its keys: slices.EqualFunc, schema.Row, schema.Key. -/
namespace Go.Proofs.YtjdfodmialhakaaDoor
open Go.RowKit

def fitAt (cs : List Co) (l : List V) (i : Nat) : Bool := match cs[i]?, l[i]? with
  | some c, some v => fitB c v
  | _, _ => true
def rowF (cs : List Co) (l : List V) : Bool := decide (cs.length = l.length) && (List.range cs.length).all (fitAt cs l)
theorem rowF_len {cs : List Co} {l : List V} (h : ¬ cs.length = l.length) : rowF cs l = false := by unfold rowF; rw [decide_eq_false h]; rfl
theorem rowF_not {cs : List Co} {l : List V} {k : Nat} {c : Co} {v : V} (hc : cs[k]? = some c) (hv : l[k]? = some v) (h : fitB c v = false) : rowF cs l = false := by
  have hk := (List.getElem?_eq_some_iff.1 hc).1
  have : (List.range cs.length).all (fitAt cs l) = false := by
    rw [List.all_eq_false]
    exact ⟨k, List.mem_range.2 hk, by unfold fitAt; rw [hc, hv]; simp [h]⟩
  unfold rowF
  rw [this, Bool.and_false]
theorem rowF_end {cs : List Co} {l : List V} (h1 : cs.length = l.length) (h : (List.range cs.length).all (fitAt cs l) = true) : rowF cs l = true := by unfold rowF; rw [decide_eq_true h1, h]; rfl
theorem fit_next {cs : List Co} {l : List V} {k : Nat} {c : Co} {v : V} (hc : cs[k]? = some c) (hv : l[k]? = some v) (h : fitB c v = true) (hk : (List.range k).all (fitAt cs l) = true) : Hid ((List.range (k + 1)).all (fitAt cs l) = true) := by
  show _ = _
  rw [List.range_succ, List.all_append, hk]
  simp only [List.all_cons, List.all_nil, Bool.and_true, Bool.true_and]
  unfold fitAt
  rw [hc, hv]
  exact h
set_option maxRecDepth 100000 in
set_option maxHeartbeats 1600000 in
theorem equalf_any (cs : List Co) (l : List V) (A B : Option Addr) (c d : Nat) (w : World) (hc : CRow w A cs) (hr : VRow w B l) (hT : Tabs w) :
    Calls Tryd.prog 150 #[.slice A cs.length c, .slice B l.length d, .func (.func 151) #[] #[]] w fun r w' => r = .returned (.bool (rowF cs l)) ∧ Below w.heap.size w w' := by
  obtain ⟨R, hR⟩ : ∃ q, q = rowF cs l := ⟨_, rfl⟩
  rw [← hR]
  have HLEN := Lib.hid (fun h => hR.trans (rowF_len (cs := cs) (l := l) h))
  have HNOT := Lib.hid (fun (k : Nat) (c : Co) (v : V) (h1 : cs[k]? = some c) (h2 : l[k]? = some v) h => hR.trans (rowF_not h1 h2 h))
  have HEND := Lib.hid (fun h1 h2 => hR.trans (rowF_end (cs := cs) (l := l) h1 h2))
  have HF := Lib.hid (fun (c : Co) (v : V) (W : World) (hW : Below w.heap.size w W) (hv : v.wf) => colfits_any c v W hv (hT.ext hW))
  have HCR := Lib.hid hc
  have HVR := Lib.hid hr
  have hcl := hc.2.1
  have hvl := hr.2.1
  clear hR hc hr hT
  by_cases hl : cs.length = l.length
  · have q1 : ((cs.length : Int) != (l.length : Int)) = false := by simp [hl]
    have hle : cs.length ≤ l.length := by omega
    have HLL := Lib.hid hl
    clear hl HLEN
    go_enter Tryd.func150, Tryd.ntmps150
    go_wp2_with fail
    clear q1
    go_loopw [17] (fun i wr => ∃ k : Nat, k ≤ cs.length ∧ i = .int .i64 k ∧ Hid ((List.range k).all (fitAt cs l) = true) ∧ Hid (Below w.heap.size w wr)) (fun i _ => cs.length - (intOf i).toNat)
    case atStart => exact ⟨0, by omega, rfl, (by simp : _ = _), Below.refl _ _⟩
    case round =>
      obtain ⟨k, hk1, rfl, HS, HBW⟩ := hrel
      by_cases hlt : k < cs.length
      · obtain ⟨b, off, cv, rfl, hbb, hck, _, _, c0, c1, c2⟩ := (HCR.out.ext HBW.out).at_ hlt
        obtain ⟨b', off', v, rfl, hbb', hvk, _, hvw, d0, d1, d2, d3⟩ := (HVR.out.ext HBW.out).at_ (Nat.lt_of_lt_of_le hlt hle)
        obtain ⟨cn, ck, cl⟩ := cv
        obtain ⟨vk, vn, vr, vt⟩ := v
        have HCK := Lib.hid hck
        have HVK := Lib.hid hvk
        have HVW := Lib.hid hvw
        simp only at c0 c1 c2 d0 d1 d2 d3
        have i1 : (k : Int) < l.length := by omega
        clear hck hvk hvw
        go_upto_region 7 with fail
        have HC2 : Hid (Below w.heap.size w ((wr.alloc (.cells #[.string cn, .int .u8 ck, .bool cl] 180)).alloc (.cells #[.int .u8 vk, .int .i64 vn, .int .u64 vr, .string vt] 24))) := bt HBW.out (by repeat (first | exact Below.refl _ _ | assumption | refine Below.drew ?_ | refine below_drewN ?_ _ | refine Below.alloc ?_ (by simp <;> omega) _))
        have HB0 := (Blk.new wr #[.string cn, .int .u8 ck, .bool cl] 180).old (.cells #[.int .u8 vk, .int .i64 vn, .int .u64 vr, .string vt] 24)
        have HB1 : Blk ((wr.alloc (.cells #[.string cn, .int .u8 ck, .bool cl] 180)).alloc (.cells #[.int .u8 vk, .int .i64 vn, .int .u64 vr, .string vt] 24)) (wr.heap.size + 1) #[.int .u8 vk, .int .i64 vn, .int .u64 vr, .string vt] 24 := (by repeat (first | exact Blk.at (by simp) | assumption | refine Blk.drew ?_ | refine Blk.old ?_ _))
        generalize (wr.alloc (.cells #[.string cn, .int .u8 ck, .bool cl] 180)).alloc (.cells #[.int .u8 vk, .int .i64 vn, .int .u64 vr, .string vt] 24) = w5 at HC2 HB0 HB1 ⊢
        generalize wr.heap.size + 1 = B1 at HB1 ⊢
        generalize wr.heap.size = B0 at HB0 ⊢
        clear c0 c1 c2 d0 d1 d2 d3 HBW hbb hbb'
        have y0 := HB0.cell 0
        have y1 := HB0.cell 1
        have y2 := HB0.cell 2
        have z0 := HB1.cell 0
        have z1 := HB1.cell 1
        have z2 := HB1.cell 2
        have z3 := HB1.cell 3
        have l0 := HB0.lt
        have l1 := HB1.lt
        simp only [List.getElem?_toArray, List.getElem?_cons_zero, List.getElem?_cons_succ] at y0 y1 y2 z0 z1 z2 z3
        clear HB0 HB1
        go_wp2_with fail
        refine (HF.out ⟨cn, ck, cl⟩ ⟨vk, vn, vr, vt⟩ w5 HC2.out HVW.out).mono ?_
        rintro r w6 ⟨rfl, hb⟩
        have HC := Lib.hid (bt HC2.out hb)
        clear hb HC2 y0 y1 y2 z0 z1 z2 z3 l0 l1
        cases hf : fitB ⟨cn, ck, cl⟩ ⟨vk, vn, vr, vt⟩
        · have HRF : Hid (R = false) := HNOT.out k _ _ HCK.out HVK.out hf
          clear hf
          go_wp2_with fail
          go_ret
          exact ⟨ret_bool HRF.out.symm, HC.out⟩
        · have HS' := fit_next HCK.out HVK.out hf HS.out
          clear hf
          go_wp2_with fail
          go_roundw
          case rel => exact ⟨k + 1, by omega, by go_num, HS', HC.out⟩
          case measure => simp [intOf]; omega
      · have hke : k = cs.length := by omega
        have HRT : Hid (R = true) := HEND.out HLL.out (by rw [← hke]; exact HS.out)
        clear hke
        go_wp2_with fail
        go_ret
        exact ⟨ret_bool HRT.out.symm, HBW.out⟩
  · have q1 : ((cs.length : Int) != (l.length : Int)) = true := by rw [bne_iff_ne]; omega
    have HRF : Hid (R = false) := HLEN.out hl
    clear hl
    go_enter Tryd.func150, Tryd.ntmps150
    go_wp2_with fail
    go_ret
    exact ⟨ret_bool HRF.out.symm, Below.refl _ _⟩

def rowS (ts : List Ta) (k : Int) (l : List V) : Bool := hasS ts k && match ts[k.toNat]? with
  | some t => rowF t.cs l
  | none => false
def keyS (ts : List Ta) (k : Int) (v : V) : Bool := hasS ts k && match ts[k.toNat]? with
  | some t => (match t.cs[t.key.toNat]? with
    | some c => fitB c v
    | none => false)
  | none => false
theorem has_at {ts : List Ta} {k : Int} (h : hasS ts k = true) : ∃ (j : Nat) (t : Ta), k = j ∧ j < ts.length ∧ ts[j]? = some t ∧ colsB t = true ∧ schB ts = true := by
  unfold hasS at h
  obtain ⟨h1, h2⟩ := Bool.and_eq_true_iff.1 h
  obtain ⟨h3, h4⟩ := of_decide_eq_true h2
  have hj : k.toNat < ts.length := by omega
  exact ⟨k.toNat, ts[k.toNat], by omega, hj, List.getElem?_eq_getElem hj, (tab_parts (pre_at (sch_parts h1).2.1 hj (List.getElem?_eq_getElem hj))).1, h1⟩
theorem rowS_no {ts : List Ta} {k : Int} {l : List V} (h : hasS ts k = false) : rowS ts k l = false := by unfold rowS; rw [h]; rfl
theorem keyS_no {ts : List Ta} {k : Int} {v : V} (h : hasS ts k = false) : keyS ts k v = false := by unfold keyS; rw [h]; rfl
theorem rowS_at {ts : List Ta} {j : Nat} {t : Ta} {l : List V} (h : hasS ts j = true) (ht : ts[j]? = some t) : rowS ts j l = rowF t.cs l := by unfold rowS; rw [h, Int.toNat_natCast, ht]; rfl
theorem keyS_at {ts : List Ta} {j : Nat} {t : Ta} {c : Co} {v : V} (h : hasS ts j = true) (ht : ts[j]? = some t) (hc : t.cs[t.key.toNat]? = some c) : keyS ts j v = fitB c v := by unfold keyS; rw [h, Int.toNat_natCast, ht]; simp only [hc]; rfl
set_option maxRecDepth 100000 in
set_option maxHeartbeats 1600000 in
theorem schrow_any (ts : List Ta) (A B : Option Addr) (c d : Nat) (k : Int) (l : List V) (w : World) (ht : TRow w A c ts) (hr : VRow w B l) (hT : Tabs w) :
    Calls Tryd.prog 86 #[.agg #[.slice A ts.length c], .int .i64 k, .slice B l.length d] w fun r w' => r = .returned (.int .i64 (okE (rowS ts k l))) ∧ Below w.heap.size w w' := by
  have HH := Lib.hid (fun (W : World) (hW : Below w.heap.size w W) => has_any ts A c k W (ht.ext hW))
  have HEQ := Lib.hid (fun (cs : List Co) (C : Option Addr) (e : Nat) (W : World) (hW : Below w.heap.size w W) (hc : CRow W C cs) => equalf_any cs l C B e d W hc (hr.ext hW) (hT.ext hW))
  have HT := Lib.hid ht
  have hlen := ht.2.1
  have h0 : Blk (w.alloc (.cells #[.slice A ts.length c] 103)) w.heap.size #[.slice A ts.length c] 103 := Blk.new w #[.slice A ts.length c] 103
  have hC : Below w.heap.size w (w.alloc (.cells #[.slice A ts.length c] 103)) := (by repeat (first | exact Below.refl _ _ | assumption | refine Below.drew ?_ | refine below_drewN ?_ _ | refine Below.alloc ?_ (by simp <;> omega) _))
  have HA := Lib.hid h0
  have HC := Lib.hid hC
  clear ht hr hT h0 hC
  cases hh : hasS ts k
  · rw [hh] at HH
    rw [okE_f' (rowS_no hh)]
    clear hh
    go_enter Tryd.func86, Tryd.ntmps86
    go_wp2_with fail
    refine (HH.out _ HC.out).mono ?_
    rintro r w1 ⟨rfl, hb⟩
    have HC := Lib.hid (bt HC.out hb)
    clear hb
    go_wp2_with fail
    go_ret
    exact ⟨rfl, HC.out⟩
  · rw [hh] at HH
    obtain ⟨j, t, rfl, hj, htj, hcb, _⟩ := has_at hh
    rw [rowS_at hh htj]
    obtain ⟨R, hR⟩ : ∃ q, q = okE (rowF t.cs l) := ⟨_, rfl⟩
    rw [← hR]
    have HRR := Lib.hid hR
    have HTJ := Lib.hid htj
    clear hh htj hcb hR
    go_enter Tryd.func86, Tryd.ntmps86
    go_wp2_with fail
    refine (HH.out _ HC.out).mono ?_
    rintro r w1 ⟨rfl, hb⟩
    have hA1 := HA.out.ext hb
    have HC1 := Lib.hid (bt HC.out hb)
    obtain ⟨b, off, u, rfl, hbb, hu, _, _, hcr, c0, c1, c2, c3, c4⟩ := (HT.out.ext HC1.out).at_ hj
    obtain rfl : u = t := Option.some.inj (hu.symm.trans HTJ.out)
    have HE := Lib.hid (HEQ.out u.cs u.A u.c w1 HC1.out hcr)
    have s0 := hA1.cell 0
    simp only [List.getElem?_toArray, List.getElem?_cons_zero] at s0
    have l0 := hA1.lt
    have i1 : (j : Int) < ts.length := by omega
    clear hb hA1 hu hcr HEQ HH
    cases hf : rowF u.cs l
    · rw [hf] at HE
      have HR : Hid (R = 2) := by show _ = _; rw [HRR.out, hf]; rfl
      clear hf HRR
      go_wp2_with fail
      refine HE.out.mono ?_
      rintro r w2 ⟨rfl, hb⟩
      have HC2 := Lib.hid (bt HC1.out hb)
      clear hb
      go_wp2_with fail
      go_ret
      exact ⟨ret_int HR.out.symm, HC2.out⟩
    · rw [hf] at HE
      have HR : Hid (R = 0) := by show _ = _; rw [HRR.out, hf]; rfl
      clear hf HRR
      go_wp2_with fail
      refine HE.out.mono ?_
      rintro r w2 ⟨rfl, hb⟩
      have HC2 := Lib.hid (bt HC1.out hb)
      clear hb
      go_wp2_with fail
      go_ret
      exact ⟨ret_int HR.out.symm, HC2.out⟩
set_option maxRecDepth 100000 in
set_option maxHeartbeats 3200000 in
theorem schkey_any (ts : List Ta) (A : Option Addr) (c : Nat) (k : Int) (v : V) (w : World) (ht : TRow w A c ts) (hv : v.wf) (hT : Tabs w) :
    Calls Tryd.prog 87 #[.agg #[.slice A ts.length c], .int .i64 k, v.agg] w fun r w' => r = .returned (.int .i64 (okE (keyS ts k v))) ∧ Below w.heap.size w w' := by
  have HH := Lib.hid (fun (W : World) (hW : Below w.heap.size w W) => has_any ts A c k W (ht.ext hW))
  have HF := Lib.hid (fun (c : Co) (W : World) (hW : Below w.heap.size w W) => colfits_any c v W hv (hT.ext hW))
  have HT := Lib.hid ht
  have hlen := ht.2.1
  obtain ⟨vk, vn, vr, vt⟩ := v
  unfold V.agg at HF ⊢
  simp only at HF ⊢
  have h0 : Blk ((w.alloc (.cells #[.slice A ts.length c] 103)).alloc (.cells #[.int .u8 vk, .int .i64 vn, .int .u64 vr, .string vt] 24)) w.heap.size #[.slice A ts.length c] 103 := (Blk.new w _ _).old _
  have h1 : Blk ((w.alloc (.cells #[.slice A ts.length c] 103)).alloc (.cells #[.int .u8 vk, .int .i64 vn, .int .u64 vr, .string vt] 24)) (w.heap.size + 1) #[.int .u8 vk, .int .i64 vn, .int .u64 vr, .string vt] 24 := (by repeat (first | exact Blk.at (by simp) | assumption | refine Blk.drew ?_ | refine Blk.old ?_ _))
  have hC : Below w.heap.size w ((w.alloc (.cells #[.slice A ts.length c] 103)).alloc (.cells #[.int .u8 vk, .int .i64 vn, .int .u64 vr, .string vt] 24)) := (by repeat (first | exact Below.refl _ _ | assumption | refine Below.drew ?_ | refine below_drewN ?_ _ | refine Below.alloc ?_ (by simp <;> omega) _))
  have HB0 := Lib.hid h0
  have HB1 := Lib.hid h1
  have HC := Lib.hid hC
  clear ht hv hT h0 h1 hC
  cases hh : hasS ts k
  · rw [hh] at HH
    have HR : Hid (okE (keyS ts k ⟨vk, vn, vr, vt⟩) = 2) := by show _ = _; rw [keyS_no hh]; rfl
    clear hh HF
    generalize okE (keyS ts k ⟨vk, vn, vr, vt⟩) = R at HR ⊢
    go_enter Tryd.func87, Tryd.ntmps87
    go_upto_region 1 with fail
    generalize (w.alloc (.cells #[.slice A ts.length c] 103)).alloc (.cells #[.int .u8 vk, .int .i64 vn, .int .u64 vr, .string vt] 24) = W0 at HB0 HB1 HC ⊢
    generalize w.heap.size + 1 = b1 at HB1 ⊢
    generalize hb0 : w.heap.size = b0 at HB0 ⊢
    clear hb0
    refine region_grow [false, false, false, false, false, false, false, true, true, true, true, true, true, true, true, true, true, true, true, true, true, true, true, true, true, true, true, true, true, true] [7, 8, 9, 10, 11, 12, 13, 14, 15, 16, 17, 18, 19, 20, 21, 22, 23, 24, 25, 26, 27, 28, 29] [.val (.agg #[.slice A ts.length c]), .val (.int .i64 k), .val (.bool false), .val (.bool true), .val (.bool true), .val undef, .val undef, .val undef, .val undef, .val undef, .val undef, .val undef, .val undef, .val undef, .val undef, .val undef, .val undef, .val undef, .val undef, .val undef, .val undef, .val undef, .val (.bool true)] [22] (by kernel_rfl) (by kernel_rfl) (by kernel_rfl) (by kernel_rfl) (by kernel_rfl) ⟨?_, ?_, ?_, ?_, ?_, ?_, ?_, ?_, ?_, ?_, ?_, ?_, ?_, ?_, ?_, ?_, ?_, ?_, ?_, ?_, ?_, ?_, ?_, trivial⟩ ?done
    case done =>
      intro x w5 hb5
      simp only [StepGoal, overlay, upd, cond_true, cond_false, List.getD_cons_zero, List.getD_cons_succ, Nat.zero_add, Nat.reduceAdd, Nat.reduceEqDiff, reduceIte]
      go_wp2_with fail
      go_ret
      exact ⟨ret_int HR.out.symm, bt HC.out hb5⟩
    all_goals
      intro x w5 hb5
      intro K hK
      have hA := HB0.out.ext hb5
      have hB := HB1.out.ext hb5
      have s0 := hA.cell 0
      have z0 := hB.cell 0
      have z1 := hB.cell 1
      have z2 := hB.cell 2
      have z3 := hB.cell 3
      have l0 := hA.lt
      have l1 := hB.lt
      simp only [List.getElem?_toArray, List.getElem?_cons_zero, List.getElem?_cons_succ] at s0 z0 z1 z2 z3
      first
        | (rw [if_neg (by exact Bool.false_ne_true)]; exact hK.out _ _ (Below.refl _ _) rfl)
        | (rw [if_pos (by rfl)]; simp only [overlay, upd, cond_true, cond_false, List.getD_cons_zero, List.getD_cons_succ, Nat.reduceEqDiff, reduceIte]
           go_simp
           first
             | exact hK.out _ _ (Below.refl _ _) rfl
             | ((with_reducible refine (HH.out _ (bt HC.out hb5)).mono ?_); rintro e wa ⟨rfl, hba⟩; go_wp2_with fail; exact hK.out _ _ hba rfl))
  · rw [hh] at HH
    obtain ⟨j, t, rfl, hj, htj, hcb, _⟩ := has_at hh
    obtain ⟨_, _, _, ⟨k0, k1⟩, _⟩ := cols_parts hcb
    obtain ⟨ke, hke⟩ : ∃ ke : Nat, t.key = ke := ⟨t.key.toNat, by omega⟩
    have hkl : ke < t.cs.length := by omega
    obtain ⟨co, hco⟩ : ∃ co, t.cs[ke]? = some co := ⟨_, List.getElem?_eq_getElem hkl⟩
    have hks := keyS_at (v := ⟨vk, vn, vr, vt⟩) hh htj (c := co) (by rw [hke, Int.toNat_natCast]; exact hco)
    rw [hks]
    have HTJ := Lib.hid htj
    have HCO := Lib.hid hco
    have HFC := Lib.hid (fun (W : World) (hW : Below w.heap.size w W) => HF.out co W hW)
    have HT0 := HT.out.at_ hj
    obtain ⟨b, off, u, rfl, hbb, hu, _, _, hcr, c0, c1, c2, c3, c4⟩ := HT0
    obtain rfl : u = t := Option.some.inj (hu.symm.trans HTJ.out)
    rw [hke] at c2
    obtain ⟨tb, toff, cv, hTA, htb, hcv, _, _, e0, e1, e2⟩ := hcr.at_ hkl
    obtain rfl : cv = co := Option.some.inj (hcv.symm.trans hco)
    rw [hTA] at c1
    obtain ⟨cn, ck, cl⟩ := cv
    simp only at e0 e1 e2
    have HC1 := Lib.hid c1
    have HC2 := Lib.hid c2
    have HE0 := Lib.hid e0
    have HE1 := Lib.hid e1
    have HE2 := Lib.hid e2
    obtain ⟨n, hn⟩ : ∃ n, n = u.cs.length := ⟨_, rfl⟩
    rw [← hn] at HC1 hkl
    obtain ⟨uc, huc⟩ : ∃ q, q = u.c := ⟨_, rfl⟩
    rw [← huc] at HC1
    have i1 : (j : Int) < ts.length := by omega
    have i2 : (ke : Int) < n := by omega
    obtain ⟨R, hR⟩ : ∃ q, q = okE (fitB ⟨cn, ck, cl⟩ ⟨vk, vn, vr, vt⟩) := ⟨_, rfl⟩
    rw [← hR]
    cases hf : fitB ⟨cn, ck, cl⟩ ⟨vk, vn, vr, vt⟩
    · rw [hf] at HFC hR
      have HR : Hid (R = 2) := by show _ = _; rw [hR]; rfl
      clear hh hcb hke hco hks htj hu hcr c0 c1 c2 c3 c4 hcv e0 e1 e2 hf hn huc HF k0 k1 hR
      go_enter Tryd.func87, Tryd.ntmps87
      go_upto_region 1 with fail
      generalize (w.alloc (.cells #[.slice (some ⟨b, off, none⟩) ts.length c] 103)).alloc (.cells #[.int .u8 vk, .int .i64 vn, .int .u64 vr, .string vt] 24) = W0 at HB0 HB1 HC ⊢
      generalize w.heap.size + 1 = b1 at HB1 ⊢
      generalize hb0 : w.heap.size = b0 at HB0 ⊢
      clear hb0
      refine region_grow [false, false, false, false, false, false, false, true, true, true, true, true, true, true, true, true, true, true, true, true, true, true, true, true, true, true, true, true, true, true] [7, 8, 9, 10, 11, 12, 13, 14, 15, 16, 17, 18, 19, 20, 21, 22, 23, 24, 25, 26, 27, 28, 29] [.val (.agg #[.slice (some ⟨b, off, none⟩) ts.length c]), .val (.int .i64 j), .val (.bool true), .val (.bool false), .val (.bool false), .val (.pointer (some ⟨b0, 0, none⟩)), .val (.slice (some ⟨b, off, none⟩) ts.length c), .val (.int .i64 j), .val (.pointer (some ⟨b, off + j * 5, none⟩)), .val (.pointer (some ⟨b, off + j * 5 + 1, none⟩)), .val (.slice (some ⟨tb, toff, none⟩) n uc), .val (.pointer (some ⟨b0, 0, none⟩)), .val (.slice (some ⟨b, off, none⟩) ts.length c), .val (.int .i64 j), .val (.pointer (some ⟨b, off + j * 5, none⟩)), .val (.pointer (some ⟨b, off + j * 5 + 2, none⟩)), .val (.int .i64 ke), .val (.pointer (some ⟨tb, toff + ke * 3, none⟩)), .val (.agg #[.string cn, .int .u8 ck, .bool cl]), .val (.agg #[.int .u8 vk, .int .i64 vn, .int .u64 vr, .string vt]), .val (.bool false), .val (.bool true), .val (.bool true)] [22] (by kernel_rfl) (by kernel_rfl) (by kernel_rfl) (by kernel_rfl) (by kernel_rfl) ⟨?_, ?_, ?_, ?_, ?_, ?_, ?_, ?_, ?_, ?_, ?_, ?_, ?_, ?_, ?_, ?_, ?_, ?_, ?_, ?_, ?_, ?_, ?_, trivial⟩ ?done
      case done =>
        intro x w5 hb5
        simp only [StepGoal, overlay, upd, cond_true, cond_false, List.getD_cons_zero, List.getD_cons_succ, Nat.zero_add, Nat.reduceAdd, Nat.reduceEqDiff, reduceIte]
        go_wp2_with fail
        go_ret
        exact ⟨ret_int HR.out.symm, bt HC.out hb5⟩
      all_goals
        intro x w5 hb5
        intro K hK
        have hA := HB0.out.ext hb5
        have hB := HB1.out.ext hb5
        have s0 := hA.cell 0
        have z0 := hB.cell 0
        have z1 := hB.cell 1
        have z2 := hB.cell 2
        have z3 := hB.cell 3
        have l0 := hA.lt
        have l1 := hB.lt
        simp only [List.getElem?_toArray, List.getElem?_cons_zero, List.getElem?_cons_succ] at s0 z0 z1 z2 z3
        have c1 := ((bt HC.out hb5).cell (p := ⟨b, off + j * 5 + 1, none⟩) hbb).trans HC1.out
        have c2 := ((bt HC.out hb5).cell (p := ⟨b, off + j * 5 + 2, none⟩) hbb).trans HC2.out
        have e0 := ((bt HC.out hb5).cell (p := ⟨tb, toff + ke * 3, none⟩) htb).trans HE0.out
        have e1 := ((bt HC.out hb5).cell (p := ⟨tb, toff + ke * 3 + 1, none⟩) htb).trans HE1.out
        have e2 := ((bt HC.out hb5).cell (p := ⟨tb, toff + ke * 3 + 2, none⟩) htb).trans HE2.out
        first
          | (rw [if_neg (by exact Bool.false_ne_true)]; exact hK.out _ _ (Below.refl _ _) rfl)
          | (rw [if_pos (by rfl)]; simp only [overlay, upd, cond_true, cond_false, List.getD_cons_zero, List.getD_cons_succ, Nat.reduceEqDiff, reduceIte]
             go_simp
             first
               | exact hK.out _ _ (Below.refl _ _) rfl
               | ((with_reducible refine (HH.out _ (bt HC.out hb5)).mono ?_); rintro e wa ⟨rfl, hba⟩; go_wp2_with fail; exact hK.out _ _ hba rfl)
               | ((with_reducible refine (HFC.out _ (bt HC.out hb5)).mono ?_); rintro e wa ⟨rfl, hba⟩; go_wp2_with fail; exact hK.out _ _ hba rfl))
    · rw [hf] at HFC hR
      have HR : Hid (R = 0) := by show _ = _; rw [hR]; rfl
      clear hh hcb hke hco hks htj hu hcr c0 c1 c2 c3 c4 hcv e0 e1 e2 hf hn huc HF k0 k1 hR
      go_enter Tryd.func87, Tryd.ntmps87
      go_upto_region 1 with fail
      generalize (w.alloc (.cells #[.slice (some ⟨b, off, none⟩) ts.length c] 103)).alloc (.cells #[.int .u8 vk, .int .i64 vn, .int .u64 vr, .string vt] 24) = W0 at HB0 HB1 HC ⊢
      generalize w.heap.size + 1 = b1 at HB1 ⊢
      generalize hb0 : w.heap.size = b0 at HB0 ⊢
      clear hb0
      refine region_grow [false, false, false, false, false, false, false, true, true, true, true, true, true, true, true, true, true, true, true, true, true, true, true, true, true, true, true, true, true, true] [7, 8, 9, 10, 11, 12, 13, 14, 15, 16, 17, 18, 19, 20, 21, 22, 23, 24, 25, 26, 27, 28, 29] [.val (.agg #[.slice (some ⟨b, off, none⟩) ts.length c]), .val (.int .i64 j), .val (.bool true), .val (.bool false), .val (.bool false), .val (.pointer (some ⟨b0, 0, none⟩)), .val (.slice (some ⟨b, off, none⟩) ts.length c), .val (.int .i64 j), .val (.pointer (some ⟨b, off + j * 5, none⟩)), .val (.pointer (some ⟨b, off + j * 5 + 1, none⟩)), .val (.slice (some ⟨tb, toff, none⟩) n uc), .val (.pointer (some ⟨b0, 0, none⟩)), .val (.slice (some ⟨b, off, none⟩) ts.length c), .val (.int .i64 j), .val (.pointer (some ⟨b, off + j * 5, none⟩)), .val (.pointer (some ⟨b, off + j * 5 + 2, none⟩)), .val (.int .i64 ke), .val (.pointer (some ⟨tb, toff + ke * 3, none⟩)), .val (.agg #[.string cn, .int .u8 ck, .bool cl]), .val (.agg #[.int .u8 vk, .int .i64 vn, .int .u64 vr, .string vt]), .val (.bool true), .val (.bool false), .val (.bool false)] [22] (by kernel_rfl) (by kernel_rfl) (by kernel_rfl) (by kernel_rfl) (by kernel_rfl) ⟨?_, ?_, ?_, ?_, ?_, ?_, ?_, ?_, ?_, ?_, ?_, ?_, ?_, ?_, ?_, ?_, ?_, ?_, ?_, ?_, ?_, ?_, ?_, trivial⟩ ?done
      case done =>
        intro x w5 hb5
        simp only [StepGoal, overlay, upd, cond_true, cond_false, List.getD_cons_zero, List.getD_cons_succ, Nat.zero_add, Nat.reduceAdd, Nat.reduceEqDiff, reduceIte]
        go_wp2_with fail
        go_ret
        exact ⟨ret_int HR.out.symm, bt HC.out hb5⟩
      all_goals
        intro x w5 hb5
        intro K hK
        have hA := HB0.out.ext hb5
        have hB := HB1.out.ext hb5
        have s0 := hA.cell 0
        have z0 := hB.cell 0
        have z1 := hB.cell 1
        have z2 := hB.cell 2
        have z3 := hB.cell 3
        have l0 := hA.lt
        have l1 := hB.lt
        simp only [List.getElem?_toArray, List.getElem?_cons_zero, List.getElem?_cons_succ] at s0 z0 z1 z2 z3
        have c1 := ((bt HC.out hb5).cell (p := ⟨b, off + j * 5 + 1, none⟩) hbb).trans HC1.out
        have c2 := ((bt HC.out hb5).cell (p := ⟨b, off + j * 5 + 2, none⟩) hbb).trans HC2.out
        have e0 := ((bt HC.out hb5).cell (p := ⟨tb, toff + ke * 3, none⟩) htb).trans HE0.out
        have e1 := ((bt HC.out hb5).cell (p := ⟨tb, toff + ke * 3 + 1, none⟩) htb).trans HE1.out
        have e2 := ((bt HC.out hb5).cell (p := ⟨tb, toff + ke * 3 + 2, none⟩) htb).trans HE2.out
        first
          | (rw [if_neg (by exact Bool.false_ne_true)]; exact hK.out _ _ (Below.refl _ _) rfl)
          | (rw [if_pos (by rfl)]; simp only [overlay, upd, cond_true, cond_false, List.getD_cons_zero, List.getD_cons_succ, Nat.reduceEqDiff, reduceIte]
             go_simp
             first
               | exact hK.out _ _ (Below.refl _ _) rfl
               | ((with_reducible refine (HH.out _ (bt HC.out hb5)).mono ?_); rintro e wa ⟨rfl, hba⟩; go_wp2_with fail; exact hK.out _ _ hba rfl)
               | ((with_reducible refine (HFC.out _ (bt HC.out hb5)).mono ?_); rintro e wa ⟨rfl, hba⟩; go_wp2_with fail; exact hK.out _ _ hba rfl))
end Go.Proofs.YtjdfodmialhakaaDoor

/- The reference's Has, Row, Key, Kids, Depth, Root; the statement's ints. -/
namespace Go.Proofs.YtjdfodmialhakaaDoor
open Go.RowKit

set_option maxRecDepth 100000 in
theorem refhas13_any (ts : List Ta) (A : Option Addr) (c : Nat) (k : Int) (w : World) (ht : TRow w A c ts) :
    Calls Tryd.prog 152 #[.agg #[.slice A ts.length c], .int .i64 k] w fun r w' => r = .returned (.bool (hasS ts k)) ∧ Below w.heap.size w w' := by
  obtain ⟨R, hR⟩ : ∃ q, q = hasS ts k := ⟨_, rfl⟩
  rw [← hR]
  have HMY := Lib.hid (fun (W : World) (hW : Below w.heap.size w W) => refmay_any ts A c W (ht.ext hW))
  have hlen := ht.2.1
  unfold hasS hasI at hR
  have h0 : Blk (w.alloc (.cells #[.slice A ts.length c] 103)) w.heap.size #[.slice A ts.length c] 103 := Blk.new w #[.slice A ts.length c] 103
  have hC : Below w.heap.size w (w.alloc (.cells #[.slice A ts.length c] 103)) := (by repeat (first | exact Below.refl _ _ | assumption | refine Below.drew ?_ | refine below_drewN ?_ _ | refine Below.alloc ?_ (by simp <;> omega) _))
  have HA := Lib.hid h0
  have HC := Lib.hid hC
  clear ht h0 hC
  go_enter Tryd.func152, Tryd.ntmps152
  go_wp2_with fail
  refine (HMY.out _ HC.out).mono ?_
  rintro r w1 ⟨rfl, hb⟩
  have hA1 := HA.out.ext hb
  have HC1 := Lib.hid (bt HC.out hb)
  have s0 := hA1.cell 0
  simp only [List.getElem?_toArray, List.getElem?_cons_zero] at s0
  have l0 := hA1.lt
  clear hb hA1 HA HC HMY
  cases hs : schB ts
  · rw [hs] at hR
    have HR : Hid (R = false) := hR
    clear hR hs
    go_wp2_with fail
    go_ret
    exact ⟨ret_bool HR.out.symm, HC1.out⟩
  · rw [hs, Bool.true_and] at hR
    clear hs
    by_cases h0 : 0 ≤ k
    · by_cases h1 : k < ts.length
      · have HR : Hid (R = true) := by show _ = _; rw [hR]; exact decide_eq_true ⟨h0, h1⟩
        clear hR
        go_wp2_with fail
        go_ret
        exact ⟨ret_bool HR.out.symm, HC1.out⟩
      · have HR : Hid (R = false) := by show _ = _; rw [hR]; exact decide_eq_false (by omega)
        clear hR
        go_wp2_with fail
        go_ret
        exact ⟨ret_bool (by rw [HR.out]; exact decide_eq_false (by omega)), HC1.out⟩
    · have HR : Hid (R = false) := by show _ = _; rw [hR]; exact decide_eq_false (by omega)
      clear hR
      go_wp2_with fail
      go_ret
      exact ⟨ret_bool HR.out.symm, HC1.out⟩
set_option maxRecDepth 100000 in
theorem refdepR_any (ts : List Ta) (A : Option Addr) (c : Nat) (k : Int) (w : World) (ht : TRow w A c ts) :
    Calls Tryd.prog 92 #[.agg #[.slice A ts.length c], .int .i64 k] w fun r w' => r = .returned (.int .i64 (depR ts k)) ∧ Below w.heap.size w w' := by
  have HH := Lib.hid (fun (W : World) (hW : Below w.heap.size w W) => refhas13_any ts A c k W (ht.ext hW))
  have h0 : Blk (w.alloc (.cells #[.slice A ts.length c] 103)) w.heap.size #[.slice A ts.length c] 103 := Blk.new w #[.slice A ts.length c] 103
  have hC : Below w.heap.size w (w.alloc (.cells #[.slice A ts.length c] 103)) := (by repeat (first | exact Below.refl _ _ | assumption | refine Below.drew ?_ | refine below_drewN ?_ _ | refine Below.alloc ?_ (by simp <;> omega) _))
  have HA := Lib.hid h0
  have HC := Lib.hid hC
  clear h0 hC
  cases hh : hasS ts k
  · rw [hh] at HH
    have hR : depR ts k = 0 := by unfold depR; rw [hh]; rfl
    rw [hR]
    clear hR hh ht
    go_enter Tryd.func92, Tryd.ntmps92
    go_wp2_with fail
    refine (HH.out _ HC.out).mono ?_
    rintro r w1 ⟨rfl, hb⟩
    have HC1 := Lib.hid (bt HC.out hb)
    clear hb
    go_wp2_with fail
    go_ret
    exact ⟨rfl, HC1.out⟩
  · rw [hh] at HH
    have hR : depR ts k = depA ts k.toNat := by unfold depR; rw [if_pos hh]
    obtain ⟨j, t, rfl, hj, htj, hcb, hs⟩ := has_at hh
    have HD := Lib.hid (fun (W : World) (hW : Below w.heap.size w W) => refdepth_any ts A c ts.length j W (ht.ext hW) (parP_pre (sch_parts hs).2.1) hj (Nat.le_refl _))
    rw [hR, Int.toNat_natCast]
    clear hR hh ht htj hcb hs
    go_enter Tryd.func92, Tryd.ntmps92
    go_wp2_with fail
    refine (HH.out _ HC.out).mono ?_
    rintro r w1 ⟨rfl, hb⟩
    have hA1 := HA.out.ext hb
    have HC1 := Lib.hid (bt HC.out hb)
    have s0 := hA1.cell 0
    simp only [List.getElem?_toArray, List.getElem?_cons_zero] at s0
    have l0 := hA1.lt
    clear hb hA1
    go_wp2_with fail
    refine (HD.out _ HC1.out).mono ?_
    rintro r w2 ⟨rfl, hb⟩
    have HC2 := Lib.hid (bt HC1.out hb)
    clear hb
    go_wp2_with fail
    go_ret
    exact ⟨rfl, HC2.out⟩
set_option maxRecDepth 100000 in
theorem refroot_any (ts : List Ta) (A : Option Addr) (c : Nat) (k : Int) (w : World) (ht : TRow w A c ts) :
    Calls Tryd.prog 93 #[.agg #[.slice A ts.length c], .int .i64 k] w fun r w' => r = .returned (.int .i64 (rootR ts k)) ∧ Below w.heap.size w w' := by
  have HH := Lib.hid (fun (W : World) (hW : Below w.heap.size w W) => refhas13_any ts A c k W (ht.ext hW))
  have hlen := ht.2.1
  have HT := Lib.hid ht
  cases hh : hasS ts k
  · rw [hh] at HH
    have hR : rootR ts k = -1 := by unfold rootR; rw [hh]; rfl
    rw [hR]
    clear hR hh ht
    go_enter Tryd.func93, Tryd.ntmps93
    go_wp2_with fail
    refine (HH.out _ (by repeat (first | exact Below.refl _ _ | assumption | refine Below.drew ?_ | refine below_drewN ?_ _ | refine Below.alloc ?_ (by simp <;> omega) _))).mono ?_
    rintro r w1 ⟨rfl, hb1⟩
    have hbw : Below w.heap.size w w1 := bt (by repeat (first | exact Below.refl _ _ | assumption | refine Below.drew ?_ | refine below_drewN ?_ _ | refine Below.alloc ?_ (by simp <;> omega) _)) hb1
    clear hb1
    go_wp2_with fail
    go_ret
    exact ⟨rfl, hbw⟩
  · rw [hh] at HH
    have hs := hh
    unfold hasS at hs
    obtain ⟨hs1, hs2⟩ := Bool.and_eq_true_iff.1 hs
    obtain ⟨_, hp, _⟩ := sch_parts hs1
    obtain ⟨hk0, hk1⟩ := of_decide_eq_true hs2
    obtain ⟨R, hR⟩ : ∃ q, q = rootR ts k := ⟨_, rfl⟩
    rw [← hR]
    have HR : Hid ((rootF ts.length ts k.toNat : Int) = R) := by show _ = _; rw [hR]; unfold rootR; rw [if_pos hh]
    have HP := Lib.hid hp
    clear hR hh hs hs1 hs2 hp ht
    go_enter Tryd.func93, Tryd.ntmps93
    go_wp2_with fail
    refine (HH.out _ (by repeat (first | exact Below.refl _ _ | assumption | refine Below.drew ?_ | refine below_drewN ?_ _ | refine Below.alloc ?_ (by simp <;> omega) _))).mono ?_
    rintro r w1 ⟨rfl, hb1⟩
    have hbw : Below w.heap.size w w1 := bt (by repeat (first | exact Below.refl _ _ | assumption | refine Below.drew ?_ | refine below_drewN ?_ _ | refine Below.alloc ?_ (by simp <;> omega) _)) hb1
    have HB := Lib.hid ((Blk.new w #[.slice A ts.length c] 103).ext hb1)
    have HTR := Lib.hid (HT.out.ext hbw)
    clear hb1 HT HH
    go_wp2_with fail
    go_loop [1] (fun i => ∃ j : Nat, j < ts.length ∧ i = .int .i64 j ∧ Hid ((rootF ts.length ts j : Int) = R)) (fun i => (intOf i).toNat)
    case atStart => exact ⟨k.toNat, by omega, by rw [Int.toNat_of_nonneg hk0], HR⟩
    case round =>
      obtain ⟨j, hj, rfl, HJ⟩ := hrel
      obtain ⟨b, off, t, rfl, hb, hlk, _, _, _, c0, c1, c2, c3, c4⟩ := HTR.out.at_ hj
      have h00 := HB.out.cell 0
      simp only [List.getElem?_toArray, List.getElem?_cons_zero] at h00
      have hj' : (j : Int) < ts.length := by omega
      have hpar := dep_par HP.out hj hlk
      by_cases hp : 0 ≤ t.par
      · have hpj : t.par < j := by omega
        have HJ2 : Hid ((rootF ts.length ts t.par.toNat : Int) = R) := by
          show _ = _
          rw [← HJ.out, rootF_fuel HP.out (j + 1) ts.length (ts.length + 1) j (by omega) (by omega) (by omega) hj (Nat.le_refl _), rootF_up hlk hp]
        obtain ⟨p, hpp⟩ : ∃ p : Nat, (p : Int) = t.par := ⟨t.par.toNat, by omega⟩
        have hp2 : t.par.toNat = p := by omega
        rw [hp2] at HJ2
        rw [← hpp] at c4 hpj
        have hp3 : p < j := by omega
        have hp4 : (0 : Int) ≤ p := by omega
        clear hpar hlk hp hpp hp2 c0 c1 c2 c3
        go_wp2
        go_round
        case rel => exact ⟨p, by omega, rfl, HJ2⟩
        case measure => simp [intOf]; omega
      · have hp' : t.par < 0 := by omega
        have hJ := HJ.out
        rw [rootF_root hlk hp] at hJ
        have HJ3 := Lib.hid hJ
        clear hpar hlk hp hJ
        go_wp2
        go_ret
        exact ⟨ret_int HJ3.out, hbw⟩
set_option maxRecDepth 100000 in
set_option maxHeartbeats 800000 in
theorem refkids_any (ts : List Ta) (A : Option Addr) (c : Nat) (k : Int) (w : World) (ht : TRow w A c ts) (hsm : ts.length ≤ 30) :
    Calls Tryd.prog 91 #[.agg #[.slice A ts.length c], .int .i64 k] w (RowPost1 (kidsR ts k) w) := by
  have HH := Lib.hid (fun (W : World) (hW : Below w.heap.size w W) => refhas13_any ts A c k W (ht.ext hW))
  have HT := Lib.hid ht
  have h0 : Blk (w.alloc (.cells #[.slice A ts.length c] 103)) w.heap.size #[.slice A ts.length c] 103 := Blk.new w #[.slice A ts.length c] 103
  have hC : Below w.heap.size w (w.alloc (.cells #[.slice A ts.length c] 103)) := (by repeat (first | exact Below.refl _ _ | assumption | refine Below.drew ?_ | refine below_drewN ?_ _ | refine Below.alloc ?_ (by simp <;> omega) _))
  have HA := Lib.hid h0
  have HC := Lib.hid hC
  clear h0 hC
  obtain ⟨i3, hi3, hy0, hy1, hy2⟩ := info_parts info_i64
  cases hh : hasS ts k
  · rw [hh] at HH
    have hR : kidsR ts k = [] := by unfold kidsR; rw [hh]; rfl
    rw [hR]
    clear hR hh ht
    go_enter Tryd.func91, Tryd.ntmps91
    go_wp2_with fail
    generalize w.alloc (.cells #[.slice A ts.length c] 103) = W0 at HA HC ⊢
    go_loopw [5, 6] (fun l i wr => l = .slice none 0 0 ∧ i = .int .i64 0 ∧ Hid (Below w.heap.size w wr) ∧ wr = W0) (fun _ i _ => ts.length - (intOf i).toNat)
    case atStart => exact ⟨rfl, rfl, HC, rfl⟩
    case round =>
      obtain ⟨rfl, rfl, HBW, rfl⟩ := hrel
      have s0 := HA.out.cell 0
      simp only [List.getElem?_toArray, List.getElem?_cons_zero] at s0
      have l0 := HA.out.lt
      by_cases hlt : 0 < ts.length
      · have hlt' : (0 : Int) < ts.length := by omega
        go_wp2_with fail
        refine (HH.out _ HBW.out).mono ?_
        rintro r w1 ⟨rfl, hb1⟩
        have HC1 := Lib.hid (bt HBW.out hb1)
        clear hb1
        go_wp2_with fail
        go_ret
        exact ⟨HC1.out, none, 0, rfl, NRow.nil _ _ _⟩
      · go_wp2_with fail
        go_ret
        exact ⟨HBW.out, none, 0, rfl, NRow.nil _ _ _⟩
  · rw [hh] at HH
    have hR : kidsR ts k = kidsF ts k ts.length := by unfold kidsR; rw [hh]; rfl
    rw [hR]
    clear hR hh ht
    go_enter Tryd.func91, Tryd.ntmps91
    go_wp2_with fail
    generalize w.alloc (.cells #[.slice A ts.length c] 103) = W0 at HA HC ⊢
    go_loopw [5, 6] (fun l i wr => ∃ (j : Nat) (A' : Option Addr) (c' : Nat), j ≤ ts.length ∧ i = .int .i64 j ∧ l = .slice A' (kidsF ts k j).length c' ∧ Hid (wr.ownsRow w.heap.size 3 1 (.slice A' (kidsF ts k j).length c') (kidsF ts k j).length ((kidsF ts k j).map (Value.int .i64))) ∧ Hid (Blk wr w.heap.size #[.slice A ts.length c] 103) ∧ Below w.heap.size w wr) (fun _ i _ => ts.length - (intOf i).toNat)
    case atStart => exact ⟨0, none, 0, by omega, rfl, rfl, World.ownsRow_nil _ _ _ _, HA, HC.out⟩
    case round =>
      clear HA HC
      obtain ⟨j, A', c', hj, rfl, rfl, HO, HA, hbw⟩ := hrel
      have s0 := HA.out.cell 0
      simp only [List.getElem?_toArray, List.getElem?_cons_zero] at s0
      have l0 := HA.out.lt
      by_cases hlt : j < ts.length
      · have hj' : (j : Int) < ts.length := by omega
        go_wp2_with fail
        refine (HH.out _ hbw).mono ?_
        rintro r w1 ⟨rfl, hb1⟩
        have hbw1 := bt hbw hb1
        have HA1 := Lib.hid (HA.out.ext hb1)
        have HO1 := Lib.hid (own_below HO.out hb1)
        clear hb1 hbw s0 l0 HA HO
        obtain ⟨b, off, t, rfl, hb, hlk, _, _, _, c0, c1, c2, c3, c4⟩ := (HT.out.ext hbw1).at_ hlt
        have s0 := HA1.out.cell 0
        simp only [List.getElem?_toArray, List.getElem?_cons_zero] at s0
        have l0 := HA1.out.lt
        have HLK := Lib.hid hlk
        have hkl := kids_len ts k j
        clear hlk
        by_cases hp : t.par = k
        · have HKY := Lib.hid (kids_yes HLK.out hp)
          have hp' : (t.par == k) = true := beq_iff_eq.2 hp
          obtain ⟨n, hn⟩ : ∃ n, n = (kidsF ts k j).length := ⟨_, rfl⟩
          rw [← hn] at HO1 hkl ⊢
          have HNN := Lib.hid hn
          have hsz := hbw1.size
          have hown := HO1.out
          clear hp hn HO1
          go_wp2_with (at_builtin; refine wpList_append_own _ rfl _ _ 45 rfl w.heap.size 3 i3 _ 1 8 Tryd.underlying45 hi3 hy0 hy1 hy2 rfl (by decide) _ n _ rfl (hown.alloc _) ⟨w1.heap.size, 0, none⟩ 1 1 [.int .i64 j] rfl rfl (cells_blk1 (t := 3) (Blk.new _ _ _)) ?c2 ?c3 ?c4 ?c5 ?_)
          case c2 => simp [Value.oneCell']
          case c3 => simp only [maxLen]; omega
          case c4 => omega
          case c5 => first | omega | (simp; omega)
          intro v' w3 hown3 hg3 _
          obtain ⟨A2, c2', rfl⟩ := own_form hown3
          have hbw3 : Below w.heap.size w w3 := (hbw1.alloc hbw1.size _).grown hg3 (by simp; omega) (own_ge hown)
          have HA3 := Lib.hid ((HA1.out.old (.cells #[.int .i64 j] 3)).grown (hown.alloc _) (by decide) hg3)
          have HL : Hid (n + 1 = (kidsF ts k (j + 1)).length) := by show _ = _; rw [HKY.out, HNN.out]; simp
          have HO3 : Hid (w3.ownsRow w.heap.size 3 1 (.slice A2 (n + 1) c2') (n + 1) ((kidsF ts k (j + 1)).map (Value.int .i64))) := by
            show World.ownsRow _ _ _ _ _ _ _
            rw [HKY.out, List.map_append]
            exact hown3
          clear hown3 hg3 hown hbw1 c0 c1 c2 c3 c4 hsz s0 l0
          go_wp2_with fail
          go_roundw
          case rel => exact ⟨j + 1, A2, c2', by omega, by go_num, by rw [← HL.out], by rw [← HL.out]; exact HO3, HA3, hbw3⟩
          case measure => simp [intOf]; omega
        · have HKN := Lib.hid (kids_no HLK.out hp)
          have hp' : (t.par == k) = false := beq_eq_false_iff_ne.2 hp
          clear hp
          go_wp2_with fail
          go_roundw
          case rel => exact ⟨j + 1, A', c', by omega, by go_num, by rw [HKN.out], by rw [HKN.out]; exact HO1, HA1, hbw1⟩
          case measure => simp [intOf]; omega
      · have hje : j = ts.length := by omega
        subst hje
        have hrow := NRow.of_own (l := kidsF ts k ts.length) (by have := kids_len ts k ts.length; omega) HO.out
        go_wp2_with fail
        go_ret
        exact ⟨hbw, A', c', rfl, hrow.1⟩
def intsB (a b : List Int) : Bool := decide (a = b)
theorem ints_take {a b : List Int} {k : Nat} {x : Int} (ha : a[k]? = some x) (hb : b[k]? = some x) (h : a.take k = b.take k) : Hid (a.take (k + 1) = b.take (k + 1)) := by
  show _ = _
  rw [take_snoc ha, take_snoc hb, h]
set_option maxRecDepth 100000 in
theorem ints_same (a : List Int) (A B : Option Addr) (c d : Nat) (w : World) (ha : NRow .i64 w A a) (hb : NRow .i64 w B a) :
    Calls Tryd.prog 90 #[.slice A a.length c, .slice B a.length d] w fun r w' => r = .returned (.bool true) ∧ Below w.heap.size w w' := by
  have HNA := Lib.hid ha
  have HNB := Lib.hid hb
  have hal := ha.1
  clear ha hb
  go_enter Tryd.func90, Tryd.ntmps90
  go_wp2_with fail
  go_loopw [5] (fun i wr => ∃ k : Nat, k ≤ a.length ∧ i = .int .i64 k ∧ Hid (Below w.heap.size w wr)) (fun i _ => a.length - (intOf i).toNat)
  case atStart => exact ⟨0, by omega, rfl, Below.refl _ _⟩
  case round =>
    obtain ⟨k, hk, rfl, HBW⟩ := hrel
    by_cases hlt : k < a.length
    · obtain ⟨b1, o1, x, rfl, hb1, hx, _, n0⟩ := (HNA.out.ext HBW.out).at_ hlt
      obtain ⟨b2, o2, y, rfl, hb2, hy, _, m0⟩ := (HNB.out.ext HBW.out).at_ hlt
      obtain rfl : x = y := Option.some.inj (hx.symm.trans hy)
      have i0 : (0 : Int) ≤ k := by omega
      have i1 : (k : Int) < a.length := by omega
      clear hx hy
      go_upto_region 6 with fail
      go_quiet (fail)
      go_wp2_with fail
      go_roundw
      case rel => exact ⟨k + 1, by omega, by go_num, below_drewN HBW.out _⟩
      case measure => simp [intOf]; omega
    · go_wp2_with fail
      go_ret
      exact ⟨rfl, HBW.out⟩
end Go.Proofs.YtjdfodmialhakaaDoor

/- The reference's Row and Key. -/
namespace Go.Proofs.YtjdfodmialhakaaDoor
open Go.RowKit

set_option maxRecDepth 100000 in
set_option maxHeartbeats 3200000 in
theorem refrow13_any (ts : List Ta) (A B : Option Addr) (c d : Nat) (i : Int) (l : List V) (w : World) (ht : TRow w A c ts) (hr : VRow w B l) (hT : Tabs w) :
    Calls Tryd.prog 88 #[.agg #[.slice A ts.length c], .int .i64 i, .slice B l.length d] w fun r w' => r = .returned (.bool (rowS ts i l)) ∧ Below w.heap.size w w' := by
  have HH := Lib.hid (fun (W : World) (hW : Below w.heap.size w W) => refhas13_any ts A c i W (ht.ext hW))
  have HF := Lib.hid (fun (c : Co) (v : V) (W : World) (hW : Below w.heap.size w W) (hv : v.wf) => refcolfits_any c v W hv (hT.ext hW))
  have HT := Lib.hid ht
  have HVR := Lib.hid hr
  have hlen := ht.2.1
  have hvl := hr.2.1
  have h0 : Blk (w.alloc (.cells #[.slice A ts.length c] 103)) w.heap.size #[.slice A ts.length c] 103 := Blk.new w #[.slice A ts.length c] 103
  have hC : Below w.heap.size w (w.alloc (.cells #[.slice A ts.length c] 103)) := (by repeat (first | exact Below.refl _ _ | assumption | refine Below.drew ?_ | refine below_drewN ?_ _ | refine Below.alloc ?_ (by simp <;> omega) _))
  have HA := Lib.hid h0
  have HC := Lib.hid hC
  clear ht hr hT h0 hC
  cases hh : hasS ts i
  · rw [hh] at HH
    have hR := rowS_no (l := l) hh
    rw [hR]
    clear hh hR
    go_enter Tryd.func88, Tryd.ntmps88
    go_wp2_with fail
    refine (HH.out _ HC.out).mono ?_
    rintro r w1 ⟨rfl, hb⟩
    have HC2 := Lib.hid (bt HC.out hb)
    clear hb
    go_wp2_with fail
    go_ret
    exact ⟨rfl, HC2.out⟩
  · rw [hh] at HH
    obtain ⟨j, t, rfl, hj, htj, hcb, _⟩ := has_at hh
    obtain ⟨R, hR⟩ : ∃ q, q = rowS ts j l := ⟨_, rfl⟩
    rw [← hR]
    rw [rowS_at hh htj] at hR
    have HLEN := Lib.hid (fun h => hR.trans (rowF_len (cs := t.cs) (l := l) h))
    have HNOT := Lib.hid (fun (k : Nat) (c : Co) (v : V) (h1 : t.cs[k]? = some c) (h2 : l[k]? = some v) h => hR.trans (rowF_not h1 h2 h))
    have HEND := Lib.hid (fun h1 h2 => hR.trans (rowF_end (cs := t.cs) (l := l) h1 h2))
    obtain ⟨b, off, u, rfl, hbb, hu, _, _, hcr, c0, c1, c2, c3, c4⟩ := HT.out.at_ hj
    obtain rfl : u = t := Option.some.inj (hu.symm.trans htj)
    have HC1 := Lib.hid c1
    have HCR := Lib.hid hcr
    have hcl := hcr.2.1
    obtain ⟨nm, cs, key, ref, par, TA, uc⟩ := u
    simp only at HLEN HNOT HEND HC1 HCR hcl
    have i1 : (j : Int) < ts.length := by omega
    clear hh htj hcb hu hcr c0 c1 c2 c3 c4 hR
    go_enter Tryd.func88, Tryd.ntmps88
    go_wp2_with fail
    refine (HH.out _ HC.out).mono ?_
    rintro r w1 ⟨rfl, hb⟩
    have HA1 := Lib.hid (HA.out.ext hb)
    have HBW := Lib.hid (bt HC.out hb)
    have s0 := HA1.out.cell 0
    simp only [List.getElem?_toArray, List.getElem?_cons_zero] at s0
    have l0 := HA1.out.lt
    have c1 := (HBW.out.cell (p := ⟨b, off + j * 5 + 1, none⟩) hbb).trans HC1.out
    clear hb HA HC HH
    by_cases hl : cs.length = l.length
    · have q1 : ((l.length : Int) != (cs.length : Int)) = false := by simp [hl]
      have HLL := Lib.hid hl
      have hle : cs.length ≤ l.length := by omega
      have hle2 : l.length ≤ cs.length := by omega
      clear hl HLEN
      go_wp2_with fail
      clear q1
      generalize hb0 : w.heap.size = b0 at HA1 ⊢
      have HW0 := Lib.hid hb0
      clear hb0 s0 l0 c1
      go_loopw [7] (fun v wr => ∃ k : Nat, k ≤ cs.length ∧ v = .int .i64 k ∧ Hid ((List.range k).all (fitAt cs l) = true) ∧ Hid (Blk wr b0 #[.slice (some ⟨b, off, none⟩) ts.length c] 103) ∧ Hid (Below w.heap.size w wr)) (fun v _ => cs.length - (intOf v).toNat)
      case atStart => exact ⟨0, by omega, rfl, (by simp : _ = _), HA1, HBW⟩
      case round =>
        clear HA1 HBW
        obtain ⟨k, hk1, rfl, HS, HA1, HBW⟩ := hrel
        by_cases hlt : k < cs.length
        · obtain ⟨tb, toff, cv, rfl, htb, hck, _, _, e0, e1, e2⟩ := HCR.out.at_ hlt
          obtain ⟨vb, voff, v, rfl, hvb, hvk, _, hvw, d0, d1, d2, d3⟩ := HVR.out.at_ (Nat.lt_of_lt_of_le hlt hle)
          obtain ⟨cn, ck, cl⟩ := cv
          obtain ⟨vk, vn, vr, vt⟩ := v
          have HCK := Lib.hid hck
          have HVK := Lib.hid hvk
          have HFX := Lib.hid (fun (W : World) (hW : Below w.heap.size w W) => HF.out ⟨cn, ck, cl⟩ ⟨vk, vn, vr, vt⟩ W hW hvw)
          simp only at e0 e1 e2 d0 d1 d2 d3
          have HE0 := Lib.hid e0
          have HE1 := Lib.hid e1
          have HE2 := Lib.hid e2
          have HD0 := Lib.hid d0
          have HD1 := Lib.hid d1
          have HD2 := Lib.hid d2
          have HD3 := Lib.hid d3
          clear hck hvk hvw e0 e1 e2 d0 d1 d2 d3
          unfold V.agg at HFX
          simp only at HFX
          have i2 : (k : Int) < cs.length := by omega
          have i3 : (k : Int) < l.length := by omega
          cases hf : fitB ⟨cn, ck, cl⟩ ⟨vk, vn, vr, vt⟩
          · rw [hf] at HFX
            have HRF : Hid (R = false) := HNOT.out k _ _ HCK.out HVK.out hf
            clear hf
            go_upto_region 6 with fail
            refine region_grow [false, false, false, false, false, false, false, false, false, false, false, false, false, false, false, false, false, false, false, false, false, false, false, false, false, false, false, false, false, false, true, true, true, true, true, true, true, true, true, true, true, true, true, true, true] [30, 31, 32, 33, 34, 35, 36, 37, 38, 39, 40, 41, 42, 43, 44] [.val (.pointer (some ⟨b0, 0, none⟩)), .val (.slice (some ⟨b, off, none⟩) ts.length c), .val (.int .i64 j), .val (.pointer (some ⟨b, off + j * 5, none⟩)), .val (.pointer (some ⟨b, off + j * 5 + 1, none⟩)), .val (.slice (some ⟨tb, toff, none⟩) cs.length uc), .val (.int .i64 k), .val (.pointer (some ⟨tb, toff + k * 3, none⟩)), .val (.agg #[.string cn, .int .u8 ck, .bool cl]), .val (.slice (some ⟨vb, voff, none⟩) l.length d), .val (.int .i64 k), .val (.pointer (some ⟨vb, voff + k * 4, none⟩)), .val (.agg #[.int .u8 vk, .int .i64 vn, .int .u64 vr, .string vt]), .val (.bool false), .val (.bool true)] [14] (by kernel_rfl) (by kernel_rfl) (by kernel_rfl) (by kernel_rfl) (by kernel_rfl) ⟨?_, ?_, ?_, ?_, ?_, ?_, ?_, ?_, ?_, ?_, ?_, ?_, ?_, ?_, ?_, trivial⟩ ?done
            case done =>
              intro x w5 hb5
              simp only [StepGoal, overlay, upd, cond_true, cond_false, List.getD_cons_zero, List.getD_cons_succ, Nat.zero_add, Nat.reduceAdd, Nat.reduceEqDiff, reduceIte]
              go_wp2_with fail
              go_ret
              exact ⟨ret_bool HRF.out.symm, bt HBW.out hb5⟩
            all_goals
              intro x w5 hb5
              intro K hK
              have hA := HA1.out.ext hb5
              have s0 := hA.cell 0
              simp only [List.getElem?_toArray, List.getElem?_cons_zero] at s0
              have l0 := hA.lt
              have HB5 := bt HBW.out hb5
              have c1 := (HB5.cell (p := ⟨b, off + j * 5 + 1, none⟩) hbb).trans HC1.out
              have e0 := (HB5.cell (p := ⟨tb, toff + k * 3, none⟩) htb).trans HE0.out
              have e1 := (HB5.cell (p := ⟨tb, toff + k * 3 + 1, none⟩) htb).trans HE1.out
              have e2 := (HB5.cell (p := ⟨tb, toff + k * 3 + 2, none⟩) htb).trans HE2.out
              have d0 := (HB5.cell (p := ⟨vb, voff + k * 4, none⟩) hvb).trans HD0.out
              have d1 := (HB5.cell (p := ⟨vb, voff + k * 4 + 1, none⟩) hvb).trans HD1.out
              have d2 := (HB5.cell (p := ⟨vb, voff + k * 4 + 2, none⟩) hvb).trans HD2.out
              have d3 := (HB5.cell (p := ⟨vb, voff + k * 4 + 3, none⟩) hvb).trans HD3.out
              rw [if_pos (by rfl)]; simp only [overlay, upd, cond_true, cond_false, List.getD_cons_zero, List.getD_cons_succ, Nat.reduceEqDiff, reduceIte]
              go_simp
              first
                | exact hK.out _ _ (Below.refl _ _) rfl
                | ((with_reducible refine (HFX.out _ HB5).mono ?_); rintro e wa ⟨rfl, hba⟩; go_wp2_with fail; exact hK.out _ _ hba rfl)
          · rw [hf] at HFX
            have HS' := fit_next HCK.out HVK.out hf HS.out
            clear hf
            go_upto_region 6 with fail
            refine region_grow [false, false, false, false, false, false, false, false, false, false, false, false, false, false, false, false, false, false, false, false, false, false, false, false, false, false, false, false, false, false, true, true, true, true, true, true, true, true, true, true, true, true, true, true, true] [30, 31, 32, 33, 34, 35, 36, 37, 38, 39, 40, 41, 42, 43, 44] [.val (.pointer (some ⟨b0, 0, none⟩)), .val (.slice (some ⟨b, off, none⟩) ts.length c), .val (.int .i64 j), .val (.pointer (some ⟨b, off + j * 5, none⟩)), .val (.pointer (some ⟨b, off + j * 5 + 1, none⟩)), .val (.slice (some ⟨tb, toff, none⟩) cs.length uc), .val (.int .i64 k), .val (.pointer (some ⟨tb, toff + k * 3, none⟩)), .val (.agg #[.string cn, .int .u8 ck, .bool cl]), .val (.slice (some ⟨vb, voff, none⟩) l.length d), .val (.int .i64 k), .val (.pointer (some ⟨vb, voff + k * 4, none⟩)), .val (.agg #[.int .u8 vk, .int .i64 vn, .int .u64 vr, .string vt]), .val (.bool true), .val (.bool false)] [14] (by kernel_rfl) (by kernel_rfl) (by kernel_rfl) (by kernel_rfl) (by kernel_rfl) ⟨?_, ?_, ?_, ?_, ?_, ?_, ?_, ?_, ?_, ?_, ?_, ?_, ?_, ?_, ?_, trivial⟩ ?done
            case done =>
              intro x w5 hb5
              simp only [StepGoal, overlay, upd, cond_true, cond_false, List.getD_cons_zero, List.getD_cons_succ, Nat.zero_add, Nat.reduceAdd, Nat.reduceEqDiff, reduceIte]
              go_wp2_with fail
              go_roundw
              case rel => exact ⟨k + 1, by omega, by go_num, HS', HA1.out.ext hb5, bt HBW.out hb5⟩
              case measure => simp [intOf]; omega
            all_goals
              intro x w5 hb5
              intro K hK
              have hA := HA1.out.ext hb5
              have s0 := hA.cell 0
              simp only [List.getElem?_toArray, List.getElem?_cons_zero] at s0
              have l0 := hA.lt
              have HB5 := bt HBW.out hb5
              have c1 := (HB5.cell (p := ⟨b, off + j * 5 + 1, none⟩) hbb).trans HC1.out
              have e0 := (HB5.cell (p := ⟨tb, toff + k * 3, none⟩) htb).trans HE0.out
              have e1 := (HB5.cell (p := ⟨tb, toff + k * 3 + 1, none⟩) htb).trans HE1.out
              have e2 := (HB5.cell (p := ⟨tb, toff + k * 3 + 2, none⟩) htb).trans HE2.out
              have d0 := (HB5.cell (p := ⟨vb, voff + k * 4, none⟩) hvb).trans HD0.out
              have d1 := (HB5.cell (p := ⟨vb, voff + k * 4 + 1, none⟩) hvb).trans HD1.out
              have d2 := (HB5.cell (p := ⟨vb, voff + k * 4 + 2, none⟩) hvb).trans HD2.out
              have d3 := (HB5.cell (p := ⟨vb, voff + k * 4 + 3, none⟩) hvb).trans HD3.out
              rw [if_pos (by rfl)]; simp only [overlay, upd, cond_true, cond_false, List.getD_cons_zero, List.getD_cons_succ, Nat.reduceEqDiff, reduceIte]
              go_simp
              first
                | exact hK.out _ _ (Below.refl _ _) rfl
                | ((with_reducible refine (HFX.out _ HB5).mono ?_); rintro e wa ⟨rfl, hba⟩; go_wp2_with fail; exact hK.out _ _ hba rfl)
        · have hke : k = cs.length := by omega
          have HRT : Hid (R = true) := HEND.out HLL.out (by rw [← hke]; exact HS.out)
          clear hke
          go_wp2_with fail
          go_ret
          exact ⟨ret_bool HRT.out.symm, HBW.out⟩
    · have q1 : ((l.length : Int) != (cs.length : Int)) = true := by rw [bne_iff_ne]; omega
      have HRF : Hid (R = false) := HLEN.out hl
      clear hl
      go_wp2_with fail
      go_ret
      exact ⟨ret_bool HRF.out.symm, HBW.out⟩
set_option maxRecDepth 100000 in
set_option maxHeartbeats 3200000 in
theorem refkey13_any (ts : List Ta) (A : Option Addr) (c : Nat) (k : Int) (v : V) (w : World) (ht : TRow w A c ts) (hv : v.wf) (hT : Tabs w) :
    Calls Tryd.prog 89 #[.agg #[.slice A ts.length c], .int .i64 k, v.agg] w fun r w' => r = .returned (.bool (keyS ts k v)) ∧ Below w.heap.size w w' := by
  have HH := Lib.hid (fun (W : World) (hW : Below w.heap.size w W) => refhas13_any ts A c k W (ht.ext hW))
  have HF := Lib.hid (fun (c : Co) (W : World) (hW : Below w.heap.size w W) => refcolfits_any c v W hv (hT.ext hW))
  have HT := Lib.hid ht
  have hlen := ht.2.1
  obtain ⟨vk, vn, vr, vt⟩ := v
  unfold V.agg at HF ⊢
  simp only at HF ⊢
  have h0 : Blk ((w.alloc (.cells #[.slice A ts.length c] 103)).alloc (.cells #[.int .u8 vk, .int .i64 vn, .int .u64 vr, .string vt] 24)) w.heap.size #[.slice A ts.length c] 103 := (Blk.new w _ _).old _
  have h1 : Blk ((w.alloc (.cells #[.slice A ts.length c] 103)).alloc (.cells #[.int .u8 vk, .int .i64 vn, .int .u64 vr, .string vt] 24)) (w.heap.size + 1) #[.int .u8 vk, .int .i64 vn, .int .u64 vr, .string vt] 24 := (by repeat (first | exact Blk.at (by simp) | assumption | refine Blk.drew ?_ | refine Blk.old ?_ _))
  have hC : Below w.heap.size w ((w.alloc (.cells #[.slice A ts.length c] 103)).alloc (.cells #[.int .u8 vk, .int .i64 vn, .int .u64 vr, .string vt] 24)) := (by repeat (first | exact Below.refl _ _ | assumption | refine Below.drew ?_ | refine below_drewN ?_ _ | refine Below.alloc ?_ (by simp <;> omega) _))
  have HB0 := Lib.hid h0
  have HB1 := Lib.hid h1
  have HC := Lib.hid hC
  clear ht hv hT h0 h1 hC
  cases hh : hasS ts k
  · rw [hh] at HH
    have HR : Hid (keyS ts k ⟨vk, vn, vr, vt⟩ = false) := keyS_no hh
    clear hh HF
    generalize keyS ts k ⟨vk, vn, vr, vt⟩ = R at HR ⊢
    go_enter Tryd.func89, Tryd.ntmps89
    go_upto_region 1 with fail
    generalize (w.alloc (.cells #[.slice A ts.length c] 103)).alloc (.cells #[.int .u8 vk, .int .i64 vn, .int .u64 vr, .string vt] 24) = W0 at HB0 HB1 HC ⊢
    generalize w.heap.size + 1 = b1 at HB1 ⊢
    generalize hb0 : w.heap.size = b0 at HB0 ⊢
    clear hb0
    refine region_grow [false, false, false, false, false, false, true, true, true, true, true, true, true, true, true, true, true, true, true, true, true, true, true, true, true, true, true, true] [7, 8, 9, 10, 11, 12, 13, 14, 15, 16, 17, 18, 19, 20, 21, 22, 23, 24, 25, 26, 27, 6] [.val (.agg #[.slice A ts.length c]), .val (.int .i64 k), .val (.bool false), .val (.bool false), .val undef, .val undef, .val undef, .val undef, .val undef, .val undef, .val undef, .val undef, .val undef, .val undef, .val undef, .val undef, .val undef, .val undef, .val undef, .val undef, .val (.bool false), .val (.bool false)] [21] (by kernel_rfl) (by kernel_rfl) (by kernel_rfl) (by kernel_rfl) (by kernel_rfl) ⟨?_, ?_, ?_, ?_, ?_, ?_, ?_, ?_, ?_, ?_, ?_, ?_, ?_, ?_, ?_, ?_, ?_, ?_, ?_, ?_, ?_, ?_, trivial⟩ ?done
    case done =>
      intro x w5 hb5
      simp only [StepGoal, overlay, upd, cond_true, cond_false, List.getD_cons_zero, List.getD_cons_succ, Nat.zero_add, Nat.reduceAdd, Nat.reduceEqDiff, reduceIte]
      go_wp2_with fail
      go_ret
      exact ⟨ret_bool HR.out.symm, bt HC.out hb5⟩
    all_goals
      intro x w5 hb5
      intro K hK
      have hA := HB0.out.ext hb5
      have hB := HB1.out.ext hb5
      have s0 := hA.cell 0
      have z0 := hB.cell 0
      have z1 := hB.cell 1
      have z2 := hB.cell 2
      have z3 := hB.cell 3
      have l0 := hA.lt
      have l1 := hB.lt
      simp only [List.getElem?_toArray, List.getElem?_cons_zero, List.getElem?_cons_succ] at s0 z0 z1 z2 z3
      first
        | (rw [if_neg (by exact Bool.false_ne_true)]; exact hK.out _ _ (Below.refl _ _) rfl)
        | (rw [if_pos (by rfl)]; simp only [overlay, upd, cond_true, cond_false, List.getD_cons_zero, List.getD_cons_succ, Nat.reduceEqDiff, reduceIte]
           go_simp
           first
             | exact hK.out _ _ (Below.refl _ _) rfl
             | ((with_reducible refine (HH.out _ (bt HC.out hb5)).mono ?_); rintro e wa ⟨rfl, hba⟩; go_wp2_with fail; exact hK.out _ _ hba rfl))
  · rw [hh] at HH
    obtain ⟨j, t, rfl, hj, htj, hcb, _⟩ := has_at hh
    obtain ⟨_, _, _, ⟨k0, k1⟩, _⟩ := cols_parts hcb
    obtain ⟨ke, hke⟩ : ∃ ke : Nat, t.key = ke := ⟨t.key.toNat, by omega⟩
    have hkl : ke < t.cs.length := by omega
    obtain ⟨co, hco⟩ : ∃ co, t.cs[ke]? = some co := ⟨_, List.getElem?_eq_getElem hkl⟩
    have hks := keyS_at (v := ⟨vk, vn, vr, vt⟩) hh htj (c := co) (by rw [hke, Int.toNat_natCast]; exact hco)
    rw [hks]
    have HTJ := Lib.hid htj
    have HFC := Lib.hid (fun (W : World) (hW : Below w.heap.size w W) => HF.out co W hW)
    have HT0 := HT.out.at_ hj
    obtain ⟨b, off, u, rfl, hbb, hu, _, _, hcr, c0, c1, c2, c3, c4⟩ := HT0
    obtain rfl : u = t := Option.some.inj (hu.symm.trans HTJ.out)
    rw [hke] at c2
    obtain ⟨tb, toff, cv, hTA, htb, hcv, _, _, e0, e1, e2⟩ := hcr.at_ hkl
    obtain rfl : cv = co := Option.some.inj (hcv.symm.trans hco)
    rw [hTA] at c1
    obtain ⟨cn, ck, cl⟩ := cv
    simp only at e0 e1 e2
    have HC1 := Lib.hid c1
    have HC2 := Lib.hid c2
    have HE0 := Lib.hid e0
    have HE1 := Lib.hid e1
    have HE2 := Lib.hid e2
    obtain ⟨n, hn⟩ : ∃ n, n = u.cs.length := ⟨_, rfl⟩
    rw [← hn] at HC1 hkl
    obtain ⟨uc, huc⟩ : ∃ q, q = u.c := ⟨_, rfl⟩
    rw [← huc] at HC1
    have i1 : (j : Int) < ts.length := by omega
    have i2 : (ke : Int) < n := by omega
    obtain ⟨R, hR⟩ : ∃ q, q = fitB ⟨cn, ck, cl⟩ ⟨vk, vn, vr, vt⟩ := ⟨_, rfl⟩
    rw [← hR]
    cases hf : fitB ⟨cn, ck, cl⟩ ⟨vk, vn, vr, vt⟩
    · rw [hf] at HFC hR
      have HR : Hid (R = false) := hR
      clear hh hcb hke hco hks htj hu hcr c0 c1 c2 c3 c4 hcv e0 e1 e2 hf hn huc HF k0 k1 hR
      go_enter Tryd.func89, Tryd.ntmps89
      go_upto_region 1 with fail
      generalize (w.alloc (.cells #[.slice (some ⟨b, off, none⟩) ts.length c] 103)).alloc (.cells #[.int .u8 vk, .int .i64 vn, .int .u64 vr, .string vt] 24) = W0 at HB0 HB1 HC ⊢
      generalize w.heap.size + 1 = b1 at HB1 ⊢
      generalize hb0 : w.heap.size = b0 at HB0 ⊢
      clear hb0
      refine region_grow [false, false, false, false, false, false, true, true, true, true, true, true, true, true, true, true, true, true, true, true, true, true, true, true, true, true, true, true] [7, 8, 9, 10, 11, 12, 13, 14, 15, 16, 17, 18, 19, 20, 21, 22, 23, 24, 25, 26, 27, 6] [.val (.agg #[.slice (some ⟨b, off, none⟩) ts.length c]), .val (.int .i64 j), .val (.bool true), .val (.bool true), .val (.pointer (some ⟨b0, 0, none⟩)), .val (.slice (some ⟨b, off, none⟩) ts.length c), .val (.int .i64 j), .val (.pointer (some ⟨b, off + j * 5, none⟩)), .val (.pointer (some ⟨b, off + j * 5 + 1, none⟩)), .val (.slice (some ⟨tb, toff, none⟩) n uc), .val (.pointer (some ⟨b0, 0, none⟩)), .val (.slice (some ⟨b, off, none⟩) ts.length c), .val (.int .i64 j), .val (.pointer (some ⟨b, off + j * 5, none⟩)), .val (.pointer (some ⟨b, off + j * 5 + 2, none⟩)), .val (.int .i64 ke), .val (.pointer (some ⟨tb, toff + ke * 3, none⟩)), .val (.agg #[.string cn, .int .u8 ck, .bool cl]), .val (.agg #[.int .u8 vk, .int .i64 vn, .int .u64 vr, .string vt]), .val (.bool false), .val (.bool false), .val (.bool false)] [21] (by kernel_rfl) (by kernel_rfl) (by kernel_rfl) (by kernel_rfl) (by kernel_rfl) ⟨?_, ?_, ?_, ?_, ?_, ?_, ?_, ?_, ?_, ?_, ?_, ?_, ?_, ?_, ?_, ?_, ?_, ?_, ?_, ?_, ?_, ?_, trivial⟩ ?done
      case done =>
        intro x w5 hb5
        simp only [StepGoal, overlay, upd, cond_true, cond_false, List.getD_cons_zero, List.getD_cons_succ, Nat.zero_add, Nat.reduceAdd, Nat.reduceEqDiff, reduceIte]
        go_wp2_with fail
        go_ret
        exact ⟨ret_bool HR.out.symm, bt HC.out hb5⟩
      all_goals
        intro x w5 hb5
        intro K hK
        have hA := HB0.out.ext hb5
        have hB := HB1.out.ext hb5
        have s0 := hA.cell 0
        have z0 := hB.cell 0
        have z1 := hB.cell 1
        have z2 := hB.cell 2
        have z3 := hB.cell 3
        have l0 := hA.lt
        have l1 := hB.lt
        simp only [List.getElem?_toArray, List.getElem?_cons_zero, List.getElem?_cons_succ] at s0 z0 z1 z2 z3
        have c1 := ((bt HC.out hb5).cell (p := ⟨b, off + j * 5 + 1, none⟩) hbb).trans HC1.out
        have c2 := ((bt HC.out hb5).cell (p := ⟨b, off + j * 5 + 2, none⟩) hbb).trans HC2.out
        have e0 := ((bt HC.out hb5).cell (p := ⟨tb, toff + ke * 3, none⟩) htb).trans HE0.out
        have e1 := ((bt HC.out hb5).cell (p := ⟨tb, toff + ke * 3 + 1, none⟩) htb).trans HE1.out
        have e2 := ((bt HC.out hb5).cell (p := ⟨tb, toff + ke * 3 + 2, none⟩) htb).trans HE2.out
        first
          | (rw [if_neg (by exact Bool.false_ne_true)]; exact hK.out _ _ (Below.refl _ _) rfl)
          | (rw [if_pos (by rfl)]; simp only [overlay, upd, cond_true, cond_false, List.getD_cons_zero, List.getD_cons_succ, Nat.reduceEqDiff, reduceIte]
             go_simp
             first
               | exact hK.out _ _ (Below.refl _ _) rfl
               | ((with_reducible refine (HH.out _ (bt HC.out hb5)).mono ?_); rintro e wa ⟨rfl, hba⟩; go_wp2_with fail; exact hK.out _ _ hba rfl)
               | ((with_reducible refine (HFC.out _ (bt HC.out hb5)).mono ?_); rintro e wa ⟨rfl, hba⟩; go_wp2_with fail; exact hK.out _ _ hba rfl))
    · rw [hf] at HFC hR
      have HR : Hid (R = true) := hR
      clear hh hcb hke hco hks htj hu hcr c0 c1 c2 c3 c4 hcv e0 e1 e2 hf hn huc HF k0 k1 hR
      go_enter Tryd.func89, Tryd.ntmps89
      go_upto_region 1 with fail
      generalize (w.alloc (.cells #[.slice (some ⟨b, off, none⟩) ts.length c] 103)).alloc (.cells #[.int .u8 vk, .int .i64 vn, .int .u64 vr, .string vt] 24) = W0 at HB0 HB1 HC ⊢
      generalize w.heap.size + 1 = b1 at HB1 ⊢
      generalize hb0 : w.heap.size = b0 at HB0 ⊢
      clear hb0
      refine region_grow [false, false, false, false, false, false, true, true, true, true, true, true, true, true, true, true, true, true, true, true, true, true, true, true, true, true, true, true] [7, 8, 9, 10, 11, 12, 13, 14, 15, 16, 17, 18, 19, 20, 21, 22, 23, 24, 25, 26, 27, 6] [.val (.agg #[.slice (some ⟨b, off, none⟩) ts.length c]), .val (.int .i64 j), .val (.bool true), .val (.bool true), .val (.pointer (some ⟨b0, 0, none⟩)), .val (.slice (some ⟨b, off, none⟩) ts.length c), .val (.int .i64 j), .val (.pointer (some ⟨b, off + j * 5, none⟩)), .val (.pointer (some ⟨b, off + j * 5 + 1, none⟩)), .val (.slice (some ⟨tb, toff, none⟩) n uc), .val (.pointer (some ⟨b0, 0, none⟩)), .val (.slice (some ⟨b, off, none⟩) ts.length c), .val (.int .i64 j), .val (.pointer (some ⟨b, off + j * 5, none⟩)), .val (.pointer (some ⟨b, off + j * 5 + 2, none⟩)), .val (.int .i64 ke), .val (.pointer (some ⟨tb, toff + ke * 3, none⟩)), .val (.agg #[.string cn, .int .u8 ck, .bool cl]), .val (.agg #[.int .u8 vk, .int .i64 vn, .int .u64 vr, .string vt]), .val (.bool true), .val (.bool true), .val (.bool true)] [21] (by kernel_rfl) (by kernel_rfl) (by kernel_rfl) (by kernel_rfl) (by kernel_rfl) ⟨?_, ?_, ?_, ?_, ?_, ?_, ?_, ?_, ?_, ?_, ?_, ?_, ?_, ?_, ?_, ?_, ?_, ?_, ?_, ?_, ?_, ?_, trivial⟩ ?done
      case done =>
        intro x w5 hb5
        simp only [StepGoal, overlay, upd, cond_true, cond_false, List.getD_cons_zero, List.getD_cons_succ, Nat.zero_add, Nat.reduceAdd, Nat.reduceEqDiff, reduceIte]
        go_wp2_with fail
        go_ret
        exact ⟨ret_bool HR.out.symm, bt HC.out hb5⟩
      all_goals
        intro x w5 hb5
        intro K hK
        have hA := HB0.out.ext hb5
        have hB := HB1.out.ext hb5
        have s0 := hA.cell 0
        have z0 := hB.cell 0
        have z1 := hB.cell 1
        have z2 := hB.cell 2
        have z3 := hB.cell 3
        have l0 := hA.lt
        have l1 := hB.lt
        simp only [List.getElem?_toArray, List.getElem?_cons_zero, List.getElem?_cons_succ] at s0 z0 z1 z2 z3
        have c1 := ((bt HC.out hb5).cell (p := ⟨b, off + j * 5 + 1, none⟩) hbb).trans HC1.out
        have c2 := ((bt HC.out hb5).cell (p := ⟨b, off + j * 5 + 2, none⟩) hbb).trans HC2.out
        have e0 := ((bt HC.out hb5).cell (p := ⟨tb, toff + ke * 3, none⟩) htb).trans HE0.out
        have e1 := ((bt HC.out hb5).cell (p := ⟨tb, toff + ke * 3 + 1, none⟩) htb).trans HE1.out
        have e2 := ((bt HC.out hb5).cell (p := ⟨tb, toff + ke * 3 + 2, none⟩) htb).trans HE2.out
        first
          | (rw [if_neg (by exact Bool.false_ne_true)]; exact hK.out _ _ (Below.refl _ _) rfl)
          | (rw [if_pos (by rfl)]; simp only [overlay, upd, cond_true, cond_false, List.getD_cons_zero, List.getD_cons_succ, Nat.reduceEqDiff, reduceIte]
             go_simp
             first
               | exact hK.out _ _ (Below.refl _ _) rfl
               | ((with_reducible refine (HH.out _ (bt HC.out hb5)).mono ?_); rintro e wa ⟨rfl, hba⟩; go_wp2_with fail; exact hK.out _ _ hba rfl)
               | ((with_reducible refine (HFC.out _ (bt HC.out hb5)).mono ?_); rintro e wa ⟨rfl, hba⟩; go_wp2_with fail; exact hK.out _ _ hba rfl))
end Go.Proofs.YtjdfodmialhakaaDoor

/- SchemaMay's walk. -/
namespace Go.Proofs.YtjdfodmialhakaaDoor
open Go.RowKit

theorem opt_d {us ts : List Ta} (h : us.map Ta.d = ts.map Ta.d) (j : Nat) : (us[j]? = none ∧ ts[j]? = none) ∨ ∃ u t, us[j]? = some u ∧ ts[j]? = some t ∧ u.d = t.d := by
  have e : (us[j]?).map Ta.d = (ts[j]?).map Ta.d := by rw [← List.getElem?_map, h, List.getElem?_map]
  cases hu : us[j]? with
  | none =>
    cases ht : ts[j]? with
    | none => exact Or.inl ⟨rfl, rfl⟩
    | some t => rw [hu, ht] at e; cases e
  | some u =>
    cases ht : ts[j]? with
    | none => rw [hu, ht] at e; cases e
    | some t =>
      rw [hu, ht] at e
      exact Or.inr ⟨u, t, rfl, rfl, Option.some.inj e⟩
section
variable {us ts : List Ta}
theorem len_d (h : us.map Ta.d = ts.map Ta.d) : us.length = ts.length := by simpa using congrArg List.length h
theorem hasS_d (h : us.map Ta.d = ts.map Ta.d) (k : Int) : hasS us k = hasS ts k := by unfold hasS; rw [schB_d h, len_d h]
theorem depR_d (h : us.map Ta.d = ts.map Ta.d) (k : Int) : depR us k = depR ts k := by unfold depR depA; rw [hasS_d h, deps_d h]
theorem rootF_d (h : us.map Ta.d = ts.map Ta.d) : ∀ f i, rootF f us i = rootF f ts i
  | 0, _ => rfl
  | f + 1, i => by
    rw [rootF, rootF]
    rcases opt_d h i with ⟨h1, h2⟩ | ⟨u, t, h1, h2, e⟩
    · rw [h1, h2]
    · rw [h1, h2]
      simp only [(tab_d e).2.2.2.2, rootF_d h f]
theorem rootR_d (h : us.map Ta.d = ts.map Ta.d) (k : Int) : rootR us k = rootR ts k := by unfold rootR; rw [hasS_d h, len_d h, rootF_d h]
theorem isKid_d (h : us.map Ta.d = ts.map Ta.d) (k : Int) : isKid us k = isKid ts k := by
  funext i
  unfold isKid
  rcases opt_d h i with ⟨h1, h2⟩ | ⟨u, t, h1, h2, e⟩
  · rw [h1, h2]
  · rw [h1, h2]
    simp only [(tab_d e).2.2.2.2]
theorem kidsR_d (h : us.map Ta.d = ts.map Ta.d) (k : Int) : kidsR us k = kidsR ts k := by unfold kidsR kidsF; rw [hasS_d h, len_d h, isKid_d h]
theorem rowS_d (h : us.map Ta.d = ts.map Ta.d) (k : Int) (l : List V) : rowS us k l = rowS ts k l := by
  unfold rowS
  rw [hasS_d h]
  rcases opt_d h k.toNat with ⟨h1, h2⟩ | ⟨u, t, h1, h2, e⟩
  · rw [h1, h2]
  · rw [h1, h2]
    simp only [(tab_d e).2.1]
theorem keyS_d (h : us.map Ta.d = ts.map Ta.d) (k : Int) (v : V) : keyS us k v = keyS ts k v := by
  unfold keyS
  rw [hasS_d h]
  rcases opt_d h k.toNat with ⟨h1, h2⟩ | ⟨u, t, h1, h2, e⟩
  · rw [h1, h2]
  · rw [h1, h2]
    simp only [(tab_d e).2.1, (tab_d e).2.2.1]
end
theorem okE_beq (b : Bool) : (okE b == 0) = b := by cases b <;> rfl
theorem okE_two (b : Bool) : okE b = 0 ∨ okE b = 2 := by cases b; exact Or.inr rfl; exact Or.inl rfl
set_option maxRecDepth 100000 in
set_option maxHeartbeats 6400000 in
theorem schmay_walk (ts : List Ta) (A : Option Addr) (c : Nat) (k : Int) (l : List V) (B : Option Addr) (d : Nat) (v : V) (w : World) (hT : Tabs w) (ht : TRow w A c ts) (hr : VRow w B l) (hv : v.wf) :
    Calls Tryd.prog 16 #[.agg #[.slice A ts.length c], .int .i64 k, .slice B l.length d, v.agg] w fun r w' => r = .returned (.bool true) ∧ Below w.heap.size w w' := by
  have hlen := ht.2.1
  have HLG := Lib.hid (fun (W : World) (hW : Below w.heap.size w W) => large13_le ts A c W (ht.ext hW))
  have HLO := Lib.hid (fun (W : World) (hW : Below w.heap.size w W) => long_any l B d W (hr.ext hW))
  have HAL := Lib.hid (fun (W : World) (hW : Below w.heap.size w W) => alive13_any W (hT.ext hW))
  have HCP := Lib.hid (fun (W : World) (hW : Below w.heap.size w W) (hs : smallS ts) => copy13_any ts A c W (ht.ext hW) hs)
  have HCK := Lib.hid (fun (us : List Ta) (B : Option Addr) (d : Nat) (W : World) (hu : TRow W B d us) => check13_any us B d W hu)
  have HRW := Lib.hid (fun (us : List Ta) (U : Option Addr) (e : Nat) (W : World) (hW : Below w.heap.size w W) (hu : TRow W U e us) => schrow_any us U B e d k l W hu (hr.ext hW) (hT.ext hW))
  have HKE := Lib.hid (fun (us : List Ta) (U : Option Addr) (e : Nat) (W : World) (hW : Below w.heap.size w W) (hu : TRow W U e us) => schkey_any us U e k v W hu hv (hT.ext hW))
  have HMY := Lib.hid (fun (W : World) (hW : Below w.heap.size w W) => refmay_any ts A c W (ht.ext hW))
  have HRR := Lib.hid (fun (W : World) (hW : Below w.heap.size w W) => refrow13_any ts A B c d k l W (ht.ext hW) (hr.ext hW) (hT.ext hW))
  have HRK := Lib.hid (fun (W : World) (hW : Below w.heap.size w W) => refkey13_any ts A c k v W (ht.ext hW) hv (hT.ext hW))
  have HKS := Lib.hid (fun (W : World) (hW : Below w.heap.size w W) (h : ts.length ≤ 30) => refkids_any ts A c k W (ht.ext hW) h)
  have HDS := Lib.hid (fun (W : World) (hW : Below w.heap.size w W) => refdepR_any ts A c k W (ht.ext hW))
  have HRS := Lib.hid (fun (W : World) (hW : Below w.heap.size w W) => refroot_any ts A c k W (ht.ext hW))
  have HSM := Lib.hid (fun (us : List Ta) (B : Option Addr) (d : Nat) (W : World) (hW : Below w.heap.size w W) (hu : TRow W B d us) => sameS_any us ts B A d c W hu (ht.ext hW))
  obtain ⟨K0, hK0⟩ : ∃ q, q = keyS ts k v := ⟨_, rfl⟩
  have HKD := Lib.hid (fun (us : List Ta) (h : us.map Ta.d = ts.map Ta.d) => (keyS_d h k v).trans hK0.symm)
  rw [← hK0] at HRK
  obtain ⟨vk, vn, vr, vt⟩ := v
  unfold V.agg at HKE HRK ⊢
  simp only at HKE HRK ⊢
  clear ht hT hr hv hK0
  have h0 : Blk ((w.alloc (.cells #[.slice A ts.length c] 103)).alloc (.cells #[.int .u8 vk, .int .i64 vn, .int .u64 vr, .string vt] 24)) w.heap.size #[.slice A ts.length c] 103 := (Blk.new w _ _).old _
  have h1 : Blk ((w.alloc (.cells #[.slice A ts.length c] 103)).alloc (.cells #[.int .u8 vk, .int .i64 vn, .int .u64 vr, .string vt] 24)) (w.heap.size + 1) #[.int .u8 vk, .int .i64 vn, .int .u64 vr, .string vt] 24 := (by repeat (first | exact Blk.at (by simp) | assumption | refine Blk.drew ?_ | refine Blk.old ?_ _))
  have hC : Below w.heap.size w ((w.alloc (.cells #[.slice A ts.length c] 103)).alloc (.cells #[.int .u8 vk, .int .i64 vn, .int .u64 vr, .string vt] 24)) := (by repeat (first | exact Below.refl _ _ | assumption | refine Below.drew ?_ | refine below_drewN ?_ _ | refine Below.alloc ?_ (by simp <;> omega) _))
  have HB0 := Lib.hid h0
  have HB1 := Lib.hid h1
  have HC := Lib.hid hC
  clear h0 h1 hC
  go_enter Tryd.func16, Tryd.ntmps16
  go_upto_region 1 with fail
  generalize (w.alloc (.cells #[.slice A ts.length c] 103)).alloc (.cells #[.int .u8 vk, .int .i64 vn, .int .u64 vr, .string vt] 24) = W0 at HB0 HB1 HC ⊢
  generalize w.heap.size + 1 = b1 at HB1 ⊢
  have s0 := HB0.out.cell 0
  simp only [List.getElem?_toArray, List.getElem?_cons_zero] at s0
  have l0 := HB0.out.lt
  go_wp2_with fail
  refine (HLG.out _ HC.out).mono ?_
  rintro r w1 ⟨⟨x, rfl, hx⟩, hb⟩
  have HB0 := Lib.hid (HB0.out.ext hb)
  have HB1 := Lib.hid (HB1.out.ext hb)
  have HC := Lib.hid (bt HC.out hb)
  have HX := Lib.hid hx
  clear s0 l0 hb hx HLG
  cases x
  · have HSMALL := Lib.hid (HX.out rfl)
    go_wp2_with fail
    refine (HLO.out _ HC.out).mono ?_
    rintro r w2 ⟨rfl, rfl⟩
    have z3 := HB1.out.cell 3
    simp only [List.getElem?_toArray, List.getElem?_cons_zero, List.getElem?_cons_succ] at z3
    have l1 := HB1.out.lt
    clear HX HLO
    cases hlo : decide (4000 < longN l)
    · clear hlo
      by_cases hz : 16384 < vt.size
      · go_wp2_with fail
        refine (HAL.out _ HC.out).mono ?_
        rintro r w9 ⟨rfl, hb⟩
        have HC := Lib.hid (bt HC.out hb)
        clear hb
        go_wp2_with fail
        go_ret
        exact ⟨rfl, HC.out⟩
      · have s0 := HB0.out.cell 0
        simp only [List.getElem?_toArray, List.getElem?_cons_zero] at s0
        have l0 := HB0.out.lt
        go_wp2_with fail
        refine (HCP.out _ HC.out HSMALL.out).mono ?_
        rintro r w3 ⟨hb, us, U, uc, rfl, hur, hud⟩
        have HC3 : Hid (Below w.heap.size w (w3.alloc (.cells #[.slice U us.length uc] 103))) := bt (bt HC.out hb) (by repeat (first | exact Below.refl _ _ | assumption | refine Below.drew ?_ | refine below_drewN ?_ _ | refine Below.alloc ?_ (by simp <;> omega) _))
        have HB2 := Lib.hid (Blk.new w3 #[.slice U us.length uc] 103)
        have HB0 := Lib.hid ((HB0.out.ext hb).old (.cells #[.slice U us.length uc] 103))
        have HB1 := Lib.hid ((HB1.out.ext hb).old (.cells #[.slice U us.length uc] 103))
        have HU := Lib.hid (hur.ext (show Below w3.heap.size w3 (w3.alloc (.cells #[.slice U us.length uc] 103)) from (by repeat (first | exact Below.refl _ _ | assumption | refine Below.drew ?_ | refine below_drewN ?_ _ | refine Below.alloc ?_ (by simp <;> omega) _))))
        have HUD := Lib.hid hud
        clear hb hur hud HC s0 l0 z3 l1 hz HCP
        go_upto_region 4 with fail
        generalize w3.alloc (.cells #[.slice U us.length uc] 103) = w4 at HC3 HB2 HB0 HB1 HU ⊢
        generalize w3.heap.size = b2 at HB2 ⊢
        have HCK := Lib.hid (fun (W : World) (hW : Below w4.heap.size w4 W) => HCK.out us U uc W (HU.out.ext hW))
        have HRW := Lib.hid (fun (W : World) (hW : Below w4.heap.size w4 W) => HRW.out us U uc W (bt HC3.out hW) (HU.out.ext hW))
        have HKE := Lib.hid (fun (W : World) (hW : Below w4.heap.size w4 W) => HKE.out us U uc W (bt HC3.out hW) (HU.out.ext hW))
        rw [schB_d HUD.out] at HCK
        rw [rowS_d HUD.out] at HRW
        rw [HKD.out us HUD.out] at HKE
        generalize schB ts = S0 at HCK HMY
        generalize rowS ts k l = R0 at HRW HRR
        have hE1 := okE_beq S0
        have hF1 := okE_beq R0
        have hG1 := okE_beq K0
        have HE2 := Lib.hid (okE_two S0)
        have HF2 := Lib.hid (okE_two R0)
        have HG2 := Lib.hid (okE_two K0)
        generalize okE S0 = E at HCK hE1 HE2
        generalize okE R0 = F at HRW hF1 HF2
        generalize okE K0 = G at HKE hG1 HG2
        have HE1 := Lib.hid hE1
        have HF1 := Lib.hid hF1
        have HG1 := Lib.hid hG1
        clear hE1 hF1 hG1 HKD
        go_cut [10, 11, 12] (fun e f g wx => e = .int .i64 E ∧ f = .int .i64 F ∧ g = .int .i64 G ∧ Hid (Below w4.heap.size w4 wx))
        case first =>
          refine region_grow [false, false, false, false, false, false, false, false, false, false, true, true, true, false, false, false, false, false, false, false, false, false, false, false, false, false, false, false, true, true, true, true, true, true, true, true, true, true, false, false, false, false, false, false, false, false, false, false, false, false, false, false, false, false, false, false, false, false, false, false, false, false, false, false, false, false, false, false, false, false, false, false, false, false, false, false, false, false, false, false, false, false, false, false, false, false, false, false, false, false, false, false, false, false, false, false, false, false, false, false, false, false, false, false, false, false, false, false, false, false, false, false, false, false, false, false] [28, 29, 30, 31, 32, 33, 34, 35, 36, 37, 10, 11, 12] [.val (.agg #[.slice U us.length uc]), .val (.int .i64 E), .val (.agg #[.slice U us.length uc]), .val (.int .i64 k), .val (.slice B l.length d), .val (.int .i64 F), .val (.agg #[.slice U us.length uc]), .val (.int .i64 k), .val (.agg #[.int .u8 vk, .int .i64 vn, .int .u64 vr, .string vt]), .val (.int .i64 G), .val (.int .i64 E), .val (.int .i64 F), .val (.int .i64 G)] [10, 11, 12] (by kernel_rfl) (by kernel_rfl) (by kernel_rfl) (by kernel_rfl) (by kernel_rfl) ⟨?_, ?_, ?_, ?_, ?_, ?_, ?_, ?_, ?_, ?_, ?_, ?_, ?_, trivial⟩ ?done
          case done =>
            intro x w5 hb5
            simp only [StepGoal, overlay, upd, cond_true, cond_false, List.getD_cons_zero, List.getD_cons_succ, Nat.zero_add, Nat.reduceAdd, Nat.reduceEqDiff, reduceIte]
            go_wp2_with fail
            go_meet
            exact ⟨rfl, rfl, rfl, hb5⟩
          all_goals
            intro x w5 hb5
            intro K hK
            have hA := HB2.out.ext hb5
            have hB := HB1.out.ext hb5
            have s0 := hA.cell 0
            have z0 := hB.cell 0
            have z1 := hB.cell 1
            have z2 := hB.cell 2
            have z3 := hB.cell 3
            have l0 := hA.lt
            have l1 := hB.lt
            simp only [List.getElem?_toArray, List.getElem?_cons_zero, List.getElem?_cons_succ] at s0 z0 z1 z2 z3
            rw [if_pos (by rfl)]; simp only [overlay, upd, cond_true, cond_false, List.getD_cons_zero, List.getD_cons_succ, Nat.reduceEqDiff, reduceIte]
            go_simp
            first
              | exact hK.out _ _ (Below.refl _ _) rfl
              | ((with_reducible refine (HCK.out _ hb5).mono ?_); rintro e wa ⟨rfl, hba⟩; go_wp2_with fail; exact hK.out _ _ hba rfl)
              | ((with_reducible refine (HRW.out _ hb5).mono ?_); rintro e wa ⟨rfl, hba⟩; go_wp2_with fail; exact hK.out _ _ hba rfl)
              | ((with_reducible refine (HKE.out _ hb5).mono ?_); rintro e wa ⟨rfl, hba⟩; go_wp2_with fail; exact hK.out _ _ hba rfl)
        case rest =>
          obtain ⟨rfl, rfl, rfl, HB5⟩ := hcut
          rename World => w5
          have HC5 := Lib.hid (bt HC3.out HB5.out)
          have HB0 := Lib.hid (HB0.out.ext HB5.out)
          have HB1 := Lib.hid (HB1.out.ext HB5.out)
          have HB2 := Lib.hid (HB2.out.ext HB5.out)
          have HU5 := Lib.hid (HU.out.ext HB5.out)
          clear HCK HRW HKE HU HC3 HB5
          have s0 := HB0.out.cell 0
          simp only [List.getElem?_toArray, List.getElem?_cons_zero] at s0
          have l0 := HB0.out.lt
          have q1 := HE1.out
          go_wp2_with fail
          refine (HMY.out _ HC5.out).mono ?_
          rintro r w6 ⟨rfl, hb⟩
          have HC6 := Lib.hid (bt HC5.out hb)
          have HB0 := Lib.hid (HB0.out.ext hb)
          have HB1 := Lib.hid (HB1.out.ext hb)
          have HB2 := Lib.hid (HB2.out.ext hb)
          have HU6 := Lib.hid (HU5.out.ext hb)
          clear hb s0 l0 HC5 HU5 HMY q1
          have s0 := HB0.out.cell 0
          simp only [List.getElem?_toArray, List.getElem?_cons_zero] at s0
          have l0 := HB0.out.lt
          have q2 := HF1.out
          go_wp2_with fail
          refine (HRR.out _ HC6.out).mono ?_
          rintro r w7 ⟨rfl, hb⟩
          have HC7 := Lib.hid (bt HC6.out hb)
          have HB0 := Lib.hid (HB0.out.ext hb)
          have HB1 := Lib.hid (HB1.out.ext hb)
          have HB2 := Lib.hid (HB2.out.ext hb)
          have HU7 := Lib.hid (HU6.out.ext hb)
          clear hb s0 l0 HC6 HU6 HRR q2
          have s0 := HB0.out.cell 0
          simp only [List.getElem?_toArray, List.getElem?_cons_zero] at s0
          have l0 := HB0.out.lt
          have z0 := HB1.out.cell 0
          have z1 := HB1.out.cell 1
          have z2 := HB1.out.cell 2
          have z3 := HB1.out.cell 3
          have l1 := HB1.out.lt
          simp only [List.getElem?_toArray, List.getElem?_cons_zero, List.getElem?_cons_succ] at z0 z1 z2 z3
          have q3 := HG1.out
          go_wp2_with fail
          refine (HRK.out _ HC7.out).mono ?_
          rintro r w8 ⟨rfl, hb⟩
          have HC8 := Lib.hid (bt HC7.out hb)
          have HB0 := Lib.hid (HB0.out.ext hb)
          have HB2 := Lib.hid (HB2.out.ext hb)
          have HU8 := Lib.hid (HU7.out.ext hb)
          clear hb s0 l0 z0 z1 z2 z3 l1 HB1 HC7 HU7 HRK q3
          go_upto_region 7 with fail
          clear HE1 HF1 HG1
          go_cut [82] (fun x wx => x = .bool false ∧ wx = w8)
          case first =>
            rcases HE2.out with rfl | rfl <;> rcases HF2.out with rfl | rfl <;> rcases HG2.out with rfl | rfl
            all_goals
              go_wp2_with fail
              go_meet
              exact ⟨rfl, rfl⟩
          case rest =>
            obtain ⟨rfl, rfl⟩ := hcut
            clear HE2 HF2 HG2
            rename World => w8
            have HKU := Lib.hid (fun (W : World) (hW : Below w8.heap.size w8 W) => kids_any us U uc k W (HU8.out.ext hW))
            have HDU := Lib.hid (fun (W : World) (hW : Below w8.heap.size w8 W) => depth_any us U uc k W (HU8.out.ext hW))
            have HRU := Lib.hid (fun (W : World) (hW : Below w8.heap.size w8 W) => root_any us U uc k W (HU8.out.ext hW))
            have HSM := Lib.hid (fun (W : World) (hW : Below w8.heap.size w8 W) => HSM.out us U uc W (bt HC8.out hW) (HU8.out.ext hW))
            have HKS := Lib.hid (fun (W : World) (hW : Below w8.heap.size w8 W) => HKS.out W (bt HC8.out hW) HSMALL.out.1)
            have HDS := Lib.hid (fun (W : World) (hW : Below w8.heap.size w8 W) => HDS.out W (bt HC8.out hW))
            have HRS := Lib.hid (fun (W : World) (hW : Below w8.heap.size w8 W) => HRS.out W (bt HC8.out hW))
            have HAL := Lib.hid (fun (W : World) (hW : Below w8.heap.size w8 W) => HAL.out W (bt HC8.out hW))
            rw [kidsR_d HUD.out] at HKU
            rw [depR_d HUD.out] at HDU
            rw [rootR_d HUD.out] at HRU
            rw [sameS_t HUD.out] at HSM
            generalize kidsR ts k = L at HKU HKS
            generalize depR ts k = D at HDU HDS
            generalize rootR ts k = R at HRU HRS
            go_upto_region 9 with fail
            refine region_grow [false, false, false, false, false, false, false, false, true, false, false, false, false, false, false, false, false, false, false, false, false, false, false, false, false, false, false, false, false, false, false, false, false, false, false, false, false, false, false, false, false, false, false, false, false, false, false, false, false, false, false, false, false, false, false, false, false, false, false, false, false, false, false, false, false, false, false, false, false, false, false, false, false, false, false, false, false, false, false, false, false, false, false, true, true, true, true, true, true, true, true, true, true, true, true, true, true, true, true, true, true, true, true, true, true, true, true, true, true, true, true, true, true, true, true, true] [83, 84, 85, 86, 87, 88, 89, 90, 91, 92, 93, 94, 95, 96, 97, 98, 99, 100, 101, 102, 103, 104, 105, 106, 107, 108, 109, 110, 111, 112, 113, 114, 115, 8] [.val (.agg #[.slice U us.length uc]), .val (.int .i64 k), .mem (fun v w2 => ∃ (A : Option Addr) (c : Nat), v = .slice A L.length c ∧ NRow .i64 w2 A L) (fun _ _ _ ⟨A, c, h, hn⟩ hb => ⟨A, c, h, hn.ext hb⟩), .val (.agg #[.slice A ts.length c]), .val (.int .i64 k), .mem (fun v w2 => ∃ (A : Option Addr) (c : Nat), v = .slice A L.length c ∧ NRow .i64 w2 A L) (fun _ _ _ ⟨A, c, h, hn⟩ hb => ⟨A, c, h, hn.ext hb⟩), .val (.bool true), .val (.bool true), .val (.agg #[.slice U us.length uc]), .val (.int .i64 k), .val (.int .i64 D), .val (.agg #[.slice A ts.length c]), .val (.int .i64 k), .val (.int .i64 D), .val (.bool true), .val (.bool true), .val (.bool true), .val (.agg #[.slice U us.length uc]), .val (.int .i64 k), .val (.int .i64 R), .val (.agg #[.slice A ts.length c]), .val (.int .i64 k), .val (.int .i64 R), .val (.bool true), .val (.bool true), .val (.bool true), .val (.agg #[.slice U us.length uc]), .val (.agg #[.slice A ts.length c]), .val (.bool true), .val (.bool true), .val (.bool true), .val (.bool true), .val (.bool true), .val (.bool true)] [33] (by kernel_rfl) (by kernel_rfl) (by kernel_rfl) (by kernel_rfl) (by kernel_rfl) ⟨?_, ?_, ?_, ?_, ?_, ?_, ?_, ?_, ?_, ?_, ?_, ?_, ?_, ?_, ?_, ?_, ?_, ?_, ?_, ?_, ?_, ?_, ?_, ?_, ?_, ?_, ?_, ?_, ?_, ?_, ?_, ?_, ?_, ?_, trivial⟩ ?done
            case done =>
              intro x w9 hb9
              simp only [StepGoal, overlay, upd, cond_true, cond_false, List.getD_cons_zero, List.getD_cons_succ, Nat.zero_add, Nat.reduceAdd, Nat.reduceEqDiff, reduceIte]
              go_wp2_with fail
              go_ret
              exact ⟨rfl, bt HC8.out hb9⟩
            all_goals
              intro x w9 hb9
              (try (rintro _ ⟨A1, c1, rfl, hn1⟩))
              (try (rintro _ ⟨A2, c2, rfl, hn2⟩))
              (try (rintro _ ⟨A4, c4, rfl, hn4⟩))
              intro K hK
              have hA := HB0.out.ext hb9
              have hB := HB2.out.ext hb9
              have s0 := hA.cell 0
              have s2 := hB.cell 0
              have l0 := hA.lt
              have l2 := hB.lt
              simp only [List.getElem?_toArray, List.getElem?_cons_zero] at s0 s2
              rw [if_pos (by rfl)]; simp only [overlay, upd, cond_true, cond_false, List.getD_cons_zero, List.getD_cons_succ, Nat.reduceEqDiff, reduceIte]
              go_simp
              first
                | exact hK.out _ _ (Below.refl _ _) rfl
                | ((with_reducible refine (HKU.out _ hb9).mono ?_); rintro e wa ⟨hba, A3, c3, rfl, hn⟩; go_wp2_with fail; exact hK.out _ _ hba ⟨_, _, rfl, hn⟩)
                | ((with_reducible refine (HKS.out _ hb9).mono ?_); rintro e wa ⟨hba, A3, c3, rfl, hn⟩; go_wp2_with fail; exact hK.out _ _ hba ⟨_, _, rfl, hn⟩)
                | ((with_reducible refine (ints_same L _ _ _ _ _ hn1 hn4).mono ?_); rintro e wa ⟨rfl, hba⟩; go_wp2_with fail; exact hK.out _ _ hba rfl)
                | ((with_reducible refine (HDU.out _ hb9).mono ?_); rintro e wa ⟨rfl, hba⟩; go_wp2_with fail; exact hK.out _ _ hba rfl)
                | ((with_reducible refine (HDS.out _ hb9).mono ?_); rintro e wa ⟨rfl, hba⟩; go_wp2_with fail; exact hK.out _ _ hba rfl)
                | ((with_reducible refine (HRU.out _ hb9).mono ?_); rintro e wa ⟨rfl, hba⟩; go_wp2_with fail; exact hK.out _ _ hba rfl)
                | ((with_reducible refine (HRS.out _ hb9).mono ?_); rintro e wa ⟨rfl, hba⟩; go_wp2_with fail; exact hK.out _ _ hba rfl)
                | ((with_reducible refine (HSM.out _ hb9).mono ?_); rintro e wa ⟨rfl, hba⟩; go_wp2_with fail; exact hK.out _ _ hba rfl)
                | ((with_reducible refine (HAL.out _ hb9).mono ?_); rintro e wa ⟨rfl, hba⟩; go_wp2_with fail; exact hK.out _ _ hba rfl)
    · clear hlo HCP
      go_wp2_with fail
      refine (HAL.out _ HC.out).mono ?_
      rintro r w9 ⟨rfl, hb⟩
      have HC := Lib.hid (bt HC.out hb)
      clear hb
      go_wp2_with fail
      go_ret
      exact ⟨rfl, HC.out⟩
  · go_wp2_with fail
    refine (HAL.out _ HC.out).mono ?_
    rintro r w9 ⟨rfl, hb⟩
    have HC := Lib.hid (bt HC.out hb)
    clear hb
    go_wp2_with fail
    go_ret
    exact ⟨rfl, HC.out⟩
end Go.Proofs.YtjdfodmialhakaaDoor
