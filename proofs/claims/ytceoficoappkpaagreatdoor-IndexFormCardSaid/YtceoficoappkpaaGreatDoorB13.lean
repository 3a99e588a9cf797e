/- Texts joined by a tool: contracts and walks of this claim. -/
import Derived.Test.YtceoficoappkpaaGreatDoorB12
namespace Go.Proofs.YtceoficoappkpaaGreatDoor
open Go.RowKit

def fitB (c : Co) (v : V) : Bool := mayB v && (decide (v.k = c.k) || (c.nl && decide (v.k = 0)))
theorem may_null {v : V} (h : mayB v = true) (hk : v.k = 0) : v = ⟨0, 0, 0, ⟨#[]⟩⟩ := by
 unfold mayB at h
 rw [if_pos hk] at h
 obtain ⟨h1, h2⟩ := Bool.and_eq_true_iff.1 h
 obtain ⟨h3, h4⟩ := Bool.and_eq_true_iff.1 h1
 have h5 : v.t = ByteArray.empty := str_empty (of_decide_eq_true h2)
 obtain ⟨k, n, r, t⟩ := v
 simp only at hk h3 h4 h5
 rw [hk, of_decide_eq_true h3, of_decide_eq_true h4, h5]
 rfl
set_option maxRecDepth 100000 in
theorem null_any (w : World) : Calls Tryz.prog 44 #[] w fun r w' => r = .returned (.agg #[.int .u8 0, .int .i64 0, .int .u64 0, .string ⟨#[]⟩]) ∧ Below w.heap.size w w' := by
 go_enter Tryz.func44, Tryz.ntmps44
 go_wp2
 exact bodyPost_ret (v := .agg #[.int .u8 0, .int .i64 0, .int .u64 0, .string ⟨#[]⟩]) (by simp [results, Tryz.results44, go_sem]) rfl ⟨rfl, (by repeat (first | exact Below.refl _ _ | assumption | refine Below.drew ?_ | refine below_drewN ?_ _ | refine Below.alloc ?_ (by simp <;> omega) _))⟩
set_option maxRecDepth 100000 in
theorem eql_null (k n r : Int) (t : ByteArray) (h : k ≠ 0) (w : World) :
  (binOp .eql 47 (.agg #[.int .u8 k, .int .i64 n, .int .u64 r, .string t]) (.agg #[.int .u8 0, .int .i64 0, .int .u64 0, .string ⟨#[]⟩])).run Tryz.prog w = .ok (.bool false) w := by
 go_simp
set_option maxRecDepth 100000 in
set_option maxHeartbeats 3200000 in
theorem colfits_any (c : Co) (v : V) (w : World) (hv : v.wf) (hT : Tabs w) :
  Calls Tryz.prog 85 #[.agg #[.string c.nm, .int .u8 c.k, .bool c.nl], v.agg] w fun r w' => r = .returned (.bool (fitB c v)) ∧ Below w.heap.size w w' := by
 obtain ⟨R, hR⟩ : ∃ q, q = fitB c v := ⟨_, rfl⟩
 rw [← hR]
 have HCK := hd_ (fun (W : World) (hW : Below w.heap.size w W) => check_any v hv W (hT.ext hW))
 have HNU := hd_ null_any
 have HNL := hd_ (fun (h : mayB v = true) (hk : v.k = 0) => may_null h hk)
 unfold fitB at hR
 obtain ⟨cn, ck, cl⟩ := c
 obtain ⟨vk, vn, vr, vt⟩ := v
 unfold V.agg at HCK ⊢
 simp only at hR HCK HNL ⊢
 clear hv hT
 go_enter Tryz.func85, Tryz.ntmps85
 go_upto_region 1 with fail
 have hB0 : Blk ((w.alloc (.cells #[.string cn, .int .u8 ck, .bool cl] 98)).alloc (.cells #[.int .u8 vk, .int .i64 vn, .int .u64 vr, .string vt] 47)) w.heap.size #[.string cn, .int .u8 ck, .bool cl] 98 := (Blk.new w _ _).old _
 have hB1 : Blk ((w.alloc (.cells #[.string cn, .int .u8 ck, .bool cl] 98)).alloc (.cells #[.int .u8 vk, .int .i64 vn, .int .u64 vr, .string vt] 47)) (w.heap.size + 1) #[.int .u8 vk, .int .i64 vn, .int .u64 vr, .string vt] 47 := (by repeat (first | exact Blk.at (by simp) | assumption | refine Blk.drew ?_ | refine Blk.old ?_ _))
 have hC : Below w.heap.size w ((w.alloc (.cells #[.string cn, .int .u8 ck, .bool cl] 98)).alloc (.cells #[.int .u8 vk, .int .i64 vn, .int .u64 vr, .string vt] 47)) := (by repeat (first | exact Below.refl _ _ | assumption | refine Below.drew ?_ | refine below_drewN ?_ _ | refine Below.alloc ?_ (by simp <;> omega) _))
 have HB0 := hd_ hB0
 have HB1 := hd_ hB1
 have HC := hd_ hC
 clear hB0 hB1 hC
 generalize (w.alloc (.cells #[.string cn, .int .u8 ck, .bool cl] 98)).alloc (.cells #[.int .u8 vk, .int .i64 vn, .int .u64 vr, .string vt] 47) = Wq at HB0 HB1 HC ⊢
 generalize w.heap.size + 1 = b1 at HB1 ⊢
 generalize hb0 : w.heap.size = b0 at HB0 ⊢
 clear hb0
 cases hm : mayB ⟨vk, vn, vr, vt⟩
 · rw [hm] at hR HCK
   rw [okE_f' rfl] at HCK
   have HR : Hid (R = false) := hR
   clear hR hm HNL
   refine region_grow [false, false, false, false, true, true, true, true, true, true, true, true, true, true, true, true, true, true, true, true, true, true, true, true] [5, 6, 7, 8, 9, 10, 11, 12, 13, 14, 15, 16, 17, 18, 19, 20, 21, 22, 23, 4] [.val (.agg #[.int .u8 vk, .int .i64 vn, .int .u64 vr, .string vt]), .val (.int .i64 2), .val (.bool false), .val (.bool false), .val undef, .val undef, .val undef, .val undef, .val undef, .val undef, .val undef, .val undef, .val undef, .val undef, .val undef, .val undef, .val undef, .val undef, .val (.bool false), .val (.bool false)] [19] (by kernel_rfl) (by kernel_rfl) (by kernel_rfl) (by kernel_rfl) (by kernel_rfl) ⟨?_, ?_, ?_, ?_, ?_, ?_, ?_, ?_, ?_, ?_, ?_, ?_, ?_, ?_, ?_, ?_, ?_, ?_, ?_, ?_, trivial⟩ ?done
   case done =>
    intro x w5 hb5
    simp only [StepGoal, overlay, upd, cond_true, cond_false, List.getD_cons_zero, List.getD_cons_succ, Nat.zero_add, Nat.reduceAdd, Nat.reduceEqDiff, reduceIte]
    go_wp2_with fail
    go_ret
    exact ⟨ret_bool HR.out.symm, bt HC.out hb5⟩
   all_goals
    intro x w5 hb5
    intro K hK
    have hB0 := HB0.out.ext hb5
    have hB1 := HB1.out.ext hb5
    have y0 := hB0.cell 0
    have y1 := hB0.cell 1
    have y2 := hB0.cell 2
    have z0 := hB1.cell 0
    have z1 := hB1.cell 1
    have z2 := hB1.cell 2
    have z3 := hB1.cell 3
    have l0 := hB0.lt
    have l1 := hB1.lt
    simp only [List.getElem?_toArray, List.getElem?_cons_zero, List.getElem?_cons_succ] at y0 y1 y2 z0 z1 z2 z3
    first
     | (rw [if_neg (by exact Bool.false_ne_true)]; exact hK.out _ _ (Below.refl _ _) rfl)
     | (rw [if_pos (by rfl)]; simp only [overlay, upd, cond_true, cond_false, List.getD_cons_zero, List.getD_cons_succ, Nat.reduceEqDiff, reduceIte]
        go_simp
        first
         | exact hK.out _ _ (Below.refl _ _) rfl
         | ((with_reducible refine (HCK.out _ (bt HC.out hb5)).mono ?_); rintro e wa ⟨rfl, hba⟩; go_wp2_with fail; exact hK.out _ _ hba rfl)
         | ((with_reducible refine (HNU.out _).mono ?_); rintro e wa ⟨rfl, hba⟩; go_wp2_with fail; exact hK.out _ _ hba rfl))
 · rw [hm] at hR HCK
   rw [okE_t' rfl] at HCK
   by_cases hk : vk = ck
   · subst hk
     have HR : Hid (R = true) := by show _ = _; rw [hR]; simp
     clear hR hm HNL
     refine region_grow [false, false, false, false, true, true, true, true, true, true, true, true, true, true, true, true, true, true, true, true, true, true, true, true] [5, 6, 7, 8, 9, 10, 11, 12, 13, 14, 15, 16, 17, 18, 19, 20, 21, 22, 23, 4] [.val (.agg #[.int .u8 vk, .int .i64 vn, .int .u64 vr, .string vt]), .val (.int .i64 0), .val (.bool true), .val (.bool true), .val (.pointer (some ⟨b1, 0, none⟩)), .val (.int .u8 vk), .val (.pointer (some ⟨b0, 1, none⟩)), .val (.int .u8 vk), .val (.bool true), .val (.bool true), .val undef, .val undef, .val undef, .val undef, .val undef, .val undef, .val undef, .val (.bool true), .val (.bool true), .val (.bool true)] [19] (by kernel_rfl) (by kernel_rfl) (by kernel_rfl) (by kernel_rfl) (by kernel_rfl) ⟨?_, ?_, ?_, ?_, ?_, ?_, ?_, ?_, ?_, ?_, ?_, ?_, ?_, ?_, ?_, ?_, ?_, ?_, ?_, ?_, trivial⟩ ?done
     case done =>
      intro x w5 hb5
      simp only [StepGoal, overlay, upd, cond_true, cond_false, List.getD_cons_zero, List.getD_cons_succ, Nat.zero_add, Nat.reduceAdd, Nat.reduceEqDiff, reduceIte]
      go_wp2_with fail
      go_ret
      exact ⟨ret_bool HR.out.symm, bt HC.out hb5⟩
     all_goals
      intro x w5 hb5
      intro K hK
      have hB0 := HB0.out.ext hb5
      have hB1 := HB1.out.ext hb5
      have y0 := hB0.cell 0
      have y1 := hB0.cell 1
      have y2 := hB0.cell 2
      have z0 := hB1.cell 0
      have z1 := hB1.cell 1
      have z2 := hB1.cell 2
      have z3 := hB1.cell 3
      have l0 := hB0.lt
      have l1 := hB1.lt
      simp only [List.getElem?_toArray, List.getElem?_cons_zero, List.getElem?_cons_succ] at y0 y1 y2 z0 z1 z2 z3
      first
       | (rw [if_neg (by exact Bool.false_ne_true)]; exact hK.out _ _ (Below.refl _ _) rfl)
       | (rw [if_pos (by rfl)]; simp only [overlay, upd, cond_true, cond_false, List.getD_cons_zero, List.getD_cons_succ, Nat.reduceEqDiff, reduceIte]
          go_simp
          first
           | exact hK.out _ _ (Below.refl _ _) rfl
           | ((with_reducible refine (HCK.out _ (bt HC.out hb5)).mono ?_); rintro e wa ⟨rfl, hba⟩; go_wp2_with fail; exact hK.out _ _ hba rfl)
           | ((with_reducible refine (HNU.out _).mono ?_); rintro e wa ⟨rfl, hba⟩; go_wp2_with fail; exact hK.out _ _ hba rfl))
   · have q1 : (vk == ck) = false := by rw [beq_eq_false_iff_ne]; exact hk
     cases cl
     · have HR : Hid (R = false) := by show _ = _; rw [hR]; simp [hk]
       clear hR hm HNL hk
       refine region_grow [false, false, false, false, true, true, true, true, true, true, true, true, true, true, true, true, true, true, true, true, true, true, true, true] [5, 6, 7, 8, 9, 10, 11, 12, 13, 14, 15, 16, 17, 18, 19, 20, 21, 22, 23, 4] [.val (.agg #[.int .u8 vk, .int .i64 vn, .int .u64 vr, .string vt]), .val (.int .i64 0), .val (.bool true), .val (.bool true), .val (.pointer (some ⟨b1, 0, none⟩)), .val (.int .u8 vk), .val (.pointer (some ⟨b0, 1, none⟩)), .val (.int .u8 ck), .val (.bool false), .val (.bool false), .val (.pointer (some ⟨b0, 2, none⟩)), .val (.bool false), .val (.bool false), .val undef, .val undef, .val undef, .val (.bool false), .val (.bool false), .val (.bool false), .val (.bool false)] [19] (by kernel_rfl) (by kernel_rfl) (by kernel_rfl) (by kernel_rfl) (by kernel_rfl) ⟨?_, ?_, ?_, ?_, ?_, ?_, ?_, ?_, ?_, ?_, ?_, ?_, ?_, ?_, ?_, ?_, ?_, ?_, ?_, ?_, trivial⟩ ?done
       case done =>
        intro x w5 hb5
        simp only [StepGoal, overlay, upd, cond_true, cond_false, List.getD_cons_zero, List.getD_cons_succ, Nat.zero_add, Nat.reduceAdd, Nat.reduceEqDiff, reduceIte]
        go_wp2_with fail
        go_ret
        exact ⟨ret_bool HR.out.symm, bt HC.out hb5⟩
       all_goals
        intro x w5 hb5
        intro K hK
        have hB0 := HB0.out.ext hb5
        have hB1 := HB1.out.ext hb5
        have y0 := hB0.cell 0
        have y1 := hB0.cell 1
        have y2 := hB0.cell 2
        have z0 := hB1.cell 0
        have z1 := hB1.cell 1
        have z2 := hB1.cell 2
        have z3 := hB1.cell 3
        have l0 := hB0.lt
        have l1 := hB1.lt
        simp only [List.getElem?_toArray, List.getElem?_cons_zero, List.getElem?_cons_succ] at y0 y1 y2 z0 z1 z2 z3
        first
         | (rw [if_neg (by exact Bool.false_ne_true)]; exact hK.out _ _ (Below.refl _ _) rfl)
         | (rw [if_pos (by rfl)]; simp only [overlay, upd, cond_true, cond_false, List.getD_cons_zero, List.getD_cons_succ, Nat.reduceEqDiff, reduceIte]
            go_simp
            first
             | exact hK.out _ _ (Below.refl _ _) rfl
             | ((with_reducible refine (HCK.out _ (bt HC.out hb5)).mono ?_); rintro e wa ⟨rfl, hba⟩; go_wp2_with fail; exact hK.out _ _ hba rfl)
             | ((with_reducible refine (HNU.out _).mono ?_); rintro e wa ⟨rfl, hba⟩; go_wp2_with fail; exact hK.out _ _ hba rfl))
     · by_cases hk0 : vk = 0
       · have HR : Hid (R = true) := by show _ = _; rw [hR]; simp [hk0]
         have hnl := HNL.out hm hk0
         injection hnl with e1 e2 e3 e4
         subst e1; subst e2; subst e3; subst e4
         clear hR hm HNL hk hk0
         refine region_grow [false, false, false, false, true, true, true, true, true, true, true, true, true, true, true, true, true, true, true, true, true, true, true, true] [5, 6, 7, 8, 9, 10, 11, 12, 13, 14, 15, 16, 17, 18, 19, 20, 21, 22, 23, 4] [.val (.agg #[.int .u8 0, .int .i64 0, .int .u64 0, .string ⟨#[]⟩]), .val (.int .i64 0), .val (.bool true), .val (.bool true), .val (.pointer (some ⟨b1, 0, none⟩)), .val (.int .u8 0), .val (.pointer (some ⟨b0, 1, none⟩)), .val (.int .u8 ck), .val (.bool false), .val (.bool false), .val (.pointer (some ⟨b0, 2, none⟩)), .val (.bool true), .val (.bool true), .val (.agg #[.int .u8 0, .int .i64 0, .int .u64 0, .string ⟨#[]⟩]), .val (.agg #[.int .u8 0, .int .i64 0, .int .u64 0, .string ⟨#[]⟩]), .val (.bool true), .val (.bool true), .val (.bool true), .val (.bool true), .val (.bool true)] [19] (by kernel_rfl) (by kernel_rfl) (by kernel_rfl) (by kernel_rfl) (by kernel_rfl) ⟨?_, ?_, ?_, ?_, ?_, ?_, ?_, ?_, ?_, ?_, ?_, ?_, ?_, ?_, ?_, ?_, ?_, ?_, ?_, ?_, trivial⟩ ?done
         case done =>
          intro x w5 hb5
          simp only [StepGoal, overlay, upd, cond_true, cond_false, List.getD_cons_zero, List.getD_cons_succ, Nat.zero_add, Nat.reduceAdd, Nat.reduceEqDiff, reduceIte]
          go_wp2_with fail
          go_ret
          exact ⟨ret_bool HR.out.symm, bt HC.out hb5⟩
         all_goals
          intro x w5 hb5
          intro K hK
          have hB0 := HB0.out.ext hb5
          have hB1 := HB1.out.ext hb5
          have y0 := hB0.cell 0
          have y1 := hB0.cell 1
          have y2 := hB0.cell 2
          have z0 := hB1.cell 0
          have z1 := hB1.cell 1
          have z2 := hB1.cell 2
          have z3 := hB1.cell 3
          have l0 := hB0.lt
          have l1 := hB1.lt
          simp only [List.getElem?_toArray, List.getElem?_cons_zero, List.getElem?_cons_succ] at y0 y1 y2 z0 z1 z2 z3
          first
           | (rw [if_neg (by exact Bool.false_ne_true)]; exact hK.out _ _ (Below.refl _ _) rfl)
           | (rw [if_pos (by rfl)]; simp only [overlay, upd, cond_true, cond_false, List.getD_cons_zero, List.getD_cons_succ, Nat.reduceEqDiff, reduceIte]
              go_simp
              first
               | exact hK.out _ _ (Below.refl _ _) rfl
               | ((with_reducible refine (HCK.out _ (bt HC.out hb5)).mono ?_); rintro e wa ⟨rfl, hba⟩; go_wp2_with fail; exact hK.out _ _ hba rfl)
               | ((with_reducible refine (HNU.out _).mono ?_); rintro e wa ⟨rfl, hba⟩; go_wp2_with fail; exact hK.out _ _ hba rfl))
       · have HR : Hid (R = false) := by show _ = _; rw [hR]; simp [hk, hk0]
         have hen := eql_null vk vn vr vt hk0
         clear hR hm HNL hk hk0
         refine region_grow [false, false, false, false, true, true, true, true, true, true, true, true, true, true, true, true, true, true, true, true, true, true, true, true] [5, 6, 7, 8, 9, 10, 11, 12, 13, 14, 15, 16, 17, 18, 19, 20, 21, 22, 23, 4] [.val (.agg #[.int .u8 vk, .int .i64 vn, .int .u64 vr, .string vt]), .val (.int .i64 0), .val (.bool true), .val (.bool true), .val (.pointer (some ⟨b1, 0, none⟩)), .val (.int .u8 vk), .val (.pointer (some ⟨b0, 1, none⟩)), .val (.int .u8 ck), .val (.bool false), .val (.bool false), .val (.pointer (some ⟨b0, 2, none⟩)), .val (.bool true), .val (.bool true), .val (.agg #[.int .u8 vk, .int .i64 vn, .int .u64 vr, .string vt]), .val (.agg #[.int .u8 0, .int .i64 0, .int .u64 0, .string ⟨#[]⟩]), .val (.bool false), .val (.bool false), .val (.bool false), .val (.bool false), .val (.bool false)] [19] (by kernel_rfl) (by kernel_rfl) (by kernel_rfl) (by kernel_rfl) (by kernel_rfl) ⟨?_, ?_, ?_, ?_, ?_, ?_, ?_, ?_, ?_, ?_, ?_, ?_, ?_, ?_, ?_, ?_, ?_, ?_, ?_, ?_, trivial⟩ ?done
         case done =>
          intro x w5 hb5
          simp only [StepGoal, overlay, upd, cond_true, cond_false, List.getD_cons_zero, List.getD_cons_succ, Nat.zero_add, Nat.reduceAdd, Nat.reduceEqDiff, reduceIte]
          go_wp2_with fail
          go_ret
          exact ⟨ret_bool HR.out.symm, bt HC.out hb5⟩
         all_goals
          intro x w5 hb5
          intro K hK
          have hB0 := HB0.out.ext hb5
          have hB1 := HB1.out.ext hb5
          have y0 := hB0.cell 0
          have y1 := hB0.cell 1
          have y2 := hB0.cell 2
          have z0 := hB1.cell 0
          have z1 := hB1.cell 1
          have z2 := hB1.cell 2
          have z3 := hB1.cell 3
          have l0 := hB0.lt
          have l1 := hB1.lt
          simp only [List.getElem?_toArray, List.getElem?_cons_zero, List.getElem?_cons_succ] at y0 y1 y2 z0 z1 z2 z3
          first
           | (rw [if_neg (by exact Bool.false_ne_true)]; exact hK.out _ _ (Below.refl _ _) rfl)
           | (rw [if_pos (by rfl)]; simp only [overlay, upd, cond_true, cond_false, List.getD_cons_zero, List.getD_cons_succ, Nat.reduceEqDiff, reduceIte]
              go_simp
              first
               | exact hK.out _ _ (Below.refl _ _) rfl
               | ((with_reducible refine (HCK.out _ (bt HC.out hb5)).mono ?_); rintro e wa ⟨rfl, hba⟩; go_wp2_with fail; exact hK.out _ _ hba rfl)
               | ((with_reducible refine (HNU.out _).mono ?_); rintro e wa ⟨rfl, hba⟩; go_wp2_with fail; exact hK.out _ _ hba rfl))
end Go.Proofs.YtceoficoappkpaaGreatDoor

namespace Go.Proofs.YtceoficoappkpaaGreatDoor
open Go.RowKit

def fitAt (cs : List Co) (l : List V) (i : Nat) : Bool := match cs[i]?, l[i]? with
 | some c, some v => fitB c v
 | _, _ => true
def rowF (cs : List Co) (l : List V) : Bool := decide (cs.length = l.length) && (List.range cs.length).all (fitAt cs l)
theorem rowF_len {cs : List Co} {l : List V} (h : ¬ cs.length = l.length) : rowF cs l = false := by unfold rowF; rw [decide_eq_false h]; rfl
theorem rowF_not {cs : List Co} {l : List V} {k : Nat} {c : Co} {v : V} (hc : cs[k]? = some c) (hv : l[k]? = some v) (h : fitB c v = false) : rowF cs l = false := by
 have hk := (List.getElem?_eq_some_iff.1 hc).1
 have : (List.range cs.length).all (fitAt cs l) = false := by
  rw [List.all_eq_false]
  exact ⟨k, List.mem_range.2 hk, by unfold fitAt; rw [hc, hv]; simp [h]⟩
 unfold rowF
 rw [this, Bool.and_false]
theorem rowF_end {cs : List Co} {l : List V} (h1 : cs.length = l.length) (h : (List.range cs.length).all (fitAt cs l) = true) : rowF cs l = true := by unfold rowF; rw [decide_eq_true h1, h]; rfl
theorem fit_next {cs : List Co} {l : List V} {k : Nat} {c : Co} {v : V} (hc : cs[k]? = some c) (hv : l[k]? = some v) (h : fitB c v = true) (hk : (List.range k).all (fitAt cs l) = true) : Hid ((List.range (k + 1)).all (fitAt cs l) = true) := by
 show _ = _
 rw [List.range_succ, List.all_append, hk]
 simp only [List.all_cons, List.all_nil, Bool.and_true, Bool.true_and]
 unfold fitAt
 rw [hc, hv]
 exact h
set_option maxRecDepth 100000 in
set_option maxHeartbeats 1600000 in
theorem equalf_any (cs : List Co) (l : List V) (A B : Option Addr) (c d : Nat) (w : World) (hc : CRow w A cs) (hr : VRow w B l) (hT : Tabs w) :
  Calls Tryz.prog 89 #[.slice A cs.length c, .slice B l.length d, .func (.func 85) #[] #[]] w fun r w' => r = .returned (.bool (rowF cs l)) ∧ Below w.heap.size w w' := by
 obtain ⟨R, hR⟩ : ∃ q, q = rowF cs l := ⟨_, rfl⟩
 rw [← hR]
 have HLEN := hd_ (fun h => hR.trans (rowF_len (cs := cs) (l := l) h))
 have HNOT := hd_ (fun (k : Nat) (c : Co) (v : V) (h1 : cs[k]? = some c) (h2 : l[k]? = some v) h => hR.trans (rowF_not h1 h2 h))
 have HEND := hd_ (fun h1 h2 => hR.trans (rowF_end (cs := cs) (l := l) h1 h2))
 have HF := hd_ (fun (c : Co) (v : V) (W : World) (hW : Below w.heap.size w W) (hv : v.wf) => colfits_any c v W hv (hT.ext hW))
 have HCR := hd_ hc
 have HVR := hd_ hr
 have hcl := hc.2.1
 have hvl := hr.2.1
 clear hR hc hr hT
 by_cases hl : cs.length = l.length
 · have q1 : ((cs.length : Int) != (l.length : Int)) = false := by simp [hl]
   have hle : cs.length ≤ l.length := by omega
   have HLL := hd_ hl
   clear hl HLEN
   go_enter Tryz.func89, Tryz.ntmps89
   go_wp2_with fail
   clear q1
   go_loopw [17] (fun i wr => ∃ k : Nat, k ≤ cs.length ∧ i = .int .i64 k ∧ Hid ((List.range k).all (fitAt cs l) = true) ∧ Hid (Below w.heap.size w wr)) (fun i _ => cs.length - (intOf i).toNat)
   case atStart => exact ⟨0, by omega, rfl, (by simp : _ = _), Below.refl _ _⟩
   case round =>
    obtain ⟨k, hk1, rfl, HS, HBW⟩ := hrel
    by_cases hlt : k < cs.length
    · obtain ⟨b, off, cv, rfl, hbb, hck, _, _, c0, c1, c2⟩ := (HCR.out.ext HBW.out).at_ hlt
      obtain ⟨b', off', v, rfl, hbb', hvk, _, hvw, d0, d1, d2, d3⟩ := (HVR.out.ext HBW.out).at_ (Nat.lt_of_lt_of_le hlt hle)
      obtain ⟨cn, ck, cl⟩ := cv
      obtain ⟨vk, vn, vr, vt⟩ := v
      have HCK := hd_ hck
      have HVK := hd_ hvk
      have HVW := hd_ hvw
      simp only at c0 c1 c2 d0 d1 d2 d3
      have i1 : (k : Int) < l.length := by omega
      clear hck hvk hvw
      go_upto_region 7 with fail
      have HC2 : Hid (Below w.heap.size w ((wr.alloc (.cells #[.string cn, .int .u8 ck, .bool cl] 98)).alloc (.cells #[.int .u8 vk, .int .i64 vn, .int .u64 vr, .string vt] 47))) := bt HBW.out (by repeat (first | exact Below.refl _ _ | assumption | refine Below.drew ?_ | refine below_drewN ?_ _ | refine Below.alloc ?_ (by simp <;> omega) _))
      have HB0 := (Blk.new wr #[.string cn, .int .u8 ck, .bool cl] 98).old (.cells #[.int .u8 vk, .int .i64 vn, .int .u64 vr, .string vt] 47)
      have HB1 : Blk ((wr.alloc (.cells #[.string cn, .int .u8 ck, .bool cl] 98)).alloc (.cells #[.int .u8 vk, .int .i64 vn, .int .u64 vr, .string vt] 47)) (wr.heap.size + 1) #[.int .u8 vk, .int .i64 vn, .int .u64 vr, .string vt] 47 := (by repeat (first | exact Blk.at (by simp) | assumption | refine Blk.drew ?_ | refine Blk.old ?_ _))
      generalize (wr.alloc (.cells #[.string cn, .int .u8 ck, .bool cl] 98)).alloc (.cells #[.int .u8 vk, .int .i64 vn, .int .u64 vr, .string vt] 47) = w5 at HC2 HB0 HB1 ⊢
      generalize wr.heap.size + 1 = B1 at HB1 ⊢
      generalize wr.heap.size = B0 at HB0 ⊢
      clear c0 c1 c2 d0 d1 d2 d3 HBW hbb hbb'
      have y0 := HB0.cell 0
      have y1 := HB0.cell 1
      have y2 := HB0.cell 2
      have z0 := HB1.cell 0
      have z1 := HB1.cell 1
      have z2 := HB1.cell 2
      have z3 := HB1.cell 3
      have l0 := HB0.lt
      have l1 := HB1.lt
      simp only [List.getElem?_toArray, List.getElem?_cons_zero, List.getElem?_cons_succ] at y0 y1 y2 z0 z1 z2 z3
      clear HB0 HB1
      go_wp2_with fail
      refine (HF.out ⟨cn, ck, cl⟩ ⟨vk, vn, vr, vt⟩ w5 HC2.out HVW.out).mono ?_
      rintro r w6 ⟨rfl, hb⟩
      have HC := hd_ (bt HC2.out hb)
      clear hb HC2 y0 y1 y2 z0 z1 z2 z3 l0 l1
      cases hf : fitB ⟨cn, ck, cl⟩ ⟨vk, vn, vr, vt⟩
      · have HRF : Hid (R = false) := HNOT.out k _ _ HCK.out HVK.out hf
        clear hf
        go_wp2_with fail
        go_ret
        exact ⟨ret_bool HRF.out.symm, HC.out⟩
      · have HS' := fit_next HCK.out HVK.out hf HS.out
        clear hf
        go_wp2_with fail
        go_roundw
        case rel => exact ⟨k + 1, by omega, by go_num, HS', HC.out⟩
        case measure => simp [intOf]; omega
    · have hke : k = cs.length := by omega
      have HRT : Hid (R = true) := HEND.out HLL.out (by rw [← hke]; exact HS.out)
      clear hke
      go_wp2_with fail
      go_ret
      exact ⟨ret_bool HRT.out.symm, HBW.out⟩
 · have q1 : ((cs.length : Int) != (l.length : Int)) = true := by rw [bne_iff_ne]; omega
   have HRF : Hid (R = false) := HLEN.out hl
   clear hl
   go_enter Tryz.func89, Tryz.ntmps89
   go_wp2_with fail
   go_ret
   exact ⟨ret_bool HRF.out.symm, Below.refl _ _⟩

def rowS (ts : List Ta) (k : Int) (l : List V) : Bool := hasS ts k && match ts[k.toNat]? with
 | some t => rowF t.cs l
 | none => false
def keyS (ts : List Ta) (k : Int) (v : V) : Bool := hasS ts k && match ts[k.toNat]? with
 | some t => (match t.cs[t.key.toNat]? with
  | some c => fitB c v
  | none => false)
 | none => false
theorem has_at {ts : List Ta} {k : Int} (h : hasS ts k = true) : ∃ (j : Nat) (t : Ta), k = j ∧ j < ts.length ∧ ts[j]? = some t ∧ colsB t = true ∧ schB ts = true := by
 unfold hasS at h
 obtain ⟨h1, h2⟩ := Bool.and_eq_true_iff.1 h
 obtain ⟨h3, h4⟩ := of_decide_eq_true h2
 have hj : k.toNat < ts.length := by omega
 exact ⟨k.toNat, ts[k.toNat], by omega, hj, List.getElem?_eq_getElem hj, (tab_parts (pre_at (sch_parts h1).2.1 hj (List.getElem?_eq_getElem hj))).1, h1⟩
theorem rowS_no {ts : List Ta} {k : Int} {l : List V} (h : hasS ts k = false) : rowS ts k l = false := by unfold rowS; rw [h]; rfl
theorem keyS_no {ts : List Ta} {k : Int} {v : V} (h : hasS ts k = false) : keyS ts k v = false := by unfold keyS; rw [h]; rfl
theorem rowS_at {ts : List Ta} {j : Nat} {t : Ta} {l : List V} (h : hasS ts j = true) (ht : ts[j]? = some t) : rowS ts j l = rowF t.cs l := by unfold rowS; rw [h, Int.toNat_natCast, ht]; rfl
theorem keyS_at {ts : List Ta} {j : Nat} {t : Ta} {c : Co} {v : V} (h : hasS ts j = true) (ht : ts[j]? = some t) (hc : t.cs[t.key.toNat]? = some c) : keyS ts j v = fitB c v := by unfold keyS; rw [h, Int.toNat_natCast, ht]; simp only [hc]; rfl
set_option maxRecDepth 100000 in
set_option maxHeartbeats 1600000 in
theorem schrow_any (ts : List Ta) (A B : Option Addr) (c d : Nat) (k : Int) (l : List V) (w : World) (ht : TRow w A c ts) (hr : VRow w B l) (hT : Tabs w) :
  Calls Tryz.prog 56 #[.agg #[.slice A ts.length c], .int .i64 k, .slice B l.length d] w fun r w' => r = .returned (.int .i64 (okE (rowS ts k l))) ∧ Below w.heap.size w w' := by
 have HH := hd_ (fun (W : World) (hW : Below w.heap.size w W) => has_any ts A c k W (ht.ext hW))
 have HEQ := hd_ (fun (cs : List Co) (C : Option Addr) (e : Nat) (W : World) (hW : Below w.heap.size w W) (hc : CRow W C cs) => equalf_any cs l C B e d W hc (hr.ext hW) (hT.ext hW))
 have HT := hd_ ht
 have hlen := ht.2.1
 have h0 : Blk (w.alloc (.cells #[.slice A ts.length c] 24)) w.heap.size #[.slice A ts.length c] 24 := Blk.new w #[.slice A ts.length c] 24
 have hC : Below w.heap.size w (w.alloc (.cells #[.slice A ts.length c] 24)) := bel1 _ _
 have HA := hd_ h0
 have HC := hd_ hC
 clear ht hr hT h0 hC
 cases hh : hasS ts k
 · rw [hh] at HH
   rw [okE_f' (rowS_no hh)]
   clear hh
   go_enter Tryz.func56, Tryz.ntmps56
   go_wp2_with fail
   refine (HH.out _ HC.out).mono ?_
   rintro r w1 ⟨rfl, hb⟩
   have HC := hd_ (bt HC.out hb)
   clear hb
   go_wp2_with fail
   go_ret
   exact ⟨rfl, HC.out⟩
 · rw [hh] at HH
   obtain ⟨j, t, rfl, hj, htj, hcb, _⟩ := has_at hh
   rw [rowS_at hh htj]
   obtain ⟨R, hR⟩ : ∃ q, q = okE (rowF t.cs l) := ⟨_, rfl⟩
   rw [← hR]
   have HRR := hd_ hR
   have HTJ := hd_ htj
   clear hh htj hcb hR
   go_enter Tryz.func56, Tryz.ntmps56
   go_wp2_with fail
   refine (HH.out _ HC.out).mono ?_
   rintro r w1 ⟨rfl, hb⟩
   have hA1 := HA.out.ext hb
   have HC1 := hd_ (bt HC.out hb)
   obtain ⟨b, off, u, rfl, hbb, hu, _, _, hcr, c0, c1, c2, c3, c4⟩ := (HT.out.ext HC1.out).at_ hj
   obtain rfl : u = t := Option.some.inj (hu.symm.trans HTJ.out)
   have HE := hd_ (HEQ.out u.cs u.A u.c w1 HC1.out hcr)
   have s0 := hA1.cell 0
   simp only [List.getElem?_toArray, List.getElem?_cons_zero] at s0
   have l0 := hA1.lt
   have i1 : (j : Int) < ts.length := by omega
   clear hb hA1 hu hcr HEQ HH
   cases hf : rowF u.cs l
   · rw [hf] at HE
     have HR : Hid (R = 2) := by show _ = _; rw [HRR.out, hf]; rfl
     clear hf HRR
     go_wp2_with fail
     refine HE.out.mono ?_
     rintro r w2 ⟨rfl, hb⟩
     have HC2 := hd_ (bt HC1.out hb)
     clear hb
     go_wp2_with fail
     go_ret
     exact ⟨ret_int HR.out.symm, HC2.out⟩
   · rw [hf] at HE
     have HR : Hid (R = 0) := by show _ = _; rw [HRR.out, hf]; rfl
     clear hf HRR
     go_wp2_with fail
     refine HE.out.mono ?_
     rintro r w2 ⟨rfl, hb⟩
     have HC2 := hd_ (bt HC1.out hb)
     clear hb
     go_wp2_with fail
     go_ret
     exact ⟨ret_int HR.out.symm, HC2.out⟩
set_option maxRecDepth 100000 in
set_option maxHeartbeats 3200000 in
theorem schkey_any (ts : List Ta) (A : Option Addr) (c : Nat) (k : Int) (v : V) (w : World) (ht : TRow w A c ts) (hv : v.wf) (hT : Tabs w) :
  Calls Tryz.prog 54 #[.agg #[.slice A ts.length c], .int .i64 k, v.agg] w fun r w' => r = .returned (.int .i64 (okE (keyS ts k v))) ∧ Below w.heap.size w w' := by
 have HH := hd_ (fun (W : World) (hW : Below w.heap.size w W) => has_any ts A c k W (ht.ext hW))
 have HF := hd_ (fun (c : Co) (W : World) (hW : Below w.heap.size w W) => colfits_any c v W hv (hT.ext hW))
 have HT := hd_ ht
 have hlen := ht.2.1
 obtain ⟨vk, vn, vr, vt⟩ := v
 unfold V.agg at HF ⊢
 simp only at HF ⊢
 have h0 : Blk ((w.alloc (.cells #[.slice A ts.length c] 24)).alloc (.cells #[.int .u8 vk, .int .i64 vn, .int .u64 vr, .string vt] 47)) w.heap.size #[.slice A ts.length c] 24 := (Blk.new w _ _).old _
 have h1 : Blk ((w.alloc (.cells #[.slice A ts.length c] 24)).alloc (.cells #[.int .u8 vk, .int .i64 vn, .int .u64 vr, .string vt] 47)) (w.heap.size + 1) #[.int .u8 vk, .int .i64 vn, .int .u64 vr, .string vt] 47 := (by repeat (first | exact Blk.at (by simp) | assumption | refine Blk.drew ?_ | refine Blk.old ?_ _))
 have hC : Below w.heap.size w ((w.alloc (.cells #[.slice A ts.length c] 24)).alloc (.cells #[.int .u8 vk, .int .i64 vn, .int .u64 vr, .string vt] 47)) := (by repeat (first | exact Below.refl _ _ | assumption | refine Below.drew ?_ | refine below_drewN ?_ _ | refine Below.alloc ?_ (by simp <;> omega) _))
 have HB0 := hd_ h0
 have HB1 := hd_ h1
 have HC := hd_ hC
 clear ht hv hT h0 h1 hC
 cases hh : hasS ts k
 · rw [hh] at HH
   have HR : Hid (okE (keyS ts k ⟨vk, vn, vr, vt⟩) = 2) := by show _ = _; rw [keyS_no hh]; rfl
   clear hh HF
   generalize okE (keyS ts k ⟨vk, vn, vr, vt⟩) = R at HR ⊢
   go_enter Tryz.func54, Tryz.ntmps54
   go_upto_region 1 with fail
   generalize (w.alloc (.cells #[.slice A ts.length c] 24)).alloc (.cells #[.int .u8 vk, .int .i64 vn, .int .u64 vr, .string vt] 47) = W0 at HB0 HB1 HC ⊢
   generalize w.heap.size + 1 = b1 at HB1 ⊢
   generalize hb0 : w.heap.size = b0 at HB0 ⊢
   clear hb0
   refine region_grow [false, false, false, false, false, false, false, true, true, true, true, true, true, true, true, true, true, true, true, true, true, true, true, true, true, true, true, true, true, true] [7, 8, 9, 10, 11, 12, 13, 14, 15, 16, 17, 18, 19, 20, 21, 22, 23, 24, 25, 26, 27, 28, 29] [.val (.agg #[.slice A ts.length c]), .val (.int .i64 k), .val (.bool false), .val (.bool true), .val (.bool true), .val undef, .val undef, .val undef, .val undef, .val undef, .val undef, .val undef, .val undef, .val undef, .val undef, .val undef, .val undef, .val undef, .val undef, .val undef, .val undef, .val undef, .val (.bool true)] [22] (by kernel_rfl) (by kernel_rfl) (by kernel_rfl) (by kernel_rfl) (by kernel_rfl) ⟨?_, ?_, ?_, ?_, ?_, ?_, ?_, ?_, ?_, ?_, ?_, ?_, ?_, ?_, ?_, ?_, ?_, ?_, ?_, ?_, ?_, ?_, ?_, trivial⟩ ?done
   case done =>
    intro x w5 hb5
    simp only [StepGoal, overlay, upd, cond_true, cond_false, List.getD_cons_zero, List.getD_cons_succ, Nat.zero_add, Nat.reduceAdd, Nat.reduceEqDiff, reduceIte]
    go_wp2_with fail
    go_ret
    exact ⟨ret_int HR.out.symm, bt HC.out hb5⟩
   all_goals
    intro x w5 hb5
    intro K hK
    have hA := HB0.out.ext hb5
    have hB := HB1.out.ext hb5
    have s0 := hA.cell 0
    have z0 := hB.cell 0
    have z1 := hB.cell 1
    have z2 := hB.cell 2
    have z3 := hB.cell 3
    have l0 := hA.lt
    have l1 := hB.lt
    simp only [List.getElem?_toArray, List.getElem?_cons_zero, List.getElem?_cons_succ] at s0 z0 z1 z2 z3
    first
     | (rw [if_neg (by exact Bool.false_ne_true)]; exact hK.out _ _ (Below.refl _ _) rfl)
     | (rw [if_pos (by rfl)]; simp only [overlay, upd, cond_true, cond_false, List.getD_cons_zero, List.getD_cons_succ, Nat.reduceEqDiff, reduceIte]
        go_simp
        first
         | exact hK.out _ _ (Below.refl _ _) rfl
         | ((with_reducible refine (HH.out _ (bt HC.out hb5)).mono ?_); rintro e wa ⟨rfl, hba⟩; go_wp2_with fail; exact hK.out _ _ hba rfl))
 · rw [hh] at HH
   obtain ⟨j, t, rfl, hj, htj, hcb, _⟩ := has_at hh
   obtain ⟨_, _, _, ⟨k0, k1⟩, _⟩ := cols_parts hcb
   obtain ⟨ke, hke⟩ : ∃ ke : Nat, t.key = ke := ⟨t.key.toNat, by omega⟩
   have hkl : ke < t.cs.length := by omega
   obtain ⟨co, hco⟩ : ∃ co, t.cs[ke]? = some co := ⟨_, List.getElem?_eq_getElem hkl⟩
   have hks := keyS_at (v := ⟨vk, vn, vr, vt⟩) hh htj (c := co) (by rw [hke, Int.toNat_natCast]; exact hco)
   rw [hks]
   have HTJ := hd_ htj
   have HCO := hd_ hco
   have HFC := hd_ (fun (W : World) (hW : Below w.heap.size w W) => HF.out co W hW)
   have HT0 := HT.out.at_ hj
   obtain ⟨b, off, u, rfl, hbb, hu, _, _, hcr, c0, c1, c2, c3, c4⟩ := HT0
   obtain rfl : u = t := Option.some.inj (hu.symm.trans HTJ.out)
   rw [hke] at c2
   obtain ⟨tb, toff, cv, hTA, htb, hcv, _, _, e0, e1, e2⟩ := hcr.at_ hkl
   obtain rfl : cv = co := Option.some.inj (hcv.symm.trans hco)
   rw [hTA] at c1
   obtain ⟨cn, ck, cl⟩ := cv
   simp only at e0 e1 e2
   have HC1 := hd_ c1
   have HC2 := hd_ c2
   have HE0 := hd_ e0
   have HE1 := hd_ e1
   have HE2 := hd_ e2
   obtain ⟨n, hn⟩ : ∃ n, n = u.cs.length := ⟨_, rfl⟩
   rw [← hn] at HC1 hkl
   obtain ⟨uc, huc⟩ : ∃ q, q = u.c := ⟨_, rfl⟩
   rw [← huc] at HC1
   have i1 : (j : Int) < ts.length := by omega
   have i2 : (ke : Int) < n := by omega
   obtain ⟨R, hR⟩ : ∃ q, q = okE (fitB ⟨cn, ck, cl⟩ ⟨vk, vn, vr, vt⟩) := ⟨_, rfl⟩
   rw [← hR]
   cases hf : fitB ⟨cn, ck, cl⟩ ⟨vk, vn, vr, vt⟩
   · rw [hf] at HFC hR
     have HR : Hid (R = 2) := by show _ = _; rw [hR]; rfl
     clear hh hcb hke hco hks htj hu hcr c0 c1 c2 c3 c4 hcv e0 e1 e2 hf hn huc HF k0 k1 hR
     go_enter Tryz.func54, Tryz.ntmps54
     go_upto_region 1 with fail
     generalize (w.alloc (.cells #[.slice (some ⟨b, off, none⟩) ts.length c] 24)).alloc (.cells #[.int .u8 vk, .int .i64 vn, .int .u64 vr, .string vt] 47) = W0 at HB0 HB1 HC ⊢
     generalize w.heap.size + 1 = b1 at HB1 ⊢
     generalize hb0 : w.heap.size = b0 at HB0 ⊢
     clear hb0
     refine region_grow [false, false, false, false, false, false, false, true, true, true, true, true, true, true, true, true, true, true, true, true, true, true, true, true, true, true, true, true, true, true] [7, 8, 9, 10, 11, 12, 13, 14, 15, 16, 17, 18, 19, 20, 21, 22, 23, 24, 25, 26, 27, 28, 29] [.val (.agg #[.slice (some ⟨b, off, none⟩) ts.length c]), .val (.int .i64 j), .val (.bool true), .val (.bool false), .val (.bool false), .val (.pointer (some ⟨b0, 0, none⟩)), .val (.slice (some ⟨b, off, none⟩) ts.length c), .val (.int .i64 j), .val (.pointer (some ⟨b, off + j * 5, none⟩)), .val (.pointer (some ⟨b, off + j * 5 + 1, none⟩)), .val (.slice (some ⟨tb, toff, none⟩) n uc), .val (.pointer (some ⟨b0, 0, none⟩)), .val (.slice (some ⟨b, off, none⟩) ts.length c), .val (.int .i64 j), .val (.pointer (some ⟨b, off + j * 5, none⟩)), .val (.pointer (some ⟨b, off + j * 5 + 2, none⟩)), .val (.int .i64 ke), .val (.pointer (some ⟨tb, toff + ke * 3, none⟩)), .val (.agg #[.string cn, .int .u8 ck, .bool cl]), .val (.agg #[.int .u8 vk, .int .i64 vn, .int .u64 vr, .string vt]), .val (.bool false), .val (.bool true), .val (.bool true)] [22] (by kernel_rfl) (by kernel_rfl) (by kernel_rfl) (by kernel_rfl) (by kernel_rfl) ⟨?_, ?_, ?_, ?_, ?_, ?_, ?_, ?_, ?_, ?_, ?_, ?_, ?_, ?_, ?_, ?_, ?_, ?_, ?_, ?_, ?_, ?_, ?_, trivial⟩ ?done
     case done =>
      intro x w5 hb5
      simp only [StepGoal, overlay, upd, cond_true, cond_false, List.getD_cons_zero, List.getD_cons_succ, Nat.zero_add, Nat.reduceAdd, Nat.reduceEqDiff, reduceIte]
      go_wp2_with fail
      go_ret
      exact ⟨ret_int HR.out.symm, bt HC.out hb5⟩
     all_goals
      intro x w5 hb5
      intro K hK
      have hA := HB0.out.ext hb5
      have hB := HB1.out.ext hb5
      have s0 := hA.cell 0
      have z0 := hB.cell 0
      have z1 := hB.cell 1
      have z2 := hB.cell 2
      have z3 := hB.cell 3
      have l0 := hA.lt
      have l1 := hB.lt
      simp only [List.getElem?_toArray, List.getElem?_cons_zero, List.getElem?_cons_succ] at s0 z0 z1 z2 z3
      have c1 := ((bt HC.out hb5).cell (p := ⟨b, off + j * 5 + 1, none⟩) hbb).trans HC1.out
      have c2 := ((bt HC.out hb5).cell (p := ⟨b, off + j * 5 + 2, none⟩) hbb).trans HC2.out
      have e0 := ((bt HC.out hb5).cell (p := ⟨tb, toff + ke * 3, none⟩) htb).trans HE0.out
      have e1 := ((bt HC.out hb5).cell (p := ⟨tb, toff + ke * 3 + 1, none⟩) htb).trans HE1.out
      have e2 := ((bt HC.out hb5).cell (p := ⟨tb, toff + ke * 3 + 2, none⟩) htb).trans HE2.out
      first
       | (rw [if_neg (by exact Bool.false_ne_true)]; exact hK.out _ _ (Below.refl _ _) rfl)
       | (rw [if_pos (by rfl)]; simp only [overlay, upd, cond_true, cond_false, List.getD_cons_zero, List.getD_cons_succ, Nat.reduceEqDiff, reduceIte]
          go_simp
          first
           | exact hK.out _ _ (Below.refl _ _) rfl
           | ((with_reducible refine (HH.out _ (bt HC.out hb5)).mono ?_); rintro e wa ⟨rfl, hba⟩; go_wp2_with fail; exact hK.out _ _ hba rfl)
           | ((with_reducible refine (HFC.out _ (bt HC.out hb5)).mono ?_); rintro e wa ⟨rfl, hba⟩; go_wp2_with fail; exact hK.out _ _ hba rfl))
   · rw [hf] at HFC hR
     have HR : Hid (R = 0) := by show _ = _; rw [hR]; rfl
     clear hh hcb hke hco hks htj hu hcr c0 c1 c2 c3 c4 hcv e0 e1 e2 hf hn huc HF k0 k1 hR
     go_enter Tryz.func54, Tryz.ntmps54
     go_upto_region 1 with fail
     generalize (w.alloc (.cells #[.slice (some ⟨b, off, none⟩) ts.length c] 24)).alloc (.cells #[.int .u8 vk, .int .i64 vn, .int .u64 vr, .string vt] 47) = W0 at HB0 HB1 HC ⊢
     generalize w.heap.size + 1 = b1 at HB1 ⊢
     generalize hb0 : w.heap.size = b0 at HB0 ⊢
     clear hb0
     refine region_grow [false, false, false, false, false, false, false, true, true, true, true, true, true, true, true, true, true, true, true, true, true, true, true, true, true, true, true, true, true, true] [7, 8, 9, 10, 11, 12, 13, 14, 15, 16, 17, 18, 19, 20, 21, 22, 23, 24, 25, 26, 27, 28, 29] [.val (.agg #[.slice (some ⟨b, off, none⟩) ts.length c]), .val (.int .i64 j), .val (.bool true), .val (.bool false), .val (.bool false), .val (.pointer (some ⟨b0, 0, none⟩)), .val (.slice (some ⟨b, off, none⟩) ts.length c), .val (.int .i64 j), .val (.pointer (some ⟨b, off + j * 5, none⟩)), .val (.pointer (some ⟨b, off + j * 5 + 1, none⟩)), .val (.slice (some ⟨tb, toff, none⟩) n uc), .val (.pointer (some ⟨b0, 0, none⟩)), .val (.slice (some ⟨b, off, none⟩) ts.length c), .val (.int .i64 j), .val (.pointer (some ⟨b, off + j * 5, none⟩)), .val (.pointer (some ⟨b, off + j * 5 + 2, none⟩)), .val (.int .i64 ke), .val (.pointer (some ⟨tb, toff + ke * 3, none⟩)), .val (.agg #[.string cn, .int .u8 ck, .bool cl]), .val (.agg #[.int .u8 vk, .int .i64 vn, .int .u64 vr, .string vt]), .val (.bool true), .val (.bool false), .val (.bool false)] [22] (by kernel_rfl) (by kernel_rfl) (by kernel_rfl) (by kernel_rfl) (by kernel_rfl) ⟨?_, ?_, ?_, ?_, ?_, ?_, ?_, ?_, ?_, ?_, ?_, ?_, ?_, ?_, ?_, ?_, ?_, ?_, ?_, ?_, ?_, ?_, ?_, trivial⟩ ?done
     case done =>
      intro x w5 hb5
      simp only [StepGoal, overlay, upd, cond_true, cond_false, List.getD_cons_zero, List.getD_cons_succ, Nat.zero_add, Nat.reduceAdd, Nat.reduceEqDiff, reduceIte]
      go_wp2_with fail
      go_ret
      exact ⟨ret_int HR.out.symm, bt HC.out hb5⟩
     all_goals
      intro x w5 hb5
      intro K hK
      have hA := HB0.out.ext hb5
      have hB := HB1.out.ext hb5
      have s0 := hA.cell 0
      have z0 := hB.cell 0
      have z1 := hB.cell 1
      have z2 := hB.cell 2
      have z3 := hB.cell 3
      have l0 := hA.lt
      have l1 := hB.lt
      simp only [List.getElem?_toArray, List.getElem?_cons_zero, List.getElem?_cons_succ] at s0 z0 z1 z2 z3
      have c1 := ((bt HC.out hb5).cell (p := ⟨b, off + j * 5 + 1, none⟩) hbb).trans HC1.out
      have c2 := ((bt HC.out hb5).cell (p := ⟨b, off + j * 5 + 2, none⟩) hbb).trans HC2.out
      have e0 := ((bt HC.out hb5).cell (p := ⟨tb, toff + ke * 3, none⟩) htb).trans HE0.out
      have e1 := ((bt HC.out hb5).cell (p := ⟨tb, toff + ke * 3 + 1, none⟩) htb).trans HE1.out
      have e2 := ((bt HC.out hb5).cell (p := ⟨tb, toff + ke * 3 + 2, none⟩) htb).trans HE2.out
      first
       | (rw [if_neg (by exact Bool.false_ne_true)]; exact hK.out _ _ (Below.refl _ _) rfl)
       | (rw [if_pos (by rfl)]; simp only [overlay, upd, cond_true, cond_false, List.getD_cons_zero, List.getD_cons_succ, Nat.reduceEqDiff, reduceIte]
          go_simp
          first
           | exact hK.out _ _ (Below.refl _ _) rfl
           | ((with_reducible refine (HH.out _ (bt HC.out hb5)).mono ?_); rintro e wa ⟨rfl, hba⟩; go_wp2_with fail; exact hK.out _ _ hba rfl)
           | ((with_reducible refine (HFC.out _ (bt HC.out hb5)).mono ?_); rintro e wa ⟨rfl, hba⟩; go_wp2_with fail; exact hK.out _ _ hba rfl))
end Go.Proofs.YtceoficoappkpaaGreatDoor

namespace Go.Proofs.YtceoficoappkpaaGreatDoor
open Go.RowKit

end Go.Proofs.YtceoficoappkpaaGreatDoor

namespace Go.Proofs.YtceoficoappkpaaGreatDoor
open Go.RowKit

end Go.Proofs.YtceoficoappkpaaGreatDoor

namespace Go.Proofs.YtceoficoappkpaaGreatDoor
open Go.RowKit

end Go.Proofs.YtceoficoappkpaaGreatDoor
