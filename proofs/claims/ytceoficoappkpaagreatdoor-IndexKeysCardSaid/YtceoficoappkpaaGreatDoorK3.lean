/- Texts joined by a tool: contracts and walks of this claim. -/
import Derived.Test.YtceoficoappkpaaGreatDoorK2
namespace Go.Proofs.YtceoficoappkpaaGreatDoor
open Go.RowKit
theorem conv_blk2 {w : World} {g : Nat} {a b : Int} (c : Nat) (h : Blk w g #[.int .u8 a, .int .u8 b] 5) :
  (convert 128 9 (.slice (some ⟨g, 0, none⟩) 2 c)).run Tryz.prog w = .ok (.string (strOfNums [a, b])) w :=
 run_convert_bytes_arg _ 128 5 Tryz.underlying128 Tryz.underlying5 g 0 2 c [a, b] rfl (fun i hi => by
  match i, hi with
  | 0, _ => exact h.cell 0
  | 1, _ => exact h.cell 1
  | i + 2, h => exact absurd h (by omega)) 9 Tryz.underlying9
def rkR (c k : Int) (l : List V) : Value := .tuple #[.string (if lkOk k l then lkB c k l else ⟨#[]⟩), .bool (lkOk k l)]
theorem all_keyOk {l : List V} (h8 : l.length ≤ 8) : keyOk l = l.all mayB := by
 unfold keyOk
 cases l with
 | nil => rfl
 | cons v l =>
  unfold rowB
  simp only [List.isEmpty_cons, Bool.false_or]
  rw [decide_eq_true (by simp), decide_eq_true h8]; rfl
theorem all_mstep {l : List V} {j : Nat} {v : V} (h : (l.take j).all mayB = true) (hj : l[j]? = some v) (hm : mayB v = true) : (l.take (j + 1)).all mayB = true := by
 obtain ⟨hlt, hv⟩ := List.getElem?_eq_some_iff.1 hj
 rw [List.take_succ_eq_append_getElem hlt, List.all_append, h, hv]
 simp [hm]
theorem all_no {l : List V} {j : Nat} {v : V} (hj : l[j]? = some v) (hm : mayB v = false) : l.all mayB = false := by
 rw [List.all_eq_false]
 exact ⟨v, List.mem_of_getElem? hj, by simp [hm]⟩
set_option maxRecDepth 100000 in
set_option maxHeartbeats 1600000 in
theorem rK_any (c k : Int) (l : List V) (h8 : l.length ≤ 8) (A : Option Addr) (cp : Nat) (w : World) (hr : VRow w A l) (hL : LayX w) :
  Calls Tryz.prog 31 #[.int .u8 c, .int .i64 k, .slice A l.length cp] w fun e w' => e = .returned (rkR c k l) ∧ Below w.heap.size w w' := by
 have hall := all_keyOk h8
 unfold rkR lkOk
 by_cases h0 : 0 ≤ k
 · by_cases h1 : k < 12
   · rw [decide_eq_true h0, decide_eq_true h1, Bool.true_and, Bool.true_and, hall]
     have HKP := hd_ (fun (hm : l.all mayB = true) W (hW : Below w.heap.size w W) => rkput_any l A cp W (hr.ext hW) (hall.trans hm))
     have HV := hd_ hr
     have HL := hd_ hL
     have hkl := fun (hm : l.all mayB = true) => keyLs_length (hall.trans hm)
     have HKL := hd_ hkl
     clear hr hL hall hkl
     obtain ⟨n, hn⟩ : ∃ n, n = l.length := ⟨_, rfl⟩
     have hn8 : n ≤ 8 := by omega
     rw [← hn] at HKP ⊢
     have HN := hd_ hn
     obtain ⟨am, ham⟩ : ∃ am, am = l.all mayB := ⟨_, rfl⟩
     rw [← ham] at HKP HKL ⊢
     have HAM := hd_ ham
     clear hn ham h8
     go_enter Tryz.func31, Tryz.ntmps31
     go_wp2_with fail
     go_loopw [8] (fun i wr => ∃ (j : Nat), j ≤ n ∧ i = .int .i64 j ∧ Hid ((l.take j).all mayB = true) ∧ Below w.heap.size w wr) (fun i _ => n - (intOf i).toNat)
     case atStart => exact ⟨0, by omega, rfl, by show _ = _; simp, Below.refl _ _⟩
     case round =>
      obtain ⟨j, hj, rfl, HA, hbw⟩ := hrel
      by_cases hlt : j < n
      · obtain ⟨b, off, v, rfl, hb, hlk, hmem, hwf, c0, c1, c2, c3⟩ := (HV.out.ext hbw).at_ (show j < l.length by rw [← HN.out]; exact hlt)
        have HM := hd_ (may_any v hwf wr (HL.out.1.ext hbw))
        cases hm : mayB v
        · have hamf : am = false := by rw [HAM.out]; exact all_no hlk hm
          rw [hm] at HM
          subst hamf
          obtain ⟨vk, vn, vr, vt⟩ := v
          unfold V.agg at HM
          simp only at c0 c1 c2 c3
          clear hmem hwf hlk hm
          go_wp2_with (go_at_call 70; ((with_reducible refine HM.out.mono ?_); rintro e W2 ⟨rfl, hbb2⟩))
          go_ret2
          exact ⟨rfl, hbw.trans (hbb2.mono hbw.size)⟩
        · have HA2 := hd_ (all_mstep HA.out hlk hm)
          rw [hm] at HM
          obtain ⟨vk, vn, vr, vt⟩ := v
          unfold V.agg at HM
          simp only at c0 c1 c2 c3
          clear hmem hwf hlk hm
          go_wp2_with (go_at_call 70; ((with_reducible refine HM.out.mono ?_); rintro e W2 ⟨rfl, hbb2⟩; have hbw2 := hbw.trans (hbb2.mono hbw.size)))
          go_roundw
          case rel => exact ⟨j + 1, by omega, by go_num, HA2.out, hbw2⟩
          case measure => simp [intOf]; omega
      · have hjn : j = l.length := by have := HN.out; omega
        have hamt : am = true := by
         have := HA.out
         rw [hjn, List.take_length] at this
         rw [HAM.out, this]
        subst hamt
        have HKW := hd_ (HKP.out rfl)
        have hkl := HKL.out rfl
        have hw8 : IntKind.u8.wrap k = k := by simp [IntKind.wrap, IntKind.bits, IntKind.signed]; omega
        have HBW := hd_ hbw
        obtain ⟨KB, hKB⟩ : ∃ KB : ByteArray, KB = ⟨(keyLs l).toArray⟩ := ⟨_, rfl⟩
        have hks : KB.size = (keyLs l).length := by rw [hKB]; rfl
        rw [← hKB] at HKW
        have HKB := hd_ hKB
        have hs2 : (strOfNums [c, k]).size = 2 := rfl
        have hnl : ¬ 9223372036854775807 < 2 + (keyLs l).length := by omega
        clear hjn hKB HA HAM HKL HKP hbw
        go_upto_region 8 with fail
        refine region_grow [false, false, false, false, false, false, true, true, false, false, false, false, false, false, false, false, false, false, false, false, false, false, false, false, false, false, false, true, true, true, true, true, true, true, true] [27, 28, 29, 30, 31, 32, 33, 34, 6, 7] [.val (.int .u8 c), .val (.int .i64 k), .val (.int .u8 k), .new (fun g => .slice (some ⟨g, 0, none⟩) 2 2) #[.int .u8 c, .int .u8 k] 5, .val (.string (strOfNums [c, k])), .val (.slice A n cp), .val (.string KB), .val (.string (strOfNums [c, k] ++ KB)), .val (.string (strOfNums [c, k] ++ KB)), .val (.bool true)] [8, 9] (by kernel_rfl) (by kernel_rfl) (by kernel_rfl) (by kernel_rfl) (by kernel_rfl) ⟨?_, ?_, ?_, ?_, ?_, ?_, ?_, ?_, ?_, ?_, trivial⟩ ?done
        case done =>
         intro x9 w5 hb5
         simp only [StepGoal, overlay, upd, cond_true, cond_false, List.getD_cons_zero, List.getD_cons_succ, Nat.zero_add, Nat.reduceAdd, Nat.reduceEqDiff, reduceIte]
         go_wp2_with fail
         go_ret2
         refine ⟨ret_tup2 (congrArg Value.string ?_) rfl, bt HBW.out hb5⟩
         unfold lkB lkL
         rw [HKB.out]
         simp [strOfNums]
         rfl
        all_goals
         intro x9 w8 hT8
         have hb8 := bt HBW.out hT8
         first
          | (intro g hg
             intro K hK
             have hcv := conv_blk2 2 hg
             rw [if_pos (by rfl)]; simp only [overlay, upd, cond_true, cond_false, List.getD_cons_zero, List.getD_cons_succ, Nat.reduceEqDiff, reduceIte]
             go_simp
             exact hK.out _ _ (Below.refl _ _) rfl)
          | (intro K hK
             rw [if_pos (by rfl)]; simp only [overlay, upd, cond_true, cond_false, List.getD_cons_zero, List.getD_cons_succ, Nat.reduceEqDiff, reduceIte]
             go_simp
             first
              | exact hK.out _ _ (Below.refl _ _) rfl
              | exact hK.out _ _ ((by repeat (first | exact Below.refl _ _ | assumption | refine Below.drew ?_ | refine below_drewN ?_ _ | refine Below.alloc ?_ (by simp <;> omega) _))) ⟨_, rfl, (by repeat (first | exact Blk.at (by simp) | assumption | refine Blk.drew ?_ | refine Blk.old ?_ _))⟩
              | ((with_reducible refine (HKW.out _ hb8).mono ?_); rintro e wa ⟨rfl, hba⟩; go_wp2_with fail; exact hK.out _ _ hba rfl))
   · rw [decide_eq_false h1, Bool.and_false, Bool.false_and]
     clear hall
     go_enter Tryz.func31, Tryz.ntmps31
     go_wp2
     go_ret2
     exact ⟨rfl, Below.refl _ _⟩
 · rw [decide_eq_false h0, Bool.false_and, Bool.false_and]
   clear hall
   go_enter Tryz.func31, Tryz.ntmps31
   go_wp2
   go_ret2
   exact ⟨rfl, Below.refl _ _⟩
end Go.Proofs.YtceoficoappkpaaGreatDoor
