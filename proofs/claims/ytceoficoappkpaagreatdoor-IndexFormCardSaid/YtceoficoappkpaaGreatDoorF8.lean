/- Texts joined by a tool: contracts and walks of this claim. -/
import Derived.Test.YtceoficoappkpaaGreatDoorF5
namespace Go.Proofs.YtceoficoappkpaaGreatDoor
open Go.RowKit Go.Shelf
attribute [local go_sem] Oper.semAt_some

theorem fit_may {c : Co} {v : V} (h : fitB c v = true) : mayB v = true := (Bool.and_eq_true_iff.1 h).1
theorem row_fits {ts : List Ta} {j : Nat} {ta : Ta} {l : List V} (hj : ts[j]? = some ta) (h : rowS ts j l = true) : rowB l = true ∧ ta.cs.length = l.length ∧ colsB ta = true ∧ j < 12 ∧ (ta.ref < 0 ∨ ta.ref < ta.cs.length) := by
 have hh : hasS ts j = true := by unfold rowS at h; exact (Bool.and_eq_true_iff.1 h).1
 obtain ⟨j2, t, hj2, hjl, htj, hcb, hsb⟩ := has_at hh
 obtain rfl : j = j2 := by omega
 obtain rfl : ta = t := Option.some.inj (hj.symm.trans htj)
 rw [rowS_at hh hj] at h
 unfold rowF at h
 obtain ⟨h1, h2⟩ := Bool.and_eq_true_iff.1 h
 have h1 := of_decide_eq_true h1
 have hcp := (cols_parts hcb).1
 have hsp := sch_parts hsb
 have hbl := (tab_parts (pre_at hsp.2.1 hjl hj)).2.1
 refine ⟨?_, h1, hcb, by omega, ?_⟩
 · unfold rowB
   rw [decide_eq_true (by omega), decide_eq_true (by omega)]
   simp only [Bool.and_true, Bool.true_and, List.all_eq_true]
   intro v hv
   obtain ⟨i, hi⟩ := List.getElem?_of_mem hv
   have hil : i < l.length := (List.getElem?_eq_some_iff.1 hi).1
   have h3 := List.all_eq_true.1 h2 i (List.mem_range.2 (by omega))
   unfold fitAt at h3
   rw [hi, List.getElem?_eq_getElem (by omega)] at h3
   exact fit_may h3
 · unfold belB rootB relB at hbl
   rcases Bool.or_eq_true_iff.1 hbl with h4 | h4
   · have := of_decide_eq_true h4; omega
   · have := of_decide_eq_true (Bool.and_eq_true_iff.1 h4).1; omega
theorem lk_one {j : Nat} (hj : j < 12) {x : V} (h : mayB x = true) : lkOk j [x] = true := by
 unfold lkOk keyOk rowB
 rw [decide_eq_true (by omega), decide_eq_true (by omega)]
 simp [h]
theorem lk_two {j : Nat} (hj : j < 12) {x y : V} (h : mayB x = true) (h2 : mayB y = true) : lkOk j [x, y] = true := by
 unfold lkOk keyOk rowB
 rw [decide_eq_true (by omega), decide_eq_true (by omega)]
 simp [h, h2]
end Go.Proofs.YtceoficoappkpaaGreatDoor
