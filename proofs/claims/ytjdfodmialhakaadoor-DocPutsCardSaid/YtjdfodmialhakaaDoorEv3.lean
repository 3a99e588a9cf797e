/- event.Check: which events may be. -/
import Derived.Test.YtjdfodmialhakaaDoorEv2
namespace Go.Proofs.YtjdfodmialhakaaDoor
open Go.RowKit

theorem Blk.c0 {w : World} {b : Nat} {x : Value} {t : TypeId} (h : Blk w b #[x] t) : w.cell? ⟨b, 0, none⟩ = some x := h.cell 0
theorem Blk.d0 {w : World} {b : Nat} {x y : Value} {t : TypeId} (h : Blk w b #[x, y] t) : w.cell? ⟨b, 0, none⟩ = some x := h.cell 0
theorem Blk.d1 {w : World} {b : Nat} {x y : Value} {t : TypeId} (h : Blk w b #[x, y] t) : w.cell? ⟨b, 1, none⟩ = some y := h.cell 1
theorem rows_ins (e : Ev) (A B : Option Addr) (n c m d : Nat) (w : World) (h : e.k = 1 ∨ e.k = 4) :
    Calls Tryd.prog 128 #[.agg (evCells e (.slice A n c) (.slice B m d))] w fun r w' => ∃ b g, r = .returned (.tuple #[.slice (some ⟨b, 0, none⟩) 1 1, .slice (some ⟨g, 0, none⟩) 1 1]) ∧ Blk w' b #[.slice B m d] 25 ∧ Blk w' g #[.slice A n c] 25 ∧ Below w.heap.size w w' :=
  (rows_any e A B n c m d w).mono fun r w' hp => by
    unfold RowsPost at hp
    rw [if_pos h] at hp
    obtain ⟨hb, b, g, h1, h2, h3⟩ := hp
    exact ⟨b, g, h1, h2, h3, hb⟩
theorem rows_del (e : Ev) (A B : Option Addr) (n c m d : Nat) (w : World) (h : e.k = 3) :
    Calls Tryd.prog 128 #[.agg (evCells e (.slice A n c) (.slice B m d))] w fun r w' => ∃ b g, r = .returned (.tuple #[.slice (some ⟨b, 0, none⟩) 1 1, .slice (some ⟨g, 0, none⟩) 1 1]) ∧ Blk w' b #[.slice A n c] 25 ∧ Blk w' g #[.slice B m d] 25 ∧ Below w.heap.size w w' :=
  (rows_any e A B n c m d w).mono fun r w' hp => by
    unfold RowsPost at hp
    rw [if_neg (by omega), if_pos h] at hp
    obtain ⟨hb, b, g, h1, h2, h3⟩ := hp
    exact ⟨b, g, h1, h2, h3, hb⟩
theorem rows_upd (e : Ev) (A B : Option Addr) (n c m d : Nat) (w : World) (h : ¬ (e.k = 1 ∨ e.k = 4)) (h3 : ¬ e.k = 3) :
    Calls Tryd.prog 128 #[.agg (evCells e (.slice A n c) (.slice B m d))] w fun r w' => ∃ b, r = .returned (.tuple #[.slice (some ⟨b, 0, none⟩) 2 2, .slice none 0 0]) ∧ Blk w' b #[.slice A n c, .slice B m d] 25 ∧ Below w.heap.size w w' :=
  (rows_any e A B n c m d w).mono fun r w' hp => by
    unfold RowsPost at hp
    rw [if_neg h, if_neg h3] at hp
    obtain ⟨hb, b, h1, h2⟩ := hp
    exact ⟨b, h1, h2, hb⟩
/-- The numbers of an event that may be. -/
def evG (e : Ev) : Bool := decide (1 ≤ e.k ∧ e.k ≤ 4 ∧ 0 ≤ e.tb ∧ e.tb < 12 ∧ 0 ≤ e.tot ∧ e.tot < 200 ∧ 0 ≤ e.nth ∧ e.nth ≤ e.tot)
/-- Its rows. -/
def evR (e : Ev) : Bool := if e.k = 1 ∨ e.k = 4 then rowB e.af && decide (e.bf.length = 0) else if e.k = 3 then rowB e.bf && decide (e.af.length = 0) else rowB e.bf && rowB e.af
def evB (e : Ev) : Bool := evG e && evR e
set_option maxRecDepth 100000 in
set_option maxHeartbeats 400000 in
theorem evcheck_no (e : Ev) (A B : Value) (w : World) (h : evG e = false) :
    Calls Tryd.prog 58 #[.agg (evCells e A B)] w fun r w' => r = .returned (.int .i64 2) ∧ Below w.heap.size w w' := by
  obtain ⟨tx, tot, nth, k, tb, bf, af⟩ := e
  have h' := of_decide_eq_false h
  simp only at h'
  clear h
  simp only [evCells]
  by_cases c1 : k < 1
  · clear h'
    go_enter Tryd.func58, Tryd.ntmps58
    go_wp2
    go_ret
    exact ⟨rfl, (by repeat (first | exact Below.refl _ _ | assumption | refine Below.drew ?_ | refine below_drewN ?_ _ | refine Below.alloc ?_ (by simp <;> omega) _))⟩
  · by_cases c2 : 4 < k
    · clear h'
      go_enter Tryd.func58, Tryd.ntmps58
      go_wp2
      go_ret
      exact ⟨rfl, (by repeat (first | exact Below.refl _ _ | assumption | refine Below.drew ?_ | refine below_drewN ?_ _ | refine Below.alloc ?_ (by simp <;> omega) _))⟩
    · by_cases c3 : tb < 0
      · clear h'
        go_enter Tryd.func58, Tryd.ntmps58
        go_wp2
        go_ret
        exact ⟨rfl, (by repeat (first | exact Below.refl _ _ | assumption | refine Below.drew ?_ | refine below_drewN ?_ _ | refine Below.alloc ?_ (by simp <;> omega) _))⟩
      · by_cases c4 : 12 ≤ tb
        · clear h'
          go_enter Tryd.func58, Tryd.ntmps58
          go_wp2
          go_ret
          exact ⟨rfl, (by repeat (first | exact Below.refl _ _ | assumption | refine Below.drew ?_ | refine below_drewN ?_ _ | refine Below.alloc ?_ (by simp <;> omega) _))⟩
        · by_cases c5 : tot < 0
          · clear h'
            go_enter Tryd.func58, Tryd.ntmps58
            go_wp2
            go_ret
            exact ⟨rfl, (by repeat (first | exact Below.refl _ _ | assumption | refine Below.drew ?_ | refine below_drewN ?_ _ | refine Below.alloc ?_ (by simp <;> omega) _))⟩
          · by_cases c6 : 200 ≤ tot
            · clear h'
              go_enter Tryd.func58, Tryd.ntmps58
              go_wp2
              go_ret
              exact ⟨rfl, (by repeat (first | exact Below.refl _ _ | assumption | refine Below.drew ?_ | refine below_drewN ?_ _ | refine Below.alloc ?_ (by simp <;> omega) _))⟩
            · by_cases c7 : nth < 0
              · clear h'
                go_enter Tryd.func58, Tryd.ntmps58
                go_wp2
                go_ret
                exact ⟨rfl, (by repeat (first | exact Below.refl _ _ | assumption | refine Below.drew ?_ | refine below_drewN ?_ _ | refine Below.alloc ?_ (by simp <;> omega) _))⟩
              · have c8 : tot < nth := by omega
                clear h'
                go_enter Tryd.func58, Tryd.ntmps58
                go_wp2
                go_ret
                exact ⟨rfl, (by repeat (first | exact Below.refl _ _ | assumption | refine Below.drew ?_ | refine below_drewN ?_ _ | refine Below.alloc ?_ (by simp <;> omega) _))⟩
set_option maxRecDepth 100000 in
set_option maxHeartbeats 400000 in
/-- One row that must be (l), one that must not (m). -/
theorem evcheck_one (e : Ev) (A B L M : Option Addr) (n c p d n' c' p' d' : Nat) (l m : List V) (w : World) (hT : Tabs w) (hl : VRow w L l) (hn : n' = l.length) (hm : p' = m.length)
    (hR : ∀ W, Calls Tryd.prog 128 #[.agg (evCells e (.slice A n c) (.slice B p d))] W fun r w' => ∃ b g, r = .returned (.tuple #[.slice (some ⟨b, 0, none⟩) 1 1, .slice (some ⟨g, 0, none⟩) 1 1]) ∧ Blk w' b #[.slice L n' c'] 25 ∧ Blk w' g #[.slice M p' d'] 25 ∧ Below W.heap.size W w')
    (h : evG e = true) (hml : m.length ≤ 35184372088832) :
    Calls Tryd.prog 58 #[.agg (evCells e (.slice A n c) (.slice B p d))] w fun r w' => r = .returned (.int .i64 (okE (rowB l && decide (m.length = 0)))) ∧ Below w.heap.size w w' := by
  obtain ⟨tx, tot, nth, k, tb, bf, af⟩ := e
  obtain ⟨c1, c2, c3, c4, c5, c6, c7, c8⟩ := of_decide_eq_true h
  simp only at c1 c2 c3 c4 c5 c6 c7 c8
  subst hn hm
  simp only [evCells] at hR ⊢
  have HR := Lib.hid hR
  have HT := Lib.hid hT
  have HL := Lib.hid hl
  clear hR hT hl h
  cases hr : rowB l
  · have HB := Lib.hid hr
    clear hr
    go_enter Tryd.func58, Tryd.ntmps58
    go_wp2_with fail
    refine (HR.out _).mono ?_
    rintro r w1 ⟨b, g, rfl, hb, hg, hB1⟩
    have hC : Below w.heap.size w w1 := bt (by repeat (first | exact Below.refl _ _ | assumption | refine Below.drew ?_ | refine below_drewN ?_ _ | refine Below.alloc ?_ (by simp <;> omega) _)) hB1
    have HBb := Lib.hid hb
    have HBg := Lib.hid hg
    have cb := hb.c0
    clear hb hg hB1
    go_wp2_with fail
    refine wp_loop_rounds 2 ?_
    rw [rounds_succ]
    go_wp2_with fail
    refine (vrow_not l L c' _ (HL.out.ext hC) (HT.out.ext hC) HB.out).mono ?_
    rintro r w2 ⟨rfl, hB2⟩
    go_wp2_with fail
    go_ret
    exact ⟨rfl, bt hC hB2⟩
  · have HB := Lib.hid hr
    clear hr
    by_cases hz : m.length = 0
    · have HZ := Lib.hid hz
      have hz' : (m.length : Int) ≤ 0 := by omega
      rw [decide_eq_true hz]
      clear hz
      go_enter Tryd.func58, Tryd.ntmps58
      go_wp2_with fail
      refine (HR.out _).mono ?_
      rintro r w1 ⟨b, g, rfl, hb, hg, hB1⟩
      have hC : Below w.heap.size w w1 := bt (by repeat (first | exact Below.refl _ _ | assumption | refine Below.drew ?_ | refine below_drewN ?_ _ | refine Below.alloc ?_ (by simp <;> omega) _)) hB1
      have HBb := Lib.hid hb
      have HBg := Lib.hid hg
      have cb := hb.c0
      clear hb hg hB1
      go_wp2_with fail
      refine wp_loop_rounds 2 ?_
      rw [rounds_succ]
      go_wp2_with fail
      refine (vrow_yes l L c' _ (HL.out.ext hC) (HT.out.ext hC) HB.out).mono ?_
      rintro r w2 ⟨rfl, hB2⟩
      have cg := (HBg.out.ext hB2).c0
      have hC2 := bt hC hB2
      clear hB2 cb
      go_wp2_with fail
      rw [rounds_succ]
      go_wp2_with fail
      refine wp_loop_rounds 2 ?_
      rw [rounds_succ]
      go_wp2_with fail
      rw [rounds_succ]
      go_wp2_with fail
      go_ret
      exact ⟨rfl, hC2⟩
    · have hz' : 0 < (m.length : Int) := by omega
      rw [decide_eq_false hz]
      clear hz
      go_enter Tryd.func58, Tryd.ntmps58
      go_wp2_with fail
      refine (HR.out _).mono ?_
      rintro r w1 ⟨b, g, rfl, hb, hg, hB1⟩
      have hC : Below w.heap.size w w1 := bt (by repeat (first | exact Below.refl _ _ | assumption | refine Below.drew ?_ | refine below_drewN ?_ _ | refine Below.alloc ?_ (by simp <;> omega) _)) hB1
      have HBb := Lib.hid hb
      have HBg := Lib.hid hg
      have cb := hb.c0
      clear hb hg hB1
      go_wp2_with fail
      refine wp_loop_rounds 2 ?_
      rw [rounds_succ]
      go_wp2_with fail
      refine (vrow_yes l L c' _ (HL.out.ext hC) (HT.out.ext hC) HB.out).mono ?_
      rintro r w2 ⟨rfl, hB2⟩
      have cg := (HBg.out.ext hB2).c0
      have hC2 := bt hC hB2
      clear hB2 cb
      go_wp2_with fail
      rw [rounds_succ]
      go_wp2_with fail
      refine wp_loop_rounds 2 ?_
      rw [rounds_succ]
      go_wp2_with fail
      go_ret
      exact ⟨rfl, hC2⟩
set_option maxRecDepth 100000 in
set_option maxHeartbeats 400000 in
/-- Both rows must be. -/
theorem evcheck_two (e : Ev) (A B : Option Addr) (c d : Nat) (l m : List V) (w : World) (hT : Tabs w) (hl : VRow w A l) (hm : VRow w B m)
    (hR : ∀ W, Calls Tryd.prog 128 #[.agg (evCells e (.slice A l.length c) (.slice B m.length d))] W fun r w' => ∃ b, r = .returned (.tuple #[.slice (some ⟨b, 0, none⟩) 2 2, .slice none 0 0]) ∧ Blk w' b #[.slice A l.length c, .slice B m.length d] 25 ∧ Below W.heap.size W w')
    (h : evG e = true) :
    Calls Tryd.prog 58 #[.agg (evCells e (.slice A l.length c) (.slice B m.length d))] w fun r w' => r = .returned (.int .i64 (okE (rowB l && rowB m))) ∧ Below w.heap.size w w' := by
  obtain ⟨tx, tot, nth, k, tb, bf, af⟩ := e
  obtain ⟨c1, c2, c3, c4, c5, c6, c7, c8⟩ := of_decide_eq_true h
  simp only at c1 c2 c3 c4 c5 c6 c7 c8
  simp only [evCells] at hR ⊢
  have HR := Lib.hid hR
  have HT := Lib.hid hT
  have HL := Lib.hid hl
  have HM := Lib.hid hm
  clear hR hT hl h hm
  cases hr : rowB l
  · have HB := Lib.hid hr
    clear hr
    go_enter Tryd.func58, Tryd.ntmps58
    go_wp2_with fail
    refine (HR.out _).mono ?_
    rintro r w1 ⟨b, rfl, hb, hB1⟩
    have hC : Below w.heap.size w w1 := bt (by repeat (first | exact Below.refl _ _ | assumption | refine Below.drew ?_ | refine below_drewN ?_ _ | refine Below.alloc ?_ (by simp <;> omega) _)) hB1
    have cb := hb.d0
    clear hb hB1
    go_wp2_with fail
    refine wp_loop_rounds 3 ?_
    rw [rounds_succ]
    go_wp2_with fail
    refine (vrow_not l A c _ (HL.out.ext hC) (HT.out.ext hC) HB.out).mono ?_
    rintro r w2 ⟨rfl, hB2⟩
    go_wp2_with fail
    go_ret
    exact ⟨rfl, bt hC hB2⟩
  · have HB := Lib.hid hr
    clear hr
    cases hr : rowB m
    · have HB' := Lib.hid hr
      clear hr
      go_enter Tryd.func58, Tryd.ntmps58
      go_wp2_with fail
      refine (HR.out _).mono ?_
      rintro r w1 ⟨b, rfl, hb, hB1⟩
      have hC : Below w.heap.size w w1 := bt (by repeat (first | exact Below.refl _ _ | assumption | refine Below.drew ?_ | refine below_drewN ?_ _ | refine Below.alloc ?_ (by simp <;> omega) _)) hB1
      have HBb := Lib.hid hb
      have cb := hb.d0
      clear hb hB1
      go_wp2_with fail
      refine wp_loop_rounds 3 ?_
      rw [rounds_succ]
      go_wp2_with fail
      refine (vrow_yes l A c _ (HL.out.ext hC) (HT.out.ext hC) HB.out).mono ?_
      rintro r w2 ⟨rfl, hB2⟩
      have cg := (HBb.out.ext hB2).d1
      have hC2 := bt hC hB2
      clear hB2 cb
      go_wp2_with fail
      rw [rounds_succ]
      go_wp2_with fail
      refine (vrow_not m B d _ (HM.out.ext hC2) (HT.out.ext hC2) HB'.out).mono ?_
      rintro r w3 ⟨rfl, hB3⟩
      go_wp2_with fail
      go_ret
      exact ⟨rfl, bt hC2 hB3⟩
    · have HB' := Lib.hid hr
      clear hr
      go_enter Tryd.func58, Tryd.ntmps58
      go_wp2_with fail
      refine (HR.out _).mono ?_
      rintro r w1 ⟨b, rfl, hb, hB1⟩
      have hC : Below w.heap.size w w1 := bt (by repeat (first | exact Below.refl _ _ | assumption | refine Below.drew ?_ | refine below_drewN ?_ _ | refine Below.alloc ?_ (by simp <;> omega) _)) hB1
      have HBb := Lib.hid hb
      have cb := hb.d0
      clear hb hB1
      go_wp2_with fail
      refine wp_loop_rounds 3 ?_
      rw [rounds_succ]
      go_wp2_with fail
      refine (vrow_yes l A c _ (HL.out.ext hC) (HT.out.ext hC) HB.out).mono ?_
      rintro r w2 ⟨rfl, hB2⟩
      have cg := (HBb.out.ext hB2).d1
      have hC2 := bt hC hB2
      clear hB2 cb
      go_wp2_with fail
      rw [rounds_succ]
      go_wp2_with fail
      refine (vrow_yes m B d _ (HM.out.ext hC2) (HT.out.ext hC2) HB'.out).mono ?_
      rintro r w3 ⟨rfl, hB3⟩
      have hC3 := bt hC2 hB3
      clear hB3 cg
      go_wp2_with fail
      rw [rounds_succ]
      go_wp2_with fail
      refine wp_loop_rounds 1 ?_
      rw [rounds_succ]
      go_wp2_with fail
      go_ret
      exact ⟨rfl, hC3⟩
theorem evcheck_any (e : Ev) (A B : Option Addr) (c d : Nat) (w : World) (hT : Tabs w) (hl : VRow w A e.bf) (hm : VRow w B e.af) :
    Calls Tryd.prog 58 #[.agg (evCells e (.slice A e.bf.length c) (.slice B e.af.length d))] w fun r w' => r = .returned (.int .i64 (okE (evB e))) ∧ Below w.heap.size w w' := by
  unfold evB
  cases hg : evG e
  · exact evcheck_no e _ _ w hg
  · rw [Bool.true_and]
    unfold evR
    by_cases h1 : e.k = 1 ∨ e.k = 4
    · rw [if_pos h1]
      exact evcheck_one e A B B A _ c _ d _ d _ c e.af e.bf w hT hm rfl rfl (fun W => rows_ins e A B _ c _ d W h1) hg hl.2.1
    · rw [if_neg h1]
      by_cases h3 : e.k = 3
      · rw [if_pos h3]
        exact evcheck_one e A B A B _ c _ d _ c _ d e.bf e.af w hT hl rfl rfl (fun W => rows_del e A B _ c _ d W h3) hg hm.2.1
      · rw [if_neg h3]
        exact evcheck_two e A B c d e.bf e.af w hT hl hm (fun W => rows_upd e A B _ c _ d W h1 h3) hg
end Go.Proofs.YtjdfodmialhakaaDoor
