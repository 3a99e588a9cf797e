/- The reference's side of events: has, row, May, Put. -/
import Derived.Test.YtjdfodmialhakaaDoorEv4
namespace Go.Proofs.YtjdfodmialhakaaDoor
open Go.RowKit

theorem ret_str {a b : ByteArray} (h : a = b) : Ending.returned (.string a) = .returned (.string b) := by rw [h]
def hasB (k : Int) : Bool := decide (k = 2 ∨ k = 3)
def hasA (k : Int) : Bool := !decide (k = 3)
theorem refhas_any (k : Int) (w : World) :
    Calls Tryd.prog 132 #[.int .u8 k] w fun r w' => r = .returned (.tuple #[.bool (hasB k), .bool (hasA k)]) ∧ w = w' := by
  by_cases h2 : k = 2
  · subst h2
    go_enter Tryd.func132, Tryd.ntmps132
    go_wp2
    go_ret2
    exact ⟨rfl, rfl⟩
  · have n2 : (k == 2) = false := beq_eq_false_iff_ne.2 h2
    by_cases h3 : k = 3
    · subst h3
      clear h2
      go_enter Tryd.func132, Tryd.ntmps132
      go_wp2
      go_ret2
      exact ⟨rfl, rfl⟩
    · have n3 : (k == 3) = false := beq_eq_false_iff_ne.2 h3
      have n3' : (k != 3) = true := by rw [bne_iff_ne]; exact h3
      have e1 : hasB k = false := by unfold hasB; rw [decide_eq_false]; omega
      have e2 : hasA k = true := by unfold hasA; rw [decide_eq_false h3]; rfl
      rw [e1, e2]
      clear h2 h3 e1 e2
      go_enter Tryd.func132, Tryd.ntmps132
      go_wp2
      go_ret2
      exact ⟨rfl, rfl⟩
/-- A row that must be, or must not. -/
def rowM (l : List V) (b : Bool) : Bool := if b then rowB l else decide (l.length = 0)
theorem refrow16_any (l : List V) (A : Option Addr) (c : Nat) (b : Bool) (w : World) (hr : VRow w A l) (hT : Tabs w) :
    Calls Tryd.prog 133 #[.slice A l.length c, .bool b] w fun r w' => r = .returned (.bool (rowM l b)) ∧ Below w.heap.size w w' := by
  cases b
  · have hl := hr.2.1
    clear hr hT
    have e : rowM l false = ((l.length : Int) == 0) := by
      unfold rowM
      rw [if_neg (by decide), Bool.eq_iff_iff]
      simp only [decide_eq_true_eq, beq_iff_eq]
      omega
    rw [e]
    clear e
    go_enter Tryd.func133, Tryd.ntmps133
    go_wp2
    go_ret
    exact ⟨rfl, (by repeat (first | exact Below.refl _ _ | assumption | refine Below.drew ?_ | refine below_drewN ?_ _ | refine Below.alloc ?_ (by simp <;> omega) _))⟩
  · have HC := Lib.hid (refrow_any l A c w hr hT)
    clear hr hT
    have e : rowM l true = rowB l := rfl
    rw [e]
    clear e
    go_enter Tryd.func133, Tryd.ntmps133
    go_wp2_with fail
    refine HC.out.mono ?_
    rintro r w1 ⟨rfl, hb⟩
    go_wp2_with fail
    go_ret
    exact ⟨rfl, hb⟩
theorem evR_has (e : Ev) (h : evG e = true) : evR e = (rowM e.bf (hasB e.k) && rowM e.af (hasA e.k)) := by
  obtain ⟨c1, c2, _⟩ := of_decide_eq_true h
  unfold evR
  have hk : e.k = 1 ∨ e.k = 2 ∨ e.k = 3 ∨ e.k = 4 := by omega
  rcases hk with hk | hk | hk | hk <;> rw [hk] <;> simp [rowM, hasB, hasA, Bool.and_comm]
set_option maxRecDepth 100000 in
set_option maxHeartbeats 400000 in
theorem refmay_any16 (e : Ev) (A B : Option Addr) (c d : Nat) (w : World) (hT : Tabs w) (hl : VRow w A e.bf) (hm : VRow w B e.af) :
    Calls Tryd.prog 61 #[.agg (evCells e (.slice A e.bf.length c) (.slice B e.af.length d))] w fun r w' => r = .returned (.bool (evB e)) ∧ Below w.heap.size w w' := by
  have HH := Lib.hid (refhas_any e.k)
  cases hg : evG e
  · have e1 : evB e = false := by unfold evB; rw [hg]; rfl
    rw [e1]
    clear e1
    obtain ⟨tx, tot, nth, k, tb, bf, af⟩ := e
    have h' := of_decide_eq_false hg
    simp only at h' HH
    have b1 := hl.2.1
    have b2 := hm.2.1
    clear hg hl hm hT
    simp only [evCells]
    generalize hasB k = x1 at HH
    generalize hasA k = x2 at HH
    by_cases c1 : k < 1
    · clear h'
      (go_enter Tryd.func61, Tryd.ntmps61; go_wp2_with fail; refine (HH.out _).mono ?_; rintro r w1 ⟨rfl, rfl⟩; go_wp2_with fail; go_ret; exact ⟨rfl, (by repeat (first | exact Below.refl _ _ | assumption | refine Below.drew ?_ | refine below_drewN ?_ _ | refine Below.alloc ?_ (by simp <;> omega) _))⟩)
    · by_cases c2 : 4 < k
      · clear h'
        (go_enter Tryd.func61, Tryd.ntmps61; go_wp2_with fail; refine (HH.out _).mono ?_; rintro r w1 ⟨rfl, rfl⟩; go_wp2_with fail; go_ret; exact ⟨rfl, (by repeat (first | exact Below.refl _ _ | assumption | refine Below.drew ?_ | refine below_drewN ?_ _ | refine Below.alloc ?_ (by simp <;> omega) _))⟩)
      · by_cases c3 : tb < 0
        · clear h'
          (go_enter Tryd.func61, Tryd.ntmps61; go_wp2_with fail; refine (HH.out _).mono ?_; rintro r w1 ⟨rfl, rfl⟩; go_wp2_with fail; go_ret; exact ⟨rfl, (by repeat (first | exact Below.refl _ _ | assumption | refine Below.drew ?_ | refine below_drewN ?_ _ | refine Below.alloc ?_ (by simp <;> omega) _))⟩)
        · by_cases c4 : 12 ≤ tb
          · clear h'
            (go_enter Tryd.func61, Tryd.ntmps61; go_wp2_with fail; refine (HH.out _).mono ?_; rintro r w1 ⟨rfl, rfl⟩; go_wp2_with fail; go_ret; exact ⟨rfl, (by repeat (first | exact Below.refl _ _ | assumption | refine Below.drew ?_ | refine below_drewN ?_ _ | refine Below.alloc ?_ (by simp <;> omega) _))⟩)
          · by_cases c5 : tot < 0
            · clear h'
              (go_enter Tryd.func61, Tryd.ntmps61; go_wp2_with fail; refine (HH.out _).mono ?_; rintro r w1 ⟨rfl, rfl⟩; go_wp2_with fail; go_ret; exact ⟨rfl, (by repeat (first | exact Below.refl _ _ | assumption | refine Below.drew ?_ | refine below_drewN ?_ _ | refine Below.alloc ?_ (by simp <;> omega) _))⟩)
            · by_cases c6 : 200 ≤ tot
              · clear h'
                (go_enter Tryd.func61, Tryd.ntmps61; go_wp2_with fail; refine (HH.out _).mono ?_; rintro r w1 ⟨rfl, rfl⟩; go_wp2_with fail; go_ret; exact ⟨rfl, (by repeat (first | exact Below.refl _ _ | assumption | refine Below.drew ?_ | refine below_drewN ?_ _ | refine Below.alloc ?_ (by simp <;> omega) _))⟩)
              · by_cases c7 : nth < 0
                · clear h'
                  (go_enter Tryd.func61, Tryd.ntmps61; go_wp2_with fail; refine (HH.out _).mono ?_; rintro r w1 ⟨rfl, rfl⟩; go_wp2_with fail; go_ret; exact ⟨rfl, (by repeat (first | exact Below.refl _ _ | assumption | refine Below.drew ?_ | refine below_drewN ?_ _ | refine Below.alloc ?_ (by simp <;> omega) _))⟩)
                · have c8 : tot < nth := by omega
                  clear h'
                  (go_enter Tryd.func61, Tryd.ntmps61; go_wp2_with fail; refine (HH.out _).mono ?_; rintro r w1 ⟨rfl, rfl⟩; go_wp2_with fail; go_ret; exact ⟨rfl, (by repeat (first | exact Below.refl _ _ | assumption | refine Below.drew ?_ | refine below_drewN ?_ _ | refine Below.alloc ?_ (by simp <;> omega) _))⟩)
  · have e1 : evB e = (rowM e.bf (hasB e.k) && rowM e.af (hasA e.k)) := by unfold evB; rw [hg, evR_has e hg]; rfl
    rw [e1]
    clear e1
    have HB := Lib.hid (fun (W : World) (hW : Below w.heap.size w W) => refrow16_any e.bf A c (hasB e.k) W (hl.ext hW) (hT.ext hW))
    have HA := Lib.hid (fun (W : World) (hW : Below w.heap.size w W) => refrow16_any e.af B d (hasA e.k) W (hm.ext hW) (hT.ext hW))
    have b1 := hl.2.1
    have b2 := hm.2.1
    obtain ⟨tx, tot, nth, k, tb, bf, af⟩ := e
    obtain ⟨c1, c2, c3, c4, c5, c6, c7, c8⟩ := of_decide_eq_true hg
    simp only at c1 c2 c3 c4 c5 c6 c7 c8 HH HB HA b1 b2
    clear hg hl hm hT
    simp only [evCells]
    generalize rowM bf (hasB k) = r1 at HB
    generalize rowM af (hasA k) = r2 at HA
    generalize hasB k = x1 at HH HB
    generalize hasA k = x2 at HH HA
    cases r1
    · go_enter Tryd.func61, Tryd.ntmps61
      go_wp2_with fail
      refine (HH.out _).mono ?_
      rintro r w1 ⟨rfl, rfl⟩
      go_wp2_with fail
      refine (HB.out _ (by repeat (first | exact Below.refl _ _ | assumption | refine Below.drew ?_ | refine below_drewN ?_ _ | refine Below.alloc ?_ (by simp <;> omega) _))).mono ?_
      rintro r w2 ⟨rfl, hb2⟩
      have hbw : Below w.heap.size w w2 := bt (by repeat (first | exact Below.refl _ _ | assumption | refine Below.drew ?_ | refine below_drewN ?_ _ | refine Below.alloc ?_ (by simp <;> omega) _)) hb2
      clear hb2
      go_wp2_with fail
      go_ret
      exact ⟨rfl, hbw⟩
    · go_enter Tryd.func61, Tryd.ntmps61
      go_wp2_with fail
      refine (HH.out _).mono ?_
      rintro r w1 ⟨rfl, rfl⟩
      go_wp2_with fail
      refine (HB.out _ (by repeat (first | exact Below.refl _ _ | assumption | refine Below.drew ?_ | refine below_drewN ?_ _ | refine Below.alloc ?_ (by simp <;> omega) _))).mono ?_
      rintro r w2 ⟨rfl, hb2⟩
      have hbw : Below w.heap.size w w2 := bt (by repeat (first | exact Below.refl _ _ | assumption | refine Below.drew ?_ | refine below_drewN ?_ _ | refine Below.alloc ?_ (by simp <;> omega) _)) hb2
      have hBk := (Blk.new w #[.int .u64 tx, .int .i64 tot, .int .i64 nth, .int .u8 k, .int .i64 tb, .slice A bf.length c, .slice B af.length d] 52).ext hb2
      obtain ⟨y0, y1, y2, y3, y4, y5, y6⟩ := blk7 hBk
      clear hb2 hBk
      go_wp2_with fail
      refine (HA.out _ hbw).mono ?_
      rintro r w3 ⟨rfl, hb3⟩
      have hbw3 := bt hbw hb3
      clear hb3
      go_wp2_with fail
      go_ret
      exact ⟨rfl, hbw3⟩
theorem u64_of (v : Int) (h0 : 0 ≤ v) (h1 : v < 65536) : IntKind.u64.wrap v = v := by simp [IntKind.wrap, IntKind.bits, IntKind.signed]; omega
theorem refnum2 (v : Int) (h0 : 0 ≤ v) (h1 : v < 65536) (w : World) :
    Calls Tryd.prog 99 #[.int .u64 v, .int .i64 2] w fun e w' => e = .returned (.string ⟨(numL 2 v.toNat).toArray⟩) ∧ Below w.heap.size w w' := refnum v 2 h0 (by omega) (by omega) w
set_option maxRecDepth 100000 in
set_option maxHeartbeats 800000 in
/-- The reference's bytes of an event that may be. -/
theorem refput_any16 (e : Ev) (A B : Option Addr) (c d : Nat) (w : World) (hl : VRow w A e.bf) (hm : VRow w B e.af) (hw : e.wf) (hb : evB e = true) :
    Calls Tryd.prog 62 #[.agg (evCells e (.slice A e.bf.length c) (.slice B e.af.length d))] w fun r w' => r = .returned (.string ⟨(evL e).toArray⟩) ∧ Below w.heap.size w w' := by
  have hg : evG e = true := by unfold evB at hb; exact (Bool.and_eq_true_iff.1 hb).1
  have hr : evR e = true := by unfold evB at hb; exact (Bool.and_eq_true_iff.1 hb).2
  rw [evR_has e hg] at hr
  obtain ⟨hr1, hr2⟩ := Bool.and_eq_true_iff.1 hr
  have HH := Lib.hid (refhas_any e.k)
  have hEL : evL e = evH e ++ ((if hasB e.k then putRowL e.bf else []) ++ (if hasA e.k then putRowL e.af else [])) := by
    obtain ⟨c1, c2, _⟩ := of_decide_eq_true hg
    unfold evL evRows
    have hk : e.k = 1 ∨ e.k = 2 ∨ e.k = 3 ∨ e.k = 4 := by omega
    rcases hk with hk | hk | hk | hk <;> rw [hk] <;> simp [hasB, hasA]
  have HPB : Hid (∀ W : World, Below w.heap.size w W → hasB e.k = true → Calls Tryd.prog 26 #[.slice A e.bf.length c] W fun r w' => r = .returned (.string ⟨(putRowL e.bf).toArray⟩) ∧ Below W.heap.size W w') :=
    fun W hW hx => refputrow_any e.bf A c W (hl.ext hW) (by rw [hx] at hr1; exact hr1)
  have HPA : Hid (∀ W : World, Below w.heap.size w W → hasA e.k = true → Calls Tryd.prog 26 #[.slice B e.af.length d] W fun r w' => r = .returned (.string ⟨(putRowL e.af).toArray⟩) ∧ Below W.heap.size W w') :=
    fun W hW hx => refputrow_any e.af B d W (hm.ext hW) (by rw [hx] at hr2; exact hr2)
  have HZB : Hid (hasB e.k = true → (ByteArray.mk (putRowL e.bf).toArray).size ≤ 825) := fun hx => by rw [hx] at hr1; simpa [ByteArray.size] using putRowL_length (l := e.bf) hr1
  have HZA : Hid (hasA e.k = true → (ByteArray.mk (putRowL e.af).toArray).size ≤ 825) := fun hx => by rw [hx] at hr2; simpa [ByteArray.size] using putRowL_length (l := e.af) hr2
  have HEL := Lib.hid hEL
  have b1 := hl.2.1
  have b2 := hm.2.1
  obtain ⟨tx, tot, nth, k, tb, bf, af⟩ := e
  obtain ⟨c1, c2, c3, c4, c5, c6, c7, c8⟩ := of_decide_eq_true hg
  obtain ⟨⟨d1, d2⟩, _⟩ := hw
  simp only at c1 c2 c3 c4 c5 c6 c7 c8 d1 d2 HH HPB HPA HZB HZA b1 b2
  clear hr hr1 hr2 hg hb hl hm hEL
  have H8 := Lib.hid (refnum8 tx d1 d2)
  have H2 := Lib.hid (refnum2 tot (by omega) (by omega))
  have H2' := Lib.hid (refnum2 nth (by omega) (by omega))
  have s8 := numL_size 8 tx.toNat
  have s2 := numL_size 2 tot.toNat
  have s2' := numL_size 2 nth.toNat
  generalize hL : evL _ = EL at HEL
  have HL := Lib.hid hL
  clear hL HL
  unfold evH at HEL
  simp only at HEL
  simp only [evCells]
  obtain ⟨N8, hN8⟩ : ∃ q : ByteArray, q = ⟨(numL 8 tx.toNat).toArray⟩ := ⟨_, rfl⟩
  obtain ⟨N2, hN2⟩ : ∃ q : ByteArray, q = ⟨(numL 2 tot.toNat).toArray⟩ := ⟨_, rfl⟩
  obtain ⟨N2', hN2'⟩ : ∃ q : ByteArray, q = ⟨(numL 2 nth.toNat).toArray⟩ := ⟨_, rfl⟩
  rw [← hN8] at H8 s8
  rw [← hN2] at H2 s2
  rw [← hN2'] at H2' s2'
  have z8 : N8.size ≤ 8 := Nat.le_of_eq s8
  have z2 : N2.size ≤ 2 := Nat.le_of_eq s2
  have z2' : N2'.size ≤ 2 := Nat.le_of_eq s2'
  have HN8 := Lib.hid hN8
  have HN2 := Lib.hid hN2
  have HN2' := Lib.hid hN2'
  have hcv := conv2_at (IntKind.u8.wrap tb) k
  have hk1 := run_cat N8 N2 (by omega)
  have hk2 := run_cat (N8 ++ N2) N2' (by rw [ByteArray.size_append]; omega)
  have hk3 := run_cat (N8 ++ N2 ++ N2') (strOfNums [IntKind.u8.wrap tb, k]) (by rw [ByteArray.size_append, ByteArray.size_append, strOfNums_size]; simp; omega)
  have hu1 := u64_of tot (by omega) (by omega)
  have hu2 := u64_of nth (by omega) (by omega)
  clear hN8 hN2 hN2' s8 s2 s2'
  go_enter Tryd.func62, Tryd.ntmps62
  go_upto_region 1 with fail
  have hBk := Blk.new w #[.int .u64 tx, .int .i64 tot, .int .i64 nth, .int .u8 k, .int .i64 tb, .slice A bf.length c, .slice B af.length d] 52
  have hBw : Below w.heap.size w (w.alloc (.cells #[.int .u64 tx, .int .i64 tot, .int .i64 nth, .int .u8 k, .int .i64 tb, .slice A bf.length c, .slice B af.length d] 52)) := (by repeat (first | exact Below.refl _ _ | assumption | refine Below.drew ?_ | refine below_drewN ?_ _ | refine Below.alloc ?_ (by simp <;> omega) _))
  generalize w.alloc (.cells #[.int .u64 tx, .int .i64 tot, .int .i64 nth, .int .u8 k, .int .i64 tb, .slice A bf.length c, .slice B af.length d] 52) = w1 at hBk hBw ⊢
  go_cut [3] (fun s wx => s = .string (N8 ++ N2 ++ N2' ++ strOfNums [IntKind.u8.wrap tb, k]) ∧ Below w1.heap.size w1 wx)
  case first =>
    refine region_grow [false, false, false, true, false, false, true, true, true, true, true, true, true, true, true, true, true, true, true, true, true, true, true, true, true, true, true, true, true, false, false, false, false, false, false, false, false, false, false, false, false, false, false, false, false, false, false, false, false, false, false] [6, 7, 8, 9, 10, 11, 12, 13, 14, 15, 16, 17, 18, 19, 20, 21, 22, 23, 24, 25, 26, 27, 28, 3] [.val (.pointer (some ⟨w.heap.size, 0, none⟩)), .val (.int .u64 tx), .val (.string N8), .val (.pointer (some ⟨w.heap.size, 1, none⟩)), .val (.int .i64 tot), .val (.int .u64 tot), .val (.string N2), .val (.string (N8 ++ N2)), .val (.pointer (some ⟨w.heap.size, 2, none⟩)), .val (.int .i64 nth), .val (.int .u64 nth), .val (.string N2'), .val (.string (N8 ++ N2 ++ N2')), .val (.pointer (some ⟨w.heap.size, 3, none⟩)), .val (.pointer (some ⟨w.heap.size, 4, none⟩)), .val (.int .i64 tb), .val (.int .u8 (IntKind.u8.wrap tb)), .val (.pointer (some ⟨w.heap.size, 3, none⟩)), .val (.pointer (some ⟨w.heap.size, 3, none⟩)), .val (.int .u8 k), .new (fun g => .slice (some ⟨g, 0, none⟩) 2 2) #[.int .u8 (IntKind.u8.wrap tb), .int .u8 k] 5, .val (.string (strOfNums [IntKind.u8.wrap tb, k])), .val (.string (N8 ++ N2 ++ N2' ++ strOfNums [IntKind.u8.wrap tb, k])), .val (.string (N8 ++ N2 ++ N2' ++ strOfNums [IntKind.u8.wrap tb, k]))] [23] (by kernel_rfl) (by kernel_rfl) (by kernel_rfl) (by kernel_rfl) (by kernel_rfl) ⟨?_, ?_, ?_, ?_, ?_, ?_, ?_, ?_, ?_, ?_, ?_, ?_, ?_, ?_, ?_, ?_, ?_, ?_, ?_, ?_, ?_, ?_, ?_, ?_, trivial⟩ ?done
    case done =>
      intro x w2 hb2
      simp only [StepGoal, overlay, upd, cond_true, cond_false, List.getD_cons_zero, List.getD_cons_succ, Nat.zero_add, Nat.reduceAdd, Nat.reduceEqDiff, reduceIte]
      go_wp2_with fail
      go_meet
      exact ⟨rfl, hb2⟩
    all_goals
      intro x w2 hb2
      (try (intro bq hq; have q0 := hq.cell 0; have q1 := hq.cell 1; simp at q0 q1))
      intro K hK
      obtain ⟨_, y0, y1, y2, y3, y4⟩ := evS (hBk.ext hb2)
      rw [if_pos (by rfl)]; simp only [overlay, upd, cond_true, cond_false, List.getD_cons_zero, List.getD_cons_succ, Nat.reduceEqDiff, reduceIte]
      go_simp
      first
        | exact hK.out _ _ (Below.refl _ _) rfl
        | exact hK.out _ _ (by repeat (first | exact Below.refl _ _ | assumption | refine Below.drew ?_ | refine below_drewN ?_ _ | refine Below.alloc ?_ (by simp <;> omega) _)) ⟨_, rfl, Blk.new _ _ _⟩
        | ((with_reducible refine (H8.out _).mono ?_); rintro e wa ⟨rfl, hba⟩; go_wp2_with fail; exact hK.out _ _ hba rfl)
        | ((with_reducible refine (H2.out _).mono ?_); rintro e wa ⟨rfl, hba⟩; go_wp2_with fail; exact hK.out _ _ hba rfl)
        | ((with_reducible refine (H2'.out _).mono ?_); rintro e wa ⟨rfl, hba⟩; go_wp2_with fail; exact hK.out _ _ hba rfl)
  case rest =>
    obtain ⟨rfl, hB2⟩ := hcut
    have hBk2 := hBk.ext hB2
    have hC2 := bt hBw hB2
    obtain ⟨y0, y1, y2, y3, y4, y5, y6⟩ := blk7 hBk2
    have hHz : (N8 ++ N2 ++ N2' ++ strOfNums [IntKind.u8.wrap tb, k]).size ≤ 14 := by rw [ByteArray.size_append, ByteArray.size_append, ByteArray.size_append, strOfNums_size]; simp; omega
    have hHd := head_bytes (tx := tx) (tot := tot) (nth := nth) (tb := tb) (k := k) ⟨c3, by omega⟩ HN8.out HN2.out HN2'.out
    rw [← hHd] at HEL
    generalize N8 ++ N2 ++ N2' ++ strOfNums [IntKind.u8.wrap tb, k] = HD at hHz HEL
    clear hB2 hBw hBk hHd hk1 hk2 hk3 hcv hu1 hu2
    obtain ⟨Pb, hPb⟩ : ∃ q : ByteArray, q = ⟨(putRowL bf).toArray⟩ := ⟨_, rfl⟩
    obtain ⟨Pa, hPa⟩ : ∃ q : ByteArray, q = ⟨(putRowL af).toArray⟩ := ⟨_, rfl⟩
    rw [← hPb] at HPB HZB
    rw [← hPa] at HPA HZA
    have HPb := Lib.hid hPb
    have HPa := Lib.hid hPa
    have HBk := Lib.hid hBk2
    clear hPb hPa hBk2
    go_wp2_with fail
    refine (HH.out _).mono ?_
    rintro r w2 ⟨rfl, rfl⟩
    clear HH
    generalize hasB k = x1 at HPB HZB HEL
    generalize hasA k = x2 at HPA HZA HEL
    cases x1 <;> cases x2
    · clear HPB HPA HZB HZA
      go_wp2_with fail
      go_ret
      refine ⟨ret_str (ba_of ?_), hC2⟩
      rw [HEL.out]
      simp
    · have hza := HZA.out rfl
      have HCA := Lib.hid (fun W hW => HPA.out W hW rfl)
      clear HPB HPA HZB HZA
      go_wp2_with fail
      refine (HCA.out _ hC2).mono ?_
      rintro r w3 ⟨rfl, hb3⟩
      have hC3 := bt hC2 hb3
      clear hb3 HCA
      go_wp2_with fail
      go_ret
      refine ⟨ret_str (ba_of ?_), hC3⟩
      rw [HEL.out, ByteArray.data_append, HPa.out]
      simp
    · have hzb := HZB.out rfl
      have HCB := Lib.hid (fun W hW => HPB.out W hW rfl)
      clear HPB HPA HZB HZA
      go_wp2_with fail
      refine (HCB.out _ hC2).mono ?_
      rintro r w3 ⟨rfl, hb3⟩
      have hC3 := bt hC2 hb3
      clear hb3 HCB
      go_wp2_with fail
      go_ret
      refine ⟨ret_str (ba_of ?_), hC3⟩
      rw [HEL.out, ByteArray.data_append, HPb.out]
      simp
    · have hza := HZA.out rfl
      have hzb := HZB.out rfl
      have HCA := Lib.hid (fun W hW => HPA.out W hW rfl)
      have HCB := Lib.hid (fun W hW => HPB.out W hW rfl)
      clear HPB HPA HZB HZA
      go_wp2_with fail
      refine (HCB.out _ hC2).mono ?_
      rintro r w3 ⟨rfl, hb3⟩
      have hC3 := bt hC2 hb3
      obtain ⟨y0, y1, y2, y3, y4, y5, y6⟩ := blk7 (HBk.out.ext hb3)
      have hz2 : (HD ++ Pb).size ≤ 839 := by rw [ByteArray.size_append]; omega
      clear hb3 HCB
      go_wp2_with fail
      refine (HCA.out _ hC3).mono ?_
      rintro r w4 ⟨rfl, hb4⟩
      have hC4 := bt hC3 hb4
      clear hb4 HCA
      go_wp2_with fail
      go_ret
      refine ⟨ret_str (ba_of ?_), hC4⟩
      rw [HEL.out, ByteArray.data_append, ByteArray.data_append, HPb.out, HPa.out]
      simp
end Go.Proofs.YtjdfodmialhakaaDoor
