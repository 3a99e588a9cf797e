/- The walk of EventBack: whatever event, mark and text come in, it answers true. -/
import Derived.Test.YtjdfodmialhakaaDoorEr7
import Derived.Test.YtjdfodmialhakaaDoorEvPlain
import Derived.Deep.DeepCutAuto
namespace Go.Proofs.YtjdfodmialhakaaDoor
open Go.RowKit

theorem evback_put (e : Ev) (A B : Option Addr) (w : World) (hT : Tabs w) (hw : e.wf) (hl : VRow w A e.bf) (hm : VRow w B e.af) :
    ∃ PS PE, evPutR e = .tuple #[.string PS, .int .i64 PE] ∧ ((PE = 0 ∧ Hid (∀ W, Below w.heap.size w W → Calls Tryd.prog 71 #[.string PS] W (ED e.tx e.tot e.nth e.k e.tb e.bf e.af 0 W))) ∨ PE = 2) := by
  cases hb : evB e with
  | false => exact ⟨_, _, evput_no_ hb, Or.inr rfl⟩
  | true =>
    refine ⟨_, _, evput_yes_ hb, Or.inl ⟨rfl, fun W hW => ?_⟩⟩
    have hL := evL_length hb
    have h := evget_any ⟨(evL e).toArray⟩ W (by simp [ByteArray.size]; omega) (hT.ext hW)
    have hg : evGet (evL e) = some e := evget_put e hw hb hl.1 hm.1
    simp only [hg] at h
    exact h.mono fun _ _ h => h.data
theorem mkback_put (m : Mk) (hw : m.wf) (h1 : m.cs.length ≤ 300) (h2 : m.sq.length ≤ 300) :
    ∃ PS PE, mkPutR m = .tuple #[.string PS, .int .i64 PE] ∧ ((PE = 0 ∧ Hid (∀ W, Calls Tryd.prog 69 #[.string PS] W (MD m.k m.tx m.cs m.sq 0 W))) ∨ PE = 2) := by
  refine ⟨_, _, rfl, ?_⟩
  cases hb : mkB m with
  | false => exact Or.inr rfl
  | true =>
    refine Or.inl ⟨rfl, fun W => ?_⟩
    have hL : (mkL m).length ≤ 3100 := by rw [mkL_eq]; simp [num8L_len, num2L_len, numL_length]; omega
    rw [if_pos rfl]
    have h := getmark_any ⟨(mkL m).toArray⟩ W (by simp [ByteArray.size]; omega)
    have hg : mkGet (mkL m) = some m := mkget_put m hw hb
    simp only [hg] at h
    exact h.mono fun _ _ h => h.data
theorem evback_got (s : ByteArray) (w : World) (hT : Tabs w) :
    (codeF (evGet s.data.toList) = 0 ∧ Hid (∀ (A B : Option Addr) (a b : Nat) W, Below w.heap.size w W → VRow W A ((evGet s.data.toList).getD evZ).bf → VRow W B ((evGet s.data.toList).getD evZ).af →
      Calls Tryd.prog 59 #[.agg (evCells ((evGet s.data.toList).getD evZ) (.slice A ((evGet s.data.toList).getD evZ).bf.length a) (.slice B ((evGet s.data.toList).getD evZ).af.length b))] W fun r w' => r = .returned (.tuple #[.string s, .int .i64 0]) ∧ Below W.heap.size W w')) ∨ codeF (evGet s.data.toList) = 7 := by
  cases hg : evGet s.data.toList with
  | none => exact Or.inr rfl
  | some e =>
    obtain ⟨h1, h2, h3, h4, h5⟩ := evget_back hg
    refine Or.inl ⟨rfl, fun A B a b W hW hA hB => ?_⟩
    have h := evput_any e A B a b W (hT.ext hW) h2 hA hB
    rw [evput_yes_ h1, h5] at h
    exact h
theorem mkback_got (s : ByteArray) :
    (codeF (mkGet s.data.toList) = 0 ∧ Hid (∀ (C S : Option Addr) (c d : Nat) W, NRow .i64 W C ((mkGet s.data.toList).getD mkZ).cs → NRow .u64 W S ((mkGet s.data.toList).getD mkZ).sq →
      Calls Tryd.prog 65 #[.agg (mkCells ((mkGet s.data.toList).getD mkZ) (.slice C ((mkGet s.data.toList).getD mkZ).cs.length c) (.slice S ((mkGet s.data.toList).getD mkZ).sq.length d))] W fun r w' => r = .returned (.tuple #[.string s, .int .i64 0]) ∧ Below W.heap.size W w')) ∨ codeF (mkGet s.data.toList) = 7 := by
  cases hg : mkGet s.data.toList with
  | none => exact Or.inr rfl
  | some m =>
    obtain ⟨h1, h2, h3⟩ := mkget_back hg
    refine Or.inl ⟨rfl, fun C S c d W hC hS => ?_⟩
    have h := putmark_any m C S c d W h2 hC hS
    unfold mkPutR at h
    rw [h1, okE_t, if_pos rfl, h3] at h
    exact h
set_option maxRecDepth 100000 in
set_option maxHeartbeats 400000 in
theorem evback_far (e : Ev) (A B : Option Addr) (c d : Nat) (m : Mk) (C S : Option Addr) (c' d' : Nat) (s : ByteArray) (w : World) (hT : Tabs w) (hl : VRow w A e.bf) (hm : VRow w B e.af)
    (hc : m.cs.length ≤ 17592186044416) (hs : m.sq.length ≤ 17592186044416) (hz : s.size ≤ 140737488355328)
    (h : (decide (4000 < longN e.bf) || decide (4000 < longN e.af)) = true ∨ 300 < m.cs.length ∨ 300 < m.sq.length ∨ 16384 < s.size) :
    Calls Tryd.prog 12 #[.agg (evCells e (.slice A e.bf.length c) (.slice B e.af.length d)), .agg (mkCells m (.slice C m.cs.length c') (.slice S m.sq.length d')), .string s] w fun r w' => r = .returned (.bool true) ∧ Below w.heap.size w w' := by
  have HLG := Lib.hid (fun (W : World) (hW : Below w.heap.size w W) => long16_any e A B c d W (hl.ext hW) (hm.ext hW))
  have HA := Lib.hid (fun (W : World) (hW : Below w.heap.size w W) => alive16 W (hT.ext hW))
  have b1 := hl.2.1
  have b2 := hm.2.1
  clear hT hl hm
  generalize (decide (4000 < longN e.bf) || decide (4000 < longN e.af)) = LG at HLG h
  obtain ⟨tx, tot, nth, k, tb, bf, af⟩ := e
  obtain ⟨mk, mt, cs, sq⟩ := m
  simp only [mkCells, evCells] at hc hs h b1 b2 HLG ⊢
  cases LG
  · by_cases h1 : 300 < cs.length
    · clear h
      go_enter Tryd.func12, Tryd.ntmps12
      go_wp2_with fail
      refine (HLG.out _ (by repeat (first | exact Below.refl _ _ | assumption | refine Below.drew ?_ | refine below_drewN ?_ _ | refine Below.alloc ?_ (by simp <;> omega) _))).mono ?_
      rintro r w1 ⟨rfl, hb⟩
      have hX := ((Blk.new w #[.int .u64 tx, .int .i64 tot, .int .i64 nth, .int .u8 k, .int .i64 tb, .slice A bf.length c, .slice B af.length d] 52).old (.cells #[.int .u8 mk, .int .u64 mt, .slice C cs.length c', .slice S sq.length d'] 48)).ext hb
      have hM : Blk w1 (w.heap.size + 1) #[.int .u8 mk, .int .u64 mt, .slice C cs.length c', .slice S sq.length d'] 48 := by
        have h0 : Blk ((w.alloc (.cells #[.int .u64 tx, .int .i64 tot, .int .i64 nth, .int .u8 k, .int .i64 tb, .slice A bf.length c, .slice B af.length d] 52)).alloc (.cells #[.int .u8 mk, .int .u64 mt, .slice C cs.length c', .slice S sq.length d'] 48)) (w.heap.size + 1) #[.int .u8 mk, .int .u64 mt, .slice C cs.length c', .slice S sq.length d'] 48 := (by repeat (first | exact Blk.at (by simp) | assumption | refine Blk.drew ?_ | refine Blk.old ?_ _))
        exact h0.ext hb
      have hC : Below w.heap.size w w1 := bt (by repeat (first | exact Below.refl _ _ | assumption | refine Below.drew ?_ | refine below_drewN ?_ _ | refine Below.alloc ?_ (by simp <;> omega) _)) hb
      clear hb HLG
      obtain ⟨_, z0, z1, z2, z3⟩ := mk4 hM
      clear hX hM
      go_wp2_with fail
      refine (HA.out _ hC).mono ?_
      rintro r w2 ⟨rfl, hb⟩
      have hC2 := bt hC hb
      clear hb HA hC
      go_wp2_with fail
      go_ret
      exact ⟨rfl, hC2⟩
    · by_cases h2 : 300 < sq.length
      · clear h
        go_enter Tryd.func12, Tryd.ntmps12
        go_wp2_with fail
        refine (HLG.out _ (by repeat (first | exact Below.refl _ _ | assumption | refine Below.drew ?_ | refine below_drewN ?_ _ | refine Below.alloc ?_ (by simp <;> omega) _))).mono ?_
        rintro r w1 ⟨rfl, hb⟩
        have hX := ((Blk.new w #[.int .u64 tx, .int .i64 tot, .int .i64 nth, .int .u8 k, .int .i64 tb, .slice A bf.length c, .slice B af.length d] 52).old (.cells #[.int .u8 mk, .int .u64 mt, .slice C cs.length c', .slice S sq.length d'] 48)).ext hb
        have hM : Blk w1 (w.heap.size + 1) #[.int .u8 mk, .int .u64 mt, .slice C cs.length c', .slice S sq.length d'] 48 := by
          have h0 : Blk ((w.alloc (.cells #[.int .u64 tx, .int .i64 tot, .int .i64 nth, .int .u8 k, .int .i64 tb, .slice A bf.length c, .slice B af.length d] 52)).alloc (.cells #[.int .u8 mk, .int .u64 mt, .slice C cs.length c', .slice S sq.length d'] 48)) (w.heap.size + 1) #[.int .u8 mk, .int .u64 mt, .slice C cs.length c', .slice S sq.length d'] 48 := (by repeat (first | exact Blk.at (by simp) | assumption | refine Blk.drew ?_ | refine Blk.old ?_ _))
          exact h0.ext hb
        have hC : Below w.heap.size w w1 := bt (by repeat (first | exact Below.refl _ _ | assumption | refine Below.drew ?_ | refine below_drewN ?_ _ | refine Below.alloc ?_ (by simp <;> omega) _)) hb
        clear hb HLG
        obtain ⟨_, z0, z1, z2, z3⟩ := mk4 hM
        clear hX hM
        go_wp2_with fail
        refine (HA.out _ hC).mono ?_
        rintro r w2 ⟨rfl, hb⟩
        have hC2 := bt hC hb
        clear hb HA hC
        go_wp2_with fail
        go_ret
        exact ⟨rfl, hC2⟩
      · have h3 : 16384 < s.size := by simpa [h1, h2] using h
        clear h
        go_enter Tryd.func12, Tryd.ntmps12
        go_wp2_with fail
        refine (HLG.out _ (by repeat (first | exact Below.refl _ _ | assumption | refine Below.drew ?_ | refine below_drewN ?_ _ | refine Below.alloc ?_ (by simp <;> omega) _))).mono ?_
        rintro r w1 ⟨rfl, hb⟩
        have hX := ((Blk.new w #[.int .u64 tx, .int .i64 tot, .int .i64 nth, .int .u8 k, .int .i64 tb, .slice A bf.length c, .slice B af.length d] 52).old (.cells #[.int .u8 mk, .int .u64 mt, .slice C cs.length c', .slice S sq.length d'] 48)).ext hb
        have hM : Blk w1 (w.heap.size + 1) #[.int .u8 mk, .int .u64 mt, .slice C cs.length c', .slice S sq.length d'] 48 := by
          have h0 : Blk ((w.alloc (.cells #[.int .u64 tx, .int .i64 tot, .int .i64 nth, .int .u8 k, .int .i64 tb, .slice A bf.length c, .slice B af.length d] 52)).alloc (.cells #[.int .u8 mk, .int .u64 mt, .slice C cs.length c', .slice S sq.length d'] 48)) (w.heap.size + 1) #[.int .u8 mk, .int .u64 mt, .slice C cs.length c', .slice S sq.length d'] 48 := (by repeat (first | exact Blk.at (by simp) | assumption | refine Blk.drew ?_ | refine Blk.old ?_ _))
          exact h0.ext hb
        have hC : Below w.heap.size w w1 := bt (by repeat (first | exact Below.refl _ _ | assumption | refine Below.drew ?_ | refine below_drewN ?_ _ | refine Below.alloc ?_ (by simp <;> omega) _)) hb
        clear hb HLG
        obtain ⟨_, z0, z1, z2, z3⟩ := mk4 hM
        clear hX hM
        go_wp2_with fail
        refine (HA.out _ hC).mono ?_
        rintro r w2 ⟨rfl, hb⟩
        have hC2 := bt hC hb
        clear hb HA hC
        go_wp2_with fail
        go_ret
        exact ⟨rfl, hC2⟩
  · clear h
    go_enter Tryd.func12, Tryd.ntmps12
    go_wp2_with fail
    refine (HLG.out _ (by repeat (first | exact Below.refl _ _ | assumption | refine Below.drew ?_ | refine below_drewN ?_ _ | refine Below.alloc ?_ (by simp <;> omega) _))).mono ?_
    rintro r w1 ⟨rfl, hb⟩
    have hX := ((Blk.new w #[.int .u64 tx, .int .i64 tot, .int .i64 nth, .int .u8 k, .int .i64 tb, .slice A bf.length c, .slice B af.length d] 52).old (.cells #[.int .u8 mk, .int .u64 mt, .slice C cs.length c', .slice S sq.length d'] 48)).ext hb
    have hM : Blk w1 (w.heap.size + 1) #[.int .u8 mk, .int .u64 mt, .slice C cs.length c', .slice S sq.length d'] 48 := by
      have h0 : Blk ((w.alloc (.cells #[.int .u64 tx, .int .i64 tot, .int .i64 nth, .int .u8 k, .int .i64 tb, .slice A bf.length c, .slice B af.length d] 52)).alloc (.cells #[.int .u8 mk, .int .u64 mt, .slice C cs.length c', .slice S sq.length d'] 48)) (w.heap.size + 1) #[.int .u8 mk, .int .u64 mt, .slice C cs.length c', .slice S sq.length d'] 48 := (by repeat (first | exact Blk.at (by simp) | assumption | refine Blk.drew ?_ | refine Blk.old ?_ _))
      exact h0.ext hb
    have hC : Below w.heap.size w w1 := bt (by repeat (first | exact Below.refl _ _ | assumption | refine Below.drew ?_ | refine below_drewN ?_ _ | refine Below.alloc ?_ (by simp <;> omega) _)) hb
    clear hb HLG
    obtain ⟨_, z0, z1, z2, z3⟩ := mk4 hM
    clear hX hM
    go_wp2_with fail
    refine (HA.out _ hC).mono ?_
    rintro r w2 ⟨rfl, hb⟩
    have hC2 := bt hC hb
    clear hb HA hC
    go_wp2_with fail
    go_ret
    exact ⟨rfl, hC2⟩
set_option maxRecDepth 100000 in
set_option maxHeartbeats 3200000 in
theorem evback_near (e : Ev) (A B : Option Addr) (c d : Nat) (m : Mk) (C S : Option Addr) (c' d' : Nat) (s : ByteArray) (w : World) (hT : Tabs w) (hwe : e.wf) (hl : VRow w A e.bf) (hm : VRow w B e.af)
    (hwm : m.wf) (hc : NRow .i64 w C m.cs) (hs : NRow .u64 w S m.sq) (h1 : m.cs.length ≤ 300) (h2 : m.sq.length ≤ 300) (hz : s.size ≤ 16384)
    (h : (decide (4000 < longN e.bf) || decide (4000 < longN e.af)) = false) :
    Calls Tryd.prog 12 #[.agg (evCells e (.slice A e.bf.length c) (.slice B e.af.length d)), .agg (mkCells m (.slice C m.cs.length c') (.slice S m.sq.length d')), .string s] w fun r w' => r = .returned (.bool true) ∧ Below w.heap.size w w' := by
  have HLG := Lib.hid (fun (W : World) (hW : Below w.heap.size w W) => long16_any e A B c d W (hl.ext hW) (hm.ext hW))
  rw [h] at HLG
  obtain ⟨g1, g2⟩ := Bool.or_eq_false_iff.1 h
  have l1 := longN_le (of_decide_eq_false g1)
  have l2 := longN_le (of_decide_eq_false g2)
  have HA := Lib.hid (fun (W : World) (hW : Below w.heap.size w W) => alive16 W (hT.ext hW))
  have HCE := Lib.hid (fun (W : World) (hW : Below w.heap.size w W) => copy16_any e A B c d W (hl.ext hW) (hm.ext hW) (by omega) (by omega))
  have HCM := Lib.hid (fun (W : World) (hW : Below w.heap.size w W) => copymark_any m C S c' d' W (hc.ext hW) (hs.ext hW))
  have HPE := Lib.hid (fun (A B : Option Addr) (c d : Nat) (W : World) (hW : Below w.heap.size w W) => evput_any e A B c d W (hT.ext hW) hwe)
  have HPM := Lib.hid (fun (C S : Option Addr) (c d : Nat) (W : World) => putmark_any m C S c d W hwm)
  have HSE := Lib.hid (fun (A2 B2 : Option Addr) (c2 d2 : Nat) (W : World) (hW : Below w.heap.size w W) => same16_self e A B A2 B2 c d c2 d2 W (hl.ext hW) (hm.ext hW))
  have HSM := Lib.hid (fun (C2 S2 : Option Addr) (c2 d2 : Nat) (W : World) (hW : Below w.heap.size w W) => samemark_self m C S C2 S2 c' d' c2 d2 W (hc.ext hW) (hs.ext hW))
  have HGE := Lib.hid (fun (W : World) (hW : Below w.heap.size w W) => (evget_any s W (by omega) (hT.ext hW)).mono fun _ _ h => h.data)
  have HGM := Lib.hid (fun (W : World) => (getmark_any s W (by omega)).mono fun _ _ h => h.data)
  obtain ⟨PS, PE, hP1, hP2⟩ := evback_put e A B w hT hwe hl hm
  obtain ⟨QS, QE, hQ1, hQ2⟩ := mkback_put m hwm h1 h2
  have hE2 := evback_got s w hT
  have hE1 := mkback_got s
  rw [hP1] at HPE
  rw [hQ1] at HPM
  generalize codeF (mkGet s.data.toList) = E1 at HGM hE1
  generalize codeF (evGet s.data.toList) = E2 at HGE hE2
  generalize (mkGet s.data.toList).getD mkZ = M at HGM hE1
  generalize (evGet s.data.toList).getD evZ = X at HGE hE2
  have HP2 := Lib.hid hP2
  have HQ2 := Lib.hid hQ2
  have HE2 := Lib.hid hE2
  have HE1 := Lib.hid hE1
  clear hT hl hm hc hs hwe hwm hP1 hQ1 hP2 hQ2 hE1 hE2 g1 g2 h
  unfold CopyPost at HCE
  unfold MCopyPost at HCM
  obtain ⟨tx, tot, nth, k, tb, bf, af⟩ := e
  obtain ⟨mk, mt, cs, sq⟩ := m
  obtain ⟨xtx, xtot, xnth, xk, xtb, xbf, xaf⟩ := X
  obtain ⟨km, tm, cm, sm⟩ := M
  simp only [mkCells, evCells] at HLG HCE HCM HPE HPM HSE HSM HE1 HE2 HP2 HQ2 HGE HGM l1 l2 h1 h2 ⊢
  go_enter Tryd.func12, Tryd.ntmps12
  go_wp2_with fail
  refine (HLG.out _ (by repeat (first | exact Below.refl _ _ | assumption | refine Below.drew ?_ | refine below_drewN ?_ _ | refine Below.alloc ?_ (by simp <;> omega) _))).mono ?_
  rintro r w1 ⟨rfl, hb⟩
  have hX := ((Blk.new w #[.int .u64 tx, .int .i64 tot, .int .i64 nth, .int .u8 k, .int .i64 tb, .slice A bf.length c, .slice B af.length d] 52).old (.cells #[.int .u8 mk, .int .u64 mt, .slice C cs.length c', .slice S sq.length d'] 48)).ext hb
  have hM : Blk w1 (w.heap.size + 1) #[.int .u8 mk, .int .u64 mt, .slice C cs.length c', .slice S sq.length d'] 48 := by
    have h0 : Blk ((w.alloc (.cells #[.int .u64 tx, .int .i64 tot, .int .i64 nth, .int .u8 k, .int .i64 tb, .slice A bf.length c, .slice B af.length d] 52)).alloc (.cells #[.int .u8 mk, .int .u64 mt, .slice C cs.length c', .slice S sq.length d'] 48)) (w.heap.size + 1) #[.int .u8 mk, .int .u64 mt, .slice C cs.length c', .slice S sq.length d'] 48 := (by repeat (first | exact Blk.at (by simp) | assumption | refine Blk.drew ?_ | refine Blk.old ?_ _))
    exact h0.ext hb
  have hC : Below w.heap.size w w1 := bt (by repeat (first | exact Below.refl _ _ | assumption | refine Below.drew ?_ | refine below_drewN ?_ _ | refine Below.alloc ?_ (by simp <;> omega) _)) hb
  clear hb HLG
  have HX := Lib.hid hX
  have HM := Lib.hid hM
  obtain ⟨y0, y1, y2, y3, y4, y5, y6⟩ := blk7 hX
  obtain ⟨_, z0, z1, z2, z3⟩ := mk4 hM
  clear hX hM
  go_wp2_with fail
  refine (HCE.out _ hC).mono ?_
  rintro r w2 ⟨A2, c2, B2, d2, rfl, hr1, hr2, hb⟩
  have HX2 := Lib.hid (HX.out.ext hb)
  have HM2 := Lib.hid (HM.out.ext hb)
  have hC2 := bt hC hb
  clear hb hC HX HM y0 y1 y2 y3 y4 y5 y6 z0 z1 z2 z3 HCE
  go_wp2_with fail
  refine (HPE.out _ _ _ _ _ hC2 hr1 hr2).mono ?_
  rintro r w3 ⟨rfl, hb⟩
  have HX := Lib.hid (HX2.out.ext hb)
  have HM := Lib.hid (HM2.out.ext hb)
  have HC := Lib.hid (bt hC2 hb)
  clear hb hC2 HX2 HM2 hr1 hr2 HPE
  go_upto_if 48 with fail
  go_cut [] (fun wx => Hid (Blk wx w.heap.size #[.int .u64 tx, .int .i64 tot, .int .i64 nth, .int .u8 k, .int .i64 tb, .slice A bf.length c, .slice B af.length d] 52) ∧ Hid (Blk wx (w.heap.size + 1) #[.int .u8 mk, .int .u64 mt, .slice C cs.length c', .slice S sq.length d'] 48) ∧ Hid (Below w.heap.size w wx))
  case first =>
    rcases HP2.out with ⟨rfl, hG⟩ | rfl
    · clear HP2
      go_wp2_with fail
      refine (hG.out _ HC.out).mono ?_
      rintro r w4 ⟨hb, A3, a3, B3, b3, rfl, r1, r2⟩
      have hX := HX.out.ext hb
      have HX1 := Lib.hid (hX.old (.cells #[.int .u64 tx, .int .i64 tot, .int .i64 nth, .int .u8 k, .int .i64 tb, .slice A3 bf.length a3, .slice B3 af.length b3] 52))
      have HM1 := Lib.hid ((HM.out.ext hb).old (.cells #[.int .u64 tx, .int .i64 tot, .int .i64 nth, .int .u8 k, .int .i64 tb, .slice A3 bf.length a3, .slice B3 af.length b3] 52))
      have hC4 := bt HC.out hb
      have lX := hX.lt
      obtain ⟨y0, y1, y2, y3, y4, y5, y6⟩ := blk7 hX
      clear hb hG HX HM hX HC
      go_wp2_with fail
      refine (HSE.out _ _ _ _ _ (bt hC4 (by repeat (first | exact Below.refl _ _ | assumption | refine Below.drew ?_ | refine below_drewN ?_ _ | refine Below.alloc ?_ (by simp <;> omega) _))) (r1.ext (by repeat (first | exact Below.refl _ _ | assumption | refine Below.drew ?_ | refine below_drewN ?_ _ | refine Below.alloc ?_ (by simp <;> omega) _))) (r2.ext (by repeat (first | exact Below.refl _ _ | assumption | refine Below.drew ?_ | refine below_drewN ?_ _ | refine Below.alloc ?_ (by simp <;> omega) _)))).mono ?_
      rintro r w5 ⟨rfl, hb⟩
      have HX := Lib.hid (HX1.out.ext hb)
      have HM := Lib.hid (HM1.out.ext hb)
      have HC : Hid (Below w.heap.size w w5) := bt (bt hC4 (by repeat (first | exact Below.refl _ _ | assumption | refine Below.drew ?_ | refine below_drewN ?_ _ | refine Below.alloc ?_ (by simp <;> omega) _))) hb
      clear hb HX1 HM1 hC4 r1 r2 y0 y1 y2 y3 y4 y5 y6 lX
      go_wp2_with fail
      go_meet
      exact ⟨HX, HM, HC⟩
    · clear HP2
      go_wp2_with fail
      go_meet
      exact ⟨HX, HM, HC⟩
  case rest =>
    clear HX HM HC HP2 HSE
    obtain ⟨HX, HM, HC⟩ := hcut
    obtain ⟨_, z0, z1, z2, z3⟩ := mk4 HM.out
    go_wp2_with fail
    refine (HCM.out _ HC.out).mono ?_
    rintro r w2 ⟨C2, c2, S2, d2, rfl, hr1, hr2, hb⟩
    have HM2 := Lib.hid (HM.out.ext hb)
    have hC2 := bt HC.out hb
    clear hb HC HX HM z0 z1 z2 z3 HCM
    go_wp2_with fail
    refine (HPM.out _ _ _ _ _ hr1 hr2).mono ?_
    rintro r w3 ⟨rfl, hb⟩
    have HM := Lib.hid (HM2.out.ext hb)
    have HC := Lib.hid (bt hC2 hb)
    clear hb hC2 HM2 hr1 hr2 HPM
    go_upto_if 69 with fail
    go_cut [] (fun wx => Hid (Below w.heap.size w wx))
    case first =>
      rcases HQ2.out with ⟨rfl, hG⟩ | rfl
      · clear HQ2
        go_wp2_with fail
        refine (hG.out _).mono ?_
        rintro r w4 ⟨hb, C3, c3, S3, d3, rfl, r1, r2⟩
        have hM := HM.out.ext hb
        have hC4 := bt HC.out hb
        have lX := hM.lt
        obtain ⟨_, z0, z1, z2, z3⟩ := mk4 hM
        clear hb hG HM hM HC
        go_wp2_with fail
        refine (HSM.out _ _ _ _ _ (bt hC4 (by repeat (first | exact Below.refl _ _ | assumption | refine Below.drew ?_ | refine below_drewN ?_ _ | refine Below.alloc ?_ (by simp <;> omega) _))) (r1.ext (by repeat (first | exact Below.refl _ _ | assumption | refine Below.drew ?_ | refine below_drewN ?_ _ | refine Below.alloc ?_ (by simp <;> omega) _))) (r2.ext (by repeat (first | exact Below.refl _ _ | assumption | refine Below.drew ?_ | refine below_drewN ?_ _ | refine Below.alloc ?_ (by simp <;> omega) _)))).mono ?_
        rintro r w5 ⟨rfl, hb⟩
        have HC : Hid (Below w.heap.size w w5) := bt (bt hC4 (by repeat (first | exact Below.refl _ _ | assumption | refine Below.drew ?_ | refine below_drewN ?_ _ | refine Below.alloc ?_ (by simp <;> omega) _))) hb
        clear hb hC4 r1 r2 z0 z1 z2 z3 lX
        go_wp2_with fail
        go_meet
        exact HC
      · clear HQ2
        go_wp2_with fail
        go_meet
        exact HC
    case rest =>
      clear HM HC HQ2 HSM
      have HC := hcut
      go_wp2_with fail
      refine (HGE.out _ HC.out).mono ?_
      rintro r w2 ⟨hb, A3, a3, B3, b3, rfl, r1, r2⟩
      have HC2 : Hid (Below w.heap.size w (w2.alloc (.cells #[.int .u64 xtx, .int .i64 xtot, .int .i64 xnth, .int .u8 xk, .int .i64 xtb, .slice A3 xbf.length a3, .slice B3 xaf.length b3] 52))) := bt (bt HC.out hb) (by repeat (first | exact Below.refl _ _ | assumption | refine Below.drew ?_ | refine below_drewN ?_ _ | refine Below.alloc ?_ (by simp <;> omega) _))
      have R1 := Lib.hid r1
      have R2 := Lib.hid r2
      clear hb HC HGE hcut r1 r2
      go_upto_if 89 with fail
      go_cut [] (fun wx => Hid (Below w.heap.size w wx))
      case first =>
        rcases HE2.out with ⟨rfl, hG⟩ | rfl
        · clear HE2
          go_wp2_with fail
          refine (hG.out _ _ _ _ _ HC2.out (R1.out.ext (by repeat (first | exact Below.refl _ _ | assumption | refine Below.drew ?_ | refine below_drewN ?_ _ | refine Below.alloc ?_ (by simp <;> omega) _))) (R2.out.ext (by repeat (first | exact Below.refl _ _ | assumption | refine Below.drew ?_ | refine below_drewN ?_ _ | refine Below.alloc ?_ (by simp <;> omega) _)))).mono ?_
          rintro r w4 ⟨rfl, hb⟩
          have HC : Hid (Below w.heap.size w w4) := bt HC2.out hb
          clear hb hG HC2 R1 R2
          go_wp2_with fail
          go_meet
          exact HC
        · clear HE2
          go_wp2_with fail
          go_meet
          exact HC2
      case rest =>
        clear HC2 HE2 R1 R2
        have HC := hcut
        go_wp2_with fail
        refine (HGM.out _).mono ?_
        rintro r w2 ⟨hb, A3, a3, B3, b3, rfl, r1, r2⟩
        have HC2 : Hid (Below w.heap.size w (w2.alloc (.cells #[.int .u8 km, .int .u64 tm, .slice A3 cm.length a3, .slice B3 sm.length b3] 48))) := bt (bt HC.out hb) (by repeat (first | exact Below.refl _ _ | assumption | refine Below.drew ?_ | refine below_drewN ?_ _ | refine Below.alloc ?_ (by simp <;> omega) _))
        have R1 := Lib.hid r1
        have R2 := Lib.hid r2
        clear hb HC HGM hcut r1 r2
        go_upto_if 108 with fail
        go_cut [] (fun wx => Hid (Below w.heap.size w wx))
        case first =>
          rcases HE1.out with ⟨rfl, hG⟩ | rfl
          · clear HE1
            go_wp2_with fail
            refine (hG.out _ _ _ _ _ (R1.out.ext (by repeat (first | exact Below.refl _ _ | assumption | refine Below.drew ?_ | refine below_drewN ?_ _ | refine Below.alloc ?_ (by simp <;> omega) _))) (R2.out.ext (by repeat (first | exact Below.refl _ _ | assumption | refine Below.drew ?_ | refine below_drewN ?_ _ | refine Below.alloc ?_ (by simp <;> omega) _)))).mono ?_
            rintro r w4 ⟨rfl, hb⟩
            have HC : Hid (Below w.heap.size w w4) := bt HC2.out hb
            clear hb hG HC2 R1 R2
            go_wp2_with fail
            go_meet
            exact HC
          · clear HE1
            go_wp2_with fail
            go_meet
            exact HC2
        case rest =>
          clear HC2 HE1 R1 R2
          go_wp2_with fail
          refine (HA.out _ hcut.out).mono ?_
          rintro r w2 ⟨rfl, hb⟩
          have hC2 := bt hcut.out hb
          clear hb hcut
          go_wp2_with fail
          go_ret
          exact ⟨rfl, hC2⟩
theorem evback_walk (e : Ev) (A B : Option Addr) (c d : Nat) (m : Mk) (C S : Option Addr) (c' d' : Nat) (s : ByteArray) (w : World) (hT : Tabs w) (hwe : e.wf) (hl : VRow w A e.bf) (hm : VRow w B e.af)
    (hwm : m.wf) (hc : NRow .i64 w C m.cs) (hs : NRow .u64 w S m.sq) (hz : s.size ≤ 140737488355328) :
    Calls Tryd.prog 12 #[.agg (evCells e (.slice A e.bf.length c) (.slice B e.af.length d)), .agg (mkCells m (.slice C m.cs.length c') (.slice S m.sq.length d')), .string s] w fun r w' => r = .returned (.bool true) ∧ Below w.heap.size w w' := by
  by_cases h : (decide (4000 < longN e.bf) || decide (4000 < longN e.af)) = true ∨ 300 < m.cs.length ∨ 300 < m.sq.length ∨ 16384 < s.size
  · exact evback_far e A B c d m C S c' d' s w hT hl hm hc.1 hs.1 hz h
  · simp only [not_or, Bool.not_eq_true] at h
    exact evback_near e A B c d m C S c' d' s w hT hwe hl hm hwm hc hs (by omega) (by omega) (by omega) h.1
end Go.Proofs.YtjdfodmialhakaaDoor
