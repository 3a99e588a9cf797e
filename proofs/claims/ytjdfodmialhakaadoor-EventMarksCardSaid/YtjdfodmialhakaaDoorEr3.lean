/- The statements' alive of events; the walk of EventPuts: whatever event comes in, it answers true. -/
import Derived.Test.YtjdfodmialhakaaDoorEv5
import Derived.Test.YtjdfodmialhakaaDoorMk3
import Derived.Test.YtjdfodmialhakaaDoorEr1
import Derived.Test.YtjdfodmialhakaaDoorEr2
namespace Go.Proofs.YtjdfodmialhakaaDoor
open Go.RowKit

theorem evget_any (s : ByteArray) (w : World) (hs : s.size ≤ 140737488355328) (hT : Tabs w) :
    Calls Tryd.prog 71 #[.string s] w (GetPost w (evGet s.data.toList)) := by
  by_cases h : s.size < 14
  · have e : evGet s.data.toList = none := by unfold evGet; rw [if_pos (by simpa using h)]
    rw [e]
    exact evget_short s w h
  · exact evget_long s w (by omega) hs hT
def mk0 : Mk := ⟨1, 5, [], [1]⟩
def ev0 : Ev := ⟨1, 0, 0, 3, 0, [⟨0, 0, 0, ⟨#[]⟩⟩], []⟩
theorem mk0_put : mkPutR mk0 = .tuple #[.string ⟨#[1, 5, 0, 0, 0, 0, 0, 0, 0, 1, 1, 0, 0, 0, 0, 0, 0, 0]⟩, .int .i64 0] := by kernel_rfl
theorem mk0_get : mkGet [1, 5, 0, 0, 0, 0, 0, 0, 0, 1, 1, 0, 0, 0, 0, 0, 0, 0] = some mk0 := by kernel_rfl
theorem ev0_put : evPutR ev0 = .tuple #[.string ⟨#[1, 0, 0, 0, 0, 0, 0, 0, 0, 0, 0, 0, 0, 3, 1, 0]⟩, .int .i64 0] := by kernel_rfl
theorem ev0_get : evGet [1, 0, 0, 0, 0, 0, 0, 0, 0, 0, 0, 0, 0, 3, 1, 0] = some ev0 := by kernel_rfl
theorem zero_ev : evB ⟨0, 0, 0, 0, 0, [], []⟩ = false := by kernel_rfl
theorem zero_mk : mkB ⟨0, 0, [], []⟩ = false := by kernel_rfl
theorem NRow.one {k : IntKind} {w : World} {b : Nat} {v : Int} {t : TypeId} (h : Blk w b #[.int k v] t) : NRow k w (some ⟨b, 0, none⟩) [v] := by
  refine ⟨by simp, fun _ => ⟨b, 0, rfl, h.lt, fun i x hi => ?_⟩⟩
  match i, hi with
  | 0, hi =>
    have : x = v := by simpa using hi.symm
    subst this
    exact h.cell 0
  | i + 1, hi => simp at hi
theorem VRow.one {w : World} {b : Nat} {v : V} {t : TypeId} (hw : v.wf) (h : Blk w b #[.int .u8 v.k, .int .i64 v.n, .int .u64 v.r, .string v.t] t) : VRow w (some ⟨b, 0, none⟩) [v] := by
  refine ⟨by simpa using hw, by simp, fun _ => ⟨b, 0, rfl, h.lt, fun i x hi => ?_⟩⟩
  match i, hi with
  | 0, hi =>
    have : x = v := by simpa using hi.symm
    subst this
    exact ⟨h.cell 0, h.cell 1, h.cell 2, h.cell 3⟩
  | i + 1, hi => simp at hi
set_option maxRecDepth 100000 in
set_option maxHeartbeats 800000 in
theorem alive16 (w : World) (hT : Tabs w) : Calls Tryd.prog 56 #[] w fun r w' => r = .returned (.bool true) ∧ Below w.heap.size w w' := by
  have HT := Lib.hid hT
  clear hT
  have HP := Lib.hid (fun (S : Option Addr) (d : Nat) (W : World) (hs : NRow .u64 W S [1]) => putmark_any mk0 none S 0 d W ⟨by decide, by decide, by decide, by decide⟩ (NRow.nil _ _ _) hs)
  rw [mk0_put] at HP
  have HG := Lib.hid (fun (W : World) => getmark_any ⟨#[1, 5, 0, 0, 0, 0, 0, 0, 0, 1, 1, 0, 0, 0, 0, 0, 0, 0]⟩ W (by decide))
  simp only [mk0_get] at HG
  have HE := Lib.hid (fun (A : Option Addr) (c : Nat) (W : World) (hW : Tabs W) (hl : VRow W A [⟨0, 0, 0, ⟨#[]⟩⟩]) => evput_any ev0 A none c 0 W hW ⟨by decide, by decide, by decide, by decide, by decide⟩ hl (VRow.nil_ _))
  rw [ev0_put] at HE
  have HH := Lib.hid (fun (W : World) (hW : Tabs W) => evget_any ⟨#[1, 0, 0, 0, 0, 0, 0, 0, 0, 0, 0, 0, 0, 3, 1, 0]⟩ W (by decide) hW)
  simp only [ev0_get] at HH
  have HI := Lib.hid (fun (W : World) => evget_short ⟨#[]⟩ W (by decide))
  have HC := Lib.hid (fun (W : World) (hW : Tabs W) => evcheck_any ⟨0, 0, 0, 0, 0, [], []⟩ none none 0 0 W hW (VRow.nil_ _) (VRow.nil_ _))
  rw [zero_ev, okE_f] at HC
  have HD := Lib.hid (fun (W : World) => ckmark_any ⟨0, 0, [], []⟩ none none 0 0 W ⟨by decide, by decide, by decide, by decide⟩ (NRow.nil _ _ _) (by simp))
  rw [zero_mk, okE_f] at HD
  simp only [mkCells, evCells, mk0, ev0, List.length_cons, List.length_nil, Nat.zero_add] at HP HE HC HD
  go_enter Tryd.func56, Tryd.ntmps56
  go_wp2_with fail
  refine (HP.out _ _ _ (NRow.one (t := 22) (by repeat (first | exact Blk.at (by simp) | assumption | refine Blk.drew ?_ | refine Blk.old ?_ _)))).mono ?_
  rintro r w1 ⟨rfl, hb1⟩
  have hC1 : Below w.heap.size w w1 := bt (by repeat (first | exact Below.refl _ _ | assumption | refine Below.drew ?_ | refine below_drewN ?_ _ | refine Below.alloc ?_ (by simp <;> omega) _)) hb1
  clear hb1 HP
  go_wp2_with fail
  refine (HG.out _).mono ?_
  rintro r w2 ⟨hb2, C, c, S, d, rfl, _, _⟩
  have hC2 := bt hC1 hb2
  simp only [mkCells, mk0, List.length_cons, List.length_nil, Nat.zero_add]
  clear hb2 HG hC1
  go_wp2_with fail
  have hB3 : Below w.heap.size w ((w2.alloc (.cells #[.int .u8 1, .int .u64 5, .slice C 0 c, .slice S 1 d] 48)).alloc (.cells #[.int .u8 0, .int .i64 0, .int .u64 0, .string ⟨#[]⟩] 24)) := bt hC2 (by repeat (first | exact Below.refl _ _ | assumption | refine Below.drew ?_ | refine below_drewN ?_ _ | refine Below.alloc ?_ (by simp <;> omega) _))
  have hM3 : Blk ((w2.alloc (.cells #[.int .u8 1, .int .u64 5, .slice C 0 c, .slice S 1 d] 48)).alloc (.cells #[.int .u8 0, .int .i64 0, .int .u64 0, .string ⟨#[]⟩] 24)) w2.heap.size #[.int .u8 1, .int .u64 5, .slice C 0 c, .slice S 1 d] 48 := (by repeat (first | exact Blk.at (by simp) | assumption | refine Blk.drew ?_ | refine Blk.old ?_ _))
  refine (HE.out _ _ _ (HT.out.ext hB3) (VRow.one (v := ⟨0, 0, 0, ⟨#[]⟩⟩) (t := 24) (by unfold V.wf; decide) (by repeat (first | exact Blk.at (by simp) | assumption | refine Blk.drew ?_ | refine Blk.old ?_ _)))).mono ?_
  rintro r w3 ⟨rfl, hb3⟩
  have hC3 := bt hB3 hb3
  have HM3 := Lib.hid (hM3.ext hb3)
  clear hb3 hB3 hM3 HE hC2
  go_wp2_with fail
  refine (HH.out _ (HT.out.ext hC3)).mono ?_
  rintro r w4 ⟨hb4, A, a, B, b, rfl, _, _⟩
  simp only [evCells, ev0, List.length_cons, List.length_nil, Nat.zero_add]
  have hC4 := bt hC3 hb4
  have HM4 := Lib.hid (HM3.out.ext hb4)
  clear hb4 hC3 HM3 HH
  go_wp2_with fail
  refine (HI.out _).mono ?_
  rintro r w5 ⟨hb5, rfl⟩
  have hB5 : Below w.heap.size w (w4.alloc (.cells #[.int .u64 1, .int .i64 0, .int .i64 0, .int .u8 3, .int .i64 0, .slice A 1 a, .slice B 0 b] 52)) := bt hC4 (by repeat (first | exact Below.refl _ _ | assumption | refine Below.drew ?_ | refine below_drewN ?_ _ | refine Below.alloc ?_ (by simp <;> omega) _))
  have hX5 := (Blk.new w4 #[.int .u64 1, .int .i64 0, .int .i64 0, .int .u8 3, .int .i64 0, .slice A 1 a, .slice B 0 b] 52).ext hb5
  have hM5 := (HM4.out.old (.cells #[.int .u64 1, .int .i64 0, .int .i64 0, .int .u8 3, .int .i64 0, .slice A 1 a, .slice B 0 b] 52)).ext hb5
  have hC5 := bt hB5 hb5
  simp only [evCells]
  obtain ⟨_, u0, u1, u2, u3⟩ := mk4 hM5
  obtain ⟨y0, y1, y2, y3, y4, y5, y6⟩ := blk7 hX5
  have lM := hM5.lt
  have lX := hX5.lt
  clear hb5 hB5 hM5 hX5 HM4 hC4 HI
  go_wp2_with fail
  refine (HC.out _ (HT.out.ext (bt hC5 (by repeat (first | exact Below.refl _ _ | assumption | refine Below.drew ?_ | refine below_drewN ?_ _ | refine Below.alloc ?_ (by simp <;> omega) _))))).mono ?_
  rintro r w6 ⟨rfl, hb6⟩
  have hC6 : Below w.heap.size w w6 := bt (bt hC5 (by repeat (first | exact Below.refl _ _ | assumption | refine Below.drew ?_ | refine below_drewN ?_ _ | refine Below.alloc ?_ (by simp <;> omega) _))) hb6
  clear hb6 HC hC5
  go_wp2_with fail
  refine (HD.out _).mono ?_
  rintro r w7 ⟨rfl, hb7⟩
  have hC7 : Below w.heap.size w w7 := bt hC6 hb7
  clear hb7 HD hC6
  go_wp2_with fail
  go_ret
  exact ⟨rfl, hC7⟩
theorem longN_le {l : List V} (h : ¬ 4000 < longN l) : l.length ≤ 4000 := by
  unfold longN at h
  have h2 : ∀ m : List V, 0 ≤ (m.map fun v => (v.t.size : Int) / 8).sum := by
    intro m
    induction m with
    | nil => simp
    | cons v m ih => simp only [List.map_cons, List.sum_cons]; omega
  have := h2 (l.take 100)
  omega
theorem evL_length {e : Ev} (h : evB e = true) : (evL e).length ≤ 1664 := by
  have hg : evG e = true := by unfold evB at h; exact (Bool.and_eq_true_iff.1 h).1
  have hr : evR e = true := by unfold evB at h; exact (Bool.and_eq_true_iff.1 h).2
  rw [evR_has e hg] at hr
  obtain ⟨hr1, hr2⟩ := Bool.and_eq_true_iff.1 hr
  have h1 : (evH e).length = 14 := by simp [evH, numL_length]
  obtain ⟨c1, c2, _⟩ := of_decide_eq_true hg
  unfold evL evRows
  have hk : e.k = 1 ∨ e.k = 2 ∨ e.k = 3 ∨ e.k = 4 := by omega
  have p1 : rowB e.bf = true → (putRowL e.bf).length ≤ 825 := putRowL_length
  have p2 : rowB e.af = true → (putRowL e.af).length ≤ 825 := putRowL_length
  rcases hk with hk | hk | hk | hk <;> rw [hk] at hr1 hr2 ⊢ <;> simp [hasB, hasA, rowM] at hr1 hr2 ⊢ <;> simp [hr1, hr2] at p1 p2 <;> omega
theorem evput_no_ {e : Ev} (h : evB e = false) : evPutR e = .tuple #[.string ⟨#[]⟩, .int .i64 2] := by unfold evPutR; rw [h]; rfl
theorem evput_yes_ {e : Ev} (h : evB e = true) : evPutR e = .tuple #[.string ⟨(evL e).toArray⟩, .int .i64 0] := by unfold evPutR; rw [h]; rfl
set_option maxRecDepth 100000 in
set_option maxHeartbeats 800000 in
theorem evputs_walk (e : Ev) (A B : Option Addr) (c d : Nat) (w : World) (hT : Tabs w) (hw : e.wf) (hl : VRow w A e.bf) (hm : VRow w B e.af) :
    Calls Tryd.prog 10 #[.agg (evCells e (.slice A e.bf.length c) (.slice B e.af.length d))] w fun r w' => r = .returned (.bool true) ∧ Below w.heap.size w w' := by
  have HT := Lib.hid hT
  have b1 := hl.2.1
  have b2 := hm.2.1
  have HLG := Lib.hid (fun (W : World) (hW : Below w.heap.size w W) => long16_any e A B c d W (hl.ext hW) (hm.ext hW))
  cases hlg : (decide (4000 < longN e.bf) || decide (4000 < longN e.af))
  · rw [hlg] at HLG
    obtain ⟨g1, g2⟩ := Bool.or_eq_false_iff.1 hlg
    have l1 := longN_le (of_decide_eq_false g1)
    have l2 := longN_le (of_decide_eq_false g2)
    clear hlg g1 g2
    have HCP := Lib.hid (fun (W : World) (hW : Below w.heap.size w W) => copy16_any e A B c d W (hl.ext hW) (hm.ext hW) (by omega) (by omega))
    have HCK := Lib.hid (fun (A B : Option Addr) (c d : Nat) (W : World) (hW : Below w.heap.size w W) => evcheck_any e A B c d W (hT.ext hW))
    have HPT := Lib.hid (fun (A B : Option Addr) (c d : Nat) (W : World) (hW : Below w.heap.size w W) => evput_any e A B c d W (hT.ext hW) hw)
    have HSM := Lib.hid (fun (A B A2 B2 : Option Addr) (c d c2 d2 : Nat) (W : World) => same16_self e A B A2 B2 c d c2 d2 W)
    have HMY := Lib.hid (fun (W : World) (hW : Below w.heap.size w W) => refmay_any16 e A B c d W (hT.ext hW) (hl.ext hW) (hm.ext hW))
    have HRP := Lib.hid (fun (hb : evB e = true) (W : World) (hW : Below w.heap.size w W) => refput_any16 e A B c d W (hl.ext hW) (hm.ext hW) hw hb)
    have HL := Lib.hid hl
    have HM := Lib.hid hm
    have HLN := Lib.hid (fun h => evL_length (e := e) h)
    have HPN := Lib.hid (fun h => evput_no_ (e := e) h)
    have HPY := Lib.hid (fun h => evput_yes_ (e := e) h)
    clear hl hm hT
    unfold CopyPost at HCP
    generalize hEB : evB e = EB at HCK HMY HRP HLN HPN HPY
    generalize evPutR e = PR at HPT HPN HPY
    generalize evL e = EL at HRP HLN HPY
    clear hEB hw
    obtain ⟨tx, tot, nth, k, tb, bf, af⟩ := e
    simp only [evCells] at b1 b2 HLG l1 l2 HCP HCK HPT HSM HMY HRP HL HM ⊢
    go_enter Tryd.func10, Tryd.ntmps10
    go_wp2_with fail
    refine (HLG.out _ (by repeat (first | exact Below.refl _ _ | assumption | refine Below.drew ?_ | refine below_drewN ?_ _ | refine Below.alloc ?_ (by simp <;> omega) _))).mono ?_
    rintro r w1 ⟨rfl, hb1⟩
    have hX1 := (Blk.new w #[.int .u64 tx, .int .i64 tot, .int .i64 nth, .int .u8 k, .int .i64 tb, .slice A bf.length c, .slice B af.length d] 52).ext hb1
    have hC1 : Below w.heap.size w w1 := bt (by repeat (first | exact Below.refl _ _ | assumption | refine Below.drew ?_ | refine below_drewN ?_ _ | refine Below.alloc ?_ (by simp <;> omega) _)) hb1
    obtain ⟨y0, y1, y2, y3, y4, y5, y6⟩ := blk7 hX1
    have HX1 := Lib.hid hX1
    clear hb1 HLG hX1
    go_wp2_with fail
    refine (HCP.out _ hC1).mono ?_
    rintro r w2 ⟨A2, c2, B2, d2, rfl, hr1, hr2, hb2⟩
    have hC2 := bt hC1 hb2
    have hX2 := HX1.out.ext hb2
    clear hb2 HCP HX1 hC1 y0 y1 y2 y3 y4 y5 y6
    go_wp2_with fail
    have hB3 : Below w2.heap.size w2 (w2.alloc (.cells #[.int .u64 tx, .int .i64 tot, .int .i64 nth, .int .u8 k, .int .i64 tb, .slice A2 bf.length c2, .slice B2 af.length d2] 52)) := (by repeat (first | exact Below.refl _ _ | assumption | refine Below.drew ?_ | refine below_drewN ?_ _ | refine Below.alloc ?_ (by simp <;> omega) _))
    have hO3 := Blk.new w2 #[.int .u64 tx, .int .i64 tot, .int .i64 nth, .int .u8 k, .int .i64 tb, .slice A2 bf.length c2, .slice B2 af.length d2] 52
    have hX3 := hX2.ext hB3
    have hC3 := bt hC2 hB3
    have hr13 := hr1.ext hB3
    have hr23 := hr2.ext hB3
    generalize w2.alloc (.cells #[.int .u64 tx, .int .i64 tot, .int .i64 nth, .int .u8 k, .int .i64 tb, .slice A2 bf.length c2, .slice B2 af.length d2] 52) = W3 at hO3 hX3 hC3 hr13 hr23 ⊢
    generalize w2.heap.size = ob at hO3 ⊢
    clear hB3 hr1 hr2 hX2 hC2
    refine (HCK.out _ _ _ _ _ hC3 hr13 hr23).mono ?_
    rintro r w4 ⟨rfl, hb4⟩
    have hC4 := bt hC3 hb4
    have hO4 := hO3.ext hb4
    have HX4 := Lib.hid (hX3.ext hb4)
    have hr14 := hr13.ext hb4
    have hr24 := hr23.ext hb4
    obtain ⟨y0, y1, y2, y3, y4, y5, y6⟩ := blk7 hO4
    have HO4 := Lib.hid hO4
    have HR14 := Lib.hid hr14
    have HR24 := Lib.hid hr24
    clear hb4 hO3 hX3 hC3 hr13 hr23 hO4 hr14 hr24 HCK
    go_wp2_with fail
    refine (HPT.out _ _ _ _ _ hC4 HR14.out HR24.out).mono ?_
    rintro r w5 ⟨rfl, hb5⟩
    have hC5 := bt hC4 hb5
    have HR15 := Lib.hid (HR14.out.ext hb5)
    have HR25 := Lib.hid (HR24.out.ext hb5)
    have HX5 := Lib.hid (HX4.out.ext hb5)
    clear y0 y1 y2 y3 y4 y5 y6
    obtain ⟨y0, y1, y2, y3, y4, y5, y6⟩ := blk7 (HO4.out.ext hb5)
    obtain ⟨x0, x1, x2, x3, x4, x5, x6⟩ := blk7 HX5.out
    clear hb5 HO4 HX4 HR14 HR24 hC4 HPT
    cases EB
    · have e := HPN.out rfl
      subst e
      rw [okE_f]
      go_wp2_with fail
      refine (HSM.out _ _ _ _ _ _ _ _ _ HR15.out HR25.out (HL.out.ext hC5) (HM.out.ext hC5)).mono ?_
      rintro r w6 ⟨rfl, hb6⟩
      have hC6 := bt hC5 hb6
      clear x0 x1 x2 x3 x4 x5 x6 y0 y1 y2 y3 y4 y5 y6
      obtain ⟨x0, x1, x2, x3, x4, x5, x6⟩ := blk7 (HX5.out.ext hb6)
      clear hb6 hC5 HSM
      go_wp2_with fail
      refine (HMY.out _ hC6).mono ?_
      rintro r w7 ⟨rfl, hb7⟩
      have hC7 := bt hC6 hb7
      clear hb7 hC6 x0 x1 x2 x3 x4 x5 x6
      go_wp2_with fail
      refine (alive16 _ (HT.out.ext hC7)).mono ?_
      rintro r w8 ⟨rfl, hb8⟩
      have hC8 := bt hC7 hb8
      clear hb8 hC7
      go_wp2_with fail
      go_ret
      exact ⟨rfl, hC8⟩
    · have e := HPY.out rfl
      subst e
      rw [okE_t]
      have hRP := HRP.out rfl
      have hLN := HLN.out rfl
      obtain ⟨Eb, hEb⟩ : ∃ q : ByteArray, q = ⟨EL.toArray⟩ := ⟨_, rfl⟩
      have hEz : Eb.size ≤ 1664 := by rw [hEb]; simpa [ByteArray.size] using hLN
      rw [← hEb] at hRP ⊢
      have HRQ := Lib.hid hRP
      clear hRP hLN hEb
      go_wp2_with fail
      refine (HSM.out _ _ _ _ _ _ _ _ _ HR15.out HR25.out (HL.out.ext hC5) (HM.out.ext hC5)).mono ?_
      rintro r w6 ⟨rfl, hb6⟩
      have hC6 := bt hC5 hb6
      clear x0 x1 x2 x3 x4 x5 x6 y0 y1 y2 y3 y4 y5 y6
      have HX6 := Lib.hid (HX5.out.ext hb6)
      obtain ⟨x0, x1, x2, x3, x4, x5, x6⟩ := blk7 HX6.out
      clear hb6 hC5 HSM
      go_wp2_with fail
      refine (HMY.out _ hC6).mono ?_
      rintro r w7 ⟨rfl, hb7⟩
      have hC7 := bt hC6 hb7
      clear x0 x1 x2 x3 x4 x5 x6
      obtain ⟨x0, x1, x2, x3, x4, x5, x6⟩ := blk7 (HX6.out.ext hb7)
      clear hb7 hC6
      go_wp2_with fail
      refine (HRQ.out _ hC7).mono ?_
      rintro r w8 ⟨rfl, hb8⟩
      have hC8 := bt hC7 hb8
      clear hb8 hC7 x0 x1 x2 x3 x4 x5 x6
      go_wp2_with fail
      refine (alive16 _ (HT.out.ext hC8)).mono ?_
      rintro r w9 ⟨rfl, hb9⟩
      have hC9 := bt hC8 hb9
      clear hb9 hC8
      go_wp2_with fail
      go_ret
      exact ⟨rfl, hC9⟩
  · rw [hlg] at HLG
    have HA := Lib.hid (fun (W : World) (hW : Below w.heap.size w W) => alive16 W (hT.ext hW))
    clear hlg hl hm hT hw
    obtain ⟨tx, tot, nth, k, tb, bf, af⟩ := e
    simp only [evCells] at b1 b2 HLG ⊢
    go_enter Tryd.func10, Tryd.ntmps10
    go_wp2_with fail
    refine (HLG.out _ (by repeat (first | exact Below.refl _ _ | assumption | refine Below.drew ?_ | refine below_drewN ?_ _ | refine Below.alloc ?_ (by simp <;> omega) _))).mono ?_
    rintro r w1 ⟨rfl, hb1⟩
    have hC1 : Below w.heap.size w w1 := bt (by repeat (first | exact Below.refl _ _ | assumption | refine Below.drew ?_ | refine below_drewN ?_ _ | refine Below.alloc ?_ (by simp <;> omega) _)) hb1
    clear hb1 HLG
    go_wp2_with fail
    refine (HA.out _ hC1).mono ?_
    rintro r w2 ⟨rfl, hb2⟩
    have hC2 := bt hC1 hb2
    clear hb2 HA hC1
    go_wp2_with fail
    go_ret
    exact ⟨rfl, hC2⟩
end Go.Proofs.YtjdfodmialhakaaDoor
