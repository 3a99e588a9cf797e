/- The walk of EventMarks: whatever mark and text come in, it answers true. -/
import Derived.Test.YtjdfodmialhakaaDoorEr5
import Derived.Test.YtjdfodmialhakaaDoorEr6
namespace Go.Proofs.YtjdfodmialhakaaDoor
open Go.RowKit

/-- What a reading of a mark gives, told as data. -/
def MD (km tm : Int) (cm sm : List Int) (E : Int) (w : World) (r : Ending) (w' : World) : Prop :=
  Below w.heap.size w w' ∧ ∃ C c S d, r = .returned (.tuple #[.agg #[.int .u8 km, .int .u64 tm, .slice C cm.length c, .slice S sm.length d], .int .i64 E]) ∧ NRow .i64 w' C cm ∧ NRow .u64 w' S sm
def ED (tx tot nth k tb : Int) (bf af : List V) (E : Int) (w : World) (r : Ending) (w' : World) : Prop :=
  Below w.heap.size w w' ∧ ∃ A a B b, r = .returned (.tuple #[.agg #[.int .u64 tx, .int .i64 tot, .int .i64 nth, .int .u8 k, .int .i64 tb, .slice A bf.length a, .slice B af.length b], .int .i64 E]) ∧ VRow w' A bf ∧ VRow w' B af
def mkZ : Mk := ⟨0, 0, [], []⟩
def evZ : Ev := ⟨0, 0, 0, 0, 0, [], []⟩
def codeF {α : Type} (R : Option α) : Int := if R.isSome then 0 else 7
theorem MkPost.data {w w' : World} {R : Option Mk} {r : Ending} (h : MkPost w R r w') : MD (R.getD mkZ).k (R.getD mkZ).tx (R.getD mkZ).cs (R.getD mkZ).sq (codeF R) w r w' := by
  obtain ⟨h1, h2⟩ := h
  refine ⟨h1, ?_⟩
  cases R with
  | none => exact ⟨none, 0, none, 0, h2, NRow.nil _ _ _, NRow.nil _ _ _⟩
  | some m =>
    obtain ⟨C, c, S, d, h3, h4, h5⟩ := h2
    exact ⟨C, c, S, d, h3, h4, h5⟩
theorem GetPost.data {w w' : World} {R : Option Ev} {r : Ending} (h : GetPost w R r w') : ED (R.getD evZ).tx (R.getD evZ).tot (R.getD evZ).nth (R.getD evZ).k (R.getD evZ).tb (R.getD evZ).bf (R.getD evZ).af (codeF R) w r w' := by
  obtain ⟨h1, h2⟩ := h
  refine ⟨h1, ?_⟩
  cases R with
  | none => exact ⟨none, 0, none, 0, h2, VRow.nil_ _, VRow.nil_ _⟩
  | some m =>
    obtain ⟨C, c, S, d, h3, h4, h5⟩ := h2
    exact ⟨C, c, S, d, h3, h4, h5⟩
set_option maxRecDepth 100000 in
theorem evmarks_far (m : Mk) (C S : Option Addr) (c d : Nat) (s : ByteArray) (w : World) (hT : Tabs w) (hc : m.cs.length ≤ 17592186044416) (hs : m.sq.length ≤ 17592186044416) (hz : s.size ≤ 140737488355328)
    (h : 300 < m.cs.length ∨ 300 < m.sq.length ∨ 16384 < s.size) :
    Calls Tryd.prog 11 #[.agg (mkCells m (.slice C m.cs.length c) (.slice S m.sq.length d)), .string s] w fun r w' => r = .returned (.bool true) ∧ Below w.heap.size w w' := by
  have HA := Lib.hid (fun (W : World) (hW : Below w.heap.size w W) => alive16 W (hT.ext hW))
  clear hT
  obtain ⟨k, tx, cs, sq⟩ := m
  simp only [mkCells] at hc hs h ⊢
  by_cases h1 : 300 < cs.length
  · clear h
    go_enter Tryd.func11, Tryd.ntmps11
    go_wp2_with fail
    refine (HA.out _ (by repeat (first | exact Below.refl _ _ | assumption | refine Below.drew ?_ | refine below_drewN ?_ _ | refine Below.alloc ?_ (by simp <;> omega) _))).mono ?_
    rintro r w2 ⟨rfl, hb2⟩
    have hC2 : Below w.heap.size w w2 := bt (by repeat (first | exact Below.refl _ _ | assumption | refine Below.drew ?_ | refine below_drewN ?_ _ | refine Below.alloc ?_ (by simp <;> omega) _)) hb2
    clear hb2 HA
    go_wp2_with fail
    go_ret
    exact ⟨rfl, hC2⟩
  · by_cases h2 : 300 < sq.length
    · clear h
      go_enter Tryd.func11, Tryd.ntmps11
      go_wp2_with fail
      refine (HA.out _ (by repeat (first | exact Below.refl _ _ | assumption | refine Below.drew ?_ | refine below_drewN ?_ _ | refine Below.alloc ?_ (by simp <;> omega) _))).mono ?_
      rintro r w2 ⟨rfl, hb2⟩
      have hC2 : Below w.heap.size w w2 := bt (by repeat (first | exact Below.refl _ _ | assumption | refine Below.drew ?_ | refine below_drewN ?_ _ | refine Below.alloc ?_ (by simp <;> omega) _)) hb2
      clear hb2 HA
      go_wp2_with fail
      go_ret
      exact ⟨rfl, hC2⟩
    · have h3 : 16384 < s.size := by omega
      clear h
      go_enter Tryd.func11, Tryd.ntmps11
      go_wp2_with fail
      refine (HA.out _ (by repeat (first | exact Below.refl _ _ | assumption | refine Below.drew ?_ | refine below_drewN ?_ _ | refine Below.alloc ?_ (by simp <;> omega) _))).mono ?_
      rintro r w2 ⟨rfl, hb2⟩
      have hC2 : Below w.heap.size w w2 := bt (by repeat (first | exact Below.refl _ _ | assumption | refine Below.drew ?_ | refine below_drewN ?_ _ | refine Below.alloc ?_ (by simp <;> omega) _)) hb2
      clear hb2 HA
      go_wp2_with fail
      go_ret
      exact ⟨rfl, hC2⟩
set_option maxRecDepth 100000 in
set_option maxHeartbeats 1600000 in
theorem evmarks_near (m : Mk) (C S : Option Addr) (c d : Nat) (s : ByteArray) (w : World) (hT : Tabs w) (hw : m.wf) (hc : NRow .i64 w C m.cs) (hs : NRow .u64 w S m.sq)
    (h1 : m.cs.length ≤ 300) (h2 : m.sq.length ≤ 300) (hz : s.size ≤ 16384) :
    Calls Tryd.prog 11 #[.agg (mkCells m (.slice C m.cs.length c) (.slice S m.sq.length d)), .string s] w fun r w' => r = .returned (.bool true) ∧ Below w.heap.size w w' := by
  have HT := Lib.hid hT
  have HCP := Lib.hid (fun (W : World) (hW : Below w.heap.size w W) => copymark_any m C S c d W (hc.ext hW) (hs.ext hW))
  have HCK := Lib.hid (fun (C S : Option Addr) (c d : Nat) (W : World) (hc : NRow .i64 W C m.cs) => ckmark_any m C S c d W hw hc hs.1)
  have HPT := Lib.hid (fun (C S : Option Addr) (c d : Nat) (W : World) => putmark_any m C S c d W hw)
  have HSM := Lib.hid (fun (C S C2 S2 : Option Addr) (c d c2 d2 : Nat) (W : World) => samemark_self m C S C2 S2 c d c2 d2 W)
  have HMY := Lib.hid (fun (W : World) (hW : Below w.heap.size w W) => maymark_any m C S c d W hw (hc.ext hW) hs.1)
  have HRP := Lib.hid (fun (hb : mkB m = true) (W : World) (hW : Below w.heap.size w W) => refputmark m C S c d W hw (hc.ext hW) (hs.ext hW) hb)
  have HC := Lib.hid hc
  have HS := Lib.hid hs
  have HGM := Lib.hid (fun (W : World) => (getmark_any s W (by omega)).mono fun _ _ h => h.data)
  have HRM := Lib.hid (fun (W : World) => (refgetmark_any s W (by omega)).mono fun _ _ h => h.data)
  have HGE := Lib.hid (fun (W : World) (hW : Tabs W) => (evget_any s W (by omega) hW).mono fun _ _ h => h.data)
  have HRE := Lib.hid (fun (W : World) (hW : Tabs W) => (refget16_any s W (by omega) hW).mono fun _ _ h => h.data)
  generalize codeF (mkGet s.data.toList) = E1 at HGM HRM
  generalize codeF (evGet s.data.toList) = E2 at HGE HRE
  generalize (mkGet s.data.toList).getD mkZ = M at HGM HRM
  generalize (evGet s.data.toList).getD evZ = X at HGE HRE
  obtain ⟨km, tm, cm, sm⟩ := M
  obtain ⟨tx, tot, nth, k, tb, bf, af⟩ := X
  have HSMM := Lib.hid (fun (C S C2 S2 : Option Addr) (c d c2 d2 : Nat) (W : World) => samemark_self ⟨km, tm, cm, sm⟩ C S C2 S2 c d c2 d2 W)
  have HSME := Lib.hid (fun (A B A2 B2 : Option Addr) (c d c2 d2 : Nat) (W : World) => same16_self ⟨tx, tot, nth, k, tb, bf, af⟩ A B A2 B2 c d c2 d2 W)
  clear hT hc hs hw
  unfold MCopyPost at HCP
  unfold mkPutR at HPT
  cases hEB : mkB m
  all_goals
    rw [hEB] at HCK HMY HPT
    first | rw [okE_f] at HCK HPT | rw [okE_t] at HCK HPT
    first | rw [if_pos rfl] at HPT | rw [if_neg (by decide)] at HPT
    first | have hRP := HRP.out hEB | skip
    clear hEB HRP
    obtain ⟨km', tm', cs, sq⟩ := m
    simp only [mkCells, evCells] at h1 h2 HCP HCK HPT HSM HMY HC HS HSMM HSME ⊢
  · go_enter Tryd.func11, Tryd.ntmps11
    go_wp2_with fail
    refine (HCP.out _ (by repeat (first | exact Below.refl _ _ | assumption | refine Below.drew ?_ | refine below_drewN ?_ _ | refine Below.alloc ?_ (by simp <;> omega) _))).mono ?_
    rintro r w1 ⟨C2, c2, S2, d2, rfl, hr1, hr2, hb⟩
    have hX1 := (Blk.new w #[.int .u8 km', .int .u64 tm', .slice C cs.length c, .slice S sq.length d] 48).ext hb
    have hC1 : Below w.heap.size w w1 := bt (by repeat (first | exact Below.refl _ _ | assumption | refine Below.drew ?_ | refine below_drewN ?_ _ | refine Below.alloc ?_ (by simp <;> omega) _)) hb
    clear hb HCP
    go_wp2_with fail
    refine (HCK.out _ _ _ _ _ (hr1.ext (by repeat (first | exact Below.refl _ _ | assumption | refine Below.drew ?_ | refine below_drewN ?_ _ | refine Below.alloc ?_ (by simp <;> omega) _)))).mono ?_
    rintro r w2 ⟨rfl, hb⟩
    have hO := (Blk.new w1 #[.int .u8 km', .int .u64 tm', .slice C2 cs.length c2, .slice S2 sq.length d2] 48).ext hb
    have hX2 := (hX1.old _).ext hb
    have hr1' := (hr1.ext (by repeat (first | exact Below.refl _ _ | assumption | refine Below.drew ?_ | refine below_drewN ?_ _ | refine Below.alloc ?_ (by simp <;> omega) _))).ext hb
    have hr2' := (hr2.ext (by repeat (first | exact Below.refl _ _ | assumption | refine Below.drew ?_ | refine below_drewN ?_ _ | refine Below.alloc ?_ (by simp <;> omega) _))).ext hb
    have hC2 : Below w.heap.size w w2 := bt (bt hC1 (by repeat (first | exact Below.refl _ _ | assumption | refine Below.drew ?_ | refine below_drewN ?_ _ | refine Below.alloc ?_ (by simp <;> omega) _))) hb
    clear hb hC1 hX1 hr1 hr2 HCK
    obtain ⟨_, y0, y1, y2, y3⟩ := mk4 hO
    go_wp2_with fail
    refine (HPT.out _ _ _ _ _ hr1' hr2').mono ?_
    rintro r w3 ⟨rfl, hb⟩
    have hO3 := hO.ext hb
    have hX3 := hX2.ext hb
    have hr1 := hr1'.ext hb
    have hr2 := hr2'.ext hb
    have hC3 := bt hC2 hb
    clear hb hC2 hX2 hO hr1' hr2' y0 y1 y2 y3
    obtain ⟨_, y0, y1, y2, y3⟩ := mk4 hO3
    obtain ⟨_, z0, z1, z2, z3⟩ := mk4 hX3
    have HX3 := Lib.hid hX3
    clear hX3 hO3
    go_wp2_with fail
    refine (HSM.out _ _ _ _ _ _ _ _ _ hr1 hr2 (HC.out.ext hC3) (HS.out.ext hC3)).mono ?_
    rintro r w4 ⟨rfl, hb⟩
    have hX4 := HX3.out.ext hb
    have hC4 := bt hC3 hb
    clear hb hC3 HX3 hr1 hr2 y0 y1 y2 y3 z0 z1 z2 z3
    obtain ⟨_, y0, y1, y2, y3⟩ := mk4 hX4
    have HX1 := Lib.hid hX4
    clear hX4
    go_wp2_with fail
    refine (HMY.out _ hC4).mono ?_
    rintro r w5 ⟨rfl, hbm⟩
    have hC := bt hC4 hbm
    clear hC4 y0 y1 y2 y3
    go_wp2_with fail
    refine (HGM.out _).mono ?_
    rintro r v1 ⟨hb, C1, c1, S1, d1, rfl, n1, n2⟩
    have hC1 := bt hC hb
    clear hb hC
    go_wp2_with fail
    refine (HRM.out _).mono ?_
    rintro r v2 ⟨hb, C2, c2, S2, d2, rfl, n3, n4⟩
    have hX1 := (Blk.new v1 #[.int .u8 km, .int .u64 tm, .slice C1 cm.length c1, .slice S1 sm.length d1] 48).ext hb
    have n1' := (n1.ext (by repeat (first | exact Below.refl _ _ | assumption | refine Below.drew ?_ | refine below_drewN ?_ _ | refine Below.alloc ?_ (by simp <;> omega) _))).ext hb
    have n2' := (n2.ext (by repeat (first | exact Below.refl _ _ | assumption | refine Below.drew ?_ | refine below_drewN ?_ _ | refine Below.alloc ?_ (by simp <;> omega) _))).ext hb
    have hC2 : Below w.heap.size w v2 := bt (bt hC1 (by repeat (first | exact Below.refl _ _ | assumption | refine Below.drew ?_ | refine below_drewN ?_ _ | refine Below.alloc ?_ (by simp <;> omega) _))) hb
    clear hb hC1 n1 n2
    go_wp2_with fail
    refine (HGE.out _ (HT.out.ext (bt hC2 (by repeat (first | exact Below.refl _ _ | assumption | refine Below.drew ?_ | refine below_drewN ?_ _ | refine Below.alloc ?_ (by simp <;> omega) _))))).mono ?_
    rintro r v3 ⟨hb, A1, a1, B1, b1, rfl, r1, r2⟩
    have hX2 := (Blk.new v2 #[.int .u8 km, .int .u64 tm, .slice C2 cm.length c2, .slice S2 sm.length d2] 48).ext hb
    have hX1' := (hX1.old _).ext hb
    have n1 := (n1'.ext (by repeat (first | exact Below.refl _ _ | assumption | refine Below.drew ?_ | refine below_drewN ?_ _ | refine Below.alloc ?_ (by simp <;> omega) _))).ext hb
    have n2 := (n2'.ext (by repeat (first | exact Below.refl _ _ | assumption | refine Below.drew ?_ | refine below_drewN ?_ _ | refine Below.alloc ?_ (by simp <;> omega) _))).ext hb
    have n3' := (n3.ext (by repeat (first | exact Below.refl _ _ | assumption | refine Below.drew ?_ | refine below_drewN ?_ _ | refine Below.alloc ?_ (by simp <;> omega) _))).ext hb
    have n4' := (n4.ext (by repeat (first | exact Below.refl _ _ | assumption | refine Below.drew ?_ | refine below_drewN ?_ _ | refine Below.alloc ?_ (by simp <;> omega) _))).ext hb
    have hC3 : Below w.heap.size w v3 := bt (bt hC2 (by repeat (first | exact Below.refl _ _ | assumption | refine Below.drew ?_ | refine below_drewN ?_ _ | refine Below.alloc ?_ (by simp <;> omega) _))) hb
    clear hb hC2 hX1 n1' n2' n3 n4
    go_wp2_with fail
    refine (HRE.out _ (HT.out.ext (bt hC3 (by repeat (first | exact Below.refl _ _ | assumption | refine Below.drew ?_ | refine below_drewN ?_ _ | refine Below.alloc ?_ (by simp <;> omega) _))))).mono ?_
    rintro r v4 ⟨hb, A2, a2, B2, b2, rfl, r3, r4⟩
    have hX3 := (Blk.new v3 #[.int .u64 tx, .int .i64 tot, .int .i64 nth, .int .u8 k, .int .i64 tb, .slice A1 bf.length a1, .slice B1 af.length b1] 52).ext hb
    have hX2' := (hX2.old _).ext hb
    have hX1 := (hX1'.old _).ext hb
    have n1' := (n1.ext (by repeat (first | exact Below.refl _ _ | assumption | refine Below.drew ?_ | refine below_drewN ?_ _ | refine Below.alloc ?_ (by simp <;> omega) _))).ext hb
    have n2' := (n2.ext (by repeat (first | exact Below.refl _ _ | assumption | refine Below.drew ?_ | refine below_drewN ?_ _ | refine Below.alloc ?_ (by simp <;> omega) _))).ext hb
    have n3 := (n3'.ext (by repeat (first | exact Below.refl _ _ | assumption | refine Below.drew ?_ | refine below_drewN ?_ _ | refine Below.alloc ?_ (by simp <;> omega) _))).ext hb
    have n4 := (n4'.ext (by repeat (first | exact Below.refl _ _ | assumption | refine Below.drew ?_ | refine below_drewN ?_ _ | refine Below.alloc ?_ (by simp <;> omega) _))).ext hb
    have r1' := (r1.ext (by repeat (first | exact Below.refl _ _ | assumption | refine Below.drew ?_ | refine below_drewN ?_ _ | refine Below.alloc ?_ (by simp <;> omega) _))).ext hb
    have r2' := (r2.ext (by repeat (first | exact Below.refl _ _ | assumption | refine Below.drew ?_ | refine below_drewN ?_ _ | refine Below.alloc ?_ (by simp <;> omega) _))).ext hb
    have hC4 : Below w.heap.size w v4 := bt (bt hC3 (by repeat (first | exact Below.refl _ _ | assumption | refine Below.drew ?_ | refine below_drewN ?_ _ | refine Below.alloc ?_ (by simp <;> omega) _))) hb
    have HX1 := Lib.hid (hX1.old (.cells #[.int .u64 tx, .int .i64 tot, .int .i64 nth, .int .u8 k, .int .i64 tb, .slice A2 bf.length a2, .slice B2 af.length b2] 52))
    have HX2 := Lib.hid (hX2'.old (.cells #[.int .u64 tx, .int .i64 tot, .int .i64 nth, .int .u8 k, .int .i64 tb, .slice A2 bf.length a2, .slice B2 af.length b2] 52))
    have HX3 := Lib.hid (hX3.old (.cells #[.int .u64 tx, .int .i64 tot, .int .i64 nth, .int .u8 k, .int .i64 tb, .slice A2 bf.length a2, .slice B2 af.length b2] 52))
    have l1 := hX1.lt
    have l2 := hX2'.lt
    obtain ⟨_, y0, y1, y2, y3⟩ := mk4 hX1
    obtain ⟨_, z0, z1, z2, z3⟩ := mk4 hX2'
    clear hb hC3 hX1 hX1' hX2 hX2' hX3 n1 n2 n3' n4' r1 r2
    go_wp2_with fail
    refine (HSMM.out _ _ _ _ _ _ _ _ _ (n1'.ext (by repeat (first | exact Below.refl _ _ | assumption | refine Below.drew ?_ | refine below_drewN ?_ _ | refine Below.alloc ?_ (by simp <;> omega) _))) (n2'.ext (by repeat (first | exact Below.refl _ _ | assumption | refine Below.drew ?_ | refine below_drewN ?_ _ | refine Below.alloc ?_ (by simp <;> omega) _))) (n3.ext (by repeat (first | exact Below.refl _ _ | assumption | refine Below.drew ?_ | refine below_drewN ?_ _ | refine Below.alloc ?_ (by simp <;> omega) _))) (n4.ext (by repeat (first | exact Below.refl _ _ | assumption | refine Below.drew ?_ | refine below_drewN ?_ _ | refine Below.alloc ?_ (by simp <;> omega) _)))).mono ?_
    rintro r v5 ⟨rfl, hb⟩
    have hX3 := HX3.out.ext hb
    have hX4 := (Blk.new v4 #[.int .u64 tx, .int .i64 tot, .int .i64 nth, .int .u8 k, .int .i64 tb, .slice A2 bf.length a2, .slice B2 af.length b2] 52).ext hb
    have r1 := (r1'.ext (by repeat (first | exact Below.refl _ _ | assumption | refine Below.drew ?_ | refine below_drewN ?_ _ | refine Below.alloc ?_ (by simp <;> omega) _))).ext hb
    have r2 := (r2'.ext (by repeat (first | exact Below.refl _ _ | assumption | refine Below.drew ?_ | refine below_drewN ?_ _ | refine Below.alloc ?_ (by simp <;> omega) _))).ext hb
    have r3' := (r3.ext (by repeat (first | exact Below.refl _ _ | assumption | refine Below.drew ?_ | refine below_drewN ?_ _ | refine Below.alloc ?_ (by simp <;> omega) _))).ext hb
    have r4' := (r4.ext (by repeat (first | exact Below.refl _ _ | assumption | refine Below.drew ?_ | refine below_drewN ?_ _ | refine Below.alloc ?_ (by simp <;> omega) _))).ext hb
    have hC5 : Below w.heap.size w v5 := bt (bt hC4 (by repeat (first | exact Below.refl _ _ | assumption | refine Below.drew ?_ | refine below_drewN ?_ _ | refine Below.alloc ?_ (by simp <;> omega) _))) hb
    clear hb hC4 n1' n2' n3 n4 r1' r2' r3 r4 HX1 HX2 HX3 y0 y1 y2 y3 z0 z1 z2 z3 l1 l2
    obtain ⟨y0, y1, y2, y3, y4, y5, y6⟩ := blk7 hX3
    obtain ⟨z0, z1, z2, z3, z4, z5, z6⟩ := blk7 hX4
    clear hX3 hX4
    go_wp2_with fail
    refine (HSME.out _ _ _ _ _ _ _ _ _ r1 r2 r3' r4').mono ?_
    rintro r v6 ⟨rfl, hb⟩
    have hC6 : Below w.heap.size w v6 := bt hC5 hb
    clear hb hC5 r1 r2 r3' r4' y0 y1 y2 y3 y4 y5 y6 z0 z1 z2 z3 z4 z5 z6
    go_wp2_with fail
    refine (alive16 _ (HT.out.ext hC6)).mono ?_
    rintro r v7 ⟨rfl, hb⟩
    have hC7 : Below w.heap.size w v7 := bt hC6 hb
    clear hb hC6
    go_wp2_with fail
    go_ret
    exact ⟨rfl, hC7⟩
  · have HRP := Lib.hid hRP
    simp only [mkCells] at HRP
    generalize (⟨(mkL ⟨km', tm', cs, sq⟩).toArray⟩ : ByteArray) = EL at HPT HRP
    clear hRP
    go_enter Tryd.func11, Tryd.ntmps11
    go_wp2_with fail
    refine (HCP.out _ (by repeat (first | exact Below.refl _ _ | assumption | refine Below.drew ?_ | refine below_drewN ?_ _ | refine Below.alloc ?_ (by simp <;> omega) _))).mono ?_
    rintro r w1 ⟨C2, c2, S2, d2, rfl, hr1, hr2, hb⟩
    have hX1 := (Blk.new w #[.int .u8 km', .int .u64 tm', .slice C cs.length c, .slice S sq.length d] 48).ext hb
    have hC1 : Below w.heap.size w w1 := bt (by repeat (first | exact Below.refl _ _ | assumption | refine Below.drew ?_ | refine below_drewN ?_ _ | refine Below.alloc ?_ (by simp <;> omega) _)) hb
    clear hb HCP
    go_wp2_with fail
    refine (HCK.out _ _ _ _ _ (hr1.ext (by repeat (first | exact Below.refl _ _ | assumption | refine Below.drew ?_ | refine below_drewN ?_ _ | refine Below.alloc ?_ (by simp <;> omega) _)))).mono ?_
    rintro r w2 ⟨rfl, hb⟩
    have hO := (Blk.new w1 #[.int .u8 km', .int .u64 tm', .slice C2 cs.length c2, .slice S2 sq.length d2] 48).ext hb
    have hX2 := (hX1.old _).ext hb
    have hr1' := (hr1.ext (by repeat (first | exact Below.refl _ _ | assumption | refine Below.drew ?_ | refine below_drewN ?_ _ | refine Below.alloc ?_ (by simp <;> omega) _))).ext hb
    have hr2' := (hr2.ext (by repeat (first | exact Below.refl _ _ | assumption | refine Below.drew ?_ | refine below_drewN ?_ _ | refine Below.alloc ?_ (by simp <;> omega) _))).ext hb
    have hC2 : Below w.heap.size w w2 := bt (bt hC1 (by repeat (first | exact Below.refl _ _ | assumption | refine Below.drew ?_ | refine below_drewN ?_ _ | refine Below.alloc ?_ (by simp <;> omega) _))) hb
    clear hb hC1 hX1 hr1 hr2 HCK
    obtain ⟨_, y0, y1, y2, y3⟩ := mk4 hO
    go_wp2_with fail
    refine (HPT.out _ _ _ _ _ hr1' hr2').mono ?_
    rintro r w3 ⟨rfl, hb⟩
    have hO3 := hO.ext hb
    have hX3 := hX2.ext hb
    have hr1 := hr1'.ext hb
    have hr2 := hr2'.ext hb
    have hC3 := bt hC2 hb
    clear hb hC2 hX2 hO hr1' hr2' y0 y1 y2 y3
    obtain ⟨_, y0, y1, y2, y3⟩ := mk4 hO3
    obtain ⟨_, z0, z1, z2, z3⟩ := mk4 hX3
    have HX3 := Lib.hid hX3
    clear hX3 hO3
    go_wp2_with fail
    refine (HSM.out _ _ _ _ _ _ _ _ _ hr1 hr2 (HC.out.ext hC3) (HS.out.ext hC3)).mono ?_
    rintro r w4 ⟨rfl, hb⟩
    have hX4 := HX3.out.ext hb
    have hC4 := bt hC3 hb
    clear hb hC3 HX3 hr1 hr2 y0 y1 y2 y3 z0 z1 z2 z3
    obtain ⟨_, y0, y1, y2, y3⟩ := mk4 hX4
    have HX1 := Lib.hid hX4
    clear hX4
    go_wp2_with fail
    refine (HMY.out _ hC4).mono ?_
    rintro r w5 ⟨rfl, hbm⟩
    have hC := bt hC4 hbm
    clear hC4 y0 y1 y2 y3
    have hx1 := HX1.out.ext (hbm)
    obtain ⟨_, y0, y1, y2, y3⟩ := mk4 hx1
    clear hx1 hbm
    go_wp2_with fail
    refine (HRP.out _ hC).mono ?_
    rintro r w8 ⟨rfl, hb⟩
    have hC' := bt hC hb
    clear hC hb y0 y1 y2 y3
    have hC := hC'
    clear hC'
    go_wp2_with fail
    refine (HGM.out _).mono ?_
    rintro r v1 ⟨hb, C1, c1, S1, d1, rfl, n1, n2⟩
    have hC1 := bt hC hb
    clear hb hC
    go_wp2_with fail
    refine (HRM.out _).mono ?_
    rintro r v2 ⟨hb, C2, c2, S2, d2, rfl, n3, n4⟩
    have hX1 := (Blk.new v1 #[.int .u8 km, .int .u64 tm, .slice C1 cm.length c1, .slice S1 sm.length d1] 48).ext hb
    have n1' := (n1.ext (by repeat (first | exact Below.refl _ _ | assumption | refine Below.drew ?_ | refine below_drewN ?_ _ | refine Below.alloc ?_ (by simp <;> omega) _))).ext hb
    have n2' := (n2.ext (by repeat (first | exact Below.refl _ _ | assumption | refine Below.drew ?_ | refine below_drewN ?_ _ | refine Below.alloc ?_ (by simp <;> omega) _))).ext hb
    have hC2 : Below w.heap.size w v2 := bt (bt hC1 (by repeat (first | exact Below.refl _ _ | assumption | refine Below.drew ?_ | refine below_drewN ?_ _ | refine Below.alloc ?_ (by simp <;> omega) _))) hb
    clear hb hC1 n1 n2
    go_wp2_with fail
    refine (HGE.out _ (HT.out.ext (bt hC2 (by repeat (first | exact Below.refl _ _ | assumption | refine Below.drew ?_ | refine below_drewN ?_ _ | refine Below.alloc ?_ (by simp <;> omega) _))))).mono ?_
    rintro r v3 ⟨hb, A1, a1, B1, b1, rfl, r1, r2⟩
    have hX2 := (Blk.new v2 #[.int .u8 km, .int .u64 tm, .slice C2 cm.length c2, .slice S2 sm.length d2] 48).ext hb
    have hX1' := (hX1.old _).ext hb
    have n1 := (n1'.ext (by repeat (first | exact Below.refl _ _ | assumption | refine Below.drew ?_ | refine below_drewN ?_ _ | refine Below.alloc ?_ (by simp <;> omega) _))).ext hb
    have n2 := (n2'.ext (by repeat (first | exact Below.refl _ _ | assumption | refine Below.drew ?_ | refine below_drewN ?_ _ | refine Below.alloc ?_ (by simp <;> omega) _))).ext hb
    have n3' := (n3.ext (by repeat (first | exact Below.refl _ _ | assumption | refine Below.drew ?_ | refine below_drewN ?_ _ | refine Below.alloc ?_ (by simp <;> omega) _))).ext hb
    have n4' := (n4.ext (by repeat (first | exact Below.refl _ _ | assumption | refine Below.drew ?_ | refine below_drewN ?_ _ | refine Below.alloc ?_ (by simp <;> omega) _))).ext hb
    have hC3 : Below w.heap.size w v3 := bt (bt hC2 (by repeat (first | exact Below.refl _ _ | assumption | refine Below.drew ?_ | refine below_drewN ?_ _ | refine Below.alloc ?_ (by simp <;> omega) _))) hb
    clear hb hC2 hX1 n1' n2' n3 n4
    go_wp2_with fail
    refine (HRE.out _ (HT.out.ext (bt hC3 (by repeat (first | exact Below.refl _ _ | assumption | refine Below.drew ?_ | refine below_drewN ?_ _ | refine Below.alloc ?_ (by simp <;> omega) _))))).mono ?_
    rintro r v4 ⟨hb, A2, a2, B2, b2, rfl, r3, r4⟩
    have hX3 := (Blk.new v3 #[.int .u64 tx, .int .i64 tot, .int .i64 nth, .int .u8 k, .int .i64 tb, .slice A1 bf.length a1, .slice B1 af.length b1] 52).ext hb
    have hX2' := (hX2.old _).ext hb
    have hX1 := (hX1'.old _).ext hb
    have n1' := (n1.ext (by repeat (first | exact Below.refl _ _ | assumption | refine Below.drew ?_ | refine below_drewN ?_ _ | refine Below.alloc ?_ (by simp <;> omega) _))).ext hb
    have n2' := (n2.ext (by repeat (first | exact Below.refl _ _ | assumption | refine Below.drew ?_ | refine below_drewN ?_ _ | refine Below.alloc ?_ (by simp <;> omega) _))).ext hb
    have n3 := (n3'.ext (by repeat (first | exact Below.refl _ _ | assumption | refine Below.drew ?_ | refine below_drewN ?_ _ | refine Below.alloc ?_ (by simp <;> omega) _))).ext hb
    have n4 := (n4'.ext (by repeat (first | exact Below.refl _ _ | assumption | refine Below.drew ?_ | refine below_drewN ?_ _ | refine Below.alloc ?_ (by simp <;> omega) _))).ext hb
    have r1' := (r1.ext (by repeat (first | exact Below.refl _ _ | assumption | refine Below.drew ?_ | refine below_drewN ?_ _ | refine Below.alloc ?_ (by simp <;> omega) _))).ext hb
    have r2' := (r2.ext (by repeat (first | exact Below.refl _ _ | assumption | refine Below.drew ?_ | refine below_drewN ?_ _ | refine Below.alloc ?_ (by simp <;> omega) _))).ext hb
    have hC4 : Below w.heap.size w v4 := bt (bt hC3 (by repeat (first | exact Below.refl _ _ | assumption | refine Below.drew ?_ | refine below_drewN ?_ _ | refine Below.alloc ?_ (by simp <;> omega) _))) hb
    have HX1 := Lib.hid (hX1.old (.cells #[.int .u64 tx, .int .i64 tot, .int .i64 nth, .int .u8 k, .int .i64 tb, .slice A2 bf.length a2, .slice B2 af.length b2] 52))
    have HX2 := Lib.hid (hX2'.old (.cells #[.int .u64 tx, .int .i64 tot, .int .i64 nth, .int .u8 k, .int .i64 tb, .slice A2 bf.length a2, .slice B2 af.length b2] 52))
    have HX3 := Lib.hid (hX3.old (.cells #[.int .u64 tx, .int .i64 tot, .int .i64 nth, .int .u8 k, .int .i64 tb, .slice A2 bf.length a2, .slice B2 af.length b2] 52))
    have l1 := hX1.lt
    have l2 := hX2'.lt
    obtain ⟨_, y0, y1, y2, y3⟩ := mk4 hX1
    obtain ⟨_, z0, z1, z2, z3⟩ := mk4 hX2'
    clear hb hC3 hX1 hX1' hX2 hX2' hX3 n1 n2 n3' n4' r1 r2
    go_wp2_with fail
    refine (HSMM.out _ _ _ _ _ _ _ _ _ (n1'.ext (by repeat (first | exact Below.refl _ _ | assumption | refine Below.drew ?_ | refine below_drewN ?_ _ | refine Below.alloc ?_ (by simp <;> omega) _))) (n2'.ext (by repeat (first | exact Below.refl _ _ | assumption | refine Below.drew ?_ | refine below_drewN ?_ _ | refine Below.alloc ?_ (by simp <;> omega) _))) (n3.ext (by repeat (first | exact Below.refl _ _ | assumption | refine Below.drew ?_ | refine below_drewN ?_ _ | refine Below.alloc ?_ (by simp <;> omega) _))) (n4.ext (by repeat (first | exact Below.refl _ _ | assumption | refine Below.drew ?_ | refine below_drewN ?_ _ | refine Below.alloc ?_ (by simp <;> omega) _)))).mono ?_
    rintro r v5 ⟨rfl, hb⟩
    have hX3 := HX3.out.ext hb
    have hX4 := (Blk.new v4 #[.int .u64 tx, .int .i64 tot, .int .i64 nth, .int .u8 k, .int .i64 tb, .slice A2 bf.length a2, .slice B2 af.length b2] 52).ext hb
    have r1 := (r1'.ext (by repeat (first | exact Below.refl _ _ | assumption | refine Below.drew ?_ | refine below_drewN ?_ _ | refine Below.alloc ?_ (by simp <;> omega) _))).ext hb
    have r2 := (r2'.ext (by repeat (first | exact Below.refl _ _ | assumption | refine Below.drew ?_ | refine below_drewN ?_ _ | refine Below.alloc ?_ (by simp <;> omega) _))).ext hb
    have r3' := (r3.ext (by repeat (first | exact Below.refl _ _ | assumption | refine Below.drew ?_ | refine below_drewN ?_ _ | refine Below.alloc ?_ (by simp <;> omega) _))).ext hb
    have r4' := (r4.ext (by repeat (first | exact Below.refl _ _ | assumption | refine Below.drew ?_ | refine below_drewN ?_ _ | refine Below.alloc ?_ (by simp <;> omega) _))).ext hb
    have hC5 : Below w.heap.size w v5 := bt (bt hC4 (by repeat (first | exact Below.refl _ _ | assumption | refine Below.drew ?_ | refine below_drewN ?_ _ | refine Below.alloc ?_ (by simp <;> omega) _))) hb
    clear hb hC4 n1' n2' n3 n4 r1' r2' r3 r4 HX1 HX2 HX3 y0 y1 y2 y3 z0 z1 z2 z3 l1 l2
    obtain ⟨y0, y1, y2, y3, y4, y5, y6⟩ := blk7 hX3
    obtain ⟨z0, z1, z2, z3, z4, z5, z6⟩ := blk7 hX4
    clear hX3 hX4
    go_wp2_with fail
    refine (HSME.out _ _ _ _ _ _ _ _ _ r1 r2 r3' r4').mono ?_
    rintro r v6 ⟨rfl, hb⟩
    have hC6 : Below w.heap.size w v6 := bt hC5 hb
    clear hb hC5 r1 r2 r3' r4' y0 y1 y2 y3 y4 y5 y6 z0 z1 z2 z3 z4 z5 z6
    go_wp2_with fail
    refine (alive16 _ (HT.out.ext hC6)).mono ?_
    rintro r v7 ⟨rfl, hb⟩
    have hC7 : Below w.heap.size w v7 := bt hC6 hb
    clear hb hC6
    go_wp2_with fail
    go_ret
    exact ⟨rfl, hC7⟩
theorem evmarks_walk (m : Mk) (C S : Option Addr) (c d : Nat) (s : ByteArray) (w : World) (hT : Tabs w) (hw : m.wf) (hc : NRow .i64 w C m.cs) (hs : NRow .u64 w S m.sq) (hz : s.size ≤ 140737488355328) :
    Calls Tryd.prog 11 #[.agg (mkCells m (.slice C m.cs.length c) (.slice S m.sq.length d)), .string s] w fun r w' => r = .returned (.bool true) ∧ Below w.heap.size w w' := by
  by_cases h : 300 < m.cs.length ∨ 300 < m.sq.length ∨ 16384 < s.size
  · exact evmarks_far m C S c d s w hT hc.1 hs.1 hz h
  · exact evmarks_near m C S c d s w hT hw hc hs (by omega) (by omega) (by omega)
end Go.Proofs.YtjdfodmialhakaaDoor
