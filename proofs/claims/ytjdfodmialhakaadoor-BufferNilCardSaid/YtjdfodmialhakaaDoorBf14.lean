/- BufferNil: the chapter's example, and the statement. -/
import Derived.Test.YtjdfodmialhakaaDoorBf13
namespace Go.Proofs.YtjdfodmialhakaaDoor
open Go.RowKit

theorem blk4 {w : World} {b : Nat} {a0 a1 a2 a3 : Value} {t : TypeId} (h : Blk w b #[a0, a1, a2, a3] t) : b < w.heap.size ∧ w.cell? ⟨b, 0, none⟩ = some a0 ∧ w.cell? ⟨b, 1, none⟩ = some a1 ∧ w.cell? ⟨b, 2, none⟩ = some a2 ∧ w.cell? ⟨b, 3, none⟩ = some a3 := ⟨h.lt, h.cell 0, h.cell 1, h.cell 2, h.cell 3⟩
theorem blkS7 {w : World} {b : Nat} {a0 a1 a2 a3 a4 a5 a6 : Value} {t : TypeId} (h : Blk w b #[a0, a1, a2, a3, a4, a5, a6] t) : b < w.heap.size ∧ w.cell? ⟨b, 0, none⟩ = some a0 ∧ w.cell? ⟨b, 1, none⟩ = some a1 ∧ w.cell? ⟨b, 2, none⟩ = some a2 ∧ w.cell? ⟨b, 3, none⟩ = some a3 ∧ w.cell? ⟨b, 4, none⟩ = some a4 ∧ w.cell? ⟨b, 5, none⟩ = some a5 ∧ w.cell? ⟨b, 6, none⟩ = some a6 :=
  ⟨h.lt, h.cell 0, h.cell 1, h.cell 2, h.cell 3, h.cell 4, h.cell 5, h.cell 6⟩
theorem cell_new0 (w : World) (v : Value) (t : TypeId) : (w.alloc (.cells #[v] t)).cell? ⟨w.heap.size, 0, none⟩ = some v := (Blk.new w #[v] t).cell 0
set_option maxRecDepth 100000 in
set_option maxHeartbeats 3200000 in
theorem alive23_any (w : World) (hT : Tabs w) :
    Calls Tryd.prog 32 #[] w fun r w' => r = .returned (.bool true) ∧ Below w.heap.size w w' := by
  have HT := Lib.hid (fun (W : World) (hW : Below w.heap.size w W) => hT.ext hW)
  clear hT
  go_enter Tryd.func32, Tryd.ntmps32
  go_wp2_with fail
  refine (from_ok _).mono ?_
  rintro r w1 ⟨rfl, hb, hbel⟩
  have HB := Lib.hid hb
  have HC := Lib.hid hbel
  clear hb hbel
  generalize hBe : w.heap.size = B at HB HC HT ⊢
  have HBE := Lib.hid hBe
  clear hBe
  go_wp2_with fail
  refine (new_bad _).mono ?_
  rintro r w2 ⟨rfl, rfl⟩
  go_wp2_with fail
  refine (one_ok _).mono ?_
  rintro r w2 ⟨h, rfl, hg, hh, hbel⟩
  have HC : Hid (Below B w w2) := HC.out.trans (hbel.mono (Nat.le_of_lt HB.out.lt))
  have HB := Lib.hid (HB.out.ext hbel)
  have HH := Lib.hid hh
  clear hh hbel hg
  go_wp2_with fail
  refine (event_none B h none w2 (HT.out _ HC.out) HB.out HH.out).mono ?_
  rintro r w3 ⟨rfl, hbel⟩
  have HC : Hid (Below B w w3) := HC.out.trans (hbel.mono (Nat.le_of_lt HB.out.lt))
  have HB := Lib.hid (HB.out.ext hbel)
  clear hbel HH
  go_wp2_with fail
  refine (mark_begin B w3.heap.size none 5 0 _ (HB.out.ext (by repeat (first | exact Below.refl _ _ | assumption | refine Below.drew ?_ | refine below_drewN ?_ _ | refine Below.alloc ?_ (by simp <;> omega) _))) (by omega) (by omega)).mono ?_
  rintro r w4 ⟨hbel, g, cg, base, X, N, M, rfl, hbg, htx⟩
  have HC : Hid (Below B w w4) := (HC.out.trans (((by repeat (first | exact Below.refl _ _ | assumption | refine Below.drew ?_ | refine below_drewN ?_ _ | refine Below.alloc ?_ (by simp <;> omega) _)) : Below w3.heap.size w3 (w3.alloc (.cells #[.int .u64 0] 22))).mono (Nat.le_of_lt HB.out.lt))).trans hbel
  have HBG := Lib.hid hbg
  have HTX := Lib.hid htx
  have lB := hbg.1.lt
  clear hbel hbg htx HB
  go_wp2_with fail
  have hA4 : Below w4.heap.size w4 ((w4.alloc (.cells #[.int .u64 1] 22)).alloc (.cells #[.int .i64 1] 3)) := (by repeat (first | exact Below.refl _ _ | assumption | refine Below.drew ?_ | refine below_drewN ?_ _ | refine Below.alloc ?_ (by simp <;> omega) _))
  refine (mark_end B g cg base X N M (w4.heap.size + 1) w4.heap.size 5 1 1 _ ⟨HBG.out.1.ext hA4, own_below HBG.out.2 hA4⟩ (HTX.out.ext hA4) (((by repeat (first | exact Blk.at (by simp) | assumption | refine Blk.drew ?_ | refine Blk.old ?_ _)) : Blk ((w4.alloc (.cells #[.int .u64 1] 22)).alloc (.cells #[.int .i64 1] 3)) (w4.heap.size + 1) #[.int .i64 1] 3).cell 0) (((by repeat (first | exact Blk.at (by simp) | assumption | refine Blk.drew ?_ | refine Blk.old ?_ _)) : Blk ((w4.alloc (.cells #[.int .u64 1] 22)).alloc (.cells #[.int .i64 1] 3)) w4.heap.size #[.int .u64 1] 22).cell 0) (by omega) (by omega) (by omega)).mono ?_
  rintro r w5 ⟨rfl, hbel, g, cg, base, X, N, M, E, hbg, htx⟩
  have HC : Hid (Below B w w5) := (HC.out.trans (hA4.mono (Nat.le_of_lt lB))).trans hbel
  have HBG := Lib.hid hbg
  have HTX := Lib.hid htx
  have lB := hbg.1.lt
  clear hbel hbg htx hA4
  go_wp2_with fail
  refine (one_ok _).mono ?_
  rintro r w6 ⟨h, rfl, hg, hh, hbel⟩
  have HC : Hid (Below B w w6) := HC.out.trans (hbel.mono (Nat.le_of_lt lB))
  have HH := Lib.hid hh
  have HBG : Hid (Bg 5 0 B g cg base X w6) := ⟨HBG.out.1.ext hbel, own_below HBG.out.2 hbel⟩
  have HTX := Lib.hid (HTX.out.ext hbel)
  clear hh hbel hg lB
  go_wp2_with fail
  refine (event_full B g cg base X N M E h w6 (HT.out _ HC.out) HBG.out HTX.out HH.out).mono ?_
  rintro r w7 ⟨rfl, hbel, g, cg, base, X, N, M, E, cb, cc, b1, sb, sc, b2, s, g6, cg6, b6, _, hS, hM, ho⟩
  have HC : Hid (Below B w w7) := HC.out.trans hbel
  have HF : Hid (Full B g cg base X N M E cb cc b1 sb sc b2 s g6 cg6 b6 w7) := ⟨hS, hM, ho⟩
  clear hbel hS hM ho HBG HTX HH
  go_wp2_with fail
  refine (ready_full HF.out).mono ?_
  rintro r w8 ⟨rfl, hbel⟩
  have HC : Hid (Below B w w8) := HC.out.trans (hbel.mono (Nat.le_of_lt HF.out.1.buf.lt))
  have HF := Lib.hid (HF.out.ext hbel)
  clear hbel
  go_wp2_with fail
  refine (drop_full HF.out).mono ?_
  rintro r w9 ⟨rfl, hbel, A, hb⟩
  have HC : Hid (Below B w w9) := HC.out.trans hbel
  have HB := Lib.hid hb
  clear hbel hb HF
  go_wp2_with fail
  refine (next_ok B 0 0 A 6 0 _ HB.out).mono ?_
  rintro r wa ⟨rfl, hbel⟩
  have HC : Hid (Below B w wa) := HC.out.trans (hbel.mono (Nat.le_of_lt HB.out.lt))
  have HB := Lib.hid (HB.out.ext hbel)
  clear hbel
  go_wp2_with fail
  refine (mark_begin B wa.heap.size A 6 1 _ (HB.out.ext (by repeat (first | exact Below.refl _ _ | assumption | refine Below.drew ?_ | refine below_drewN ?_ _ | refine Below.alloc ?_ (by simp <;> omega) _))) (by omega) (by omega)).mono ?_
  rintro r wb ⟨hbel, g, cg, base, X, N, M, rfl, hbg, htx⟩
  have HC : Hid (Below B w wb) := (HC.out.trans (((by repeat (first | exact Below.refl _ _ | assumption | refine Below.drew ?_ | refine below_drewN ?_ _ | refine Below.alloc ?_ (by simp <;> omega) _)) : Below wa.heap.size wa (wa.alloc (.cells #[.int .u64 1] 22))).mono (Nat.le_of_lt HB.out.lt))).trans hbel
  have HBG := Lib.hid hbg
  have HTX := Lib.hid htx
  have lB := hbg.1.lt
  clear hbel hbg htx HB
  go_wp2_with fail
  have hA4 : Below wb.heap.size wb ((wb.alloc (.cells #[.int .u64 4] 22)).alloc (.cells #[.int .i64 3] 3)) := (by repeat (first | exact Below.refl _ _ | assumption | refine Below.drew ?_ | refine below_drewN ?_ _ | refine Below.alloc ?_ (by simp <;> omega) _))
  refine (mark_big B g cg base X N M (wb.heap.size + 1) wb.heap.size 6 3 4 _ ⟨HBG.out.1.ext hA4, own_below HBG.out.2 hA4⟩ (HTX.out.ext hA4) (((by repeat (first | exact Blk.at (by simp) | assumption | refine Blk.drew ?_ | refine Blk.old ?_ _)) : Blk ((wb.alloc (.cells #[.int .u64 4] 22)).alloc (.cells #[.int .i64 3] 3)) (wb.heap.size + 1) #[.int .i64 3] 3).cell 0) (((by repeat (first | exact Blk.at (by simp) | assumption | refine Blk.drew ?_ | refine Blk.old ?_ _)) : Blk ((wb.alloc (.cells #[.int .u64 4] 22)).alloc (.cells #[.int .i64 3] 3)) wb.heap.size #[.int .u64 4] 22).cell 0) (by omega) (by omega) (by omega)).mono ?_
  rintro r wc ⟨rfl, hbel, g, cg, base, X, N, M, hbg, htx⟩
  have HC : Hid (Below B w wc) := (HC.out.trans (hA4.mono (Nat.le_of_lt lB))).trans hbel
  have HBG := Lib.hid hbg
  have HTX := Lib.hid htx
  clear hbel hbg htx hA4 lB
  go_wp2_with fail
  refine (fault_ok B 1 cg (some ⟨g, 0, none⟩) 1 2 6 231 true _ HBG.out.1).mono ?_
  rintro r wd ⟨rfl, rfl⟩
  go_wp2_with fail
  refine (len_one B g cg base X N M 6 231 _ HBG.out HTX.out).mono ?_
  rintro r wd ⟨rfl, rfl⟩
  go_wp2_with fail
  go_ret
  exact ⟨rfl, by rw [HBE.out]; exact HC.out⟩
set_option maxRecDepth 100000 in
set_option maxHeartbeats 3200000 in
theorem nil_walk (m : Mk) (C S : Option Addr) (n1 c1 n2 c2 : Nat) (e : Ev) (A B : Option Addr) (c d : Nat) (w : World) (hT : Tabs w) (hl : VRow w A e.bf) (hm : VRow w B e.af) :
    Calls Tryd.prog 7 #[.agg (mkCells m (.slice C n1 c1) (.slice S n2 c2)), .agg (evCells e (.slice A e.bf.length c) (.slice B e.af.length d))] w fun r w' => r = .returned (.bool true) ∧ Below w.heap.size w w' := by
  obtain ⟨mk, mt, mcs, msq⟩ := m
  obtain ⟨tx, tot, nth, ek, tb, bf, af⟩ := e
  unfold mkCells evCells
  simp only at hl hm ⊢
  have HA := Lib.hid (fun (W : World) (hW : Below w.heap.size w W) => alive23_any W (hT.ext hW))
  have HHV := Lib.hid (fun (W : World) (g : Nat) (hW : Below w.heap.size w W) (hb : Blk W g #[.int .i64 0, .int .u8 mk, .int .u64 mt, .slice C n1 c1, .slice S n2 c2, .int .u64 tx, .int .i64 tot, .int .i64 nth, .int .u8 ek, .int .i64 tb, .slice A bf.length c, .slice B af.length d] 55) => heavy_any mk mt tx tot nth ek tb C S A B n1 c1 n2 c2 c d g bf af W hb (hl.ext hW) (hm.ext hW))
  clear hT hl hm
  generalize bf.length = lbf at HHV ⊢
  generalize af.length = laf at HHV ⊢
  go_enter Tryd.func7, Tryd.ntmps7
  go_wp2_with fail
  refine (HHV.out _ (w.heap.size + 2) (by repeat (first | exact Below.refl _ _ | assumption | refine Below.drew ?_ | refine below_drewN ?_ _ | refine Below.alloc ?_ (by simp <;> omega) _)) (by repeat (first | exact Blk.at (by simp) | assumption | refine Blk.drew ?_ | refine Blk.old ?_ _))).mono ?_
  rintro r w1 ⟨v, rfl, rfl⟩
  have hC : Below w.heap.size w (((w.alloc (.cells #[.int .u8 mk, .int .u64 mt, .slice C n1 c1, .slice S n2 c2] 48)).alloc (.cells #[.int .u64 tx, .int .i64 tot, .int .i64 nth, .int .u8 ek, .int .i64 tb, .slice A lbf c, .slice B laf d] 52)).alloc (.cells #[.int .i64 0, .int .u8 mk, .int .u64 mt, .slice C n1 c1, .slice S n2 c2, .int .u64 tx, .int .i64 tot, .int .i64 nth, .int .u8 ek, .int .i64 tb, .slice A lbf c, .slice B laf d] 55)) := (by repeat (first | exact Below.refl _ _ | assumption | refine Below.drew ?_ | refine below_drewN ?_ _ | refine Below.alloc ?_ (by simp <;> omega) _))
  have h1 : Blk (((w.alloc (.cells #[.int .u8 mk, .int .u64 mt, .slice C n1 c1, .slice S n2 c2] 48)).alloc (.cells #[.int .u64 tx, .int .i64 tot, .int .i64 nth, .int .u8 ek, .int .i64 tb, .slice A lbf c, .slice B laf d] 52)).alloc (.cells #[.int .i64 0, .int .u8 mk, .int .u64 mt, .slice C n1 c1, .slice S n2 c2, .int .u64 tx, .int .i64 tot, .int .i64 nth, .int .u8 ek, .int .i64 tb, .slice A lbf c, .slice B laf d] 55)) w.heap.size #[.int .u8 mk, .int .u64 mt, .slice C n1 c1, .slice S n2 c2] 48 := (by repeat (first | exact Blk.at (by simp) | assumption | refine Blk.drew ?_ | refine Blk.old ?_ _))
  have h2 : Blk (((w.alloc (.cells #[.int .u8 mk, .int .u64 mt, .slice C n1 c1, .slice S n2 c2] 48)).alloc (.cells #[.int .u64 tx, .int .i64 tot, .int .i64 nth, .int .u8 ek, .int .i64 tb, .slice A lbf c, .slice B laf d] 52)).alloc (.cells #[.int .i64 0, .int .u8 mk, .int .u64 mt, .slice C n1 c1, .slice S n2 c2, .int .u64 tx, .int .i64 tot, .int .i64 nth, .int .u8 ek, .int .i64 tb, .slice A lbf c, .slice B laf d] 55)) (w.heap.size + 1) #[.int .u64 tx, .int .i64 tot, .int .i64 nth, .int .u8 ek, .int .i64 tb, .slice A lbf c, .slice B laf d] 52 := (by repeat (first | exact Blk.at (by simp) | assumption | refine Blk.drew ?_ | refine Blk.old ?_ _))
  have HC := Lib.hid hC
  have HM := Lib.hid h1
  have HE := Lib.hid h2
  clear hC h1 h2 HHV
  generalize (((w.alloc (.cells #[.int .u8 mk, .int .u64 mt, .slice C n1 c1, .slice S n2 c2] 48)).alloc (.cells #[.int .u64 tx, .int .i64 tot, .int .i64 nth, .int .u8 ek, .int .i64 tb, .slice A lbf c, .slice B laf d] 52)).alloc (.cells #[.int .i64 0, .int .u8 mk, .int .u64 mt, .slice C n1 c1, .slice S n2 c2, .int .u64 tx, .int .i64 tot, .int .i64 nth, .int .u8 ek, .int .i64 tb, .slice A lbf c, .slice B laf d] 55)) = W0 at HC HM HE ⊢
  generalize w.heap.size + 1 = ex at HE ⊢
  generalize hmx : w.heap.size = mx at HM ⊢
  have HMX := Lib.hid hmx
  clear hmx
  obtain ⟨lm, m0, m1, m2, m3⟩ := blk4 HM.out
  cases v
  · go_wp2_with fail
    refine (mark_nil _ _).mono ?_
    rintro r w2 ⟨rfl, hb⟩
    have HC := Lib.hid (bt HC.out hb)
    have HE := Lib.hid (HE.out.ext hb)
    clear hb HM lm m0 m1 m2 m3
    obtain ⟨le, e0, e1, e2, e3, e4, e5, e6⟩ := blkS7 HE.out
    go_wp2_with fail
    refine (event_nil _ _).mono ?_
    rintro r w3 ⟨rfl, hb⟩
    have HC := Lib.hid (bt HC.out hb)
    clear hb HE le e0 e1 e2 e3 e4 e5 e6
    go_wp2_with fail
    refine (peek_nil _).mono ?_
    rintro r w4 ⟨rfl, hb⟩
    have HC := Lib.hid (bt HC.out hb)
    clear hb
    go_wp2_with fail
    refine (next_nil _).mono ?_
    rintro r w5 ⟨rfl, rfl⟩
    go_wp2_with fail
    refine (drop_nil _).mono ?_
    rintro r w5 ⟨rfl, hb⟩
    have HC := Lib.hid (bt (bt HC.out (by repeat (first | exact Below.refl _ _ | assumption | refine Below.drew ?_ | refine below_drewN ?_ _ | refine Below.alloc ?_ (by simp <;> omega) _))) hb)
    clear hb
    go_wp2_with fail
    refine (len_nil _).mono ?_
    rintro r w6 ⟨rfl, rfl⟩
    go_wp2_with fail
    refine (ready_nil _).mono ?_
    rintro r w6 ⟨rfl, hb⟩
    have HC := Lib.hid (bt HC.out hb)
    clear hb
    go_wp2_with fail
    refine (fault_nil _).mono ?_
    rintro r w7 ⟨rfl, rfl⟩
    go_wp2_with fail
    refine (HA.out _ HC.out).mono ?_
    rintro r w7 ⟨rfl, hb⟩
    have HC := Lib.hid (bt HC.out hb)
    clear hb
    go_wp2_with fail
    go_ret
    exact ⟨rfl, HC.out⟩
  · go_wp2_with fail
    refine (HA.out _ HC.out).mono ?_
    rintro r w2 ⟨rfl, hb⟩
    have HW : Hid (Below w.heap.size w w2) := bt HC.out hb
    clear hb
    go_wp2_with fail
    go_ret
    exact ⟨rfl, HW.out⟩
end Go.Proofs.YtjdfodmialhakaaDoor
