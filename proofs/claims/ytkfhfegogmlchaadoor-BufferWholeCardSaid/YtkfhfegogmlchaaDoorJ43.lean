/- Several texts in one: see each part's head. -/
import Derived.Test.YtkfhfegogmlchaaDoorJ42
/- BufferNil: the chapter's example, and the statement. -/
namespace Go.Proofs.YtkfhfegogmlchaaDoor
open Go.RowKit

set_option maxRecDepth 100000 in
set_option maxHeartbeats 3200000 in
theorem alive23_any (w : World) (hT : Tabs w) :
    Calls Tryd.prog 5 #[] w fun r w' => r = .returned (.bool true) ∧ Below w.heap.size w w' := by
  have HT := Lib.hid (fun (W : World) (hW : Below w.heap.size w W) => hT.ext hW)
  clear hT
  go_enter Tryd.func5, Tryd.ntmps5
  go_wp2_with fail
  refine (from_ok _).mono ?_
  rintro r w1 ⟨rfl, hb, hbel⟩
  have HB := Lib.hid hb
  have HC := Lib.hid hbel
  clear hb hbel
  generalize hBe : w.heap.size = B at HB HC HT ⊢
  have HBE := Lib.hid hBe
  clear hBe
  go_wp2_with fail
  refine (new_bad _).mono ?_
  rintro r w2 ⟨rfl, rfl⟩
  go_wp2_with fail
  refine (one_ok _).mono ?_
  rintro r w2 ⟨h, rfl, hg, hh, hbel⟩
  have HC : Hid (Below B w w2) := HC.out.trans (hbel.mono (Nat.le_of_lt HB.out.lt))
  have HB := Lib.hid (HB.out.ext hbel)
  have HH := Lib.hid hh
  clear hh hbel hg
  go_wp2_with fail
  refine (event_none B h none w2 (HT.out _ HC.out) HB.out HH.out).mono ?_
  rintro r w3 ⟨rfl, hbel⟩
  have HC : Hid (Below B w w3) := HC.out.trans (hbel.mono (Nat.le_of_lt HB.out.lt))
  have HB := Lib.hid (HB.out.ext hbel)
  clear hbel HH
  go_wp2_with fail
  refine (mark_begin B w3.heap.size none 5 0 _ (HB.out.ext (by repeat (first | exact Below.refl _ _ | assumption | refine Below.drew ?_ | refine below_drewN ?_ _ | refine Below.alloc ?_ (by simp <;> omega) _))) (by omega) (by omega)).mono ?_
  rintro r w4 ⟨hbel, g, cg, base, X, N, M, rfl, hbg, htx⟩
  have HC : Hid (Below B w w4) := (HC.out.trans (((by repeat (first | exact Below.refl _ _ | assumption | refine Below.drew ?_ | refine below_drewN ?_ _ | refine Below.alloc ?_ (by simp <;> omega) _)) : Below w3.heap.size w3 (w3.alloc (.cells #[.int .u64 0] 29))).mono (Nat.le_of_lt HB.out.lt))).trans hbel
  have HBG := Lib.hid hbg
  have HTX := Lib.hid htx
  have lB := hbg.1.lt
  clear hbel hbg htx HB
  go_wp2_with fail
  have hA4 : Below w4.heap.size w4 ((w4.alloc (.cells #[.int .u64 1] 29)).alloc (.cells #[.int .i64 1] 3)) := (by repeat (first | exact Below.refl _ _ | assumption | refine Below.drew ?_ | refine below_drewN ?_ _ | refine Below.alloc ?_ (by simp <;> omega) _))
  refine (mark_end B g cg base X N M (w4.heap.size + 1) w4.heap.size 5 1 1 _ ⟨HBG.out.1.ext hA4, own_below HBG.out.2 hA4⟩ (HTX.out.ext hA4) (((by repeat (first | exact Blk.at (by simp) | assumption | refine Blk.drew ?_ | refine Blk.old ?_ _)) : Blk ((w4.alloc (.cells #[.int .u64 1] 29)).alloc (.cells #[.int .i64 1] 3)) (w4.heap.size + 1) #[.int .i64 1] 3).cell 0) (((by repeat (first | exact Blk.at (by simp) | assumption | refine Blk.drew ?_ | refine Blk.old ?_ _)) : Blk ((w4.alloc (.cells #[.int .u64 1] 29)).alloc (.cells #[.int .i64 1] 3)) w4.heap.size #[.int .u64 1] 29).cell 0) (by omega) (by omega) (by omega)).mono ?_
  rintro r w5 ⟨rfl, hbel, g, cg, base, X, N, M, E, hbg, htx⟩
  have HC : Hid (Below B w w5) := (HC.out.trans (hA4.mono (Nat.le_of_lt lB))).trans hbel
  have HBG := Lib.hid hbg
  have HTX := Lib.hid htx
  have lB := hbg.1.lt
  clear hbel hbg htx hA4
  go_wp2_with fail
  refine (one_ok _).mono ?_
  rintro r w6 ⟨h, rfl, hg, hh, hbel⟩
  have HC : Hid (Below B w w6) := HC.out.trans (hbel.mono (Nat.le_of_lt lB))
  have HH := Lib.hid hh
  have HBG : Hid (Bg 5 0 B g cg base X w6) := ⟨HBG.out.1.ext hbel, own_below HBG.out.2 hbel⟩
  have HTX := Lib.hid (HTX.out.ext hbel)
  clear hh hbel hg lB
  go_wp2_with fail
  refine (event_full B g cg base X N M E h w6 (HT.out _ HC.out) HBG.out HTX.out HH.out).mono ?_
  rintro r w7 ⟨rfl, hbel, g, cg, base, X, N, M, E, cb, cc, b1, sb, sc, b2, s, g6, cg6, b6, _, hS, hM, ho⟩
  have HC : Hid (Below B w w7) := HC.out.trans hbel
  have HF : Hid (Full B g cg base X N M E cb cc b1 sb sc b2 s g6 cg6 b6 w7) := ⟨hS, hM, ho⟩
  clear hbel hS hM ho HBG HTX HH
  go_wp2_with fail
  refine (ready_full HF.out).mono ?_
  rintro r w8 ⟨rfl, hbel⟩
  have HC : Hid (Below B w w8) := HC.out.trans (hbel.mono (Nat.le_of_lt HF.out.1.buf.lt))
  have HF := Lib.hid (HF.out.ext hbel)
  clear hbel
  go_wp2_with fail
  refine (drop_full HF.out).mono ?_
  rintro r w9 ⟨rfl, hbel, A, hb⟩
  have HC : Hid (Below B w w9) := HC.out.trans hbel
  have HB := Lib.hid hb
  clear hbel hb HF
  go_wp2_with fail
  refine (next_ok B 0 0 A 6 0 _ HB.out).mono ?_
  rintro r wa ⟨rfl, hbel⟩
  have HC : Hid (Below B w wa) := HC.out.trans (hbel.mono (Nat.le_of_lt HB.out.lt))
  have HB := Lib.hid (HB.out.ext hbel)
  clear hbel
  go_wp2_with fail
  refine (mark_begin B wa.heap.size A 6 1 _ (HB.out.ext (by repeat (first | exact Below.refl _ _ | assumption | refine Below.drew ?_ | refine below_drewN ?_ _ | refine Below.alloc ?_ (by simp <;> omega) _))) (by omega) (by omega)).mono ?_
  rintro r wb ⟨hbel, g, cg, base, X, N, M, rfl, hbg, htx⟩
  have HC : Hid (Below B w wb) := (HC.out.trans (((by repeat (first | exact Below.refl _ _ | assumption | refine Below.drew ?_ | refine below_drewN ?_ _ | refine Below.alloc ?_ (by simp <;> omega) _)) : Below wa.heap.size wa (wa.alloc (.cells #[.int .u64 1] 29))).mono (Nat.le_of_lt HB.out.lt))).trans hbel
  have HBG := Lib.hid hbg
  have HTX := Lib.hid htx
  have lB := hbg.1.lt
  clear hbel hbg htx HB
  go_wp2_with fail
  have hA4 : Below wb.heap.size wb ((wb.alloc (.cells #[.int .u64 4] 29)).alloc (.cells #[.int .i64 3] 3)) := (by repeat (first | exact Below.refl _ _ | assumption | refine Below.drew ?_ | refine below_drewN ?_ _ | refine Below.alloc ?_ (by simp <;> omega) _))
  refine (mark_big B g cg base X N M (wb.heap.size + 1) wb.heap.size 6 3 4 _ ⟨HBG.out.1.ext hA4, own_below HBG.out.2 hA4⟩ (HTX.out.ext hA4) (((by repeat (first | exact Blk.at (by simp) | assumption | refine Blk.drew ?_ | refine Blk.old ?_ _)) : Blk ((wb.alloc (.cells #[.int .u64 4] 29)).alloc (.cells #[.int .i64 3] 3)) (wb.heap.size + 1) #[.int .i64 3] 3).cell 0) (((by repeat (first | exact Blk.at (by simp) | assumption | refine Blk.drew ?_ | refine Blk.old ?_ _)) : Blk ((wb.alloc (.cells #[.int .u64 4] 29)).alloc (.cells #[.int .i64 3] 3)) wb.heap.size #[.int .u64 4] 29).cell 0) (by omega) (by omega) (by omega)).mono ?_
  rintro r wc ⟨rfl, hbel, g, cg, base, X, N, M, hbg, htx⟩
  have HC : Hid (Below B w wc) := (HC.out.trans (hA4.mono (Nat.le_of_lt lB))).trans hbel
  have HBG := Lib.hid hbg
  have HTX := Lib.hid htx
  clear hbel hbg htx hA4 lB
  go_wp2_with fail
  refine (fault_ok B 1 cg (some ⟨g, 0, none⟩) 1 2 6 231 true _ HBG.out.1).mono ?_
  rintro r wd ⟨rfl, rfl⟩
  go_wp2_with fail
  refine (len_one B g cg base X N M 6 231 _ HBG.out HTX.out).mono ?_
  rintro r wd ⟨rfl, rfl⟩
  go_wp2_with fail
  go_ret
  exact ⟨rfl, by rw [HBE.out]; exact HC.out⟩
end Go.Proofs.YtkfhfegogmlchaaDoor
