/- The walk of DocGets. -/
import Derived.Test.YtjdfodmialhakaaDoorDc23
namespace Go.Proofs.YtjdfodmialhakaaDoor
open Go.RowKit

theorem getDoc_may {l : List UInt8} {d : De} (h : getDoc l = some d) : mayD d = true := by
  unfold getDoc at h
  split at h
  · split at h
    · next hm =>
      cases h
      exact hm
    · cases h
  · cases h
set_option maxRecDepth 100000 in
set_option maxHeartbeats 1600000 in
theorem docgets_walk (s : ByteArray) (hs : s.size ≤ 140737488355328) (w : World) (hT : Tabs w) : Calls Tryd.prog 9 #[.string s] w fun r w' => r = .returned (.bool true) ∧ Below w.heap.size w w' := by
  have HT := Lib.hid (fun (W : World) (hW : Below w.heap.size w W) => hT.ext hW)
  have HAL := Lib.hid (fun (W : World) (hW : Below w.heap.size w W) => alive25_any W (hT.ext hW))
  clear hT
  by_cases hbig : (16384 : Int) < s.size
  · go_enter Tryd.func9, Tryd.ntmps9
    go_wp2_with fail
    refine (HAL.out w (Below.refl _ _)).mono ?_
    rintro e w1 ⟨rfl, hb1⟩
    go_wp2_with fail
    go_ret
    exact ⟨rfl, hb1⟩
  · have HG1 := Lib.hid (getdoc_any s w (HT.out w (Below.refl _ _)) hs)
    have HG2 := Lib.hid (fun (W : World) (hW : Below w.heap.size w W) => refgetdoc_any s W (HT.out W hW) hs)
    have HM := Lib.hid (fun d (h : getDoc s.data.toList = some d) => getDoc_may h)
    generalize getDoc s.data.toList = o at HG1 HG2 HM
    go_enter Tryd.func9, Tryd.ntmps9
    go_upto_region 4 with fail
    refine HG1.out.mono ?_
    rintro e w1 ⟨hb1, ⟨ho, rfl⟩ | ⟨d, v, ho, rfl, hv⟩⟩
    · subst ho
      have hA1 : Below w1.heap.size w1 (w1.alloc (.cells #[.int .i64 0, .slice none 0 0, .slice none 0 0] 71)) := (by repeat (first | exact Below.refl _ _ | assumption | refine Below.drew ?_ | refine below_drewN ?_ _ | refine Below.alloc ?_ (by simp <;> omega) _))
      have HX := Lib.hid (Blk.new w1 #[.int .i64 0, .slice none 0 0, .slice none 0 0] 71)
      have HC := Lib.hid (bt hb1 hA1)
      clear hb1 hA1 HG1
      go_upto_region 4 with fail
      generalize w1.alloc (.cells #[.int .i64 0, .slice none 0 0, .slice none 0 0] 71) = W1 at HX HC ⊢
      generalize w1.heap.size = x1 at HX ⊢
      go_upto_region 5 with fail
      refine (HG2.out W1 HC.out).mono ?_
      rintro e w2 ⟨hb2, ⟨_, rfl⟩ | ⟨d, v, h, _⟩⟩
      case inr => cases h
      have hA2 : Below w2.heap.size w2 (w2.alloc (.cells #[.int .i64 0, .slice none 0 0, .slice none 0 0] 71)) := (by repeat (first | exact Below.refl _ _ | assumption | refine Below.drew ?_ | refine below_drewN ?_ _ | refine Below.alloc ?_ (by simp <;> omega) _))
      have HX2 := Lib.hid ((HX.out.ext hb2).ext hA2)
      have HC2 := Lib.hid (bt (bt HC.out hb2) hA2)
      clear hb2 hA2 HG2 HX HC
      go_upto_region 5 with fail
      generalize w2.alloc (.cells #[.int .i64 0, .slice none 0 0, .slice none 0 0] 71) = W2 at HX2 HC2 ⊢
      generalize w2.heap.size = x2
      obtain ⟨d0, d1, d2⟩ := cells3 HX2.out
      have lx := HX2.out.lt
      have HA2 := Lib.hid (HAL.out W2 HC2.out)
      go_wp2_with fail
      refine HA2.out.mono ?_
      rintro e w3 ⟨rfl, hb3⟩
      have HB3 := Lib.hid (bt HC2.out hb3)
      clear hb3 d0 d1 d2 lx
      go_wp2_with fail
      go_ret
      exact ⟨rfl, HB3.out⟩
    · subst ho
      have hsd : 0 < sizeD d := (may_size25 (HM.out d rfl)).1
      have HSD := Lib.hid hsd
      obtain ⟨A, c, K, m, rfl⟩ := hv.cells
      have hA1 : Below w1.heap.size w1 (w1.alloc (.cells #[.int .i64 d.tb, .slice A d.row.length c, .slice K d.kids.length m] 71)) := (by repeat (first | exact Below.refl _ _ | assumption | refine Below.drew ?_ | refine below_drewN ?_ _ | refine Below.alloc ?_ (by simp <;> omega) _))
      have HX := Lib.hid (Blk.new w1 #[.int .i64 d.tb, .slice A d.row.length c, .slice K d.kids.length m] 71)
      have HC := Lib.hid (bt hb1 hA1)
      have HV := Lib.hid (hv.rd.ext hA1)
      clear hb1 hA1 HG1 hv hsd
      go_upto_region 4 with fail
      generalize w1.alloc (.cells #[.int .i64 d.tb, .slice A d.row.length c, .slice K d.kids.length m] 71) = W1 at HX HC HV ⊢
      generalize w1.heap.size = x1 at HX ⊢
      go_upto_region 5 with fail
      refine (HG2.out W1 HC.out).mono ?_
      rintro e w2 ⟨hb2, ⟨h, _⟩ | ⟨d', v, h, rfl, hv⟩⟩
      · cases h
      obtain rfl : d = d' := Option.some.inj h
      obtain ⟨A2, c2, K2, m2, rfl⟩ := hv.cells
      have hA2 : Below w2.heap.size w2 (w2.alloc (.cells #[.int .i64 d.tb, .slice A2 d.row.length c2, .slice K2 d.kids.length m2] 71)) := (by repeat (first | exact Below.refl _ _ | assumption | refine Below.drew ?_ | refine below_drewN ?_ _ | refine Below.alloc ?_ (by simp <;> omega) _))
      have HX2 := Lib.hid ((HX.out.ext hb2).ext hA2)
      have HY2 := Lib.hid (Blk.new w2 #[.int .i64 d.tb, .slice A2 d.row.length c2, .slice K2 d.kids.length m2] 71)
      have HC2 := Lib.hid (bt (bt HC.out hb2) hA2)
      have HS2 := Lib.hid (Same24_any 8 8 _ _ d _ ((HV.out.ext hb2).ext hA2) (hv.rd.ext hA2) HSD.out)
      clear hb2 hA2 HG2 HX HC HV hv h
      go_upto_region 5 with fail
      generalize w2.alloc (.cells #[.int .i64 d.tb, .slice A2 d.row.length c2, .slice K2 d.kids.length m2] 71) = W2 at HX2 HY2 HC2 HS2 ⊢
      generalize w2.heap.size = x2 at HY2 ⊢
      obtain ⟨d0, d1, d2⟩ := cells3 HX2.out
      obtain ⟨y0, y1, y2⟩ := cells3 HY2.out
      have lx := HX2.out.lt
      have ly := HY2.out.lt
      go_wp2_with fail
      refine HS2.out.mono ?_
      rintro e w3 ⟨rfl, hb3⟩
      have HB3 := Lib.hid (bt HC2.out hb3)
      have HA3 := Lib.hid (HAL.out w3 HB3.out)
      clear hb3 d0 d1 d2 lx y0 y1 y2 ly
      go_wp2_with fail
      refine HA3.out.mono ?_
      rintro e w4 ⟨rfl, hb4⟩
      have HB4 := Lib.hid (bt HB3.out hb4)
      clear hb4
      go_wp2_with fail
      go_ret
      exact ⟨rfl, HB4.out⟩
end Go.Proofs.YtjdfodmialhakaaDoor
