/- The walk of DocPuts. -/
import Derived.Test.YtjdfodmialhakaaDoorDc23
namespace Go.Proofs.YtjdfodmialhakaaDoor
open Go.RowKit

theorem bare_size (x : De) : 0 < sizeD (bareD x) := by
  unfold sizeD
  have h : sizeI 8 200 (bareD x) = 1 := by simp [bareD, sizeI, sizeK, De.kids]
  rw [h]
  decide
theorem rows_size {d x : De} (h : x ∈ rowsD d) : 0 < sizeD x := by
  unfold rowsD at h
  obtain ⟨y, _, rfl⟩ := List.mem_map.1 h
  exact bare_size y
theorem rows_len {d : De} (h : mayD d = true) : (rowsD d).length ≤ 200 := by
  unfold rowsD
  rw [List.length_map]
  exact pre_le (may_size25 h).1
theorem RowsP.row {w0 w w' : World} {d : De} {r : Ending} (h : RowsP w0 d w r w') (hl : (rowsD d).length ≤ 200) (hw : Below w0.heap.size w0 w') : ∃ A c, r = .returned (.slice A (rowsD d).length c) ∧ KRow (DRd 1 w') w' A (rowsD d) ∧ Below w.heap.size w w' := by
  obtain ⟨A, c, xs, rfl, hown, hk, hb⟩ := h
  exact ⟨A, c, rfl, (KRow.of_own hown (hk.mono (fun _ _ h => h.ext hw)) (by omega)).1.1, hb⟩
theorem KRow.far {n : Nat} {w w' : World} {K : Option Addr} {ks : List De} (h : KRow (DRd n w) w K ks) (hb : Below w.heap.size w w') : KRow (DRd n w') w' K ks := h.ext hb (fun _ _ h => h.ext hb)
set_option maxRecDepth 100000 in
set_option maxHeartbeats 1600000 in
theorem docputs_walk (n : Nat) (v : Value) (d : De) (w : World) (hT : Tabs w) (hd : DRd n w v d) : Calls Tryd.prog 8 #[v] w fun r w' => r = .returned (.bool true) ∧ Below w.heap.size w w' := by
  have HT := Lib.hid (fun (W : World) (hW : Below w.heap.size w W) => hT.ext hW)
  have HAL := Lib.hid (fun (W : World) (hW : Below w.heap.size w W) => alive25_any W (hT.ext hW))
  obtain ⟨A, ca, K, ck, rfl⟩ := hd.form
  have hC : Below w.heap.size w (w.alloc (.cells #[.int .i64 d.tb, .slice A d.row.length ca, .slice K d.kids.length ck] 71)) := (by repeat (first | exact Below.refl _ _ | assumption | refine Below.drew ?_ | refine below_drewN ?_ _ | refine Below.alloc ?_ (by simp <;> omega) _))
  have hX : Blk (w.alloc (.cells #[.int .i64 d.tb, .slice A d.row.length ca, .slice K d.kids.length ck] 71)) w.heap.size #[.int .i64 d.tb, .slice A d.row.length ca, .slice K d.kids.length ck] 71 := Blk.new _ _ _
  have HC := Lib.hid hC
  have HX := Lib.hid hX
  have HD := Lib.hid (hd.ext hC)
  clear hT hd hC hX
  cases hlg : longD d with
  | true =>
    have HLG := Lib.hid (Long24_any n _ d _ HD.out true hlg)
    clear hlg
    go_enter Tryd.func8, Tryd.ntmps8
    go_upto_region 1 with fail
    generalize w.alloc (.cells #[.int .i64 d.tb, .slice A d.row.length ca, .slice K d.kids.length ck] 71) = W1 at HC HX HD HLG ⊢
    obtain ⟨x0, x1, x2⟩ := cells3 HX.out
    have lx := HX.out.lt
    go_wp2_with fail
    refine HLG.out.mono ?_
    rintro e w2 ⟨rfl, hb2⟩
    have HC2 := Lib.hid (bt HC.out hb2)
    clear hb2 x0 x1 x2 lx
    go_wp2_with fail
    refine (HAL.out _ HC2.out).mono ?_
    rintro e w3 ⟨rfl, hb3⟩
    have HC3 := Lib.hid (bt HC2.out hb3)
    clear hb3
    go_wp2_with fail
    go_ret
    exact ⟨rfl, HC3.out⟩
  | false =>
    have HLG := Lib.hid (Long24_any n _ d _ HD.out false hlg)
    have HSM := Lib.hid (long_small hlg)
    clear hlg
    go_enter Tryd.func8, Tryd.ntmps8
    go_upto_region 1 with fail
    generalize w.alloc (.cells #[.int .i64 d.tb, .slice A d.row.length ca, .slice K d.kids.length ck] 71) = W1 at HC HX HD HLG ⊢
    obtain ⟨x0, x1, x2⟩ := cells3 HX.out
    have lx := HX.out.lt
    go_upto_region 3 with fail
    refine HLG.out.mono ?_
    rintro e w2 ⟨rfl, hb2⟩
    have HC := Lib.hid (bt HC.out hb2)
    have HX := Lib.hid (HX.out.ext hb2)
    have HD := Lib.hid (HD.out.ext hb2)
    clear hb2 HLG x0 x1 x2 lx
    have HCP := Lib.hid (copy25_any n 12 _ d w2 HD.out HSM.out)
    obtain ⟨x0, x1, x2⟩ := cells3 HX.out
    have lx := HX.out.lt
    go_upto_region 4 with fail
    refine HCP.out.mono ?_
    rintro e w3 ⟨v3, rfl, hv3, hb3⟩
    obtain ⟨A3, c3, K3, m3, rfl⟩ := hv3.cells
    have hA3 : Below w3.heap.size w3 (w3.alloc (.cells #[.int .i64 d.tb, .slice A3 d.row.length c3, .slice K3 d.kids.length m3] 71)) := (by repeat (first | exact Below.refl _ _ | assumption | refine Below.drew ?_ | refine below_drewN ?_ _ | refine Below.alloc ?_ (by simp <;> omega) _))
    have HY := Lib.hid (Blk.new w3 #[.int .i64 d.tb, .slice A3 d.row.length c3, .slice K3 d.kids.length m3] 71)
    have HC := Lib.hid (bt (bt HC.out hb3) hA3)
    have HX := Lib.hid ((HX.out.ext hb3).ext hA3)
    have HD := Lib.hid ((HD.out.ext hb3).ext hA3)
    have HV := Lib.hid (hv3.rd.ext hA3)
    clear hb3 hA3 hv3 HCP x0 x1 x2 lx
    go_upto_region 4 with fail
    generalize w3.alloc (.cells #[.int .i64 d.tb, .slice A3 d.row.length c3, .slice K3 d.kids.length m3] 71) = W3 at HY HC HX HD HV ⊢
    generalize w3.heap.size = y3 at HY ⊢
    obtain ⟨y0, y1, y2⟩ := cells3 HY.out
    have ly := HY.out.lt
    have HCK := Lib.hid (check25_any n _ d W3 (HT.out W3 HC.out) HV.out)
    cases hmd : mayD d with
    | false =>
      rw [hmd] at HCK
      simp only [show okE false = 2 from rfl] at HCK
      go_upto_region 5 with fail
      refine HCK.out.mono ?_
      rintro e w4 ⟨rfl, hb4⟩
      have HC := Lib.hid (bt HC.out hb4)
      have HX := Lib.hid (HX.out.ext hb4)
      have HY := Lib.hid (HY.out.ext hb4)
      have HD := Lib.hid (HD.out.ext hb4)
      have HV := Lib.hid (HV.out.ext hb4)
      clear hb4 y0 y1 y2 ly
      obtain ⟨y0, y1, y2⟩ := cells3 HY.out
      have ly := HY.out.lt
      have HPT := Lib.hid (put25_not n _ d w4 (HT.out w4 HC.out) HV.out hmd)
      go_upto_region 6 with fail
      refine HPT.out.mono ?_
      rintro e w5 ⟨rfl, hb5⟩
      have HC := Lib.hid (bt HC.out hb5)
      have HX := Lib.hid (HX.out.ext hb5)
      have HY := Lib.hid (HY.out.ext hb5)
      have HD := Lib.hid (HD.out.ext hb5)
      have HV := Lib.hid (HV.out.ext hb5)
      clear hb5 y0 y1 y2 ly
      obtain ⟨y0, y1, y2⟩ := cells3 HY.out
      have ly := HY.out.lt
      have HRW := Lib.hid (rows25_not n _ d w5 (HT.out w5 HC.out) HV.out hmd)
      go_upto_region 7 with fail
      refine HRW.out.mono ?_
      rintro e w6 ⟨rfl, hb6⟩
      have HC := Lib.hid (bt HC.out hb6)
      have HX := Lib.hid (HX.out.ext hb6)
      have HY := Lib.hid (HY.out.ext hb6)
      have HD := Lib.hid (HD.out.ext hb6)
      have HV := Lib.hid (HV.out.ext hb6)
      clear hb6 y0 y1 y2 ly
      obtain ⟨y0, y1, y2⟩ := cells3 HY.out
      have ly := HY.out.lt
      obtain ⟨x0, x1, x2⟩ := cells3 HX.out
      have lx := HX.out.lt
      have HSZ := Lib.hid (refsize24_any n _ d w6 HD.out)
      by_cases hs : 0 < sizeD d
      · go_upto_region 9 with fail
        refine HSZ.out.mono ?_
        rintro e w7 ⟨rfl, hb7⟩
        have HC := Lib.hid (bt HC.out hb7)
        have HX := Lib.hid (HX.out.ext hb7)
        have HY := Lib.hid (HY.out.ext hb7)
        have HD := Lib.hid (HD.out.ext hb7)
        have HV := Lib.hid (HV.out.ext hb7)
        clear hb7 y0 y1 y2 ly x0 x1 x2 lx
        obtain ⟨y0, y1, y2⟩ := cells3 HY.out
        have ly := HY.out.lt
        obtain ⟨x0, x1, x2⟩ := cells3 HX.out
        have lx := HX.out.lt
        have HSM := Lib.hid (Same24_any n n _ _ d w7 HV.out HD.out hs)
        go_upto_region 9 with fail
        refine HSM.out.mono ?_
        rintro e w8 ⟨rfl, hb8⟩
        have HC := Lib.hid (bt HC.out hb8)
        have HX := Lib.hid (HX.out.ext hb8)
        have HY := Lib.hid (HY.out.ext hb8)
        have HD := Lib.hid (HD.out.ext hb8)
        have HV := Lib.hid (HV.out.ext hb8)
        clear hb8 y0 y1 y2 ly x0 x1 x2 lx
        obtain ⟨y0, y1, y2⟩ := cells3 HY.out
        have ly := HY.out.lt
        obtain ⟨x0, x1, x2⟩ := cells3 HX.out
        have lx := HX.out.lt
        go_upto_region 9 with fail
        have HMY := Lib.hid (may25_any n _ d _ (HT.out _ HC.out) HD.out)
        rw [hmd] at HMY
        go_upto_region 10 with fail
        refine HMY.out.mono ?_
        rintro e w9 ⟨rfl, hb9⟩
        have HC9 := Lib.hid (bt HC.out hb9)
        have HA9 := Lib.hid (HAL.out w9 HC9.out)
        clear hb9 HMY y0 y1 y2 ly x0 x1 x2 lx
        go_wp2_with fail
        refine HA9.out.mono ?_
        rintro e w10 ⟨rfl, hb10⟩
        have HC10 := Lib.hid (bt HC9.out hb10)
        clear hb10
        go_wp2_with fail
        go_ret
        exact ⟨rfl, HC10.out⟩
      · have hs' := hs
        generalize sizeD d = q at hs' HSZ
        go_upto_region 9 with fail
        refine HSZ.out.mono ?_
        rintro e w7 ⟨rfl, hb7⟩
        have HC := Lib.hid (bt HC.out hb7)
        have HX := Lib.hid (HX.out.ext hb7)
        have HY := Lib.hid (HY.out.ext hb7)
        have HD := Lib.hid (HD.out.ext hb7)
        have HV := Lib.hid (HV.out.ext hb7)
        clear hb7 y0 y1 y2 ly x0 x1 x2 lx
        obtain ⟨y0, y1, y2⟩ := cells3 HY.out
        have ly := HY.out.lt
        obtain ⟨x0, x1, x2⟩ := cells3 HX.out
        have lx := HX.out.lt
        go_upto_region 9 with fail
        have HMY := Lib.hid (may25_any n _ d _ (HT.out _ HC.out) HD.out)
        rw [hmd] at HMY
        go_upto_region 10 with fail
        refine HMY.out.mono ?_
        rintro e w9 ⟨rfl, hb9⟩
        have HC9 := Lib.hid (bt HC.out hb9)
        have HA9 := Lib.hid (HAL.out w9 HC9.out)
        clear hb9 HMY y0 y1 y2 ly x0 x1 x2 lx
        go_wp2_with fail
        refine HA9.out.mono ?_
        rintro e w10 ⟨rfl, hb10⟩
        have HC10 := Lib.hid (bt HC9.out hb10)
        clear hb10
        go_wp2_with fail
        go_ret
        exact ⟨rfl, HC10.out⟩
    | true =>
      rw [hmd] at HCK
      simp only [show okE true = 0 from rfl] at HCK
      have hpd := putD_len hmd
      have hrl := rows_len hmd
      have hsf := may_size25 hmd
      have hs := hsf.1
      have hf := hsf.2
      have HRZ := Lib.hid (fun x (h : x ∈ rowsD d) => rows_size h)
      go_upto_region 5 with fail
      refine HCK.out.mono ?_
      rintro e w4 ⟨rfl, hb4⟩
      have HC := Lib.hid (bt HC.out hb4)
      have HX := Lib.hid (HX.out.ext hb4)
      have HY := Lib.hid (HY.out.ext hb4)
      have HD := Lib.hid (HD.out.ext hb4)
      have HV := Lib.hid (HV.out.ext hb4)
      clear hb4 y0 y1 y2 ly
      obtain ⟨y0, y1, y2⟩ := cells3 HY.out
      have ly := HY.out.lt
      have HPT := Lib.hid (put25_yes n _ d w4 (HT.out w4 HC.out) HV.out hmd)
      go_upto_region 6 with fail
      refine HPT.out.mono ?_
      rintro e w5 ⟨rfl, hb5⟩
      have HC := Lib.hid (bt HC.out hb5)
      have HX := Lib.hid (HX.out.ext hb5)
      have HY := Lib.hid (HY.out.ext hb5)
      have HD := Lib.hid (HD.out.ext hb5)
      have HV := Lib.hid (HV.out.ext hb5)
      clear hb5 y0 y1 y2 ly
      obtain ⟨y0, y1, y2⟩ := cells3 HY.out
      have ly := HY.out.lt
      have HRW := Lib.hid (rows25_yes n _ d w5 (HT.out w5 HC.out) HV.out hmd)
      go_upto_region 7 with fail
      refine HRW.out.mono ?_
      rintro e w6 hrp
      obtain ⟨A6, c6, rfl, hk6, hb6⟩ := hrp.row hrl (by obtain ⟨_, _, _, _, _, _, h⟩ := hrp; exact h)
      have HC := Lib.hid (bt HC.out hb6)
      have HX := Lib.hid (HX.out.ext hb6)
      have HY := Lib.hid (HY.out.ext hb6)
      have HD := Lib.hid (HD.out.ext hb6)
      have HV := Lib.hid (HV.out.ext hb6)
      clear hb6 y0 y1 y2 ly
      obtain ⟨y0, y1, y2⟩ := cells3 HY.out
      have ly := HY.out.lt
      have HK6 := Lib.hid hk6
      clear hk6 hrp HRW HPT HCK
      obtain ⟨x0, x1, x2⟩ := cells3 HX.out
      have lx := HX.out.lt
      have HSZ := Lib.hid (refsize24_any n _ d w6 HD.out)
      go_upto_region 9 with fail
      refine HSZ.out.mono ?_
      rintro e w7 ⟨rfl, hb7⟩
      have HK7 := Lib.hid (HK6.out.far hb7)
      have HC := Lib.hid (bt HC.out hb7)
      have HX := Lib.hid (HX.out.ext hb7)
      have HY := Lib.hid (HY.out.ext hb7)
      have HD := Lib.hid (HD.out.ext hb7)
      have HV := Lib.hid (HV.out.ext hb7)
      clear hb7 y0 y1 y2 ly x0 x1 x2 lx
      obtain ⟨y0, y1, y2⟩ := cells3 HY.out
      have ly := HY.out.lt
      obtain ⟨x0, x1, x2⟩ := cells3 HX.out
      have lx := HX.out.lt
      have HSM := Lib.hid (Same24_any n n _ _ d w7 HV.out HD.out hs)
      go_upto_region 9 with fail
      refine HSM.out.mono ?_
      rintro e w8 ⟨rfl, hb8⟩
      have HK8 := Lib.hid (HK7.out.far hb8)
      have HC := Lib.hid (bt HC.out hb8)
      have HX := Lib.hid (HX.out.ext hb8)
      have HY := Lib.hid (HY.out.ext hb8)
      have HD := Lib.hid (HD.out.ext hb8)
      have HV := Lib.hid (HV.out.ext hb8)
      clear hb8 y0 y1 y2 ly x0 x1 x2 lx
      obtain ⟨y0, y1, y2⟩ := cells3 HY.out
      have ly := HY.out.lt
      obtain ⟨x0, x1, x2⟩ := cells3 HX.out
      have lx := HX.out.lt
      go_upto_region 9 with fail
      clear hs HSM HSZ HK6 HK7
      have HMY := Lib.hid (may25_any n _ d _ (HT.out _ HC.out) HD.out)
      rw [hmd] at HMY
      go_upto_region 11 with fail
      refine HMY.out.mono ?_
      rintro e w9 ⟨rfl, hb9⟩
      have HK9 := Lib.hid (HK8.out.far hb9)
      have HC := Lib.hid (bt HC.out hb9)
      have HX := Lib.hid (HX.out.ext hb9)
      have HY := Lib.hid (HY.out.ext hb9)
      have HD := Lib.hid (HD.out.ext hb9)
      have HV := Lib.hid (HV.out.ext hb9)
      clear hb9 y0 y1 y2 ly x0 x1 x2 lx
      obtain ⟨y0, y1, y2⟩ := cells3 HY.out
      have ly := HY.out.lt
      obtain ⟨x0, x1, x2⟩ := cells3 HX.out
      have lx := HX.out.lt
      clear HMY HK8
      go_upto_region 11 with fail
      have HRP := Lib.hid (refput25_any n _ d w9 HD.out hf (by omega))
      have HRR := Lib.hid (fun (W : World) (hW : Below w9.heap.size w9 W) => refrows25_any W n _ d W (HD.out.ext hW) (Below.refl _ _) (by omega))
      have hsz : (⟨(putD d).toArray⟩ : ByteArray).size ≤ 164000 := by simpa [ByteArray.size] using hpd
      obtain ⟨S, hS⟩ : ∃ S : ByteArray, S = ⟨(putD d).toArray⟩ := ⟨_, rfl⟩
      rw [← hS] at HRP hsz ⊢
      have hsz' : (S.size : Int) ≤ 165600 := by omega
      clear hS hpd hf
      go_wp2_with fail
      refine HRP.out.mono ?_
      rintro e w10 ⟨rfl, hb10⟩
      have HK10 := Lib.hid (HK9.out.far hb10)
      have HR10 := Lib.hid (HRR.out w10 hb10)
      have HC := Lib.hid (bt HC.out hb10)
      have HX := Lib.hid (HX.out.ext hb10)
      have HY := Lib.hid (HY.out.ext hb10)
      have HD := Lib.hid (HD.out.ext hb10)
      have HV := Lib.hid (HV.out.ext hb10)
      clear hb10 y0 y1 y2 ly x0 x1 x2 lx
      obtain ⟨y0, y1, y2⟩ := cells3 HY.out
      have ly := HY.out.lt
      obtain ⟨x0, x1, x2⟩ := cells3 HX.out
      have lx := HX.out.lt
      clear HRP HRR HK9
      go_wp2_with fail
      refine HR10.out.mono ?_
      rintro e w11 hrp
      obtain ⟨A11, c11, rfl, hk11, hb11⟩ := hrp.row hrl (by obtain ⟨_, _, _, _, _, _, h⟩ := hrp; exact h)
      have HSA := Lib.hid (sameall_any 1 1 A6 A11 c6 c11 (rowsD d) w11 (HK10.out.far hb11) hk11 HRZ.out)
      have HC11 := Lib.hid (bt HC.out hb11)
      clear hk11 hrp HK10 HR10 hb11 y0 y1 y2 ly x0 x1 x2 lx
      go_wp2_with fail
      refine HSA.out.mono ?_
      rintro e w12 ⟨rfl, hb12⟩
      have HC12 := Lib.hid (bt HC11.out hb12)
      have HA12 := Lib.hid (HAL.out w12 HC12.out)
      clear hb12 HSA
      go_wp2_with fail
      refine HA12.out.mono ?_
      rintro e w13 ⟨rfl, hb13⟩
      have HC13 := Lib.hid (bt HC12.out hb13)
      clear hb13
      go_wp2_with fail
      go_ret
      exact ⟨rfl, HC13.out⟩
end Go.Proofs.YtjdfodmialhakaaDoor
