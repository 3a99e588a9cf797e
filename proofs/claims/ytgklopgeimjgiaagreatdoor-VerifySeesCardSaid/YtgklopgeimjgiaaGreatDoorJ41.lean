/- Several texts in one: see each part's head. -/
import Derived.Laws.AppendOwnNone
import Derived.Test.YtgklopgeimjgiaaGreatDoorJ30
/- VerifySees: the reference's Do: what an op makes of its state (doS). -/
namespace Go.Proofs.YtgklopgeimjgiaaGreatDoor
open Go.RowKit

variable {us : List Ta} {x : Nat} {A G : Option Addr} {c gc : Nat} {tn : Int} {its : List It} {lo : Nat} {w w' : World}
theorem info_Row : (Tryz.prog.info? 109).map (fun i => (i.zero, i.size, i.bytes)) = some (some (.agg #[.int .i64 0, .slice none 0 0]), 2, 32) := by kernel_rfl
set_option maxRecDepth 100000 in
set_option maxHeartbeats 3200000 in
theorem refdo_any (h : RefR us x A c G gc tn its lo w) (hT : Tabs w) (kd t : Int) (B : Option Addr) (rc : Nat) (row : List V) (hv : VRow w B row) (hB : row ≠ [] → ∀ p, B = some p → p.block < lo) :
    Calls Tryz.prog 25 #[.pointer (some ⟨x, 0, none⟩), .agg #[.int .u8 kd, .int .i64 t, .slice B row.length rc]] w (RDoQ us x A G c lo (doS us (its.map It.x) kd t row) w) := by
  have HMY := Lib.hid (fun (W : World) (hW : Below w.heap.size w W) => refmay14_any (h.ext hW) (hT.ext hW) kd t B rc row (hv.ext hW))
  have HR := Lib.hid h
  have HV := Lib.hid hv
  have HBL := Lib.hid hB
  obtain ⟨F, hF⟩ : ∃ q, q = doS us (its.map It.x) kd t row := ⟨_, rfl⟩
  rw [← hF]
  have HF := Lib.hid hF
  have HNO := Lib.hid (fun hm => hF.trans (mayF_no (l := its.map It.x) (kd := kd) (t := t) (row := row) hm))
  have HST : Hid (StI us F.2) := by show StI us F.2; rw [hF]; exact doS_ok h.i kd t hv.1
  clear h hT hv hF hB
  go_enter Tryz.func25, Tryz.ntmps25
  have hbo := Blk.new w #[.int .u8 kd, .int .i64 t, .slice B row.length rc] 58
  have hC : Below w.heap.size w (w.alloc (.cells #[.int .u8 kd, .int .i64 t, .slice B row.length rc] 58)) := (by repeat (first | exact Below.refl _ _ | assumption | refine Below.drew ?_ | refine below_drewN ?_ _ | refine Below.alloc ?_ (by simp <;> omega) _))
  have HBO := Lib.hid hbo
  have HC := Lib.hid hC
  clear hbo hC
  go_upto_region 1 with fail
  generalize w.alloc (.cells #[.int .u8 kd, .int .i64 t, .slice B row.length rc] 58) = W0 at HBO HC ⊢
  generalize hBo : w.heap.size = Bo at HBO ⊢
  clear hBo
  have o0 := HBO.out.cell 0
  have o1 := HBO.out.cell 1
  have o2 := HBO.out.cell 2
  have l1 := HBO.out.lt
  simp only [List.getElem?_toArray, List.getElem?_cons_zero, List.getElem?_cons_succ] at o0 o1 o2
  go_wp2_with fail
  refine (HMY.out _ HC.out).mono ?_
  rintro q w1 ⟨rfl, hb⟩
  have HC1 := Lib.hid (bt HC.out hb)
  have HBO1 := Lib.hid (HBO.out.ext hb)
  clear o0 o1 o2 l1 HBO HC HMY hb
  cases hmay : mayF us kd t row
  · have HE := Lib.hid (HNO.out hmay)
    go_wp2_with fail
    refine bodyPost_ret (v := .tuple #[.slice none 0 0, .slice none 0 0, .int .i64 2]) (by simp [results, Tryz.results25, go_sem]) rfl ?_
    rw [HE.out]
    exact HR.out.same HC1.out
  · have hyes := mayF_yes hmay
    clear hmay HNO
    obtain ⟨hne, hcase⟩ := hyes
    have HCASE := Lib.hid hcase
    have HNE := Lib.hid hne
    clear hcase
    obtain ⟨n, hn⟩ : ∃ q, q = row.length := ⟨_, rfl⟩
    have hpos : 0 < row.length := List.length_pos_iff.2 hne
    obtain ⟨bb, off, v0, rfl, hbb, hv0, _, hvw0, d0, d1, d2, d3⟩ := HV.out.at_ (k := 0) hpos
    simp only [Nat.zero_mul, Nat.add_zero] at d0 d1 d2 d3
    have e0 := (HC1.out.cell (p := ⟨bb, off, none⟩) hbb).trans d0
    have e1 := (HC1.out.cell (p := ⟨bb, off + 1, none⟩) hbb).trans d1
    have e2 := (HC1.out.cell (p := ⟨bb, off + 2, none⟩) hbb).trans d2
    have e3 := (HC1.out.cell (p := ⟨bb, off + 3, none⟩) hbb).trans d3
    have HV0 := Lib.hid (And.intro hv0 hvw0)
    obtain ⟨zk, zn, zr, zt⟩ := v0
    simp only at e0 e1 e2 e3
    have o0 := HBO1.out.cell 0
    have o2 := HBO1.out.cell 2
    have l1 := HBO1.out.lt
    have hlb := Nat.lt_of_lt_of_le hbb HC1.out.size
    simp only [List.getElem?_toArray, List.getElem?_cons_zero, List.getElem?_cons_succ] at o0 o2
    clear hbb hv0 hvw0 d0 d1 d2 d3
    go_upto_region 4 with fail
    have hb7 := Blk.new w1 #[.int .u8 zk, .int .i64 zn, .int .u64 zr, .string zt] 49
    have hbl7 : Below w1.heap.size w1 (w1.alloc (.cells #[.int .u8 zk, .int .i64 zn, .int .u64 zr, .string zt] 49)) := (by repeat (first | exact Below.refl _ _ | assumption | refine Below.drew ?_ | refine below_drewN ?_ _ | refine Below.alloc ?_ (by simp <;> omega) _))
    have HB7 := Lib.hid hb7
    have HC2 := Lib.hid (bt HC1.out hbl7)
    have HBO2 := Lib.hid (HBO1.out.ext hbl7)
    clear hb7 hbl7 e0 e1 e2 e3 o0 o2 l1 hlb
    generalize w1.alloc (.cells #[.int .u8 zk, .int .i64 zn, .int .u64 zr, .string zt] 49) = w2 at HB7 HC2 HBO2 ⊢
    have HX7 : Hid (w.heap.size ≤ w1.heap.size) := HC1.out.size
    generalize w1.heap.size = B7 at HB7 HX7 ⊢
    have o0 := HBO2.out.cell 0
    have o1 := HBO2.out.cell 1
    have o2 := HBO2.out.cell 2
    have lo' := HBO2.out.lt
    simp only [List.getElem?_toArray, List.getElem?_cons_zero, List.getElem?_cons_succ] at o0 o1 o2
    obtain ⟨j, kv, rfl, hkw, hc2⟩ : ∃ (j : Nat) (kv : V), t = j ∧ kv.wf ∧ ((kd = 3 ∧ row = [kv] ∧ F = delF us (its.map It.x) (j, kv)) ∨ ((kd = 1 ∨ kd = 2) ∧ kd ≠ 3 ∧ rowS us j row = true ∧ keyN us j row = kv)) := by
      rcases HCASE.out with ⟨rfl, k, rfl, hks⟩ | ⟨hk12, hk3, hrs⟩
      · have hn := keyS_nat hks
        refine ⟨t.toNat, k, hn.1.symm, HV.out.1 k (by simp), Or.inl ⟨rfl, rfl, ?_⟩⟩
        rw [HF.out, doS_del hks]
      · have hn := rowS_nat hrs
        rw [← hn] at hrs
        obtain ⟨u, kj, v, hju, hj, hkj, hkl, hvk, hkey⟩ := rowS_key hrs
        exact ⟨t.toNat, v, hn.symm, HV.out.1 v (List.mem_of_getElem? hvk), Or.inr ⟨hk12, hk3, hrs, hkey⟩⟩
    have HCC := Lib.hid hc2
    have HVW := Lib.hid hkw
    clear hc2 hkw HCASE
    obtain ⟨kk, kn, kr, kt⟩ := kv
    have HN := Lib.hid hn
    rw [← hn] at HBO2 o2 ⊢
    clear hn
    go_upto_if 23 with fail
    go_cut [] (fun wx => Hid (Blk wx B7 #[.int .u8 kk, .int .i64 kn, .int .u64 kr, .string kt] 49) ∧ Hid (Blk wx Bo #[.int .u8 kd, .int .i64 j, .slice (some ⟨bb, off, none⟩) n rc] 58) ∧ Hid (Below w.heap.size w wx))
    case first =>
      rcases HCC.out with ⟨rfl, hrow, _⟩ | ⟨hk12, hk3, hrs, hkey⟩
      · have e : (⟨zk, zn, zr, zt⟩ : V) = ⟨kk, kn, kr, kt⟩ := by
          have h := HV0.out.1
          rw [hrow] at h
          simpa using h.symm
        injection e with e1 e2 e3 e4
        subst e1; subst e2; subst e3; subst e4
        clear hrow
        go_wp2_with fail
        go_meet
        exact ⟨HB7.out, HBO2.out, HC2.out⟩
      · obtain ⟨u, kj, v, hju, hj, hkj, hkl, hvk, hkey'⟩ := rowS_key hrs
        obtain rfl : v = ⟨kk, kn, kr, kt⟩ := hkey'.symm.trans hkey
        have q3 : (kd != 3) = true := by rw [bne_iff_ne]; exact hk3
        rw [q3]
        clear q3
        obtain ⟨b', off', v', e', hbb, hvk', _, hvw, d0, d1, d2, d3⟩ := HV.out.at_ hkl
        injection e' with e'
        injection e' with e1' e2'
        subst e1'; subst e2'
        rw [hvk, Option.some.injEq] at hvk'
        subst hvk'
        obtain ⟨ab, ao, u', hA, hab, hju', _, _, _, e0, e1, e2, e3, e4⟩ := HR.out.s.trow.at_ hj
        rw [hju, Option.some.injEq] at hju'
        subst hju'
        rw [hkj] at e2
        have HD := Lib.hid (And.intro hbb (And.intro d0 (And.intro d1 (And.intro d2 d3))))
        have HEE := Lib.hid (And.intro hab e2)
        have HA := Lib.hid hA
        have HXB := HR.out.b
        rw [hA] at HXB
        have HXB := Lib.hid HXB
        simp only at HD
        have i0 : (j : Int) < us.length := by omega
        have i1 : (kj : Int) < n := by have := HN.out; omega
        clear hju hkj hkl hvk hbb hvw d0 d1 d2 d3 hab e0 e1 e2 e3 e4 hj hrs hk12 hk3 hkey hkey' hA
        go_upto_region 5 with fail
        clear o0 o1 o2 lo'
        refine region_last 14 _ [false, false, false, false, false, false, false, false, false, false, false, false, false, false, false, false, false, false, false, false, false, false, false, false, true, true, true, true, true, true, true, true, true, true, true, true, true, true, false, false, false, false, false, false, false, false, false, false, false, false, false, false, false, false, false, false, false, false, false, false, false, false, false, false, false, false, false, false, false, false, false, false, false, false, false, false, false, false, false, false, false, false, false, false, false, false, false, false, false, false, false, false, false, false, false, false, false, false, false, false, false, false, false, false, false, false, false, false, false, false, false, false, false, false, false, false, false, false, false, false, false, false, false, false, false, false, false, false, false, false, false, false, false, false, false, false, false, false, false, false, false, false, false, false, false, false, false, false, false, false, false, false, false, false, false] [24, 25, 26, 27, 28, 29, 30, 31, 32, 33, 34, 35, 36, 37] [.val (.pointer (some ⟨Bo, 2, none⟩)), .val (.slice (some ⟨bb, off, none⟩) n rc), .val (.pointer (some ⟨x, 0, none⟩)), .val (.pointer (some ⟨x, 0, none⟩)), .val (.pointer (some ⟨x, 0, none⟩)), .val (.pointer (some ⟨x, 0, none⟩)), .val (.slice (some ⟨ab, ao, none⟩) us.length c), .val (.pointer (some ⟨Bo, 1, none⟩)), .val (.int .i64 j), .val (.pointer (some ⟨ab, ao + j * 5, none⟩)), .val (.pointer (some ⟨ab, ao + j * 5 + 2, none⟩)), .val (.int .i64 kj), .val (.pointer (some ⟨bb, off + kj * 4, none⟩)), .val (.agg #[.int .u8 kk, .int .i64 kn, .int .u64 kr, .string kt])] [13] (by kernel_rfl) (by kernel_rfl) rfl (by kernel_rfl) (by kernel_rfl) (by kernel_rfl) (by kernel_rfl) (by kernel_rfl) ⟨?_, ?_, ?_, ?_, ?_, ?_, ?_, ?_, ?_, ?_, ?_, ?_, ?_, ?_, trivial⟩ ?done
        case done =>
          intro x9 w5 hb5
          simp only [StepGoal, List.getD_cons_zero, List.getD_cons_succ]
          intro K hK
          have hg5 := HB7.out.ext hb5
          have HBO5 := Lib.hid (putBlk_ne (b := B7) (cs := #[.int .u8 kk, .int .i64 kn, .int .u64 kr, .string kt]) (t := 49) (HBO2.out.ext hb5) (blk_nt (HBO2.out.ext hb5) hg5 (by decide)))
          have HB5 := Lib.hid (putBlk_below (b := B7) #[.int .u8 kk, .int .i64 kn, .int .u64 kr, .string kt] 49 (bt HC2.out hb5) (HX7.out))
          obtain ⟨w3, rfl, lt⟩ := blk_put hg5
          obtain ⟨pc, pf, pS⟩ := putBlk_facts (w := w3) 49 lt
          rw [put_put'] at HB5 HBO5
          clear hg5 hb5
          rw [if_pos (by rfl)]; simp only [overlay, upd, cond_true, cond_false, Nat.reduceEqDiff, reduceIte]
          go_simp
          refine hK.out _ _ ?_
          go_wp2_with fail
          go_meet
          exact ⟨putBlk_blk _ _ lt, HBO5.out, HB5.out⟩
        all_goals
          intro x9 w8 hT8
          intro K hK
          have hb8 := bt HC2.out hT8
          have h38 := HBO2.out.ext hT8
          have hr8 := HXB.out.ext hb8
          have o1 := h38.cell 1
          have o2 := h38.cell 2
          have l3 := h38.lt
          have r0 := hr8.cell 0
          have lr := hr8.lt
          have d0 := (hb8.cell (p := ⟨bb, off + kj * 4, none⟩) HD.out.1).trans HD.out.2.1
          have d1 := (hb8.cell (p := ⟨bb, off + kj * 4 + 1, none⟩) HD.out.1).trans HD.out.2.2.1
          have d2 := (hb8.cell (p := ⟨bb, off + kj * 4 + 2, none⟩) HD.out.1).trans HD.out.2.2.2.1
          have d3 := (hb8.cell (p := ⟨bb, off + kj * 4 + 3, none⟩) HD.out.1).trans HD.out.2.2.2.2
          have a2 := (hb8.cell (p := ⟨ab, ao + j * 5 + 2, none⟩) HEE.out.1).trans HEE.out.2
          simp only [List.getElem?_toArray, List.getElem?_cons_zero, List.getElem?_cons_succ] at o1 o2 r0
          clear h38 hr8
          rw [if_pos (by rfl)]; simp only [overlay, upd, cond_true, cond_false, List.getD_cons_zero, List.getD_cons_succ, Nat.reduceEqDiff, reduceIte]
          go_simp
          exact hK.out _ _ (Below.refl _ _) rfl
    case rest =>
      obtain ⟨HB7, HBO2, HC2⟩ := hcut
      rename World => w3
      clear HX7 HV0 HBO1 HC1 o0 o1 o2 lo'
      have HAT := Lib.hid (fun (W : World) (hW : Below w.heap.size w W) => refat_any (HR.out.ext hW) j ⟨kk, kn, kr, kt⟩ HVW.out)
      unfold V.agg at HAT
      simp only at HAT
      have o0 := HBO2.out.cell 0
      have o1 := HBO2.out.cell 1
      have lo' := HBO2.out.lt
      have k0 := HB7.out.cell 0
      have k1 := HB7.out.cell 1
      have k2 := HB7.out.cell 2
      have k3 := HB7.out.cell 3
      have l7 := HB7.out.lt
      simp only [List.getElem?_toArray, List.getElem?_cons_zero, List.getElem?_cons_succ] at o0 o1 k0 k1 k2 k3
      go_wp2_with fail
      refine (HAT.out _ HC2.out).mono ?_
      rintro q w4 ⟨⟨is, rfl, his⟩, hb⟩
      have HC4 := Lib.hid (bt HC2.out hb)
      have HBO4 := Lib.hid (HBO2.out.ext hb)
      have HIS := Lib.hid his
      have HIL : Hid (atI (plN us) (its.map It.x) (j, ⟨kk, kn, kr, kt⟩) ≤ its.length) := by show _ ≤ _; have := atI_le (pl := plN us) (p := (j, ⟨kk, kn, kr, kt⟩)) (its.map It.x); simpa using this
      clear hb his o0 o1 lo' k0 k1 k2 k3 l7 HAT HB7 HC2 HBO2
      obtain ⟨i, hi⟩ : ∃ i, i = atI (plN us) (its.map It.x) (j, ⟨kk, kn, kr, kt⟩) := ⟨_, rfl⟩
      rw [← hi] at HIL ⊢
      have HI := Lib.hid hi
      clear hi
      have o0 := HBO4.out.cell 0
      have lo' := HBO4.out.lt
      have r1 := (HR.out.b.ext HC4.out).cell 1
      have lr := (HR.out.b.ext HC4.out).lt
      simp only [List.getElem?_toArray, List.getElem?_cons_zero, List.getElem?_cons_succ] at o0 r1
      have HGF : Hid (∀ ad, G = some ad → ∃ g, ad = ⟨g, 0, none⟩ ∧ its.length ≤ gc) := by
        show ∀ _, _
        rintro ad rfl
        obtain ⟨_, ⟨h1, _⟩ | ⟨q, cap, cur, h1, h2, h3, h4, _⟩⟩ := HR.out.g
        · cases h1
        · simp only [Value.slice.injEq, Option.some.injEq, true_and] at h1
          exact ⟨q, h1.1, by omega⟩
      have HGN : Hid (G = none → its = [] ∧ gc = 0) := by
        show _ → _
        rintro rfl
        obtain ⟨_, ⟨h1, h2⟩ | ⟨q, cap, cur, h1, h2, h3, h4, _⟩⟩ := HR.out.g
        · simp only [Value.slice.injEq, true_and] at h1
          exact ⟨List.eq_nil_of_length_eq_zero h2, h1.2⟩
        · cases h1
      obtain ⟨i0, hi0, hz0, hz1, hz2⟩ := info_parts info_Row
      by_cases hk1 : kd = 1
      · subst hk1
        obtain ⟨hrs, hkey⟩ : rowS us j row = true ∧ keyN us j row = ⟨kk, kn, kr, kt⟩ := by
          rcases HCC.out with ⟨h, _⟩ | ⟨_, _, h⟩
          · omega
          · exact h
        have HL : Hid (row.length ≤ 1000) := by show _ ≤ _; have := (row_in hrs HR.out.h).2; omega
        have HPX : Hid (plN us ((j : Nat), row) = (j, ⟨kk, kn, kr, kt⟩)) := by show _ = _; unfold plN; rw [hkey]
        have HDO := Lib.hid (HF.out.trans (doS_ins hrs))
        rw [Int.toNat_natCast] at HDO
        clear hrs hkey HCC
        cases is
        · have hn' : ¬ HasP (plN us) (its.map It.x) (plN us (j, row)) := fun hh => by rw [HPX.out] at hh; have := HIS.out.2 hh; cases this
          have hil := HIL.out
          by_cases h200 : 200 ≤ its.length
          · have HF4 : Hid (F = (4, its.map It.x)) := by
              show _ = _
              rw [HDO.out]; unfold insF; rw [if_neg hn', if_pos (by simpa using h200)]
            have q2 : (200 : Int) ≤ its.length := by omega
            clear hn'
            go_wp2_with fail
            refine bodyPost_ret (v := .tuple #[.slice none 0 0, .slice none 0 0, .int .i64 4]) (by simp [results, Tryz.results25, go_sem]) rfl ?_
            rw [HF4.out]
            exact HR.out.same HC4.out
          · have q2 : ¬ (200 : Int) ≤ its.length := by omega
            have i2 : (i : Int) ≤ its.length := by omega
            have i3 : (0 : Int) ≤ i := by omega
            have HFI : Hid (F = (0, (its.map It.x).take i ++ (j, row) :: (its.map It.x).drop i)) := by
              show _ = _
              rw [HDO.out]; unfold insF; rw [if_neg hn', if_neg (by simpa using h200), HPX.out, ← HI.out]
            have H200 := Lib.hid h200
            clear hn' h200
            go_upto_region 12 with fail
            go_cut [10] (fun R wx => ∃ RA rq, R = .slice RA (its.drop i).length rq ∧ ((its.drop i).length = 0 → RA = none ∧ rq = 0) ∧ Hid (Below w4.heap.size w4 wx) ∧ Hid (wx.ownsRow w4.heap.size 109 2 (.slice RA (its.drop i).length rq) (its.drop i).length (itcells (its.drop i))))
            case first =>
              rcases G with _ | ad
              · obtain ⟨rfl, rfl⟩ := HGN.out rfl
                obtain rfl : i = 0 := by simpa using hil
                go_wp2_with fail
                go_meet
                exact ⟨none, 0, rfl, fun _ => ⟨rfl, rfl⟩, Below.refl _ _, World.ownsRow_nil _ _ _ _⟩
              · obtain ⟨g, rfl, hgc⟩ := HGF.out ad rfl
                have i4 : (i : Int) ≤ gc := by omega
                by_cases hgi : gc = i
                · have hgi2 : its.length = i := by omega
                  go_wp2_with (at_builtin; refine wpList_append_own _ rfl _ _ 93 rfl w4.heap.size 109 i0 _ 2 32 Tryz.underlying93 hi0 hz0 hz1 hz2 rfl (by decide) (.slice none 0 0) 0 [] rfl (World.ownsRow_nil _ _ _ _) ⟨g, 0, none⟩ 0 0 (itcells []) (by simp [go_sem, hgi, hgi2]) rfl (by simp [itcells]) (it_one _) (by simp only [maxLen]; omega) (by omega) (Nat.le_refl _) ?_)
                  intro v' w5 hown hg5 hiff
                  have HB5 : Hid (Below w4.heap.size w4 w5) := (Below.refl _ _).grown hg5 (Nat.le_refl _) (by simp [Value.ownBlock])
                  have HPO := Lib.hid (tail_post (k := 0) (l := its.drop i) (by rw [List.length_drop]; omega) (by simpa [List.drop_of_length_le (show its.length ≤ i by omega), itcells] using hown) (by simpa using hiff))
                  clear hown hg5 hiff
                  go_wp2_with fail
                  go_meet
                  obtain ⟨RA, rq, h1, h2, h3⟩ := HPO.out
                  exact ⟨RA, rq, h1, h2, HB5.out, h3⟩
                · have HDC := Lib.hid ((HR.out.ext HC4.out).drop_cells i)
                  go_wp2_with (at_builtin; refine wpList_append_own _ rfl _ _ 93 rfl w4.heap.size 109 i0 _ 2 32 Tryz.underlying93 hi0 hz0 hz1 hz2 rfl (by decide) (.slice none 0 0) 0 [] rfl (World.ownsRow_nil _ _ _ _) ⟨g, i * 2, none⟩ (its.length - i) (gc - i) (itcells (its.drop i)) (by simp [go_sem]) (by rw [itcells_len, List.length_drop]) HDC.out (it_one _) (by simp only [maxLen]; omega) (by omega) (Nat.le_refl _) ?_)
                  intro v' w5 hown hg5 hiff
                  have HB5 : Hid (Below w4.heap.size w4 w5) := (Below.refl _ _).grown hg5 (Nat.le_refl _) (by simp [Value.ownBlock])
                  have HPO := Lib.hid (tail_post (k := (its.length - i)) (l := its.drop i) (by rw [List.length_drop]) (by simpa using hown) (by simpa using hiff))
                  clear hown hg5 hiff
                  go_wp2_with fail
                  go_meet
                  obtain ⟨RA, rq, h1, h2, h3⟩ := HPO.out
                  exact ⟨RA, rq, h1, h2, HB5.out, h3⟩
            case rest =>
              obtain ⟨RA, rq, rfl, hR0, HB5, HRW⟩ := hcut
              rename World => w5
              have HR0 := Lib.hid hR0
              have hb5 := bt HC4.out HB5.out
              have HSW : Hid (SpW (gS G) w lo x #[.slice A us.length c, .slice G its.length gc, .int .u64 tn] Bo #[.int .u8 1, .int .i64 j, .slice (some ⟨bb, off, none⟩) n rc] (.slice G i gc) i (itcells (its.take i)) (.slice RA (its.drop i).length rq) (its.drop i).length (itcells (its.drop i)) [] w5) := by
                have h5 := HR.out.ext hb5
                refine ⟨Chg.of_below hb5, h5.b, HBO4.out.ext HB5.out, ?_, fun q hq => Or.inl (gS_own.1 hq), ⟨_, HRW.out⟩, fun q hq e => ?_, by simp⟩
                · rw [← it_take]; exact own_take h5.g hil
                · have h1 := (HRW.out.lt q hq).1
                  have h2 := HR.out.lt_ q (gS_own.1 e)
                  have := HC4.out.size
                  omega
              have HCP := Lib.hid (fun (W : World) (hW : VRow W (some ⟨bb, off, none⟩) row) => copyrow_any HN.out rc W hW HL.out)
              have HB5w := Lib.hid hb5
              clear hb5 HB5 HRW o0 lo' r1 lr HR0
              obtain ⟨m, hm⟩ : ∃ m, m = (its.drop i).length := ⟨_, rfl⟩
              rw [← hm] at HSW hR0 ⊢
              have HR0 := Lib.hid hR0
              have HM := Lib.hid hm
              clear hm hR0
              have i5 : i ≤ gc := by
                rcases G with _ | ad
                · obtain ⟨rfl, rfl⟩ := HGN.out rfl
                  simpa using hil
                · obtain ⟨g, rfl, hgc⟩ := HGF.out ad rfl
                  omega
              go_upto_region 13 with fail
              refine region_app 17 14 _ [false, false, false, false, false, false, false, false, false, false, false, false, false, false, false, false, false, false, false, false, false, false, false, false, false, false, false, false, false, false, false, false, false, false, false, false, false, false, false, false, false, false, false, false, false, false, false, false, false, false, false, false, false, false, false, false, false, false, false, false, false, false, false, true, true, true, true, true, true, true, true, true, true, true, true, true, true, true, true, true, false, false, false, false, false, false, false, false, false, false, false, false, false, false, false, false, false, false, false, false, false, false, false, false, false, false, false, false, false, false, false, false, false, false, false, false, false, false, false, false, false, false, false, false, false, false, false, false, false, false, false, false, false, false, false, false, false, false, false, false, false, false, false, false, false, false, false, false, false, false, false, false, false, false, false] [63, 64, 65, 66, 67, 68, 69, 70, 71, 72, 73, 74, 75, 76, 77, 78, 79] [.val (.pointer (some ⟨x, 0, none⟩)), .val (.pointer (some ⟨x, 0, none⟩)), .val (.pointer (some ⟨x, 0, none⟩)), .val (.pointer (some ⟨x, 1, none⟩)), .val (.slice G its.length gc), .val (.int .i64 i), .val (.slice G i gc), .val (.pointer (some ⟨Bo, 1, none⟩)), .val (.int .i64 j), .val (.pointer (some ⟨Bo, 2, none⟩)), .val (.slice (some ⟨bb, off, none⟩) n rc), kRowV row, kRwV j row, kRwS j row, kAny, .val (.pointer (some ⟨x, 0, none⟩)), .val (.pointer (some ⟨x, 1, none⟩))] [0, 15, 16] (fun _ => True) (SpM i its (j, row) (fun v xs E W => SpW (gS G) w lo x #[.slice A us.length c, .slice G its.length gc, .int .u64 tn] Bo #[.int .u8 1, .int .i64 j, .slice (some ⟨bb, off, none⟩) n rc] v (i + 1) xs (.slice RA m rq) m (itcells (its.drop i)) E W)) [6, 13] [16] (fun _ _ => trivial) (fun _ _ _ => trivial) (by kernel_rfl) rfl rfl (by omega) (by kernel_rfl) (by kernel_rfl) (by kernel_rfl) rfl rfl rfl (by kernel_rfl) (by kernel_rfl) (by kernel_rfl) (by kernel_rfl) ⟨?_, ?_, ?_, ?_, ?_, ?_, ?_, ?_, ?_, ?_, ?_, ?_, ?_, ?_, ?app, ?_, ?_, trivial⟩ ?done
              case app =>
                intro x9 w8 hb8
                simp only [StepGoal, List.getD_cons_zero, List.getD_cons_succ]
                rintro _ ⟨A', c', g8, rfl, hg8, hro⟩ K hK
                rw [if_pos (by rfl)]
                simp only [overlay, upd, cond_true, cond_false, Nat.reduceEqDiff, reduceIte]
                refine wp_append_lies w8 (.tmp 69) (.tmp 76) 93 rfl lo 109 i0 _ 2 32 Tryz.underlying93 hi0 hz0 hz1 hz2 rfl (by decide) (.slice G i gc) i (itcells (its.take i)) rfl (HSW.out.ext hb8).g ⟨g8, 0, none⟩ 1 1 (itcells [⟨(j, row), A', c'⟩]) rfl rfl (World.news_of_block hg8) (it_one _) (by decide) (by simp only [maxLen]; omega) (by omega) (by have := HR.out.b.lt; have := HR.out.lx; have := HB5w.out.size; have := hb8.size; omega) _ rfl ?_
                intro g9 c9 w9 hown9 hg9 hat9 _
                rw [← it_app] at hown9
                exact hK.out _ _ ⟨g9, c9, ⟨(j, row), A', c'⟩, rfl, rfl, HSW.out.app hb8 hown9 hg9 hat9 (fun q hq => by rw [List.mem_singleton] at hq; subst hq; exact Or.inr hro)⟩
              case done =>
                rintro x9 w8 v8 ⟨g6, c6, it6, hit, rfl, h6⟩
                simp only [StepGoal, List.getD_cons_zero, List.getD_cons_succ]
                intro K hK
                obtain ⟨w7, rfl, lt⟩ := blk_put h6.bx
                obtain ⟨pc, pf, pS⟩ := putBlk_facts (w := w7) 95 lt
                have H7 := Lib.hid (h6.store #[.slice A us.length c, .slice (some ⟨g6, 0, none⟩) (i + 1) c6, .int .u64 tn])
                have HIT := Lib.hid hit
                clear h6 hit
                rw [if_pos (by rfl)]; simp only [overlay, upd, cond_true, cond_false, Nat.reduceEqDiff, reduceIte]
                go_simp
                refine hK.out _ _ ?_
                have LT := Lib.hid lt
                clear pc pf pS lt
                go_upto_region 14 with fail
                go_cut [] (fun wx => ∃ g cap n', n' = its.length + 1 ∧ Hid (SpW (gS G) w lo x #[.slice A us.length c, .slice (some ⟨g, 0, none⟩) n' cap, .int .u64 tn] Bo #[.int .u8 1, .int .i64 j, .slice (some ⟨bb, off, none⟩) n rc] (.slice (some ⟨g, 0, none⟩) n' cap) n' (itcells (its.take i ++ it6 :: its.drop i)) (.slice none 0 0) 0 [] [it6] wx))
                case first =>
                  rcases Nat.eq_zero_or_pos m with h0 | h0
                  · obtain ⟨rfl, rfl⟩ := HR0.out h0
                    subst h0
                    have HQ : Hid (i + 1 = its.length + 1 ∧ Hid (SpW (gS G) w lo x #[.slice A us.length c, .slice (some ⟨g6, 0, none⟩) (i + 1) c6, .int .u64 tn] Bo #[.int .u8 1, .int .i64 j, .slice (some ⟨bb, off, none⟩) n rc] (.slice (some ⟨g6, 0, none⟩) (i + 1) c6) (i + 1) (itcells (its.take i ++ it6 :: its.drop i)) (.slice none 0 0) 0 [] [it6] (putBlk w7 x #[.slice A us.length c, .slice (some ⟨g6, 0, none⟩) (i + 1) c6, .int .u64 tn] 95))) := by
                      have hd : its.drop i = [] := List.eq_nil_of_length_eq_zero HM.out.symm
                      have hle : i = its.length := by have := HM.out; rw [List.length_drop] at this; omega
                      have := H7.out.done
                      rw [hd]
                      exact ⟨by omega, this⟩
                    obtain ⟨pc, pf, pS⟩ := putBlk_facts (w := w7) 95 LT.out
                    have lt : x < w7.heap.size := LT.out
                    go_wp2_with (at_builtin; refine wpList_append_own_none rfl _ _ 93 rfl lo 109 i0 2 Tryz.underlying93 hi0 (.slice (some ⟨g6, 0, none⟩) (i + 1) c6) (i + 1) (itcells (its.take i ++ [it6])) (by simp [go_sem]) H7.out.g (by simp [go_sem]) ?_)
                    go_meet
                    exact ⟨_, _, _, HQ.out.1, HQ.out.2⟩
                  · obtain ⟨rb, hRW⟩ := H7.out.r
                    obtain ⟨ra, ca, hra, _⟩ := hRW.form h0
                    simp only [Value.slice.injEq, true_and] at hra
                    obtain ⟨rfl, rfl⟩ := hra
                    have HRC := Lib.hid (hRW.cells (g := ra) rfl)
                    have HM1 : Hid (m = its.length - i) := by show _ = _; rw [HM.out, List.length_drop]
                    have hm1 : m ≤ 200 := by have := HM1.out; omega
                    have HLO : Hid (lo ≤ (putBlk w7 x #[.slice A us.length c, .slice (some ⟨g6, 0, none⟩) (i + 1) c6, .int .u64 tn] 95).heap.size) := by
                      have := H7.out.bx.lt
                      have := HR.out.lx
                      show _ ≤ _
                      omega
                    clear hRW
                    obtain ⟨pc, pf, pS⟩ := putBlk_facts (w := w7) 95 LT.out
                    have lt : x < w7.heap.size := LT.out
                    go_wp2_with (at_builtin; refine wpList_append_lies _ rfl _ _ 93 rfl lo 109 i0 _ 2 32 Tryz.underlying93 hi0 hz0 hz1 hz2 rfl (by decide) (.slice (some ⟨g6, 0, none⟩) (i + 1) c6) (i + 1) (itcells (its.take i ++ [it6])) (by simp [go_sem]) H7.out.g ⟨ra, 0, none⟩ m rq (itcells (its.drop i)) (by simp [go_sem]) (by rw [itcells_len, HM.out]) HRC.out (it_one _) h0 (by simp only [maxLen]; omega) (by omega) HLO.out _ rfl ?_)
                    intro g8 c8 w8 hown8 hg8 hat8 _
                    rw [← it_app, List.append_assoc, List.singleton_append] at hown8
                    have h8 := H7.out.app (Below.refl _ _) hown8 hg8 hat8 (fun q hq => Or.inl hq)
                    clear hown8 hg8 hat8 pc pf pS lt
                    obtain ⟨w9, rfl, lt⟩ := blk_put h8.bx
                    obtain ⟨pc, pf, pS⟩ := putBlk_facts (w := w9) 95 lt
                    have HQ := Lib.hid (h8.store #[.slice A us.length c, .slice (some ⟨g8, 0, none⟩) (i + 1 + m) c8, .int .u64 tn]).done
                    have HE : Hid (i + 1 + m = its.length + 1) := by show _ = _; have := HM1.out; omega
                    clear h8
                    go_wp2_with fail
                    go_meet
                    exact ⟨_, _, _, HE.out, HQ.out⟩
                case rest =>
                  obtain ⟨g, cap, n', hn', HS⟩ := hcut
                  rename World => w9
                  have HNN := Lib.hid hn'
                  have hs9 := HS.out
                  clear hn' H7 LT HSW HB5w HR0 HM i5
                  obtain ⟨w10, rfl, lt⟩ := blk_put hs9.bx
                  obtain ⟨pc, pf, pS⟩ := putBlk_facts (w := w10) 95 lt
                  have HS10 := Lib.hid (hs9.store #[.slice A us.length c, .slice (some ⟨g, 0, none⟩) n' cap, .int .u64 (IntKind.u64.wrap (tn + 1))])
                  clear hs9 HS
                  go_upto_region 16 with fail
                  have o2 := HS10.out.bo.cell 2
                  have lo' := HS10.out.bo.lt
                  simp only [List.getElem?_toArray, List.getElem?_cons_zero, List.getElem?_cons_succ] at o2
                  clear pc pf pS lt
                  go_wp2_with fail
                  refine (HCP.out _ (HV.out.low_ HS10.out.k HR.out.lo_ (HBL.out HNE.out))).mono ?_
                  rintro r w11 ⟨hb11, A', c', rfl, hro⟩
                  have HSF := Lib.hid (HS10.out.ext hb11)
                  clear hb11 hro o2 lo'
                  go_wp2_with fail
                  refine bodyPost_ret (v := .tuple #[.slice none 0 0, .slice A' row.length c', .int .i64 0]) (by simp [results, Tryz.results25, go_sem]) rfl ?_
                  have e : (its.take i ++ it6 :: its.drop i).length = n' := by
                    rw [HNN.out, List.length_append, List.length_cons, List.length_take, List.length_drop]
                    omega
                  have hs := HSF.out
                  rw [← e] at hs
                  have hst := HST.out
                  rw [HFI.out] at hst ⊢
                  have em : (its.take i ++ it6 :: its.drop i).map It.x = (its.map It.x).take i ++ (j, row) :: (its.map It.x).drop i := by rw [List.map_append, List.map_cons, List.map_take, List.map_drop, HIT.out]
                  refine HR.out.new hs.k hs.bx hs.g (fun q hq => ?_) (em ▸ hst) em
                  rcases List.mem_append.1 hq with h1 | h1
                  · exact Or.inl (List.mem_of_mem_take h1)
                  · rcases List.mem_cons.1 h1 with rfl | h1
                    · exact Or.inr (hs.e _ (by simp))
                    · exact Or.inl (List.mem_of_mem_drop h1)
              all_goals
                intro x9 w8 hT8
                first
                  | (intro K hK
                     have h5 := HSW.out.ext hT8
                     have o1 := h5.bo.cell 1
                     have o2 := h5.bo.cell 2
                     have l5 := h5.bo.lt
                     have r1 := h5.bx.cell 1
                     have lr := h5.bx.lt
                     simp only [List.getElem?_toArray, List.getElem?_cons_zero, List.getElem?_cons_succ] at o1 o2 r1
                     have hv5 := HV.out.ext (bt HB5w.out hT8)
                     clear h5
                     rw [if_pos (by rfl)]; simp only [overlay, upd, cond_true, cond_false, List.getD_cons_zero, List.getD_cons_succ, Nat.reduceEqDiff, reduceIte]
                     go_simp
                     first
                       | exact hK.out _ _ (Below.refl _ _) rfl
                       | (refine (HCP.out _ hv5).mono ?_
                          rintro r w9 ⟨hb9, A', c', rfl, hro⟩
                          go_wp2_with fail
                          exact hK.out _ _ hb9 ⟨A', c', rfl, hro⟩))
                  | (rintro _ ⟨A', c', rfl, hro⟩ K hK
                     rw [if_pos (by rfl)]; simp only [overlay, upd, cond_true, cond_false, List.getD_cons_zero, List.getD_cons_succ, Nat.reduceEqDiff, reduceIte]
                     go_simp
                     first
                       | exact hK.out _ _ (Below.refl _ _) ⟨A', c', rfl, hro⟩
                       | exact hK.out _ _ (by repeat (first | exact Below.refl _ _ | assumption | refine Below.drew ?_ | refine below_drewN ?_ _ | refine Below.alloc ?_ (by simp <;> omega) _)) ⟨A', c', _, rfl, Blk.new _ _ _, hro.ext (by repeat (first | exact Below.refl _ _ | assumption | refine Below.drew ?_ | refine below_drewN ?_ _ | refine Below.alloc ?_ (by simp <;> omega) _))⟩)
                  | ((first | change StepGoal _ _ _ _ [] x9 | change StepGoal _ _ _ _ [0, 0] x9 | change StepGoal _ _ _ _ [15, 0] x9)
                     simp only [StepGoal, List.getD_cons_zero, List.getD_cons_succ]
                     intro K hK
                     rw [if_pos (by rfl)]; simp only [overlay, upd, cond_true, cond_false, Nat.reduceEqDiff, reduceIte]
                     go_simp
                     exact hK.out _ rfl)
        · have HF9 : Hid (F = (9, its.map It.x)) := by
            show _ = _
            rw [HDO.out]; unfold insF; rw [if_pos (by rw [HPX.out]; exact HIS.out.1 rfl)]
          go_wp2_with fail
          refine bodyPost_ret (v := .tuple #[.slice none 0 0, .slice none 0 0, .int .i64 9]) (by simp [results, Tryz.results25, go_sem]) rfl ?_
          rw [HF9.out]
          exact HR.out.same HC4.out
      · have HCA : Hid ((kd = 3 ∧ F = delF us (its.map It.x) (j, ⟨kk, kn, kr, kt⟩)) ∨ (kd = 2 ∧ rowS us j row = true ∧ plN us ((j : Nat), row) = (j, ⟨kk, kn, kr, kt⟩) ∧ F = updF us (its.map It.x) (j, row))) := by
          rcases HCC.out with ⟨h1, _, h3⟩ | ⟨h1, h2, h3, h4⟩
          · exact Or.inl ⟨h1, h3⟩
          · obtain rfl : kd = 2 := h1.elim (fun e => absurd e hk1) id
            refine Or.inr ⟨rfl, h3, by unfold plN; rw [h4], ?_⟩
            have := HF.out.trans (doS_upd h3)
            rwa [Int.toNat_natCast] at this
        clear HCC
        have hil := HIL.out
        cases is
        · have HF3 : Hid (F = (3, its.map It.x)) := by
            show _ = _
            have hn : ¬ HasP (plN us) (its.map It.x) (j, ⟨kk, kn, kr, kt⟩) := fun hh => by have := HIS.out.2 hh; cases this
            rcases HCA.out with ⟨_, h1⟩ | ⟨_, _, h2, h1⟩
            · rw [h1]; unfold delF; rw [if_neg hn]
            · rw [h1]; unfold updF; rw [h2, if_neg hn]
          go_wp2_with fail
          refine bodyPost_ret (v := .tuple #[.slice none 0 0, .slice none 0 0, .int .i64 3]) (by simp [results, Tryz.results25, go_sem]) rfl ?_
          rw [HF3.out]
          exact HR.out.same HC4.out
        · have hp := HIS.out.1 rfl
          obtain ⟨y0, hy0, hy1⟩ := (at_has HR.out.i.ris).1 hp
          rw [← HI.out, List.getElem?_map] at hy0
          obtain ⟨it0, hit0, hitx⟩ : ∃ it0, its[i]? = some it0 ∧ it0.x = y0 := by
            cases he : its[i]? with
            | none => rw [he] at hy0; cases hy0
            | some v => rw [he] at hy0; exact ⟨v, rfl, by simpa using hy0⟩
          have hlt : i < its.length := (List.getElem?_eq_some_iff.1 hit0).1
          have HFT : Hid ((kd = 3 ∧ F = (0, (its.map It.x).eraseIdx i)) ∨ (kd = 2 ∧ rowS us j row = true ∧ F = (0, (its.map It.x).set i (j, row)))) := by
            rcases HCA.out with ⟨h3, h1⟩ | ⟨h3, h4, h2, h1⟩
            · exact Or.inl ⟨h3, by rw [h1]; unfold delF; rw [if_pos hp, HI.out]⟩
            · exact Or.inr ⟨h3, h4, by rw [h1]; unfold updF; rw [h2, if_pos hp, HI.out]⟩
          obtain ⟨g, rfl, hgl, z0, z1⟩ := (HR.out.ext HC4.out).at_ hit0
          have hgc : its.length ≤ gc := by
            obtain ⟨q, e, h⟩ := HGF.out _ rfl
            exact h
          have HLT := Lib.hid hlt
          have HR4 := HR.out.ext HC4.out
          have hlti : (i : Int) < its.length := by omega
          clear hp hy0 hy1 hit0 hitx HIS HCA HI HF lr
          go_upto_region 20 with fail
          clear z0 z1 hgl r1 o0 lo'
          obtain ⟨w5, rfl, lt⟩ := blk_put HR4.b
          obtain ⟨pc, pf, pS⟩ := putBlk_facts (w := w5) 95 lt
          have HR5 := Lib.hid (HR4.turn (IntKind.u64.wrap (tn + 1)))
          have HK5 := Lib.hid ((Chg.of_below (S := x :: gS (some ⟨g, 0, none⟩)) HC4.out).trans (putx_chg w5 x _ #[.slice A us.length c, .slice (some ⟨g, 0, none⟩) its.length gc, .int .u64 (IntKind.u64.wrap (tn + 1))] 95) (fun q hq => by rw [List.mem_singleton] at hq; subst hq; exact Or.inl (by simp)))
          have HO5 := Lib.hid (HBO4.out.chg (putx_chg w5 x _ #[.slice A us.length c, .slice (some ⟨g, 0, none⟩) its.length gc, .int .u64 (IntKind.u64.wrap (tn + 1))] 95) (fun hm => by rw [List.mem_singleton] at hm; exact blk_nt HBO4.out HR4.b (by decide) hm))
          clear HR4
          go_upto_region 21 with fail
          clear pc pf pS lt
          generalize putBlk w5 x #[.slice A us.length c, .slice (some ⟨g, 0, none⟩) its.length gc, .int .u64 (IntKind.u64.wrap (tn + 1))] 95 = w6 at HR5 HK5 HO5 ⊢
          have o0 := HO5.out.cell 0
          have lo' := HO5.out.lt
          simp only [List.getElem?_toArray, List.getElem?_cons_zero] at o0
          have r1 := HR5.out.b.cell 1
          have lr := HR5.out.b.lt
          simp only [List.getElem?_toArray, List.getElem?_cons_zero, List.getElem?_cons_succ] at r1
          rcases HFT.out with ⟨rfl, hFD⟩ | ⟨rfl, hrs, hFU⟩
          · have HFD := Lib.hid hFD
            have hfew := HR.out.i.few
            rw [List.length_map] at hfew
            have hw1 : IntKind.i64.wrap ((i : Int) + 1) = (i : Int) + 1 := IntWalk.i64_in _ (by omega)
            have ht1 : ((i : Int) + 1).toNat = i + 1 := by omega
            have i6 : (i : Int) + 1 ≤ its.length := by omega
            have i7 : (i : Int) + 1 ≤ gc := by omega
            have i8 : i + 1 ≤ gc := by omega
            have i9 : i ≤ gc := by omega
            clear hFD
            go_upto_region 22 with fail
            go_cut [12] (fun R wx => ∃ RA rq, R = .slice RA (its.drop (i + 1)).length rq ∧ ((its.drop (i + 1)).length = 0 → RA = none ∧ rq = 0) ∧ Hid (Below w6.heap.size w6 wx) ∧ Hid (wx.ownsRow w6.heap.size 109 2 (.slice RA (its.drop (i + 1)).length rq) (its.drop (i + 1)).length (itcells (its.drop (i + 1)))))
            case first =>
              by_cases hgi : gc = i + 1
              · have hgi2 : its.length = i + 1 := by omega
                go_wp2_with (at_builtin; refine wpList_append_own _ rfl _ _ 93 rfl w6.heap.size 109 i0 _ 2 32 Tryz.underlying93 hi0 hz0 hz1 hz2 rfl (by decide) (.slice none 0 0) 0 [] rfl (World.ownsRow_nil _ _ _ _) ⟨g, 0, none⟩ 0 0 (itcells []) (by simp [go_sem, hgi, hgi2]) rfl (by simp [itcells]) (it_one _) (by simp only [maxLen]; omega) (by omega) (Nat.le_refl _) ?_)
                intro v' w7 hown hg7 hiff
                have HB7 : Hid (Below w6.heap.size w6 w7) := (Below.refl _ _).grown hg7 (Nat.le_refl _) (by simp [Value.ownBlock])
                have HPO := Lib.hid (tail_post (k := 0) (l := its.drop (i + 1)) (by rw [List.length_drop]; omega) (by simpa [List.drop_of_length_le (show its.length ≤ i + 1 by omega), itcells] using hown) (by simpa using hiff))
                clear hown hg7 hiff
                go_wp2_with fail
                go_meet
                obtain ⟨RA, rq, h1, h2, h3⟩ := HPO.out
                exact ⟨RA, rq, h1, h2, HB7.out, h3⟩
              · have HDC := Lib.hid (HR5.out.drop_cells (i + 1))
                go_wp2_with (at_builtin; refine wpList_append_own _ rfl _ _ 93 rfl w6.heap.size 109 i0 _ 2 32 Tryz.underlying93 hi0 hz0 hz1 hz2 rfl (by decide) (.slice none 0 0) 0 [] rfl (World.ownsRow_nil _ _ _ _) ⟨g, (i + 1) * 2, none⟩ (its.length - (i + 1)) (gc - (i + 1)) (itcells (its.drop (i + 1))) (by simp [go_sem]) (by rw [itcells_len, List.length_drop]) HDC.out (it_one _) (by simp only [maxLen]; omega) (by omega) (Nat.le_refl _) ?_)
                intro v' w7 hown hg7 hiff
                have HB7 : Hid (Below w6.heap.size w6 w7) := (Below.refl _ _).grown hg7 (Nat.le_refl _) (by simp [Value.ownBlock])
                have HPO := Lib.hid (tail_post (k := its.length - (i + 1)) (l := its.drop (i + 1)) (by rw [List.length_drop]) (by simpa using hown) (by simpa using hiff))
                clear hown hg7 hiff
                go_wp2_with fail
                go_meet
                obtain ⟨RA, rq, h1, h2, h3⟩ := HPO.out
                exact ⟨RA, rq, h1, h2, HB7.out, h3⟩
            case rest =>
              obtain ⟨RA, rq, rfl, hR0, HB7, HRW⟩ := hcut
              rename World => w7
              have HSW : Hid (SpW (gS (some ⟨g, 0, none⟩)) w lo x #[.slice A us.length c, .slice (some ⟨g, 0, none⟩) its.length gc, .int .u64 (IntKind.u64.wrap (tn + 1))] Bo #[.int .u8 3, .int .i64 j, .slice (some ⟨bb, off, none⟩) n rc] (.slice (some ⟨g, 0, none⟩) i gc) i (itcells (its.take i)) (.slice RA (its.drop (i + 1)).length rq) (its.drop (i + 1)).length (itcells (its.drop (i + 1))) [] w7) := by
                have h7 := HR5.out.ext HB7.out
                refine ⟨HK5.out.andBelow HB7.out, h7.b, HO5.out.ext HB7.out, ?_, fun q hq => Or.inl (gS_own.1 hq), ⟨_, HRW.out⟩, fun q hq e => ?_, by simp⟩
                · rw [← it_take]; exact own_take h7.g hil
                · have h1 := (HRW.out.lt q hq).1
                  have h2 := HR.out.lt_ q (gS_own.1 e)
                  have := HK5.out.size
                  omega
              clear HB7 HRW o0 lo' r1 lr
              obtain ⟨m, hm⟩ : ∃ m, m = (its.drop (i + 1)).length := ⟨_, rfl⟩
              rw [← hm] at HSW hR0 ⊢
              have HR0 := Lib.hid hR0
              have HM : Hid (m = its.length - (i + 1)) := by show _ = _; rw [hm, List.length_drop]
              have HM2 := Lib.hid hm
              clear hm hR0
              go_upto_region 23 with fail
              go_cut [] (fun wx => ∃ g' cap n', n' = its.length - 1 ∧ Hid (SpW (gS (some ⟨g, 0, none⟩)) w lo x #[.slice A us.length c, .slice (some ⟨g', 0, none⟩) n' cap, .int .u64 (IntKind.u64.wrap (tn + 1))] Bo #[.int .u8 3, .int .i64 j, .slice (some ⟨bb, off, none⟩) n rc] (.slice (some ⟨g', 0, none⟩) n' cap) n' (itcells (its.take i ++ its.drop (i + 1))) (.slice none 0 0) 0 [] [] wx))
              case first =>
                have hs7 := HSW.out
                clear HSW
                obtain ⟨w8, rfl, lt⟩ := blk_put hs7.bx
                obtain ⟨pc, pf, pS⟩ := putBlk_facts (w := w8) 95 lt
                have HS7 := Lib.hid hs7
                clear hs7
                rcases Nat.eq_zero_or_pos m with h0 | h0
                · obtain ⟨rfl, rfl⟩ := HR0.out h0
                  subst h0
                  have HQ : Hid (i = its.length - 1 ∧ Hid (SpW (gS (some ⟨g, 0, none⟩)) w lo x #[.slice A us.length c, .slice (some ⟨g, 0, none⟩) i gc, .int .u64 (IntKind.u64.wrap (tn + 1))] Bo #[.int .u8 3, .int .i64 j, .slice (some ⟨bb, off, none⟩) n rc] (.slice (some ⟨g, 0, none⟩) i gc) i (itcells (its.take i ++ its.drop (i + 1))) (.slice none 0 0) 0 [] [] (putBlk w8 x #[.slice A us.length c, .slice (some ⟨g, 0, none⟩) i gc, .int .u64 (IntKind.u64.wrap (tn + 1))] 95))) := by
                    have hd : its.drop (i + 1) = [] := List.eq_nil_of_length_eq_zero HM2.out.symm
                    have := HM.out
                    have h9 := (HS7.out.store #[.slice A us.length c, .slice (some ⟨g, 0, none⟩) i gc, .int .u64 (IntKind.u64.wrap (tn + 1))]).done
                    rw [hd, List.append_nil]
                    exact ⟨by omega, h9⟩
                  go_wp2_with (at_builtin; refine wpList_append_own_none rfl _ _ 93 rfl lo 109 i0 2 Tryz.underlying93 hi0 (.slice (some ⟨g, 0, none⟩) i gc) i (itcells (its.take i)) (by simp [go_sem]) HS7.out.g (by simp [go_sem]) ?_)
                  go_meet
                  exact ⟨_, _, _, HQ.out.1, HQ.out.2⟩
                · obtain ⟨rb, hRW⟩ := HS7.out.r
                  obtain ⟨ra, ca, hra, _⟩ := hRW.form h0
                  simp only [Value.slice.injEq, true_and] at hra
                  obtain ⟨rfl, rfl⟩ := hra
                  have HRC := Lib.hid (hRW.cells (g := ra) rfl)
                  have hm1 : m ≤ 200 := by have := HM.out; omega
                  have HLO : Hid (lo ≤ (putBlk w8 x #[.slice A us.length c, .slice (some ⟨g, 0, none⟩) its.length gc, .int .u64 (IntKind.u64.wrap (tn + 1))] 95).heap.size) := by
                    have := HS7.out.bx.lt
                    have := HR.out.lx
                    show _ ≤ _
                    omega
                  clear hRW
                  go_wp2_with (at_builtin; refine wpList_append_lies _ rfl _ _ 93 rfl lo 109 i0 _ 2 32 Tryz.underlying93 hi0 hz0 hz1 hz2 rfl (by decide) (.slice (some ⟨g, 0, none⟩) i gc) i (itcells (its.take i)) (by simp [go_sem]) HS7.out.g ⟨ra, 0, none⟩ m rq (itcells (its.drop (i + 1))) (by simp [go_sem]) (by rw [itcells_len, HM2.out]) HRC.out (it_one _) h0 (by simp only [maxLen]; omega) (by omega) HLO.out _ rfl ?_)
                  intro g8 c8 w9 hown8 hg8 hat8 _
                  rw [← it_app] at hown8
                  have h8 := HS7.out.app (Below.refl _ _) hown8 hg8 hat8 (fun q hq => Or.inl hq)
                  clear hown8 hg8 hat8 pc pf pS lt HS7 HRC HLO
                  obtain ⟨w10, rfl, lt⟩ := blk_put h8.bx
                  obtain ⟨pc, pf, pS⟩ := putBlk_facts (w := w10) 95 lt
                  have HQ := Lib.hid (h8.store #[.slice A us.length c, .slice (some ⟨g8, 0, none⟩) (i + m) c8, .int .u64 (IntKind.u64.wrap (tn + 1))]).done
                  have HE : Hid (i + m = its.length - 1) := by show _ = _; have := HM.out; omega
                  clear h8
                  go_wp2_with fail
                  go_meet
                  exact ⟨_, _, _, HE.out, HQ.out⟩
              case rest =>
                obtain ⟨g', cap, n', hn', HS⟩ := hcut
                rename World => w9
                have HNN := Lib.hid hn'
                clear hn' HSW HR0 HM HM2 i6 i7 i8 i9 hw1 ht1
                go_wp2_with fail
                refine bodyPost_ret (v := .tuple #[.slice it0.A it0.x.2.length it0.c, .slice none 0 0, .int .i64 0]) (by simp [results, Tryz.results25, go_sem]) rfl ?_
                have e : (its.take i ++ its.drop (i + 1)).length = n' := by
                  rw [HNN.out, List.length_append, List.length_take, List.length_drop]
                  omega
                have hs := HS.out
                rw [← e] at hs
                have hst := HST.out
                rw [HFD.out] at hst ⊢
                have em : (its.take i ++ its.drop (i + 1)).map It.x = (its.map It.x).eraseIdx i := by rw [List.map_append, List.map_take, List.map_drop, List.eraseIdx_eq_take_drop_succ]
                refine HR.out.new hs.k hs.bx hs.g (fun q hq => ?_) (em ▸ hst) em
                rcases List.mem_append.1 hq with h1 | h1
                · exact Or.inl (List.mem_of_mem_take h1)
                · exact Or.inl (List.mem_of_mem_drop h1)
          · have HFU := Lib.hid hFU
            have HL : Hid (row.length ≤ 1000) := by show _ ≤ _; have := (row_in hrs HR.out.h).2; omega
            have HCP := Lib.hid (fun (W : World) (hW : VRow W (some ⟨bb, off, none⟩) row) => copyrow_any HN.out rc W hW HL.out)
            have HV6 := Lib.hid (HV.out.low_ HK5.out HR.out.lo_ (HBL.out HNE.out))
            clear hrs hFU
            go_upto_region 25 with fail
            clear o0 lo' r1 lr
            refine region_last 12 _ [false, false, false, false, false, false, false, false, false, false, false, false, false, false, false, false, false, false, false, false, false, false, false, false, false, false, false, false, false, false, false, false, false, false, false, false, false, false, false, false, false, false, false, false, false, false, false, false, false, false, false, false, false, false, false, false, false, false, false, false, false, false, false, false, false, false, false, false, false, false, false, false, false, false, false, false, false, false, false, false, false, false, false, false, false, false, false, false, false, false, false, false, false, false, false, false, false, false, false, false, false, false, false, false, false, false, false, false, false, false, false, false, false, false, false, false, false, false, false, false, false, false, false, false, false, false, false, false, false, false, false, false, false, false, false, false, false, false, false, true, true, true, true, true, true, true, true, true, true, true, true, false, false, false, false] [139, 140, 141, 142, 143, 144, 145, 146, 147, 148, 149, 150] [.val (.pointer (some ⟨x, 0, none⟩)), .val (.pointer (some ⟨x, 0, none⟩)), .val (.pointer (some ⟨x, 1, none⟩)), .val (.slice (some ⟨g, 0, none⟩) its.length gc), .val (.int .i64 i), .val (.pointer (some ⟨Bo, 1, none⟩)), .val (.int .i64 j), .val (.pointer (some ⟨Bo, 2, none⟩)), .val (.slice (some ⟨bb, off, none⟩) n rc), kRowV row, kRwV j row, .val (.pointer (some ⟨g, i * 2, none⟩))] [11, 10] (by kernel_rfl) (by kernel_rfl) rfl (by kernel_rfl) (by kernel_rfl) (by kernel_rfl) (by kernel_rfl) (by kernel_rfl) ⟨?_, ?_, ?_, ?_, ?_, ?_, ?_, ?_, ?_, ?_, ?_, ?_, trivial⟩ ?done
            case done =>
              intro x9 w8 hb8
              simp only [StepGoal, List.getD_cons_zero, List.getD_cons_succ]
              rintro _ ⟨A', c', rfl, hro⟩ K hK
              have h8 := HR5.out.ext hb8
              obtain ⟨cur, hcur, hgl8, hsz, hown⟩ := h8.set_ HLT.out
              have hc8 := hcur
              obtain ⟨w9, rfl, lt⟩ := blk_put hcur
              have hk9 : Chg [g] (putBlk w9 g cur 109) (putBlk w9 g ((cur.setIfInBounds (i * 2) (.int .i64 j)).setIfInBounds (i * 2 + 1) (.slice A' row.length c')) 109) := putx_chg _ _ _ _ _
              have HKF := Lib.hid ((HK5.out.andBelow hb8).trans hk9 (fun q hq => by rw [List.mem_singleton] at hq; subst hq; exact Or.inl (by simp [gS])))
              have HBF := Lib.hid (h8.b.chg hk9 (fun hm => by rw [List.mem_singleton] at hm; exact blk_nt h8.b hc8 (by decide) hm))
              have hoth : Oth (putBlk w9 g cur 109) [g] := fun q hq => h8.oth q (by rw [List.mem_singleton] at hq; subst hq; simp [gS])
              have HRF := Lib.hid (hro.chg hk9 hoth)
              have hown' := hown ⟨(j, row), A', c'⟩
              rw [put_put'] at hown'
              have HOF := Lib.hid hown'
              have HO9 := Lib.hid ((HO5.out.ext hb8).chg hk9 (fun hm => by rw [List.mem_singleton] at hm; exact blk_nt (HO5.out.ext hb8) hc8 (by decide) hm))
              have c0 : ∀ cs, (putBlk w9 g cs 109).cell? ⟨g, i * 2, none⟩ = cs[i * 2]? := fun cs => (putBlk_blk cs _ lt).cell _
              have c1 : ∀ cs, (putBlk w9 g cs 109).cell? ⟨g, i * 2 + 1, none⟩ = cs[i * 2 + 1]? := fun cs => (putBlk_blk cs _ lt).cell _
              have f0 : ∀ cs, (putBlk w9 g cs 109).frozen? ⟨g, i * 2, none⟩ = false := fun cs => (putBlk_blk cs _ lt).frozen _
              have f1 : ∀ cs, (putBlk w9 g cs 109).frozen? ⟨g, i * 2 + 1, none⟩ = false := fun cs => (putBlk_blk cs _ lt).frozen _
              have s0 : ∀ cs v, (putBlk w9 g cs 109).setCell ⟨g, i * 2, none⟩ v = putBlk w9 g (cs.setIfInBounds (i * 2) v) 109 := fun cs v => putBlk_set cs _ lt _ v
              have s1 : ∀ cs v, (putBlk w9 g cs 109).setCell ⟨g, i * 2 + 1, none⟩ v = putBlk w9 g (cs.setIfInBounds (i * 2 + 1) v) 109 := fun cs v => putBlk_set cs _ lt _ v
              have e0 : cur[i * 2]? = some (cur[i * 2]'(by omega)) := Array.getElem?_eq_getElem (by omega)
              have e1 : cur[i * 2 + 1]? = some (cur[i * 2 + 1]'hsz) := Array.getElem?_eq_getElem hsz
              clear hro h8 hcur hown hown' hk9 hoth hc8 hb8 hgl8
              rw [if_pos (by rfl)]; simp only [overlay, upd, cond_true, cond_false, Nat.reduceEqDiff, reduceIte]
              go_simp
              refine hK.out _ _ ?_
              clear c0 c1 f0 f1 s0 s1 e0 e1 hsz lt
              generalize putBlk w9 g ((cur.setIfInBounds (i * 2) (.int .i64 j)).setIfInBounds (i * 2 + 1) (.slice A' row.length c')) 109 = w10 at HKF HBF HRF HOF HO9 ⊢
              have o2 := HO9.out.cell 2
              have lo' := HO9.out.lt
              simp only [List.getElem?_toArray, List.getElem?_cons_zero, List.getElem?_cons_succ] at o2
              go_wp2_with fail
              refine (HCP.out _ (HV.out.low_ HKF.out HR.out.lo_ (HBL.out HNE.out))).mono ?_
              rintro r w11 ⟨hb11, A2, c2, rfl, _⟩
              have HK11 := Lib.hid (HKF.out.andBelow hb11)
              have HB11 := Lib.hid (HBF.out.ext hb11)
              have HR11 := Lib.hid (HRF.out.ext hb11)
              have HO11 := Lib.hid (own_below HOF.out hb11)
              clear hb11 o2 lo' HKF HBF HRF HOF HO9
              go_wp2_with fail
              refine bodyPost_ret (v := .tuple #[.slice it0.A it0.x.2.length it0.c, .slice A2 row.length c2, .int .i64 0]) (by simp [results, Tryz.results25, go_sem]) rfl ?_
              have hst := HST.out
              rw [HFU.out] at hst ⊢
              have em : (its.set i ⟨(j, row), A', c'⟩).map It.x = (its.map It.x).set i (j, row) := List.map_set ..
              have el : (its.set i ⟨(j, row), A', c'⟩).length = its.length := List.length_set ..
              refine HR.out.new HK11.out (G' := some ⟨g, 0, none⟩) (gc' := gc) (tn' := IntKind.u64.wrap (tn + 1)) (its' := its.set i ⟨(j, row), A', c'⟩) (by rw [el]; exact HB11.out) (by rw [el]; exact HO11.out) (fun q hq => ?_) (em ▸ hst) em
              rcases List.mem_or_eq_of_mem_set hq with h1 | rfl
              · exact Or.inl h1
              · exact Or.inr HR11.out
            all_goals
              intro x9 w8 hT8
              first
                | (intro K hK
                   have h5 := HR5.out.ext hT8
                   have ho5 := HO5.out.ext hT8
                   have o1 := ho5.cell 1
                   have o2 := ho5.cell 2
                   have l5 := ho5.lt
                   have r1 := h5.b.cell 1
                   have lr := h5.b.lt
                   simp only [List.getElem?_toArray, List.getElem?_cons_zero, List.getElem?_cons_succ] at o1 o2 r1
                   have hv5 := HV6.out.ext hT8
                   clear h5 ho5
                   rw [if_pos (by rfl)]; simp only [overlay, upd, cond_true, cond_false, List.getD_cons_zero, List.getD_cons_succ, Nat.reduceEqDiff, reduceIte]
                   go_simp
                   first
                     | exact hK.out _ _ (Below.refl _ _) rfl
                     | (refine (HCP.out _ hv5).mono ?_
                        rintro r w9 ⟨hb9, A', c', rfl, hro⟩
                        go_wp2_with fail
                        exact hK.out _ _ hb9 ⟨A', c', rfl, hro⟩))
                | (rintro _ ⟨A', c', rfl, hro⟩ K hK
                   rw [if_pos (by rfl)]; simp only [overlay, upd, cond_true, cond_false, List.getD_cons_zero, List.getD_cons_succ, Nat.reduceEqDiff, reduceIte]
                   go_simp
                   first
                     | exact hK.out _ _ (Below.refl _ _) ⟨A', c', rfl, hro⟩)
                | (rintro _ _ K hK
                   have h5 := HR5.out.ext hT8
                   rw [if_pos (by rfl)]; simp only [overlay, upd, cond_true, cond_false, List.getD_cons_zero, List.getD_cons_succ, Nat.reduceEqDiff, reduceIte]
                   go_simp
                   exact hK.out _ _ (Below.refl _ _) rfl)
                | (rintro _ _ _ _ K hK
                   rw [if_pos (by rfl)]; simp only [overlay, upd, cond_true, cond_false, List.getD_cons_zero, List.getD_cons_succ, Nat.reduceEqDiff, reduceIte]
                   go_simp
                   exact hK.out _ _ (Below.refl _ _) rfl)
end Go.Proofs.YtgklopgeimjgiaaGreatDoor
