/- fascicleref13.Same: two schemas are the same where their data are. -/
import Derived.Test.YtjdfodmialhakaaDoorSc7
import Derived.BigRegion
namespace Go.Proofs.YtjdfodmialhakaaDoor
open Go.RowKit

def sameS (ts us : List Ta) : Bool := decide (ts.map Ta.d = us.map Ta.d)
theorem takeS {ts us : List Ta} {k : Nat} {t u : Ta} (h : (ts.take k).map Ta.d = (us.take k).map Ta.d) (ht : ts[k]? = some t) (hu : us[k]? = some u) (e : t.d = u.d) : Hid ((ts.take (k + 1)).map Ta.d = (us.take (k + 1)).map Ta.d) := by
  show _ = _
  rw [take_snoc ht, take_snoc hu, List.map_append, List.map_append, h]
  simp [e]
theorem notS {ts us : List Ta} {k : Nat} {t u : Ta} (ht : ts[k]? = some t) (hu : us[k]? = some u) (e : t.d ≠ u.d) : sameS ts us = false := by
  refine decide_eq_false fun h => e ?_
  have h1 : (ts.map Ta.d)[k]? = some t.d := by rw [List.getElem?_map, ht]; rfl
  rw [h, List.getElem?_map, hu] at h1
  exact (Option.some.inj h1).symm
theorem endS {ts us : List Ta} (hl : ts.length = us.length) (h : (ts.take ts.length).map Ta.d = (us.take ts.length).map Ta.d) : sameS ts us = true := by
  refine decide_eq_true ?_
  rw [List.take_length, hl, List.take_length] at h
  exact h
theorem strne {a b : ByteArray} (h : ¬ a = b) : (a.toList == b.toList) = false ∧ (!a.toList == b.toList) = true := by
  have e : (a.toList == b.toList) = false := by
    rw [beq_eq_false_iff_ne]
    intro e
    apply h
    apply str_inj
    rw [Lib.toList_data, Lib.toList_data] at e
    exact e
  exact ⟨e, by rw [e]; rfl⟩
theorem takeC {l m : List Co} {k : Nat} {c : Co} (h : l.take k = m.take k) (hl : l[k]? = some c) (hm : m[k]? = some c) : Hid (l.take (k + 1) = m.take (k + 1)) := by
  show _ = _
  rw [take_snoc hl, take_snoc hm, h]
set_option maxRecDepth 100000 in
theorem neqC_ne (a a' : ByteArray) (k k' : Int) (n n' : Bool) (h : (⟨a, k, n⟩ : Co) ≠ ⟨a', k', n'⟩) (w : World) :
    (binOp .neq 180 (.agg #[.string a, .int .u8 k, .bool n]) (.agg #[.string a', .int .u8 k', .bool n'])).run Tryd.prog w = .ok (.bool true) w := by
  go_simp
  intro ha
  have := toList_inj ha
  subst this
  intro hk hn
  apply h
  simp_all
set_option maxRecDepth 100000 in
theorem neqC_eq (a : ByteArray) (k : Int) (n : Bool) (w : World) :
    (binOp .neq 180 (.agg #[.string a, .int .u8 k, .bool n]) (.agg #[.string a, .int .u8 k, .bool n])).run Tryd.prog w = .ok (.bool false) w := by
  go_simp
set_option maxRecDepth 100000 in
set_option maxHeartbeats 1000000 in
theorem sameS_any (ts us : List Ta) (A B : Option Addr) (c d : Nat) (w : World) (ht : TRow w A c ts) (hu : TRow w B d us) :
    Calls Tryd.prog 81 #[.agg #[.slice A ts.length c], .agg #[.slice B us.length d]] w fun r w' => r = .returned (.bool (sameS ts us)) ∧ Below w.heap.size w w' := by
  have hlen := ht.2.1
  have hlen2 := hu.2.1
  have HT := Lib.hid ht
  have HU := Lib.hid hu
  clear ht hu
  by_cases hne : ts.length = us.length
  · generalize hP : sameS ts us = P
    have HP := Lib.hid hP
    have HN := Lib.hid hne
    have hb1 : ((ts.length : Int) != (us.length : Int)) = false := by simp [hne]
    have hle : ts.length ≤ us.length := by omega
    clear hP hne
    go_enter Tryd.func81, Tryd.ntmps81
    have h0 : Blk ((w.alloc (.cells #[.slice A ts.length c] 103)).alloc (.cells #[.slice B us.length d] 103)) w.heap.size #[.slice A ts.length c] 103 := (Blk.new w #[.slice A ts.length c] 103).old _
    have h1 : Blk ((w.alloc (.cells #[.slice A ts.length c] 103)).alloc (.cells #[.slice B us.length d] 103)) (w.heap.size + 1) #[.slice B us.length d] 103 := (by repeat (first | exact Blk.at (by simp) | assumption | refine Blk.drew ?_ | refine Blk.old ?_ _))
    have hC : Below w.heap.size w ((w.alloc (.cells #[.slice A ts.length c] 103)).alloc (.cells #[.slice B us.length d] 103)) := (by repeat (first | exact Below.refl _ _ | assumption | refine Below.drew ?_ | refine below_drewN ?_ _ | refine Below.alloc ?_ (by simp <;> omega) _))
    have HA := Lib.hid h0
    have HB := Lib.hid h1
    have HC := Lib.hid hC
    clear h0 h1 hC
    go_wp2_with fail
    clear hb1
    have hw2 : w.heap.size + 1 + 1 = ((w.alloc (.cells #[.slice A ts.length c] 103)).alloc (.cells #[.slice B us.length d] 103)).heap.size := by simp
    generalize (w.alloc (.cells #[.slice A ts.length c] 103)).alloc (.cells #[.slice B us.length d] 103) = W0 at HA HB HC hw2 ⊢
    generalize hw1 : w.heap.size + 1 = w1 at HB hw2 ⊢
    have HW1 := Lib.hid hw1
    have HW2 := Lib.hid hw2
    clear hw1 hw2
    go_loopw [5] (fun i wr => ∃ k : Nat, k ≤ ts.length ∧ i = .int .i64 k ∧ Hid ((ts.take k).map Ta.d = (us.take k).map Ta.d) ∧ Hid (Below W0.heap.size W0 wr)) (fun i _ => ts.length - (intOf i).toNat)
    case atStart => exact ⟨0, by omega, rfl, (by simp : _ = _), Below.refl _ _⟩
    case round =>
      obtain ⟨k, hk1, rfl, HS, HBW⟩ := hrel
      by_cases hlt : k < ts.length
      · have HBW' := Lib.hid (bt HC.out HBW.out)
        obtain ⟨b, off, t, rfl, hb, hlk, hmem, hwf, hcr, c0, c1, c2, c3, c4⟩ := (HT.out.ext HBW'.out).at_ hlt
        obtain ⟨b', off', u, rfl, hb', hlk', hmem', hwf', hcr', d0, d1, d2, d3, d4⟩ := (HU.out.ext HBW'.out).at_ (Nat.lt_of_lt_of_le hlt hle)
        have HL := Lib.hid hlk
        have HL' := Lib.hid hlk'
        have HCR := Lib.hid hcr
        have HCR' := Lib.hid hcr'
        have g0 := (HA.out.ext HBW.out).cell 0
        have g1 := (HB.out.ext HBW.out).cell 0
        simp only [List.getElem?_toArray, List.getElem?_cons_zero] at g0 g1
        clear hlk hlk' hmem hmem' hwf hwf' hcr hcr'
        have i0 : (0 : Int) ≤ k := by omega
        have i1 : (k : Int) < ts.length := by omega
        have i2 : (k : Int) < us.length := by omega
        have l1 := (HA.out.ext HBW.out).lt
        have l2 := (HB.out.ext HBW.out).lt
        obtain ⟨nm, cs, key, ref, par, TA, tc⟩ := t
        obtain ⟨nm', cs', key', ref', par', TA', tc'⟩ := u
        simp only at c0 c1 c2 c3 c4 d0 d1 d2 d3 d4 HCR HCR'
        go_upto_region 6 with fail
        go_cut [6, 7] (fun p q wx => ∃ b1 b2, p = .pointer (some ⟨b1, 0, none⟩) ∧ q = .pointer (some ⟨b2, 0, none⟩) ∧ Hid (Blk wx b1 #[.string nm, .slice TA cs.length tc, .int .i64 key, .int .i64 ref, .int .i64 par] 116) ∧ Hid (Blk wx b2 #[.string nm', .slice TA' cs'.length tc', .int .i64 key', .int .i64 ref', .int .i64 par'] 116) ∧ Hid (Below wr.heap.size wr wx))
        case first =>
          go_region
          · go_wp2_with fail
            go_meet
            exact ⟨_, _, rfl, rfl, (Blk.new wr #[.string nm, .slice TA cs.length tc, .int .i64 key, .int .i64 ref, .int .i64 par] 116).old _, (by have := Blk.new (wr.alloc (.cells #[.string nm, .slice TA cs.length tc, .int .i64 key, .int .i64 ref, .int .i64 par] 116)) #[.string nm', .slice TA' cs'.length tc', .int .i64 key', .int .i64 ref', .int .i64 par'] 116; simp only [World.size_alloc] at this; exact this), Below.drew (by repeat (first | exact Below.refl _ _ | assumption | refine Below.drew ?_ | refine below_drewN ?_ _ | refine Below.alloc ?_ (by simp <;> omega) _))⟩
          · go_wp2_with fail
            go_meet
            exact ⟨_, _, rfl, rfl, (by have := Blk.new (wr.alloc (.cells #[.string nm', .slice TA' cs'.length tc', .int .i64 key', .int .i64 ref', .int .i64 par'] 116)) #[.string nm, .slice TA cs.length tc, .int .i64 key, .int .i64 ref, .int .i64 par] 116; simp only [World.size_alloc] at this; exact this), (Blk.new wr #[.string nm', .slice TA' cs'.length tc', .int .i64 key', .int .i64 ref', .int .i64 par'] 116).old _, Below.drew (by repeat (first | exact Below.refl _ _ | assumption | refine Below.drew ?_ | refine below_drewN ?_ _ | refine Below.alloc ?_ (by simp <;> omega) _))⟩
        case rest =>
          obtain ⟨b1, b2, rfl, rfl, HB1, HB2, HB3⟩ := hcut
          rename World => wx
          obtain ⟨y0, y1, y2, y3, y4⟩ := blk5 HB1.out
          obtain ⟨z0, z1, z2, z3, z4⟩ := blk5 HB2.out
          have hl3 := HB3.out.size
          have HC3 := Lib.hid (HCR.out.ext HB3.out)
          have HC3' := Lib.hid (HCR'.out.ext HB3.out)
          clear c0 c1 c2 c3 c4 d0 d1 d2 d3 d4 g0 g1 HCR HCR' hb hb'
          by_cases e1 : nm = nm'
          · subst e1
            by_cases e2 : key = key'
            · subst e2
              by_cases e3 : ref = ref'
              · subst e3
                by_cases e4 : par = par'
                · subst e4
                  by_cases e5 : cs.length = cs'.length
                  · have q5 : ((cs.length : Int) != (cs'.length : Int)) = false := by simp [e5]
                    have HE5 := Lib.hid e5
                    have hcl := HC3.out.2.1
                    have hcl' : cs.length ≤ cs'.length := by omega
                    clear e5
                    go_wp2_with fail
                    clear q5
                    go_loopw [8] (fun i wy => ∃ j : Nat, j ≤ cs.length ∧ i = .int .i64 j ∧ Hid (cs.take j = cs'.take j) ∧ Hid (Below wx.heap.size wx wy)) (fun i _ => cs.length - (intOf i).toNat)
                    case atStart => exact ⟨0, by omega, rfl, (by simp : _ = _), Below.refl _ _⟩
                    case round =>
                      obtain ⟨j, hj1, rfl, HSJ, HBJ⟩ := hrel
                      have HB3 := Lib.hid (bt HB3.out HBJ.out)
                      have x1 := (HB1.out.ext HBJ.out).cell 1
                      have x2 := (HB2.out.ext HBJ.out).cell 1
                      simp only [List.getElem?_toArray, List.getElem?_cons_zero, List.getElem?_cons_succ] at x1 x2
                      have lx1 := (HB1.out.ext HBJ.out).lt
                      have lx2 := (HB2.out.ext HBJ.out).lt
                      clear y0 y1 y2 y3 y4 z0 z1 z2 z3 z4
                      by_cases hjl : j < cs.length
                      · obtain ⟨bb, of, v, rfl, hbb, hv, _, _, c0, c1, c2⟩ := (HC3.out.ext HBJ.out).at_ hjl
                        obtain ⟨bb', of', v', rfl, hbb', hv', _, _, c0', c1', c2'⟩ := (HC3'.out.ext HBJ.out).at_ (Nat.lt_of_lt_of_le hjl hcl')
                        have HV := Lib.hid hv
                        have HV' := Lib.hid hv'
                        have m1 : (j : Int) < cs.length := by omega
                        have m2 : (j : Int) < cs'.length := by omega
                        have m0 : (0 : Int) ≤ j := by omega
                        clear hv hv'
                        by_cases hvv : v = v'
                        · subst hvv
                          obtain ⟨va, vk, vn⟩ := v
                          simp only at c0 c1 c2 c0' c1' c2'
                          have hq := neqC_eq va vk vn
                          go_wp2_with fail
                          go_quiet (fail)
                          go_wp2_with fail
                          go_roundw
                          case rel => exact ⟨j + 1, by omega, by go_num, takeC HSJ.out HV.out HV'.out, by show Below _ _ _; have := HBJ.out; repeat (first | assumption | refine Below.drew ?_ | refine below_drewN ?_ _)⟩
                          case measure => simp [intOf]; omega
                        · have HNE := Lib.hid hvv
                          clear hvv
                          obtain ⟨va, vk, vn⟩ := v
                          obtain ⟨xa, xk, xn⟩ := v'
                          simp only at c0 c1 c2 c0' c1' c2'
                          have hq := neqC_ne va xa vk xk vn xn HNE.out
                          have hB9 := bt HBW'.out HB3.out
                          go_wp2_with fail
                          go_quiet (fail)
                          go_wp2_with fail
                          go_ret
                          refine ⟨ret_bool ?_, by repeat (first | assumption | refine Below.drew ?_ | refine below_drewN ?_ _)⟩
                          rw [← HP.out]
                          refine (notS HL.out HL'.out ?_).symm
                          simp only [Ta.d, ne_eq, Prod.mk.injEq]
                          intro e
                          have e1 := HV.out
                          rw [e.2.1, HV'.out] at e1
                          exact HNE.out (Option.some.inj e1.symm)
                      · have hj : j = cs.length := by omega
                        have HJ := Lib.hid hj
                        clear hj
                        go_wp2_with fail
                        go_roundw
                        case rel =>
                          refine ⟨k + 1, by omega, by go_num, takeS HS.out HL.out HL'.out ?_, bt HBW.out HB3.out⟩
                          have e := HSJ.out
                          rw [HJ.out, List.take_length, HE5.out, List.take_length] at e
                          simp only [Ta.d, e]
                        case measure => simp [intOf]; omega
                  · have HNE := Lib.hid e5
                    have q5 : ((cs.length : Int) != (cs'.length : Int)) = true := by rw [bne_iff_ne]; omega
                    clear e5
                    go_wp2_with fail
                    go_ret
                    refine ⟨ret_bool ?_, bt HBW'.out HB3.out⟩
                    rw [← HP.out]
                    refine (notS HL.out HL'.out ?_).symm
                    simp only [Ta.d, ne_eq, Prod.mk.injEq]
                    intro e
                    exact HNE.out (by rw [e.2.1])
                · have HNE := Lib.hid e4
                  have q4 : (par != par') = true := by rw [bne_iff_ne]; exact e4
                  clear e4
                  go_wp2_with fail
                  go_ret
                  refine ⟨ret_bool ?_, bt HBW'.out HB3.out⟩
                  rw [← HP.out]
                  refine (notS HL.out HL'.out ?_).symm
                  simp only [Ta.d, ne_eq, Prod.mk.injEq]
                  intro e
                  exact HNE.out e.2.2.2.2
              · have HNE := Lib.hid e3
                have q3 : (ref != ref') = true := by rw [bne_iff_ne]; exact e3
                clear e3
                go_wp2_with fail
                go_ret
                refine ⟨ret_bool ?_, bt HBW'.out HB3.out⟩
                rw [← HP.out]
                refine (notS HL.out HL'.out ?_).symm
                simp only [Ta.d, ne_eq, Prod.mk.injEq]
                intro e
                exact HNE.out e.2.2.2.1
            · have HNE := Lib.hid e2
              have q2 : (key != key') = true := by rw [bne_iff_ne]; exact e2
              clear e2
              go_wp2_with fail
              go_ret
              refine ⟨ret_bool ?_, bt HBW'.out HB3.out⟩
              rw [← HP.out]
              refine (notS HL.out HL'.out ?_).symm
              simp only [Ta.d, ne_eq, Prod.mk.injEq]
              intro e
              exact HNE.out e.2.2.1
          · have HNE := Lib.hid e1
            obtain ⟨q1, q1'⟩ := strne e1
            clear e1
            go_wp2_with fail
            go_ret
            refine ⟨ret_bool ?_, bt HBW'.out HB3.out⟩
            rw [← HP.out]
            refine (notS HL.out HL'.out ?_).symm
            simp only [Ta.d, ne_eq, Prod.mk.injEq]
            intro e
            exact HNE.out e.1
      · have hk : k = ts.length := by omega
        have HK := Lib.hid hk
        have g0 := (HA.out.ext HBW.out).cell 0
        simp only [List.getElem?_toArray, List.getElem?_cons_zero] at g0
        clear hk
        go_wp2_with fail
        go_ret
        refine ⟨ret_bool ?_, bt HC.out HBW.out⟩
        rw [← HP.out]
        have e := HS.out
        rw [HK.out] at e
        exact (endS HN.out e).symm
  · have hb1 : ((ts.length : Int) != (us.length : Int)) = true := by
      rw [bne_iff_ne]; omega
    have e : sameS ts us = false := decide_eq_false (fun e => hne (by have := congrArg List.length e; simpa using this))
    rw [e]
    clear e hne
    go_enter Tryd.func81, Tryd.ntmps81
    go_wp2_with fail
    go_ret
    exact ⟨rfl, (by repeat (first | exact Below.refl _ _ | assumption | refine Below.drew ?_ | refine below_drewN ?_ _ | refine Below.alloc ?_ (by simp <;> omega) _))⟩
end Go.Proofs.YtjdfodmialhakaaDoor
