/- Several texts in one: see each part's head. -/
import Derived.Test.YtfekohonidggjaaGreatDoorJ24
import Derived.Test.YtfekohonidggjaaGreatDoorJ9
import Derived.ChangeKeysEq
import Derived.Test.YtfekohonidggjaaGreatDoorJ20
import Derived.Test.YtfekohonidggjaaGreatDoorJ14
import Derived.Test.YtfekohonidggjaaGreatDoorJ10
import Derived.Lib.IndexMore
/- Contracts: script.conf, script.Check. -/
namespace Go.Proofs.YtfekohonidggjaaGreatDoor
open Go.RowKit

def Cf.agg (c : Cf) (A : Option Addr) (k : Nat) : Value := .agg #[.slice A c.ts.length k, .int .i64 c.seg, .int .i64 c.bd, .int .i64 c.r0, .int .i64 c.r1, .int .i64 c.r2]

theorem idx_rooms0 (a b c : Int) (w : World) : (Instr.index 25 (.agg #[.int .i64 a, .int .i64 b, .int .i64 c]) (.int .i64 0)).run Tryz.prog w = .ok (.int .i64 a) w := by kernel_rfl
theorem idx_rooms1 (a b c : Int) (w : World) : (Instr.index 25 (.agg #[.int .i64 a, .int .i64 b, .int .i64 c]) (.int .i64 1)).run Tryz.prog w = .ok (.int .i64 b) w := by kernel_rfl
theorem idx_rooms2 (a b c : Int) (w : World) : (Instr.index 25 (.agg #[.int .i64 a, .int .i64 b, .int .i64 c]) (.int .i64 2)).run Tryz.prog w = .ok (.int .i64 c) w := by kernel_rfl
set_option maxRecDepth 100000 in
set_option maxHeartbeats 3200000 in
theorem conf_any (seg bd r0 r1 r2 : Int) (ts : List Ta) (A : Option Addr) (k : Nat) (w : World) (ht : TRow w A k ts) :
    Calls Tryz.prog 35 #[Cf.agg ⟨seg, bd, r0, r1, r2, ts⟩ A k] w fun r w' => r = .returned (.bool (confB ⟨seg, bd, r0, r1, r2, ts⟩)) ∧ Below w.heap.size w w' := by
  have HCK := Lib.hid (fun (W : World) (hW : Below w.heap.size w W) => check13_any ts A k W (ht.ext hW))
  have hb0 : Below w.heap.size w (w.alloc (.cells #[.slice A ts.length k, .int .i64 seg, .int .i64 bd, .int .i64 r0, .int .i64 r1, .int .i64 r2] 27)) := (by repeat (first | exact Below.refl _ _ | assumption | refine Below.drew ?_ | refine below_drewN ?_ _ | refine Below.alloc ?_ (by simp <;> omega) _))
  have hB := Blk.new w #[.slice A ts.length k, .int .i64 seg, .int .i64 bd, .int .i64 r0, .int .i64 r1, .int .i64 r2] 27
  have HBW := Lib.hid hb0
  have HB := Lib.hid hB
  have hx0 := idx_rooms0 r0 r1 r2
  have hx1 := idx_rooms1 r0 r1 r2
  have hx2 := idx_rooms2 r0 r1 r2
  clear ht hb0 hB
  unfold Cf.agg
  simp only
  go_enter Tryz.func35, Tryz.ntmps35
  go_upto_region 1 with fail
  generalize w.alloc (.cells #[.slice A ts.length k, .int .i64 seg, .int .i64 bd, .int .i64 r0, .int .i64 r1, .int .i64 r2] 27) = w1 at HBW HB ⊢
  obtain ⟨d9, d0, d1, d2, d3, d4, d5⟩ := blk6 HB.out
  go_wp2_with fail
  refine wp_loop_rounds 4 ?_
  rw [rounds_succ]
  by_cases a0 : r0 < 0
  · have hN : confB ⟨seg, bd, r0, r1, r2, ts⟩ = false := by simp [confB, rmB]; omega
    have HN := Lib.hid hN
    clear hN
    go_wp2_with fail
    go_ret
    exact ⟨by rw [HN.out]; rfl, HBW.out⟩
  by_cases b0 : 16777216 < r0
  · have hN : confB ⟨seg, bd, r0, r1, r2, ts⟩ = false := by simp [confB, rmB]; omega
    have HN := Lib.hid hN
    clear hN
    go_wp2_with fail
    go_ret
    exact ⟨by rw [HN.out]; rfl, HBW.out⟩
  go_wp2_with fail
  rw [rounds_succ]
  by_cases a1 : r1 < 0
  · have hN : confB ⟨seg, bd, r0, r1, r2, ts⟩ = false := by simp [confB, rmB]; omega
    have HN := Lib.hid hN
    clear hN
    go_wp2_with fail
    go_ret
    exact ⟨by rw [HN.out]; rfl, HBW.out⟩
  by_cases b1 : 16777216 < r1
  · have hN : confB ⟨seg, bd, r0, r1, r2, ts⟩ = false := by simp [confB, rmB]; omega
    have HN := Lib.hid hN
    clear hN
    go_wp2_with fail
    go_ret
    exact ⟨by rw [HN.out]; rfl, HBW.out⟩
  go_wp2_with fail
  rw [rounds_succ]
  by_cases a2 : r2 < 0
  · have hN : confB ⟨seg, bd, r0, r1, r2, ts⟩ = false := by simp [confB, rmB]; omega
    have HN := Lib.hid hN
    clear hN
    go_wp2_with fail
    go_ret
    exact ⟨by rw [HN.out]; rfl, HBW.out⟩
  by_cases b2 : 16777216 < r2
  · have hN : confB ⟨seg, bd, r0, r1, r2, ts⟩ = false := by simp [confB, rmB]; omega
    have HN := Lib.hid hN
    clear hN
    go_wp2_with fail
    go_ret
    exact ⟨by rw [HN.out]; rfl, HBW.out⟩
  go_wp2_with fail
  rw [rounds_succ]
  go_wp2_with fail
  refine (HCK.out w1 HBW.out).mono ?_
  rintro r w2 ⟨rfl, hb2⟩
  have HB2 := Lib.hid (HB.out.ext hb2)
  have HBW2 := Lib.hid (bt HBW.out hb2)
  clear hb2 d9 d0 d1 d2 d3 d4 d5
  obtain ⟨d9, d0, d1, d2, d3, d4, d5⟩ := blk6 HB2.out
  cases hs : schB ts with
  | false =>
    have hN : confB ⟨seg, bd, r0, r1, r2, ts⟩ = false := by simp [confB, hs]
    have HN := Lib.hid hN
    clear hN hs
    simp only [okE]
    go_wp2_with fail
    go_ret
    exact ⟨by rw [HN.out]; rfl, HBW2.out⟩
  | true =>
    simp only [okE]
    by_cases c1 : 1 ≤ seg
    · by_cases c2 : seg ≤ 65536
      · by_cases c3 : 1 ≤ bd
        · by_cases c4 : bd ≤ 4096
          · have hN : confB ⟨seg, bd, r0, r1, r2, ts⟩ = true := by
              simp [confB, rmB, segB, bdB, hs]
              omega
            have HN := Lib.hid hN
            clear hN hs
            go_wp2_with fail
            go_ret
            exact ⟨by rw [HN.out]; rfl, HBW2.out⟩
          · have hN : confB ⟨seg, bd, r0, r1, r2, ts⟩ = false := by
              refine Bool.eq_false_iff.2 fun e => ?_
              simp only [confB, rmB, segB, bdB, hs, Bool.and_eq_true, decide_eq_true_eq] at e
              omega
            have HN := Lib.hid hN
            clear hN hs
            go_wp2_with fail
            go_ret
            exact ⟨by rw [HN.out]; rfl, HBW2.out⟩
        · have hN : confB ⟨seg, bd, r0, r1, r2, ts⟩ = false := by
            refine Bool.eq_false_iff.2 fun e => ?_
            simp only [confB, rmB, segB, bdB, hs, Bool.and_eq_true, decide_eq_true_eq] at e
            omega
          have HN := Lib.hid hN
          clear hN hs
          go_wp2_with fail
          go_ret
          exact ⟨by rw [HN.out]; rfl, HBW2.out⟩
      · have hN : confB ⟨seg, bd, r0, r1, r2, ts⟩ = false := by
          refine Bool.eq_false_iff.2 fun e => ?_
          simp only [confB, rmB, segB, bdB, hs, Bool.and_eq_true, decide_eq_true_eq] at e
          omega
        have HN := Lib.hid hN
        clear hN hs
        go_wp2_with fail
        go_ret
        exact ⟨by rw [HN.out]; rfl, HBW2.out⟩
    · have hN : confB ⟨seg, bd, r0, r1, r2, ts⟩ = false := by
        refine Bool.eq_false_iff.2 fun e => ?_
        simp only [confB, rmB, segB, bdB, hs, Bool.and_eq_true, decide_eq_true_eq] at e
        omega
      have HN := Lib.hid hN
      clear hN hs
      go_wp2_with fail
      go_ret
      exact ⟨by rw [HN.out]; rfl, HBW2.out⟩
def actsB (l : List Am) : Bool := l.all fun x => (actT x.a).isSome
set_option maxRecDepth 100000 in
set_option maxHeartbeats 3200000 in
theorem check31_any (seg bd r0 r1 r2 : Int) (ts : List Ta) (A : Option Addr) (k : Nat) (l : List Am) (L : Option Addr) (lc : Nat) (w : World) (ht : TRow w A k ts) (hl : AmRow w L l) (hL : LayS w) :
    Calls Tryz.prog 12 #[Cf.agg ⟨seg, bd, r0, r1, r2, ts⟩ A k, .slice L l.length lc] w fun r w' => r = .returned (.int .i64 (okE (confB ⟨seg, bd, r0, r1, r2, ts⟩ && actsB l))) ∧ Below w.heap.size w w' := by
  have HCF := Lib.hid (fun (W : World) (hW : Below w.heap.size w W) => conf_any seg bd r0 r1 r2 ts A k W (ht.ext hW))
  have HAC := Lib.hid (fun (x : Am) (hx : x.a.wf) (W : World) (hW : Below w.heap.size w W) (hr : VRow W x.A x.a.row) => act_any x.a hx x.A x.c W hr (hL.ext hW))
  have HAM := Lib.hid hl
  have h40 := hl.2.1
  clear ht hl hL
  unfold Cf.agg at HCF ⊢
  simp only at HCF ⊢
  go_enter Tryz.func12, Tryz.ntmps12
  go_wp2_with fail
  have hb0 : Below w.heap.size w (w.alloc (.cells #[.slice A ts.length k, .int .i64 seg, .int .i64 bd, .int .i64 r0, .int .i64 r1, .int .i64 r2] 27)) := (by repeat (first | exact Below.refl _ _ | assumption | refine Below.drew ?_ | refine below_drewN ?_ _ | refine Below.alloc ?_ (by simp <;> omega) _))
  refine (HCF.out _ hb0).mono ?_
  cases hcf : confB ⟨seg, bd, r0, r1, r2, ts⟩ with
  | false =>
    rintro r w1 ⟨rfl, hb1⟩
    have hb2 := bt hb0 hb1
    clear hb1 hb0
    have HCC := Lib.hid hcf
    clear hcf
    go_wp2_with fail
    go_ret
    exact ⟨by rw [HCC.out]; rfl, hb2⟩
  | true =>
    rintro r w1 ⟨rfl, hb1⟩
    have hb2 := bt hb0 hb1
    have HCC := Lib.hid hcf
    clear hb1 hb0 hcf
    go_wp2_with fail
    go_loopw [14] (fun i wr => ∃ j : Nat, j ≤ l.length ∧ i = .int .i64 j ∧ Hid (actsB (l.take j) = true) ∧ Below w.heap.size w wr) (fun i _ => l.length - (intOf i).toNat)
    case atStart => exact ⟨0, by omega, rfl, (rfl : _ = _), hb2⟩
    case round =>
      obtain ⟨j, hj, rfl, HJ, hbw⟩ := hrel
      clear hb2
      by_cases hlt : j < l.length
      · obtain ⟨b, off, x, rfl, hb, hlk, hmem, hwf, hvr, c0, c1, c2, c3, c4, c5, c6, c7⟩ := (HAM.out.ext hbw).at_ hlt
        have hbA := hbw.alloc hbw.size (.cells (Am.arr x.a x.A x.c) 42)
        have hAC := HAC.out x hwf (wr.alloc (.cells (Am.arr x.a x.A x.c) 42)) hbA (hvr.ext (Below.alloc (Below.refl _ _) (Nat.le_refl _) _))
        have htk : l.take (j + 1) = l.take j ++ [x] := by
          obtain ⟨h1, h2⟩ := List.getElem?_eq_some_iff.1 hlk
          rw [List.take_succ_eq_append_getElem h1, h2]
        have HTK := Lib.hid htk
        have HME := Lib.hid hmem
        have hltI : (j : Int) < l.length := by omega
        obtain ⟨ac, xA, xc⟩ := x
        unfold Am.arr at hAC hbA
        unfold Ac.agg at hAC
        simp only at c0 c1 c2 c3 c4 c5 c6 c7 hAC hbA
        have HAC2 := Lib.hid hAC
        have HBA := Lib.hid hbA
        clear hlk hmem hwf hvr htk hAC hbA hbw
        cases hat : actT ac with
        | none =>
          rw [hat] at HAC2
          have hN : actsB l = false := by
            refine Bool.eq_false_iff.2 fun e => ?_
            have := List.all_eq_true.1 e _ HME.out
            simp only [hat] at this
            cases this
          have HN := Lib.hid hN
          clear hat hN
          go_wp2_with fail
          refine HAC2.out.mono ?_
          rintro r w3 ⟨rfl, hb3⟩
          have hb4 := HBA.out.trans (hb3.mono HBA.out.size)
          unfold actP
          clear hb3
          go_wp2_with fail
          go_ret
          exact ⟨by rw [HCC.out, HN.out]; rfl, hb4⟩
        | some s =>
          rw [hat] at HAC2
          have HJ2 : Hid (actsB (l.take (j + 1)) = true) := by
            show _ = _
            rw [HTK.out]
            unfold actsB
            rw [List.all_append]
            have := HJ.out
            unfold actsB at this
            rw [this]
            simp [hat]
          clear hat
          go_wp2_with fail
          refine HAC2.out.mono ?_
          rintro r w3 ⟨rfl, hb3⟩
          have hb4 := HBA.out.trans (hb3.mono HBA.out.size)
          unfold actP
          clear hb3
          go_wp2_with fail
          go_roundw
          case rel => exact ⟨j + 1, by omega, by go_num, HJ2, hb4⟩
          case measure => simp [intOf]; omega
      · obtain rfl : j = l.length := by omega
        have hN := HJ.out
        rw [List.take_length] at hN
        have HN := Lib.hid hN
        clear hN
        go_wp2_with fail
        go_ret
        exact ⟨by rw [HCC.out, HN.out]; rfl, hbw⟩
end Go.Proofs.YtfekohonidggjaaGreatDoor

/- Two scripts alike. -/
namespace Go.Proofs.YtfekohonidggjaaGreatDoor
open Go.RowKit

theorem am_map_len {l m : List Am} (h : l.map (·.a) = m.map (·.a)) : l.length = m.length := by simpa using congrArg List.length h
theorem am_map_at {l m : List Am} (h : l.map (·.a) = m.map (·.a)) {k : Nat} {x y : Am} (hx : l[k]? = some x) (hy : m[k]? = some y) : x.a = y.a := by
  have := congrArg (fun q => q[k]?) h
  simp only [List.getElem?_map, hx, hy, Option.map_some, Option.some.injEq] at this
  exact this
theorem info_int3 : (Tryz.prog.info? 3).isSome = true := by kernel_rfl
theorem cells_int3 : Tryz.prog.cellsOf 3 = 1 := by kernel_rfl
theorem part0 (a b c : Int) (w : World) : (part 3 #[.int .i64 a, .int .i64 b, .int .i64 c] 0).run Tryz.prog w = .ok (.int .i64 a) w := by kernel_rfl
theorem part1 (a b c : Int) (w : World) : (part 3 #[.int .i64 a, .int .i64 b, .int .i64 c] 1).run Tryz.prog w = .ok (.int .i64 b) w := by kernel_rfl
theorem part2 (a b c : Int) (w : World) : (part 3 #[.int .i64 a, .int .i64 b, .int .i64 c] 2).run Tryz.prog w = .ok (.int .i64 c) w := by kernel_rfl
theorem neq_rooms (a b c : Int) (w : World) : (binOp .neq 25 (.agg #[.int .i64 a, .int .i64 b, .int .i64 c]) (.agg #[.int .i64 a, .int .i64 b, .int .i64 c])).run Tryz.prog w = .ok (.bool false) w := by
  obtain ⟨ii, hii⟩ := Option.isSome_iff_exists.1 info_int3
  go_simp
  rw [run_equalIn_array w 9999 _ _ Tryz.underlying25 hii, cells_int3]
  rw [show List.range 3 = [0, 1, 2] from rfl]
  have e := fun x => run_equalIn_int (P := Tryz.prog) w 9998 3 .i64 .i64 x x Tryz.underlying3
  simp only [Op.eqItems, Sem.run_bind, Nat.reduceMul, part0, part1, part2, Result.andThen_ok, e, beq_self_eq_true, Bool.not_true, Bool.false_eq_true, if_false, Sem.run_pure]
set_option maxRecDepth 100000 in
set_option maxHeartbeats 1600000 in
theorem sameC_yes (seg bd r0 r1 r2 : Int) (ts us : List Ta) (hs : sameS ts us = true) (l m : List Am) (hlm : l.map (·.a) = m.map (·.a)) (A B C E : Option Addr) (c e g k : Nat) (w : World) (ht : TRow w A c ts) (hu : TRow w B e us) (hl : AmRow w C l) (hm : AmRow w E m) :
    Calls Tryz.prog 14 #[Cf.agg ⟨seg, bd, r0, r1, r2, ts⟩ A c, Cf.agg ⟨seg, bd, r0, r1, r2, us⟩ B e, .slice C l.length g, .slice E m.length k] w fun r w' => r = .returned (.bool true) ∧ Below w.heap.size w w' := by
  have HS := Lib.hid (fun (W : World) (hW : Below w.heap.size w W) => sameS_any ts us A B c e W (ht.ext hW) (hu.ext hW))
  rw [hs] at HS
  have hlen := am_map_len hlm
  have HL := Lib.hid hl
  have HM := Lib.hid hm
  have HLM := Lib.hid hlm
  have hlI : (l.length : Int) = m.length := by omega
  have hb1 : ((l.length : Int) != (m.length : Int)) = false := by simp [hlen]
  have h40 := hl.2.1
  have hnr := neq_rooms r0 r1 r2
  clear hs hlm hl hm ht hu
  unfold Cf.agg
  simp only
  go_enter Tryz.func14, Tryz.ntmps14
  go_wp2_with fail
  refine (HS.out _ (by repeat (first | exact Below.refl _ _ | assumption | refine Below.drew ?_ | refine below_drewN ?_ _ | refine Below.alloc ?_ (by simp <;> omega) _))).mono ?_
  rintro r w1 ⟨rfl, hb⟩
  have hB0 : Below w.heap.size w ((w.alloc (.cells #[.slice A ts.length c, .int .i64 seg, .int .i64 bd, .int .i64 r0, .int .i64 r1, .int .i64 r2] 27)).alloc (.cells #[.slice B us.length e, .int .i64 seg, .int .i64 bd, .int .i64 r0, .int .i64 r1, .int .i64 r2] 27)) := (by repeat (first | exact Below.refl _ _ | assumption | refine Below.drew ?_ | refine below_drewN ?_ _ | refine Below.alloc ?_ (by simp <;> omega) _))
  have hB1 := bt hB0 hb
  clear hB0 hb hnr
  go_wp2_with fail
  clear hb1 hlI
  go_loopw [9] (fun i wr => ∃ k : Nat, k ≤ l.length ∧ i = .int .i64 k ∧ Below w.heap.size w wr) (fun i _ => l.length - (intOf i).toNat)
  case atStart => exact ⟨0, by omega, rfl, hB1⟩
  case round =>
    obtain ⟨j, hj, rfl, hbw⟩ := hrel
    by_cases hlt : j < l.length
    · obtain ⟨b, off, x, rfl, hb, hlk, hmem, hwf, hvr, c0, c1, c2, c3, c4, c5, c6, c7⟩ := (HL.out.ext hbw).at_ hlt
      obtain ⟨b', off', y, rfl, hb', hlk', hmem', hwf', hvr', d0, d1, d2, d3, d4, d5, d6, d7⟩ := (HM.out.ext hbw).at_ (by omega : j < m.length)
      have hxy := am_map_at HLM.out hlk hlk'
      obtain ⟨a, A1, q1⟩ := x
      obtain ⟨a', A2, q2⟩ := y
      simp only at hxy
      subst hxy
      have HC := Lib.hid (fun (W : World) (hW : Below wr.heap.size wr W) => same1_yes a A1 A2 q1 q2 W (hvr.ext hW) (hvr'.ext hW))
      unfold Ac.agg at HC
      simp only at c0 c1 c2 c3 c4 c5 c6 c7 d0 d1 d2 d3 d4 d5 d6 d7
      have i0 : (0 : Int) ≤ j := by omega
      have i1 : (j : Int) < l.length := by omega
      have i2 : (j : Int) < m.length := by omega
      have HBW := Lib.hid hbw
      clear hlk hlk' hmem hmem' hwf hwf' hvr hvr' hbw
      go_upto_region 6 with fail
      go_still_tail 8, (by kernel_rfl)
      change wpList _ _ _ _ _ wr.drew
      go_wp2_with fail
      refine (HC.out _ (Below.drew (Below.refl _ _))).mono ?_
      rintro r w2 ⟨rfl, hb2⟩
      go_wp2_with fail
      go_roundw
      case rel => exact ⟨j + 1, by omega, by go_num, (HBW.out.drew).trans (hb2.mono HBW.out.size)⟩
      case measure => simp [intOf]; omega
    · go_wp2_with fail
      go_ret
      exact ⟨rfl, hbw⟩
end Go.Proofs.YtfekohonidggjaaGreatDoor

/- Several texts in one: see each part's head. -/
/- fasciclelaw13.Large answers, and changes nothing; fascicleref13.Copy gives the same schema. -/
namespace Go.Proofs.YtfekohonidggjaaGreatDoor
open Go.RowKit

def BoolP (w : World) (r : Ending) (w' : World) : Prop := (∃ v, r = .returned (.bool v)) ∧ Below w.heap.size w w'
set_option maxRecDepth 100000 in
set_option maxHeartbeats 1000000 in
theorem large13_any (ts : List Ta) (A : Option Addr) (c : Nat) (w : World) (ht : TRow w A c ts) :
    Calls Tryz.prog 26 #[.agg #[.slice A ts.length c]] w (BoolP w) := by
  have hlen := ht.2.1
  have HT := Lib.hid ht
  clear ht
  go_enter Tryz.func26, Tryz.ntmps26
  go_wp2_with fail
  have h0 : Blk (w.alloc (.cells #[.slice A ts.length c] 24)) w.heap.size #[.slice A ts.length c] 24 := Blk.new w #[.slice A ts.length c] 24
  have hC : Below w.heap.size w (w.alloc (.cells #[.slice A ts.length c] 24)) := (by repeat (first | exact Below.refl _ _ | assumption | refine Below.drew ?_ | refine below_drewN ?_ _ | refine Below.alloc ?_ (by simp <;> omega) _))
  have HA := Lib.hid h0
  have HC := Lib.hid hC
  clear h0 hC
  generalize w.alloc (.cells #[.slice A ts.length c] 24) = Wq at HA HC ⊢
  go_loopw [3, 4] (fun n i wr => ∃ (k : Nat) (v : Int), k ≤ ts.length ∧ n = .int .i64 v ∧ i = .int .i64 k ∧ Hid (Below Wq.heap.size Wq wr)) (fun _ i _ => ts.length - (intOf i).toNat)
  case atStart => exact ⟨0, 0, by omega, rfl, rfl, Below.refl _ _⟩
  case round =>
    obtain ⟨k, n, hk1, rfl, rfl, HBW⟩ := hrel
    have HBW' := Lib.hid (bt HC.out HBW.out)
    have g0 := (HA.out.ext HBW.out).cell 0
    simp only [List.getElem?_toArray, List.getElem?_cons_zero] at g0
    have l1 := (HA.out.ext HBW.out).lt
    by_cases hlt : k < ts.length
    · obtain ⟨b, off, t, rfl, hb, hlk, hmem, hwf, hcr, c0, c1, c2, c3, c4⟩ := (HT.out.ext HBW'.out).at_ hlt
      have HCR := Lib.hid hcr
      have hcl := hcr.2.1
      have hnz := hwf.1
      clear hlk hmem hwf hcr
      have i0 : (0 : Int) ≤ k := by omega
      have i1 : (k : Int) < ts.length := by omega
      by_cases h40 : (k : Int) < 40
      · obtain ⟨nm, cs, key, ref, par, TA, tc⟩ := t
        simp only at c0 c1 c2 c3 c4 HCR hcl hnz
        go_wp2_with fail
        go_quiet (fail)
        go_wp2_with fail
        generalize wrap64 (wrap64 (n + ↑cs.length) + ↑nm.size / 16) = n2
        have HC1 := Lib.hid c1
        clear c0 c1 c2 c3 c4 g0
        have HBN := Lib.hid (show Below wr.heap.size wr (wr.drewN nq) by have := Below.refl wr.heap.size wr; repeat (first | assumption | refine Below.drew ?_ | refine below_drewN ?_ _))
        generalize wr.drewN nq = wx at HBN ⊢
        go_loopw [3, 5] (fun n i wy => ∃ (j : Nat) (v : Int), j ≤ cs.length ∧ n = .int .i64 v ∧ i = .int .i64 j ∧ Hid (Below wr.heap.size wr wy)) (fun _ i _ => cs.length - (intOf i).toNat)
        case atStart => exact ⟨0, n2, by omega, rfl, rfl, HBN.out⟩
        case round =>
          obtain ⟨j, n3, hj1, rfl, rfl, HBY⟩ := hrel
          have c1 := (HBY.out.cell (p := ⟨b, off + k * 5 + 1, none⟩) hb).trans HC1.out
          have g0 := ((HA.out.ext HBW.out).ext HBY.out).cell 0
          simp only [List.getElem?_toArray, List.getElem?_cons_zero] at g0
          have l2 := HBY.out.size
          have h40' : k < 40 := by omega
          by_cases hjl : j < cs.length
          · by_cases hj40 : (j : Int) < 40
            · obtain ⟨bb, of, v, rfl, hbb, hv, hm, hvw, d0, d1, d2⟩ := (HCR.out.ext HBY.out).at_ hjl
              have hvz := hvw.1
              have m1 : (j : Int) < cs.length := by omega
              have m0 : (0 : Int) ≤ j := by omega
              clear hv hm hvw
              go_wp2_with fail
              go_roundw
              case rel => exact ⟨j + 1, _, by omega, rfl, by go_num, HBY.out⟩
              case measure => simp [intOf]; omega
            · have m2 : (40 : Int) ≤ j := by omega
              go_wp2_with fail
              go_roundw
              case rel => exact ⟨k + 1, _, by omega, rfl, by go_num, bt HBW.out HBY.out⟩
              case measure => simp [intOf]; omega
          · have m1 : (cs.length : Int) ≤ j := by omega
            go_wp2_with fail
            go_roundw
            case rel => exact ⟨k + 1, _, by omega, rfl, by go_num, bt HBW.out HBY.out⟩
            case measure => simp [intOf]; omega
      · have e1 : (30 : Int) < ts.length := by omega
        go_wp2_with fail
        go_ret
        exact ⟨⟨_, rfl⟩, HBW'.out⟩
    · have hk : ¬ (k : Int) < ts.length := by omega
      by_cases e1 : (30 : Int) < ts.length
      · go_wp2_with fail
        go_ret
        exact ⟨⟨_, rfl⟩, HBW'.out⟩
      · have f1 : (ts.length : Int) ≤ 30 := by omega
        by_cases e2 : (600 : Int) < n
        · go_wp2_with fail
          go_ret
          exact ⟨⟨_, rfl⟩, HBW'.out⟩
        · have f2 : n ≤ 600 := by omega
          go_wp2_with fail
          go_ret
          exact ⟨⟨_, rfl⟩, HBW'.out⟩
end Go.Proofs.YtfekohonidggjaaGreatDoor

/- fasciclelaw13.Two: the chapter's two tables. -/
namespace Go.Proofs.YtfekohonidggjaaGreatDoor
open Go.RowKit

end Go.Proofs.YtfekohonidggjaaGreatDoor

/- Columns read: the plain side. -/
namespace Go.Proofs.YtfekohonidggjaaGreatDoor
open Go.RowKit

theorem cutC_index : ∀ w : List UInt8, match cutC w with
    | some (a, b) => Lib.indexByte w 58 = a.length ∧ w = a ++ 58 :: b
    | none => Lib.indexByte w 58 = -1
  | [] => rfl
  | c :: r => by
    have ih := cutC_index r
    unfold cutC Lib.indexByte
    by_cases hc : c = 58
    · subst hc
      simp
    · rw [if_neg hc]
      cases h : cutC r with
      | none =>
        rw [h] at ih
        simp only at ih
        simp [hc, ih]
      | some x =>
        obtain ⟨a, b⟩ := x
        rw [h] at ih
        simp only at ih
        simp only [Option.map_some, List.length_cons, List.cons_append]
        refine ⟨?_, by rw [← ih.2]⟩
        simp [hc, ih.1]
theorem cut_C (w : List UInt8) : Lib.cut w [58] = match cutC w with
    | some (a, b) => (a, b, true)
    | none => (w, [], false) := by
  have h := cutC_index w
  unfold Lib.cut
  rw [Lib.index_one]
  cases hc : cutC w with
  | none =>
    rw [hc] at h
    simp only at h
    rw [h]
    rfl
  | some x =>
    obtain ⟨a, b⟩ := x
    rw [hc] at h
    simp only at h
    rw [h.1, if_pos (by omega)]
    simp only [Int.toNat_natCast, List.length_singleton, Prod.mk.injEq, and_true]
    rw [h.2]
    exact ⟨by simp, by simp⟩
def kindsB : List ByteArray := [bsO [], bsO (kindW 1 false), bsO (kindW 2 false), bsO (kindW 3 false), bsO (kindW 4 false), bsO (kindW 5 false)]
/-- The kind's number of a word, and whether it may be null. -/
def kiW (b : List UInt8) : Int := Lib.idxOfS kindsB (bsO (Lib.trimSuffix b [63]))
theorem kiW_some {b : List UInt8} {k : Int} {nl : Bool} (h : kindAt b = some (k, nl)) : kiW b = k ∧ Lib.hasSuffix b [63] = nl ∧ 1 ≤ k ∧ k ≤ 5 := by
  obtain ⟨hk, rfl⟩ := kindAt_some.1 h
  have : k = 1 ∨ k = 2 ∨ k = 3 ∨ k = 4 ∨ k = 5 := by omega
  rcases this with rfl | rfl | rfl | rfl | rfl <;> cases nl <;> exact ⟨by decide, by decide, by decide, by decide⟩
theorem suffix_split (b : List UInt8) : (Lib.hasSuffix b [63] = true ∧ b = Lib.trimSuffix b [63] ++ [63]) ∨ (Lib.hasSuffix b [63] = false ∧ b = Lib.trimSuffix b [63]) := by
  unfold Lib.trimSuffix
  cases h : Lib.hasSuffix b [63] with
  | false => exact Or.inr ⟨rfl, by simp⟩
  | true =>
    refine Or.inl ⟨rfl, ?_⟩
    unfold Lib.hasSuffix at h
    obtain ⟨t, ht⟩ := List.isSuffixOf_iff_suffix.1 h
    simp only [if_true]
    rw [← ht]
    simp
theorem kiW_pos {b : List UInt8} (h : 0 < kiW b) : ∃ nl, kindAt b = some (kiW b, nl) ∧ Lib.hasSuffix b [63] = nl := by
  have key : ∀ t : List UInt8, 0 < Lib.idxOfS kindsB (bsO t) → ∃ k : Int, Lib.idxOfS kindsB (bsO t) = k ∧ (1 ≤ k ∧ k ≤ 5) ∧ t = kindW k false := by
    intro t ht
    unfold Lib.idxOfS kindsB at ht ⊢
    simp only [Lib.idxFromS] at ht ⊢
    split at ht
    · omega
    · split at ht
      · next e => exact ⟨1, by simp [*], by omega, (bsO_inj e).symm⟩
      · split at ht
        · next e => exact ⟨2, by simp [*], by omega, (bsO_inj e).symm⟩
        · split at ht
          · next e => exact ⟨3, by simp [*], by omega, (bsO_inj e).symm⟩
          · split at ht
            · next e => exact ⟨4, by simp [*], by omega, (bsO_inj e).symm⟩
            · split at ht
              · next e => exact ⟨5, by simp [*], by omega, (bsO_inj e).symm⟩
              · omega
  obtain ⟨k, hk, hr, he⟩ := key _ h
  have hkk : kiW b = k := hk
  rcases suffix_split b with ⟨h1, h2⟩ | ⟨h1, h2⟩
  · refine ⟨true, ?_, h1⟩
    rw [hkk]
    exact kindAt_some.2 ⟨hr, by rw [h2, he, kind_null hr]⟩
  · refine ⟨false, ?_, h1⟩
    rw [hkk]
    exact kindAt_some.2 ⟨hr, by rw [h2, he]⟩
end Go.Proofs.YtfekohonidggjaaGreatDoor
