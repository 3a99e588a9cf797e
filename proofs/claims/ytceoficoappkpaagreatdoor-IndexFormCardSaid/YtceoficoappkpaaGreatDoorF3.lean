/- Texts joined by a tool: contracts and walks of this claim. -/
import Derived.Test.YtceoficoappkpaaGreatDoorF1
import Derived.Test.YtceoficoappkpaaGreatDoorB12
namespace Go.Proofs.YtceoficoappkpaaGreatDoor
open Go.RowKit
def BoolP (w : World) (r : Ending) (w' : World) : Prop := (∃ v, r = .returned (.bool v)) ∧ Below w.heap.size w w'
set_option maxRecDepth 100000 in
set_option maxHeartbeats 1000000 in
theorem large13_any (ts : List Ta) (A : Option Addr) (c : Nat) (w : World) (ht : TRow w A c ts) :
  Calls Tryz.prog 16 #[.agg #[.slice A ts.length c]] w (BoolP w) := by
 have hlen := ht.2.1
 have HT := hd_ ht
 clear ht
 go_enter Tryz.func16, Tryz.ntmps16
 go_wp2_with fail
 have h0 : Blk (w.alloc (.cells #[.slice A ts.length c] 24)) w.heap.size #[.slice A ts.length c] 24 := Blk.new w #[.slice A ts.length c] 24
 have hC : Below w.heap.size w (w.alloc (.cells #[.slice A ts.length c] 24)) := bel1 _ _
 have HA := hd_ h0
 have HC := hd_ hC
 clear h0 hC
 generalize w.alloc (.cells #[.slice A ts.length c] 24) = Wq at HA HC ⊢
 go_loopw [3, 4] (fun n i wr => ∃ (k : Nat) (v : Int), k ≤ ts.length ∧ n = .int .i64 v ∧ i = .int .i64 k ∧ Hid (Below Wq.heap.size Wq wr)) (fun _ i _ => ts.length - (intOf i).toNat)
 case atStart => exact ⟨0, 0, by omega, rfl, rfl, Below.refl _ _⟩
 case round =>
  obtain ⟨k, n, hk1, rfl, rfl, HBW⟩ := hrel
  have HBW' := hd_ (bt HC.out HBW.out)
  have g0 := (HA.out.ext HBW.out).cell 0
  simp only [List.getElem?_toArray, List.getElem?_cons_zero] at g0
  have l1 := (HA.out.ext HBW.out).lt
  by_cases hlt : k < ts.length
  · obtain ⟨b, off, t, rfl, hb, hlk, hmem, hwf, hcr, c0, c1, c2, c3, c4⟩ := (HT.out.ext HBW'.out).at_ hlt
    have HCR := hd_ hcr
    have hcl := hcr.2.1
    have hnz := hwf.1
    clear hlk hmem hwf hcr
    have i0 : (0 : Int) ≤ k := by omega
    have i1 : (k : Int) < ts.length := by omega
    by_cases h40 : (k : Int) < 40
    · obtain ⟨nm, cs, key, ref, par, TA, tc⟩ := t
      simp only at c0 c1 c2 c3 c4 HCR hcl hnz
      go_wp2_with fail
      go_quiet (fail)
      go_wp2_with fail
      generalize wrap64 (wrap64 (n + ↑cs.length) + ↑nm.size / 16) = n2
      have HC1 := hd_ c1
      clear c0 c1 c2 c3 c4 g0
      have HBN := hd_ (show Below wr.heap.size wr (wr.drewN nq) by have := Below.refl wr.heap.size wr; repeat (first | assumption | refine Below.drew ?_ | refine below_drewN ?_ _))
      generalize wr.drewN nq = wx at HBN ⊢
      go_loopw [3, 5] (fun n i wy => ∃ (j : Nat) (v : Int), j ≤ cs.length ∧ n = .int .i64 v ∧ i = .int .i64 j ∧ Hid (Below wr.heap.size wr wy)) (fun _ i _ => cs.length - (intOf i).toNat)
      case atStart => exact ⟨0, n2, by omega, rfl, rfl, HBN.out⟩
      case round =>
       obtain ⟨j, n3, hj1, rfl, rfl, HBY⟩ := hrel
       have c1 := (HBY.out.cell (p := ⟨b, off + k * 5 + 1, none⟩) hb).trans HC1.out
       have g0 := ((HA.out.ext HBW.out).ext HBY.out).cell 0
       simp only [List.getElem?_toArray, List.getElem?_cons_zero] at g0
       have l2 := HBY.out.size
       have h40' : k < 40 := by omega
       by_cases hjl : j < cs.length
       · by_cases hj40 : (j : Int) < 40
         · obtain ⟨bb, of, v, rfl, hbb, hv, hm, hvw, d0, d1, d2⟩ := (HCR.out.ext HBY.out).at_ hjl
           have hvz := hvw.1
           have m1 : (j : Int) < cs.length := by omega
           have m0 : (0 : Int) ≤ j := by omega
           clear hv hm hvw
           go_wp2_with fail
           go_roundw
           case rel => exact ⟨j + 1, _, by omega, rfl, by go_num, HBY.out⟩
           case measure => simp [intOf]; omega
         · have m2 : (40 : Int) ≤ j := by omega
           go_wp2_with fail
           go_roundw
           case rel => exact ⟨k + 1, _, by omega, rfl, by go_num, bt HBW.out HBY.out⟩
           case measure => simp [intOf]; omega
       · have m1 : (cs.length : Int) ≤ j := by omega
         go_wp2_with fail
         go_roundw
         case rel => exact ⟨k + 1, _, by omega, rfl, by go_num, bt HBW.out HBY.out⟩
         case measure => simp [intOf]; omega
    · have e1 : (30 : Int) < ts.length := by omega
      go_wp2_with fail
      go_ret
      exact ⟨⟨_, rfl⟩, HBW'.out⟩
  · have hk : ¬ (k : Int) < ts.length := by omega
    by_cases e1 : (30 : Int) < ts.length
    · go_wp2_with fail
      go_ret
      exact ⟨⟨_, rfl⟩, HBW'.out⟩
    · have f1 : (ts.length : Int) ≤ 30 := by omega
      by_cases e2 : (600 : Int) < n
      · go_wp2_with fail
        go_ret
        exact ⟨⟨_, rfl⟩, HBW'.out⟩
      · have f2 : n ≤ 600 := by omega
        go_wp2_with fail
        go_ret
        exact ⟨⟨_, rfl⟩, HBW'.out⟩
end Go.Proofs.YtceoficoappkpaaGreatDoor
