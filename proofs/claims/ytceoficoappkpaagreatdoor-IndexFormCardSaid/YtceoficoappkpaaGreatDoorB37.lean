/- Texts joined by a tool: contracts and walks of this claim. -/
import Derived.Test.YtceoficoappkpaaGreatDoorB36
import Derived.ProofKit
import Derived.OpenShut
import Derived.Deep.DeepHandedRow
import Derived.Deep.Slices
import Derived.Lib.LaidU8
import Derived.Lib.LaidU8T
import Derived.SizedLaws
import Derived.Carry
import Derived.Test.YtceoficoappkpaaGreatDoorCards
import Derived.Test.YtceoficoappkpaaGreatDoorTie
import Derived.Shelf.Vars
import Derived.LaidLaws
namespace Go.Proofs.YtceoficoappkpaaGreatDoor
open Go.RowKit Go.Shelf
attribute [local go_sem] Oper.semAt_some

set_option maxRecDepth 100000 in
theorem num26_any (n : Int) (w : World) : Calls Tryz.prog 37 #[.int .i64 n] w fun q w' => q = .returned (.agg #[.int .u8 2, .int .i64 n, .int .u64 0, .string ⟨#[]⟩]) ∧ Below w.heap.size w w' := by
 go_enter Tryz.func37, Tryz.ntmps37
 go_wp2_with fail
 refine bodyPost_ret (v := .agg #[.int .u8 2, .int .i64 n, .int .u64 0, .string ⟨#[]⟩]) (by simp [results, Tryz.results37, go_sem]) rfl ?_
 exact ⟨rfl, (by repeat (first | exact Below.refl _ _ | assumption | refine Below.drew ?_ | refine below_drewN ?_ _ | refine Below.alloc ?_ (by simp <;> omega) _))⟩
theorem nV_wf {i : Int} (h : -9223372036854775808 ≤ i ∧ i ≤ 9223372036854775807) : (nV i).wf := by
 have hz : (⟨#[]⟩ : ByteArray).size = 0 := rfl
 obtain ⟨h1, h2⟩ := h
 simp [V.wf, nV, h1, h2, hz]
theorem pairs_two (b c1 c2 B0 B1 : Nat) (w : World) (ht : TRow w (some ⟨b, 0, none⟩) 2 (twoL c1 c2 0)) (h0 : VRow w (some ⟨B0, 0, none⟩) [nV 2, nV 1]) (h1 : VRow w (some ⟨B1, 0, none⟩) [nV 2, nV 3]) (hL : LayX w) :
  Calls Tryz.prog 10 #[.agg #[.slice (some ⟨b, 0, none⟩) 2 2], .agg #[.int .u8 2, .int .i64 1, .slice (some ⟨B0, 0, none⟩) 2 2, .slice (some ⟨B1, 0, none⟩) 2 2]] w fun r w' => ∃ A c', r = .returned (.tuple #[.slice A 3 c', .int .i64 0]) ∧ w'.ownsRow w.heap.size 45 3 (.slice A 3 c') 3 (cellsP [aP1, aP2, aP3]) ∧ Below w.heap.size w w' :=
 pairs_upd (twoL c1 c2 0) b 0 2 2 2 1 ⟨⟨#[98]⟩, [⟨bId, 2, false⟩, ⟨bOf, 2, false⟩], 0, 1, 0, some ⟨c2, 0, none⟩, 2⟩ 0 1 (nV 2) (nV 1) (nV 3) B0 B1 0 0 [nV 2, nV 1] [nV 2, nV 3] w ht h0 h1 hL hL.1
  rfl rfl rfl (by kernel_rfl) (by kernel_rfl) rfl rfl rfl rfl (by simp [nV]) (by simp [nV]) (by simp [nV]) aRow aOk1 aOk2 aOk3
end Go.Proofs.YtceoficoappkpaaGreatDoor
namespace Go.Proofs.YtceoficoappkpaaGreatDoor
open Go.RowKit Go.Shelf
attribute [local go_sem] Oper.semAt_some

theorem aFrom {t : Tr} (ht : t.toL = [aP1, aP3, aP2]) : t.fromL (lkB 102 1 [nV 3]) = [aP3, aP2] := by
 rw [fromL_filter _ t (by rw [ht]; simp only [List.pairwise_cons]; refine ⟨?_, ?_, ?_, List.Pairwise.nil⟩ <;> intro x hx <;> simp at hx <;> (try (rcases hx with rfl | rfl)) <;> (try subst hx) <;> kernel_rfl), ht]
 kernel_rfl
theorem kids_two (B v kk km m : Nat) (t : Tr) (b c1 c2 : Nat) (w : World) (h : VwR w B v kk m t) (hkv : KvR w kk km) (ht : TRow w (some ⟨b, 0, none⟩) 2 (twoL c1 c2 0)) (hL : LayX w) (htl : t.toL = [aP1, aP3, aP2]) :
  Calls Tryz.prog 20 #[.pointer (some ⟨v, 0, none⟩), .agg #[.slice (some ⟨b, 0, none⟩) 2 2], .int .i64 1, .agg #[.int .u8 2, .int .i64 3, .int .u64 0, .string ⟨#[]⟩]] w fun e w' => (∃ A c', e = .returned (.tuple #[.slice A 1 c', .int .i64 0])) ∧ Below w.heap.size w w' := by
 have hi : ∀ x ∈ [nV 3, nV 2], intV x := by
  intro x hx
  simp at hx
  rcases hx with rfl | rfl <;> refine ⟨rfl, rfl, rfl, ?_, ?_⟩ <;> decide
 have hw : ∀ x ∈ [nV 2, nV 3], x.wf := by
  intro x hx
  simp at hx
  rcases hx with rfl | rfl <;> exact nV_wf (by decide)
 refine kids_one B v kk km m t (twoL c1 c2 0) b 0 2 1 ⟨⟨#[98]⟩, [⟨bId, 2, false⟩, ⟨bOf, 2, false⟩], 0, 1, 0, some ⟨c2, 0, none⟩, 2⟩ 1 (nV 3) (nV 2) aP3 10 (lkB 102 1 [nV 3]) rfl w h hkv ht hL (two_sch c1 c2) rfl rfl (nV_wf (by decide)) (by kernel_rfl) (by decide) aOk4 (by rw [aFrom htl]; decide) (by rw [aSize]; decide) aN0 (fun i hi h => absurd hi (by rw [aSize]; omega)) (fun tt htt => ?_) rfl hi (by kernel_rfl) [nV 2, nV 3] hw (by decide) (fun W hW => ?_)
 · rw [aFrom htl, show tt = aTT from ?_]
   · exact aScan
   · have e := htt.trans aTo.symm
     obtain ⟨⟨a⟩⟩ := tt
     exact congrArg (fun l => (⟨⟨l⟩⟩ : ByteArray)) e
 · refine (row_fit B v kk m t (twoL c1 c2 0) b 0 2 1 ⟨⟨#[98]⟩, [⟨bId, 2, false⟩, ⟨bOf, 2, false⟩], 0, 1, 0, some ⟨c2, 0, none⟩, 2⟩ (nV 2) aP2 [nV 2, nV 3] 0 (nV 2) W (h.ext hW) (ht.ext hW) (nV_wf (by decide)) (hL.ext hW) (by kernel_rfl) aOk2 (by rw [htl]; exact aFind) rfl (by decide) aGet rfl (by kernel_rfl) rfl rfl hw (by decide) false (by simp)).mono ?_
   rintro e w' ⟨-, h2, h3⟩
   exact ⟨h2 rfl, h3⟩
end Go.Proofs.YtceoficoappkpaaGreatDoor
namespace Go.Proofs.YtceoficoappkpaaGreatDoor
open Go.RowKit Go.Shelf
attribute [local go_sem] Oper.semAt_some

theorem Chg.blw {S : List Nat} {n : Nat} {w w' : World} (h : Chg S w w') (hS : ∀ x ∈ S, n ≤ x) (hn : n ≤ w.heap.size) : Below n w w' :=
 ⟨h.os, h.tape, h.output, h.size, fun i hi => h.block i (by omega) (fun hx => by have := hS i hx; omega)⟩
theorem aRow0 : lkR 114 1 [⟨0, 0, 0, ⟨#[]⟩⟩] = .tuple #[.string ⟨#[114, 1, 1]⟩, .int .i64 0] := by kernel_rfl
set_option maxRecDepth 100000 in
set_option maxHeartbeats 3200000 in
theorem alive26_any (w : World) (hL : LayX w) : Calls Tryz.prog 8 #[] w fun r w' => r = .returned (.bool true) ∧ Below w.heap.size w w' := by
 have HLX := hd_ (fun (W : World) (hW : Below w.heap.size w W) => hL.ext hW)
 have HR := hd_ (fun (W : World) (hW : Below w.heap.size w W) => ixrow_any 1 ⟨0, 0, 0, ⟨#[]⟩⟩ ⟨by simp, by simp, by simp, by simp, by simp, by simp, by decide⟩ W (hL.ext hW))
 rw [aRow0] at HR
 unfold V.agg at HR
 clear hL
 go_enter Tryz.func8, Tryz.ntmps8
 go_wp2_with fail
 refine (HR.out _ (by repeat (first | exact Below.refl _ _ | assumption | refine Below.drew ?_ | refine below_drewN ?_ _ | refine Below.alloc ?_ (by simp <;> omega) _))).mono ?_
 rintro r w1 ⟨rfl, hb⟩
 have hX1 : Below w.heap.size w w1 := bt ((by repeat (first | exact Below.refl _ _ | assumption | refine Below.drew ?_ | refine below_drewN ?_ _ | refine Below.alloc ?_ (by simp <;> omega) _))) hb
 clear hb
 go_wp2_with fail
 refine (two_any w1).mono ?_
 rintro r w2 ⟨hb, b, c1, c2, rfl, g0, g1, g2, n1, n2, kb, kc, kd⟩
 have hX2 := bt hX1 hb
 have HTW := hd_ (fun (W : World) (hW : Below w2.heap.size w2 W) => two_row (p := 0) (by decide) (kb.ext hW) (kc.ext hW) (kd.ext hW))
 clear hb g0 g1 g2 n1 n2 kb kc kd hX1
 go_wp2_with fail
 refine (num26_any 2 w2).mono ?_
 rintro r w3 ⟨rfl, hb3⟩
 go_wp2_with fail
 refine (num26_any 1 w3).mono ?_
 rintro r w4 ⟨rfl, hb4⟩
 have hb24 := bt hb3 hb4
 clear hb3 hb4
 go_wp2_with fail
 have k0 : VRow (w4.alloc (.cells #[.int .u8 2, .int .i64 2, .int .u64 0, .string ⟨#[]⟩, .int .u8 2, .int .i64 1, .int .u64 0, .string ⟨#[]⟩] 47)) (some ⟨w4.heap.size, 0, none⟩) [nV 2, nV 1] := vrow_b2 (nV 2) (nV 1) (nV_wf (by decide)) (nV_wf (by decide)) (Blk.new w4 _ _)
 have hbq : Below w2.heap.size w2 (w4.alloc (.cells #[.int .u8 2, .int .i64 2, .int .u64 0, .string ⟨#[]⟩, .int .u8 2, .int .i64 1, .int .u64 0, .string ⟨#[]⟩] 47)) := bt hb24 ((by repeat (first | exact Below.refl _ _ | assumption | refine Below.drew ?_ | refine below_drewN ?_ _ | refine Below.alloc ?_ (by simp <;> omega) _)))
 generalize (w4.alloc (.cells #[.int .u8 2, .int .i64 2, .int .u64 0, .string ⟨#[]⟩, .int .u8 2, .int .i64 1, .int .u64 0, .string ⟨#[]⟩] 47)) = w5 at k0 hbq ⊢
 generalize w4.heap.size = B0 at k0 ⊢
 refine (num26_any 2 w5).mono ?_
 rintro r w6 ⟨rfl, hb6⟩
 go_wp2_with fail
 refine (num26_any 3 w6).mono ?_
 rintro r w7 ⟨rfl, hb7⟩
 have hb57 := bt hb6 hb7
 go_wp2_with fail
 have k1 : VRow (w7.alloc (.cells #[.int .u8 2, .int .i64 2, .int .u64 0, .string ⟨#[]⟩, .int .u8 2, .int .i64 3, .int .u64 0, .string ⟨#[]⟩] 47)) (some ⟨w7.heap.size, 0, none⟩) [nV 2, nV 3] := vrow_b2 (nV 2) (nV 3) (nV_wf (by decide)) (nV_wf (by decide)) (Blk.new w7 _ _)
 have hb58 : Below w5.heap.size w5 (w7.alloc (.cells #[.int .u8 2, .int .i64 2, .int .u64 0, .string ⟨#[]⟩, .int .u8 2, .int .i64 3, .int .u64 0, .string ⟨#[]⟩] 47)) := bt hb57 ((by repeat (first | exact Below.refl _ _ | assumption | refine Below.drew ?_ | refine below_drewN ?_ _ | refine Below.alloc ?_ (by simp <;> omega) _)))
 have hb28 := bt hbq hb58
 have k08 := k0.ext hb58
 generalize (w7.alloc (.cells #[.int .u8 2, .int .i64 2, .int .u64 0, .string ⟨#[]⟩, .int .u8 2, .int .i64 3, .int .u64 0, .string ⟨#[]⟩] 47)) = w8 at k1 k08 hb58 hb28 ⊢
 generalize w7.heap.size = B1 at k1 ⊢
 have hX8 := bt hX2 hb28
 refine (pairs_two b c1 c2 B0 B1 w8 (HTW.out w8 hb28) k08 k1 (HLX.out w8 hX8)).mono ?_
 rintro r w9 ⟨A, cA, rfl, hown, hb9⟩
 have HX9 := hd_ (bt hX8 hb9)
 have HO := hd_ hown
 clear hb6 hb7 hb57 hbq hb24 hb58 hb28 k0 k08 k1 hX8 hown hb9 hX2
 go_wp2_with fail
 refine (store_any w9 (HLX.out w9 HX9.out)).mono ?_
 rintro r w10 ⟨⟨kk, km, rfl, hkv⟩, hb10⟩
 have HKV := hd_ hkv
 have HX10 := hd_ (bt HX9.out hb10)
 have HO10 := hd_ (own_below HO.out hb10)
 clear hkv hb10
 go_upto_region 4 with fail
 obtain ⟨ga, c3, hg0, _⟩ := HO10.out.form (by decide)
 simp only [Value.slice.injEq] at hg0
 obtain ⟨rfl, -, rfl⟩ := hg0
 have p2 : w10.cell? ⟨ga, 2, none⟩ = some (.bool true) := (HO10.out.cellAt 2 (by decide)).trans rfl
 have p5 : w10.cell? ⟨ga, 5, none⟩ = some (.bool false) := (HO10.out.cellAt 5 (by decide)).trans rfl
 have p7 : w10.cell? ⟨ga, 7, none⟩ = some (.string ⟨#[]⟩) := (HO10.out.cellAt 7 (by decide)).trans rfl
 have lg : ga < w10.heap.size := (HO10.out.lt ga rfl).2
 go_wp2_with fail
 refine (on_any kk w10).mono ?_
 rintro r w11 ⟨v, m, rfl, hv, hlv, hb11⟩
 have HV := hd_ hv
 have HB11 := hd_ hb11
 have HX11 := hd_ (bt HX10.out hb11)
 have HO11 := hd_ (own_below HO10.out hb11)
 clear hv hlv hb11 p2 p5 p7 lg
 go_wp2_with fail
 have hpr : PrRow w11 (some ⟨ga, 0, none⟩) [aP1, aP2, aP3] := by
  intro _
  refine ⟨ga, 0, rfl, (HO11.out.lt ga rfl).2, fun k p hk => ?_⟩
  have hkl : k < 3 := (List.getElem?_eq_some_iff.1 hk).1
  obtain ⟨e0, e1, e2⟩ := cellsP_get hk
  rw [Nat.zero_add]
  exact ⟨(HO11.out.cellAt (k * 3) (by omega)).trans e0, (HO11.out.cellAt (k * 3 + 1) (by omega)).trans e1, (HO11.out.cellAt (k * 3 + 2) (by omega)).trans e2⟩
 have hro : RowOut (m :: (Tr.nil).blks) (some ⟨ga, 0, none⟩) := by
  intro a ha hm
  cases ha
  have h1 := HV.out.lo ga hm
  have h2 := (HO10.out.lt ga rfl).2
  omega
 refine (lay_any w10.heap.size v kk m .nil (some ⟨ga, 0, none⟩) cA [aP1, aP2, aP3] w11 HV.out HB11.out.size hpr hro (by decide)).mono ?_
 intro r w12 hq
 obtain ⟨rfl, t', hv', htl, hch⟩ : r = .returned (.int .i64 0) ∧ ∃ t', VwR w12 w10.heap.size v kk m t' ∧ t'.toL = [aP1, aP3, aP2] ∧ Chg (m :: (Tr.nil).blks) w11 w12 := by
  rcases hq with ⟨_, h2, t', h3, h4, h5, _⟩ | ⟨⟨p, hp, hpb⟩, _⟩
  · exact ⟨h2, t', h3, h4.trans aIns, h5⟩
  · simp at hp
    rcases hp with rfl | rfl | rfl
    · rw [aPr1] at hpb; cases hpb
    · rw [aPr2] at hpb; cases hpb
    · rw [aPr3] at hpb; cases hpb
 have hbl : Below w10.heap.size w10 w12 := HB11.out.trans (Chg.blw hch HV.out.lo HB11.out.size)
 have HV12 := hd_ hv'
 have HTL := hd_ htl
 have HKV12 := hd_ (HKV.out.ext hbl)
 have HX12 := hd_ (bt HX10.out hbl)
 clear hpr hro hq hv' htl hch hbl
 go_wp2_with fail
 refine (two_any w12).mono ?_
 rintro r w13 ⟨hb, b', c1', c2', rfl, g0, g1, g2, n1, n2, kb, kc, kd⟩
 have HB13 := hd_ hb
 have HTW2 := hd_ (fun (W : World) (hW : Below w13.heap.size w13 W) => two_row (p := 0) (by decide) (kb.ext hW) (kc.ext hW) (kd.ext hW))
 clear hb g0 g1 g2 n1 n2 kb kc kd
 go_wp2_with fail
 refine (num26_any 3 w13).mono ?_
 rintro r w14 ⟨rfl, hb⟩
 have HB14 := hd_ (bt HB13.out hb)
 have HTR := hd_ (HTW2.out w14 hb)
 clear hb
 go_wp2_with fail
 refine (kids_two w10.heap.size v kk km m t' b' c1' c2' w14 (HV12.out.ext HB14.out) (HKV12.out.ext HB14.out) HTR.out (HLX.out w14 (bt HX12.out HB14.out)) HTL.out).mono ?_
 rintro r w15 ⟨⟨A', c', rfl⟩, hb⟩
 have HB15 := hd_ (bt HB14.out hb)
 clear hb
 go_wp2_with fail
 refine (on_nil w15).mono ?_
 rintro r w16 ⟨rfl, hb⟩
 have HB16 := hd_ (bt HB15.out hb)
 clear hb
 go_wp2_with fail
 have hla := laid_any w10.heap.size v kk m t' w16 (HV12.out.ext HB16.out) (by rw [HTL.out]; decide)
 rw [HTL.out] at hla
 refine hla.mono ?_
 rintro r w17 ⟨A3, c3, rfl, -, hb⟩
 have HB17 := hd_ (bt HB16.out hb)
 clear hb
 go_wp2_with fail
 refine (ixmeta_any ⟨#[120]⟩ (by decide) w17).mono ?_
 rintro r w18 ⟨rfl, rfl⟩
 have hmx : (⟨#[109]⟩ ++ ⟨#[120]⟩ : ByteArray) = ⟨#[109, 120]⟩ := by kernel_rfl
 rw [hmx]
 go_wp2_with fail
 go_ret
 exact ⟨rfl, bt HX12.out HB17.out⟩
end Go.Proofs.YtceoficoappkpaaGreatDoor
namespace Go.Proofs.YtceoficoappkpaaGreatDoor
open Go.ChangeShapes Go.WideShapes Go.ChangeAt Go.RowKit Go.Deep

theorem own : ownKnob Tryz.prog.godebug = none := by kernel_rfl
theorem laidOut : laidOutB Tryz.prog = true := by kernel_rfl

theorem first_eq : Rows.laid_unicode_utf8_first = Lib.firstData := by kernel_rfl
theorem tabs_of_list {W : World} (h : laidMetH Tryz.prog Rows.indexPairsRow.laid W) : Tabs W := by
 have h' : laidMet Tryz.prog Rows.indexPairsRow.laid W := h
 have h4 : Lib.VarReads Tryz.prog W "unicode/utf8.acceptRanges" Lib.acceptData := by
  first
   | exact Lib.laidMet.reads h' (.head _)
   | exact Lib.laidMet.reads h' (.tail _ (.tail _ (.tail _ (.head _))))
 have h3 : Lib.VarReads Tryz.prog W "unicode/utf8.first" Rows.laid_unicode_utf8_first := by
  first
   | exact Lib.laidMet.reads h' (.tail _ (.head _))
   | exact Lib.laidMet.reads h' (.tail _ (.tail _ (.tail _ (.tail _ (.tail _ (.tail _ (.head _)))))))
 rw [first_eq] at h3
 first
  | exact utf8Tabs_of_readsT (ρ := Tryz.lays196_ren) (U8Types.of196 Tryz.lays196) ⟨by kernel_rfl, by kernel_rfl, by kernel_rfl, by kernel_rfl, by kernel_rfl, by kernel_rfl, by kernel_rfl⟩ h3 h4
  | exact utf8Tabs_of_reads (ρ := Tryz.lays260_ren) Tryz.lays260 ⟨by kernel_rfl, by kernel_rfl, by kernel_rfl, by kernel_rfl, by kernel_rfl, by kernel_rfl, by kernel_rfl⟩ h3 h4

def setCells (cs : Array Value) : Obj → Obj
 | .cells _ t fr => .cells cs t fr
 | o => o
noncomputable def laidWorld (os : Os) : World :=
 { World.holding Tryz.prog os ⟨#[], #[], []⟩ with heap := ((World.holding Tryz.prog os ⟨#[], #[], []⟩).heap.modify 0 (setCells ((List.range 256).map fun c => Value.int .u8 (Lib.firstT c : Int)).toArray)).modify 1 (setCells ((List.range 16).flatMap fun i => [Value.int .u8 (Lib.accLo i : Int), Value.int .u8 (Lib.accHi i : Int)]).toArray) }

section
variable {H : Type} {enc : TypeId × Value → H}
theorem trodAll_below {W W' : World} (hb : Below W.heap.size W W') : ∀ {ts : List TypeId} {vs : List Value} {ds : List (DataW H)} {ps : List MemPlace},
  (∀ t ∈ ts, Tryz.prog.readableRec t = true ∧ t < Tryz.prog.types.size) → DataW.TrodAll enc Tryz.prog W 0 (fun _ => true) true ts vs ds ps → (∀ x ∈ ps, x.block < W.heap.size) →
  DataW.TrodAll enc Tryz.prog W' 0 (fun b => decide (b < W.heap.size)) true ts vs ds ps
 | [], _, _, _, _, h, _ => by
  obtain ⟨rfl, rfl, rfl⟩ := trodAll_nil h
  exact trodAll_mk0
 | t :: ts, vs, ds, ps, hr, h, hlt => by
  obtain ⟨v, vs', d, ds', p, q, rfl, rfl, rfl, hd, hs⟩ := trodAll_cons h
  obtain ⟨h1, h2⟩ := hr t (by simp)
  exact trodAll_cons_mk (Below.trod laidOut h1 h2 hd hb (fun x hx => hlt x (by simp [hx]))) (trodAll_below hb (fun t ht => hr t (by simp [ht])) hs (fun x hx => hlt x (by simp [hx])))
theorem post_law {fn : Func} {s : ChangeSpec} {W W' : World} {args : Array Value} {ds gs : List (DataW H)} {before : List MemPlace}
  (hW : DataW.Whole enc Tryz.prog fn.params.toList s.vars false W args.toList ds gs before) (hv : s.vars = []) (hres : fn.resultTypes = #[4])
  (hread : ∀ t ∈ fn.params.toList, Tryz.prog.readableRec t = true ∧ t < Tryz.prog.types.size)
  (h1 : (s.fn H ds).results = [.lit (.bool true)]) (h2 : (s.fn H ds).args = ds) (h3 : (s.fn H ds).vars = []) (hb : Below W.heap.size W W') :
  s.post enc Tryz.prog fn false true false false W args (.bool true) W' := by
 have hlt : ∀ x ∈ before, x.block < W.heap.size := fun x hx => hW.lt x hx
 have hW' := hW
 obtain ⟨p, q, hA, hV, rfl, hfz, hnd⟩ := hW
 rw [hv] at hV
 obtain ⟨rfl, rfl⟩ := trodVars_none hV
 refine ⟨ds, [], p ++ [], [], p, [], hW', ?_, ?_, ?_, ?_, fun h => by cases h⟩
 · rw [hres, List.append_nil, h1]
   exact trodAll_mk1 (shut_bool Tryz.underlying4 true)
 · rw [List.append_nil, h2]
   exact trodAll_below hb hread hA (fun x hx => hlt x (by simp [hx]))
 · rw [List.append_nil, h3, hv]
   rfl
 · refine World.keptBut_mono (fun x hx => ⟨hx, ?_⟩) (hb.frame (· ∈ p ++ []))
   rw [List.append_nil] at hx
   exact Or.inr (Or.inl hx)

instance : Inhabited V := ⟨⟨0, 0, 0, ByteArray.empty⟩⟩
theorem lt_of_cell' {w : World} {a : Addr} {v : Value} (h : w.cell? a = some v) : a.block < w.heap.size := by
 rcases Nat.lt_or_ge a.block w.heap.size with h' | h'
 · exact h'
 · simp [World.cell?, Array.getElem?_eq_none h'] at h
set_option maxRecDepth 100000 in
/-- A struct of this type: its four cells, and what they read as. -/
theorem open_V {W : World} {base fuel : Nat} {spare : Nat → Bool} {held : Bool} {cs : List Value} {x : DataW H × List MemPlace}
  (h : DataW.trod enc Tryz.prog W base spare held fuel 47 cs = some x) (hwt : ∀ n ∈ x.1.weights Tryz.prog 47, n ≤ reachBytes) :
  ∃ v : V, v.wf ∧ cs = [.int .u8 v.k, .int .i64 v.n, .int .u64 v.r, .string v.t] ∧ x.1 = .agg [.lit (.int .u8 v.k), .lit (.int .i64 v.n), .lit (.int .u64 v.r), .lit (.string v.t.data.toList)] := by
 obtain ⟨xs, n, _, hx, hlen, hxl, hf⟩ := DataW.trod_struct Tryz.underlying47 h
 have hc : Tryz.prog.cellsOf 47 = 4 := by kernel_rfl
 rw [hc] at hlen
 match cs, hlen with
 | [c0, c1, c2, c3], _ =>
 match xs, hxl with
 | [x0, x1, x2, x3], _ =>
  have k1 : Tryz.prog.cellsOf 5 = 1 := by kernel_rfl
  have k2 : Tryz.prog.cellsOf 2 = 1 := by kernel_rfl
  have k3 : Tryz.prog.cellsOf 29 = 1 := by kernel_rfl
  have k4 : Tryz.prog.cellsOf 9 = 1 := by kernel_rfl
  have f0 := hf 0 _ rfl
  have f1 := hf 1 _ rfl
  have f2 := hf 2 _ rfl
  have f3 := hf 3 _ rfl
  change DataW.trod enc Tryz.prog W base spare held n 5 (([c0, c1, c2, c3].drop 0).take (Tryz.prog.cellsOf 5)) = some x0 at f0
  change DataW.trod enc Tryz.prog W base spare held n 2 (([c0, c1, c2, c3].drop 1).take (Tryz.prog.cellsOf 2)) = some x1 at f1
  change DataW.trod enc Tryz.prog W base spare held n 29 (([c0, c1, c2, c3].drop 2).take (Tryz.prog.cellsOf 29)) = some x2 at f2
  change DataW.trod enc Tryz.prog W base spare held n 9 (([c0, c1, c2, c3].drop 3).take (Tryz.prog.cellsOf 9)) = some x3 at f3
  rw [k1] at f0
  rw [k2] at f1
  rw [k3] at f2
  rw [k4] at f3
  simp only [List.drop_zero, List.drop_succ_cons, List.take_succ_cons, List.take_zero] at f0 f1 f2 f3
  obtain ⟨a, e0, rfl, wa⟩ := DataW.trod_int Tryz.underlying5 f0
  obtain ⟨b, e1, rfl, wb⟩ := DataW.trod_int Tryz.underlying2 f1
  obtain ⟨c, e2, rfl, wc⟩ := DataW.trod_int Tryz.underlying29 f2
  obtain ⟨s, e3, rfl, ws⟩ := DataW.trod_string Tryz.underlying9 f3
  simp only [List.cons.injEq, and_true] at e0 e1 e2 e3
  subst e0; subst e1; subst e2; subst e3
  simp only [List.map_cons, List.map_nil] at hx
  subst hx
  have hsz : s.data.toList.length ≤ reachBytes := by
   refine hwt _ ?_
   simp [DataW.weights, Tryz.underlying47, DataW.weightsEach]
  refine ⟨⟨a, b, c, s⟩, ?_, rfl, rfl⟩
  have ba := bounds_u8 wa
  have bb := bounds_i64 wb
  have bc := bounds_u64 wc
  have hs2 : s.size ≤ 140737488355328 := by
   have : s.data.toList.length = s.size := by simp
   have : reachBytes ≤ 140737488355328 := by decide
   omega
  exact ⟨by simp only; omega, by simp only; omega, by simp only; omega, by simp only; omega, by simp only; omega, by simp only; omega, hs2⟩

end
end Go.Proofs.YtceoficoappkpaaGreatDoor
namespace Go.Proofs.YtceoficoappkpaaGreatDoor
open Go.ChangeShapes Go.WideShapes Go.ChangeAt Go.RowKit Go.Deep

theorem layx_of_list {W : World} (h : laidMetH Tryz.prog Rows.indexPairsRow.laid W) (hs : W.ShapedOpen Tryz.prog) : LayX W := by
 have hc : ∃ m, W.cell? ⟨3, 0, none⟩ = some (.int .i64 m) := cell_of_shapedOpen_int (g := 3) (t := 3) (zero := #[.int .i64 0]) hs (of_decide_eq_true (by kernel_rfl)) (by kernel_rfl) rfl (by kernel_rfl) (by kernel_rfl) Tryz.underlying3
 obtain ⟨m, hm⟩ := hc
 exact ⟨tabs_of_list h, lt_of_cell' hm, m, hm⟩
end Go.Proofs.YtceoficoappkpaaGreatDoor
