/- Texts joined by a tool: contracts and walks of this claim. -/
import Derived.Test.YtfekohonidggjaaGreatDoorB35
import Derived.ProofKit
import Derived.OpenShut
import Derived.Deep.DeepHandedRow
import Derived.Deep.Slices
import Derived.Lib.LaidU8
import Derived.SizedLaws
import Derived.Carry
import Derived.Test.YtfekohonidggjaaGreatDoorCards
import Derived.Test.YtfekohonidggjaaGreatDoorTie
import Derived.Shelf.Vars
import Derived.LaidLaws
import Derived.Lay
namespace Go.Proofs.YtfekohonidggjaaGreatDoor
open Go.RowKit
theorem one_get {α : Type} {x v : α} {i : Nat} (h : [x][i]? = some v) : i = 0 ∧ v = x := by
 match i, h with
 | 0, h => exact ⟨rfl, (Option.some.inj h).symm⟩
theorem crow1 {w : World} {b : Nat} {c : Co} {t : TypeId} (hw : c.wf) (h : Blk w b #[.string c.nm, .int .u8 c.k, .bool c.nl] t) : CRow w (some ⟨b, 0, none⟩) [c] := by
 refine ⟨fun x hx => by simp only [List.mem_singleton] at hx; subst hx; exact hw, by simp, fun _ => ⟨b, 0, rfl, h.lt, fun i v hi => ?_⟩⟩
 obtain ⟨rfl, rfl⟩ := one_get hi
 exact ⟨h.cell 0, h.cell 1, h.cell 2⟩
theorem vrow1 {w : World} {b : Nat} {c : V} {t : TypeId} (hw : c.wf) (h : Blk w b #[.int .u8 c.k, .int .i64 c.n, .int .u64 c.r, .string c.t] t) : VRow w (some ⟨b, 0, none⟩) [c] := by
 refine ⟨fun x hx => by simp only [List.mem_singleton] at hx; subst hx; exact hw, by simp, fun _ => ⟨b, 0, rfl, h.lt, fun i v hi => ?_⟩⟩
 obtain ⟨rfl, rfl⟩ := one_get hi
 exact ⟨h.cell 0, h.cell 1, h.cell 2, h.cell 3⟩
theorem trow1 {w : World} {b : Nat} {x : Ta} {t : TypeId} (hw : x.wf) (hc : CRow w x.A x.cs) (h : Blk w b x.cells t) : TRow w (some ⟨b, 0, none⟩) 1 [x] := by
 refine ⟨fun y hy => by simp only [List.mem_singleton] at hy; subst hy; exact ⟨hw, hc⟩, by simp, by simp, fun _ => ⟨b, 0, rfl, h.lt, fun i v hi => ?_⟩⟩
 obtain ⟨rfl, rfl⟩ := one_get hi
 exact ⟨h.cell 0, h.cell 1, h.cell 2, h.cell 3, h.cell 4⟩
theorem amrow1 {w : World} {b : Nat} {x : Am} {t : TypeId} (hw : x.a.wf) (hc : VRow w x.A x.a.row) (h : Blk w b x.cells.toArray t) : AmRow w (some ⟨b, 0, none⟩) [x] := by
 refine ⟨fun y hy => by simp only [List.mem_singleton] at hy; subst hy; exact ⟨hw, hc⟩, by simp, fun _ => ⟨b, 0, rfl, h.lt, fun i v hi j hj => ?_⟩⟩
 obtain ⟨rfl, rfl⟩ := one_get hi
 have := h.cell j
 rw [List.getElem?_toArray] at this
 simpa using this
def ExP (w : World) (r : Ending) (w' : World) : Prop := ∃ (A C : Option Addr) (T : List Ta) (L : List Am), r = .returned (.tuple #[Cf.agg ⟨1, 2, 9, 9, 9, T⟩ A 1, .slice C L.length 1]) ∧ TRow w' A 1 T ∧ AmRow w' C L ∧ T.map Ta.z = exC.ts ∧ L.map (·.a) = [exA] ∧ Below w.heap.size w w'
set_option maxRecDepth 100000 in
set_option maxHeartbeats 3200000 in
theorem example_any (w : World) : Calls Tryz.prog 28 #[] w (ExP w) := by
 go_enter Tryz.func28, Tryz.ntmps28
 go_wp2_with fail
 obtain ⟨N, hN⟩ : ∃ N, N = w.heap.size := ⟨_, rfl⟩
 have W : ∀ W6 : World, W6 = (((((w.alloc (.cells #[.slice (some ⟨w.heap.size + 1 + 1, 0, none⟩) 1 1, .int .i64 1, .int .i64 2, .int .i64 9, .int .i64 9, .int .i64 9] 27)).alloc (.cells #[.string ⟨#[105, 100]⟩, .int .u8 2, .bool false] 111)).alloc (.cells #[.string ⟨#[97]⟩, .slice (some ⟨w.heap.size + 1, 0, none⟩) 1 1, .int .i64 0, .int .i64 (-1), .int .i64 (-1)] 66)).alloc (.cells #[.slice (some ⟨w.heap.size + 1 + 1, 0, none⟩) 1 1] 24)).alloc (.cells #[.int .u8 2, .int .i64 7, .int .u64 0, .string ⟨#[]⟩] 48)).alloc (.cells #[.int .u8 2, .int .u8 1, .int .i64 0, .slice (some ⟨w.heap.size + 1 + 1 + 1 + 1, 0, none⟩) 1 1, .int .i64 0, .int .i64 0, .int .i64 0, .string ⟨#[]⟩] 42) →
   Blk W6 w.heap.size #[.slice (some ⟨w.heap.size + 1 + 1, 0, none⟩) 1 1, .int .i64 1, .int .i64 2, .int .i64 9, .int .i64 9, .int .i64 9] 27 ∧ Blk W6 (w.heap.size + 1) #[.string ⟨#[105, 100]⟩, .int .u8 2, .bool false] 111 ∧ Blk W6 (w.heap.size + 1 + 1) #[.string ⟨#[97]⟩, .slice (some ⟨w.heap.size + 1, 0, none⟩) 1 1, .int .i64 0, .int .i64 (-1), .int .i64 (-1)] 66 ∧ Blk W6 (w.heap.size + 1 + 1 + 1 + 1) #[.int .u8 2, .int .i64 7, .int .u64 0, .string ⟨#[]⟩] 48 ∧ Blk W6 (w.heap.size + 1 + 1 + 1 + 1 + 1) #[.int .u8 2, .int .u8 1, .int .i64 0, .slice (some ⟨w.heap.size + 1 + 1 + 1 + 1, 0, none⟩) 1 1, .int .i64 0, .int .i64 0, .int .i64 0, .string ⟨#[]⟩] 42 ∧ Below w.heap.size w W6 := by
  rintro W6 rfl
  exact ⟨(by repeat (first | exact Blk.at (by simp) | assumption | refine Blk.drew ?_ | refine Blk.old ?_ _)), (by repeat (first | exact Blk.at (by simp) | assumption | refine Blk.drew ?_ | refine Blk.old ?_ _)), (by repeat (first | exact Blk.at (by simp) | assumption | refine Blk.drew ?_ | refine Blk.old ?_ _)), (by repeat (first | exact Blk.at (by simp) | assumption | refine Blk.drew ?_ | refine Blk.old ?_ _)), (by repeat (first | exact Blk.at (by simp) | assumption | refine Blk.drew ?_ | refine Blk.old ?_ _)), (by repeat (first | exact Below.refl _ _ | assumption | refine Below.drew ?_ | refine below_drewN ?_ _ | refine Below.alloc ?_ (by simp <;> omega) _))⟩
 obtain ⟨k0, k1, k2, k4, k5, kb⟩ := W _ rfl
 clear W
 generalize (((((w.alloc (.cells #[.slice (some ⟨w.heap.size + 1 + 1, 0, none⟩) 1 1, .int .i64 1, .int .i64 2, .int .i64 9, .int .i64 9, .int .i64 9] 27)).alloc (.cells #[.string ⟨#[105, 100]⟩, .int .u8 2, .bool false] 111)).alloc (.cells #[.string ⟨#[97]⟩, .slice (some ⟨w.heap.size + 1, 0, none⟩) 1 1, .int .i64 0, .int .i64 (-1), .int .i64 (-1)] 66)).alloc (.cells #[.slice (some ⟨w.heap.size + 1 + 1, 0, none⟩) 1 1] 24)).alloc (.cells #[.int .u8 2, .int .i64 7, .int .u64 0, .string ⟨#[]⟩] 48)).alloc (.cells #[.int .u8 2, .int .u8 1, .int .i64 0, .slice (some ⟨w.heap.size + 1 + 1 + 1 + 1, 0, none⟩) 1 1, .int .i64 0, .int .i64 0, .int .i64 0, .string ⟨#[]⟩] 42) = W6 at k0 k1 k2 k4 k5 kb ⊢
 obtain ⟨d9, d0, d1, d2, d3, d4, d5⟩ := blk6 k0
 refine bodyPost_ret (v := .tuple #[Cf.agg ⟨1, 2, 9, 9, 9, [⟨bsO [97], [⟨bsO [105, 100], 2, false⟩], 0, -1, -1, some ⟨w.heap.size + 1, 0, none⟩, 1⟩]⟩ (some ⟨w.heap.size + 1 + 1, 0, none⟩) 1, .slice (some ⟨w.heap.size + 1 + 1 + 1 + 1 + 1, 0, none⟩) 1 1]) (by simp [results, Tryz.results28, go_sem, Cf.agg, d0, d1, d2, d3, d4, d5]) rfl ?_
 refine ⟨_, _, [⟨bsO [97], [⟨bsO [105, 100], 2, false⟩], 0, -1, -1, some ⟨w.heap.size + 1, 0, none⟩, 1⟩], [⟨exA, some ⟨w.heap.size + 1 + 1 + 1 + 1, 0, none⟩, 1⟩], rfl, ?_, ?_, rfl, rfl, kb⟩
 · exact trow1 (ex_wf exT (by simp [exC])).1 (crow1 ((ex_wf exT (by simp [exC])).2 ⟨bsO [105, 100], 2, false⟩ (by simp [exT])) k1) k2
 · exact amrow1 ex_awf (vrow1 (c := ⟨2, 7, 0, bsO []⟩) (ex_awf.2.2.2.1 _ (by simp [exA])) k4) k5
theorem ex_back {T : List Ta} (hT : T.map Ta.z = exC.ts) {L : List Am} (hL : L.map (·.a) = [exA]) : writeV ⟨1, 2, 9, 9, 9, T⟩ (L.map (·.a)) = .tuple #[.string (bsO textC), .int .i64 0] ∧ confB ⟨1, 2, 9, 9, 9, T⟩ = true ∧ actsB L = true := by
 refine ⟨?_, ?_, ?_⟩
 · rw [hL]
   exact (writeV_read (text := bsO textC) (st := mid exC [exT] [exA]) ex_read (by decide) hT).1
 · have h := ex_conf
   unfold confB at h ⊢
   simp only at h ⊢
   rw [← sch_z, hT]
   exact h
 · unfold actsB
   have h1 : L.length = 1 := by have := congrArg List.length hL; simpa using this
   obtain ⟨x, rfl⟩ := List.length_eq_one_iff.1 h1
   have e : x.a = exA := by simpa using hL
   simp [e, ex_act]
set_option maxRecDepth 100000 in
set_option maxHeartbeats 3200000 in
theorem alive_any (w : World) (hL : LayS w) : Calls Tryz.prog 8 #[] w fun r w' => r = .returned (.bool true) ∧ Below w.heap.size w w' := by
 have HL := hd_ hL
 have HEX := hd_ (example_any w)
 clear hL
 go_enter Tryz.func8, Tryz.ntmps8
 go_wp2_with fail
 refine HEX.out.mono ?_
 rintro r w1 ⟨A, C, T, L, rfl, hT, hA, hTz, hLa, hb⟩
 obtain ⟨hwr, hcf, hac⟩ := ex_back hTz hLa
 have HLl : Hid (L.length = 1) := by show _ = _; have := congrArg List.length hLa; simpa using this
 have HSM : Hid (∀ T1 : List Ta, T1.map Ta.z = [exT] → sameS T T1 = true) := fun T1 h => same_z (h.trans hTz.symm)
 have HLA := hd_ hLa
 have hB2 : Below w1.heap.size w1 (w1.alloc (.cells #[.slice A T.length 1, .int .i64 1, .int .i64 2, .int .i64 9, .int .i64 9, .int .i64 9] 27)) := bel1 _ _
 have HK2 := hd_ (Blk.new w1 #[.slice A T.length 1, .int .i64 1, .int .i64 2, .int .i64 9, .int .i64 9, .int .i64 9] 27)
 have HB2 := hd_ (bt hb hB2)
 have HT2 := hd_ (hT.ext hB2)
 have HA2 := hd_ (hA.ext hB2)
 clear hT hA hTz hLa hb hB2 HEX
 unfold Cf.agg
 simp only
 go_upto_region 2 with fail
 generalize w1.alloc (.cells #[.slice A T.length 1, .int .i64 1, .int .i64 2, .int .i64 9, .int .i64 9, .int .i64 9] 27) = w2 at HK2 HB2 HT2 HA2 ⊢
 obtain ⟨S, hS⟩ : ∃ S, S = bsO textC := ⟨_, rfl⟩
 have hcmp : Hid ((S.toList == [115, 101, 103, 32, 49, 10, 98, 111, 117, 110, 100, 32, 50, 10, 114, 111, 111, 109, 115, 32, 57, 32, 57, 32, 57, 10, 116, 97, 98, 108, 101, 32, 97, 32, 48, 32, 45, 49, 32, 45, 49, 32, 105, 100, 58, 105, 110, 116, 10, 105, 110, 115, 101, 114, 116, 32, 48, 32, 55, 10]) = true) := by show _ = _; rw [hS, ByteArray.toList_eq]; rfl
 have HWR := hd_ (write_any 1 2 9 9 9 T A 1 L C 1 w2 HT2.out HA2.out (HL.out.ext HB2.out) (by have := HLl.out; omega))
 rw [hwr, ← hS] at HWR
 unfold Cf.agg at HWR
 simp only at HWR
 clear hwr hS
 obtain ⟨d9, d0, d1, d2, d3, d4, d5⟩ := blk6 HK2.out
 go_wp2_with fail
 refine HWR.out.mono ?_
 rintro r w3 ⟨rfl, hb3⟩
 have HB3 := hd_ (bt HB2.out hb3)
 have HK3 := hd_ (HK2.out.ext hb3)
 have HT3 := hd_ (HT2.out.ext hb3)
 have HA3 := hd_ (HA2.out.ext hb3)
 clear hb3 d9 d0 d1 d2 d3 d4 d5 HWR HB2 HK2 HT2 HA2
 have HRD : Hid (Calls Tryz.prog 17 #[.string ⟨#[115, 101, 103, 32, 49, 10, 98, 111, 117, 110, 100, 32, 50, 10, 114, 111, 111, 109, 115, 32, 57, 32, 57, 32, 57, 10, 116, 97, 98, 108, 101, 32, 97, 32, 48, 32, 45, 49, 32, 45, 49, 32, 105, 100, 58, 105, 110, 116, 10, 105, 110, 115, 101, 114, 116, 32, 48, 32, 55, 10]⟩] w3 fun r w' => (∃ T A kT L C kL, r = .returned (.tuple #[Cf.agg ⟨1, 2, 9, 9, 9, T⟩ A kT, .slice C (List.length L) kL, .int .i64 0, .int .i64 0]) ∧ TRow w' A kT T ∧ AmRow w' C L ∧ T.map Ta.z = [exT] ∧ L.map (·.a) = [exA]) ∧ Below w3.heap.size w3 w') := by
  refine (read_any (bsO textC) w3 (HL.out.ext HB3.out)).mono fun r w' h => ⟨?_, h.2⟩
  have h1 := h.1
  unfold ReadQ at h1
  rw [if_neg (by decide), show (bsO textC).data.toList = textC from rfl, ex_read] at h1
  exact h1
 go_upto_region 3 with fail
 go_wp2_with fail
 refine HRD.out.mono ?_
 rintro r w4 ⟨⟨T1, A1, kT, L1, C1, kL, rfl, hT1, hA1, hz1, hl1⟩, hb4⟩
 unfold Cf.agg
 simp only
 have hB5 : Below w4.heap.size w4 (w4.alloc (.cells #[.slice A1 T1.length kT, .int .i64 1, .int .i64 2, .int .i64 9, .int .i64 9, .int .i64 9] 27)) := bel1 _ _
 have hb45 := bt hb4 hB5
 have HK5 := hd_ (Blk.new w4 #[.slice A1 T1.length kT, .int .i64 1, .int .i64 2, .int .i64 9, .int .i64 9, .int .i64 9] 27)
 have HB5 := hd_ (bt HB3.out hb45)
 have HP5 := hd_ (HK3.out.ext hb45)
 have HT5 := hd_ (HT3.out.ext hb45)
 have HA5 := hd_ (HA3.out.ext hb45)
 have HU5 := hd_ (hT1.ext hB5)
 have HV5 := hd_ (hA1.ext hB5)
 have hsm := HSM.out T1 hz1
 have hlm : L.map (·.a) = L1.map (·.a) := HLA.out.trans hl1.symm
 have HSMC := hd_ (fun (W : World) (h1 : TRow W A 1 T) (h2 : TRow W A1 kT T1) (h3 : AmRow W C L) (h4 : AmRow W C1 L1) => sameC_yes 1 2 9 9 9 T T1 hsm L L1 hlm A A1 C C1 1 kT 1 kL W h1 h2 h3 h4)
 clear hb4 hB5 hb45 hT1 hA1 hz1 hl1 hsm hlm HSM HRD HB3 HK3 HT3 HA3
 go_upto_region 4 with fail
 have hl5 : w1.heap.size < (w4.alloc (.cells #[.slice A1 T1.length kT, .int .i64 1, .int .i64 2, .int .i64 9, .int .i64 9, .int .i64 9] 27)).heap.size := HP5.out.lt
 generalize w4.alloc (.cells #[.slice A1 T1.length kT, .int .i64 1, .int .i64 2, .int .i64 9, .int .i64 9, .int .i64 9] 27) = w5 at HK5 HB5 HP5 HT5 HA5 HU5 HV5 hl5 ⊢
 have HRB : Hid (Calls Tryz.prog 17 #[.string ⟨#[115, 101, 103, 32, 49, 10, 98, 111, 117, 110, 100, 32, 50, 10, 114, 111, 111, 109, 115, 32, 57, 32, 57, 32, 57, 10, 116, 97, 98, 108, 101, 32, 97, 32, 48, 32, 45, 49, 32, 45, 49, 32, 105, 100, 58, 105, 110, 116, 10, 105, 110, 115, 101, 114, 116, 32, 48, 32, 55, 10, 105, 110, 115, 101, 114, 116, 32, 48, 32, 48, 55, 10]⟩] w5 fun r w' => r = .returned (.tuple #[.agg #[.slice none 0 0, .int .i64 0, .int .i64 0, .int .i64 0, .int .i64 0, .int .i64 0], .slice none 0 0, .int .i64 6, .int .i64 310]) ∧ Below w5.heap.size w5 w') := by
  refine (read_any (bsO exBadC) w5 (HL.out.ext HB5.out)).mono fun r w' h => ⟨?_, h.2⟩
  have h1 := h.1
  unfold ReadQ at h1
  rw [if_neg (by decide), show (bsO exBadC).data.toList = exBadC from rfl, ex_bad] at h1
  exact h1
 go_wp2_with fail
 refine HRB.out.mono ?_
 rintro r w6 ⟨rfl, hb6⟩
 have hB7 : Below w6.heap.size w6 (w6.alloc (.cells #[.slice none 0 0, .int .i64 0, .int .i64 0, .int .i64 0, .int .i64 0, .int .i64 0] 27)) := bel1 _ _
 have hb7 := bt hb6 hB7
 have HB7 := hd_ (bt HB5.out hb7)
 have HP7 := hd_ (HP5.out.ext hb7)
 have HK7 := hd_ (HK5.out.ext hb7)
 have HT7 := hd_ (HT5.out.ext hb7)
 have HA7 := hd_ (HA5.out.ext hb7)
 have HU7 := hd_ (HU5.out.ext hb7)
 have HV7 := hd_ (HV5.out.ext hb7)
 clear hb6 hB7 hb7 HRB HB5 HP5 HK5 HT5 HA5 HU5 HV5
 go_upto_region 5 with fail
 generalize w6.alloc (.cells #[.slice none 0 0, .int .i64 0, .int .i64 0, .int .i64 0, .int .i64 0, .int .i64 0] 27) = w7 at HB7 HP7 HK7 HT7 HA7 HU7 HV7 ⊢
 have hwf0 : Ac0.wf := ⟨by decide, by decide, ⟨by decide, by decide⟩, (fun _ h => nomatch h), ⟨by decide, by decide⟩, ⟨by decide, by decide⟩, ⟨by decide, by decide⟩, by decide⟩
 have HAC : Hid (Calls Tryz.prog 15 #[.agg #[.int .u8 0, .int .u8 0, .int .i64 0, .slice none 0 0, .int .i64 0, .int .i64 0, .int .i64 0, .string ⟨#[]⟩]] w7 fun r w' => r = .returned (.tuple #[.string ⟨#[]⟩, .int .i64 2]) ∧ Below w7.heap.size w7 w') := by
  have h := act_any Ac0 hwf0 none 0 w7 ⟨(fun _ h => nomatch h), by decide, fun h => absurd rfl h⟩ (HL.out.ext HB7.out)
  rw [ex_no] at h
  exact h
 clear hwf0
 go_wp2_with fail
 refine HAC.out.mono ?_
 rintro r w8 ⟨rfl, hb8⟩
 have HB8 := hd_ (bt HB7.out hb8)
 have HP8 := hd_ (HP7.out.ext hb8)
 have HK8 := hd_ (HK7.out.ext hb8)
 have HT8 := hd_ (HT7.out.ext hb8)
 have HA8 := hd_ (HA7.out.ext hb8)
 have HSM8 := hd_ (HSMC.out w8 HT8.out (HU7.out.ext hb8) HA8.out (HV7.out.ext hb8))
 clear hb8 HAC HB7 HP7 HK7 HT7 HA7 HU7 HV7
 unfold Cf.agg at HSM8
 simp only at HSM8
 obtain ⟨d9, d0, d1, d2, d3, d4, d5⟩ := blk6 HP8.out
 obtain ⟨f9, f0, f1, f2, f3, f4, f5⟩ := blk6 HK8.out
 have hcmp' := hcmp.out
 go_wp2_with fail
 refine HSM8.out.mono ?_
 rintro r w9 ⟨rfl, hb9⟩
 have HB9 := hd_ (bt HB8.out hb9)
 have HP9 := hd_ (HP8.out.ext hb9)
 have HCK := hd_ (check31_any 1 2 9 9 9 T A 1 L C 1 w9 (HT8.out.ext hb9) (HA8.out.ext hb9) (HL.out.ext HB9.out))
 rw [hcf, hac] at HCK
 unfold Cf.agg at HCK
 simp only at HCK
 clear hb9 d9 d0 d1 d2 d3 d4 d5 f9 f0 f1 f2 f3 f4 f5
 obtain ⟨d9, d0, d1, d2, d3, d4, d5⟩ := blk6 HP9.out
 go_wp2_with fail
 refine HCK.out.mono ?_
 rintro r w10 ⟨rfl, hb10⟩
 have HBF := hd_ (bt HB9.out hb10)
 clear hb10
 go_wp2_with fail
 go_ret
 exact ⟨rfl, HBF.out⟩
end Go.Proofs.YtfekohonidggjaaGreatDoor
namespace Go.Proofs.YtfekohonidggjaaGreatDoor
open Go.ChangeShapes Go.WideShapes Go.ChangeAt Go.RowKit Go.Deep

theorem own : ownKnob Tryz.prog.godebug = none := by kernel_rfl
theorem laidOut : laidOutB Tryz.prog = true := by kernel_rfl

theorem first_eq : Rows.laid_unicode_utf8_first = Lib.firstData := by kernel_rfl
theorem tabs_of_list {W : World} (h : laidMetH Tryz.prog Rows.scriptWritesRow.laid W) : Tabs W := by
 have h' : laidMet Tryz.prog Rows.scriptWritesRow.laid W := h
 have h4 : Lib.VarReads Tryz.prog W "unicode/utf8.acceptRanges" Lib.acceptData := by
  first
   | exact Lib.laidMet.reads h' (.head _)
   | exact Lib.laidMet.reads h' (.tail _ (.tail _ (.tail _ (.head _))))
 have h3 : Lib.VarReads Tryz.prog W "unicode/utf8.first" Rows.laid_unicode_utf8_first := by
  first
   | exact Lib.laidMet.reads h' (.tail _ (.head _))
   | exact Lib.laidMet.reads h' (.tail _ (.tail _ (.tail _ (.tail _ (.tail _ (.tail _ (.head _)))))))
 rw [first_eq] at h3
 exact utf8Tabs_of_reads (ρ := Tryz.lays260_ren) Tryz.lays260 ⟨by kernel_rfl, by kernel_rfl, by kernel_rfl, by kernel_rfl, by kernel_rfl, by kernel_rfl, by kernel_rfl⟩ h3 h4

def setCells (cs : Array Value) : Obj → Obj
 | .cells _ t fr => .cells cs t fr
 | o => o

section
variable {H : Type} {enc : TypeId × Value → H}
theorem trodAll_below {W W' : World} (hb : Below W.heap.size W W') : ∀ {ts : List TypeId} {vs : List Value} {ds : List (DataW H)} {ps : List MemPlace},
  (∀ t ∈ ts, Tryz.prog.readableRec t = true ∧ t < Tryz.prog.types.size) → DataW.TrodAll enc Tryz.prog W 0 (fun _ => true) true ts vs ds ps → (∀ x ∈ ps, x.block < W.heap.size) →
  DataW.TrodAll enc Tryz.prog W' 0 (fun b => decide (b < W.heap.size)) true ts vs ds ps
 | [], _, _, _, _, h, _ => by
  obtain ⟨rfl, rfl, rfl⟩ := trodAll_nil h
  exact trodAll_mk0
 | t :: ts, vs, ds, ps, hr, h, hlt => by
  obtain ⟨v, vs', d, ds', p, q, rfl, rfl, rfl, hd, hs⟩ := trodAll_cons h
  obtain ⟨h1, h2⟩ := hr t (by simp)
  exact trodAll_cons_mk (Below.trod laidOut h1 h2 hd hb (fun x hx => hlt x (by simp [hx]))) (trodAll_below hb (fun t ht => hr t (by simp [ht])) hs (fun x hx => hlt x (by simp [hx])))
theorem post_law {fn : Func} {s : ChangeSpec} {W W' : World} {args : Array Value} {ds gs : List (DataW H)} {before : List MemPlace}
  (hW : DataW.Whole enc Tryz.prog fn.params.toList s.vars false W args.toList ds gs before) (hv : s.vars = []) (hres : fn.resultTypes = #[4])
  (hread : ∀ t ∈ fn.params.toList, Tryz.prog.readableRec t = true ∧ t < Tryz.prog.types.size)
  (h1 : (s.fn H ds).results = [.lit (.bool true)]) (h2 : (s.fn H ds).args = ds) (h3 : (s.fn H ds).vars = []) (hb : Below W.heap.size W W') :
  s.post enc Tryz.prog fn false true false false W args (.bool true) W' := by
 have hlt : ∀ x ∈ before, x.block < W.heap.size := fun x hx => hW.lt x hx
 have hW' := hW
 obtain ⟨p, q, hA, hV, rfl, hfz, hnd⟩ := hW
 rw [hv] at hV
 obtain ⟨rfl, rfl⟩ := trodVars_none hV
 refine ⟨ds, [], p ++ [], [], p, [], hW', ?_, ?_, ?_, ?_, fun h => by cases h⟩
 · rw [hres, List.append_nil, h1]
   exact trodAll_mk1 (shut_bool Tryz.underlying4 true)
 · rw [List.append_nil, h2]
   exact trodAll_below hb hread hA (fun x hx => hlt x (by simp [hx]))
 · rw [List.append_nil, h3, hv]
   rfl
 · refine World.keptBut_mono (fun x hx => ⟨hx, ?_⟩) (hb.frame (· ∈ p ++ []))
   rw [List.append_nil] at hx
   exact Or.inr (Or.inl hx)

instance : Inhabited V := ⟨⟨0, 0, 0, ByteArray.empty⟩⟩
set_option maxRecDepth 100000 in
/-- A struct of this type: its four cells, and what they read as. -/
theorem open_V {W : World} {base fuel : Nat} {spare : Nat → Bool} {held : Bool} {cs : List Value} {x : DataW H × List MemPlace}
  (h : DataW.trod enc Tryz.prog W base spare held fuel 48 cs = some x) (hwt : ∀ n ∈ x.1.weights Tryz.prog 48, n ≤ reachBytes) :
  ∃ v : V, v.wf ∧ cs = [.int .u8 v.k, .int .i64 v.n, .int .u64 v.r, .string v.t] ∧ x.1 = .agg [.lit (.int .u8 v.k), .lit (.int .i64 v.n), .lit (.int .u64 v.r), .lit (.string v.t.data.toList)] := by
 obtain ⟨xs, n, _, hx, hlen, hxl, hf⟩ := DataW.trod_struct Tryz.underlying48 h
 have hc : Tryz.prog.cellsOf 48 = 4 := by kernel_rfl
 rw [hc] at hlen
 match cs, hlen with
 | [c0, c1, c2, c3], _ =>
 match xs, hxl with
 | [x0, x1, x2, x3], _ =>
  have k1 : Tryz.prog.cellsOf 5 = 1 := by kernel_rfl
  have k2 : Tryz.prog.cellsOf 2 = 1 := by kernel_rfl
  have k3 : Tryz.prog.cellsOf 46 = 1 := by kernel_rfl
  have k4 : Tryz.prog.cellsOf 9 = 1 := by kernel_rfl
  have f0 := hf 0 _ rfl
  have f1 := hf 1 _ rfl
  have f2 := hf 2 _ rfl
  have f3 := hf 3 _ rfl
  change DataW.trod enc Tryz.prog W base spare held n 5 (([c0, c1, c2, c3].drop 0).take (Tryz.prog.cellsOf 5)) = some x0 at f0
  change DataW.trod enc Tryz.prog W base spare held n 2 (([c0, c1, c2, c3].drop 1).take (Tryz.prog.cellsOf 2)) = some x1 at f1
  change DataW.trod enc Tryz.prog W base spare held n 46 (([c0, c1, c2, c3].drop 2).take (Tryz.prog.cellsOf 46)) = some x2 at f2
  change DataW.trod enc Tryz.prog W base spare held n 9 (([c0, c1, c2, c3].drop 3).take (Tryz.prog.cellsOf 9)) = some x3 at f3
  rw [k1] at f0
  rw [k2] at f1
  rw [k3] at f2
  rw [k4] at f3
  simp only [List.drop_zero, List.drop_succ_cons, List.take_succ_cons, List.take_zero] at f0 f1 f2 f3
  obtain ⟨a, e0, rfl, wa⟩ := DataW.trod_int Tryz.underlying5 f0
  obtain ⟨b, e1, rfl, wb⟩ := DataW.trod_int Tryz.underlying2 f1
  obtain ⟨c, e2, rfl, wc⟩ := DataW.trod_int Tryz.underlying46 f2
  obtain ⟨s, e3, rfl, ws⟩ := DataW.trod_string Tryz.underlying9 f3
  simp only [List.cons.injEq, and_true] at e0 e1 e2 e3
  subst e0; subst e1; subst e2; subst e3
  simp only [List.map_cons, List.map_nil] at hx
  subst hx
  have hsz : s.data.toList.length ≤ reachBytes := by
   refine hwt _ ?_
   simp [DataW.weights, Tryz.underlying48, DataW.weightsEach]
  refine ⟨⟨a, b, c, s⟩, ?_, rfl, rfl⟩
  have ba := bounds_u8 wa
  have bb := bounds_i64 wb
  have bc := bounds_u64 wc
  have hs2 : s.size ≤ 140737488355328 := by
   have : s.data.toList.length = s.size := by simp
   have : reachBytes ≤ 140737488355328 := by decide
   omega
  exact ⟨by simp only; omega, by simp only; omega, by simp only; omega, by simp only; omega, by simp only; omega, by simp only; omega, hs2⟩

end
end Go.Proofs.YtfekohonidggjaaGreatDoor
namespace Go.Proofs.YtfekohonidggjaaGreatDoor
open Go.ChangeShapes Go.WideShapes Go.ChangeAt Go.RowKit Go.Deep

theorem iface_reads {W : World} {n nm : String} {d : DataW Unit} {g t : Nat} {ms : Array (String × TypeId)} (h : Lib.VarReads Tryz.prog W n (.iface nm d)) (hg : Tryz.prog.globalNamed n = some g) (ht : (Tryz.prog.globals[g]?).map (·.type) = some t) (hi : Tryz.prog.underlying t = some (.interface ms)) :
  ∃ te pe, W.cell? ⟨g, 0, none⟩ = some (.iface te pe) := by
 obtain ⟨g', t', cs, fuel, p, hg', hty, hvar, hd⟩ := h
 obtain rfl := Option.some.inj (hg.symm.trans hg')
 obtain rfl := Option.some.inj (ht.symm.trans hty)
 obtain ⟨_, u, v, hcs, _, _⟩ := iface_of_trod hi hd
 refine ⟨u, v, ?_⟩
 rw [World.var?_cell hg hvar 0, ← Array.getElem?_toList, hcs]
 rfl
theorem pow_eq : (Rows.laid_internal_strconv_uint64pow10 : DataW Unit) = Lib.tabData .u64 Lib.pow10Tab := by kernel_rfl
theorem lays_of_list {W : World} (h : laidMetH Tryz.prog Rows.scriptBackRow.laid W) (hs : W.ShapedOpen Tryz.prog) : LayS W := by
 have h' : laidMet Tryz.prog Rows.scriptBackRow.laid W := h
 have p2 := Lib.laidMet.reads h' (.tail _ (.tail _ (.head _)))
 have p4 := Lib.laidMet.reads h' (.tail _ (.tail _ (.tail _ (.tail _ (.head _)))))
 have p5 := Lib.laidMet.reads h' (.tail _ (.tail _ (.tail _ (.tail _ (.tail _ (.head _))))))
 refine ⟨tabs_of_list h, ?_, ?_, ?_, ?_⟩
 · obtain ⟨g, t, cs, fuel, p, hg, hty, hvar, hd⟩ := p2
   obtain rfl := Option.some.inj ((show Tryz.prog.globalNamed "internal/strconv.uint64pow10" = some 4 by kernel_rfl).symm.trans hg)
   obtain rfl := Option.some.inj ((show (Tryz.prog.globals[4]?).map (·.type) = some 225 by kernel_rfl).symm.trans hty)
   rw [pow_eq] at hd
   have hcs := Lib.cells_of_tab Tryz.underlying225 Tryz.underlying46 (by kernel_rfl) (by kernel_rfl) hd
   show W.var? _ _ = _
   rw [hvar, ← hcs]
 · exact cell_of_shapedOpen_int (g := 2) (t := 3) (zero := #[.int .i64 0]) hs (of_decide_eq_true (by kernel_rfl)) (by kernel_rfl) rfl (by kernel_rfl) (by kernel_rfl) Tryz.underlying3
 · exact iface_reads p5 (by kernel_rfl) (by kernel_rfl) Tryz.underlying119
 · exact iface_reads p4 (by kernel_rfl) (by kernel_rfl) Tryz.underlying119
noncomputable def laidWorldS (os : Os) : World := World.laidAll Tryz.prog os Rows.scriptBackRow.laid
theorem laid_metS (os : Os) (args : Array Value) : laidMet Tryz.prog Rows.scriptBackRow.laid ((laidWorldS os).forCall (fun _ _ => 0) ⟨#[], args, []⟩).memory := laidMet_laidAll args (by kernel_rfl) (by kernel_rfl)
end Go.Proofs.YtfekohonidggjaaGreatDoor
namespace Go.Proofs.YtfekohonidggjaaGreatDoor
open Go.ChangeShapes Go.WideShapes Go.ChangeAt Go.RowKit Go.Deep
section
variable {H : Type} {enc : TypeId × Value → H}
end
end Go.Proofs.YtfekohonidggjaaGreatDoor

namespace Go.Proofs.YtfekohonidggjaaGreatDoor
open Go.ChangeShapes Go.WideShapes Go.ChangeAt Go.RowKit Go.Deep
section
variable {H : Type} {enc : TypeId × Value → H}
instance : Inhabited Co := ⟨⟨ByteArray.empty, 0, false⟩⟩
instance : Inhabited Ta := ⟨⟨ByteArray.empty, [], 0, 0, 0, none, 0⟩⟩
end
end Go.Proofs.YtfekohonidggjaaGreatDoor
namespace Go.Proofs.YtfekohonidggjaaGreatDoor
open Go.ChangeShapes Go.WideShapes Go.ChangeAt Go.RowKit Go.Deep
section
variable {H : Type} {enc : TypeId × Value → H}
instance : Inhabited Am := ⟨⟨Ac0, none, 0⟩⟩
end
end Go.Proofs.YtfekohonidggjaaGreatDoor
