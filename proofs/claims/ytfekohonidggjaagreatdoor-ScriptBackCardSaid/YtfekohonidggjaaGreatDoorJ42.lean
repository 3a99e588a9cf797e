/- Several texts in one: see each part's head. -/
import Derived.Test.YtfekohonidggjaaGreatDoorJ38
import Derived.Test.YtfekohonidggjaaGreatDoorJ41
import Derived.Test.YtfekohonidggjaaGreatDoorJ33
/- fasciclelaw31.Example, alive. -/
namespace Go.Proofs.YtfekohonidggjaaGreatDoor
open Go.RowKit

theorem one_get {α : Type} {x v : α} {i : Nat} (h : [x][i]? = some v) : i = 0 ∧ v = x := by
  match i, h with
  | 0, h => exact ⟨rfl, (Option.some.inj h).symm⟩
theorem crow1 {w : World} {b : Nat} {c : Co} {t : TypeId} (hw : c.wf) (h : Blk w b #[.string c.nm, .int .u8 c.k, .bool c.nl] t) : CRow w (some ⟨b, 0, none⟩) [c] := by
  refine ⟨fun x hx => by simp only [List.mem_singleton] at hx; subst hx; exact hw, by simp, fun _ => ⟨b, 0, rfl, h.lt, fun i v hi => ?_⟩⟩
  obtain ⟨rfl, rfl⟩ := one_get hi
  exact ⟨h.cell 0, h.cell 1, h.cell 2⟩
theorem vrow1 {w : World} {b : Nat} {c : V} {t : TypeId} (hw : c.wf) (h : Blk w b #[.int .u8 c.k, .int .i64 c.n, .int .u64 c.r, .string c.t] t) : VRow w (some ⟨b, 0, none⟩) [c] := by
  refine ⟨fun x hx => by simp only [List.mem_singleton] at hx; subst hx; exact hw, by simp, fun _ => ⟨b, 0, rfl, h.lt, fun i v hi => ?_⟩⟩
  obtain ⟨rfl, rfl⟩ := one_get hi
  exact ⟨h.cell 0, h.cell 1, h.cell 2, h.cell 3⟩
theorem trow1 {w : World} {b : Nat} {x : Ta} {t : TypeId} (hw : x.wf) (hc : CRow w x.A x.cs) (h : Blk w b x.cells t) : TRow w (some ⟨b, 0, none⟩) 1 [x] := by
  refine ⟨fun y hy => by simp only [List.mem_singleton] at hy; subst hy; exact ⟨hw, hc⟩, by simp, by simp, fun _ => ⟨b, 0, rfl, h.lt, fun i v hi => ?_⟩⟩
  obtain ⟨rfl, rfl⟩ := one_get hi
  exact ⟨h.cell 0, h.cell 1, h.cell 2, h.cell 3, h.cell 4⟩
theorem amrow1 {w : World} {b : Nat} {x : Am} {t : TypeId} (hw : x.a.wf) (hc : VRow w x.A x.a.row) (h : Blk w b x.cells.toArray t) : AmRow w (some ⟨b, 0, none⟩) [x] := by
  refine ⟨fun y hy => by simp only [List.mem_singleton] at hy; subst hy; exact ⟨hw, hc⟩, by simp, fun _ => ⟨b, 0, rfl, h.lt, fun i v hi j hj => ?_⟩⟩
  obtain ⟨rfl, rfl⟩ := one_get hi
  have := h.cell j
  rw [List.getElem?_toArray] at this
  simpa using this
def ExP (w : World) (r : Ending) (w' : World) : Prop := ∃ (A C : Option Addr) (T : List Ta) (L : List Am), r = .returned (.tuple #[Cf.agg ⟨1, 2, 9, 9, 9, T⟩ A 1, .slice C L.length 1]) ∧ TRow w' A 1 T ∧ AmRow w' C L ∧ T.map Ta.z = exC.ts ∧ L.map (·.a) = [exA] ∧ Below w.heap.size w w'
set_option maxRecDepth 100000 in
set_option maxHeartbeats 3200000 in
theorem example_any (w : World) : Calls Tryz.prog 28 #[] w (ExP w) := by
  go_enter Tryz.func28, Tryz.ntmps28
  go_wp2_with fail
  obtain ⟨N, hN⟩ : ∃ N, N = w.heap.size := ⟨_, rfl⟩
  have W : ∀ W6 : World, W6 = (((((w.alloc (.cells #[.slice (some ⟨w.heap.size + 1 + 1, 0, none⟩) 1 1, .int .i64 1, .int .i64 2, .int .i64 9, .int .i64 9, .int .i64 9] 27)).alloc (.cells #[.string ⟨#[105, 100]⟩, .int .u8 2, .bool false] 111)).alloc (.cells #[.string ⟨#[97]⟩, .slice (some ⟨w.heap.size + 1, 0, none⟩) 1 1, .int .i64 0, .int .i64 (-1), .int .i64 (-1)] 66)).alloc (.cells #[.slice (some ⟨w.heap.size + 1 + 1, 0, none⟩) 1 1] 24)).alloc (.cells #[.int .u8 2, .int .i64 7, .int .u64 0, .string ⟨#[]⟩] 48)).alloc (.cells #[.int .u8 2, .int .u8 1, .int .i64 0, .slice (some ⟨w.heap.size + 1 + 1 + 1 + 1, 0, none⟩) 1 1, .int .i64 0, .int .i64 0, .int .i64 0, .string ⟨#[]⟩] 42) →
      Blk W6 w.heap.size #[.slice (some ⟨w.heap.size + 1 + 1, 0, none⟩) 1 1, .int .i64 1, .int .i64 2, .int .i64 9, .int .i64 9, .int .i64 9] 27 ∧ Blk W6 (w.heap.size + 1) #[.string ⟨#[105, 100]⟩, .int .u8 2, .bool false] 111 ∧ Blk W6 (w.heap.size + 1 + 1) #[.string ⟨#[97]⟩, .slice (some ⟨w.heap.size + 1, 0, none⟩) 1 1, .int .i64 0, .int .i64 (-1), .int .i64 (-1)] 66 ∧ Blk W6 (w.heap.size + 1 + 1 + 1 + 1) #[.int .u8 2, .int .i64 7, .int .u64 0, .string ⟨#[]⟩] 48 ∧ Blk W6 (w.heap.size + 1 + 1 + 1 + 1 + 1) #[.int .u8 2, .int .u8 1, .int .i64 0, .slice (some ⟨w.heap.size + 1 + 1 + 1 + 1, 0, none⟩) 1 1, .int .i64 0, .int .i64 0, .int .i64 0, .string ⟨#[]⟩] 42 ∧ Below w.heap.size w W6 := by
    rintro W6 rfl
    exact ⟨(by repeat (first | exact Blk.at (by simp) | assumption | refine Blk.drew ?_ | refine Blk.old ?_ _)), (by repeat (first | exact Blk.at (by simp) | assumption | refine Blk.drew ?_ | refine Blk.old ?_ _)), (by repeat (first | exact Blk.at (by simp) | assumption | refine Blk.drew ?_ | refine Blk.old ?_ _)), (by repeat (first | exact Blk.at (by simp) | assumption | refine Blk.drew ?_ | refine Blk.old ?_ _)), (by repeat (first | exact Blk.at (by simp) | assumption | refine Blk.drew ?_ | refine Blk.old ?_ _)), (by repeat (first | exact Below.refl _ _ | assumption | refine Below.drew ?_ | refine below_drewN ?_ _ | refine Below.alloc ?_ (by simp <;> omega) _))⟩
  obtain ⟨k0, k1, k2, k4, k5, kb⟩ := W _ rfl
  clear W
  generalize (((((w.alloc (.cells #[.slice (some ⟨w.heap.size + 1 + 1, 0, none⟩) 1 1, .int .i64 1, .int .i64 2, .int .i64 9, .int .i64 9, .int .i64 9] 27)).alloc (.cells #[.string ⟨#[105, 100]⟩, .int .u8 2, .bool false] 111)).alloc (.cells #[.string ⟨#[97]⟩, .slice (some ⟨w.heap.size + 1, 0, none⟩) 1 1, .int .i64 0, .int .i64 (-1), .int .i64 (-1)] 66)).alloc (.cells #[.slice (some ⟨w.heap.size + 1 + 1, 0, none⟩) 1 1] 24)).alloc (.cells #[.int .u8 2, .int .i64 7, .int .u64 0, .string ⟨#[]⟩] 48)).alloc (.cells #[.int .u8 2, .int .u8 1, .int .i64 0, .slice (some ⟨w.heap.size + 1 + 1 + 1 + 1, 0, none⟩) 1 1, .int .i64 0, .int .i64 0, .int .i64 0, .string ⟨#[]⟩] 42) = W6 at k0 k1 k2 k4 k5 kb ⊢
  obtain ⟨d9, d0, d1, d2, d3, d4, d5⟩ := blk6 k0
  refine bodyPost_ret (v := .tuple #[Cf.agg ⟨1, 2, 9, 9, 9, [⟨bsO [97], [⟨bsO [105, 100], 2, false⟩], 0, -1, -1, some ⟨w.heap.size + 1, 0, none⟩, 1⟩]⟩ (some ⟨w.heap.size + 1 + 1, 0, none⟩) 1, .slice (some ⟨w.heap.size + 1 + 1 + 1 + 1 + 1, 0, none⟩) 1 1]) (by simp [results, Tryz.results28, go_sem, Cf.agg, d0, d1, d2, d3, d4, d5]) rfl ?_
  refine ⟨_, _, [⟨bsO [97], [⟨bsO [105, 100], 2, false⟩], 0, -1, -1, some ⟨w.heap.size + 1, 0, none⟩, 1⟩], [⟨exA, some ⟨w.heap.size + 1 + 1 + 1 + 1, 0, none⟩, 1⟩], rfl, ?_, ?_, rfl, rfl, kb⟩
  · exact trow1 (ex_wf exT (by simp [exC])).1 (crow1 ((ex_wf exT (by simp [exC])).2 ⟨bsO [105, 100], 2, false⟩ (by simp [exT])) k1) k2
  · exact amrow1 ex_awf (vrow1 (c := ⟨2, 7, 0, bsO []⟩) (ex_awf.2.2.2.1 _ (by simp [exA])) k4) k5
theorem ex_back {T : List Ta} (hT : T.map Ta.z = exC.ts) {L : List Am} (hL : L.map (·.a) = [exA]) : writeV ⟨1, 2, 9, 9, 9, T⟩ (L.map (·.a)) = .tuple #[.string (bsO textC), .int .i64 0] ∧ confB ⟨1, 2, 9, 9, 9, T⟩ = true ∧ actsB L = true := by
  refine ⟨?_, ?_, ?_⟩
  · rw [hL]
    exact (writeV_read (text := bsO textC) (st := mid exC [exT] [exA]) ex_read (by decide) hT).1
  · have h := ex_conf
    unfold confB at h ⊢
    simp only at h ⊢
    rw [← sch_z, hT]
    exact h
  · unfold actsB
    have h1 : L.length = 1 := by have := congrArg List.length hL; simpa using this
    obtain ⟨x, rfl⟩ := List.length_eq_one_iff.1 h1
    have e : x.a = exA := by simpa using hL
    simp [e, ex_act]
set_option maxRecDepth 100000 in
set_option maxHeartbeats 3200000 in
theorem alive_any (w : World) (hL : LayS w) : Calls Tryz.prog 8 #[] w fun r w' => r = .returned (.bool true) ∧ Below w.heap.size w w' := by
  have HL := Lib.hid hL
  have HEX := Lib.hid (example_any w)
  clear hL
  go_enter Tryz.func8, Tryz.ntmps8
  go_wp2_with fail
  refine HEX.out.mono ?_
  rintro r w1 ⟨A, C, T, L, rfl, hT, hA, hTz, hLa, hb⟩
  obtain ⟨hwr, hcf, hac⟩ := ex_back hTz hLa
  have HLl : Hid (L.length = 1) := by show _ = _; have := congrArg List.length hLa; simpa using this
  have HSM : Hid (∀ T1 : List Ta, T1.map Ta.z = [exT] → sameS T T1 = true) := fun T1 h => same_z (h.trans hTz.symm)
  have HLA := Lib.hid hLa
  have hB2 : Below w1.heap.size w1 (w1.alloc (.cells #[.slice A T.length 1, .int .i64 1, .int .i64 2, .int .i64 9, .int .i64 9, .int .i64 9] 27)) := (by repeat (first | exact Below.refl _ _ | assumption | refine Below.drew ?_ | refine below_drewN ?_ _ | refine Below.alloc ?_ (by simp <;> omega) _))
  have HK2 := Lib.hid (Blk.new w1 #[.slice A T.length 1, .int .i64 1, .int .i64 2, .int .i64 9, .int .i64 9, .int .i64 9] 27)
  have HB2 := Lib.hid (bt hb hB2)
  have HT2 := Lib.hid (hT.ext hB2)
  have HA2 := Lib.hid (hA.ext hB2)
  clear hT hA hTz hLa hb hB2 HEX
  unfold Cf.agg
  simp only
  go_upto_region 2 with fail
  generalize w1.alloc (.cells #[.slice A T.length 1, .int .i64 1, .int .i64 2, .int .i64 9, .int .i64 9, .int .i64 9] 27) = w2 at HK2 HB2 HT2 HA2 ⊢
  obtain ⟨S, hS⟩ : ∃ S, S = bsO textC := ⟨_, rfl⟩
  have hcmp : Hid ((S.toList == [115, 101, 103, 32, 49, 10, 98, 111, 117, 110, 100, 32, 50, 10, 114, 111, 111, 109, 115, 32, 57, 32, 57, 32, 57, 10, 116, 97, 98, 108, 101, 32, 97, 32, 48, 32, 45, 49, 32, 45, 49, 32, 105, 100, 58, 105, 110, 116, 10, 105, 110, 115, 101, 114, 116, 32, 48, 32, 55, 10]) = true) := by show _ = _; rw [hS, ByteArray.toList_eq]; rfl
  have HWR := Lib.hid (write_any 1 2 9 9 9 T A 1 L C 1 w2 HT2.out HA2.out (HL.out.ext HB2.out) (by have := HLl.out; omega))
  rw [hwr, ← hS] at HWR
  unfold Cf.agg at HWR
  simp only at HWR
  clear hwr hS
  obtain ⟨d9, d0, d1, d2, d3, d4, d5⟩ := blk6 HK2.out
  go_wp2_with fail
  refine HWR.out.mono ?_
  rintro r w3 ⟨rfl, hb3⟩
  have HB3 := Lib.hid (bt HB2.out hb3)
  have HK3 := Lib.hid (HK2.out.ext hb3)
  have HT3 := Lib.hid (HT2.out.ext hb3)
  have HA3 := Lib.hid (HA2.out.ext hb3)
  clear hb3 d9 d0 d1 d2 d3 d4 d5 HWR HB2 HK2 HT2 HA2
  have HRD : Hid (Calls Tryz.prog 17 #[.string ⟨#[115, 101, 103, 32, 49, 10, 98, 111, 117, 110, 100, 32, 50, 10, 114, 111, 111, 109, 115, 32, 57, 32, 57, 32, 57, 10, 116, 97, 98, 108, 101, 32, 97, 32, 48, 32, 45, 49, 32, 45, 49, 32, 105, 100, 58, 105, 110, 116, 10, 105, 110, 115, 101, 114, 116, 32, 48, 32, 55, 10]⟩] w3 fun r w' => (∃ T A kT L C kL, r = .returned (.tuple #[Cf.agg ⟨1, 2, 9, 9, 9, T⟩ A kT, .slice C (List.length L) kL, .int .i64 0, .int .i64 0]) ∧ TRow w' A kT T ∧ AmRow w' C L ∧ T.map Ta.z = [exT] ∧ L.map (·.a) = [exA]) ∧ Below w3.heap.size w3 w') := by
    refine (read_any (bsO textC) w3 (HL.out.ext HB3.out)).mono fun r w' h => ⟨?_, h.2⟩
    have h1 := h.1
    unfold ReadQ at h1
    rw [if_neg (by decide), show (bsO textC).data.toList = textC from rfl, ex_read] at h1
    exact h1
  go_upto_region 3 with fail
  go_wp2_with fail
  refine HRD.out.mono ?_
  rintro r w4 ⟨⟨T1, A1, kT, L1, C1, kL, rfl, hT1, hA1, hz1, hl1⟩, hb4⟩
  unfold Cf.agg
  simp only
  have hB5 : Below w4.heap.size w4 (w4.alloc (.cells #[.slice A1 T1.length kT, .int .i64 1, .int .i64 2, .int .i64 9, .int .i64 9, .int .i64 9] 27)) := (by repeat (first | exact Below.refl _ _ | assumption | refine Below.drew ?_ | refine below_drewN ?_ _ | refine Below.alloc ?_ (by simp <;> omega) _))
  have hb45 := bt hb4 hB5
  have HK5 := Lib.hid (Blk.new w4 #[.slice A1 T1.length kT, .int .i64 1, .int .i64 2, .int .i64 9, .int .i64 9, .int .i64 9] 27)
  have HB5 := Lib.hid (bt HB3.out hb45)
  have HP5 := Lib.hid (HK3.out.ext hb45)
  have HT5 := Lib.hid (HT3.out.ext hb45)
  have HA5 := Lib.hid (HA3.out.ext hb45)
  have HU5 := Lib.hid (hT1.ext hB5)
  have HV5 := Lib.hid (hA1.ext hB5)
  have hsm := HSM.out T1 hz1
  have hlm : L.map (·.a) = L1.map (·.a) := HLA.out.trans hl1.symm
  have HSMC := Lib.hid (fun (W : World) (h1 : TRow W A 1 T) (h2 : TRow W A1 kT T1) (h3 : AmRow W C L) (h4 : AmRow W C1 L1) => sameC_yes 1 2 9 9 9 T T1 hsm L L1 hlm A A1 C C1 1 kT 1 kL W h1 h2 h3 h4)
  clear hb4 hB5 hb45 hT1 hA1 hz1 hl1 hsm hlm HSM HRD HB3 HK3 HT3 HA3
  go_upto_region 4 with fail
  have hl5 : w1.heap.size < (w4.alloc (.cells #[.slice A1 T1.length kT, .int .i64 1, .int .i64 2, .int .i64 9, .int .i64 9, .int .i64 9] 27)).heap.size := HP5.out.lt
  generalize w4.alloc (.cells #[.slice A1 T1.length kT, .int .i64 1, .int .i64 2, .int .i64 9, .int .i64 9, .int .i64 9] 27) = w5 at HK5 HB5 HP5 HT5 HA5 HU5 HV5 hl5 ⊢
  have HRB : Hid (Calls Tryz.prog 17 #[.string ⟨#[115, 101, 103, 32, 49, 10, 98, 111, 117, 110, 100, 32, 50, 10, 114, 111, 111, 109, 115, 32, 57, 32, 57, 32, 57, 10, 116, 97, 98, 108, 101, 32, 97, 32, 48, 32, 45, 49, 32, 45, 49, 32, 105, 100, 58, 105, 110, 116, 10, 105, 110, 115, 101, 114, 116, 32, 48, 32, 55, 10, 105, 110, 115, 101, 114, 116, 32, 48, 32, 48, 55, 10]⟩] w5 fun r w' => r = .returned (.tuple #[.agg #[.slice none 0 0, .int .i64 0, .int .i64 0, .int .i64 0, .int .i64 0, .int .i64 0], .slice none 0 0, .int .i64 6, .int .i64 310]) ∧ Below w5.heap.size w5 w') := by
    refine (read_any (bsO exBadC) w5 (HL.out.ext HB5.out)).mono fun r w' h => ⟨?_, h.2⟩
    have h1 := h.1
    unfold ReadQ at h1
    rw [if_neg (by decide), show (bsO exBadC).data.toList = exBadC from rfl, ex_bad] at h1
    exact h1
  go_wp2_with fail
  refine HRB.out.mono ?_
  rintro r w6 ⟨rfl, hb6⟩
  have hB7 : Below w6.heap.size w6 (w6.alloc (.cells #[.slice none 0 0, .int .i64 0, .int .i64 0, .int .i64 0, .int .i64 0, .int .i64 0] 27)) := (by repeat (first | exact Below.refl _ _ | assumption | refine Below.drew ?_ | refine below_drewN ?_ _ | refine Below.alloc ?_ (by simp <;> omega) _))
  have hb7 := bt hb6 hB7
  have HB7 := Lib.hid (bt HB5.out hb7)
  have HP7 := Lib.hid (HP5.out.ext hb7)
  have HK7 := Lib.hid (HK5.out.ext hb7)
  have HT7 := Lib.hid (HT5.out.ext hb7)
  have HA7 := Lib.hid (HA5.out.ext hb7)
  have HU7 := Lib.hid (HU5.out.ext hb7)
  have HV7 := Lib.hid (HV5.out.ext hb7)
  clear hb6 hB7 hb7 HRB HB5 HP5 HK5 HT5 HA5 HU5 HV5
  go_upto_region 5 with fail
  generalize w6.alloc (.cells #[.slice none 0 0, .int .i64 0, .int .i64 0, .int .i64 0, .int .i64 0, .int .i64 0] 27) = w7 at HB7 HP7 HK7 HT7 HA7 HU7 HV7 ⊢
  have hwf0 : Ac0.wf := ⟨by decide, by decide, ⟨by decide, by decide⟩, (fun _ h => nomatch h), ⟨by decide, by decide⟩, ⟨by decide, by decide⟩, ⟨by decide, by decide⟩, by decide⟩
  have HAC : Hid (Calls Tryz.prog 15 #[.agg #[.int .u8 0, .int .u8 0, .int .i64 0, .slice none 0 0, .int .i64 0, .int .i64 0, .int .i64 0, .string ⟨#[]⟩]] w7 fun r w' => r = .returned (.tuple #[.string ⟨#[]⟩, .int .i64 2]) ∧ Below w7.heap.size w7 w') := by
    have h := act_any Ac0 hwf0 none 0 w7 ⟨(fun _ h => nomatch h), by decide, fun h => absurd rfl h⟩ (HL.out.ext HB7.out)
    rw [ex_no] at h
    exact h
  clear hwf0
  go_wp2_with fail
  refine HAC.out.mono ?_
  rintro r w8 ⟨rfl, hb8⟩
  have HB8 := Lib.hid (bt HB7.out hb8)
  have HP8 := Lib.hid (HP7.out.ext hb8)
  have HK8 := Lib.hid (HK7.out.ext hb8)
  have HT8 := Lib.hid (HT7.out.ext hb8)
  have HA8 := Lib.hid (HA7.out.ext hb8)
  have HSM8 := Lib.hid (HSMC.out w8 HT8.out (HU7.out.ext hb8) HA8.out (HV7.out.ext hb8))
  clear hb8 HAC HB7 HP7 HK7 HT7 HA7 HU7 HV7
  unfold Cf.agg at HSM8
  simp only at HSM8
  obtain ⟨d9, d0, d1, d2, d3, d4, d5⟩ := blk6 HP8.out
  obtain ⟨f9, f0, f1, f2, f3, f4, f5⟩ := blk6 HK8.out
  have hcmp' := hcmp.out
  go_wp2_with fail
  refine HSM8.out.mono ?_
  rintro r w9 ⟨rfl, hb9⟩
  have HB9 := Lib.hid (bt HB8.out hb9)
  have HP9 := Lib.hid (HP8.out.ext hb9)
  have HCK := Lib.hid (check31_any 1 2 9 9 9 T A 1 L C 1 w9 (HT8.out.ext hb9) (HA8.out.ext hb9) (HL.out.ext HB9.out))
  rw [hcf, hac] at HCK
  unfold Cf.agg at HCK
  simp only at HCK
  clear hb9 d9 d0 d1 d2 d3 d4 d5 f9 f0 f1 f2 f3 f4 f5
  obtain ⟨d9, d0, d1, d2, d3, d4, d5⟩ := blk6 HP9.out
  go_wp2_with fail
  refine HCK.out.mono ?_
  rintro r w10 ⟨rfl, hb10⟩
  have HBF := Lib.hid (bt HB9.out hb10)
  clear hb10
  go_wp2_with fail
  go_ret
  exact ⟨rfl, HBF.out⟩
end Go.Proofs.YtfekohonidggjaaGreatDoor

/- Contracts: script.ReadAct. -/
namespace Go.Proofs.YtfekohonidggjaaGreatDoor
open Go.RowKit

def zAct : Array Value := #[.int .u8 0, .int .u8 0, .int .i64 0, .slice none 0 0, .int .i64 0, .int .i64 0, .int .i64 0, .string ⟨#[]⟩]
def RaQ (l : List UInt8) (b : Nat) (W : World) (r : Ending) (w' : World) : Prop :=
  (∃ x A c w1, readA l = some x ∧ r = .returned (.tuple #[]) ∧ Below W.heap.size W w1 ∧ VRow w1 A x.row ∧ (∀ p, A = some p → W.heap.size ≤ p.block) ∧ w' = putBlk w1 b (Am.arr x A c) 42) ∨ (readA l = none ∧ r = gaveW ∧ Below W.heap.size W w')
set_option maxRecDepth 100000 in
set_option maxHeartbeats 1600000 in
theorem raDo_any (s : ByteArray) (hs : s.size < 4294967281) (a b : Nat) (W : World) (hL : LayS W) (ha : Blk W a #[.string s] 9) (hb : Blk W b zAct 42) :
    Calls Tryz.prog 51 #[.pointer (some ⟨a, 0, none⟩), .pointer (some ⟨b, 0, none⟩)] W (RaQ s.data.toList b W) := by
  have HRA := Lib.hid (readAct_any s hs W hL)
  obtain ⟨y0, y1, y2⟩ := blk1c ha
  have HB := Lib.hid hb
  clear hL hb ha
  go_enter Tryz.func51, Tryz.ntmps51
  go_wp2_with fail
  cases ho : readA s.data.toList with
  | none =>
    rw [ho] at HRA
    have HR := Lib.hid ho
    clear ho
    refine HRA.out.mono ?_
    rintro q w1 ⟨hq, hb1⟩
    obtain rfl : q = gaveW := hq
    unfold gaveW
    go_wp2_with fail
    exact ⟨rfl, Or.inr ⟨HR.out, rfl, hb1⟩⟩
  | some x =>
    rw [ho] at HRA
    have HR := Lib.hid ho
    clear ho
    refine HRA.out.mono ?_
    rintro q w1 ⟨⟨A, cA, rfl, hvr, hA⟩, hb1⟩
    have hB1 := HB.out.ext hb1
    unfold zAct at hB1
    have HBX := Lib.hid hb1
    have HVR := Lib.hid hvr
    have HPA := Lib.hid hA
    unfold Ac.agg
    obtain ⟨w3, rfl, lt⟩ := blk_put hB1
    obtain ⟨pc, pf, pS⟩ := putBlk_facts (w := w3) 42 lt
    clear hb1 hB1 hvr hA
    go_wp2_with fail
    go_end0
    exact Or.inl ⟨x, A, cA, _, HR.out, rfl, HBX.out, HVR.out, HPA.out, by rw [putputS]; rfl⟩
theorem RaQ_end {l : List UInt8} {b n : Nat} {W : World} (hn : Blk W n #[.bool false] 4) (hne : n ≠ b) : mayEnd n (RaQ l b W) := by
  rintro r w' (⟨x, A, c, w1, _, rfl, hb, _, _, rfl⟩ | ⟨_, rfl, hb⟩)
  · exact ⟨Or.inl rfl, putBlk_ne (hn.ext hb) hne⟩
  · exact ⟨Or.inr rfl, hn.ext hb⟩
def RActP (o : Option Ac) (B : Nat) (r : Ending) (w' : World) : Prop := match o with
  | some a => ∃ A c, r = .returned (.tuple #[a.agg A c, .int .i64 0]) ∧ VRow w' A a.row ∧ ∀ p, A = some p → B ≤ p.block
  | none => r = .returned (.tuple #[.agg zAct, .int .i64 310])
theorem VRow.putAt {w : World} {A : Option Addr} {l : List V} (h : VRow w A l) (b : Nat) (ds : Array Value) (t : TypeId) (hA : ∀ p, A = some p → b < p.block) : VRow (putBlk w b ds t) A l := by
  refine ⟨h.1, h.2.1, fun hl => ?_⟩
  obtain ⟨g, off, rfl, hlt, hc⟩ := h.2.2 hl
  have hg := hA _ rfl
  have hne : g ≠ b := by simp only at hg; omega
  have hcell : ∀ i, (putBlk w b ds t).cell? ⟨g, i, none⟩ = w.cell? ⟨g, i, none⟩ := fun i => by
    unfold World.cell? putBlk
    simp only
    rw [Array.getElem?_setIfInBounds_ne (fun e => hne e.symm)]
  refine ⟨g, off, rfl, by rw [putBlk_size]; exact hlt, fun i v hi => ?_⟩
  obtain ⟨c0, c1, c2, c3⟩ := hc i v hi
  exact ⟨(hcell _).trans c0, (hcell _).trans c1, (hcell _).trans c2, (hcell _).trans c3⟩
set_option maxRecDepth 100000 in
set_option maxHeartbeats 1600000 in
theorem readActE_any (s : ByteArray) (hs : s.size < 4294967281) (w : World) (hL : LayS w) :
    Calls Tryz.prog 19 #[.string s] w fun r w' => RActP (readA s.data.toList) w.heap.size r w' ∧ Below w.heap.size w w' := by
  have hA : Below w.heap.size w ((w.alloc (.cells #[.string s] 9)).alloc (.cells #[.int .u8 0, .int .u8 0, .int .i64 0, .slice none 0 0, .int .i64 0, .int .i64 0, .int .i64 0, .string ⟨#[]⟩] 42)) := (by repeat (first | exact Below.refl _ _ | assumption | refine Below.drew ?_ | refine below_drewN ?_ _ | refine Below.alloc ?_ (by simp <;> omega) _))
  have hS : Blk ((w.alloc (.cells #[.string s] 9)).alloc (.cells #[.int .u8 0, .int .u8 0, .int .i64 0, .slice none 0 0, .int .i64 0, .int .i64 0, .int .i64 0, .string ⟨#[]⟩] 42)) w.heap.size #[.string s] 9 := (Blk.new w _ _).old _
  have hV : Blk ((w.alloc (.cells #[.string s] 9)).alloc (.cells #[.int .u8 0, .int .u8 0, .int .i64 0, .slice none 0 0, .int .i64 0, .int .i64 0, .int .i64 0, .string ⟨#[]⟩] 42)) (w.heap.size + 1) zAct 42 := by
    have := Blk.new (w.alloc (.cells #[.string s] 9)) zAct 42
    simpa [zAct] using this
  have hsz : ((w.alloc (.cells #[.string s] 9)).alloc (.cells #[.int .u8 0, .int .u8 0, .int .i64 0, .slice none 0 0, .int .i64 0, .int .i64 0, .int .i64 0, .string ⟨#[]⟩] 42)).heap.size = w.heap.size + 2 := by simp
  generalize hW : ((w.alloc (.cells #[.string s] 9)).alloc (.cells #[.int .u8 0, .int .u8 0, .int .i64 0, .slice none 0 0, .int .i64 0, .int .i64 0, .int .i64 0, .string ⟨#[]⟩] 42)) = W at hA hS hV hsz
  have hb3 : Below W.heap.size W (W.alloc (.cells #[.bool false] 4)) := (by repeat (first | exact Below.refl _ _ | assumption | refine Below.drew ?_ | refine below_drewN ?_ _ | refine Below.alloc ?_ (by simp <;> omega) _))
  have hn3 := Blk.new W #[.bool false] 4
  have HCA := Lib.hid (caught_ra (.pointer (some ⟨w.heap.size, 0, none⟩)) (.pointer (some ⟨w.heap.size + 1, 0, none⟩)) W _ (raDo_any s hs w.heap.size (w.heap.size + 1) (W.alloc (.cells #[.bool false] 4)) ((hL.ext hA).ext hb3) (hS.ext hb3) (hV.ext hb3)) (RaQ_end hn3 (by omega)))
  have HV := Lib.hid (hV.ext hb3)
  have HSZ := Lib.hid hsz
  have HA := Lib.hid hA
  have HB3 := Lib.hid hb3
  clear hA hS hV hsz hL hb3 hn3
  go_enter Tryz.func19, Tryz.ntmps19
  go_wp2_with fail
  clear hW
  refine HCA.out.mono ?_
  rintro r w1 ⟨w4, ⟨hq, rfl, rfl⟩ | ⟨hq, rfl, rfl⟩⟩
  · rcases hq with ⟨x, A, cA, w5, hr, _, hb, hvr, hpa, rfl⟩ | ⟨_, h, _⟩
    · have hv5 := HV.out.ext hb
      have hlt := hv5.lt
      have hWs : (W.alloc (.cells #[.bool false] 4)).heap.size = W.heap.size + 1 := by simp
      have hBB : Below w.heap.size w (putBlk w5 (w.heap.size + 1) (Am.arr x A cA) 42) := putBlk_below _ _ (bt HA.out (bt HB3.out hb)) (by omega)
      have HVR := Lib.hid (hvr.putAt (w.heap.size + 1) (Am.arr x A cA) 42 (fun p hp => by have := hpa p hp; have := HSZ.out; omega))
      have HPA : Hid (∀ p, A = some p → w.heap.size ≤ p.block) := fun p hp => by have := hpa p hp; have := HSZ.out; omega
      obtain ⟨xd, xk, xtb, xrow, xn, xm, xq, xnm⟩ := x
      have HR := Lib.hid hr
      have HBB := Lib.hid hBB
      unfold Am.arr at HBB HVR ⊢
      simp only at HBB HVR ⊢
      obtain ⟨pc, pf, pS⟩ := putBlk_facts (w := w5) 42 hlt
      clear hr hBB hb hv5 hvr hpa hWs
      go_wp2_with fail
      refine bodyPost_ret (v := .tuple #[Ac.agg ⟨xd, xk, xtb, xrow, xn, xm, xq, xnm⟩ A cA, .int .i64 0]) (by simp [results, Tryz.results19, go_sem, Ac.agg, pc]) rfl ?_
      refine ⟨?_, HBB.out⟩
      rw [HR.out]
      exact ⟨A, cA, rfl, HVR.out, HPA.out⟩
    · cases h
  · rcases hq with ⟨x, A, cA, w5, _, h, _⟩ | ⟨hr, _, hb⟩
    · cases h
    · have hv5 := HV.out.ext hb
      have HR := Lib.hid hr
      have hz := putBlk_ne (cs := #[.bool true]) (t := 4) (b := W.heap.size) hv5 (by rw [HSZ.out]; omega)
      have hBB : Below w.heap.size w (putBlk w4 W.heap.size #[.bool true] 4) := putBlk_below _ _ (bt HA.out (bt HB3.out hb)) (by rw [HSZ.out]; omega)
      generalize putBlk w4 W.heap.size #[.bool true] 4 = W6 at hz hBB ⊢
      unfold zAct at hz
      obtain ⟨w7, rfl, lt⟩ := blk_put hz
      obtain ⟨pc, pf, pS⟩ := putBlk_facts (w := w7) 42 lt
      have HBB := Lib.hid hBB
      clear hr hBB hb hv5 hz
      go_wp2_with fail
      refine bodyPost_ret (v := .tuple #[.agg zAct, .int .i64 310]) (by simp [results, Tryz.results19, go_sem, pc, zAct]) rfl ?_
      exact ⟨by rw [HR.out]; rfl, HBB.out⟩
end Go.Proofs.YtfekohonidggjaaGreatDoor
