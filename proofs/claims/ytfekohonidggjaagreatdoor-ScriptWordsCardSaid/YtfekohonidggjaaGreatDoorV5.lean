/- Texts joined by a tool: contracts and walks of this claim. -/
import Derived.Test.YtfekohonidggjaaGreatDoorV4
import Derived.Test.YtfekohonidggjaaGreatDoorB36
namespace Go.Proofs.YtfekohonidggjaaGreatDoor
open Go.RowKit
theorem blk4u {w : World} {b : Nat} {a0 a1 a2 a3 : Value} {t : TypeId} (h : Blk w b #[a0, a1, a2, a3] t) : b < w.heap.size ∧ w.cell? ⟨b, 0, none⟩ = some a0 ∧ w.cell? ⟨b, 1, none⟩ = some a1 ∧ w.cell? ⟨b, 2, none⟩ = some a2 ∧ w.cell? ⟨b, 3, none⟩ = some a3 := ⟨h.lt, h.cell 0, h.cell 1, h.cell 2, h.cell 3⟩
def Az : Ac := ⟨0, 0, 0, [], 0, 0, 0, bsO []⟩
def eW {α : Type} (o : Option α) : Int := if o.isSome then 0 else 310
theorem RActP.form {o : Option Ac} {B : Nat} {r : Ending} {w' : World} (h : RActP o B r w') : ∃ P pc, r = .returned (.tuple #[(o.getD Az).agg P pc, .int .i64 (eW o)]) ∧ VRow w' P (o.getD Az).row := by
 cases o with
 | none => exact ⟨none, 0, h, VRow.nil_ _⟩
 | some a =>
  obtain ⟨A, c, h1, h2, _⟩ := h
  exact ⟨A, c, h1, h2⟩
theorem readP_form (o : Option V) : readP o = .tuple #[(o.getD zV).agg, .int .i64 (eW o)] := by
 cases o <;> rfl
set_option maxRecDepth 100000 in
theorem eql_eq (k n r : Int) (t : ByteArray) (w : World) :
  (binOp .eql 48 (.agg #[.int .u8 k, .int .i64 n, .int .u64 r, .string t]) (.agg #[.int .u8 k, .int .i64 n, .int .u64 r, .string t])).run Tryz.prog w = .ok (.bool true) w := by
 go_simp
set_option maxRecDepth 100000 in
set_option maxHeartbeats 6400000 in
theorem swords_walk (line word : ByteArray) (vk vn vr : Int) (vt : ByteArray) (hv : V.wf ⟨vk, vn, vr, vt⟩) (w : World) (hz1 : line.size ≤ 140737488355328) (hz2 : word.size ≤ 140737488355328) (hL : LayS w) :
  Calls Tryz.prog 5 #[.string line, .string word, .agg #[.int .u8 vk, .int .i64 vn, .int .u64 vr, .string vt]] w fun r w' => r = .returned (.bool true) ∧ Below w.heap.size w w' := by
 have HAL := hd_ (fun (W : World) (hW : Below w.heap.size w W) => alive_any W (hL.ext hW))
 obtain ⟨VT, hVT⟩ : ∃ VT, VT = bsO (valT ⟨vk, vn, vr, vt⟩) := ⟨_, rfl⟩
 have HVA := hd_ (fun (W : World) (hW : Below w.heap.size w W) => valueT_any ⟨vk, vn, vr, vt⟩ hv W (hL.ext hW))
 have HVB := hd_ (fun (W : World) (hW : Below w.heap.size w W) => refvalueT_any ⟨vk, vn, vr, vt⟩ hv W (hL.ext hW).tabs)
 rw [← hVT] at HVA HVB
 unfold V.agg at HVA HVB
 simp only at HVA HVB
 clear hVT
 have hb1 : Below w.heap.size w (w.alloc (.cells #[.int .u8 vk, .int .i64 vn, .int .u64 vr, .string vt] 48)) := bel1 _ _
 have HB1 := hd_ hb1
 have HK1 := hd_ (Blk.new w #[.int .u8 vk, .int .i64 vn, .int .u64 vr, .string vt] 48)
 have HL := hd_ hL
 clear hL hb1 hv
 go_enter Tryz.func5, Tryz.ntmps5
 go_upto_region 1 with fail
 generalize w.alloc (.cells #[.int .u8 vk, .int .i64 vn, .int .u64 vr, .string vt] 48) = w1 at HB1 HK1 ⊢
 obtain ⟨bl, y0, y1, y2, y3⟩ := blk4u HK1.out
 by_cases hlw : 4096 < line.size + word.size
 · have hlI : (4096 : Int) < (line.size : Int) + word.size := by omega
   clear hlw
   go_wp2_with fail
   refine (HAL.out _ HB1.out).mono ?_
   rintro r wz ⟨rfl, hbz⟩
   have HBZ := hd_ (bt HB1.out hbz)
   clear hbz
   go_wp2_with fail
   go_ret
   exact ⟨rfl, HBZ.out⟩
 by_cases htv : 1024 < vt.size
 · have hlI : ¬ (4096 : Int) < (line.size : Int) + word.size := by omega
   have htI : (1024 : Int) < (vt.size : Int) := by omega
   clear hlw htv
   go_wp2_with fail
   refine (HAL.out _ HB1.out).mono ?_
   rintro r wz ⟨rfl, hbz⟩
   have HBZ := hd_ (bt HB1.out hbz)
   clear hbz
   go_wp2_with fail
   go_ret
   exact ⟨rfl, HBZ.out⟩
 have hlI : ¬ (4096 : Int) < (line.size : Int) + word.size := by omega
 have htI : ¬ (1024 : Int) < (vt.size : Int) := by omega
 obtain ⟨xa, hxa⟩ : ∃ xa, xa = (readA line.data.toList).getD Az := ⟨_, rfl⟩
 obtain ⟨e1, he1⟩ : ∃ e1, e1 = eW (readA line.data.toList) := ⟨_, rfl⟩
 obtain ⟨xv, hxv⟩ : ∃ xv, xv = (readV word.data.toList).getD zV := ⟨_, rfl⟩
 obtain ⟨e2, he2⟩ : ∃ e2, e2 = eW (readV word.data.toList) := ⟨_, rfl⟩
 have HRA := hd_ (fun (W : World) (hW : Below w.heap.size w W) => (readActE_any line (by omega) W (HL.out.ext hW)).mono (fun r w' h => (⟨h.1.form, h.2⟩ : (∃ P pc, r = .returned (.tuple #[((readA line.data.toList).getD Az).agg P pc, .int .i64 (eW (readA line.data.toList))]) ∧ VRow w' P ((readA line.data.toList).getD Az).row) ∧ Below W.heap.size W w')))
 have HRB := hd_ (fun (W : World) (hW : Below w.heap.size w W) => (refreadact_any line (by omega) W (HL.out.ext hW)).mono (fun r w' h => (⟨h.1.form, h.2⟩ : (∃ P pc, r = .returned (.tuple #[((readA line.data.toList).getD Az).agg P pc, .int .i64 (eW (readA line.data.toList))]) ∧ VRow w' P ((readA line.data.toList).getD Az).row) ∧ Below W.heap.size W w')))
 have HWA := hd_ (fun (W : World) (hW : Below w.heap.size w W) => scriptReadValue_any word (by omega) W (HL.out.ext hW))
 have HWB := hd_ (fun (W : World) (hW : Below w.heap.size w W) => refReadValue_any word (by omega) W (HL.out.ext hW).tabs)
 rw [readP_form, ← hxv, ← he2] at HWA HWB
 rw [← hxa, ← he1] at HRA HRB
 clear hxa he1 hxv he2 hlw htv hz1 hz2
 obtain ⟨d, k, tb, row, n, m, q, nm⟩ := xa
 obtain ⟨uk, un, ur, ut⟩ := xv
 have HSA := hd_ (fun (A B : Option Addr) (c e : Nat) (W : World) (hr : VRow W A row) (hs : VRow W B row) => same1_yes ⟨d, k, tb, row, n, m, q, nm⟩ A B c e W hr hs)
 unfold Ac.agg at HRA HRB HSA
 unfold V.agg at HWA HWB
 simp only at HRA HRB HSA HWA HWB
 go_wp2_with fail
 refine (HRA.out _ HB1.out).mono ?_
 rintro r w2 ⟨⟨P, pc, rfl, hvr⟩, hb2⟩
 have hbn : Below w2.heap.size w2 (w2.alloc (.cells #[.int .u8 d, .int .u8 k, .int .i64 tb, .slice P row.length pc, .int .i64 n, .int .i64 m, .int .i64 q, .string nm] 42)) := bel1 _ _
 have HB2 := hd_ (bt HB1.out (bt hb2 hbn))
 have HK2 := hd_ (HK1.out.ext (bt hb2 hbn))
 have HA2 := hd_ (Blk.new w2 #[.int .u8 d, .int .u8 k, .int .i64 tb, .slice P row.length pc, .int .i64 n, .int .i64 m, .int .i64 q, .string nm] 42)
 have HP2 := hd_ (hvr.ext hbn)
 clear hvr hb2 hbn HRA HK1 HB1 bl y0 y1 y2 y3 hlI htI
 go_upto_region 4 with fail
 generalize w2.alloc (.cells #[.int .u8 d, .int .u8 k, .int .i64 tb, .slice P row.length pc, .int .i64 n, .int .i64 m, .int .i64 q, .string nm] 42) = w3 at HB2 HK2 HA2 HP2 ⊢
 generalize w2.heap.size = q2 at HA2 ⊢
 go_wp2_with fail
 refine (HRB.out _ HB2.out).mono ?_
 rintro r w4 ⟨⟨P', pc', rfl, hvr⟩, hb2⟩
 have hbn : Below w4.heap.size w4 (w4.alloc (.cells #[.int .u8 d, .int .u8 k, .int .i64 tb, .slice P' row.length pc', .int .i64 n, .int .i64 m, .int .i64 q, .string nm] 42)) := bel1 _ _
 have HB4 := hd_ (bt HB2.out (bt hb2 hbn))
 have HK4 := hd_ (HK2.out.ext (bt hb2 hbn))
 have HA4 := hd_ (HA2.out.ext (bt hb2 hbn))
 have HP4 := hd_ (HP2.out.ext (bt hb2 hbn))
 have HC4 := hd_ (Blk.new w4 #[.int .u8 d, .int .u8 k, .int .i64 tb, .slice P' row.length pc', .int .i64 n, .int .i64 m, .int .i64 q, .string nm] 42)
 have HQ4 := hd_ (hvr.ext hbn)
 clear hvr hb2 hbn HRB HK2 HB2 HA2 HP2
 go_upto_region 5 with fail
 generalize w4.alloc (.cells #[.int .u8 d, .int .u8 k, .int .i64 tb, .slice P' row.length pc', .int .i64 n, .int .i64 m, .int .i64 q, .string nm] 42) = w5 at HB4 HK4 HA4 HP4 HC4 HQ4 ⊢
 generalize w4.heap.size = q4 at HC4 ⊢
 go_wp2_with fail
 refine (HWA.out _ HB4.out).mono ?_
 rintro r w6 ⟨rfl, hb2⟩
 have hbn : Below w6.heap.size w6 (w6.alloc (.cells #[.int .u8 uk, .int .i64 un, .int .u64 ur, .string ut] 48)) := bel1 _ _
 have HB6 := hd_ (bt HB4.out (bt hb2 hbn))
 have HK6 := hd_ (HK4.out.ext (bt hb2 hbn))
 have HA6 := hd_ (HA4.out.ext (bt hb2 hbn))
 have HP6 := hd_ (HP4.out.ext (bt hb2 hbn))
 have HC6 := hd_ (HC4.out.ext (bt hb2 hbn))
 have HQ6 := hd_ (HQ4.out.ext (bt hb2 hbn))
 have HV6 := hd_ (Blk.new w6 #[.int .u8 uk, .int .i64 un, .int .u64 ur, .string ut] 48)
 clear hb2 hbn HWA HK4 HB4 HA4 HP4 HC4 HQ4
 go_upto_region 6 with fail
 generalize w6.alloc (.cells #[.int .u8 uk, .int .i64 un, .int .u64 ur, .string ut] 48) = w7 at HB6 HK6 HA6 HP6 HC6 HQ6 HV6 ⊢
 generalize w6.heap.size = q6 at HV6 ⊢
 go_wp2_with fail
 refine (HWB.out _ HB6.out).mono ?_
 rintro r w8 ⟨rfl, hb2⟩
 have hbn : Below w8.heap.size w8 (w8.alloc (.cells #[.int .u8 uk, .int .i64 un, .int .u64 ur, .string ut] 48)) := bel1 _ _
 have HB8 := hd_ (bt HB6.out (bt hb2 hbn))
 have HK8 := hd_ (HK6.out.ext (bt hb2 hbn))
 have HA8 := hd_ (HA6.out.ext (bt hb2 hbn))
 have HP8 := hd_ (HP6.out.ext (bt hb2 hbn))
 have HC8 := hd_ (HC6.out.ext (bt hb2 hbn))
 have HQ8 := hd_ (HQ6.out.ext (bt hb2 hbn))
 have HV8 := hd_ (HV6.out.ext (bt hb2 hbn))
 have HU8 := hd_ (Blk.new w8 #[.int .u8 uk, .int .i64 un, .int .u64 ur, .string ut] 48)
 clear hb2 hbn HWB HK6 HB6 HA6 HP6 HC6 HQ6 HV6
 go_upto_region 7 with fail
 generalize w8.alloc (.cells #[.int .u8 uk, .int .i64 un, .int .u64 ur, .string ut] 48) = w9 at HB8 HK8 HA8 HP8 HC8 HQ8 HV8 HU8 ⊢
 generalize w8.heap.size = q8 at HU8 ⊢
 refine region_grow [false, false, false, false, false, false, true, false, false, false, false, false, false, false, false, false, false, false, false, false, false, false, false, false, false, false, false, false, false, false, false, false, false, false, false, false, false, false, false, false, false, false, false, false, false, false, false, false, true, true, true, true, true, true, true, true, true, true, true, true, true, true, true, true, true, true, true, true, true, true, true, true, true, true, true, true] [48, 49, 50, 51, 52, 53, 54, 55, 56, 57, 58, 59, 60, 61, 62, 63, 64, 65, 66, 67, 68, 69, 70, 71, 72, 73, 74, 75, 6] [.val (.agg #[.int .u8 d, .int .u8 k, .int .i64 tb, .slice P row.length pc, .int .i64 n, .int .i64 m, .int .i64 q, .string nm]), .val (.agg #[.int .u8 d, .int .u8 k, .int .i64 tb, .slice P' row.length pc', .int .i64 n, .int .i64 m, .int .i64 q, .string nm]), .val (.bool true), .val (.bool true), .val (.int .i64 e1), .val (.int .i64 e1), .val (.bool true), .val (.bool true), .val (.bool true), .val (.agg #[.int .u8 uk, .int .i64 un, .int .u64 ur, .string ut]), .val (.agg #[.int .u8 uk, .int .i64 un, .int .u64 ur, .string ut]), .val (.bool true), .val (.bool true), .val (.bool true), .val (.int .i64 e2), .val (.int .i64 e2), .val (.bool true), .val (.bool true), .val (.bool true), .val (.agg #[.int .u8 vk, .int .i64 vn, .int .u64 vr, .string vt]), .val (.string VT), .val (.agg #[.int .u8 vk, .int .i64 vn, .int .u64 vr, .string vt]), .val (.string VT), .val (.bool true), .val (.bool true), .val (.bool true), .val (.bool true), .val (.bool true), .val (.bool true)] [28] (by kernel_rfl) (by kernel_rfl) (by kernel_rfl) (by kernel_rfl) (by kernel_rfl) ⟨?_, ?_, ?_, ?_, ?_, ?_, ?_, ?_, ?_, ?_, ?_, ?_, ?_, ?_, ?_, ?_, ?_, ?_, ?_, ?_, ?_, ?_, ?_, ?_, ?_, ?_, ?_, ?_, ?_, trivial⟩ ?done7
 case done7 =>
  intro z wa hba
  simp only [StepGoal, overlay, upd, cond_true, cond_false, List.getD_cons_zero, List.getD_cons_succ, Nat.zero_add, Nat.reduceAdd, Nat.reduceEqDiff, reduceIte]
  have HBa := hd_ (bt HB8.out hba)
  clear hba HK8 HA8 HP8 HC8 HQ8 HV8 HU8 HB8
  go_wp2_with fail
  go_ret
  exact ⟨rfl, HBa.out⟩
 all_goals
  intro z wa hba
  have heq := eql_eq uk un ur ut
  have hbw := bt HB8.out hba
  have hpa := HP8.out.ext hba
  have hqa := HQ8.out.ext hba
  obtain ⟨a8, a0, a1, a2, a3, a4, a5, a6, a7⟩ := blkA (HA8.out.ext hba)
  obtain ⟨c8, c0, c1, c2, c3, c4, c5, c6, c7⟩ := blkA (HC8.out.ext hba)
  obtain ⟨bl, y0, y1, y2, y3⟩ := blk4u (HK8.out.ext hba)
  obtain ⟨vl, v0, v1, v2, v3⟩ := blk4u (HV8.out.ext hba)
  obtain ⟨ul, u0, u1, u2, u3⟩ := blk4u (HU8.out.ext hba)
  intro K hK
  rw [if_pos (by rfl)]; simp only [overlay, upd, cond_true, cond_false, List.getD_cons_zero, List.getD_cons_succ, Nat.reduceEqDiff, reduceIte]
  go_simp
  first
   | exact hK.out _ _ (Below.refl _ _) rfl
   | ((with_reducible refine (HSA.out _ _ _ _ _ hpa hqa).mono ?_); rintro e wb ⟨rfl, hbb⟩; go_wp2_with fail; exact hK.out _ _ hbb rfl)
   | ((with_reducible refine (HVA.out _ hbw).mono ?_); rintro e wb ⟨rfl, hbb⟩; go_wp2_with fail; exact hK.out _ _ hbb rfl)
   | ((with_reducible refine (HVB.out _ hbw).mono ?_); rintro e wb ⟨rfl, hbb⟩; go_wp2_with fail; exact hK.out _ _ hbb rfl)
   | ((with_reducible refine (HAL.out _ hbw).mono ?_); rintro e wb ⟨rfl, hbb⟩; go_wp2_with fail; exact hK.out _ _ hbb rfl)
end Go.Proofs.YtfekohonidggjaaGreatDoor
namespace Go.Proofs.YtfekohonidggjaaGreatDoor.cardScriptWords
open Go.ChangeShapes Go.WideShapes Go.ChangeAt Go.RowKit Go.Deep

set_option maxRecDepth 100000 in
theorem contract (H : Type) (enc : TypeId × Value → H) (W : World) (base : Nat) (args : Array Value) (ds gs : List (DataW H)) (before : List MemPlace)
  (hval : ∀ (j : Nat) t v, Tryz.f5.params[j]? = some t → args[j]? = some v → Value.okWide Tryz.prog W .any base t v)
  (hW : DataW.Whole enc Tryz.prog Tryz.f5.params.toList Rows.scriptWordsSpec.vars false W args.toList ds gs before)
  (hsz : (DataW.weightsEach Tryz.prog (Tryz.f5.params.toList ++ (OpenSpec.ofChange Rows.scriptWordsSpec).bare.plain.varTypes Tryz.prog) (ds ++ gs)).all (· ≤ reachBytes) = true)
  (hsh : W.ShapedOpen Tryz.prog)
  (hL : laidMetH Tryz.prog Rows.scriptWordsRow.laid W) :
  Calls Tryz.prog 5 args W fun e W' => ∃ v, e = .returned v ∧ Rows.scriptWordsSpec.post enc Tryz.prog Tryz.f5 false true false false W args v W' := by
 have hT : LayS W := lays_of_list hL hsh
 have hW' := hW
 obtain ⟨p, q, hA0, hV, rfl, hfz, hnd⟩ := hW
 have hA : DataW.TrodAll enc Tryz.prog W 0 (fun _ => true) true Tryz.f5.params.toList args.toList ds p := hA0
 clear hA0
 obtain ⟨rfl, rfl⟩ := trodVars_none hV
 have hwt : ∀ (j : Nat) (t : TypeId) (d : DataW H), Tryz.f5.params.toList[j]? = some t → ds[j]? = some d → ∀ n ∈ d.weights Tryz.prog t, n ≤ reachBytes := by
  intro j t d ht hd n hn
  have hj : (Tryz.f5.params.toList ++ (OpenSpec.ofChange Rows.scriptWordsSpec).bare.plain.varTypes Tryz.prog)[j]? = some t := by
   rw [List.getElem?_append_left (List.getElem?_eq_some_iff.1 ht).1]; exact ht
  have hd' : (ds ++ [])[j]? = some d := by rw [List.append_nil]; exact hd
  have := List.all_eq_true.1 hsz n (DataW.weights_mem_each hj hd' n hn)
  simpa using this
 rw [Tryz.params5] at hA hval hwt
 obtain ⟨v0, vs0, d0, ds0, p0, q0, hargs, rfl, rfl, h0, r0⟩ := trodAll_cons hA
 obtain ⟨v1, vs1, d1, ds1, p1, q1, rfl, rfl, rfl, h1, r1⟩ := trodAll_cons r0
 obtain ⟨v2, vs2, d2, ds2, p2, q2, rfl, rfl, rfl, h2, r2⟩ := trodAll_cons r1
 obtain ⟨rfl, rfl, rfl⟩ := trodAll_nil r2
 obtain rfl : args = #[v0, v1, v2] := by cases args; simp_all
 obtain ⟨s0, rfl, rfl, rfl, hs0⟩ := ChangeMaps.open_string Tryz.underlying9 (hval 0 9 v0 rfl rfl) h0
 have hz0 : s0.size ≤ 140737488355328 := by
  have h1 := hwt 0 9 _ rfl rfl s0.data.toList.length (by simp [DataW.weights])
  have h2 : s0.data.toList.length = s0.size := by simp
  have h3 : reachBytes ≤ 140737488355328 := by decide
  omega
 obtain ⟨s1, rfl, rfl, rfl, hs1⟩ := ChangeMaps.open_string Tryz.underlying9 (hval 1 9 v1 rfl rfl) h1
 have hz1 : s1.size ≤ 140737488355328 := by
  have h1 := hwt 1 9 _ rfl rfl s1.data.toList.length (by simp [DataW.weights])
  have h2 : s1.data.toList.length = s1.size := by simp
  have h3 : reachBytes ≤ 140737488355328 := by decide
  omega
 obtain ⟨cs2, rfl, _⟩ := okWide_struct Tryz.underlying48 (hval 2 48 v2 rfl rfl)
 obtain ⟨fuel2, hf2⟩ := h2
 obtain ⟨x2, hwf2, e2, _⟩ := open_V (cs := cs2.toList) hf2 (hwt 2 48 d2 rfl rfl)
 have e2' : cs2 = #[.int .u8 x2.k, .int .i64 x2.n, .int .u64 x2.r, .string x2.t] := by rw [← Array.toArray_toList (xs := cs2), e2]
 subst e2'
 refine (swords_walk s0 s1 x2.k x2.n x2.r x2.t hwf2 W hz0 hz1 hT).mono fun e W' ⟨he, hb⟩ => ?_
 subst he
 refine ⟨_, rfl, post_law hW' rfl rfl ?_ rfl rfl rfl hb⟩
 rw [Tryz.params5]
 intro t ht
 simp only [List.mem_cons, List.not_mem_nil, or_false] at ht
 rcases ht with rfl | rfl | rfl <;> exact ⟨by kernel_rfl, of_decide_eq_true (by kernel_rfl)⟩

theorem laid_met (os : Os) : laidMet Tryz.prog Rows.scriptWordsRow.laid ((laidWorldS os).forCall (fun _ _ => 0) ⟨#[], #[.string ⟨#[]⟩, .string ⟨#[]⟩, (.agg #[.int .u8 0, .int .i64 0, .int .u64 0, .string ⟨#[]⟩])], []⟩).memory :=
 laid_metS os _
theorem reads (os : Os) {H : Type} (enc : TypeId × Value → H) : ∃ places, DataW.whole enc Tryz.prog ((laidWorldS os).forCall (fun _ _ => 0) ⟨#[], #[.string ⟨#[]⟩, .string ⟨#[]⟩, (.agg #[.int .u8 0, .int .i64 0, .int .u64 0, .string ⟨#[]⟩])], []⟩).memory Tryz.f5.params.toList Rows.scriptWordsSpec.vars false (#[.string ⟨#[]⟩, .string ⟨#[]⟩, (.agg #[.int .u8 0, .int .i64 0, .int .u64 0, .string ⟨#[]⟩])] : Array Value).toList 8 = some ([.lit (.string []), .lit (.string []), (.agg [.lit (.int .u8 0), .lit (.int .i64 0), .lit (.int .u64 0), .lit (.string [])])], [], places) :=
 ⟨[], by kernel_rfl⟩

set_option maxRecDepth 100000 in
theorem lifted (os : Os) (started : os.Started) (H : Type) (enc : TypeId × Value → H) (F : Stop.Interp) :
  ReturnsInHanded {} Tryz.checked os 5 .any ((OpenSpec.ofChange Rows.scriptWordsSpec).preRow enc Tryz.prog Tryz.f5 Rows.scriptWordsRow.domain false Rows.scriptWordsRow.laid) (((OpenSpec.ofChange Rows.scriptWordsSpec).at F).post enc Tryz.prog Tryz.f5 false true false false) := by
 obtain ⟨places, hx⟩ := reads os enc
 refine returnsInHanded_of_row (C := Tryz.checked) (s := OpenSpec.ofChange Rows.scriptWordsSpec) own started (by kernel_rfl) Tryz.func5
  (witness_row_at (enc := enc) (C := Tryz.checked) false (laidWorldS os) #[.string ⟨#[]⟩, .string ⟨#[]⟩, (.agg #[.int .u8 0, .int .i64 0, .int .u64 0, .string ⟨#[]⟩])] rfl (by kernel_rfl) (by kernel_rfl) (by kernel_rfl)
    (OpenSpec.preRow_of_cond 8 hx (by kernel_rfl) (fun k hk => by cases hk) (by kernel_rfl) (laid_met os))) ?_
 intro W base args ds gs before hval hW _ _ hsz hL hsh _
 exact contract H enc W base args ds gs before hval hW hsz hsh hL

end Go.Proofs.YtfekohonidggjaaGreatDoor.cardScriptWords
