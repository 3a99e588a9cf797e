/- Joined texts. -/
import Derived.Test.YtfekohonidggjaaGreatDoorR7
namespace Go.Proofs.YtfekohonidggjaaGreatDoor
open Go.RowKit
set_option maxRecDepth 100000
set_option maxHeartbeats 6400000
def rdSt : Rs → Ls
 | .ok st => st
 | .bad _ => Ls0
def rdN : Rs → Int
 | .ok _ => 0
 | .bad n => n
def rdE : Rs → Int
 | .ok _ => 0
 | .bad _ => 310
def RdF (R : Rs) (r : Ending) (w' : World) : Prop := ∃ T A kT L C kL, r = .returned (.tuple #[.agg #[.slice A (List.length T) kT, .int .i64 (rdSt R).seg, .int .i64 (rdSt R).bd, .int .i64 (rdSt R).r0, .int .i64 (rdSt R).r1, .int .i64 (rdSt R).r2], .slice C (List.length L) kL, .int .i64 (rdN R), .int .i64 (rdE R)]) ∧ TRow w' A kT T ∧ AmRow w' C L ∧ T.map Ta.z = (rdSt R).ts ∧ L.map (·.a) = (rdSt R).l
theorem ReadQ.form {text : ByteArray} {r : Ending} {w' : World} (h : ReadQ text r w') (hz : text.size ≤ 1048576) : RdF (goP Ls0 (spW 10 text.data.toList)) r w' := by
 unfold ReadQ at h
 rw [if_neg (by omega)] at h
 cases hg : goP Ls0 (spW 10 text.data.toList) with
 | ok st =>
  rw [hg] at h
  obtain ⟨T, A, kT, L, C, kL, h1, h2, h3, h4, h5⟩ := h
  exact ⟨T, A, kT, L, C, kL, h1, h2, h3, h4, h5⟩
 | bad n =>
  rw [hg] at h
  exact ⟨[], none, 0, [], none, 0, h, (RdI.none_ w').trow (by simp), (RdI.none_ w').arow (by simp), rfl, rfl⟩
theorem sreads_walk (text : ByteArray) (w : World) (hz : text.size ≤ 140737488355328) (hL : LayS w) :
  Calls Tryz.prog 4 #[.string text] w fun r w' => r = .returned (.bool true) ∧ Below w.heap.size w w' := by
 have HAL := hd_ (fun (W : World) (hW : Below w.heap.size w W) => alive_any W (hL.ext hW))
 by_cases hlw : 16384 < text.size
 · have hlI : (16384 : Int) < text.size := by omega
   have HB1 : Hid (Below w.heap.size w w) := Below.refl _ _
   clear hlw hL hz
   go_enter Tryz.func4, Tryz.ntmps4
   go_wp2_with fail
   refine (HAL.out _ HB1.out).mono ?_
   rintro r wz ⟨rfl, hbz⟩
   have HBZ := hd_ (bt HB1.out hbz)
   clear hbz
   go_wp2_with fail
   go_ret
   exact ⟨rfl, HBZ.out⟩
 have hlI : ¬ (16384 : Int) < text.size := by omega
 obtain ⟨R, hR⟩ : ∃ R, R = goP Ls0 (spW 10 text.data.toList) := ⟨_, rfl⟩
 have HRA := hd_ (fun (W : World) (hW : Below w.heap.size w W) => (read_any text W (hL.ext hW)).mono (fun r w' h => (⟨h.1.form (by omega), h.2⟩ : RdF (goP Ls0 (spW 10 text.data.toList)) r w' ∧ Below W.heap.size W w')))
 have HRB := hd_ (fun (W : World) (hW : Below w.heap.size w W) => (refreadS_any text (by omega) W (hL.ext hW)).mono (fun r w' h => (⟨h.1.form (by omega), h.2⟩ : RdF (goP Ls0 (spW 10 text.data.toList)) r w' ∧ Below W.heap.size W w')))
 rw [← hR] at HRA HRB
 clear hR hlw hL hz
 unfold RdF at HRA HRB
 obtain ⟨n0, hn0⟩ : ∃ n, n = rdN R := ⟨_, rfl⟩
 obtain ⟨e0, he0⟩ : ∃ n, n = rdE R := ⟨_, rfl⟩
 rw [← hn0, ← he0] at HRA HRB
 clear hn0 he0
 generalize rdSt R = st at HRA HRB
 obtain ⟨seg, bd, r0, r1, r2, sts, sl, sn, sacts⟩ := st
 simp only at HRA HRB
 clear R
 go_enter Tryz.func4, Tryz.ntmps4
 go_wp2_with fail
 refine (HRA.out w (Below.refl _ _)).mono ?_
 rintro r w2 ⟨⟨T, A, kT, L, C, kL, rfl, hT, hA, hTz, hLa⟩, hb2⟩
 have hbn : Below w2.heap.size w2 (w2.alloc (.cells #[.slice A T.length kT, .int .i64 seg, .int .i64 bd, .int .i64 r0, .int .i64 r1, .int .i64 r2] 27)) := bel1 _ _
 have HB3 := hd_ (bt hb2 hbn)
 have HK3 := hd_ (Blk.new w2 #[.slice A T.length kT, .int .i64 seg, .int .i64 bd, .int .i64 r0, .int .i64 r1, .int .i64 r2] 27)
 have HT3 := hd_ (hT.ext hbn)
 have HA3 := hd_ (hA.ext hbn)
 have HTz := hd_ hTz
 have HLa := hd_ hLa
 clear hb2 hbn hT hA hTz hLa HRA
 go_upto_region 4 with fail
 generalize w2.alloc (.cells #[.slice A T.length kT, .int .i64 seg, .int .i64 bd, .int .i64 r0, .int .i64 r1, .int .i64 r2] 27) = w3 at HB3 HK3 HT3 HA3 ⊢
 generalize w2.heap.size = q3 at HK3 ⊢
 go_wp2_with fail
 refine (HRB.out w3 HB3.out).mono ?_
 rintro r w4 ⟨⟨T', A', kT', L', C', kL', rfl, hT, hA, hTz, hLa⟩, hb2⟩
 have hbn : Below w4.heap.size w4 (w4.alloc (.cells #[.slice A' T'.length kT', .int .i64 seg, .int .i64 bd, .int .i64 r0, .int .i64 r1, .int .i64 r2] 27)) := bel1 _ _
 have hb' := bt hb2 hbn
 have HB5 := hd_ (bt HB3.out hb')
 have HK5 := hd_ (HK3.out.ext hb')
 have HN5 := hd_ (Blk.new w4 #[.slice A' T'.length kT', .int .i64 seg, .int .i64 bd, .int .i64 r0, .int .i64 r1, .int .i64 r2] 27)
 have HSM := hd_ (sameC_yes seg bd r0 r1 r2 T T' (same_z (hTz.trans HTz.out.symm)) L L' (HLa.out.trans hLa.symm) A A' C C' kT kT' kL kL' _ (HT3.out.ext hb') (hT.ext hbn) (HA3.out.ext hb') (hA.ext hbn))
 unfold Cf.agg at HSM
 simp only at HSM
 clear hb2 hbn hb' hT hA hTz hLa HRB HB3 HK3 HT3 HA3 HTz HLa
 go_upto_region 5 with fail
 generalize w4.alloc (.cells #[.slice A' T'.length kT', .int .i64 seg, .int .i64 bd, .int .i64 r0, .int .i64 r1, .int .i64 r2] 27) = w5 at HB5 HK5 HN5 HSM ⊢
 generalize w4.heap.size = q5 at HN5 ⊢
 obtain ⟨d9, d0, d1, d2, d3, d4, d5⟩ := blk6 HK5.out
 obtain ⟨f9, f0, f1, f2, f3, f4, f5⟩ := blk6 HN5.out
 go_wp2_with fail
 refine HSM.out.mono ?_
 rintro r w6 ⟨rfl, hb6⟩
 have HB6 := hd_ (bt HB5.out hb6)
 clear hb6 HSM HK5 HN5 HB5 d9 d0 d1 d2 d3 d4 d5 f9 f0 f1 f2 f3 f4 f5
 go_wp2_with fail
 refine (HAL.out _ HB6.out).mono ?_
 rintro r wz ⟨rfl, hbz⟩
 have HBZ := hd_ (bt HB6.out hbz)
 clear hbz
 go_wp2_with fail
 go_ret
 exact ⟨rfl, HBZ.out⟩
end Go.Proofs.YtfekohonidggjaaGreatDoor
namespace Go.Proofs.YtfekohonidggjaaGreatDoor.cardScriptReads
open Go.ChangeShapes Go.WideShapes Go.ChangeAt Go.RowKit Go.Deep

set_option maxRecDepth 100000 in
theorem contract (H : Type) (enc : TypeId × Value → H) (W : World) (base : Nat) (args : Array Value) (ds gs : List (DataW H)) (before : List MemPlace)
  (hval : ∀ (j : Nat) t v, Tryz.f4.params[j]? = some t → args[j]? = some v → Value.okWide Tryz.prog W .any base t v)
  (hW : DataW.Whole enc Tryz.prog Tryz.f4.params.toList Rows.scriptReadsSpec.vars false W args.toList ds gs before)
  (hsz : (DataW.weightsEach Tryz.prog (Tryz.f4.params.toList ++ (OpenSpec.ofChange Rows.scriptReadsSpec).bare.plain.varTypes Tryz.prog) (ds ++ gs)).all (· ≤ reachBytes) = true)
  (hsh : W.ShapedOpen Tryz.prog)
  (hL : laidMetH Tryz.prog Rows.scriptReadsRow.laid W) :
  Calls Tryz.prog 4 args W fun e W' => ∃ v, e = .returned v ∧ Rows.scriptReadsSpec.post enc Tryz.prog Tryz.f4 false true false false W args v W' := by
 have hT : LayS W := lays_of_list hL hsh
 have hW' := hW
 obtain ⟨p, q, hA0, hV, rfl, hfz, hnd⟩ := hW
 have hA : DataW.TrodAll enc Tryz.prog W 0 (fun _ => true) true Tryz.f4.params.toList args.toList ds p := hA0
 clear hA0
 obtain ⟨rfl, rfl⟩ := trodVars_none hV
 have hwt : ∀ (j : Nat) (t : TypeId) (d : DataW H), Tryz.f4.params.toList[j]? = some t → ds[j]? = some d → ∀ n ∈ d.weights Tryz.prog t, n ≤ reachBytes := by
  intro j t d ht hd n hn
  have hj : (Tryz.f4.params.toList ++ (OpenSpec.ofChange Rows.scriptReadsSpec).bare.plain.varTypes Tryz.prog)[j]? = some t := by
   rw [List.getElem?_append_left (List.getElem?_eq_some_iff.1 ht).1]; exact ht
  have hd' : (ds ++ [])[j]? = some d := by rw [List.append_nil]; exact hd
  have := List.all_eq_true.1 hsz n (DataW.weights_mem_each hj hd' n hn)
  simpa using this
 rw [Tryz.params4] at hA hval hwt
 obtain ⟨v0, vs0, d0, ds0, p0, q0, hargs, rfl, rfl, h0, r0⟩ := trodAll_cons hA
 obtain ⟨rfl, rfl, rfl⟩ := trodAll_nil r0
 obtain rfl : args = #[v0] := by cases args; simp_all
 obtain ⟨s0, rfl, rfl, rfl, hs0⟩ := ChangeMaps.open_string Tryz.underlying9 (hval 0 9 v0 rfl rfl) h0
 have hz0 : s0.size ≤ 140737488355328 := by
  have h1 := hwt 0 9 _ rfl rfl s0.data.toList.length (by simp [DataW.weights])
  have h2 : s0.data.toList.length = s0.size := by simp
  have h3 : reachBytes ≤ 140737488355328 := by decide
  omega
 refine (sreads_walk s0 W hz0 hT).mono fun e W' ⟨he, hb⟩ => ?_
 subst he
 refine ⟨_, rfl, post_law hW' rfl rfl ?_ rfl rfl rfl hb⟩
 rw [Tryz.params4]
 intro t ht
 simp only [List.mem_cons, List.not_mem_nil, or_false] at ht
 obtain rfl := ht
 exact ⟨by kernel_rfl, of_decide_eq_true (by kernel_rfl)⟩

theorem laid_met (os : Os) : laidMet Tryz.prog Rows.scriptReadsRow.laid ((laidWorldS os).forCall (fun _ _ => 0) ⟨#[], #[.string ⟨#[]⟩], []⟩).memory :=
 laid_metS os _
theorem reads (os : Os) {H : Type} (enc : TypeId × Value → H) : ∃ places, DataW.whole enc Tryz.prog ((laidWorldS os).forCall (fun _ _ => 0) ⟨#[], #[.string ⟨#[]⟩], []⟩).memory Tryz.f4.params.toList Rows.scriptReadsSpec.vars false (#[.string ⟨#[]⟩] : Array Value).toList 8 = some ([.lit (.string [])], [], places) :=
 ⟨[], by kernel_rfl⟩

set_option maxRecDepth 100000 in
theorem lifted (os : Os) (started : os.Started) (H : Type) (enc : TypeId × Value → H) (F : Stop.Interp) :
  ReturnsInHanded {} Tryz.checked os 4 .any ((OpenSpec.ofChange Rows.scriptReadsSpec).preRow enc Tryz.prog Tryz.f4 Rows.scriptReadsRow.domain false Rows.scriptReadsRow.laid) (((OpenSpec.ofChange Rows.scriptReadsSpec).at F).post enc Tryz.prog Tryz.f4 false true false false) := by
 obtain ⟨places, hx⟩ := reads os enc
 refine returnsInHanded_of_row (C := Tryz.checked) (s := OpenSpec.ofChange Rows.scriptReadsSpec) own started (by kernel_rfl) Tryz.func4
  (witness_row_at (enc := enc) (C := Tryz.checked) false (laidWorldS os) #[.string ⟨#[]⟩] rfl (by kernel_rfl) (by kernel_rfl) (by kernel_rfl)
    (OpenSpec.preRow_of_cond 8 hx (by kernel_rfl) (fun k hk => by cases hk) (by kernel_rfl) (laid_met os))) ?_
 intro W base args ds gs before hval hW _ _ hsz hL hsh _
 exact contract H enc W base args ds gs before hval hW hsz hsh hL

end Go.Proofs.YtfekohonidggjaaGreatDoor.cardScriptReads
