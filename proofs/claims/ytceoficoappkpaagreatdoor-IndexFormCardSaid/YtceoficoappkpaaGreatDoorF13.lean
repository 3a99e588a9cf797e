/- Texts joined by a tool: contracts and walks of this claim. -/
import Derived.Test.YtceoficoappkpaaGreatDoorF12
namespace Go.Proofs.YtceoficoappkpaaGreatDoor.cardIndexForm
open Go.ChangeShapes Go.WideShapes Go.ChangeAt Go.RowKit Go.Deep

set_option maxRecDepth 100000 in
theorem contract (H : Type) (enc : TypeId × Value → H) (W : World) (base : Nat) (args : Array Value) (ds gs : List (DataW H)) (before : List MemPlace)
  (hval : ∀ (j : Nat) t v, Tryz.f5.params[j]? = some t → args[j]? = some v → Value.okWide Tryz.prog W .any base t v)
  (hW : DataW.Whole enc Tryz.prog Tryz.f5.params.toList Rows.indexFormSpec.vars false W args.toList ds gs before)
  (hsz : (DataW.weightsEach Tryz.prog (Tryz.f5.params.toList ++ (OpenSpec.ofChange Rows.indexFormSpec).bare.plain.varTypes Tryz.prog) (ds ++ gs)).all (· ≤ reachBytes) = true)
  (hsh : W.ShapedOpen Tryz.prog)
  (hL : laidMetH Tryz.prog Rows.indexFormRow.laid W) :
  Calls Tryz.prog 5 args W fun e W' => ∃ v, e = .returned v ∧ Rows.indexFormSpec.post enc Tryz.prog Tryz.f5 false true false false W args v W' := by
 have hT : LayX W := layx_of_list hL hsh
 have hW' := hW
 obtain ⟨p, q, hA0, hV, rfl, hfz, hnd⟩ := hW
 have hA : DataW.TrodAll enc Tryz.prog W 0 (fun _ => true) true Tryz.f5.params.toList args.toList ds p := hA0
 clear hA0
 obtain ⟨rfl, rfl⟩ := trodVars_none hV
 have hwt : ∀ (j : Nat) (t : TypeId) (d : DataW H), Tryz.f5.params.toList[j]? = some t → ds[j]? = some d → ∀ n ∈ d.weights Tryz.prog t, n ≤ reachBytes := by
  intro j t d ht hd n hn
  have hj : (Tryz.f5.params.toList ++ (OpenSpec.ofChange Rows.indexFormSpec).bare.plain.varTypes Tryz.prog)[j]? = some t := by
   rw [List.getElem?_append_left (List.getElem?_eq_some_iff.1 ht).1]; exact ht
  have hd' : (ds ++ [])[j]? = some d := by rw [List.append_nil]; exact hd
  have := List.all_eq_true.1 hsz n (DataW.weights_mem_each hj hd' n hn)
  simpa using this
 rw [Tryz.params5] at hA hval hwt
 obtain ⟨v0, vs0, d0, ds0, p0, q0, hargs, rfl, rfl, h0, r0⟩ := trodAll_cons hA
 obtain ⟨v1, vs1, d1, ds1, p1, q1, rfl, rfl, rfl, h1, r1⟩ := trodAll_cons r0
 obtain ⟨v2, vs2, d2, ds2, p2, q2, rfl, rfl, rfl, h2, r2⟩ := trodAll_cons r1
 obtain ⟨v3, vs3, d3, ds3, p3, q3, rfl, rfl, rfl, h3, r3⟩ := trodAll_cons r2
 obtain ⟨rfl, rfl, rfl⟩ := trodAll_nil r3
 obtain rfl : args = #[v0, v1, v2, v3] := by cases args; simp_all
 obtain ⟨cs0, rfl, _⟩ := okWide_struct Tryz.underlying24 (hval 0 24 v0 rfl rfl)
 obtain ⟨fuel0, hf0⟩ := h0
 obtain ⟨l0, A0, c0, e0, hs0⟩ := open_S (cs := cs0.toList) hf0 (hwt 0 24 d0 rfl rfl)
 have e0' : cs0 = #[.slice A0 l0.length c0] := by rw [← Array.toArray_toList (xs := cs0), e0]
 subst e0'
 obtain ⟨x1, rfl, rfl, rfl, wx1⟩ := open_int Tryz.underlying3 (hval 1 3 v1 rfl rfl) h1
 obtain ⟨cs2, rfl, _⟩ := okWide_struct Tryz.underlying47 (hval 2 47 v2 rfl rfl)
 obtain ⟨fuel2, hf2⟩ := h2
 obtain ⟨x2, hwf2, e2, _⟩ := open_V (cs := cs2.toList) hf2 (hwt 2 47 d2 rfl rfl)
 have e2' : cs2 = #[.int .u8 x2.k, .int .i64 x2.n, .int .u64 x2.r, .string x2.t] := by rw [← Array.toArray_toList (xs := cs2), e2]
 subst e2'
 obtain ⟨s3, rfl, rfl, rfl, hs3⟩ := ChangeMaps.open_string Tryz.underlying9 (hval 3 9 v3 rfl rfl) h3
 have hz3 : s3.size ≤ 140737488355328 := by
  have h1 := hwt 3 9 _ rfl rfl s3.data.toList.length (by simp [DataW.weights])
  have h2 : s3.data.toList.length = s3.size := by simp
  have h3 : reachBytes ≤ 140737488355328 := by decide
  omega
 refine (ixform_walk l0 A0 c0 x1 x2 s3 W hT hs0 hwf2 hz3).mono fun e W' ⟨he, hb⟩ => ?_
 subst he
 refine ⟨_, rfl, post_law hW' rfl rfl ?_ rfl rfl rfl hb⟩
 rw [Tryz.params5]
 intro t ht
 simp only [List.mem_cons, List.not_mem_nil, or_false] at ht
 rcases ht with rfl | rfl | rfl | rfl <;> exact ⟨by kernel_rfl, of_decide_eq_true (by kernel_rfl)⟩

theorem laid_met (os : Os) : laidMet Tryz.prog Rows.indexFormRow.laid ((laidWorld os).forCall (fun _ _ => 0) ⟨#[], #[(.agg #[.slice none 0 0]), .int .i64 0, (.agg #[.int .u8 0, .int .i64 0, .int .u64 0, .string ⟨#[]⟩]), .string ⟨#[]⟩], []⟩).memory :=
 laidMet_of_run' 8 (by kernel_rfl) (by kernel_rfl)
theorem reads (os : Os) {H : Type} (enc : TypeId × Value → H) : ∃ places, DataW.whole enc Tryz.prog ((laidWorld os).forCall (fun _ _ => 0) ⟨#[], #[(.agg #[.slice none 0 0]), .int .i64 0, (.agg #[.int .u8 0, .int .i64 0, .int .u64 0, .string ⟨#[]⟩]), .string ⟨#[]⟩], []⟩).memory Tryz.f5.params.toList Rows.indexFormSpec.vars false (#[(.agg #[.slice none 0 0]), .int .i64 0, (.agg #[.int .u8 0, .int .i64 0, .int .u64 0, .string ⟨#[]⟩]), .string ⟨#[]⟩] : Array Value).toList 8 = some ([(.agg [.nil]), .lit (.int .i64 0), (.agg [.lit (.int .u8 0), .lit (.int .i64 0), .lit (.int .u64 0), .lit (.string [])]), .lit (.string [])], [], places) :=
 ⟨[], by kernel_rfl⟩

set_option maxRecDepth 100000 in
theorem lifted (os : Os) (started : os.Started) (H : Type) (enc : TypeId × Value → H) (F : Stop.Interp) :
  ReturnsInHanded {} Tryz.checked os 5 .any ((OpenSpec.ofChange Rows.indexFormSpec).preRow enc Tryz.prog Tryz.f5 Rows.indexFormRow.domain false Rows.indexFormRow.laid) (((OpenSpec.ofChange Rows.indexFormSpec).at F).post enc Tryz.prog Tryz.f5 false true false false) := by
 obtain ⟨places, hx⟩ := reads os enc
 refine returnsInHanded_of_row (C := Tryz.checked) (s := OpenSpec.ofChange Rows.indexFormSpec) own started (by kernel_rfl) Tryz.func5
  (witness_row_at (enc := enc) (C := Tryz.checked) false (laidWorld os) #[(.agg #[.slice none 0 0]), .int .i64 0, (.agg #[.int .u8 0, .int .i64 0, .int .u64 0, .string ⟨#[]⟩]), .string ⟨#[]⟩] rfl (by kernel_rfl) (by kernel_rfl) (by kernel_rfl)
    (OpenSpec.preRow_of_cond 8 hx (by kernel_rfl) (fun k hk => by cases hk) (by kernel_rfl) (laid_met os))) ?_
 intro W base args ds gs before hval hW _ _ hsz hL hsh _
 exact contract H enc W base args ds gs before hval hW hsz hsh hL

end Go.Proofs.YtceoficoappkpaaGreatDoor.cardIndexForm
