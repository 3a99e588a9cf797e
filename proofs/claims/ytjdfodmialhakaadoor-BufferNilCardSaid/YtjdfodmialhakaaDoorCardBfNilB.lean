/- BufferNil, for every mark and event that can be read: it answers true, and both read as they did. The two tables of unicode/utf8 start as its text lays them (the card ties them). -/
import Derived.Test.YtjdfodmialhakaaDoorBf14
import Derived.Test.YtjdfodmialhakaaDoorFrame3
namespace Go.Proofs.YtjdfodmialhakaaDoor.cardBufferNil
open Go.ChangeShapes Go.WideShapes Go.ChangeAt Go.RowKit Go.Deep

set_option maxRecDepth 100000 in
theorem contract (H : Type) (enc : TypeId × Value → H) (W : World) (base : Nat) (args : Array Value) (ds gs : List (DataW H)) (before : List MemPlace)
    (hval : ∀ (j : Nat) t v, Tryd.f7.params[j]? = some t → args[j]? = some v → Value.okWide Tryd.prog W .any base t v)
    (hW : DataW.Whole enc Tryd.prog Tryd.f7.params.toList Rows.bufferNilSpec.vars false W args.toList ds gs before)
    (hsz : (DataW.weightsEach Tryd.prog (Tryd.f7.params.toList ++ (OpenSpec.ofChange Rows.bufferNilSpec).bare.plain.varTypes Tryd.prog) (ds ++ gs)).all (· ≤ reachBytes) = true)
    (hL : laidMetH Tryd.prog Rows.bufferNilRow.laid W) :
    Calls Tryd.prog 7 args W fun e W' => ∃ v, e = .returned v ∧ Rows.bufferNilSpec.post enc Tryd.prog Tryd.f7 false true false false W args v W' := by
  have hT : Tabs W := tabs_of_list hL
  have hW' := hW
  obtain ⟨p, q, hA0, hV, rfl, hfz, hnd⟩ := hW
  have hA : DataW.TrodAll enc Tryd.prog W 0 (fun _ => true) true Tryd.f7.params.toList args.toList ds p := hA0
  clear hA0
  obtain ⟨rfl, rfl⟩ := trodVars_none hV
  have hwt : ∀ (j : Nat) (t : TypeId) (d : DataW H), Tryd.f7.params.toList[j]? = some t → ds[j]? = some d → ∀ n ∈ d.weights Tryd.prog t, n ≤ reachBytes := by
    intro j t d ht hd n hn
    have hj : (Tryd.f7.params.toList ++ (OpenSpec.ofChange Rows.bufferNilSpec).bare.plain.varTypes Tryd.prog)[j]? = some t := by
      rw [List.getElem?_append_left (List.getElem?_eq_some_iff.1 ht).1]; exact ht
    have hd' : (ds ++ [])[j]? = some d := by rw [List.append_nil]; exact hd
    have := List.all_eq_true.1 hsz n (DataW.weights_mem_each hj hd' n hn)
    simpa using this
  rw [Tryd.params7] at hA hval hwt
  obtain ⟨v0, vs0, d0, ds0, p0, q0, hargs, rfl, rfl, h0, r0⟩ := trodAll_cons hA
  obtain ⟨v1, vs1, d1, ds1, p1, q1, rfl, rfl, rfl, h1, r1⟩ := trodAll_cons r0
  obtain ⟨rfl, rfl, rfl⟩ := trodAll_nil r1
  obtain rfl : args = #[v0, v1] := by cases args; simp_all
  obtain ⟨cs0, rfl, _⟩ := okWide_struct Tryd.underlying48 (hval 0 48 v0 rfl rfl)
  obtain ⟨fuel0, hf0⟩ := h0
  obtain ⟨x0, A0, B0, c0, k0, hwf0, e0, hl0, hm0⟩ := open_M (cs := cs0.toList) hf0 (hwt 0 48 d0 rfl rfl)
  have e0' : cs0 = mkCells x0 (.slice A0 x0.cs.length c0) (.slice B0 x0.sq.length k0) := by rw [← Array.toArray_toList (xs := cs0), e0]
  subst e0'
  obtain ⟨cs1, rfl, _⟩ := okWide_struct Tryd.underlying52 (hval 1 52 v1 rfl rfl)
  obtain ⟨fuel1, hf1⟩ := h1
  obtain ⟨x1, A1, B1, c1, k1, hwf1, e1, hl1, hm1⟩ := open_E (cs := cs1.toList) hf1 (hwt 1 52 d1 rfl rfl)
  have e1' : cs1 = evCells x1 (.slice A1 x1.bf.length c1) (.slice B1 x1.af.length k1) := by rw [← Array.toArray_toList (xs := cs1), e1]
  subst e1'
  refine (nil_walk x0 A0 B0 x0.cs.length c0 x0.sq.length k0 x1 A1 B1 c1 k1 W hT hl1 hm1).mono fun e W' ⟨he, hb⟩ => ?_
  subst he
  refine ⟨_, rfl, post_law hW' rfl rfl ?_ rfl rfl rfl hb⟩
  rw [Tryd.params7]
  intro t ht
  simp only [List.mem_cons, List.not_mem_nil, or_false] at ht
  rcases ht with rfl | rfl <;> exact ⟨by kernel_rfl, of_decide_eq_true (by kernel_rfl)⟩

theorem laid_met (os : Os) : laidMet Tryd.prog Rows.bufferNilRow.laid ((laidWorld os).forCall (fun _ _ => 0) ⟨#[], #[(.agg #[.int .u8 0, .int .u64 0, .slice none 0 0, .slice none 0 0]), (.agg #[.int .u64 0, .int .i64 0, .int .i64 0, .int .u8 0, .int .i64 0, .slice none 0 0, .slice none 0 0])], []⟩).memory :=
  laidMet_of_run' 8 (by kernel_rfl) (by kernel_rfl)
theorem reads (os : Os) {H : Type} (enc : TypeId × Value → H) : ∃ places, DataW.whole enc Tryd.prog ((laidWorld os).forCall (fun _ _ => 0) ⟨#[], #[(.agg #[.int .u8 0, .int .u64 0, .slice none 0 0, .slice none 0 0]), (.agg #[.int .u64 0, .int .i64 0, .int .i64 0, .int .u8 0, .int .i64 0, .slice none 0 0, .slice none 0 0])], []⟩).memory Tryd.f7.params.toList Rows.bufferNilSpec.vars false (#[(.agg #[.int .u8 0, .int .u64 0, .slice none 0 0, .slice none 0 0]), (.agg #[.int .u64 0, .int .i64 0, .int .i64 0, .int .u8 0, .int .i64 0, .slice none 0 0, .slice none 0 0])] : Array Value).toList 8 = some ([(.agg [.lit (.int .u8 0), .lit (.int .u64 0), .nil, .nil]), (.agg [.lit (.int .u64 0), .lit (.int .i64 0), .lit (.int .i64 0), .agg [.lit (.int .u8 0), .lit (.int .i64 0), .nil, .nil]])], [], places) :=
  ⟨[], by kernel_rfl⟩

set_option maxRecDepth 100000 in
theorem lifted (os : Os) (started : os.Started) (H : Type) (enc : TypeId × Value → H) (F : Stop.Interp) :
    ReturnsInHanded {} Tryd.checked os 7 .any ((OpenSpec.ofChange Rows.bufferNilSpec).preRow enc Tryd.prog Tryd.f7 Rows.bufferNilRow.domain false Rows.bufferNilRow.laid) (((OpenSpec.ofChange Rows.bufferNilSpec).at F).post enc Tryd.prog Tryd.f7 false true false false) := by
  obtain ⟨places, hx⟩ := reads os enc
  refine returnsInHanded_of_row (C := Tryd.checked) (s := OpenSpec.ofChange Rows.bufferNilSpec) own started (by kernel_rfl) Tryd.func7
    (witness_row_at (enc := enc) (C := Tryd.checked) false (laidWorld os) #[(.agg #[.int .u8 0, .int .u64 0, .slice none 0 0, .slice none 0 0]), (.agg #[.int .u64 0, .int .i64 0, .int .i64 0, .int .u8 0, .int .i64 0, .slice none 0 0, .slice none 0 0])] rfl (by kernel_rfl) (by kernel_rfl) (by kernel_rfl)
      (OpenSpec.preRow_of_cond 8 hx (by kernel_rfl) (fun k hk => by cases hk) (by kernel_rfl) (laid_met os))) ?_
  intro W base args ds gs before hval hW _ _ hsz hL _ _
  exact contract H enc W base args ds gs before hval hW hsz hL

end Go.Proofs.YtjdfodmialhakaaDoor.cardBufferNil
