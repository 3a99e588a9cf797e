/- Several texts in one: see each part's head. -/
import Derived.Test.YtgklopgeimjgiaaGreatDoorJ45
import Derived.Test.YtgklopgeimjgiaaGreatDoorJ42
/- Arguments opened: ops. -/
namespace Go.Proofs.YtgklopgeimjgiaaGreatDoor
open Go.ChangeShapes Go.WideShapes Go.ChangeAt Go.RowKit Go.Deep
section
variable {H : Type} {enc : TypeId × Value → H}
set_option maxRecDepth 100000 in
/-- An op. -/
theorem open_Op {W : World} {fuel : Nat} {held : Bool} {cs : List Value} {x : DataW H × List MemPlace}
    (h : DataW.trod enc Tryz.prog W 0 (fun _ => true) held fuel 58 cs = some x) (hwt : ∀ n ∈ x.1.weights Tryz.prog 58, n ≤ reachBytes) :
    ∃ (k tb : Int) (row : List V) (A : Option Addr) (c : Nat), (0 ≤ k ∧ k ≤ 255) ∧ (-9223372036854775808 ≤ tb ∧ tb ≤ 9223372036854775807) ∧ VRow W A row ∧ cs = [.int .u8 k, .int .i64 tb, .slice A row.length c] := by
  obtain ⟨xs, n, _, hx, hlen, hxl, hf⟩ := DataW.trod_struct Tryz.underlying58 h
  have hc : Tryz.prog.cellsOf 58 = 3 := by kernel_rfl
  rw [hc] at hlen
  match cs, hlen with
  | [c0, c1, c2], _ =>
  match xs, hxl with
  | [x0, x1, x2], _ =>
    have k1 : Tryz.prog.cellsOf 5 = 1 := by kernel_rfl
    have k2 : Tryz.prog.cellsOf 3 = 1 := by kernel_rfl
    have k3 : Tryz.prog.cellsOf 26 = 1 := by kernel_rfl
    have f0 := hf 0 _ rfl
    have f1 := hf 1 _ rfl
    have f2 := hf 2 _ rfl
    change DataW.trod enc Tryz.prog W 0 (fun _ => true) held n 5 (([c0, c1, c2].drop 0).take (Tryz.prog.cellsOf 5)) = some x0 at f0
    change DataW.trod enc Tryz.prog W 0 (fun _ => true) held n 3 (([c0, c1, c2].drop 1).take (Tryz.prog.cellsOf 3)) = some x1 at f1
    change DataW.trod enc Tryz.prog W 0 (fun _ => true) held n 26 (([c0, c1, c2].drop 2).take (Tryz.prog.cellsOf 26)) = some x2 at f2
    rw [k1] at f0
    rw [k2] at f1
    rw [k3] at f2
    simp only [List.drop_zero, List.drop_succ_cons, List.take_succ_cons, List.take_zero] at f0 f1 f2
    simp only [List.map_cons, List.map_nil] at hx
    have hw2 : ∀ m ∈ x2.1.weights Tryz.prog 26, m ≤ reachBytes := fun m hm => hwt m (by
      rw [hx]; simp only [DataW.weights, Tryz.underlying58]; exact DataW.weights_mem_each (j := 2) rfl rfl m hm)
    obtain ⟨a, e0, rfl, wa⟩ := DataW.trod_int Tryz.underlying5 f0
    obtain ⟨b, e1, rfl, wb⟩ := DataW.trod_int Tryz.underlying3 f1
    obtain ⟨A, l, c, e2, hA⟩ := open_vrow f2 hw2
    simp only [List.cons.injEq, and_true] at e0 e1 e2
    subst e0; subst e1; subst e2
    have ba := bounds_u8 wa
    have bb := bounds_i64 wb
    exact ⟨a, b, l, A, c, by omega, ⟨by omega, by omega⟩, hA, rfl⟩
instance : Inhabited Ox := ⟨⟨0, 0, none, 0, []⟩⟩
/-- Ops in a row. -/
theorem open_oprow {W : World} {fuel : Nat} {held : Bool} {cs : List Value} {x : DataW H × List MemPlace}
    (h : DataW.trod enc Tryz.prog W 0 (fun _ => true) held fuel 25 cs = some x) (hwt : ∀ n ∈ x.1.weights Tryz.prog 25, n ≤ reachBytes) :
    ∃ (A : Option Addr) (l : List Ox) (c : Nat), cs = [.slice A l.length c] ∧ OpRow W A l := by
  obtain ⟨A, l, c, e, h1, h2, _, h3⟩ := open_rowG (α := Ox) 3 (by omega) Ox.cells (fun _ => rfl) (fun o => (0 ≤ o.kd ∧ o.kd ≤ 255) ∧ VRow W o.B o.row) 40 Tryz.underlying25 (by kernel_rfl) (by kernel_rfl) (fun _ _ _ _ h hw => by
    obtain ⟨k, tb, row, A, c, hk, _, hv, e⟩ := open_Op h hw
    exact ⟨⟨k, tb, A, c, row⟩, ⟨hk, hv⟩, e⟩) h hwt
  refine ⟨A, l, c, e, h1, by omega, fun hl => ?_⟩
  obtain ⟨b, off, rfl, hb, hx⟩ := h3 hl
  exact ⟨b, off, rfl, hb, fun i o hi => ⟨hx i o hi 0 (by omega), hx i o hi 1 (by omega), hx i o hi 2 (by omega)⟩⟩
end
end Go.Proofs.YtgklopgeimjgiaaGreatDoor

/- VerifySees, for every schema, ops, two small numbers and row that can be read: it answers true, and all read as they did. The two tables of unicode/utf8 start as its text lays them (the card ties them). -/
namespace Go.Proofs.YtgklopgeimjgiaaGreatDoor.cardVerifySees
open Go.ChangeShapes Go.WideShapes Go.ChangeAt Go.RowKit Go.Deep

set_option maxRecDepth 100000 in
theorem contract (H : Type) (enc : TypeId × Value → H) (W : World) (base : Nat) (args : Array Value) (ds gs : List (DataW H)) (before : List MemPlace)
    (hval : ∀ (j : Nat) t v, Tryz.f3.params[j]? = some t → args[j]? = some v → Value.okWide Tryz.prog W .any base t v)
    (hW : DataW.Whole enc Tryz.prog Tryz.f3.params.toList Rows.verifySeesSpec.vars false W args.toList ds gs before)
    (hsz : (DataW.weightsEach Tryz.prog (Tryz.f3.params.toList ++ (OpenSpec.ofChange Rows.verifySeesSpec).bare.plain.varTypes Tryz.prog) (ds ++ gs)).all (· ≤ reachBytes) = true)
    (hL : laidMetH Tryz.prog Rows.verifySeesRow.laid W) :
    Calls Tryz.prog 3 args W fun e W' => ∃ v, e = .returned v ∧ Rows.verifySeesSpec.post enc Tryz.prog Tryz.f3 false true false false W args v W' := by
  have hT : Tabs W := tabs_of_list hL
  have hW' := hW
  obtain ⟨p, q, hA0, hV, rfl, hfz, hnd⟩ := hW
  have hA : DataW.TrodAll enc Tryz.prog W 0 (fun _ => true) true Tryz.f3.params.toList args.toList ds p := hA0
  clear hA0
  obtain ⟨rfl, rfl⟩ := trodVars_none hV
  have hwt : ∀ (j : Nat) (t : TypeId) (d : DataW H), Tryz.f3.params.toList[j]? = some t → ds[j]? = some d → ∀ n ∈ d.weights Tryz.prog t, n ≤ reachBytes := by
    intro j t d ht hd n hn
    have hj : (Tryz.f3.params.toList ++ (OpenSpec.ofChange Rows.verifySeesSpec).bare.plain.varTypes Tryz.prog)[j]? = some t := by
      rw [List.getElem?_append_left (List.getElem?_eq_some_iff.1 ht).1]; exact ht
    have hd' : (ds ++ [])[j]? = some d := by rw [List.append_nil]; exact hd
    have := List.all_eq_true.1 hsz n (DataW.weights_mem_each hj hd' n hn)
    simpa using this
  rw [Tryz.params3] at hA hval hwt
  obtain ⟨v0, vs0, d0, ds0, p0, q0, hargs, rfl, rfl, h0, r0⟩ := trodAll_cons hA
  obtain ⟨v1, vs1, d1, ds1, p1, q1, rfl, rfl, rfl, h1, r1⟩ := trodAll_cons r0
  obtain ⟨v2, vs2, d2, ds2, p2, q2, rfl, rfl, rfl, h2, r2⟩ := trodAll_cons r1
  obtain ⟨v3, vs3, d3, ds3, p3, q3, rfl, rfl, rfl, h3, r3⟩ := trodAll_cons r2
  obtain ⟨v4, vs4, d4, ds4, p4, q4, rfl, rfl, rfl, h4, r4⟩ := trodAll_cons r3
  obtain ⟨rfl, rfl, rfl⟩ := trodAll_nil r4
  obtain rfl : args = #[v0, v1, v2, v3, v4] := by cases args; simp_all
  obtain ⟨cs0, rfl, _⟩ := okWide_struct Tryz.underlying24 (hval 0 24 v0 rfl rfl)
  obtain ⟨fuel0, hf0⟩ := h0
  obtain ⟨l0, A0, c0, e0, hs0⟩ := open_S (cs := cs0.toList) hf0 (hwt 0 24 d0 rfl rfl)
  have e0' : cs0 = #[.slice A0 l0.length c0] := by rw [← Array.toArray_toList (xs := cs0), e0]
  subst e0'
  obtain ⟨fuel1, hf1⟩ := h1
  obtain ⟨a1, n1, c1, rfl⟩ := okWide_slice Tryz.underlying25 (hval 1 25 v1 rfl rfl)
  obtain ⟨A1, l1, k1, e1, hr1⟩ := open_oprow (cs := [Value.slice a1 n1 c1]) hf1 (hwt 1 25 d1 rfl rfl)
  injection e1 with e1 _
  rw [e1] at hW' ⊢
  obtain ⟨x2, rfl, rfl, rfl, wx2⟩ := open_int Tryz.underlying5 (hval 2 5 v2 rfl rfl) h2
  have bx2 := bounds_u8 wx2
  obtain ⟨x3, rfl, rfl, rfl, wx3⟩ := open_int Tryz.underlying5 (hval 3 5 v3 rfl rfl) h3
  have bx3 := bounds_u8 wx3
  obtain ⟨fuel4, hf4⟩ := h4
  obtain ⟨a4, n4, c4, rfl⟩ := okWide_slice Tryz.underlying26 (hval 4 26 v4 rfl rfl)
  obtain ⟨A4, l4, k4, e4, hr4⟩ := open_vrow (cs := [Value.slice a4 n4 c4]) hf4 (hwt 4 26 d4 rfl rfl)
  injection e4 with e4 _
  rw [e4] at hW' ⊢
  refine (sees_walk l0 A0 A1 A4 c0 k1 k4 l1 l4 x2 x3 W hs0 hr1 hr4 hT bx2 bx3).mono fun e W' ⟨he, hb⟩ => ?_
  subst he
  refine ⟨_, rfl, post_law hW' rfl rfl ?_ rfl rfl rfl hb⟩
  rw [Tryz.params3]
  intro t ht
  simp only [List.mem_cons, List.not_mem_nil, or_false] at ht
  rcases ht with rfl | rfl | rfl | rfl | rfl <;> exact ⟨by kernel_rfl, of_decide_eq_true (by kernel_rfl)⟩

theorem laid_met (os : Os) : laidMet Tryz.prog Rows.verifySeesRow.laid ((laidWorld os).forCall (fun _ _ => 0) ⟨#[], #[(.agg #[.slice none 0 0]), .slice none 0 0, .int .u8 0, .int .u8 0, .slice none 0 0], []⟩).memory :=
  laidMet_of_run' 8 (by kernel_rfl) (by kernel_rfl)
theorem reads (os : Os) {H : Type} (enc : TypeId × Value → H) : ∃ places, DataW.whole enc Tryz.prog ((laidWorld os).forCall (fun _ _ => 0) ⟨#[], #[(.agg #[.slice none 0 0]), .slice none 0 0, .int .u8 0, .int .u8 0, .slice none 0 0], []⟩).memory Tryz.f3.params.toList Rows.verifySeesSpec.vars false (#[(.agg #[.slice none 0 0]), .slice none 0 0, .int .u8 0, .int .u8 0, .slice none 0 0] : Array Value).toList 8 = some ([(.agg [.nil]), .nil, .lit (.int .u8 0), .lit (.int .u8 0), .nil], [], places) :=
  ⟨[], by kernel_rfl⟩

set_option maxRecDepth 100000 in
theorem lifted (os : Os) (started : os.Started) (H : Type) (enc : TypeId × Value → H) (F : Stop.Interp) :
    ReturnsInHanded {} Tryz.checked os 3 .any ((OpenSpec.ofChange Rows.verifySeesSpec).preRow enc Tryz.prog Tryz.f3 Rows.verifySeesRow.domain false Rows.verifySeesRow.laid) (((OpenSpec.ofChange Rows.verifySeesSpec).at F).post enc Tryz.prog Tryz.f3 false true false false) := by
  obtain ⟨places, hx⟩ := reads os enc
  refine returnsInHanded_of_row (C := Tryz.checked) (s := OpenSpec.ofChange Rows.verifySeesSpec) own started (by kernel_rfl) Tryz.func3
    (witness_row_at (enc := enc) (C := Tryz.checked) false (laidWorld os) #[(.agg #[.slice none 0 0]), .slice none 0 0, .int .u8 0, .int .u8 0, .slice none 0 0] rfl (by kernel_rfl) (by kernel_rfl) (by kernel_rfl)
      (OpenSpec.preRow_of_cond 8 hx (by kernel_rfl) (fun k hk => by cases hk) (by kernel_rfl) (laid_met os))) ?_
  intro W base args ds gs before hval hW _ _ hsz hL _ _
  exact contract H enc W base args ds gs before hval hW hsz hL

end Go.Proofs.YtgklopgeimjgiaaGreatDoor.cardVerifySees
