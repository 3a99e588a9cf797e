/- Texts joined by a tool: contracts and walks of this claim. -/
import Derived.Test.YtfekohonidggjaaGreatDoorQ3
namespace Go.Proofs.YtfekohonidggjaaGreatDoor
open Go.RowKit
theorem actP_form (o : Option (List UInt8)) : ∃ s e, actP o = .tuple #[.string s, .int .i64 e] := by
 cases o with
 | none => exact ⟨_, _, rfl⟩
 | some s => exact ⟨_, _, rfl⟩
theorem writeV_form (c : Cf) (l : List Ac) : ∃ s e, writeV c l = .tuple #[.string s, .int .i64 e] := by
 unfold writeV
 split
 · split
   · exact ⟨_, _, rfl⟩
   · exact ⟨_, _, rfl⟩
 · exact ⟨_, _, rfl⟩
set_option maxRecDepth 100000 in
set_option maxHeartbeats 6400000 in
theorem swrites_walk (seg bd r0 r1 r2 : Int) (ts : List Ta) (A : Option Addr) (k : Nat) (l : List Am) (L : Option Addr) (lc : Nat) (w : World) (ht : TRow w A k ts) (hl : AmRow w L l) (hL : LayS w) :
  Calls Tryz.prog 3 #[.agg #[.slice A ts.length k, .int .i64 seg, .int .i64 bd, .int .i64 r0, .int .i64 r1, .int .i64 r2], .slice L l.length lc] w fun r w' => r = .returned (.bool true) ∧ Below w.heap.size w w' := by
 have HAL := hd_ (fun (W : World) (hW : Below w.heap.size w W) => alive_any W (hL.ext hW))
 have HTS := hd_ ht
 have HAM := hd_ hl
 have HL := hd_ hL
 have hb1 : Below w.heap.size w (w.alloc (.cells #[.slice A ts.length k, .int .i64 seg, .int .i64 bd, .int .i64 r0, .int .i64 r1, .int .i64 r2] 27)) := bel1 _ _
 have HB1 := hd_ hb1
 have HK1 := hd_ (Blk.new w #[.slice A ts.length k, .int .i64 seg, .int .i64 bd, .int .i64 r0, .int .i64 r1, .int .i64 r2] 27)
 have HHV := hd_ (heavy_any seg bd r0 r1 r2 ts A k l L lc _ (ht.ext hb1) (hl.ext hb1))
 unfold Cf.agg at HHV
 simp only at HHV
 clear ht hl hL hb1
 go_enter Tryz.func3, Tryz.ntmps3
 go_upto_region 1 with fail
 generalize w.alloc (.cells #[.slice A ts.length k, .int .i64 seg, .int .i64 bd, .int .i64 r0, .int .i64 r1, .int .i64 r2] 27) = w1 at HB1 HK1 HHV ⊢
 obtain ⟨d9, d0, d1, d2, d3, d4, d5⟩ := blk6 HK1.out
 go_wp2_with fail
 refine HHV.out.mono ?_
 rintro r w2 ⟨⟨v, rfl, hv⟩, hb⟩
 have HB2 := hd_ (bt HB1.out hb)
 have HK2 := hd_ (HK1.out.ext hb)
 clear hb d9 d0 d1 d2 d3 d4 d5 HHV HB1 HK1
 cases v with
 | true =>
  clear hv
  go_wp2_with fail
  refine (HAL.out _ HB2.out).mono ?_
  rintro r wz ⟨rfl, hbz⟩
  have HBZ := hd_ (bt HB2.out hbz)
  clear hbz
  go_wp2_with fail
  go_ret
  exact ⟨rfl, HBZ.out⟩
 | false =>
  obtain ⟨h300, hrow⟩ := hv rfl
  clear hv
  have HCP := hd_ (fun (W : World) (hW : Below w.heap.size w W) => copied_any l L lc W (HAM.out.ext hW) h300 hrow)
  have H300 := hd_ h300
  clear hrow h300
  obtain ⟨s, e, hV⟩ := writeV_form ⟨seg, bd, r0, r1, r2, ts⟩ (l.map (·.a))
  have HV := hd_ hV
  clear hV
  go_wp2_with fail
  refine (HCP.out _ HB2.out).mono ?_
  rintro r w3 ⟨⟨C, m, c, rfl, hm, ham⟩, hb3⟩
  have hml : m.length = l.length := by have := congrArg List.length hm; simpa using this
  have HB3 := hd_ (bt HB2.out hb3)
  have HK3 := hd_ (HK2.out.ext hb3)
  have HM3 := hd_ (fun (W : World) (hW : Below w3.heap.size w3 W) => ham.ext hW)
  have HMA := hd_ hm
  have hacts : actsB m = actsB l := by
   have h1 : actsB m = (m.map (·.a)).all (fun a => (actT a).isSome) := by unfold actsB; rw [List.all_map]; rfl
   have h2 : actsB l = (l.map (·.a)).all (fun a => (actT a).isSome) := by unfold actsB; rw [List.all_map]; rfl
   rw [h1, h2, hm]
  have HWA := hd_ (fun (W : World) (hW : Below w3.heap.size w3 W) => write_any seg bd r0 r1 r2 ts A k m C c W (HTS.out.ext (bt HB3.out hW)) (ham.ext hW) (HL.out.ext (bt HB3.out hW)) (by have := H300.out; omega))
  have HWB := hd_ (fun (W : World) (hW : Below w3.heap.size w3 W) => refwrite_any seg bd r0 r1 r2 ts A k l L lc W (HTS.out.ext (bt HB3.out hW)) (HAM.out.ext (bt HB3.out hW)) (HL.out.ext (bt HB3.out hW)) (by have := H300.out; omega))
  have HCA := hd_ (fun (W : World) (hW : Below w3.heap.size w3 W) => check31_any seg bd r0 r1 r2 ts A k m C c W (HTS.out.ext (bt HB3.out hW)) (ham.ext hW) (HL.out.ext (bt HB3.out hW)))
  have HCB := hd_ (fun (W : World) (hW : Below w3.heap.size w3 W) => refcheck31_any seg bd r0 r1 r2 ts A k l L lc W (HTS.out.ext (bt HB3.out hW)) (HAM.out.ext (bt HB3.out hW)) (HL.out.ext (bt HB3.out hW)))
  have HSM := hd_ (fun (W : World) (hW : Below w3.heap.size w3 W) => sameC_yes seg bd r0 r1 r2 ts ts (same_z rfl) m l hm A A C L k k c lc W (HTS.out.ext (bt HB3.out hW)) (HTS.out.ext (bt HB3.out hW)) (ham.ext hW) (HAM.out.ext (bt HB3.out hW)))
  rw [hm, HV.out] at HWA
  rw [HV.out] at HWB
  rw [hacts] at HCA
  obtain ⟨ce, hce⟩ : ∃ ce, ce = okE (confB ⟨seg, bd, r0, r1, r2, ts⟩ && actsB l) := ⟨_, rfl⟩
  rw [← hce] at HCA HCB
  unfold Cf.agg at HWA HWB HCA HCB HSM
  simp only at HWA HWB HCA HCB HSM
  have HML := hd_ hml
  clear hm hml ham hacts hce hb3 HB2 HK2 HCP
  have HBZ : Hid (Below w3.heap.size w3 w3) := Below.refl _ _
  obtain ⟨d9, d0, d1, d2, d3, d4, d5⟩ := blk6 HK3.out
  go_wp2_with fail
  refine (HWA.out _ HBZ.out).mono ?_
  rintro r w4 ⟨rfl, hb4⟩
  have HB4 := hd_ (bt HBZ.out hb4)
  have HK4 := hd_ (HK3.out.ext hb4)
  clear hb4 d9 d0 d1 d2 d3 d4 d5 HBZ HWA
  obtain ⟨d9, d0, d1, d2, d3, d4, d5⟩ := blk6 HK4.out
  go_wp2_with fail
  refine (HWB.out _ HB4.out).mono ?_
  rintro r w5 ⟨rfl, hb5⟩
  have HB5 := hd_ (bt HB4.out hb5)
  have HK5 := hd_ (HK4.out.ext hb5)
  clear hb5 d9 d0 d1 d2 d3 d4 d5 HB4 HK4 HK3 HWB
  go_upto_region 6 with fail
  refine region_grow [false, false, false, false, false, false, false, false, false, false, false, false, false, false, false, false, false, false, false, false, false, false, false, false, false, false, false, false, false, false, false, false, false, true, true, true, true, true, true, true, true, true, true, true, true, true, true, true, true, true, true, true, true, true, true, true, true, true, false, false, false, false, false, false, false, false, false, false, false, false, false, false, false, false, false, false, false, false, false, false, false, false, false, false, false, false, false, false, false, false, false, false, false] [33, 34, 35, 36, 37, 38, 39, 40, 41, 42, 43, 44, 45, 46, 47, 48, 49, 50, 51, 52, 53, 54, 55, 56, 57] [.val (.string s), .val (.string s), .val (.bool false), .val (.bool false), .val (.int .i64 e), .val (.int .i64 e), .val (.bool false), .val (.bool false), .val (.bool false), .val (.agg #[.slice A ts.length k, .int .i64 seg, .int .i64 bd, .int .i64 r0, .int .i64 r1, .int .i64 r2]), .val (.slice C m.length c), .val (.int .i64 ce), .val (.agg #[.slice A ts.length k, .int .i64 seg, .int .i64 bd, .int .i64 r0, .int .i64 r1, .int .i64 r2]), .val (.slice L l.length lc), .val (.int .i64 ce), .val (.bool false), .val (.bool false), .val (.bool false), .val (.agg #[.slice A ts.length k, .int .i64 seg, .int .i64 bd, .int .i64 r0, .int .i64 r1, .int .i64 r2]), .val (.agg #[.slice A ts.length k, .int .i64 seg, .int .i64 bd, .int .i64 r0, .int .i64 r1, .int .i64 r2]), .val (.slice C m.length c), .val (.slice L l.length lc), .val (.bool true), .val (.bool false), .val (.bool false)] [24] (by kernel_rfl) (by kernel_rfl) (by kernel_rfl) (by kernel_rfl) (by kernel_rfl) ⟨?_, ?_, ?_, ?_, ?_, ?_, ?_, ?_, ?_, ?_, ?_, ?_, ?_, ?_, ?_, ?_, ?_, ?_, ?_, ?_, ?_, ?_, ?_, ?_, ?_, trivial⟩ ?done
  case done =>
   intro x w6 hb6
   simp only [StepGoal, overlay, upd, cond_true, cond_false, List.getD_cons_zero, List.getD_cons_succ, Nat.zero_add, Nat.reduceAdd, Nat.reduceEqDiff, reduceIte]
   have HB6 := hd_ (bt HB5.out hb6)
   clear hb6 HB5 HK5 HCA HCB HSM
   go_upto_block 0 with fail
   go_cut [] (fun wx => Hid (Below w3.heap.size w3 wx))
   case first =>
    go_wp2_with fail
    go_loopw [10] (fun i wr => ∃ j : Nat, j ≤ l.length ∧ i = .int .i64 j ∧ Hid (Below w3.heap.size w3 wr)) (fun i _ => l.length - (intOf i).toNat)
    case atStart => exact ⟨0, by omega, rfl, HB6⟩
    case round =>
     obtain ⟨j, hj, rfl, HBr⟩ := hrel
     clear HB6
     by_cases hlt : j < l.length ∧ j < 40
     · obtain ⟨hlt, h40⟩ := hlt
       have hltI : (j : Int) < l.length := by omega
       have h40I : (j : Int) < 40 := by omega
       have hltM : j < m.length := by have := HML.out; omega
       have hmI : (j : Int) < m.length := by omega
       obtain ⟨b1, o1, x1, rfl, hB1, hlk1, hmem1, hwf1, hvr1, c0, c1, c2, c3, c4, c5, c6, c7⟩ := (HM3.out _ HBr.out).at_ hltM
       obtain ⟨b2, o2, x2, rfl, hB2, hlk2, hmem2, hwf2, hvr2, g0, g1, g2, g3, g4, g5, g6, g7⟩ := (HAM.out.ext (bt HB3.out HBr.out)).at_ hlt
       have hxx : x1.a = x2.a := by
        have h := congrArg (fun q => q[j]?) HMA.out
        simp only [List.getElem?_map, hlk1, hlk2, Option.map_some, Option.some.injEq] at h
        exact h
       have hA1 := act_any x1.a hwf1 x1.A x1.c wr hvr1 (HL.out.ext (bt HB3.out HBr.out))
       have HA2 := hd_ (fun (W : World) (hW : Below wr.heap.size wr W) => refact_any x2.a hwf2 x2.A x2.c W (hvr2.ext hW) (HL.out.ext (bt (bt HB3.out HBr.out) hW)))
       rw [hxx] at hA1
       obtain ⟨sv, ev, hsv⟩ := actP_form (actT x2.a)
       rw [hsv] at hA1 HA2
       obtain ⟨a1, A1, k1⟩ := x1
       obtain ⟨a2, A2, k2⟩ := x2
       simp only at hxx
       subst hxx
       unfold Ac.agg at hA1 HA2
       simp only at hA1 HA2 c0 c1 c2 c3 c4 c5 c6 c7 g0 g1 g2 g3 g4 g5 g6 g7
       have HA1 := hd_ hA1
       clear hlk1 hmem1 hwf1 hvr1 hlk2 hmem2 hwf2 hvr2 hA1 hsv
       go_wp2_with fail
       refine HA1.out.mono ?_
       rintro r w7 ⟨rfl, hb7⟩
       have e0 := (hb7.cell (p := ⟨b2, _, none⟩) hB2).trans g0
       have e1 := (hb7.cell (p := ⟨b2, _, none⟩) hB2).trans g1
       have e2 := (hb7.cell (p := ⟨b2, _, none⟩) hB2).trans g2
       have e3 := (hb7.cell (p := ⟨b2, _, none⟩) hB2).trans g3
       have e4 := (hb7.cell (p := ⟨b2, _, none⟩) hB2).trans g4
       have e5 := (hb7.cell (p := ⟨b2, _, none⟩) hB2).trans g5
       have e6 := (hb7.cell (p := ⟨b2, _, none⟩) hB2).trans g6
       have e7 := (hb7.cell (p := ⟨b2, _, none⟩) hB2).trans g7
       have hB3 := Nat.lt_of_lt_of_le hB2 hb7.size
       have HB7 := hd_ (bt HBr.out hb7)
       have HA3 := hd_ (HA2.out w7 hb7)
       clear hb7 HA1 HA2 HBr c0 c1 c2 c3 c4 c5 c6 c7 g0 g1 g2 g3 g4 g5 g6 g7 hB1 hB2
       go_wp2_with fail
       refine HA3.out.mono ?_
       rintro r w8 ⟨rfl, hb8⟩
       have HB8 := hd_ (bt HB7.out hb8)
       clear hb8 HA3 HB7 e0 e1 e2 e3 e4 e5 e6 e7 hB3
       go_wp2_with fail
       go_roundw
       case rel => exact ⟨j + 1, by omega, by go_num, HB8⟩
       case measure => simp [intOf]; omega
     · by_cases hl : j < l.length
       · have hlI : (j : Int) < l.length := by omega
         have h3I : ¬ (j : Int) < 40 := by omega
         clear hlt
         go_wp2_with fail
         go_meet
         exact HBr
       · have hlI : ¬ (j : Int) < l.length := by omega
         clear hlt
         go_wp2_with fail
         go_meet
         exact HBr
   case rest =>
    have HBq : Hid (Below w3.heap.size w3 wc) := hcut
    clear hcut HB6
    go_wp2_with fail
    refine (HAL.out _ (bt HB3.out HBq.out)).mono ?_
    rintro r wz ⟨rfl, hbz⟩
    have HBZ := hd_ (bt (bt HB3.out HBq.out) hbz)
    clear hbz
    go_wp2_with fail
    go_ret
    exact ⟨rfl, HBZ.out⟩
  all_goals
   intro x w6 hb6
   have hbw := bt HB5.out hb6
   obtain ⟨d9, d0, d1, d2, d3, d4, d5⟩ := blk6 (HK5.out.ext hb6)
   intro K hK
   rw [if_pos (by rfl)]; simp only [overlay, upd, cond_true, cond_false, List.getD_cons_zero, List.getD_cons_succ, Nat.reduceEqDiff, reduceIte]
   go_simp
   first
    | exact hK.out _ _ (Below.refl _ _) rfl
    | ((with_reducible refine (HCA.out _ hbw).mono ?_); rintro r wb ⟨rfl, hbb⟩; go_wp2_with fail; exact hK.out _ _ hbb rfl)
    | ((with_reducible refine (HCB.out _ hbw).mono ?_); rintro r wb ⟨rfl, hbb⟩; go_wp2_with fail; exact hK.out _ _ hbb rfl)
    | ((with_reducible refine (HSM.out _ hbw).mono ?_); rintro r wb ⟨rfl, hbb⟩; go_wp2_with fail; exact hK.out _ _ hbb rfl)
end Go.Proofs.YtfekohonidggjaaGreatDoor
namespace Go.Proofs.YtfekohonidggjaaGreatDoor.cardScriptWrites
open Go.ChangeShapes Go.WideShapes Go.ChangeAt Go.RowKit Go.Deep

set_option maxRecDepth 100000 in
theorem contract (H : Type) (enc : TypeId × Value → H) (W : World) (base : Nat) (args : Array Value) (ds gs : List (DataW H)) (before : List MemPlace)
  (hval : ∀ (j : Nat) t v, Tryz.f3.params[j]? = some t → args[j]? = some v → Value.okWide Tryz.prog W .any base t v)
  (hW : DataW.Whole enc Tryz.prog Tryz.f3.params.toList Rows.scriptWritesSpec.vars false W args.toList ds gs before)
  (hsz : (DataW.weightsEach Tryz.prog (Tryz.f3.params.toList ++ (OpenSpec.ofChange Rows.scriptWritesSpec).bare.plain.varTypes Tryz.prog) (ds ++ gs)).all (· ≤ reachBytes) = true)
  (hsh : W.ShapedOpen Tryz.prog)
  (hL : laidMetH Tryz.prog Rows.scriptWritesRow.laid W) :
  Calls Tryz.prog 3 args W fun e W' => ∃ v, e = .returned v ∧ Rows.scriptWritesSpec.post enc Tryz.prog Tryz.f3 false true false false W args v W' := by
 have hT : LayS W := lays_of_list hL hsh
 have hW' := hW
 obtain ⟨p, q, hA0, hV, rfl, hfz, hnd⟩ := hW
 have hA : DataW.TrodAll enc Tryz.prog W 0 (fun _ => true) true Tryz.f3.params.toList args.toList ds p := hA0
 clear hA0
 obtain ⟨rfl, rfl⟩ := trodVars_none hV
 have hwt : ∀ (j : Nat) (t : TypeId) (d : DataW H), Tryz.f3.params.toList[j]? = some t → ds[j]? = some d → ∀ n ∈ d.weights Tryz.prog t, n ≤ reachBytes := by
  intro j t d ht hd n hn
  have hj : (Tryz.f3.params.toList ++ (OpenSpec.ofChange Rows.scriptWritesSpec).bare.plain.varTypes Tryz.prog)[j]? = some t := by
   rw [List.getElem?_append_left (List.getElem?_eq_some_iff.1 ht).1]; exact ht
  have hd' : (ds ++ [])[j]? = some d := by rw [List.append_nil]; exact hd
  have := List.all_eq_true.1 hsz n (DataW.weights_mem_each hj hd' n hn)
  simpa using this
 rw [Tryz.params3] at hA hval hwt
 obtain ⟨v0, vs0, d0, ds0, p0, q0, hargs, rfl, rfl, h0, r0⟩ := trodAll_cons hA
 obtain ⟨v1, vs1, d1, ds1, p1, q1, rfl, rfl, rfl, h1, r1⟩ := trodAll_cons r0
 obtain ⟨rfl, rfl, rfl⟩ := trodAll_nil r1
 obtain rfl : args = #[v0, v1] := by cases args; simp_all
 obtain ⟨cs0, rfl, _⟩ := okWide_struct Tryz.underlying27 (hval 0 27 v0 rfl rfl)
 obtain ⟨fuel0, hf0⟩ := h0
 obtain ⟨l0, A0, c0, sg0, bd0, ra0, rb0, rc0, e0, hs0⟩ := open_Cf (cs := cs0.toList) hf0 (hwt 0 27 d0 rfl rfl)
 have e0' : cs0 = #[.slice A0 l0.length c0, .int .i64 sg0, .int .i64 bd0, .int .i64 ra0, .int .i64 rb0, .int .i64 rc0] := by rw [← Array.toArray_toList (xs := cs0), e0]
 subst e0'
 obtain ⟨fuel1, hf1⟩ := h1
 obtain ⟨a1, n1, c1, rfl⟩ := okWide_slice Tryz.underlying28 (hval 1 28 v1 rfl rfl)
 obtain ⟨A1, l1, k1, e1, hr1⟩ := open_amrow (cs := [Value.slice a1 n1 c1]) hf1 (hwt 1 28 d1 rfl rfl)
 injection e1 with e1 _
 rw [e1] at hW' ⊢
 refine (swrites_walk sg0 bd0 ra0 rb0 rc0 l0 A0 c0 l1 A1 k1 W hs0 hr1 hT).mono fun e W' ⟨he, hb⟩ => ?_
 subst he
 refine ⟨_, rfl, post_law hW' rfl rfl ?_ rfl rfl rfl hb⟩
 rw [Tryz.params3]
 intro t ht
 simp only [List.mem_cons, List.not_mem_nil, or_false] at ht
 rcases ht with rfl | rfl <;> exact ⟨by kernel_rfl, of_decide_eq_true (by kernel_rfl)⟩

theorem laid_met (os : Os) : laidMet Tryz.prog Rows.scriptWritesRow.laid ((laidWorldS os).forCall (fun _ _ => 0) ⟨#[], #[(.agg #[.slice none 0 0, .int .i64 0, .int .i64 0, .int .i64 0, .int .i64 0, .int .i64 0]), .slice none 0 0], []⟩).memory :=
 laid_metS os _
theorem reads (os : Os) {H : Type} (enc : TypeId × Value → H) : ∃ places, DataW.whole enc Tryz.prog ((laidWorldS os).forCall (fun _ _ => 0) ⟨#[], #[(.agg #[.slice none 0 0, .int .i64 0, .int .i64 0, .int .i64 0, .int .i64 0, .int .i64 0]), .slice none 0 0], []⟩).memory Tryz.f3.params.toList Rows.scriptWritesSpec.vars false (#[(.agg #[.slice none 0 0, .int .i64 0, .int .i64 0, .int .i64 0, .int .i64 0, .int .i64 0]), .slice none 0 0] : Array Value).toList 8 = some ([(.agg [.agg [.nil], .lit (.int .i64 0), .lit (.int .i64 0), .agg [.lit (.int .i64 0), .lit (.int .i64 0), .lit (.int .i64 0)]]), .nil], [], places) :=
 ⟨[], by kernel_rfl⟩

set_option maxRecDepth 100000 in
theorem lifted (os : Os) (started : os.Started) (H : Type) (enc : TypeId × Value → H) (F : Stop.Interp) :
  ReturnsInHanded {} Tryz.checked os 3 .any ((OpenSpec.ofChange Rows.scriptWritesSpec).preRow enc Tryz.prog Tryz.f3 Rows.scriptWritesRow.domain false Rows.scriptWritesRow.laid) (((OpenSpec.ofChange Rows.scriptWritesSpec).at F).post enc Tryz.prog Tryz.f3 false true false false) := by
 obtain ⟨places, hx⟩ := reads os enc
 refine returnsInHanded_of_row (C := Tryz.checked) (s := OpenSpec.ofChange Rows.scriptWritesSpec) own started (by kernel_rfl) Tryz.func3
  (witness_row_at (enc := enc) (C := Tryz.checked) false (laidWorldS os) #[(.agg #[.slice none 0 0, .int .i64 0, .int .i64 0, .int .i64 0, .int .i64 0, .int .i64 0]), .slice none 0 0] rfl (by kernel_rfl) (by kernel_rfl) (by kernel_rfl)
    (OpenSpec.preRow_of_cond 8 hx (by kernel_rfl) (fun k hk => by cases hk) (by kernel_rfl) (laid_met os))) ?_
 intro W base args ds gs before hval hW _ _ hsz hL hsh _
 exact contract H enc W base args ds gs before hval hW hsz hsh hL

end Go.Proofs.YtfekohonidggjaaGreatDoor.cardScriptWrites
