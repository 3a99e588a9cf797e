/- Several texts in one: see each part's head. -/
import Derived.BigRegion
import Derived.Test.YtgklopgeimjgiaaGreatDoorJ12
import Derived.Test.YtgklopgeimjgiaaGreatDoorJ14
import Derived.Test.YtgklopgeimjgiaaGreatDoorJ15
/- Several texts in one: see each part's head. -/
/- Large tells which schemas are small. -/
namespace Go.Proofs.YtgklopgeimjgiaaGreatDoor
open Go.RowKit

/-- Small: at most 30 tables, and none has more than 600 columns. -/
def smallS (ts : List Ta) : Prop := ts.length ≤ 30 ∧ ∀ t ∈ ts, t.cs.length ≤ 600
end Go.Proofs.YtgklopgeimjgiaaGreatDoor

/- fascicleref13.Copy: the same schema, its tables and columns of its own. -/
namespace Go.Proofs.YtgklopgeimjgiaaGreatDoor
open Go.RowKit

theorem ccells_length (l : List Co) : (ccells l).length = l.length * 3 := flat_length _ 3 (fun _ => rfl) l
theorem ccells_one (l : List Co) : ∀ u ∈ ccells l, Value.oneCell' u := by
  intro u hu
  obtain ⟨c, _, hc⟩ := List.mem_flatMap.1 hu
  simp only [List.mem_cons, List.not_mem_nil, or_false] at hc
  rcases hc with rfl | rfl | rfl <;> simp [Value.oneCell']
theorem CRow.cells_ {w : World} {l : List Co} {b off : Nat} (h : CRow w (some ⟨b, off, none⟩) l) : ∀ j u, (ccells l)[j]? = some u → w.cell? ((⟨b, off, none⟩ : Addr).add j) = some u := by
  intro j u hu
  have hj : j < l.length * 3 := by
    have := (List.getElem?_eq_some_iff.1 hu).1
    rwa [ccells_length] at this
  obtain ⟨b', off', v, hA, _, hlk, _, _, c0, c1, c2⟩ := h.at_ (k := j / 3) (by omega)
  injection hA with hA
  injection hA with e1 e2
  subst e1; subst e2
  have e : j = j / 3 * 3 + j % 3 := by omega
  rw [e] at hu
  unfold ccells at hu
  rw [flat_get _ 3 (fun _ => rfl) l (j / 3) (j % 3) v hlk (by omega)] at hu
  have ea : (⟨b, off, none⟩ : Addr).add j = ⟨b, off + j / 3 * 3 + j % 3, none⟩ := by
    unfold Addr.add; split
    · next h0 => subst h0; rfl
    · show (⟨b, off + j, none⟩ : Addr) = _
      rw [show off + j = off + j / 3 * 3 + j % 3 by omega]
  rw [ea]
  have hm : j % 3 = 0 ∨ j % 3 = 1 ∨ j % 3 = 2 := by omega
  rcases hm with hm | hm | hm <;> rw [hm] at hu ⊢ <;> simp only [List.getElem?_cons_zero, List.getElem?_cons_succ, Option.some.injEq] at hu <;> subst hu
  · exact c0
  · exact c1
  · exact c2
theorem put_put' (w : World) (b : Nat) (cs ds : Array Value) (t u : TypeId) : putBlk (putBlk w b cs t) b ds u = putBlk w b ds u := by unfold putBlk; simp
theorem map_d_next {ts us : List Ta} {k : Nat} {t : Ta} (hk : ts[k]? = some t) (h : us.map Ta.d = (ts.take k).map Ta.d) : ∀ A c, (us ++ [(⟨t.nm, t.cs, t.key, t.ref, t.par, A, c⟩ : Ta)]).map Ta.d = (ts.take (k + 1)).map Ta.d := by
  intro A c
  rw [take_snoc hk, List.map_append, List.map_append, h]
  rfl
/-- Tables and columns of one's own. -/
def OwT (w : World) (A : Option Addr) (c : Nat) (us : List Ta) : Prop :=
  (∃ base, w.ownsRow base 46 5 (.slice A us.length c) us.length (tcells us)) ∧ ∀ t ∈ us, t.wf ∧ (∀ c ∈ t.cs, c.wf) ∧ ∃ base, w.ownsRow base 86 3 (.slice t.A t.cs.length t.c) t.cs.length (ccells t.cs)
theorem GI.own_put {w0 : World} {r0 sb B x : Nat} {A : Option Addr} {c : Nat} {T : List Ta} {w : World} {cs : Array Value} (h : GI w0 r0 sb B A c T w) (hx : Blk w x cs 24) (ds : Array Value) : OwT (putBlk w x ds 24) A c T :=
  ⟨⟨_, own_below_put h.2.2.2.1 hx (by decide) ds⟩, fun t ht => by
    obtain ⟨h1, h2, _, _, base, h5⟩ := h.2.2.2.2.2.1 t ht
    exact ⟨h1, h2, base, own_below_put h5 hx (by decide) ds⟩⟩
def CopyQ (ts : List Ta) (w : World) (r : Ending) (w' : World) : Prop :=
  Below w.heap.size w w' ∧ ∃ us A c, r = .returned (.agg #[.slice A us.length c]) ∧ TRow w' A c us ∧ us.map Ta.d = ts.map Ta.d ∧ OwT w' A c us
set_option maxRecDepth 100000 in
set_option maxHeartbeats 2000000 in
theorem copy13_own (ts : List Ta) (A : Option Addr) (c : Nat) (w : World) (ht : TRow w A c ts) (hs : smallS ts) :
    Calls Tryz.prog 40 #[.agg #[.slice A ts.length c]] w (CopyQ ts w) := by
  have hlen := hs.1
  have HT := Lib.hid ht
  have HS := Lib.hid hs.2
  clear ht hs
  obtain ⟨i1, hi1, hx0, hx1, hx2⟩ := info_parts info_col
  obtain ⟨i2, hi2, hy0, hy1, hy2⟩ := info_parts info_tab
  go_enter Tryz.func40, Tryz.ntmps40
  go_wp2_with fail
  have h0 : Blk (((w.alloc (.cells #[.slice A ts.length c] 24)).alloc (.cells #[.slice none 0 0] 24)).alloc (.cells #[.slice none 0 0] 24)) w.heap.size #[.slice A ts.length c] 24 := (by repeat (first | exact Blk.at (by simp) | assumption | refine Blk.drew ?_ | refine Blk.old ?_ _))
  have h1 : Blk (((w.alloc (.cells #[.slice A ts.length c] 24)).alloc (.cells #[.slice none 0 0] 24)).alloc (.cells #[.slice none 0 0] 24)) (w.heap.size + 1) #[.slice none 0 0] 24 := by have := (Blk.new (w.alloc (.cells #[.slice A ts.length c] 24)) #[.slice none 0 0] 24).old (.cells #[.slice none 0 0] 24); simp only [World.size_alloc] at this; exact this
  have h2 : Blk (((w.alloc (.cells #[.slice A ts.length c] 24)).alloc (.cells #[.slice none 0 0] 24)).alloc (.cells #[.slice none 0 0] 24)) (w.heap.size + 1 + 1) #[.slice none 0 0] 24 := (by repeat (first | exact Blk.at (by simp) | assumption | refine Blk.drew ?_ | refine Blk.old ?_ _))
  have hC : Below w.heap.size w (((w.alloc (.cells #[.slice A ts.length c] 24)).alloc (.cells #[.slice none 0 0] 24)).alloc (.cells #[.slice none 0 0] 24)) := (by repeat (first | exact Below.refl _ _ | assumption | refine Below.drew ?_ | refine below_drewN ?_ _ | refine Below.alloc ?_ (by simp <;> omega) _))
  generalize ((w.alloc (.cells #[.slice A ts.length c] 24)).alloc (.cells #[.slice none 0 0] 24)).alloc (.cells #[.slice none 0 0] 24) = Wq at h0 h1 h2 hC ⊢
  have q1 : w.heap.size ≤ w.heap.size + 1 := by omega
  have q2 : w.heap.size ≤ w.heap.size + 1 + 1 := by omega
  have q3 : w.heap.size + 1 ≠ w.heap.size + 1 + 1 := by omega
  have q4 : w.heap.size ≠ w.heap.size + 1 := by omega
  have q5 : w.heap.size ≠ w.heap.size + 1 + 1 := by omega
  generalize w.heap.size + 1 + 1 = sb at h2 q2 q3 q5 ⊢
  generalize w.heap.size + 1 = r0 at h1 q1 q3 q4 ⊢
  generalize hX : w.heap.size = X at h0 hC q1 q2 q3 q4 q5 ⊢
  have HX := Lib.hid hX
  clear hX
  have HGI0 : Hid (GI w r0 sb Wq.heap.size none 0 [] Wq) := ⟨⟨by rw [HX.out]; exact q1, by rw [HX.out]; exact q2, h1.lt, h2.lt, q3, by simp⟩, h1, h2, World.ownsRow_nil _ _ _ _, (fun g h => by cases h), (fun t h => by cases h), by rw [HX.out]; exact hC⟩
  go_loopw [4] (fun i wr => ∃ (k : Nat) (A' : Option Addr) (c' : Nat) (us : List Ta), i = .int .i64 k ∧ k ≤ ts.length ∧ us.length = k ∧ Hid (us.map Ta.d = (ts.take k).map Ta.d) ∧ Hid (Blk wr X #[.slice A ts.length c] 24) ∧ Hid (GI w r0 sb wr.heap.size A' c' us wr)) (fun i _ => ts.length - (intOf i).toNat)
  case atStart => exact ⟨0, none, 0, [], rfl, by omega, rfl, (by simp : _ = _), Lib.hid h0, HGI0⟩
  case round =>
    clear HGI0 h0 h1 h2 hC
    obtain ⟨k, A', c', us, rfl, hk, hul, HUD, HB0, HGI⟩ := hrel
    have z0 := HB0.out.cell 0
    simp only [List.getElem?_toArray, List.getElem?_cons_zero] at z0
    have hl0 := HB0.out.lt
    have hbw := HGI.out.2.2.2.2.2.2
    by_cases hkl : k < ts.length
    · obtain ⟨b, off, t, rfl, hbb, htk, htm, htw, hcr, d0, d1, d2, d3, d4⟩ := (HT.out.ext hbw).at_ hkl
      have HTK := Lib.hid htk
      have HTW := Lib.hid htw
      have HCR := Lib.hid hcr
      have HCW := Lib.hid hcr.1
      have h600 := HS.out t htm
      have HUN := Lib.hid (map_d_next (us := us) HTK.out HUD.out)
      obtain ⟨nm, cs, key, ref, par, TA, tc⟩ := t
      simp only at h600 d0 d1 d2 d3 d4 HCR
      have hB0l := hl0
      clear htk htw hcr htm hbw HUD
      go_upto_region 6 with fail
      have hlow : Below wr.heap.size wr (wr.alloc (.cells #[.string nm, .slice TA cs.length tc, .int .i64 key, .int .i64 ref, .int .i64 par] 46)) := (by repeat (first | exact Below.refl _ _ | assumption | refine Below.drew ?_ | refine below_drewN ?_ _ | refine Below.alloc ?_ (by simp <;> omega) _))
      have HV := Lib.hid (Blk.new wr #[.string nm, .slice TA cs.length tc, .int .i64 key, .int .i64 ref, .int .i64 par] 46)
      have HGI1 := Lib.hid (HGI.out.low hlow)
      have HB1 := Lib.hid (HB0.out.ext hlow)
      have HCR1 := Lib.hid (HCR.out.ext hlow)
      have hs1 := hlow.size
      generalize wr.alloc (.cells #[.string nm, .slice TA cs.length tc, .int .i64 key, .int .i64 ref, .int .i64 par] 46) = w1 at HV HGI1 HB1 HCR1 hs1 ⊢
      generalize wr.heap.size = B at HV HGI1 hB0l hs1 ⊢
      clear HGI HB0 HCR z0 hl0 hlow d0 d1 d2 d3 d4
      go_cut [] (fun wx => ∃ (CA : Option Addr) (cc base : Nat), Hid (Blk wx B #[.string nm, .slice CA cs.length cc, .int .i64 key, .int .i64 ref, .int .i64 par] 46) ∧ Hid (wx.ownsRow base 86 3 (.slice CA cs.length cc) cs.length (ccells cs)) ∧ Hid (Below B w1 wx))
      case first =>
        have hv := HV.out
        rcases TA with _ | ad
        · obtain rfl : cs = [] := by
            rcases cs with _ | ⟨v, l⟩
            · rfl
            · obtain ⟨_, _, h, _⟩ := HCR1.out.2.2 (by simp)
              cases h
          clear HGI1 HB1 HCR1
          obtain ⟨w20, rfl, lt⟩ := blk_put hv
          obtain ⟨pc, pf, pS⟩ := putBlk_facts (w := w20) 46 lt
          clear hv HV hs1
          go_wp2_with fail
          go_meet
          refine ⟨none, 0, 0, putBlk_blk _ _ lt, World.ownsRow_nil _ _ _ _, ?_⟩
          have := putBlk_below (w := putBlk w20 B #[.string nm, .slice none ([] : List Co).length tc, .int .i64 key, .int .i64 ref, .int .i64 par] 46) #[.string nm, .slice none 0 0, .int .i64 key, .int .i64 ref, .int .i64 par] 46 (Below.refl B _) (Nat.le_refl B)
          rwa [put_put'] at this
        · have hc : ∀ j u, (ccells cs)[j]? = some u → w1.cell? (ad.add j) = some u := by
            rcases cs with _ | ⟨v, l⟩
            · intro j u h; simp [ccells] at h
            · obtain ⟨b', off', h, _⟩ := HCR1.out.2.2 (by simp)
              injection h with h
              subst h
              exact HCR1.out.cells_
          have HCC := Lib.hid hc
          have h0n : w1.ownsRow w1.heap.size 86 3 (.slice none 0 0) 0 [] := ⟨rfl, .inl ⟨rfl, rfl⟩⟩
          obtain ⟨_, y1, _, _, _⟩ := blk5 hv
          have lv := hv.lt
          clear HGI1 HB1 HCR1 hc hv
          go_wp2_with (at_builtin; refine wpList_append_own _ rfl _ _ 44 rfl w1.heap.size 86 i1 _ 3 24 Tryz.underlying44 hi1 hx0 hx1 hx2 rfl (by decide) (.slice none 0 0) 0 [] rfl h0n ad cs.length tc (ccells cs) rfl (ccells_length cs) HCC.out (ccells_one cs) ?c3 ?c4 ?c5 ?_)
          case c3 => simp only [maxLen]; omega
          case c4 => omega
          intro v' w2 hown hg _
          have hb12 : Below w1.heap.size w1 w2 := (Below.refl _ _).grown hg (Nat.le_refl _) (by simp [Value.ownBlock])
          obtain ⟨CA, cc, rfl⟩ : ∃ CA cc, v' = .slice CA cs.length cc := by
            rcases hown.2 with ⟨rfl, h⟩ | ⟨g, cap, cur, rfl, _⟩
            · exact ⟨none, 0, by rw [h]⟩
            · exact ⟨_, _, rfl⟩
          have hv2 := HV.out.ext hb12
          have HO := Lib.hid (own_below_put hown hv2 (by decide) #[.string nm, .slice CA cs.length cc, .int .i64 key, .int .i64 ref, .int .i64 par])
          have HBB := Lib.hid (putBlk_below (w := w2) #[.string nm, .slice CA cs.length cc, .int .i64 key, .int .i64 ref, .int .i64 par] 46 (Below.mono hb12 (Nat.le_of_lt lv)) (Nat.le_refl B))
          clear hown hg hb12 h0n y1 HCC
          obtain ⟨w20, rfl, lt⟩ := blk_put hv2
          rw [put_put'] at HO HBB
          obtain ⟨pc, pf, pS⟩ := putBlk_facts (w := w20) 46 lt
          clear hv2
          go_wp2_with fail
          go_meet
          exact ⟨CA, cc, w1.heap.size, putBlk_blk _ _ lt, HO, HBB⟩
      case rest =>
        obtain ⟨CA, cc, base, HTB, HCO, HBL⟩ := hcut
        rename World => w2
        have HGI2 := HGI1.out.low HBL.out
        have HB2 := Lib.hid (blk_low HB1.out HBL.out hB0l)
        have hsw := HBL.out.size
        clear HV HGI1 HB1 HCR1 HBL
        obtain ⟨⟨o1, o2, o3, o4, o5, o6⟩, hr0, hsb, hTo, hTl, hTk, hbw⟩ := HGI2
        obtain ⟨y0, y1, y2, y3, y4⟩ := blk5 HTB.out
        have z0 := hsb.cell 0
        simp only [List.getElem?_toArray, List.getElem?_cons_zero] at z0
        have hltS := hsb.lt
        have hltB := HTB.out.lt
        have HR0 := Lib.hid hr0
        have HSB := Lib.hid hsb
        have HTKK := Lib.hid hTk
        have hszw := hbw.size
        have HJ := Lib.hid hul
        rw [hul] at z0 hTo
        clear hr0 hsb hTk hTl hul o6
        go_wp2_with (at_builtin; refine wpList_append_own _ rfl _ _ 22 rfl w.heap.size 46 i2 _ 5 64 Tryz.underlying22 hi2 hy0 hy1 hy2 rfl (by decide) _ k _ rfl (hTo.alloc _) ⟨w2.heap.size, 0, none⟩ 1 1 [.string nm, .slice CA cs.length cc, .int .i64 key, .int .i64 ref, .int .i64 par] rfl rfl (cells_blk5 (Blk.new _ _ _)) ?d2 ?d3 ?d4 ?d5 ?_)
        case d2 => simp [Value.oneCell']
        case d3 => simp only [maxLen]; omega
        case d4 => omega
        case d5 => first | omega | (simp; omega)
        intro v' w9 hown3 hg3 _
        obtain ⟨A2, c2, rfl⟩ := own_form hown3
        have hoL := hTo.alloc (.cells #[.string nm, .slice CA cs.length cc, .int .i64 key, .int .i64 ref, .int .i64 par] 46)
        have hbw9 : Below w.heap.size w w9 := (hbw.alloc hszw _).grown hg3 (by simp; omega) (own_ge hTo)
        have HB9 := Lib.hid ((HB2.out.old _).grown hoL (by decide) hg3)
        have HR09 := Lib.hid ((HR0.out.old _).grown hoL (by decide) hg3)
        have hSB9 := (HSB.out.old (.cells #[.string nm, .slice CA cs.length cc, .int .i64 key, .int .i64 ref, .int .i64 par] 46)).grown hoL (by decide) hg3
        have HCO9 := Lib.hid (own_grown (HCO.out.alloc (.cells #[.string nm, .slice CA cs.length cc, .int .i64 key, .int .i64 ref, .int .i64 par] 46)) hg3 (own_far (HCO.out.alloc _) hoL (by decide)))
        have hs89 : w2.heap.size ≤ w9.heap.size := by have := hg3.size; simp at this; omega
        have HTK9 : Hid (∀ t ∈ us, TOk w9.heap.size t w9) := fun t ht => by
          obtain ⟨p1, p2, p3, p4, base, p5⟩ := HTKK.out t ht
          exact ⟨p1, p2, p3, fun g hg => by have := p4 g hg; omega, base, own_grown (p5.alloc _) hg3 (own_far (p5.alloc _) hoL (by decide))⟩
        have HTN9 : Hid (TOk w9.heap.size ⟨nm, cs, key, ref, par, CA, cc⟩ w9) :=
          ⟨HTW.out, HCW.out, by simp only; omega, obl_own HCO9.out, base, HCO9.out⟩
        have HLN : Hid ((us ++ [(⟨nm, cs, key, ref, par, CA, cc⟩ : Ta)]).length = k + 1) := by show _ = _; rw [List.length_append, HJ.out]; rfl
        have HTO9 : Hid (w9.ownsRow w.heap.size 46 5 (.slice A2 (k + 1) c2) (k + 1) (tcells (us ++ [(⟨nm, cs, key, ref, par, CA, cc⟩ : Ta)]))) := by
          show World.ownsRow _ _ _ _ _ _ _
          unfold tcells
          rw [List.flatMap_append]
          exact hown3
        have HOB9 := Lib.hid (obl_own HTO9.out)
        clear hown3 hg3 hoL HB2 HCO HTB HR0 HSB HTKK HCO9 hTo hbw y0 y1 y2 y3 y4 z0 hltS hltB hs89
        have HB10 := Lib.hid (putBlk_ne (t := 24) (cs := #[.slice A2 (k + 1) c2]) HB9.out q5)
        have HGI10 : Hid (GI w r0 sb (putBlk w9 sb #[.slice A2 (k + 1) c2] 24).heap.size A2 c2 (us ++ [(⟨nm, cs, key, ref, par, CA, cc⟩ : Ta)]) (putBlk w9 sb #[.slice A2 (k + 1) c2] 24)) := by
          have hl := hSB9.lt
          have hl0 := HR09.out.lt
          refine ⟨⟨o1, o2, by rw [putBlk_size]; exact hl0, by rw [putBlk_size]; exact hl, o5, by rw [HLN.out]; omega⟩, putBlk_ne HR09.out o5, ?_, ?_, ?_, ?_, putBlk_below _ _ hbw9 o2⟩
          · rw [HLN.out]
            exact putBlk_blk _ _ hl
          · rw [HLN.out]
            exact own_below_put HTO9.out hSB9 (by decide) _
          · rw [HLN.out, putBlk_size]
            exact HOB9.out
          · rw [putBlk_size]
            intro t ht
            have key' : ∀ u, TOk w9.heap.size u w9 → TOk w9.heap.size u (putBlk w9 sb #[.slice A2 (k + 1) c2] 24) := fun u hu => by
              obtain ⟨p1, p2, p3, p4, base, p5⟩ := hu
              exact ⟨p1, p2, p3, p4, base, own_below_put p5 hSB9 (by decide) _⟩
            rcases List.mem_append.1 ht with h | h
            · exact key' t (HTK9.out t h)
            · obtain rfl : t = _ := by simpa using h
              exact key' _ HTN9.out
        have HUD2 := Lib.hid (HUN.out CA cc)
        clear HB9 HR09 HTK9 HTN9 HTO9 HOB9 hbw9 HUN
        obtain ⟨w23, rfl, lt⟩ := blk_put hSB9
        rw [put_put'] at HB10 HGI10
        obtain ⟨pc, pf, pS⟩ := putBlk_facts (w := w23) 24 lt
        clear hSB9
        go_wp2_with fail
        go_roundw
        case rel => exact ⟨k + 1, A2, c2, us ++ [⟨nm, cs, key, ref, par, CA, cc⟩], by go_num, by omega, HLN.out, HUD2, HB10, HGI10⟩
        case measure => simp [intOf]; omega
    · have hke : k = ts.length := by omega
      clear hul
      have HUE : Hid (us.map Ta.d = ts.map Ta.d) := by
        show _ = _
        rw [HUD.out, hke, List.take_length]
      clear hke
      have hGr := HGI.out.2.1
      have h8 := (HGI.out.2.2.1).cell 0
      simp only [List.getElem?_toArray, List.getElem?_cons_zero] at h8
      have hl8 := (HGI.out.2.2.1).lt
      have HGB := Lib.hid (HGI.out.2.2.2.2.2.2)
      have HROW := Lib.hid (fun cs => HGI.out.trow_put hGr cs)
      have HOWT := Lib.hid (fun cs => HGI.out.own_put hGr cs)
      have h8' : ∀ cs, (putBlk wr r0 cs 24).cell? ⟨sb, 0, none⟩ = some (.slice A' us.length c') := fun cs => by
        have e : putBlk wr r0 #[.slice none 0 0] 24 = wr := putBlk_self hGr
        have := putBlk_cell_ne (w := wr) (Ne.symm q3) #[.slice none 0 0] cs 24 0
        rw [this, e]
        exact h8
      have z0' : ∀ cs, (putBlk wr r0 cs 24).cell? ⟨X, 0, none⟩ = some (.slice A ts.length c) := fun cs => by
        have e : putBlk wr r0 #[.slice none 0 0] 24 = wr := putBlk_self hGr
        have := putBlk_cell_ne (w := wr) q4 #[.slice none 0 0] cs 24 0
        rw [this, e]
        exact z0
      clear h8 HGI HB0 hbw z0 HUD
      obtain ⟨w20, rfl, lt⟩ := blk_put hGr
      obtain ⟨pc, pf, pS⟩ := putBlk_facts (w := w20) 24 lt
      have h9 := h8' #[.slice none 0 0]
      have z9 := z0' #[.slice none 0 0]
      rw [put_put'] at h9 z9
      have HROW2 := Lib.hid (HROW.out #[.slice A' us.length c'])
      rw [put_put'] at HROW2
      have HOWT2 := Lib.hid (HOWT.out #[.slice A' us.length c'])
      rw [put_put'] at HOWT2
      clear hGr h8' z0' HROW HOWT
      go_wp2_with fail
      refine bodyPost_ret (v := .agg #[.slice A' us.length c']) (by simp [results, Tryz.results40, go_sem, pc]) rfl ?_
      exact ⟨putBlk_belows HGB.out (by rw [HX.out]; exact q1) _, us, A', c', rfl, HROW2.out, HUE.out, HOWT2.out⟩
end Go.Proofs.YtgklopgeimjgiaaGreatDoor

/- SchemaBack's walk: what was put is got; of what is got the bytes are what it was got of. -/
namespace Go.Proofs.YtgklopgeimjgiaaGreatDoor
open Go.RowKit


end Go.Proofs.YtgklopgeimjgiaaGreatDoor
