/- Texts joined by a tool: contracts and walks of this claim. -/
import Derived.Test.YtfekohonidggjaaGreatDoorB8
import Derived.Test.YtfekohonidggjaaGreatDoorB10
import Derived.BigRegion
import Derived.Lib.AppendIntMem
import Derived.Shelf.Unicode.PredsPay
namespace Go.Proofs.YtfekohonidggjaaGreatDoor
open Go.RowKit
def sameS (ts us : List Ta) : Bool := decide (ts.map Ta.d = us.map Ta.d)
theorem takeS {ts us : List Ta} {k : Nat} {t u : Ta} (h : (ts.take k).map Ta.d = (us.take k).map Ta.d) (ht : ts[k]? = some t) (hu : us[k]? = some u) (e : t.d = u.d) : Hid ((ts.take (k + 1)).map Ta.d = (us.take (k + 1)).map Ta.d) := by
 show _ = _
 rw [take_snoc ht, take_snoc hu, List.map_append, List.map_append, h]
 simp [e]
theorem notS {ts us : List Ta} {k : Nat} {t u : Ta} (ht : ts[k]? = some t) (hu : us[k]? = some u) (e : t.d ≠ u.d) : sameS ts us = false := by
 refine decide_eq_false fun h => e ?_
 have h1 : (ts.map Ta.d)[k]? = some t.d := by rw [List.getElem?_map, ht]; rfl
 rw [h, List.getElem?_map, hu] at h1
 exact (Option.some.inj h1).symm
theorem endS {ts us : List Ta} (hl : ts.length = us.length) (h : (ts.take ts.length).map Ta.d = (us.take ts.length).map Ta.d) : sameS ts us = true := by
 refine decide_eq_true ?_
 rw [List.take_length, hl, List.take_length] at h
 exact h
theorem strne {a b : ByteArray} (h : ¬ a = b) : (a.toList == b.toList) = false ∧ (!a.toList == b.toList) = true := by
 have e : (a.toList == b.toList) = false := by
  rw [beq_eq_false_iff_ne]
  intro e
  apply h
  apply str_inj
  rw [Lib.toList_data, Lib.toList_data] at e
  exact e
 exact ⟨e, by rw [e]; rfl⟩
theorem takeC {l m : List Co} {k : Nat} {c : Co} (h : l.take k = m.take k) (hl : l[k]? = some c) (hm : m[k]? = some c) : Hid (l.take (k + 1) = m.take (k + 1)) := by
 show _ = _
 rw [take_snoc hl, take_snoc hm, h]
set_option maxRecDepth 100000 in
theorem neqC_ne (a a' : ByteArray) (k k' : Int) (n n' : Bool) (h : (⟨a, k, n⟩ : Co) ≠ ⟨a', k', n'⟩) (w : World) :
 (binOp .neq 111 (.agg #[.string a, .int .u8 k, .bool n]) (.agg #[.string a', .int .u8 k', .bool n'])).run Tryz.prog w = .ok (.bool true) w := by
 go_simp
 intro ha
 have := toList_inj ha
 subst this
 intro hk hn
 apply h
 simp_all
set_option maxRecDepth 100000 in
theorem neqC_eq (a : ByteArray) (k : Int) (n : Bool) (w : World) :
 (binOp .neq 111 (.agg #[.string a, .int .u8 k, .bool n]) (.agg #[.string a, .int .u8 k, .bool n])).run Tryz.prog w = .ok (.bool false) w := by
 go_simp
set_option maxRecDepth 100000 in
set_option maxHeartbeats 1000000 in
theorem sameS_any (ts us : List Ta) (A B : Option Addr) (c d : Nat) (w : World) (ht : TRow w A c ts) (hu : TRow w B d us) :
 Calls Tryz.prog 37 #[.agg #[.slice A ts.length c], .agg #[.slice B us.length d]] w fun r w' => r = .returned (.bool (sameS ts us)) ∧ Below w.heap.size w w' := by
 have hlen := ht.2.1
 have hlen2 := hu.2.1
 have HT := hd_ ht
 have HU := hd_ hu
 clear ht hu
 by_cases hne : ts.length = us.length
 · generalize hP : sameS ts us = P
   have HP := hd_ hP
   have HN := hd_ hne
   have hb1 : ((ts.length : Int) != (us.length : Int)) = false := by simp [hne]
   have hle : ts.length ≤ us.length := by omega
   clear hP hne
   go_enter Tryz.func37, Tryz.ntmps37
   have h0 : Blk ((w.alloc (.cells #[.slice A ts.length c] 24)).alloc (.cells #[.slice B us.length d] 24)) w.heap.size #[.slice A ts.length c] 24 := (Blk.new w #[.slice A ts.length c] 24).old _
   have h1 : Blk ((w.alloc (.cells #[.slice A ts.length c] 24)).alloc (.cells #[.slice B us.length d] 24)) (w.heap.size + 1) #[.slice B us.length d] 24 := (by repeat (first | exact Blk.at (by simp) | assumption | refine Blk.drew ?_ | refine Blk.old ?_ _))
   have hC : Below w.heap.size w ((w.alloc (.cells #[.slice A ts.length c] 24)).alloc (.cells #[.slice B us.length d] 24)) := (by repeat (first | exact Below.refl _ _ | assumption | refine Below.drew ?_ | refine below_drewN ?_ _ | refine Below.alloc ?_ (by simp <;> omega) _))
   have HA := hd_ h0
   have HB := hd_ h1
   have HC := hd_ hC
   clear h0 h1 hC
   go_wp2_with fail
   clear hb1
   have hw2 : w.heap.size + 1 + 1 = ((w.alloc (.cells #[.slice A ts.length c] 24)).alloc (.cells #[.slice B us.length d] 24)).heap.size := by simp
   generalize (w.alloc (.cells #[.slice A ts.length c] 24)).alloc (.cells #[.slice B us.length d] 24) = Wq at HA HB HC hw2 ⊢
   generalize hw1 : w.heap.size + 1 = w1 at HB hw2 ⊢
   have HW1 := hd_ hw1
   have HW2 := hd_ hw2
   clear hw1 hw2
   go_loopw [5] (fun i wr => ∃ k : Nat, k ≤ ts.length ∧ i = .int .i64 k ∧ Hid ((ts.take k).map Ta.d = (us.take k).map Ta.d) ∧ Hid (Below Wq.heap.size Wq wr)) (fun i _ => ts.length - (intOf i).toNat)
   case atStart => exact ⟨0, by omega, rfl, (by simp : _ = _), Below.refl _ _⟩
   case round =>
    obtain ⟨k, hk1, rfl, HS, HBW⟩ := hrel
    by_cases hlt : k < ts.length
    · have HBW' := hd_ (bt HC.out HBW.out)
      obtain ⟨b, off, t, rfl, hb, hlk, hmem, hwf, hcr, c0, c1, c2, c3, c4⟩ := (HT.out.ext HBW'.out).at_ hlt
      obtain ⟨b', off', u, rfl, hb', hlk', hmem', hwf', hcr', d0, d1, d2, d3, d4⟩ := (HU.out.ext HBW'.out).at_ (Nat.lt_of_lt_of_le hlt hle)
      have HL := hd_ hlk
      have HL' := hd_ hlk'
      have HCR := hd_ hcr
      have HCR' := hd_ hcr'
      have g0 := (HA.out.ext HBW.out).cell 0
      have g1 := (HB.out.ext HBW.out).cell 0
      simp only [List.getElem?_toArray, List.getElem?_cons_zero] at g0 g1
      clear hlk hlk' hmem hmem' hwf hwf' hcr hcr'
      have i0 : (0 : Int) ≤ k := by omega
      have i1 : (k : Int) < ts.length := by omega
      have i2 : (k : Int) < us.length := by omega
      have l1 := (HA.out.ext HBW.out).lt
      have l2 := (HB.out.ext HBW.out).lt
      obtain ⟨nm, cs, key, ref, par, TA, tc⟩ := t
      obtain ⟨nm', cs', key', ref', par', TA', tc'⟩ := u
      simp only at c0 c1 c2 c3 c4 d0 d1 d2 d3 d4 HCR HCR'
      go_upto_region 6 with fail
      go_cut [6, 7] (fun p q wx => ∃ b1 b2, p = .pointer (some ⟨b1, 0, none⟩) ∧ q = .pointer (some ⟨b2, 0, none⟩) ∧ Hid (Blk wx b1 #[.string nm, .slice TA cs.length tc, .int .i64 key, .int .i64 ref, .int .i64 par] 66) ∧ Hid (Blk wx b2 #[.string nm', .slice TA' cs'.length tc', .int .i64 key', .int .i64 ref', .int .i64 par'] 66) ∧ Hid (Below wr.heap.size wr wx))
      case first =>
       go_region
       · go_wp2_with fail
         go_meet
         exact ⟨_, _, rfl, rfl, (Blk.new wr #[.string nm, .slice TA cs.length tc, .int .i64 key, .int .i64 ref, .int .i64 par] 66).old _, (by have := Blk.new (wr.alloc (.cells #[.string nm, .slice TA cs.length tc, .int .i64 key, .int .i64 ref, .int .i64 par] 66)) #[.string nm', .slice TA' cs'.length tc', .int .i64 key', .int .i64 ref', .int .i64 par'] 66; simp only [World.size_alloc] at this; exact this), Below.drew (by repeat (first | exact Below.refl _ _ | assumption | refine Below.drew ?_ | refine below_drewN ?_ _ | refine Below.alloc ?_ (by simp <;> omega) _))⟩
       · go_wp2_with fail
         go_meet
         exact ⟨_, _, rfl, rfl, (by have := Blk.new (wr.alloc (.cells #[.string nm', .slice TA' cs'.length tc', .int .i64 key', .int .i64 ref', .int .i64 par'] 66)) #[.string nm, .slice TA cs.length tc, .int .i64 key, .int .i64 ref, .int .i64 par] 66; simp only [World.size_alloc] at this; exact this), (Blk.new wr #[.string nm', .slice TA' cs'.length tc', .int .i64 key', .int .i64 ref', .int .i64 par'] 66).old _, Below.drew (by repeat (first | exact Below.refl _ _ | assumption | refine Below.drew ?_ | refine below_drewN ?_ _ | refine Below.alloc ?_ (by simp <;> omega) _))⟩
      case rest =>
       obtain ⟨b1, b2, rfl, rfl, HB1, HB2, HB3⟩ := hcut
       rename World => wx
       obtain ⟨y0, y1, y2, y3, y4⟩ := blk5 HB1.out
       obtain ⟨z0, z1, z2, z3, z4⟩ := blk5 HB2.out
       have hl3 := HB3.out.size
       have HC3 := hd_ (HCR.out.ext HB3.out)
       have HC3' := hd_ (HCR'.out.ext HB3.out)
       clear c0 c1 c2 c3 c4 d0 d1 d2 d3 d4 g0 g1 HCR HCR' hb hb'
       by_cases e1 : nm = nm'
       · subst e1
         by_cases e2 : key = key'
         · subst e2
           by_cases e3 : ref = ref'
           · subst e3
             by_cases e4 : par = par'
             · subst e4
               by_cases e5 : cs.length = cs'.length
               · have q5 : ((cs.length : Int) != (cs'.length : Int)) = false := by simp [e5]
                 have HE5 := hd_ e5
                 have hcl := HC3.out.2.1
                 have hcl' : cs.length ≤ cs'.length := by omega
                 clear e5
                 go_wp2_with fail
                 clear q5
                 go_loopw [8] (fun i wy => ∃ j : Nat, j ≤ cs.length ∧ i = .int .i64 j ∧ Hid (cs.take j = cs'.take j) ∧ Hid (Below wx.heap.size wx wy)) (fun i _ => cs.length - (intOf i).toNat)
                 case atStart => exact ⟨0, by omega, rfl, (by simp : _ = _), Below.refl _ _⟩
                 case round =>
                  obtain ⟨j, hj1, rfl, HSJ, HBJ⟩ := hrel
                  have HB3 := hd_ (bt HB3.out HBJ.out)
                  have x1 := (HB1.out.ext HBJ.out).cell 1
                  have x2 := (HB2.out.ext HBJ.out).cell 1
                  simp only [List.getElem?_toArray, List.getElem?_cons_zero, List.getElem?_cons_succ] at x1 x2
                  have lx1 := (HB1.out.ext HBJ.out).lt
                  have lx2 := (HB2.out.ext HBJ.out).lt
                  clear y0 y1 y2 y3 y4 z0 z1 z2 z3 z4
                  by_cases hjl : j < cs.length
                  · obtain ⟨bb, of, v, rfl, hbb, hv, _, _, c0, c1, c2⟩ := (HC3.out.ext HBJ.out).at_ hjl
                    obtain ⟨bb', of', v', rfl, hbb', hv', _, _, c0', c1', c2'⟩ := (HC3'.out.ext HBJ.out).at_ (Nat.lt_of_lt_of_le hjl hcl')
                    have HV := hd_ hv
                    have HV' := hd_ hv'
                    have m1 : (j : Int) < cs.length := by omega
                    have m2 : (j : Int) < cs'.length := by omega
                    have m0 : (0 : Int) ≤ j := by omega
                    clear hv hv'
                    by_cases hvv : v = v'
                    · subst hvv
                      obtain ⟨va, vk, vn⟩ := v
                      simp only at c0 c1 c2 c0' c1' c2'
                      have hq := neqC_eq va vk vn
                      go_wp2_with fail
                      go_quiet (fail)
                      go_wp2_with fail
                      go_roundw
                      case rel => exact ⟨j + 1, by omega, by go_num, takeC HSJ.out HV.out HV'.out, by show Below _ _ _; have := HBJ.out; repeat (first | assumption | refine Below.drew ?_ | refine below_drewN ?_ _)⟩
                      case measure => simp [intOf]; omega
                    · have HNE := hd_ hvv
                      clear hvv
                      obtain ⟨va, vk, vn⟩ := v
                      obtain ⟨xa, xk, xn⟩ := v'
                      simp only at c0 c1 c2 c0' c1' c2'
                      have hq := neqC_ne va xa vk xk vn xn HNE.out
                      have hB9 := bt HBW'.out HB3.out
                      go_wp2_with fail
                      go_quiet (fail)
                      go_wp2_with fail
                      go_ret
                      refine ⟨ret_bool ?_, by repeat (first | assumption | refine Below.drew ?_ | refine below_drewN ?_ _)⟩
                      rw [← HP.out]
                      refine (notS HL.out HL'.out ?_).symm
                      simp only [Ta.d, ne_eq, Prod.mk.injEq]
                      intro e
                      have e1 := HV.out
                      rw [e.2.1, HV'.out] at e1
                      exact HNE.out (Option.some.inj e1.symm)
                  · have hj : j = cs.length := by omega
                    have HJ := hd_ hj
                    clear hj
                    go_wp2_with fail
                    go_roundw
                    case rel =>
                     refine ⟨k + 1, by omega, by go_num, takeS HS.out HL.out HL'.out ?_, bt HBW.out HB3.out⟩
                     have e := HSJ.out
                     rw [HJ.out, List.take_length, HE5.out, List.take_length] at e
                     simp only [Ta.d, e]
                    case measure => simp [intOf]; omega
               · have HNE := hd_ e5
                 have q5 : ((cs.length : Int) != (cs'.length : Int)) = true := by rw [bne_iff_ne]; omega
                 clear e5
                 go_wp2_with fail
                 go_ret
                 refine ⟨ret_bool ?_, bt HBW'.out HB3.out⟩
                 rw [← HP.out]
                 refine (notS HL.out HL'.out ?_).symm
                 simp only [Ta.d, ne_eq, Prod.mk.injEq]
                 intro e
                 exact HNE.out (by rw [e.2.1])
             · have HNE := hd_ e4
               have q4 : (par != par') = true := by rw [bne_iff_ne]; exact e4
               clear e4
               go_wp2_with fail
               go_ret
               refine ⟨ret_bool ?_, bt HBW'.out HB3.out⟩
               rw [← HP.out]
               refine (notS HL.out HL'.out ?_).symm
               simp only [Ta.d, ne_eq, Prod.mk.injEq]
               intro e
               exact HNE.out e.2.2.2.2
           · have HNE := hd_ e3
             have q3 : (ref != ref') = true := by rw [bne_iff_ne]; exact e3
             clear e3
             go_wp2_with fail
             go_ret
             refine ⟨ret_bool ?_, bt HBW'.out HB3.out⟩
             rw [← HP.out]
             refine (notS HL.out HL'.out ?_).symm
             simp only [Ta.d, ne_eq, Prod.mk.injEq]
             intro e
             exact HNE.out e.2.2.2.1
         · have HNE := hd_ e2
           have q2 : (key != key') = true := by rw [bne_iff_ne]; exact e2
           clear e2
           go_wp2_with fail
           go_ret
           refine ⟨ret_bool ?_, bt HBW'.out HB3.out⟩
           rw [← HP.out]
           refine (notS HL.out HL'.out ?_).symm
           simp only [Ta.d, ne_eq, Prod.mk.injEq]
           intro e
           exact HNE.out e.2.2.1
       · have HNE := hd_ e1
         obtain ⟨q1, q1'⟩ := strne e1
         clear e1
         go_wp2_with fail
         go_ret
         refine ⟨ret_bool ?_, bt HBW'.out HB3.out⟩
         rw [← HP.out]
         refine (notS HL.out HL'.out ?_).symm
         simp only [Ta.d, ne_eq, Prod.mk.injEq]
         intro e
         exact HNE.out e.1
    · have hk : k = ts.length := by omega
      have HK := hd_ hk
      have g0 := (HA.out.ext HBW.out).cell 0
      simp only [List.getElem?_toArray, List.getElem?_cons_zero] at g0
      clear hk
      go_wp2_with fail
      go_ret
      refine ⟨ret_bool ?_, bt HC.out HBW.out⟩
      rw [← HP.out]
      have e := HS.out
      rw [HK.out] at e
      exact (endS HN.out e).symm
 · have hb1 : ((ts.length : Int) != (us.length : Int)) = true := by
    rw [bne_iff_ne]; omega
   have e : sameS ts us = false := decide_eq_false (fun e => hne (by have := congrArg List.length e; simpa using this))
   rw [e]
   clear e hne
   go_enter Tryz.func37, Tryz.ntmps37
   go_wp2_with fail
   go_ret
   exact ⟨rfl, (by repeat (first | exact Below.refl _ _ | assumption | refine Below.drew ?_ | refine below_drewN ?_ _ | refine Below.alloc ?_ (by simp <;> omega) _))⟩
structure LayS (w : World) : Prop where
 tabs : Tabs w
 pow : Lib.TabIs Tryz.prog w "internal/strconv.uint64pow10" .u64 Lib.pow10Tab
 ml : ∃ m, w.cell? ⟨2, 0, none⟩ = some (.int .i64 m)
 es : ∃ te pe, w.cell? ⟨5, 0, none⟩ = some (.iface te pe)
 er : ∃ te pe, w.cell? ⟨6, 0, none⟩ = some (.iface te pe)
theorem LayS.ext {w w' : World} (h : LayS w) (hb : Below w.heap.size w w') : LayS w' := by
 have hc : ∀ {b : Nat} {v : Value}, w.cell? ⟨b, 0, none⟩ = some v → w'.cell? ⟨b, 0, none⟩ = some v := fun h => (hb.cell (p := ⟨_, 0, none⟩) (lt_of_cell h)).trans h
 obtain ⟨m, h1⟩ := h.ml
 obtain ⟨a, b, h2⟩ := h.es
 obtain ⟨c, d, h3⟩ := h.er
 exact ⟨h.tabs.ext hb, TabIs_below (g := 4) (by kernel_rfl) h.pow hb, ⟨m, hc h1⟩, ⟨a, b, hc h2⟩, ⟨c, d, hc h3⟩⟩
theorem formatInt_any (n : Int) (hn : i64B n) (w : World) (hL : LayS w) :
 Calls Tryz.prog 63 #[.int .i64 n, .int .i64 10] w fun r w' => r = .returned (.string (bsO (Lib.itoa n))) ∧ Below w.heap.size w w' :=
 (Tryz.strconv_FormatInt_10 n hn.1 hn.2 w hL.pow).mono fun _ _ ⟨h1, k, os, h2⟩ => ⟨h1, h2 ▸ Lib.below_grow _ w (Nat.le_refl _) k os⟩
theorem itoa_any (n : Int) (hn : i64B n) (w : World) (hL : LayS w) :
 Calls Tryz.prog 68 #[.int .i64 n] w fun r w' => r = .returned (.string (bsO (Lib.itoa n))) ∧ Below w.heap.size w w' :=
 (Tryz.strconv_Itoa n hn.1 hn.2 w hL.pow).mono fun _ _ ⟨h1, k, os, h2⟩ => ⟨h1, h2 ▸ Lib.below_grow _ w (Nat.le_refl _) k os⟩
theorem number_any (n : Int) (hn : i64B n) (w : World) (hL : LayS w) :
 Calls Tryz.prog 30 #[.int .i64 n] w fun r w' => r = .returned (.string (bsO (Lib.itoa n))) ∧ Below w.heap.size w w' := by
 have HI := hd_ (itoa_any n hn w hL)
 clear hL
 go_enter Tryz.func30, Tryz.ntmps30
 go_wp2_with fail
 refine HI.out.mono ?_
 rintro r w1 ⟨rfl, hb⟩
 go_wp2_with fail
 go_ret
 exact ⟨rfl, hb⟩
theorem parse_any (s : ByteArray) (hs : s.size ≤ 281474976710656) (w : World) (hL : LayS w) :
 Calls Tryz.prog 135 #[.string s, .int .i64 10, .int .i64 64] w fun r w' => (∃ (v : Int) (e : Value), r = .returned (.tuple #[.int .i64 v, e]) ∧ ((Lib.parseIntB 64 s.data.toList = .ok v ∧ e = .nilIface) ∨ ((∀ u, Lib.parseIntB 64 s.data.toList ≠ .ok u) ∧ ∃ N, e = .iface 239 (.pointer (some ⟨N, 0, none⟩))))) ∧ Below w.heap.size w w' := by
 obtain ⟨a, b, he⟩ := hL.es
 obtain ⟨c, d, hr⟩ := hL.er
 cases h : Lib.parseIntB 64 s.data.toList
 · rename_i v
   refine (Tryz.strconv_ParseInt_10_at64_ok s (by omega) v h w).mono ?_
   rintro r w' ⟨h1, h2⟩
   refine ⟨⟨v, _, h1, Or.inl ⟨rfl, rfl⟩⟩, ?_⟩
   rcases h2 with rfl | ⟨t, rfl⟩
   · exact Below.refl _ _
   · exact below_bytes _ _ _
 · refine (Tryz.strconv_ParseInt_10_at64_syntax s hs h _ w he (Or.inr ⟨a, b, rfl⟩)).mono ?_
   rintro r w' ⟨N, h1, _, _, h4⟩
   exact ⟨⟨_, _, h1, Or.inr ⟨fun u e => (by cases e), N, rfl⟩⟩, h4⟩
 · refine (Tryz.strconv_ParseInt_10_at64_range s hs h _ w hr (Or.inr ⟨c, d, rfl⟩)).mono ?_
   rintro r w' ⟨N, h1, _, _, h4⟩
   exact ⟨⟨_, _, h1, Or.inr ⟨fun u e => (by cases e), N, rfl⟩⟩, h4⟩
set_option maxRecDepth 100000 in
set_option maxHeartbeats 800000 in
theorem longS_any (s : ByteArray) (hs : s.size ≤ 281474976710656) (w : World) (hL : LayS w) :
 Calls Tryz.prog 99 #[.string s] w fun r w' => r = orGave ((longZ s.data.toList).map fun v => .int .i64 v) ∧ Below w.heap.size w w' := by
 generalize hR : orGave ((longZ s.data.toList).map fun v => .int .i64 v) = R
 have HR := hd_ hR
 have HLW := hd_ hL
 have HP := hd_ (parse_any s hs w hL)
 clear hR hL
 go_enter Tryz.func99, Tryz.ntmps99
 go_wp2_with fail
 refine HP.out.mono ?_
 rintro r w1 ⟨⟨v, e, rfl, hv⟩, hb⟩
 have HB := hd_ hb
 clear hb
 rcases hv with ⟨hv, rfl⟩ | ⟨hv, N, rfl⟩
 · have hrg := parse_range hv
   have HF := hd_ (formatInt_any v hrg w1 (HLW.out.ext HB.out))
   have hz : longZ s.data.toList = if Lib.itoa v = s.data.toList then some v else none := by unfold longZ; rw [hv]
   have HZ := hd_ hz
   clear hz hv
   go_wp2_with fail
   refine HF.out.mono ?_
   rintro r w2 ⟨rfl, hb2⟩
   have hB2 := bt HB.out hb2
   clear hb2
   by_cases he : Lib.itoa v = s.data.toList
   · have he' : bsO (Lib.itoa v) = s := by rw [he, bsO_of]
     have HE := hd_ he
     rw [he']
     clear he he'
     go_wp2_with fail
     refine (need_yes w2).mono ?_
     rintro r w3 ⟨rfl, rfl⟩
     go_wp2_with fail
     go_ret
     exact ⟨by rw [← HR.out, HZ.out, if_pos HE.out]; rfl, hB2⟩
   · have HE := hd_ he
     have hne := strne (fun e : bsO (Lib.itoa v) = s => HE.out (by rw [← e]; rfl))
     generalize bsO (Lib.itoa v) = t at *
     clear he
     go_wp2_with fail
     refine (need_no w2).mono ?_
     rintro r w3 ⟨rfl, rfl⟩
     unfold gaveW
     go_wp2_with fail
     exact ⟨rfl, by rw [← HR.out, HZ.out, if_neg HE.out]; rfl, hB2⟩
 · have hz : longZ s.data.toList = none := by
    unfold longZ
    split
    · next u h => exact absurd h (hv u)
    · rfl
   have HZ := hd_ hz
   clear hz hv
   go_wp2_with fail
   refine (need_no w1).mono ?_
   rintro r w3 ⟨rfl, rfl⟩
   unfold gaveW
   go_wp2_with fail
   exact ⟨rfl, by rw [← HR.out, HZ.out]; rfl, HB.out⟩
theorem dec_snoc {u : Nat} (h : ¬ u < 10) : Lib.decDigits u = Lib.decDigits (u / 10) ++ [UInt8.ofNat (48 + u % 10)] := by
 conv => lhs; rw [Lib.decDigits, dif_neg h]
theorem dec_small {u : Nat} (h : u < 10) : Lib.decDigits u = [UInt8.ofNat (48 + u)] := by rw [Lib.decDigits, dif_pos h]
theorem dec_len (u : Nat) (h : u ≤ 18446744073709551615) : (Lib.decDigits u).length ≤ 20 := by
 rw [Lib.decDigits_length]
 have h2 : ∀ (n v : Nat), v < 10 ^ n → 1 ≤ n → Lib.nDigits v ≤ n := by
  intro n
  induction n with
  | zero => intro v _ h; omega
  | succ n ih =>
   intro v hv _
   by_cases h : v < 10
   · rw [Lib.nDigits_small h]; omega
   · rw [Lib.nDigits_big h]
     have : 1 ≤ n := by
      rcases Nat.eq_zero_or_pos n with h0 | h0
      · subst h0; simp at hv; omega
      · exact h0
     have := ih (v / 10) (by rw [Nat.pow_succ] at hv; omega) this
     omega
 exact h2 20 u (by have : (10 : Nat) ^ 20 = 100000000000000000000 := by decide
                   omega) (by omega)
set_option maxRecDepth 100000 in
set_option maxHeartbeats 800000 in
theorem refdigits_any (u : Int) (h0 : 0 ≤ u) (h1 : u ≤ 18446744073709551615) (w : World) :
 Calls Tryz.prog 73 #[.int .u64 u] w fun r w' => r = .returned (.string (bsO (Lib.decDigits u.toNat))) ∧ Below w.heap.size w w' := by
 generalize hD : Lib.decDigits u.toNat = D
 have HD := hd_ hD
 have hDl : D.length ≤ 20 := by rw [← hD]; exact dec_len _ (by omega)
 clear hD
 go_enter Tryz.func73, Tryz.ntmps73
 go_wp2_with fail
 go_loopw [0, 3] (fun v s wr => ∃ (q : Int) (t : List UInt8), v = .int .u64 q ∧ 0 ≤ q ∧ q ≤ 18446744073709551615 ∧ s = .string (bsO t) ∧ Hid (D = Lib.decDigits q.toNat ++ t) ∧ Below w.heap.size w wr) (fun v _ _ => (intOf v).toNat)
 case atStart => exact ⟨u, [], rfl, h0, h1, rfl, (by rw [← HD.out, List.append_nil] : _ = _), Below.refl _ _⟩
 case round =>
  obtain ⟨q, t, rfl, hq0, hq1, rfl, HT, hbw⟩ := hrel
  have htl : t.length ≤ 20 := by have := congrArg List.length HT.out; rw [List.length_append] at this; omega
  by_cases hq : q ≤ 9
  · have hq' : ¬ (9 : Int) < q := by omega
    have hcv := conv1 wr (48 + q) 1
    have hsn : strOfNums [48 + q] = bsO [UInt8.ofNat (48 + q.toNat)] := by
     rw [strOf1, show (48 + q).toNat = 48 + q.toNat by omega]
     rfl
    rw [hsn] at hcv
    have hcat : (bsO [UInt8.ofNat (48 + q.toNat)]).size + (bsO t).size ≤ 9223372036854775807 := by
     rw [bsO_size, bsO_size]; simp only [List.length_singleton]; omega
    have hnew : bsO [UInt8.ofNat (48 + q.toNat)] ++ bsO t = bsO D := by rw [bsO_app, HT.out, dec_small (by omega)]
    have HN := hd_ hnew
    have hwa : Below w.heap.size w (wr.alloc (.cells #[.int .u8 (48 + q)] 5)) := hbw.alloc hbw.size _
    clear hsn hnew
    generalize bsO [UInt8.ofNat (48 + q.toNat)] = z at *
    go_wp2_with fail
    go_ret
    exact ⟨by show Ending.returned (.string (z ++ bsO t)) = _; rw [HN.out], hwa⟩
  · have hq' : (9 : Int) < q := by omega
    have hcv := conv1 wr (48 + q % 10) 1
    have hsn : strOfNums [48 + q % 10] = bsO [UInt8.ofNat (48 + q.toNat % 10)] := by
     rw [strOf1, show (48 + q % 10).toNat = 48 + q.toNat % 10 by omega]
     rfl
    rw [hsn] at hcv
    have hcat : (bsO [UInt8.ofNat (48 + q.toNat % 10)]).size + (bsO t).size ≤ 9223372036854775807 := by
     rw [bsO_size, bsO_size]; simp only [List.length_singleton]; omega
    have hnew : bsO [UInt8.ofNat (48 + q.toNat % 10)] ++ bsO t = bsO (UInt8.ofNat (48 + q.toNat % 10) :: t) := by rw [bsO_app]; rfl
    have hT : D = Lib.decDigits (q / 10).toNat ++ (UInt8.ofNat (48 + q.toNat % 10) :: t) := by
     rw [HT.out, dec_snoc (by omega), show (q / 10).toNat = q.toNat / 10 by omega]
     simp
    have HT' := hd_ hT
    have HN := hd_ hnew
    have hwa : Below w.heap.size w (wr.alloc (.cells #[.int .u8 (48 + q % 10)] 5)) := hbw.alloc hbw.size _
    clear hsn hnew hT
    generalize bsO [UInt8.ofNat (48 + q.toNat % 10)] = z at *
    go_wp2_with fail
    go_roundw
    case rel => exact ⟨q / 10, _, rfl, by omega, by omega, by rw [HN.out], HT', hwa⟩
    case measure => simp [intOf]; omega
theorem refNumber_any (n : Int) (hn : i64B n) (w : World) :
 Calls Tryz.prog 33 #[.int .i64 n] w fun r w' => r = .returned (.string (bsO (Lib.itoa n))) ∧ Below w.heap.size w w' := by
 obtain ⟨h0, h1⟩ := hn
 by_cases hneg : n < 0
 · have hi : Lib.itoa n = 45 :: Lib.decDigits (-n).toNat := by
    unfold Lib.itoa
    rw [if_pos hneg, show n.natAbs = (-n).toNat by omega]
   have HI := hd_ hi
   have HD := hd_ (refdigits_any (-n) (by omega) (by omega) w)
   have hw1 : IntKind.i64.wrap (n + 1) = n + 1 := IntWalk.i64_in _ (by omega)
   have hw2 : IntKind.i64.wrap (-(n + 1)) = -(n + 1) := IntWalk.i64_in _ (by omega)
   have hw3 : IntKind.u64.wrap (-(n + 1)) = -(n + 1) := IntWalk.u64_in _ (by omega)
   have hw4 : IntKind.u64.wrap (-(n + 1) + 1) = -n := by rw [show -(n + 1) + 1 = -n by omega]; exact IntWalk.u64_in _ (by omega)
   have hcat : (⟨#[45]⟩ : ByteArray).size + (bsO (Lib.decDigits (-n).toNat)).size ≤ 9223372036854775807 := by
    have := dec_len (-n).toNat (by omega)
    rw [bsO_size]
    show 1 + _ ≤ _
    omega
   have hnew : (⟨#[45]⟩ : ByteArray) ++ bsO (Lib.decDigits (-n).toNat) = bsO (Lib.itoa n) := by rw [hi]; exact bsO_app [45] _
   have HN := hd_ hnew
   clear hi hnew
   generalize bsO (Lib.decDigits (-n).toNat) = z at *
   go_enter Tryz.func33, Tryz.ntmps33
   go_wp2_with fail
   refine HD.out.mono ?_
   rintro r w1 ⟨rfl, hb⟩
   go_wp2_with fail
   go_ret
   exact ⟨by show Ending.returned (.string (_ ++ z)) = _; rw [HN.out], hb⟩
 · have hi : Lib.itoa n = Lib.decDigits n.toNat := by
    unfold Lib.itoa
    rw [if_neg hneg]
   have HD := hd_ (refdigits_any n (by omega) (by omega) w)
   rw [← hi] at HD
   have hneg' : ¬ n < 0 := hneg
   have hw3 : IntKind.u64.wrap n = n := IntWalk.u64_in _ (by omega)
   clear hi
   go_enter Tryz.func33, Tryz.ntmps33
   go_wp2_with fail
   refine HD.out.mono ?_
   rintro r w1 ⟨rfl, hb⟩
   go_wp2_with fail
   go_ret
   exact ⟨rfl, hb⟩
theorem longZ_len {l : List UInt8} {v : Int} (h : longZ l = some v) : l ≠ [] ∧ l.length ≤ 20 ∧ l ≠ [45] := by
 obtain ⟨⟨h0, h1⟩, rfl⟩ := longZ_some.1 h
 have key : ∀ n v, v < 10 ^ n → 1 ≤ n → Lib.nDigits v ≤ n := by
  intro n
  induction n with
  | zero => intro v _ h; omega
  | succ n ih =>
   intro v hv _
   by_cases h : v < 10
   · rw [Lib.nDigits_small h]; omega
   · rw [Lib.nDigits_big h]
     have : 1 ≤ n := by
      rcases Nat.eq_zero_or_pos n with h0 | h0
      · subst h0; simp at hv; omega
      · exact h0
     have := ih (v / 10) (by rw [Nat.pow_succ] at hv; omega) this
     omega
 have hp : (10 : Nat) ^ 19 = 10000000000000000000 := by decide
 refine ⟨itoa_ne v, ?_, ?_⟩
 · unfold Lib.itoa
   split
   · rw [List.length_cons, Lib.decDigits_length]
     have := key 19 v.natAbs (by omega) (by omega)
     omega
   · rw [Lib.decDigits_length]
     have := key 19 v.toNat (by omega) (by omega)
     omega
 · unfold Lib.itoa
   split
   · intro e
     injection e with _ e
     exact dec_ne _ e
   · intro e
     have := dec_digit v.toNat 45 (by rw [e]; simp)
     revert this
     decide
theorem len_data (s : ByteArray) : s.data.toList.length = s.size := by simp
theorem wrap_i64 (v : Int) : IntKind.i64.wrap v = if 9223372036854775808 ≤ v % 18446744073709551616 then v % 18446744073709551616 - 18446744073709551616 else v % 18446744073709551616 := by
 simp [IntKind.wrap, IntKind.bits, IntKind.signed]
end Go.Proofs.YtfekohonidggjaaGreatDoor
