/- Texts joined by a tool: contracts and walks of this claim. -/
import Derived.Test.YtceoficoappkpaaGreatDoorF1
import Derived.Test.YtceoficoappkpaaGreatDoorB11
namespace Go.Proofs.YtceoficoappkpaaGreatDoor
open Go.RowKit
theorem str_ne' {a b : ByteArray} (h : ¬ a = b) : (a.toList == b.toList) = false ∧ (!a.toList == b.toList) = true := by
 have e : (a.toList == b.toList) = false := by rw [beq_eq_false_iff_ne]; exact fun e => h (toList_inj e)
 exact ⟨e, by rw [e]; rfl⟩
theorem nm_at {l : List Co} {k : Nat} {c : Co} (h : l[k]? = some c) : (l.map (·.nm))[k]? = some c.nm := by rw [List.getElem?_map, h]; rfl
theorem cols_not2 {t : Ta} (h : namedB (t.cs.map (·.nm)) = false) : colsB t = false := by
 unfold colsB
 rw [h]
 simp
theorem cols_end {t : Ta} (h1 : t.cs.all colK = true) (h2 : namedB (t.cs.map (·.nm)) = true) : colsB t = (decide (1 ≤ t.cs.length ∧ t.cs.length ≤ 8) && (decide (0 ≤ t.key ∧ t.key < t.cs.length) && !(nlAt t.cs t.key))) := by
 unfold colsB
 rw [h1, h2]
 simp
theorem nmem_next {L : List ByteArray} {k : Nat} {s u : ByteArray} (hk : L[k]? = some u) (h : s ∉ L.take k) (hne : ¬ u = s) : Hid (s ∉ L.take (k + 1)) := by
 show ¬ _
 rw [take_snoc hk, List.mem_append]
 rintro (h' | h')
 · exact h h'
 · exact hne (List.mem_singleton.1 h').symm
theorem take_mem {L : List ByteArray} {j k : Nat} {s : ByteArray} (hj : L[j]? = some s) (hjk : j < k) : s ∈ L.take k :=
 List.mem_of_getElem? (i := j) (by rw [List.getElem?_take, if_pos hjk]; exact hj)
set_option maxRecDepth 100000 in
set_option maxHeartbeats 1600000 in
theorem refcols_any (t : Ta) (w : World) (hw : t.wf) (hc : CRow w t.A t.cs) :
  Calls Tryz.prog 114 #[.agg t.cells] w fun r w' => r = .returned (.bool (colsB t)) ∧ Below w.heap.size w w' := by
 obtain ⟨M, hM⟩ : ∃ q, q = colsB t := ⟨_, rfl⟩
 rw [← hM]
 have HCN1 := hd_ (fun (k : Nat) (c : Co) (hk : t.cs[k]? = some c) (h : colK c = false) => hM.trans (cols_not1 hk h))
 have HCN2 := hd_ (fun (h : namedB (t.cs.map (·.nm)) = false) => hM.trans (cols_not2 h))
 have HCE := hd_ (fun h1 h2 => hM.trans (cols_end (t := t) h1 h2))
 have HCR := hd_ hc
 have hcl := hc.2.1
 have HNM := hd_ (fun (s : ByteArray) (W : World) (h : s.size ≤ 140737488355328) => refname_any s W h)
 obtain ⟨nm, cs, key, ref, par, TA, tc⟩ := t
 unfold Ta.cells
 simp only at HCN1 HCN2 HCE HCR hcl ⊢
 obtain ⟨L, hL⟩ : ∃ q, q = cs.map (·.nm) := ⟨_, rfl⟩
 rw [← hL] at HCN2 HCE
 have HLL := hd_ hL
 have HLA := hd_ (fun (k : Nat) (c : Co) (hk : cs[k]? = some c) => (show L[k]? = some c.nm by rw [hL]; exact nm_at hk))
 clear hM hc hw hL
 go_enter Tryz.func114, Tryz.ntmps114
 have h0 : Blk (w.alloc (.cells #[.string nm, .slice TA cs.length tc, .int .i64 key, .int .i64 ref, .int .i64 par] 73)) w.heap.size #[.string nm, .slice TA cs.length tc, .int .i64 key, .int .i64 ref, .int .i64 par] 73 := Blk.new w _ _
 have hC : Below w.heap.size w (w.alloc (.cells #[.string nm, .slice TA cs.length tc, .int .i64 key, .int .i64 ref, .int .i64 par] 73)) := bel1 _ _
 have HA := hd_ h0
 have HC := hd_ hC
 clear h0 hC
 go_wp2_with fail
 generalize w.alloc (.cells #[.string nm, .slice TA cs.length tc, .int .i64 key, .int .i64 ref, .int .i64 par] 73) = Wq at HA HC ⊢
 go_loopw [3] (fun i wr => ∃ k : Nat, k ≤ cs.length ∧ i = .int .i64 k ∧ Hid ((cs.take k).all colK = true) ∧ Hid ((L.take k).all nameB = true ∧ (L.take k).Nodup) ∧ Hid (Below Wq.heap.size Wq wr)) (fun i _ => cs.length - (intOf i).toNat)
 case atStart => exact ⟨0, by omega, rfl, (by simp : _ = _), (⟨by simp, by simp⟩ : _ ∧ _), Below.refl _ _⟩
 case round =>
  obtain ⟨k, hk1, rfl, HS1, HS2, HBW⟩ := hrel
  obtain ⟨g0, g1, g2, g3, g4⟩ := blk5 (HA.out.ext HBW.out)
  have hl0 := (HA.out.ext HBW.out).lt
  by_cases hlt : k < cs.length
  · have HBW' := hd_ (bt HC.out HBW.out)
    obtain ⟨b, off, v, rfl, hbb, hlk, hmem, hwf, c0, c1, c2⟩ := (HCR.out.ext HBW'.out).at_ hlt
    obtain ⟨vn, vk, vl⟩ := v
    have hsz := hwf.1
    simp only at c0 c1 c2 hsz
    have HL := hd_ hlk
    have HLK := hd_ (HLA.out k _ hlk)
    clear hlk hmem hwf
    have HV0 := hd_ (Blk.new wr #[.string vn, .int .u8 vk, .bool vl] 98)
    have HBW5 : Hid (Below Wq.heap.size Wq (wr.alloc (.cells #[.string vn, .int .u8 vk, .bool vl] 98))) := bt HBW.out (by repeat (first | exact Below.refl _ _ | assumption | refine Below.drew ?_ | refine below_drewN ?_ _ | refine Below.alloc ?_ (by simp <;> omega) _))
    go_upto_region 5 with fail
    generalize wr.alloc (.cells #[.string vn, .int .u8 vk, .bool vl] 98) = w5 at HV0 HBW5 ⊢
    generalize wr.heap.size = B at HV0 ⊢
    clear c0 c1 c2 g0 g1 g2 g3 g4 hl0 HBW HBW'
    have v0 := HV0.out.cell 0
    have v1 := HV0.out.cell 1
    simp only [List.getElem?_toArray, List.getElem?_cons_zero, List.getElem?_cons_succ] at v0 v1
    have hlv := HV0.out.lt
    go_wp2_with fail
    refine (HNM.out vn _ hsz).mono ?_
    rintro r w6 ⟨rfl, rfl⟩
    cases hn : nameB vn
    · have HMF : Hid (M = false) := HCN2.out (named_not1 HLK.out hn)
      clear hn
      go_wp2_with fail
      go_ret
      exact ⟨ret_bool HMF.out.symm, bt HC.out HBW5.out⟩
    · have HNY := hd_ hn
      clear hn
      by_cases h1 : vk < 1
      · have HMF : Hid (M = false) := HCN1.out k _ HL.out (decide_eq_false (by simp only; omega))
        go_wp2_with fail
        go_ret
        exact ⟨ret_bool HMF.out.symm, bt HC.out HBW5.out⟩
      · by_cases h5 : 5 < vk
        · have HMF : Hid (M = false) := HCN1.out k _ HL.out (decide_eq_false (by simp only; omega))
          go_wp2_with fail
          go_ret
          exact ⟨ret_bool HMF.out.symm, bt HC.out HBW5.out⟩
        · have HKY : Hid (colK ⟨vn, vk, vl⟩ = true) := decide_eq_true (by simp only; omega)
          go_wp2_with fail
          clear v0 v1 hlv h1 h5
          go_loopw [5] (fun v wp => ∃ j : Nat, j ≤ k ∧ v = .int .i64 j ∧ Hid (vn ∉ L.take j) ∧ Hid (Below w5.heap.size w5 wp)) (fun v _ => k - (intOf v).toNat)
          case atStart => exact ⟨0, by omega, rfl, (by simp : ¬ _), Below.refl _ _⟩
          case round =>
           obtain ⟨j, hj1, rfl, HNO, HBP⟩ := hrel
           by_cases hjk : j < k
           · have HBA := hd_ (bt HBW5.out HBP.out)
             obtain ⟨b', off', u, hA', hbb', hju, _, _, d0, d1, d2⟩ := (HCR.out.ext (bt HC.out HBA.out)).at_ (Nat.lt_trans hjk hlt)
             injection hA' with hA'
             injection hA' with e1 e2
             subst e1; subst e2
             obtain ⟨un, uk, ul⟩ := u
             simp only at d0 d1 d2
             have HJ := hd_ (HLA.out j _ hju)
             obtain ⟨g0, g1, g2, g3, g4⟩ := blk5 (HA.out.ext HBA.out)
             have hl0 := (HA.out.ext HBA.out).lt
             have v0 := (HV0.out.ext HBP.out).cell 0
             simp only [List.getElem?_toArray, List.getElem?_cons_zero] at v0
             have hlv := (HV0.out.ext HBP.out).lt
             clear hju
             have i0 : (0 : Int) ≤ j := by omega
             have i1 : (j : Int) < cs.length := by omega
             go_upto_region 10 with fail
             by_cases he : un = vn
             · subst he
               have HMF : Hid (M = false) := HCN2.out (named_not2 HLK.out (take_mem HJ.out hjk))
               go_quiet (fail)
               go_wp2_with fail
               go_ret
               exact ⟨ret_bool HMF.out.symm, below_drewN (bt HC.out HBA.out) _⟩
             · have HNX := nmem_next HJ.out HNO.out he
               obtain ⟨n1, n2⟩ := str_ne' he
               clear he
               go_quiet (fail)
               go_wp2_with fail
               go_roundw
               case rel => exact ⟨j + 1, by omega, by go_num, HNX, below_drewN HBP.out _⟩
               case measure => simp [intOf]; omega
           · have hje : j = k := by omega
             have HS1' := colk_step HL.out HS1.out HKY.out
             have HS2' := named_step HLK.out HS2.out HNY.out (by rw [← hje]; exact HNO.out)
             clear hje
             go_wp2_with fail
             go_roundw
             case rel => exact ⟨k + 1, by omega, by go_num, HS1', HS2', bt HBW5.out HBP.out⟩
             case measure => simp [intOf]; omega
  · have hke : k = cs.length := by omega
    have hLl : L.length = cs.length := by rw [HLL.out]; simp
    have HE : Hid (M = (decide (1 ≤ cs.length ∧ cs.length ≤ 8) && (decide (0 ≤ key ∧ key < cs.length) && !(nlAt cs key)))) := by
     refine HCE.out ?_ ?_
     · have := HS1.out
       rwa [hke, List.take_length] at this
     · have := HS2.out
       rw [hke, ← hLl, List.take_length] at this
       unfold namedB
       rw [this.1, decide_eq_true this.2]; rfl
    clear hke hLl HS1 HS2
    have HEND := hd_ (bt HC.out HBW.out)
    by_cases h1 : 1 ≤ cs.length
    · by_cases h8 : cs.length ≤ 8
      · rw [decide_eq_true (show 1 ≤ cs.length ∧ cs.length ≤ 8 from ⟨h1, h8⟩), Bool.true_and] at HE
        by_cases hk0 : 0 ≤ key
        · by_cases hkl : key < cs.length
          · rw [decide_eq_true (show 0 ≤ key ∧ key < cs.length from ⟨hk0, hkl⟩), Bool.true_and] at HE
            obtain ⟨kk, rfl⟩ : ∃ kk : Nat, key = kk := ⟨key.toNat, by omega⟩
            obtain ⟨b, off, v, rfl, hbb, hlk, hmem, hwf, c0, c1, c2⟩ := (HCR.out.ext HEND.out).at_ (k := kk) (by omega)
            rw [nlAt_at (c := v) (by simpa using hlk)] at HE
            obtain ⟨vn, vk, vl⟩ := v
            simp only at c0 c1 c2 HE
            clear hlk hmem hwf c0 c1
            go_wp2_with fail
            go_ret
            exact ⟨ret_bool HE.out.symm, HEND.out⟩
          · rw [decide_eq_false (show ¬ (0 ≤ key ∧ key < cs.length) by omega)] at HE
            go_wp2_with fail
            go_ret
            exact ⟨ret_bool HE.out.symm, HEND.out⟩
        · rw [decide_eq_false (show ¬ (0 ≤ key ∧ key < cs.length) by omega)] at HE
          go_wp2_with fail
          go_ret
          exact ⟨ret_bool HE.out.symm, HEND.out⟩
      · rw [decide_eq_false (show ¬ (1 ≤ cs.length ∧ cs.length ≤ 8) by omega)] at HE
        go_wp2_with fail
        go_ret
        exact ⟨ret_bool HE.out.symm, HEND.out⟩
    · rw [decide_eq_false (show ¬ (1 ≤ cs.length ∧ cs.length ≤ 8) by omega)] at HE
      go_wp2_with fail
      go_ret
      exact ⟨ret_bool HE.out.symm, HEND.out⟩
theorem bel_root {ahead : List Ta} {t : Ta} (h1 : t.ref = -1) (h2 : t.par = -1) : belB ahead t = true := by
 unfold belB rootB
 rw [decide_eq_true ⟨h1, h2⟩]
 rfl
theorem bel_no {ahead : List Ta} {t : Ta} (h : ¬ (t.ref = -1 ∧ t.par = -1)) (h2 : ¬ ((0 ≤ t.ref ∧ t.ref < t.cs.length) ∧ t.ref ≠ t.key ∧ 0 ≤ t.par ∧ t.par < ahead.length)) : belB ahead t = false := by
 unfold belB rootB relB
 rw [decide_eq_false h, decide_eq_false h2]
 rfl
theorem bel_kin {ts : List Ta} {k : Nat} {t p : Ta} (hk : k ≤ ts.length) (h : (0 ≤ t.ref ∧ t.ref < t.cs.length) ∧ t.ref ≠ t.key ∧ 0 ≤ t.par ∧ t.par < k) (hp : ts[t.par.toNat]? = some p) :
  belB (ts.take k) t = decide (kAt p.cs p.key = kAt t.cs t.ref) := by
 unfold belB rootB relB kinB
 have hl : (ts.take k).length = k := by rw [List.length_take]; omega
 have hg : (ts.take k)[t.par.toNat]? = some p := by rw [List.getElem?_take, if_pos (by omega)]; exact hp
 rw [decide_eq_false (show ¬ (t.ref = -1 ∧ t.par = -1) by omega), hl, decide_eq_true h, hg]
 rfl
set_option maxRecDepth 100000 in
set_option maxHeartbeats 1600000 in
theorem belongs_any (ts : List Ta) (A : Option Addr) (c : Nat) (k : Nat) (t : Ta) (w : World) (ht : TRow w A c ts) (hk : ts[k]? = some t) (hc : colsB t = true) (hp : ∀ (j : Nat) (p : Ta), j < k → ts[j]? = some p → colsB p = true) :
  Calls Tryz.prog 115 #[.agg #[.slice A ts.length c], .int .i64 k] w fun r w' => r = .returned (.bool (belB (ts.take k) t)) ∧ Below w.heap.size w w' := by
 obtain ⟨M, hM⟩ : ∃ q, q = belB (ts.take k) t := ⟨_, rfl⟩
 rw [← hM]
 have hkl : k < ts.length := (List.getElem?_eq_some_iff.1 hk).1
 have hlen := ht.2.1
 have htl : (ts.take k).length = k := by rw [List.length_take]; omega
 have HROOT := hd_ (fun h1 h2 => hM.trans (bel_root (ahead := ts.take k) (t := t) h1 h2))
 have HNO := hd_ (fun (h : ¬ (t.ref = -1 ∧ t.par = -1)) (h2 : ¬ ((0 ≤ t.ref ∧ t.ref < t.cs.length) ∧ t.ref ≠ t.key ∧ 0 ≤ t.par ∧ t.par < k)) => hM.trans (bel_no h (by rw [htl]; exact h2)))
 have HKIN := hd_ (fun h p hp => hM.trans (bel_kin (ts := ts) (k := k) (t := t) (p := p) (by omega) h hp))
 have HT := hd_ ht
 have HP := hd_ hp
 obtain ⟨b, off, u, rfl, hbb, hu, _, _, hcr, d0, d1, d2, d3, d4⟩ := ht.at_ hkl
 obtain rfl : u = t := Option.some.inj (hu.symm.trans hk)
 have HCR := hd_ hcr
 obtain ⟨_, _, _, hkey, _⟩ := cols_parts hc
 obtain ⟨nm, cs, key, ref, par, TA, tc⟩ := u
 simp only at HROOT HNO HKIN HCR d0 d1 d2 d3 d4 hkey
 clear hM hu hk hc hp ht hcr htl
 go_enter Tryz.func115, Tryz.ntmps115
 have h0 : Blk (w.alloc (.cells #[.slice (some ⟨b, off, none⟩) ts.length c] 24)) w.heap.size #[.slice (some ⟨b, off, none⟩) ts.length c] 24 := Blk.new w #[.slice (some ⟨b, off, none⟩) ts.length c] 24
 have hC : Below w.heap.size w (w.alloc (.cells #[.slice (some ⟨b, off, none⟩) ts.length c] 24)) := bel1 _ _
 have HA := hd_ h0
 have HC := hd_ hC
 have HD1 := hd_ d1
 go_upto_region 1 with fail
 generalize w.alloc (.cells #[.slice (some ⟨b, off, none⟩) ts.length c] 24) = Wq at HA HC h0 hC ⊢
 have s0 := h0.cell 0
 simp only [List.getElem?_toArray, List.getElem?_cons_zero] at s0
 have l0 := h0.lt
 replace d0 := (hC.cell (p := ⟨b, off + k * 5, none⟩) hbb).trans d0
 replace d1 := (hC.cell (p := ⟨b, off + k * 5 + 1, none⟩) hbb).trans d1
 replace d2 := (hC.cell (p := ⟨b, off + k * 5 + 2, none⟩) hbb).trans d2
 replace d3 := (hC.cell (p := ⟨b, off + k * 5 + 3, none⟩) hbb).trans d3
 replace d4 := (hC.cell (p := ⟨b, off + k * 5 + 4, none⟩) hbb).trans d4
 clear h0 hC HD1
 go_upto_region 2 with fail
 have HTB := hd_ (Blk.new Wq #[.string nm, .slice TA cs.length tc, .int .i64 key, .int .i64 ref, .int .i64 par] 73)
 have HC1 : Hid (Below w.heap.size w (Wq.alloc (.cells #[.string nm, .slice TA cs.length tc, .int .i64 key, .int .i64 ref, .int .i64 par] 73))) := bt HC.out (by repeat (first | exact Below.refl _ _ | assumption | refine Below.drew ?_ | refine below_drewN ?_ _ | refine Below.alloc ?_ (by simp <;> omega) _))
 have HA1 := hd_ (HA.out.old (.cells #[.string nm, .slice TA cs.length tc, .int .i64 key, .int .i64 ref, .int .i64 par] 73))
 generalize Wq.alloc (.cells #[.string nm, .slice TA cs.length tc, .int .i64 key, .int .i64 ref, .int .i64 par] 73) = W1 at HTB HC1 HA1 ⊢
 generalize Wq.heap.size = B at HTB ⊢
 clear s0 l0 d0 d1 d2 d3 d4 HA HC
 obtain ⟨y0, y1, y2, y3, y4⟩ := blk5 HTB.out
 have hlB := HTB.out.lt
 by_cases hr : ref = -1
 · subst hr
   by_cases hp : par = -1
   · subst hp
     have HMF := hd_ (HROOT.out rfl rfl)
     go_wp2_with fail
     go_ret
     exact ⟨ret_bool HMF.out.symm, HC1.out⟩
   · have HMF : Hid (M = false) := HNO.out (by omega) (by omega)
     have q1 : ((-1 : Int) == par) = false := by rw [beq_eq_false_iff_ne]; exact fun e => hp e.symm
     go_wp2_with fail
     go_ret
     exact ⟨ret_bool HMF.out.symm, HC1.out⟩
 · by_cases hp : par = -1
   · subst hp
     have HMF : Hid (M = false) := HNO.out (by omega) (by omega)
     have q1 : (ref == -1) = false := by rw [beq_eq_false_iff_ne]; exact hr
     go_wp2_with fail
     go_ret
     exact ⟨ret_bool HMF.out.symm, HC1.out⟩
   · have q1 : (ref == -1) = false := by rw [beq_eq_false_iff_ne]; exact hr
     have q2 : (par == -1) = false := by rw [beq_eq_false_iff_ne]; exact hp
     by_cases hrel : (0 ≤ ref ∧ ref < cs.length) ∧ ref ≠ key ∧ 0 ≤ par ∧ par < k
     · obtain ⟨⟨r0, r1⟩, r2, p0, p1⟩ := hrel
       obtain ⟨pp, rfl⟩ : ∃ q : Nat, par = q := ⟨par.toNat, by omega⟩
       have hpk : pp < k := by omega
       have hpl : pp < ts.length := by omega
       obtain ⟨b', off', u, hA', hbb, hu, _, _, hcr, d0, d1, d2, d3, d4⟩ := (HT.out.ext HC1.out).at_ hpl
       injection hA' with hA'
       injection hA' with e1 e2
       subst e1; subst e2
       have HMK := hd_ (HKIN.out ⟨⟨r0, r1⟩, r2, p0, p1⟩ u (by simpa using hu))
       obtain ⟨_, _, _, hky, _⟩ := cols_parts (HP.out pp u hpk hu)
       obtain ⟨unm, ucs, ukey, uref, upar, UA, uc⟩ := u
       simp only at hcr d0 d1 d2 d3 d4 hky HMK
       have HUR := hd_ hcr
       have s0 := HA1.out.cell 0
       simp only [List.getElem?_toArray, List.getElem?_cons_zero] at s0
       have l0 := HA1.out.lt
       have i1 : (pp : Int) < ts.length := by omega
       have q3 : (ref == key) = false := by rw [beq_eq_false_iff_ne]; exact r2
       clear hu hcr
       go_upto_region 7 with fail
       have HUB := hd_ (Blk.new W1 #[.string unm, .slice UA ucs.length uc, .int .i64 ukey, .int .i64 uref, .int .i64 upar] 73)
       have HC2 : Hid (Below w.heap.size w (W1.alloc (.cells #[.string unm, .slice UA ucs.length uc, .int .i64 ukey, .int .i64 uref, .int .i64 upar] 73))) := bt HC1.out (by repeat (first | exact Below.refl _ _ | assumption | refine Below.drew ?_ | refine below_drewN ?_ _ | refine Below.alloc ?_ (by simp <;> omega) _))
       have HTB2 := hd_ (HTB.out.old (.cells #[.string unm, .slice UA ucs.length uc, .int .i64 ukey, .int .i64 uref, .int .i64 upar] 73))
       have HUR2 := hd_ (HUR.out.ext (show Below W1.heap.size W1 (W1.alloc (.cells #[.string unm, .slice UA ucs.length uc, .int .i64 ukey, .int .i64 uref, .int .i64 upar] 73)) from (by repeat (first | exact Below.refl _ _ | assumption | refine Below.drew ?_ | refine below_drewN ?_ _ | refine Below.alloc ?_ (by simp <;> omega) _))))
       generalize W1.alloc (.cells #[.string unm, .slice UA ucs.length uc, .int .i64 ukey, .int .i64 uref, .int .i64 upar] 73) = W2 at HUB HC2 HTB2 HUR2 ⊢
       generalize W1.heap.size = B2 at HUB ⊢
       clear s0 l0 d0 d1 d2 d3 d4 y0 y1 y2 y3 y4 hlB HTB HC1 HA1 HUR
       obtain ⟨y0, y1, y2, y3, y4⟩ := blk5 HTB2.out
       have hlB := HTB2.out.lt
       obtain ⟨z0, z1, z2, z3, z4⟩ := blk5 HUB.out
       have hlB2 := HUB.out.lt
       obtain ⟨rr, rfl⟩ : ∃ q : Nat, ref = q := ⟨ref.toNat, by omega⟩
       obtain ⟨uu, rfl⟩ : ∃ q : Nat, ukey = q := ⟨ukey.toNat, by omega⟩
       obtain ⟨tb, toff, tv, rfl, _, htv, _, _, _, f1, _⟩ := (HCR.out.ext HC2.out).at_ (k := rr) (by omega)
       obtain ⟨ub, uoff, uv, rfl, _, huv, _, _, _, g1, _⟩ := HUR2.out.at_ (k := uu) (by omega)
       rw [kAt_at (c := uv) (by simpa using huv), kAt_at (c := tv) (by simpa using htv)] at HMK
       obtain ⟨tn, tk, tl⟩ := tv
       obtain ⟨un, uk, ul⟩ := uv
       simp only at f1 g1 HMK
       clear htv huv
       by_cases he : tk = uk
       · subst he
         have HMF : Hid (M = true) := by show _ = _; rw [HMK.out]; simp
         go_quiet (fail)
         go_wp2_with fail
         go_ret
         exact ⟨ret_bool HMF.out.symm, below_drewN HC2.out _⟩
       · have HMF : Hid (M = false) := by show _ = _; rw [HMK.out]; exact decide_eq_false (fun e => he e.symm)
         have q1 : (tk == uk) = false := by rw [beq_eq_false_iff_ne]; exact he
         go_quiet (fail)
         go_wp2_with fail
         go_ret
         exact ⟨ret_bool HMF.out.symm, below_drewN HC2.out _⟩
     · have HMF : Hid (M = false) := HNO.out (by omega) hrel
       by_cases r0 : ref < 0
       · go_wp2_with fail
         go_ret
         exact ⟨ret_bool HMF.out.symm, HC1.out⟩
       · by_cases r1 : (cs.length : Int) ≤ ref
         · go_wp2_with fail
           go_ret
           exact ⟨ret_bool HMF.out.symm, HC1.out⟩
         · by_cases r2 : ref = key
           · subst r2
             go_wp2_with fail
             go_ret
             exact ⟨ret_bool HMF.out.symm, HC1.out⟩
           · have q3 : (ref == key) = false := by rw [beq_eq_false_iff_ne]; exact r2
             by_cases p0 : par < 0
             · go_wp2_with fail
               go_ret
               exact ⟨ret_bool HMF.out.symm, HC1.out⟩
             · have p1 : (k : Int) ≤ par := by omega
               go_wp2_with fail
               go_ret
               exact ⟨ret_bool HMF.out.symm, HC1.out⟩
def parP (ts : List Ta) (n : Nat) : Prop := ∀ (j : Nat) (t : Ta), j < n → ts[j]? = some t → (t.par = -1 ∧ rootB t = true) ∨ (0 ≤ t.par ∧ t.par < j ∧ rootB t = false)
theorem parP_of {ts : List Ta} {k : Nat} {t : Ta} (h : preB ts k = true) (ht : ts[k]? = some t) (hb : belB (ts.take k) t = true) : parP ts (k + 1) := by
 intro j u hj hu
 have key : belB (ts.take j) u = true := by
  by_cases e : j = k
  · subst e
    obtain rfl : u = t := Option.some.inj (hu.symm.trans ht)
    exact hb
  · exact (tab_parts (pre_at h (by omega) hu)).2.1
 have hl := (List.getElem?_eq_some_iff.1 hu).1
 rcases bel_par key with ⟨h1, _, h3⟩ | ⟨h1, h2, h3, _⟩
 · exact Or.inl ⟨h1, h3⟩
 · rw [List.length_take] at h2
   exact Or.inr ⟨h1, by omega, h3⟩
theorem parP_dep {ts : List Ta} {n j : Nat} {t : Ta} (hp : parP ts n) (hj : j < n) (ht : ts[j]? = some t) :
  (t.par = -1 ∧ depA ts j = 1) ∨ (0 ≤ t.par ∧ t.par < j ∧ depA ts j = depA ts t.par.toNat + 1) := by
 have hjl := (List.getElem?_eq_some_iff.1 ht).1
 rw [depA_at ht]
 unfold depI
 rcases hp j t hj ht with ⟨h1, h3⟩ | ⟨h1, h2', h3⟩
 · rw [if_pos h3]; exact Or.inl ⟨h1, rfl⟩
 · rw [if_neg (by simp [h3])]
   refine Or.inr ⟨h1, h2', ?_⟩
   have hpl : t.par.toNat < ts.length := by omega
   rw [depA_at (List.getElem?_eq_getElem hpl), deps_at (List.getElem?_eq_getElem hpl) (show t.par.toNat < j by omega) (by omega)]
theorem parP_range {ts : List Ta} {n : Nat} (hp : parP ts n) : ∀ (m j : Nat), j < m → j < n → n ≤ ts.length → 1 ≤ depA ts j ∧ depA ts j ≤ j + 1
 | 0, _, h, _, _ => absurd h (by omega)
 | m + 1, j, hm, hj, hn => by
  have hjl : j < ts.length := by omega
  rcases parP_dep hp hj (List.getElem?_eq_getElem hjl) with ⟨_, h2⟩ | ⟨h1, h2, h3⟩
  · rw [h2]; omega
  · have := parP_range hp m ts[j].par.toNat (by omega) (by omega) hn
    rw [h3]; omega
set_option maxRecDepth 100000 in
theorem refdepth_any (ts : List Ta) (A : Option Addr) (c : Nat) (n k : Nat) (w : World) (ht : TRow w A c ts) (hp : parP ts n) (hk : k < n) (hn : n ≤ ts.length) :
  Calls Tryz.prog 116 #[.agg #[.slice A ts.length c], .int .i64 k] w fun r w' => r = .returned (.int .i64 (depA ts k)) ∧ Below w.heap.size w w' := by
 have hlen := ht.2.1
 have HT := hd_ ht
 have HP := hd_ hp
 have HR := hd_ (fun j hj => parP_range hp (j + 1) j (by omega) hj hn)
 have hD := HR.out k hk
 generalize hDD : depA ts k = D at hD ⊢
 have HDD := hd_ hDD
 clear ht hp hDD
 go_enter Tryz.func116, Tryz.ntmps116
 have h0 : Blk (w.alloc (.cells #[.slice A ts.length c] 24)) w.heap.size #[.slice A ts.length c] 24 := Blk.new w #[.slice A ts.length c] 24
 have hC : Below w.heap.size w (w.alloc (.cells #[.slice A ts.length c] 24)) := bel1 _ _
 have HA := hd_ h0
 have HC := hd_ hC
 clear h0 hC
 go_wp2_with fail
 generalize w.alloc (.cells #[.slice A ts.length c] 24) = Wq at HA HC ⊢
 go_loopw [1, 5] (fun i v wr => ∃ (j : Nat) (N : Int), j ≤ k ∧ i = .int .i64 j ∧ v = .int .i64 N ∧ (1 ≤ N ∧ N + j ≤ k + 1) ∧ Hid (N = D - depA ts j + 1) ∧ wr = Wq) (fun i _ _ => (intOf i).toNat)
 case atStart => exact ⟨k, 1, by omega, rfl, rfl, by omega, (by show _ = _; rw [HDD.out]; omega), rfl⟩
 case round =>
  obtain ⟨j, N, hj, rfl, rfl, hN2, HN, rfl⟩ := hrel
  have hjn : j < n := by omega
  have hjl : j < ts.length := by omega
  have hrj := HR.out j hjn
  obtain ⟨b, off, t, rfl, hbb, htk, _, _, _, _, _, _, _, d4⟩ := (HT.out.ext HC.out).at_ hjl
  have s0 := HA.out.cell 0
  simp only [List.getElem?_toArray, List.getElem?_cons_zero] at s0
  have l0 := HA.out.lt
  have i1 : (j : Int) < ts.length := by omega
  rcases parP_dep HP.out hjn htk with ⟨h1, h2⟩ | ⟨h1, h2, h3⟩
  · rw [h1] at d4
    have HE : Hid (N = D) := by show _ = _; rw [HN.out, h2]; omega
    clear htk h1 h2
    go_wp2_with fail
    go_ret
    rw [HE.out]
    exact ⟨rfl, HC.out⟩
  · obtain ⟨p, hpar⟩ : ∃ p : Nat, t.par = p := ⟨t.par.toNat, by omega⟩
    rw [hpar] at d4 h2 h3
    simp only [Int.toNat_natCast] at h3
    have hpn : p < n := by omega
    have hrp := HR.out p hpn
    have hNN := HN.out
    have HN2 : Hid (N + 1 = D - depA ts p + 1) := by show _ = _; omega
    have hN1 : 1 ≤ N ∧ N ≤ 2199023255553 := by omega
    clear htk hpar h1 h3 hrj hrp hNN
    go_wp2_with fail
    go_roundw
    case rel => exact ⟨p, N + 1, by omega, rfl, rfl, by omega, HN2, trivial⟩
    case measure => simp [intOf]; omega
theorem sch_named {ts : List Ta} (h : namedB (ts.map (·.nm)) = false) : schB ts = false := by
 unfold schB
 rw [h]
 simp
theorem tnm_at {l : List Ta} {k : Nat} {c : Ta} (h : l[k]? = some c) : (l.map (·.nm))[k]? = some c.nm := by rw [List.getElem?_map, h]; rfl
set_option maxRecDepth 100000 in
set_option maxHeartbeats 3200000 in
theorem refmay_any (ts : List Ta) (A : Option Addr) (c : Nat) (w : World) (ht : TRow w A c ts) :
  Calls Tryz.prog 76 #[.agg #[.slice A ts.length c]] w fun r w' => r = .returned (.bool (schB ts)) ∧ Below w.heap.size w w' := by
 obtain ⟨M, hM⟩ : ∃ q, q = schB ts := ⟨_, rfl⟩
 rw [← hM]
 have hlen := ht.2.1
 have HLEN := hd_ (fun (h : ¬ (1 ≤ ts.length ∧ ts.length ≤ 12)) => hM.trans (sch_len h))
 have HNAM := hd_ (fun (h : namedB (ts.map (·.nm)) = false) => hM.trans (sch_named h))
 have HPRE := hd_ (fun (k : Nat) (t : Ta) (hk : ts[k]? = some t) h => hM.trans (pre_not hk h))
 have HALL := hd_ (fun (h1 : 1 ≤ ts.length) (h2 : ts.length ≤ 12) (h3 : preB ts ts.length = true) => hM.trans (pre_full h1 h2 h3))
 have HT := hd_ ht
 have HNM := hd_ (fun (s : ByteArray) (W : World) (h : s.size ≤ 140737488355328) => refname_any s W h)
 have HCOL := hd_ (fun (t : Ta) (W : World) (h : t.wf) (hc : CRow W t.A t.cs) => refcols_any t W h hc)
 have HBEL := hd_ (fun (k : Nat) (t : Ta) (W : World) (hW : Below w.heap.size w W) (hk : ts[k]? = some t) (hc : colsB t = true) (hp : preB ts k = true) =>
  belongs_any ts A c k t W (ht.ext hW) hk hc (fun j p hj hpj => (tab_parts (pre_at hp hj hpj)).1))
 have HDEP := hd_ (fun (k : Nat) (t : Ta) (W : World) (hW : Below w.heap.size w W) (hk : ts[k]? = some t) (hb : belB (ts.take k) t = true) (hp : preB ts k = true) =>
  refdepth_any ts A c (k + 1) k W (ht.ext hW) (parP_of hp hk hb) (by omega) (by have := (List.getElem?_eq_some_iff.1 hk).1; omega))
 obtain ⟨L, hL⟩ : ∃ q, q = ts.map (·.nm) := ⟨_, rfl⟩
 rw [← hL] at HNAM HALL
 have HLA := hd_ (fun (k : Nat) (t : Ta) (hk : ts[k]? = some t) => (show L[k]? = some t.nm by rw [hL]; exact tnm_at hk))
 have hLl : L.length = ts.length := by rw [hL]; simp
 have HLL := hd_ hLl
 clear hM ht hL hLl
 go_enter Tryz.func76, Tryz.ntmps76
 have h0 : Blk (w.alloc (.cells #[.slice A ts.length c] 24)) w.heap.size #[.slice A ts.length c] 24 := Blk.new w #[.slice A ts.length c] 24
 have hC : Below w.heap.size w (w.alloc (.cells #[.slice A ts.length c] 24)) := bel1 _ _
 have HA := hd_ h0
 have HC := hd_ hC
 clear h0 hC
 go_upto_region 1 with fail
 generalize w.alloc (.cells #[.slice A ts.length c] 24) = Wq at HA HC ⊢
 have s0 := HA.out.cell 0
 simp only [List.getElem?_toArray, List.getElem?_cons_zero] at s0
 have l0 := HA.out.lt
 by_cases h1 : 1 ≤ ts.length
 · by_cases h12 : ts.length ≤ 12
   · replace HALL := hd_ (HALL.out h1 h12)
     go_wp2_with fail
     go_loopw [3] (fun i wr => ∃ k : Nat, k ≤ ts.length ∧ i = .int .i64 k ∧ Hid (preB ts k = true) ∧ Hid ((L.take k).all nameB = true ∧ (L.take k).Nodup) ∧ Hid (Below Wq.heap.size Wq wr)) (fun i _ => ts.length - (intOf i).toNat)
     case atStart => exact ⟨0, by omega, rfl, pre_zero ts, (⟨by simp, by simp⟩ : _ ∧ _), Below.refl _ _⟩
     case round =>
      clear s0 l0
      obtain ⟨k, hk1, rfl, HS1, HS2, HBW⟩ := hrel
      have s0 := (HA.out.ext HBW.out).cell 0
      simp only [List.getElem?_toArray, List.getElem?_cons_zero] at s0
      have l0 := (HA.out.ext HBW.out).lt
      by_cases hlt : k < ts.length
      · obtain ⟨b, off, t, rfl, hbb, hu, _, hwf, hcr, d0, d1, d2, d3, d4⟩ := (HT.out.ext (bt HC.out HBW.out)).at_ hlt
        have HLK := hd_ (HLA.out k t hu)
        have HPN := hd_ (HPRE.out k t hu)
        have HTK := hd_ hu
        have hsz := hwf.1
        obtain ⟨T, hT⟩ : ∃ q : Ta, q = t := ⟨t, rfl⟩
        have HWF := hd_ hwf
        have HCR := hd_ hcr
        have HCT := hd_ (fun (W : World) (hW : Below wr.heap.size wr W) => HCOL.out t W hwf (hcr.ext hW))
        have HBT := hd_ (fun (W : World) (hW : Below wr.heap.size wr W) (hc : colsB t = true) => HBEL.out k t W (bt (bt HC.out HBW.out) hW) hu hc HS1.out)
        have HDT := hd_ (fun (W : World) (hW : Below wr.heap.size wr W) (hb : belB (ts.take k) t = true) => HDEP.out k t W (bt (bt HC.out HBW.out) hW) hu hb HS1.out)
        have HPS := hd_ (fun (h : tabB (ts.take k) (deps (ts.take k)) t = true) => (show preB ts (k + 1) = true by rw [pre_succ hu, HS1.out, h]; rfl))
        have HDA := hd_ (depA_at hu)
        have HTB := hd_ (show tabB (ts.take k) (deps (ts.take k)) t = (colsB t && (belB (ts.take k) t && decide (depI (deps (ts.take k)) t ≤ 8))) from rfl)
        rw [← HDA.out] at HTB
        unfold Ta.cells at HCT
        generalize hc1 : colsB t = cB at HCT HBT HTB
        generalize hb1 : belB (ts.take k) t = bB at HBT HDT HTB
        generalize hd1 : depA ts k = dI at HDT HTB HDA
        generalize tabB (ts.take k) (deps (ts.take k)) t = tB at HPN HPS HTB
        obtain ⟨nm, cs, key, ref, par, TA, tc⟩ := t
        simp only at HLK HCT d0 d1 d2 d3 d4 hsz
        have hd8 : True := trivial
        clear hu hwf hcr hT hc1 hb1 hd1 HDA HCR HWF T hd8 HTK
        go_upto_region 7 with fail
        have HV := hd_ (Blk.new wr #[.string nm, .slice TA cs.length tc, .int .i64 key, .int .i64 ref, .int .i64 par] 73)
        have HBV : Hid (Below wr.heap.size wr (wr.alloc (.cells #[.string nm, .slice TA cs.length tc, .int .i64 key, .int .i64 ref, .int .i64 par] 73))) := (by repeat (first | exact Below.refl _ _ | assumption | refine Below.drew ?_ | refine below_drewN ?_ _ | refine Below.alloc ?_ (by simp <;> omega) _))
        generalize wr.alloc (.cells #[.string nm, .slice TA cs.length tc, .int .i64 key, .int .i64 ref, .int .i64 par] 73) = w5 at HV HBV ⊢
        have HBW0 : Hid (wr.heap.size = wr.heap.size) := hd_ rfl
        clear HBW0 s0 l0 d0 d1 d2 d3 d4
        have HA5 := hd_ ((HA.out.ext HBW.out).ext HBV.out)
        have s0 := HA5.out.cell 0
        simp only [List.getElem?_toArray, List.getElem?_cons_zero] at s0
        have l0 := HA5.out.lt
        obtain ⟨y0, y1, y2, y3, y4⟩ := blk5 HV.out
        have lv := HV.out.lt
        have HB0 := hd_ (bt HC.out HBW.out)
        go_wp2_with fail
        refine (HNM.out nm _ hsz).mono ?_
        rintro r w6 ⟨rfl, rfl⟩
        cases hn : nameB nm
        · have HMF : Hid (M = false) := HNAM.out (named_not1 HLK.out hn)
          clear hn
          go_wp2_with fail
          go_ret
          exact ⟨ret_bool HMF.out.symm, bt HB0.out HBV.out⟩
        · have HNY := hd_ hn
          clear hn
          go_wp2_with fail
          refine (HCT.out w5 HBV.out).mono ?_
          rintro r w6 ⟨rfl, hb6⟩
          have HBV6 := hd_ (bt HBV.out hb6)
          have HA6 := hd_ (HA5.out.ext hb6)
          have HV6 := hd_ (HV.out.ext hb6)
          clear s0 l0 y0 y1 y2 y3 y4 lv hb6 HA5 HV HBV
          cases cB
          · have HMF : Hid (M = false) := HPN.out (by rw [HTB.out]; rfl)
            go_wp2_with fail
            go_ret
            exact ⟨ret_bool HMF.out.symm, bt HB0.out HBV6.out⟩
          · have s0 := HA6.out.cell 0
            simp only [List.getElem?_toArray, List.getElem?_cons_zero] at s0
            have l0 := HA6.out.lt
            go_wp2_with fail
            refine (HBT.out w6 HBV6.out trivial).mono ?_
            rintro r w7 ⟨rfl, hb7⟩
            have HBV7 := hd_ (bt HBV6.out hb7)
            have HA7 := hd_ (HA6.out.ext hb7)
            have HV7 := hd_ (HV6.out.ext hb7)
            clear s0 l0 hb7 HA6 HV6 HBV6
            cases bB
            · have HMF : Hid (M = false) := HPN.out (by rw [HTB.out]; rfl)
              go_wp2_with fail
              go_ret
              exact ⟨ret_bool HMF.out.symm, bt HB0.out HBV7.out⟩
            · have s0 := HA7.out.cell 0
              simp only [List.getElem?_toArray, List.getElem?_cons_zero] at s0
              have l0 := HA7.out.lt
              go_wp2_with fail
              refine (HDT.out w7 HBV7.out trivial).mono ?_
              rintro r w8 ⟨rfl, hb8⟩
              have HBV8 := hd_ (bt HBV7.out hb8)
              have HA8 := hd_ (HA7.out.ext hb8)
              have HV8 := hd_ (HV7.out.ext hb8)
              clear s0 l0 hb8 HA7 HV7 HBV7
              by_cases h8 : dI ≤ 8
              · have HP1 : Hid (preB ts (k + 1) = true) := HPS.out (by rw [HTB.out]; simp [h8])
                have HBWW := hd_ (bt HBW.out HBV8.out)
                have hB : wr.heap.size ≤ wr.heap.size := Nat.le_refl _
                generalize wr.heap.size = B at HV8 hB ⊢
                clear hB
                go_wp2_with fail
                go_loopw [5] (fun v wp => ∃ j : Nat, j ≤ k ∧ v = .int .i64 j ∧ Hid (nm ∉ L.take j) ∧ Hid (Below w8.heap.size w8 wp)) (fun v _ => k - (intOf v).toNat)
                case atStart => exact ⟨0, by omega, rfl, (by simp : ¬ _), Below.refl _ _⟩
                case round =>
                 obtain ⟨j, hj1, rfl, HNO, HBP⟩ := hrel
                 by_cases hjk : j < k
                 · have HBA := hd_ (bt HBWW.out HBP.out)
                   obtain ⟨b', off', u, hA', hbb', hju, _, _, _, e0, _⟩ := (HT.out.ext (bt HC.out HBA.out)).at_ (Nat.lt_trans hjk hlt)
                   injection hA' with hA'
                   injection hA' with e1 e2
                   subst e1; subst e2
                   have HJ := hd_ (HLA.out j _ hju)
                   obtain ⟨un, ucs, ukey, uref, upar, UA, uc⟩ := u
                   simp only at e0 HJ
                   have s0 := (HA8.out.ext HBP.out).cell 0
                   simp only [List.getElem?_toArray, List.getElem?_cons_zero] at s0
                   have l0 := (HA8.out.ext HBP.out).lt
                   have y0 := (blk5 (HV8.out.ext HBP.out)).1
                   have lv := (HV8.out.ext HBP.out).lt
                   clear hju
                   have i0 : (0 : Int) ≤ j := by omega
                   have i1 : (j : Int) < ts.length := by omega
                   go_upto_region 12 with fail
                   by_cases he : un = nm
                   · subst he
                     have HMF : Hid (M = false) := HNAM.out (named_not2 HLK.out (take_mem HJ.out hjk))
                     go_quiet (fail)
                     go_wp2_with fail
                     go_ret
                     exact ⟨ret_bool HMF.out.symm, below_drewN (bt HC.out HBA.out) _⟩
                   · have HNX := nmem_next HJ.out HNO.out he
                     obtain ⟨n1, n2⟩ := str_ne' he
                     clear he
                     go_quiet (fail)
                     go_wp2_with fail
                     go_roundw
                     case rel => exact ⟨j + 1, by omega, by go_num, HNX, below_drewN HBP.out _⟩
                     case measure => simp [intOf]; omega
                 · have hje : j = k := by omega
                   have HS2' := named_step HLK.out HS2.out HNY.out (by rw [← hje]; exact HNO.out)
                   clear hje
                   go_wp2_with fail
                   go_roundw
                   case rel => exact ⟨k + 1, by omega, by go_num, HP1, HS2', bt HBWW.out HBP.out⟩
                   case measure => simp [intOf]; omega
              · have HMF : Hid (M = false) := HPN.out (by rw [HTB.out]; simp [h8])
                go_wp2_with fail
                go_ret
                exact ⟨ret_bool HMF.out.symm, bt HB0.out HBV8.out⟩
      · have hke : k = ts.length := by omega
        have HMT : Hid (M = true) := by
         show _ = _
         rw [HALL.out (by rw [← hke]; exact HS1.out)]
         have := HS2.out
         rw [hke, ← HLL.out, List.take_length] at this
         unfold namedB
         rw [this.1, decide_eq_true this.2]; rfl
        clear hke
        go_wp2_with fail
        go_ret
        exact ⟨ret_bool HMT.out.symm, bt HC.out HBW.out⟩
   · have HMF : Hid (M = false) := HLEN.out (by omega)
     go_wp2_with fail
     go_ret
     exact ⟨ret_bool HMF.out.symm, HC.out⟩
 · have HMF : Hid (M = false) := HLEN.out (by omega)
   go_wp2_with fail
   go_ret
   exact ⟨ret_bool HMF.out.symm, HC.out⟩
end Go.Proofs.YtceoficoappkpaaGreatDoor
