/- Texts joined by a tool: contracts and walks of this claim. -/
import Derived.Test.YtceoficoappkpaaGreatDoorB9
namespace Go.Proofs.YtceoficoappkpaaGreatDoor
open Go.RowKit
theorem blk5 {w : World} {b : Nat} {a0 a1 a2 a3 a4 : Value} {t : TypeId} (h : Blk w b #[a0, a1, a2, a3, a4] t) :
  w.cell? ⟨b, 0, none⟩ = some a0 ∧ w.cell? ⟨b, 1, none⟩ = some a1 ∧ w.cell? ⟨b, 2, none⟩ = some a2 ∧ w.cell? ⟨b, 3, none⟩ = some a3 ∧ w.cell? ⟨b, 4, none⟩ = some a4 :=
 ⟨h.cell 0, h.cell 1, h.cell 2, h.cell 3, h.cell 4⟩
def hasI (n : Nat) (i : Int) : Bool := decide (0 ≤ i ∧ i < n)
theorem has1_any (nm : ByteArray) (A : Option Addr) (n c : Nat) (key ref par i : Int) (b : Nat) (w : World) (hb : Blk w b #[.string nm, .slice A n c, .int .i64 key, .int .i64 ref, .int .i64 par] 73) :
  Calls Tryz.prog 170 #[.int .i64 i, .pointer (some ⟨b, 0, none⟩)] w fun r w' => r = .returned (.bool (hasI n i)) ∧ w = w' := by
 obtain ⟨y0, y1, y2, y3, y4⟩ := blk5 hb
 clear hb
 unfold hasI
 by_cases h0 : 0 ≤ i
 · go_enter Tryz.func170, Tryz.ntmps170
   go_wp2
   go_ret
   exact ⟨ret_bool (decide_eq_decide.2 (by omega)), rfl⟩
 · rw [decide_eq_false (by omega)]
   go_enter Tryz.func170, Tryz.ntmps170
   go_wp2
   go_ret
   exact ⟨rfl, rfl⟩
theorem info_str : (Tryz.prog.info? 9).map (fun i => (i.zero, i.size, i.bytes)) = some (some (.string ⟨#[]⟩), 1, 16) := by kernel_rfl
def TabPost (M : Bool) (dI : Int) (w : World) (r : Ending) (w' : World) : Prop :=
 Below w.heap.size w w' ∧ ∃ d : Int, r = .returned (.tuple #[.int .i64 d, .bool M]) ∧ (M = true → d = dI)
theorem colk_step {l : List Co} {k : Nat} {c : Co} (hk : l[k]? = some c) (h : (l.take k).all colK = true) (hc : colK c = true) : Hid ((l.take (k + 1)).all colK = true) := by
 show _ = _
 rw [take_snoc hk, List.all_append, h]
 simp [hc]
theorem cols_not1 {t : Ta} {k : Nat} {c : Co} (hk : t.cs[k]? = some c) (hc : colK c = false) : colsB t = false := by
 have : t.cs.all colK = false := by
  rw [List.all_eq_false]
  exact ⟨c, List.mem_of_getElem? hk, by simp [hc]⟩
 unfold colsB
 rw [this]
 simp
theorem tab_not {ahead : List Ta} {ds : List Int} {t : Ta} (h : colsB t = false) : tabB ahead ds t = false := by unfold tabB; rw [h]; rfl
theorem tab_yes {ahead : List Ta} {ds : List Int} {t : Ta} (h : colsB t = true) : tabB ahead ds t = (belB ahead t && decide (depI ds t ≤ 8)) := by unfold tabB; rw [h]; rfl
set_option maxRecDepth 100000 in
set_option maxHeartbeats 1600000 in
theorem table_any (ahead : List Ta) (A D : Option Addr) (ca cd : Nat) (ds : List Int) (t : Ta) (w : World) (hw : t.wf) (ha : TRow w A ca ahead) (hd : NRow .i64 w D ds) (hc : CRow w t.A t.cs)
  (hv : ∀ p ∈ ahead, colsB p = true) (hl : ds.length = ahead.length) (hr : ∀ d ∈ ds, 1 ≤ d ∧ d ≤ 8) :
  Calls Tryz.prog 128 #[.slice A ahead.length ca, .slice D ds.length cd, .agg t.cells] w (TabPost (tabB ahead ds t) (depI ds t) w) := by
 obtain ⟨M, hM⟩ : ∃ q, q = tabB ahead ds t := ⟨_, rfl⟩
 obtain ⟨dI, hI⟩ : ∃ q, q = depI ds t := ⟨_, rfl⟩
 rw [← hM, ← hI]
 have HM := hd_ hM
 have HI := hd_ hI
 have HAR := hd_ ha
 have HDR := hd_ hd
 have HCR := hd_ hc
 have HV := hd_ hv
 have HL := hd_ hl
 have HR := hd_ hr
 have HCN := hd_ (fun (h : colsB t = false) => hM.trans (tab_not h))
 have HCY := hd_ (fun (h : colsB t = true) => hM.trans (tab_yes h))
 have hcl := hc.2.1
 obtain ⟨hnm, hkey, href, hpar⟩ := hw
 have HNS := hd_ (fun (l : List ByteArray) (A : Option Addr) (c : Nat) (W : World) => named_any l A c W)
 have HCWF := hd_ hc.1
 have H1 := hd_ (fun (i : Int) (b : Nat) (W : World) => has1_any t.nm t.A t.cs.length t.c t.key t.ref t.par i b W)
 obtain ⟨i0, hi0, hz0, hz1, hz2⟩ := info_parts info_str
 clear hM hI ha hd hc hv hr hl
 unfold Ta.cells
 obtain ⟨nm, cs, key, ref, par, TA, tc⟩ := t
 simp only at HM HI HCR HCN HCY hcl hnm hkey href hpar HCWF H1 ⊢
 go_enter Tryz.func128, Tryz.ntmps128
 go_wp2
 have hB0 := Blk.new w #[.string nm, .slice TA cs.length tc, .int .i64 key, .int .i64 ref, .int .i64 par] 73
 have hC0 : Below w.heap.size w (w.alloc (.cells #[.string nm, .slice TA cs.length tc, .int .i64 key, .int .i64 ref, .int .i64 par] 73)) := bel1 _ _
 generalize w.alloc (.cells #[.string nm, .slice TA cs.length tc, .int .i64 key, .int .i64 ref, .int .i64 par] 73) = Wq at hB0 hC0 ⊢
 have HB0 := hd_ hB0
 clear hB0
 go_loopw [8, 16] (fun l i wr => ∃ (k : Nat) (A' : Option Addr) (c' : Nat), k ≤ cs.length ∧ i = .int .i64 k ∧ l = .slice A' k c' ∧ wr.ownsRow w.heap.size 9 1 (.slice A' k c') k ((cs.take k).map fun c => Value.string c.nm) ∧ Hid ((cs.take k).all colK = true) ∧ Hid (Blk wr w.heap.size #[.string nm, .slice TA cs.length tc, .int .i64 key, .int .i64 ref, .int .i64 par] 73) ∧ Below w.heap.size w wr) (fun _ i _ => cs.length - (intOf i).toNat)
 case atStart => exact ⟨0, none, 0, by omega, rfl, rfl, World.ownsRow_nil _ _ _ _, (by simp : _ = _), HB0, hC0⟩
 case round =>
  clear HB0 hC0
  obtain ⟨k, A', c', hk, rfl, rfl, hown, HK, HB, hbw⟩ := hrel
  by_cases hlt : k < cs.length
  · obtain ⟨b, off, v, rfl, hb, hlk, hmem, hwf, c0, c1, c2⟩ := (HCR.out.ext hbw).at_ hlt
    obtain ⟨vn, vk, vl⟩ := v
    simp only at c0 c1 c2
    have HLK := hd_ hlk
    clear hlk hmem
    have hwk : 0 ≤ vk ∧ vk ≤ 255 := ⟨hwf.2.1, hwf.2.2⟩
    clear hwf
    cases hck : colK ⟨vn, vk, vl⟩
    · have hMf : Hid (M = false) := HCN.out (cols_not1 HLK.out hck)
      have hck' := of_decide_eq_false hck
      simp only at hck'
      clear hck hown
      by_cases h1 : vk < 1
      · clear hck'
        go_wp2_with fail
        go_ret2
        rw [hMf.out]
        exact ⟨bt hbw (by repeat (first | exact Below.refl _ _ | assumption | refine Below.drew ?_ | refine below_drewN ?_ _ | refine Below.alloc ?_ (by simp <;> omega) _)), 0, rfl, (fun h => by cases h)⟩
      · have h5 : 5 < vk := by omega
        clear hck'
        go_wp2_with fail
        go_ret2
        rw [hMf.out]
        exact ⟨bt hbw (by repeat (first | exact Below.refl _ _ | assumption | refine Below.drew ?_ | refine below_drewN ?_ _ | refine Below.alloc ?_ (by simp <;> omega) _)), 0, rfl, (fun h => by cases h)⟩
    · have HK' := colk_step HLK.out HK.out hck
      have hck' := of_decide_eq_true hck
      simp only at hck'
      obtain ⟨k1, k5⟩ := hck'
      have HTS := hd_ (take_snoc HLK.out)
      have hsz := hbw.size
      clear hck
      go_wp2_with (at_builtin; refine wpList_append_own _ rfl _ _ 217 rfl w.heap.size 9 i0 _ 1 16 Tryz.underlying217 hi0 hz0 hz1 hz2 rfl (by decide) _ k _ rfl ((hown.alloc _).alloc _) ⟨wr.heap.size + 1, 0, none⟩ 1 1 [.string vn] rfl rfl (cells_blk1 (t := 9) (by repeat (first | exact Blk.at (by simp) | assumption | refine Blk.drew ?_ | refine Blk.old ?_ _))) ?c2 ?c3 ?c4 ?c5 ?_)
      case c2 => simp [Value.oneCell']
      case c3 => simp only [maxLen]; omega
      case c4 => omega
      case c5 => simp; omega
      intro v' w3 hown3 hg3 _
      obtain ⟨A2, c2', rfl⟩ := own_form hown3
      have hoL : World.ownsRow _ w.heap.size 9 1 (.slice A' k c') k _ := ((hown.alloc (.cells #[.string vn, .int .u8 vk, .bool vl] 98)).alloc (.cells #[.string vn] 9))
      have HB3 := hd_ (((HB.out.old _).old _).grown hoL (by decide) hg3)
      have hbw3 : Below w.heap.size w w3 := ((hbw.alloc hbw.size _).alloc (by simp; omega) _).grown hg3 (by simp; omega) (own_ge hown)
      have HO3 : Hid (w3.ownsRow w.heap.size 9 1 (.slice A2 (k + 1) c2') (k + 1) ((cs.take (k + 1)).map fun c => Value.string c.nm)) := by
       show World.ownsRow _ _ _ _ _ _ _
       rw [HTS.out, List.map_append]
       rw [← List.map_take] at hown3
       exact hown3
      clear hown3 hg3 hoL HB hown hbw c0 c1 c2 HK hsz
      go_wp2_with fail
      go_roundw
      case rel => exact ⟨k + 1, A2, c2', by omega, by go_num, rfl, HO3.out, HK', HB3, hbw3⟩
      case measure => simp [intOf]; omega
  · obtain rfl : k = cs.length := by omega
    have hall := HK.out
    rw [List.take_length] at hall
    rw [List.take_length, show (cs.map fun c => Value.string c.nm) = (cs.map (·.nm)).map Value.string by simp] at hown
    have hown' := hown
    rw [show cs.length = (cs.map (·.nm)).length by simp] at hown'
    have hS := (SRow.of_own (by simp; omega) hown').1
    have HNM := hd_ (HNS.out (cs.map (·.nm)) A' c' wr hS (fun s hs => by obtain ⟨c, hc, rfl⟩ := List.mem_map.1 hs; exact (HCWF.out c hc).1))
    rw [List.length_map] at HNM
    have HALL := hd_ hall
    have hB := HB.out
    have hlB := hB.lt
    obtain ⟨y0, y1, y2, y3, y4⟩ := blk5 hB
    clear hall hown hown' hS HK hlt hk hB
    by_cases hn1 : cs.length < 1
    · have hMf : Hid (M = false) := HCN.out (by unfold colsB; rw [decide_eq_false (by simp only; omega)]; rfl)
      have hn1' : (cs.length : Int) < 1 := by omega
      go_wp2_with fail
      go_ret2
      rw [hMf.out]
      exact ⟨hbw, 0, rfl, (fun h => by cases h)⟩
    · by_cases hn8 : 8 < cs.length
      · have hMf : Hid (M = false) := HCN.out (by unfold colsB; rw [decide_eq_false (by simp only; omega)]; rfl)
        have hn8' : 8 < (cs.length : Int) := by omega
        go_wp2_with fail
        go_ret2
        rw [hMf.out]
        exact ⟨hbw, 0, rfl, (fun h => by cases h)⟩
      · have hn1' : ¬ (cs.length : Int) < 1 := by omega
        have hn8' : ¬ 8 < (cs.length : Int) := by omega
        have hlen : 1 ≤ cs.length ∧ cs.length ≤ 8 := ⟨by omega, by omega⟩
        cases hnb : namedB (cs.map (·.nm))
        · have hMf : Hid (M = false) := HCN.out (by unfold colsB; simp only [hnb]; simp)
          rw [hnb] at HNM
          clear hnb
          go_wp2_with fail
          refine HNM.out.mono ?_
          rintro r w1 ⟨rfl, hb1⟩
          have hbw1 := bt hbw hb1
          clear hb1
          go_wp2_with fail
          go_ret2
          rw [hMf.out]
          exact ⟨hbw1, 0, rfl, (fun h => by cases h)⟩
        · rw [hnb] at HNM
          go_wp2_with fail
          refine HNM.out.mono ?_
          rintro r w1 ⟨rfl, hb1⟩
          have hbw1 := bt hbw hb1
          have HB1 := hd_ (HB.out.ext hb1)
          clear hb1 y0 y1 y2 y3 y4 HNM hbw HB hlB
          obtain ⟨y0, y1, y2, y3, y4⟩ := blk5 HB1.out
          have hlB := HB1.out.lt
          have HK1 := hd_ (H1.out key w.heap.size w1 HB1.out)
          cases hki : hasI cs.length key
          · have hMf : Hid (M = false) := HCN.out (by unfold colsB; rw [show decide (0 ≤ key ∧ key < cs.length) = false from hki]; simp)
            rw [hki] at HK1
            clear hki hnb
            go_wp2_with fail
            refine HK1.out.mono ?_
            rintro r w2 ⟨rfl, rfl⟩
            go_wp2_with fail
            go_ret2
            rw [hMf.out]
            exact ⟨hbw1, 0, rfl, (fun h => by cases h)⟩
          · rw [hki] at HK1
            obtain ⟨hk0, hk1⟩ := of_decide_eq_true hki
            obtain ⟨b, off, v, rfl, hb, hlk, _, _, c0, c1, c2⟩ := (HCR.out.ext hbw1).at_ (k := key.toNat) (by omega)
            have HNL := hd_ (nlAt_at hlk)
            obtain ⟨vn, vk, vl⟩ := v
            simp only at c0 c1 c2 HNL
            clear hlk
            cases vl
            · have HCY2 := hd_ (HCY.out (by unfold colsB; rw [decide_eq_true hlen, HALL.out, hnb, show decide (0 ≤ key ∧ key < cs.length) = true from hki]; simp only; rw [HNL.out]; rfl))
              clear hki hnb HCN HCY HALL HNL
              go_wp2_with fail
              refine HK1.out.mono ?_
              rintro r w2 ⟨rfl, rfl⟩
              go_upto_region 12 with fail
              clear HK1 c0 c1 c2
              by_cases hroot : ref = -1 ∧ par = -1
              · obtain ⟨rfl, rfl⟩ := hroot
                have hMt : Hid (M = true) := by show _ = _; rw [HCY2.out]; unfold belB depI rootB; simp
                have hdI : Hid (dI = 1) := by show _ = _; rw [HI.out]; unfold depI rootB; simp
                clear HCY2
                go_wp2_with fail
                go_ret2
                rw [hMt.out]
                exact ⟨hbw1, 1, rfl, fun _ => hdI.out.symm⟩
              · have HRT := hd_ hroot
                have HK2 := hd_ (H1.out ref w.heap.size w1 HB1.out)
                cases hri : hasI cs.length ref
                · have hri' := of_decide_eq_false hri
                  have hMf : Hid (M = false) := by
                   show _ = _
                   rw [HCY2.out]
                   unfold belB rootB relB
                   rw [decide_eq_false HRT.out, decide_eq_false (by simp only; omega)]
                   rfl
                  rw [hri] at HK2
                  by_cases hr1 : ref = -1
                  · have hp1 : (par == -1) = false := by rw [beq_eq_false_iff_ne]; omega
                    subst hr1
                    clear hri hri' hroot
                    go_wp2_with fail
                    refine HK2.out.mono ?_
                    rintro r w2 ⟨rfl, rfl⟩
                    go_wp2_with fail
                    go_ret2
                    rw [hMf.out]
                    exact ⟨hbw1, 0, rfl, (fun h => by cases h)⟩
                  · have hr2 : (ref == -1) = false := beq_eq_false_iff_ne.2 hr1
                    clear hri hri' hroot hr1
                    go_wp2_with fail
                    refine HK2.out.mono ?_
                    rintro r w2 ⟨rfl, rfl⟩
                    go_wp2_with fail
                    go_ret2
                    rw [hMf.out]
                    exact ⟨hbw1, 0, rfl, (fun h => by cases h)⟩
                · have hri' := of_decide_eq_true hri
                  have hr2 : (ref == -1) = false := beq_eq_false_iff_ne.2 (by omega)
                  rw [hri] at HK2
                  by_cases hrk : ref = key
                  · have hMf : Hid (M = false) := by
                     show _ = _
                     rw [HCY2.out]
                     unfold belB rootB relB
                     rw [decide_eq_false HRT.out, decide_eq_false (by simp only; omega)]
                     rfl
                    have hrk' : (ref == key) = true := beq_iff_eq.2 hrk
                    clear hri hri' hroot hrk
                    go_wp2_with fail
                    refine HK2.out.mono ?_
                    rintro r w2 ⟨rfl, rfl⟩
                    go_wp2_with fail
                    go_ret2
                    rw [hMf.out]
                    exact ⟨hbw1, 0, rfl, (fun h => by cases h)⟩
                  · have hrk' : (ref == key) = false := beq_eq_false_iff_ne.2 hrk
                    by_cases hp0 : par < 0
                    · have hMf : Hid (M = false) := by
                       show _ = _
                       rw [HCY2.out]
                       unfold belB rootB relB
                       rw [decide_eq_false HRT.out, decide_eq_false (by simp only; omega)]
                       rfl
                      clear hri hri' hroot hrk
                      go_wp2_with fail
                      refine HK2.out.mono ?_
                      rintro r w2 ⟨rfl, rfl⟩
                      go_wp2_with fail
                      go_ret2
                      rw [hMf.out]
                      exact ⟨hbw1, 0, rfl, (fun h => by cases h)⟩
                    · by_cases hp1 : (ahead.length : Int) ≤ par
                      · have hMf : Hid (M = false) := by
                         show _ = _
                         rw [HCY2.out]
                         unfold belB rootB relB
                         rw [decide_eq_false HRT.out, decide_eq_false (by simp only; omega)]
                         rfl
                        clear hri hri' hroot hrk
                        go_wp2_with fail
                        refine HK2.out.mono ?_
                        rintro r w2 ⟨rfl, rfl⟩
                        go_wp2_with fail
                        go_ret2
                        rw [hMf.out]
                        exact ⟨hbw1, 0, rfl, (fun h => by cases h)⟩
                      · have hp2 : 0 ≤ par := by omega
                        have hp3 : par < ahead.length := by omega
                        have hp4 : par < ds.length := by rw [HL.out]; exact hp3
                        have HKB := hd_ (show M = (kinB ahead ⟨nm, cs, key, ref, par, some ⟨b, off, none⟩, tc⟩ && decide (ds.getD par.toNat 0 + 1 ≤ 8)) by
                         rw [HCY2.out]
                         unfold belB depI rootB relB
                         rw [decide_eq_false HRT.out, decide_eq_true (by simp only; omega)]
                         simp)
                        have HDI := hd_ (show dI = ds.getD par.toNat 0 + 1 by rw [HI.out]; unfold depI rootB; rw [decide_eq_false HRT.out]; rfl)
                        obtain ⟨rb, roff, p, rfl, hrb, hplk, hpm, hpw, hpc, d0, d1, d2, d3, d4⟩ := (HAR.out.ext hbw1).at_ (k := par.toNat) (by omega)
                        obtain ⟨db, doff, dv, rfl, hdb, hdlk, hdm, e0⟩ := (HDR.out.ext hbw1).at_ (show par.toNat < ds.length by rw [HL.out]; omega)
                        obtain ⟨_, _, _, ⟨pk0, pk1⟩, _⟩ := cols_parts (HV.out p hpm)
                        obtain ⟨pb, poff, pv, hpA, hpb, hpv, _, hpvw, p0, p1, p2⟩ := hpc.at_ (k := p.key.toNat) (by omega)
                        obtain ⟨b', off', rv, hbb, hrvb, hrv, _, hrvw, r0, r1, r2⟩ := (HCR.out.ext hbw1).at_ (k := ref.toNat) (by omega)
                        injection hbb with hbb
                        injection hbb with hbb1 hbb2 _
                        subst hbb1
                        subst hbb2
                        have hdr := HR.out dv hdm
                        have HKN := hd_ (show kinB ahead ⟨nm, cs, key, ref, par, some ⟨b, off, none⟩, tc⟩ = decide (pv.k = rv.k) by
                         unfold kinB
                         simp only
                         rw [hplk]
                         simp only
                         rw [kAt_at hpv, kAt_at hrv])
                        have HDV := hd_ (show ds.getD par.toNat 0 = dv by rw [List.getD_eq_getElem?_getD, hdlk]; rfl)
                        obtain ⟨pn, pcs, pkey, pref, ppar, pA, pc⟩ := p
                        obtain ⟨pvn, pvk, pvl⟩ := pv
                        obtain ⟨rvn, rvk, rvl⟩ := rv
                        simp only at hpA d0 d1 d2 d3 d4 pk0 pk1 p0 p1 p2 r0 r1 r2 HKN
                        subst hpA
                        have hpl := hpc.2.1
                        simp only at hpl
                        clear hri hroot hrk hp0 hp1 hplk hpm hpw hpc hdlk hdm hpv hpvw hrv hrvw HCY2 HRT
                        go_wp2_with fail
                        refine HK2.out.mono ?_
                        rintro r w2 ⟨rfl, rfl⟩
                        clear HK2
                        by_cases hkk : pvk = rvk
                        · have hkk' : (pvk == rvk) = true := beq_iff_eq.2 hkk
                          have hMe : Hid (M = decide (dv ≤ 7)) := by
                           show _ = _
                           rw [HKB.out, HKN.out, HDV.out, decide_eq_true hkk, Bool.true_and]
                           exact decide_eq_decide.2 (by omega)
                          have hDe : Hid (dI = dv + 1) := by show _ = _; rw [HDI.out, HDV.out]
                          clear hkk HKB HKN HDI HDV
                          go_wp2_with fail
                          go_quiet (fail)
                          go_wp2_with fail
                          go_ret2
                          refine ⟨bt hbw1 (by repeat (first | exact Below.refl _ _ | assumption | refine Below.drew ?_ | refine below_drewN ?_ _ | refine Below.alloc ?_ (by simp <;> omega) _)), dv + 1, ?_, fun _ => hDe.out.symm⟩
                          rw [hMe.out, decide_eq_decide.2 (show dv ≤ 7 ↔ dv + 1 ≤ 8 by omega)]
                          rfl
                        · have hkk' : (pvk == rvk) = false := beq_eq_false_iff_ne.2 hkk
                          have hMf : Hid (M = false) := by show _ = _; rw [HKB.out, HKN.out, decide_eq_false hkk]; rfl
                          clear hkk HKB HKN HDI HDV
                          go_wp2_with fail
                          go_quiet (fail)
                          go_wp2_with fail
                          go_ret2
                          rw [hMf.out]
                          exact ⟨bt hbw1 (by repeat (first | exact Below.refl _ _ | assumption | refine Below.drew ?_ | refine below_drewN ?_ _ | refine Below.alloc ?_ (by simp <;> omega) _)), dv + 1, rfl, (fun h => by cases h)⟩
            · have hMf : Hid (M = false) := HCN.out (by unfold colsB; simp only; rw [HNL.out]; simp)
              clear hki hnb
              go_wp2_with fail
              refine HK1.out.mono ?_
              rintro r w2 ⟨rfl, rfl⟩
              go_wp2_with fail
              go_ret2
              rw [hMf.out]
              exact ⟨hbw1, 0, rfl, (fun h => by cases h)⟩
end Go.Proofs.YtceoficoappkpaaGreatDoor
