/- Several texts in one: see each part's head. -/
import Derived.Test.YtjdfodmialhakaaDoorSc7
import Derived.Test.YtjdfodmialhakaaDoorSc15
/- Plain: children, depths and roots of a schema that may be. -/
namespace Go.Proofs.YtjdfodmialhakaaDoor
open Go.RowKit

theorem kids_count {ts : List Ta} {p i : Nat} {t : Ta} (ht : ts[i]? = some t) : ∀ n, n ≤ ts.length → ((kidsF ts p n).count (i : Int) : Nat) = if i < n ∧ t.par = p then 1 else 0
  | 0, _ => by simp [kidsF]
  | n + 1, hn => by
    have hu : ts[n]? = some ts[n] := List.getElem?_eq_getElem (by omega)
    have ih := kids_count (p := p) ht n (by omega)
    by_cases e : n = i
    · subst e
      have ht' : ts[n] = t := Option.some.inj (hu.symm.trans ht)
      by_cases hp : ts[n].par = p
      · rw [kids_yes hu hp, List.count_append, ih]
        rw [ht'] at hp
        simp [hp]
      · rw [kids_no hu hp, ih]
        rw [ht'] at hp
        simp [hp]
    · have e' : (n : Int) ≠ i := by omega
      have e2 : (i < n + 1 ∧ t.par = p) ↔ (i < n ∧ t.par = p) := by constructor <;> (rintro ⟨h1, h2⟩; exact ⟨by omega, h2⟩)
      by_cases hp : ts[n].par = p
      · rw [kids_yes hu hp, List.count_append, ih]
        simp only [e2]
        have : [(n : Int)].count (i : Int) = 0 := by simp [e']
        rw [this, Nat.add_zero]
      · rw [kids_no hu hp, ih]
        simp only [e2]
theorem kids_mem {ts : List Ta} {p k n : Nat} {v : Int} (h : (kidsF ts p n)[k]? = some v) : ∃ (j : Nat) (t : Ta), j < n ∧ v = j ∧ ts[j]? = some t ∧ t.par = p := by
  have hm := List.mem_of_getElem? h
  unfold kidsF at hm
  obtain ⟨j, hj, rfl⟩ := List.mem_map.1 hm
  obtain ⟨h1, h2⟩ := List.mem_filter.1 hj
  unfold isKid at h2
  split at h2
  · rename_i t ht
    exact ⟨j, t, List.mem_range.1 h1, rfl, ht, of_decide_eq_true h2⟩
  · cases h2
theorem has_at {ts : List Ta} (hs : schB ts = true) {i : Nat} (hi : i < ts.length) : hasS ts (i : Int) = true := by
  unfold hasS hasI
  rw [hs, decide_eq_true (by omega)]
  rfl
theorem forest_kid {ts : List Ta} (hs : schB ts = true) {i p : Nat} {t : Ta} (ht : ts[i]? = some t) (hp : t.par = p) :
    depR ts (i : Int) = depR ts (p : Int) + 1 ∧ rootR ts (i : Int) = rootR ts (p : Int) ∧ 1 ≤ depR ts (p : Int) ∧ depR ts (p : Int) ≤ 8 := by
  have hi := (List.getElem?_eq_some_iff.1 ht).1
  have hpre := (sch_parts hs).2.1
  rcases dep_par hpre hi ht with ⟨h1, _, _⟩ | ⟨h1, h2, h3⟩
  · omega
  · have hpl : p < ts.length := by omega
    have e : t.par.toNat = p := by omega
    rw [e] at h3
    unfold depR rootR
    rw [if_pos (has_at hs hi), if_pos (has_at hs hpl), if_pos (has_at hs hi), if_pos (has_at hs hpl), Int.toNat_natCast, Int.toNat_natCast]
    refine ⟨h3, ?_, dep_range hpre (p + 1) p (by omega) hpl (Nat.le_refl _)⟩
    rw [rootF_fuel hpre (i + 1) ts.length (ts.length + 1) i (by omega) hi (by omega) hi (Nat.le_refl _), rootF_up ht h1, e]
theorem forest_root {ts : List Ta} (hs : schB ts = true) {i : Nat} {t : Ta} (ht : ts[i]? = some t) :
    ((t.par = -1 ∧ depR ts (i : Int) = 1 ∧ rootR ts (i : Int) = i) ∨ (0 ≤ t.par ∧ t.par < i)) ∧ depR ts (i : Int) ≤ 8 := by
  have hi := (List.getElem?_eq_some_iff.1 ht).1
  have hpre := (sch_parts hs).2.1
  unfold depR rootR
  rw [if_pos (has_at hs hi), if_pos (has_at hs hi), Int.toNat_natCast]
  refine ⟨?_, (dep_range hpre (i + 1) i (by omega) hi (Nat.le_refl _)).2⟩
  rcases dep_par hpre hi ht with ⟨h1, _, h3⟩ | ⟨h1, h2, _⟩
  · exact Or.inl ⟨h1, h3, by rw [rootF_root ht (by omega)]⟩
  · exact Or.inr ⟨h1, h2⟩
/-- How often table i, whose parent is par, was met among the children of the first p tables. -/
def cntP (par : Int) (p : Nat) : Int := if 0 ≤ par ∧ par < p then 1 else 0
theorem cnt_next {ts : List Ta} {i p : Nat} {t : Ta} (ht : ts[i]? = some t) : cntP t.par p + (((kidsF ts p ts.length).count (i : Int) : Nat) : Int) = cntP t.par (p + 1) := by
  have hi := (List.getElem?_eq_some_iff.1 ht).1
  rw [kids_count ht _ (Nat.le_refl _)]
  by_cases h : t.par = p
  · rw [if_pos ⟨hi, h⟩]
    unfold cntP
    rw [if_neg (by omega), if_pos (by omega)]
    rfl
  · rw [if_neg (fun x => h x.2)]
    unfold cntP
    by_cases h2 : 0 ≤ t.par ∧ t.par < p
    · rw [if_pos h2, if_pos (by omega)]; rfl
    · rw [if_neg h2, if_neg (by omega)]; rfl
theorem count_yes {l : List Int} {k : Nat} {v : Int} (h : l[k]? = some v) : Hid ((((l.take (k + 1)).count v : Nat) : Int) = (((l.take k).count v : Nat) : Int) + 1) := by
  show _ = _
  rw [take_snoc h, List.count_append]
  simp
theorem count_no {l : List Int} {k : Nat} {v u : Int} (h : l[k]? = some v) (hn : v ≠ u) : Hid ((((l.take (k + 1)).count u : Nat) : Int) = (((l.take k).count u : Nat) : Int)) := by
  show _ = _
  rw [take_snoc h, List.count_append]
  simp [hn]
theorem cnt_range (par : Int) (p : Nat) : 0 ≤ cntP par p ∧ cntP par p ≤ 1 := by
  unfold cntP; split <;> omega
end Go.Proofs.YtjdfodmialhakaaDoor

/- SchemaForest answers true, for every schema. -/
namespace Go.Proofs.YtjdfodmialhakaaDoor
open Go.RowKit

set_option maxRecDepth 100000 in
set_option maxHeartbeats 2000000 in
theorem forest_walk (ts : List Ta) (A : Option Addr) (c : Nat) (w : World) (hT : Tabs w) (ht : TRow w A c ts) :
    Calls Tryd.prog 15 #[.agg #[.slice A ts.length c]] w fun r w' => r = .returned (.bool true) ∧ Below w.heap.size w w' := by
  have hlen := ht.2.1
  have HT := Lib.hid ht
  have HTB := Lib.hid hT
  clear ht hT
  go_enter Tryd.func15, Tryd.ntmps15
  have h0 : Blk (w.alloc (.cells #[.slice A ts.length c] 103)) w.heap.size #[.slice A ts.length c] 103 := Blk.new w #[.slice A ts.length c] 103
  have hC : Below w.heap.size w (w.alloc (.cells #[.slice A ts.length c] 103)) := (by repeat (first | exact Below.refl _ _ | assumption | refine Below.drew ?_ | refine below_drewN ?_ _ | refine Below.alloc ?_ (by simp <;> omega) _))
  have HA := Lib.hid h0
  have HC := Lib.hid hC
  clear h0 hC
  go_upto_region 1 with fail
  generalize w.alloc (.cells #[.slice A ts.length c] 103) = W0 at HA HC ⊢
  have s0 := HA.out.cell 0
  simp only [List.getElem?_toArray, List.getElem?_cons_zero] at s0
  have hl0 := HA.out.lt
  go_wp2_with fail
  refine (large13_any ts A c _ (HT.out.ext HC.out)).mono ?_
  rintro r w1 ⟨⟨v, rfl⟩, hb⟩
  have HA := Lib.hid (HA.out.ext hb)
  have HC := Lib.hid (bt HC.out hb)
  clear s0 hl0 hb
  cases v
  · have s0 := HA.out.cell 0
    simp only [List.getElem?_toArray, List.getElem?_cons_zero] at s0
    have hl0 := HA.out.lt
    go_wp2_with fail
    refine (check13_any ts A c _ (HT.out.ext HC.out)).mono ?_
    rintro r w2 ⟨rfl, hb⟩
    have HA := Lib.hid (HA.out.ext hb)
    have HC := Lib.hid (bt HC.out hb)
    clear s0 hl0 hb
    cases hs : schB ts
    · rw [okE_f' rfl]
      clear hs
      go_wp2_with fail
      refine (alive13_any _ (HTB.out.ext HC.out)).mono ?_
      rintro r w3 ⟨rfl, hb⟩
      have HC := Lib.hid (bt HC.out hb)
      clear hb
      go_wp2_with fail
      go_ret
      exact ⟨rfl, HC.out⟩
    · rw [okE_t' rfl]
      have HSC := Lib.hid hs
      have h12 := (sch_parts hs).1.2
      clear hs
      go_wp2_with fail
      go_loopw [3] (fun v wr => ∃ i : Nat, i ≤ ts.length ∧ v = .int .i64 i ∧ Hid (Below w2.heap.size w2 wr)) (fun v _ => ts.length - (intOf v).toNat)
      case atStart => exact ⟨0, by omega, rfl, Below.refl _ _⟩
      case round =>
        obtain ⟨i, hi1, rfl, HBW⟩ := hrel
        have s0 := (HA.out.ext HBW.out).cell 0
        simp only [List.getElem?_toArray, List.getElem?_cons_zero] at s0
        have hl0 := (HA.out.ext HBW.out).lt
        by_cases hlt : i < ts.length
        · obtain ⟨t, ht⟩ : ∃ t, ts[i]? = some t := ⟨_, List.getElem?_eq_getElem hlt⟩
          have HI := Lib.hid ht
          have HFR := Lib.hid (forest_root HSC.out ht)
          have HFK := Lib.hid (fun p hp => forest_kid HSC.out (p := p) ht hp)
          have HCN := Lib.hid (fun p => cnt_next (p := p) ht)
          have hc0 : cntP t.par 0 = 0 := by unfold cntP; rw [if_neg (by omega)]
          clear ht
          go_wp2_with fail
          go_loopw [4, 5] (fun n v wp => ∃ p : Nat, p ≤ ts.length ∧ n = .int .i64 (cntP t.par p) ∧ v = .int .i64 p ∧ Hid (Below w2.heap.size w2 wp)) (fun _ v _ => ts.length - (intOf v).toNat)
          case atStart => exact ⟨0, by omega, by rw [hc0], rfl, HBW.out⟩
          case round =>
            clear HBW s0 hl0 hc0
            obtain ⟨p, hp1, rfl, rfl, HBW⟩ := hrel
            have s0 := (HA.out.ext HBW.out).cell 0
            simp only [List.getElem?_toArray, List.getElem?_cons_zero] at s0
            have hl0 := (HA.out.ext HBW.out).lt
            by_cases hpl : p < ts.length
            · have hcr := cnt_range t.par p
              have HCN := Lib.hid (HCN.out p)
              go_wp2_with fail
              refine (kids_any ts A c p _ (HT.out.ext (bt HC.out HBW.out))).mono ?_
              rintro r w3 ⟨hb, LA, lc, rfl, hn⟩
              have HN := Lib.hid hn
              have HBW := Lib.hid (bt HBW.out hb)
              have hkr : kidsR ts (p : Int) = kidsF ts p ts.length := by unfold kidsR; rw [if_pos (has_at HSC.out hpl)]
              have hkl := kids_len ts p ts.length
              have hkm : ∀ (k : Nat), (kidsF ts p ts.length)[k]? = some (i : Int) → t.par = p := fun k hk => by
                obtain ⟨j, u, _, h1, h2, h3⟩ := kids_mem hk
                have hij : j = i := by omega
                rw [hij, HI.out] at h2
                rw [Option.some.inj h2]
                exact h3
              rw [hkr] at HN ⊢
              have HKM := Lib.hid hkm
              clear hkm hkr
              generalize kidsF ts p ts.length = L at HN HCN HKM hkl ⊢
              clear hn hb s0 hl0
              go_wp2_with fail
              go_loopw [4, 7] (fun n v wk => ∃ k : Nat, k ≤ L.length ∧ n = .int .i64 (cntP t.par p + (((L.take k).count (i : Int) : Nat) : Int)) ∧ v = .int .i64 k ∧ Hid (Below w3.heap.size w3 wk)) (fun _ v _ => L.length - (intOf v).toNat)
              case atStart => exact ⟨0, by omega, by simp, rfl, Below.refl _ _⟩
              case round =>
                obtain ⟨k, hk1, rfl, rfl, HBK⟩ := hrel
                have HBW := Lib.hid (bt HBW.out HBK.out)
                by_cases hkl2 : k < L.length
                · obtain ⟨lb, lo, v, rfl, hlb, hlk, _, n0⟩ := (HN.out.ext HBK.out).at_ hkl2
                  have HLK := Lib.hid hlk
                  have hcl := List.count_le_length (a := (i : Int)) (l := L.take k)
                  rw [List.length_take] at hcl
                  clear hlk
                  by_cases hvi : v = i
                  · subst hvi
                    have HCY := Lib.hid (count_yes HLK.out)
                    obtain ⟨N, hN⟩ : ∃ N, N = cntP t.par p + (((L.take k).count (i : Int) : Nat) : Int) := ⟨_, rfl⟩
                    rw [← hN]
                    have hN1 : 0 ≤ N ∧ N ≤ 100 := by omega
                    have HNN := Lib.hid hN
                    have hpar := HKM.out k HLK.out
                    have hfk := HFK.out p hpar
                    obtain ⟨b, off, u, rfl, hbb, hu, _, _, _, d0, d1, d2, d3, d4⟩ := (HT.out.ext (bt HC.out HBW.out)).at_ hlt
                    have hut : u = t := Option.some.inj (hu.symm.trans HI.out)
                    subst hut
                    rw [hpar] at d4
                    obtain ⟨hf1, hf2, hf3, hf4⟩ := hfk
                    have HDI := Lib.hid (fun (W : World) (hW : Below wr.heap.size wr W) => depth_any ts _ c (i : Int) W (HT.out.ext (bt (bt HC.out HBW.out) hW)))
                    have HDP := Lib.hid (fun (W : World) (hW : Below wr.heap.size wr W) => depth_any ts _ c (p : Int) W (HT.out.ext (bt (bt HC.out HBW.out) hW)))
                    have HRI := Lib.hid (fun (W : World) (hW : Below wr.heap.size wr W) => root_any ts _ c (i : Int) W (HT.out.ext (bt (bt HC.out HBW.out) hW)))
                    have HRP := Lib.hid (fun (W : World) (hW : Below wr.heap.size wr W) => root_any ts _ c (p : Int) W (HT.out.ext (bt (bt HC.out HBW.out) hW)))
                    rw [hf1] at HDI
                    rw [hf2] at HRI
                    generalize depR ts (p : Int) = D at HDI HDP hf3 hf4
                    generalize rootR ts (p : Int) = R at HRI HRP
                    have HD4 := Lib.hid d4
                    have hAk := Lib.hid (HA.out.ext HBW.out)
                    have hwD : IntKind.i64.wrap (D + 1) = D + 1 := by rw [IntKind.wrap_i64]; omega
                    have hwN : IntKind.i64.wrap (N + 1) = N + 1 := by rw [IntKind.wrap_i64]; omega
                    have hpi : (0 : Int) ≤ i := by omega
                    have hpl' : (i : Int) < ts.length := by omega
                    clear hf1 hf2 hN hpar hu d0 d1 d2 d3 d4 hcr hcl hN1
                    go_upto_region 16 with fail
                    refine region_grow [false, false, false, false, false, false, false, false, false, false, false, false, false, false, false, false, false, false, false, false, false, false, false, false, false, false, false, false, false, false, false, false, false, false, false, false, false, false, false, false, false, false, false, false, false, false, false, false, true, true, true, true, true, true, true, true, true, true, true, true, true, true, true, true, true, true, true, true, true, true, true, true, true, true, true, false, false, false, false, false, false, false, false, false, false, false, false, false, false, false, false, false, false, false, false, false, false, false, false, false, false, false, false, false, false, false, false, false, false, false, false, false, false, false, false] [48, 49, 50, 51, 52, 53, 54, 55, 56, 57, 58, 59, 60, 61, 62, 63, 64, 65, 66, 67, 68, 69, 70, 71, 72, 73, 74] [.val (.int .i64 p), .val (.pointer (some ⟨w.heap.size, 0, none⟩)), .val (.slice (some ⟨b, off, none⟩) ts.length c), .val (.int .i64 i), .val (.pointer (some ⟨b, off + i * 5, none⟩)), .val (.pointer (some ⟨b, off + i * 5 + 4, none⟩)), .val (.int .i64 p), .val (.bool false), .val (.bool false), .val (.agg #[.slice (some ⟨b, off, none⟩) ts.length c]), .val (.int .i64 i), .val (.int .i64 (D + 1)), .val (.agg #[.slice (some ⟨b, off, none⟩) ts.length c]), .val (.int .i64 p), .val (.int .i64 D), .val (.int .i64 (D + 1)), .val (.bool false), .val (.bool false), .val (.bool false), .val (.agg #[.slice (some ⟨b, off, none⟩) ts.length c]), .val (.int .i64 i), .val (.int .i64 R), .val (.agg #[.slice (some ⟨b, off, none⟩) ts.length c]), .val (.int .i64 p), .val (.int .i64 R), .val (.bool false), .val (.bool false)] [26] (by kernel_rfl) (by kernel_rfl) (by kernel_rfl) (by kernel_rfl) (by kernel_rfl) ⟨?_, ?_, ?_, ?_, ?_, ?_, ?_, ?_, ?_, ?_, ?_, ?_, ?_, ?_, ?_, ?_, ?_, ?_, ?_, ?_, ?_, ?_, ?_, ?_, ?_, ?_, ?_, trivial⟩ ?done
                    case done =>
                      intro x w5 hb5
                      simp only [StepGoal, overlay, upd, cond_true, cond_false, List.getD_cons_zero, List.getD_cons_succ, Nat.zero_add, Nat.reduceAdd, Nat.reduceEqDiff, reduceIte]
                      go_wp2_with fail
                      go_roundw
                      case rel => exact ⟨k + 1, by omega, by rw [HCY.out, HNN.out]; go_num, by go_num, bt HBK.out hb5⟩
                      case measure => simp [intOf]; omega
                    all_goals
                      intro x w5 hb5
                      intro K hK
                      have s0 := (hAk.out.ext hb5).cell 0
                      simp only [List.getElem?_toArray, List.getElem?_cons_zero] at s0
                      have hl5 := (hAk.out.ext hb5).lt
                      have d4 := (hb5.cell (p := ⟨b, off + i * 5 + 4, none⟩) hbb).trans HD4.out
                      rw [if_pos (by rfl)]; simp only [overlay, upd, cond_true, cond_false, List.getD_cons_zero, List.getD_cons_succ, Nat.reduceEqDiff, reduceIte]
                      go_simp
                      first
                        | exact hK.out _ _ (Below.refl _ _) rfl
                        | ((with_reducible refine (HDI.out _ hb5).mono ?_); rintro e wa ⟨rfl, hba⟩; go_wp2_with fail; exact hK.out _ _ hba rfl)
                        | ((with_reducible refine (HDP.out _ hb5).mono ?_); rintro e wa ⟨rfl, hba⟩; go_wp2_with fail; exact hK.out _ _ hba rfl)
                        | ((with_reducible refine (HRI.out _ hb5).mono ?_); rintro e wa ⟨rfl, hba⟩; go_wp2_with fail; exact hK.out _ _ hba rfl)
                        | ((with_reducible refine (HRP.out _ hb5).mono ?_); rintro e wa ⟨rfl, hba⟩; go_wp2_with fail; exact hK.out _ _ hba rfl)
                  · have HCY := Lib.hid (count_no HLK.out hvi)
                    have q1 : (v != (i : Int)) = true := by rw [bne_iff_ne]; exact hvi
                    clear hvi
                    go_wp2_with fail
                    go_roundw
                    case rel => exact ⟨k + 1, by omega, by rw [HCY.out], by go_num, HBK.out⟩
                    case measure => simp [intOf]; omega
                · have hke : k = L.length := by omega
                  have HE : Hid (cntP t.par p + (((L.take k).count (i : Int) : Nat) : Int) = cntP t.par (p + 1)) := by show _ = _; rw [hke, List.take_length]; exact HCN.out
                  clear hke
                  go_wp2_with fail
                  go_roundw
                  case rel => exact ⟨p + 1, by omega, by rw [HE.out], by go_num, HBW.out⟩
                  case measure => simp [intOf]; omega
            · obtain ⟨hdr, h8⟩ := HFR.out
              have hAk := Lib.hid (HA.out.ext HBW.out)
              obtain ⟨b, off, u, rfl, hbb, hu, _, _, _, d0, d1, d2, d3, d4⟩ := (HT.out.ext (bt HC.out HBW.out)).at_ hlt
              have hut : u = t := Option.some.inj (hu.symm.trans HI.out)
              subst hut
              have HDI := Lib.hid (fun (W : World) (hW : Below wr.heap.size wr W) => depth_any ts _ c (i : Int) W (HT.out.ext (bt (bt HC.out HBW.out) hW)))
              have HRI := Lib.hid (fun (W : World) (hW : Below wr.heap.size wr W) => root_any ts _ c (i : Int) W (HT.out.ext (bt (bt HC.out HBW.out) hW)))
              have hpi : (0 : Int) ≤ i := by omega
              have hil : (i : Int) < ts.length := by omega
              have hpe : p = ts.length := by omega
              have hpe2 : ¬ (p : Int) < ts.length := by omega
              rcases hdr with ⟨g1, g2, g3⟩ | ⟨g1, g2⟩
              · have hc : cntP u.par p = 0 := by unfold cntP; rw [if_neg (by omega)]
                rw [hc]
                rw [g1] at d4
                rw [g2] at HDI
                rw [g3] at HRI
                clear hc g1 g2 g3 hu h8 hpe d0 d1 d2 d3
                go_wp2_with fail
                refine (HDI.out _ (by repeat (first | exact Below.refl _ _ | assumption | refine Below.drew ?_ | refine below_drewN ?_ _ | refine Below.alloc ?_ (by simp <;> omega) _))).mono ?_
                rintro r w3 ⟨rfl, hb3⟩
                have s0 := (hAk.out.ext hb3).cell 0
                simp only [List.getElem?_toArray, List.getElem?_cons_zero] at s0
                have hl3 := (hAk.out.ext hb3).lt
                have HB3 := Lib.hid hb3
                clear d4 hb3 hl0
                go_wp2_with fail
                refine (HRI.out _ HB3.out).mono ?_
                rintro r w4 ⟨rfl, hb4⟩
                have HB3 := Lib.hid (bt HB3.out hb4)
                clear hb4 s0 hl3
                have s0 := (hAk.out.ext HB3.out).cell 0
                simp only [List.getElem?_toArray, List.getElem?_cons_zero] at s0
                have hl3 := (hAk.out.ext HB3.out).lt
                go_wp2_with fail
                refine (HDI.out _ HB3.out).mono ?_
                rintro r w5 ⟨rfl, hb4⟩
                have HB3 := Lib.hid (bt HB3.out hb4)
                clear hb4 s0 hl3
                go_wp2_with fail
                go_roundw
                case rel => exact ⟨i + 1, by omega, by go_num, bt HBW.out HB3.out⟩
                case measure => simp [intOf]; omega
              · have hc : cntP u.par p = 1 := by unfold cntP; rw [if_pos (by omega)]
                rw [hc]
                generalize depR ts (i : Int) = D at HDI h8
                have g3 : ¬ u.par < 0 := by omega
                clear hc g2 hu hpe d0 d1 d2 d3
                go_wp2_with fail
                refine (HDI.out _ (by repeat (first | exact Below.refl _ _ | assumption | refine Below.drew ?_ | refine below_drewN ?_ _ | refine Below.alloc ?_ (by simp <;> omega) _))).mono ?_
                rintro r w3 ⟨rfl, hb3⟩
                have HB3 := Lib.hid hb3
                clear d4 hb3 hl0 s0
                go_wp2_with fail
                go_roundw
                case rel => exact ⟨i + 1, by omega, by go_num, bt HBW.out HB3.out⟩
                case measure => simp [intOf]; omega
        · have hie : ¬ (i : Int) < ts.length := by omega
          go_wp2_with fail
          refine (alive13_any _ (HTB.out.ext (bt HC.out HBW.out))).mono ?_
          rintro r w3 ⟨rfl, hb⟩
          have HC := Lib.hid (bt (bt HC.out HBW.out) hb)
          clear hb s0 hl0
          go_wp2_with fail
          go_ret
          exact ⟨rfl, HC.out⟩
  · go_wp2_with fail
    refine (alive13_any _ (HTB.out.ext HC.out)).mono ?_
    rintro r w2 ⟨rfl, hb⟩
    have HC := Lib.hid (bt HC.out hb)
    clear hb
    go_wp2_with fail
    go_ret
    exact ⟨rfl, HC.out⟩
end Go.Proofs.YtjdfodmialhakaaDoor
