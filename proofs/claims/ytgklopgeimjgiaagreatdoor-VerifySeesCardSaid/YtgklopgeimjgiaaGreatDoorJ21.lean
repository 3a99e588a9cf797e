/- Several texts in one: see each part's head. -/
import Derived.Test.YtgklopgeimjgiaaGreatDoorJ20
/- VerifySees: rel.clone: a schema of one's own. -/
namespace Go.Proofs.YtgklopgeimjgiaaGreatDoor
open Go.RowKit

theorem schT {ts : List Ta} (h : schB ts = true) {j : Nat} {t : Ta} (hj : ts[j]? = some t) : 1 ≤ t.cs.length ∧ t.cs.length ≤ 8 := by
  have h1 := (tab_parts (pre_at (sch_parts h).2.1 (List.getElem?_eq_some_iff.1 hj).1 hj)).1
  unfold colsB at h1
  rw [Bool.and_eq_true, decide_eq_true_eq] at h1
  exact h1.1
theorem schN {ts : List Ta} (h : schB ts = true) : 1 ≤ ts.length ∧ ts.length ≤ 12 := (sch_parts h).1
theorem tcells_one (l : List Ta) : ∀ u ∈ tcells l, Value.oneCell' u := by
  intro u hu
  obtain ⟨t, _, hc⟩ := List.mem_flatMap.1 hu
  simp only [List.mem_cons, List.not_mem_nil, or_false] at hc
  rcases hc with rfl | rfl | rfl | rfl | rfl <;> simp [Value.oneCell']
def CloneS (ts : List Ta) (w : World) (r : Ending) (w' : World) : Prop :=
  Below w.heap.size w w' ∧ ∃ A c us, r = .returned (.agg #[.slice A us.length c]) ∧ OwS w' A c us ∧ us.map Ta.d = ts.map Ta.d
theorem tcells_at (l : List Ta) (k q : Nat) (t : Ta) (hk : l[k]? = some t) (hq : q < 5) : (tcells l)[k * 5 + q]? = [Value.string t.nm, .slice t.A t.cs.length t.c, .int .i64 t.key, .int .i64 t.ref, .int .i64 t.par][q]? := flat_get _ 5 (fun _ => rfl) l k q t hk hq
theorem tcells_set {l : List Ta} {k : Nat} {t : Ta} (hk : l[k]? = some t) (A : Option Addr) (c : Nat) : (tcells l).set (k * 5 + 1) (.slice A t.cs.length c) = tcells (l.set k { t with A := A, c := c }) := by
  induction l generalizing k with
  | nil => simp at hk
  | cons a l ih =>
    cases k with
    | zero =>
      simp only [List.getElem?_cons_zero, Option.some.injEq] at hk
      subst hk
      simp [tcells]
    | succ k =>
      have ih := ih (by simpa using hk)
      simp only [tcells, List.flatMap_cons, List.set_cons_succ] at ih ⊢
      rw [← ih, show (k + 1) * 5 + 1 = k * 5 + 1 + 5 by omega]
      rfl
theorem blk_nt {w : World} {x y : Nat} {cs ds : Array Value} {t u : TypeId} (h : Blk w x cs t) (k : Blk w y ds u) (hne : t ≠ u) : x ≠ y := by
  intro e
  subst e
  have := h.symm.trans k
  simp only [Option.some.injEq, Obj.cells.injEq] at this
  exact hne this.2.1
theorem own_base' {w : World} {base base' e size n : Nat} {v : Value} {xs : List Value} (h : w.ownsRow base e size v n xs) (hb : base' ≤ base) : w.ownsRow base' e size v n xs := by
  obtain ⟨h1, h2 | ⟨g, cap, cur, h3, h4, h5⟩⟩ := h
  · exact ⟨h1, Or.inl h2⟩
  · exact ⟨h1, Or.inr ⟨g, cap, cur, h3, Nat.le_trans hb h4, h5⟩⟩
theorem own_cur {w : World} {base e n c size q : Nat} {xs : List Value} (h : w.ownsRow base e size (.slice (some ⟨q, 0, none⟩) n c) n xs) (_hn : 0 < n) : ∃ cur, w.heap[q]? = some (.cells cur e (0, 0)) ∧ n ≤ c ∧ c ≤ maxLen ∧ cur.size = c * size ∧ cur.toList.take (n * size) = xs := by
  obtain ⟨hl, ⟨h1, _⟩ | ⟨q', cap, cur, h1, h2, h3, h4, h5, h6, h7⟩⟩ := h
  · cases h1
  · simp only [Value.slice.injEq, Option.some.injEq, Addr.mk.injEq, and_true] at h1
    obtain ⟨rfl, -, rfl⟩ := h1
    exact ⟨cur, h3, h4, h5, h6, h7⟩
/-- The loop of rel.clone: the first k tables have columns of their own. -/
structure ClI (ts : List Ta) (w : World) (X3 g n c' k : Nat) (wr : World) : Prop where
  lo : w.heap.size ≤ X3 ∧ w.heap.size ≤ g ∧ X3 < wr.heap.size
  b : Blk wr X3 #[.slice (some ⟨g, 0, none⟩) n c'] 24
  m : ∃ us, us.length = n ∧ us.map Ta.d = ts.map Ta.d ∧ wr.ownsRow w.heap.size 46 5 (.slice (some ⟨g, 0, none⟩) n c') n (tcells us) ∧ (∀ j t, j < k → us[j]? = some t → ∃ base, wr.ownsRow base 86 3 (.slice t.A t.cs.length t.c) t.cs.length (ccells t.cs)) ∧ ∀ j, k ≤ j → us[j]? = ts[j]?
  f : Below w.heap.size w wr
theorem ClI.step {ts : List Ta} {w wr w5 : World} {X3 g n c' k : Nat} (h : ClI ts w X3 g n c' k wr) (hlt : k < n) {t : Ta} (hk : ts[k]? = some t) (hb : Below wr.heap.size wr w5) {cur : Array Value} (hg : Blk w5 g cur 46) {A2 : Option Addr} {c2 base : Nat}
    (hcols : w5.ownsRow base 86 3 (.slice A2 t.cs.length c2) t.cs.length (ccells t.cs)) : ClI ts w X3 g n c' (k + 1) (putBlk w5 g (cur.setIfInBounds (k * 5 + 1) (.slice A2 t.cs.length c2)) 46) := by
  obtain ⟨us, hul, hud, hown, hdone, hrest⟩ := h.m
  have huk : us[k]? = some t := (hrest k (Nat.le_refl _)).trans hk
  have hown5 := own_below hown hb
  obtain ⟨cur', hg', hcn, hcm, hcz, htake⟩ := own_cur hown5 (by omega)
  have e : cur' = cur := by
    have := hg'.symm.trans hg
    simpa using this
  subst e
  have hbX := h.b.ext hb
  have hne : X3 ≠ g := blk_nt hbX hg (by decide)
  refine ⟨⟨h.lo.1, h.lo.2.1, by rw [putBlk_size]; exact hbX.lt⟩, putBlk_ne hbX hne, ⟨us.set k { t with A := A2, c := c2 }, by rw [List.length_set]; exact hul, ?_, ?_, ?_, ?_⟩, putBlk_below _ _ (bt h.f hb) h.lo.2.1⟩
  · rw [← hud, List.map_set]
    refine List.ext_getElem? fun j => ?_
    rw [List.getElem?_set]
    by_cases h' : k = j
    · subst h'
      rw [if_pos rfl, List.getElem?_map, huk, if_pos (by rw [List.length_map]; omega)]
      rfl
    · rw [if_neg h']
  · refine ⟨by rw [← tcells_set huk, List.length_set]; exact hown.1, Or.inr ⟨g, c', _, rfl, h.lo.2.1, putBlk_blk _ _ hg.lt, hcn, hcm, by simpa using hcz, ?_⟩⟩
    rw [← tcells_set huk, ← htake, Array.toList_setIfInBounds, List.take_set]
  · intro j u hj hu
    by_cases h' : j = k
    · subst h'
      rw [List.getElem?_set_self (by omega), Option.some.injEq] at hu
      subst hu
      exact ⟨base, own_below_put hcols hg (by decide) _⟩
    · rw [List.getElem?_set_ne (Ne.symm h')] at hu
      obtain ⟨b2, h2⟩ := hdone j u (by omega) hu
      exact ⟨b2, own_below_put (own_below h2 hb) hg (by decide) _⟩
  · intro j hj
    rw [List.getElem?_set_ne (by omega)]
    exact hrest j (by omega)
set_option maxRecDepth 100000 in
set_option maxHeartbeats 3200000 in
theorem clone_any (ts : List Ta) (A : Option Addr) (c : Nat) (w : World) (ht : TRow w A c ts) (hs : schB ts = true) :
    Calls Tryz.prog 39 #[.agg #[.slice A ts.length c]] w (CloneS ts w) := by
  have hlen := schN hs
  have HS := Lib.hid (fun (j : Nat) (t : Ta) (hj : ts[j]? = some t) => schT hs hj)
  obtain ⟨b, off, rfl, lb, hcells⟩ := ht.2.2.2 (by intro e; rw [e] at hlen; simp at hlen)
  have HT := Lib.hid ht
  have HCL := Lib.hid (fun (W : World) (hW : Below w.heap.size w W) => clone_tab ts.length (tcells ts) ⟨b, off, none⟩ c W (flat_length _ 5 (fun _ => rfl) ts) (tcells_one ts) (by
    intro j u hu
    have hj : j < ts.length * 5 := by
      have := (List.getElem?_eq_some_iff.1 hu).1
      rwa [show (tcells ts).length = ts.length * 5 from flat_length _ 5 (fun _ => rfl) ts] at this
    have hk : j / 5 < ts.length := by omega
    have hget := List.getElem?_eq_getElem hk
    obtain ⟨c0, c1, c2, c3, c4⟩ := hcells (j / 5) _ hget
    have e : j = j / 5 * 5 + j % 5 := by omega
    rw [e] at hu
    rw [tcells_at ts (j / 5) (j % 5) _ hget (by omega)] at hu
    have ea : (⟨b, off, none⟩ : Addr).add j = ⟨b, off + j / 5 * 5 + j % 5, none⟩ := by
      unfold Addr.add; split
      · next h0 => subst h0; rfl
      · show (⟨b, off + j, none⟩ : Addr) = _
        rw [show off + j = off + j / 5 * 5 + j % 5 by omega]
    rw [ea, hW.cell (p := ⟨b, _, none⟩) lb]
    have hm : j % 5 = 0 ∨ j % 5 = 1 ∨ j % 5 = 2 ∨ j % 5 = 3 ∨ j % 5 = 4 := by omega
    rcases hm with hm | hm | hm | hm | hm <;> rw [hm] at hu ⊢ <;> simp only [List.getElem?_cons_zero, List.getElem?_cons_succ, Option.some.injEq] at hu <;> subst hu
    · exact c0
    · exact c1
    · exact c2
    · exact c3
    · exact c4) (by omega))
  clear ht hcells hs
  go_enter Tryz.func39, Tryz.ntmps39
  go_upto_region 1 with fail
  have hC : Below w.heap.size w ((w.alloc (.cells #[.slice (some ⟨b, off, none⟩) ts.length c] 24)).alloc (.cells #[.slice none 0 0] 24)) := (by repeat (first | exact Below.refl _ _ | assumption | refine Below.drew ?_ | refine below_drewN ?_ _ | refine Below.alloc ?_ (by simp <;> omega) _))
  have h1 : Blk ((w.alloc (.cells #[.slice (some ⟨b, off, none⟩) ts.length c] 24)).alloc (.cells #[.slice none 0 0] 24)) w.heap.size #[.slice (some ⟨b, off, none⟩) ts.length c] 24 := (Blk.new w _ _).old _
  have h2 : Blk ((w.alloc (.cells #[.slice (some ⟨b, off, none⟩) ts.length c] 24)).alloc (.cells #[.slice none 0 0] 24)) (w.heap.size + 1) #[.slice none 0 0] 24 := (by repeat (first | exact Blk.at (by simp) | assumption | refine Blk.drew ?_ | refine Blk.old ?_ _))
  have H2 := Lib.hid h2
  have HC := Lib.hid hC
  have HX2 : Hid (w.heap.size ≤ w.heap.size + 1) := Nat.le_succ _
  have s0 := h1.cell 0
  have l1 := h1.lt
  simp only [List.getElem?_toArray, List.getElem?_cons_zero] at s0
  clear h1 h2 hC
  generalize (w.alloc (.cells #[.slice (some ⟨b, off, none⟩) ts.length c] 24)).alloc (.cells #[.slice none 0 0] 24) = W0 at H2 HC s0 l1 ⊢
  generalize w.heap.size + 1 = X2 at H2 HX2 ⊢
  go_wp2_with fail
  refine (HCL.out W0 HC.out).mono ?_
  rintro r w1 ⟨hb, A', c', rfl, ho, _⟩
  have hn : 0 < ts.length := by omega
  obtain ⟨g, cap, hv, hg1, hg2⟩ := ho.form hn
  simp only [Value.slice.injEq, true_and] at hv
  obtain ⟨rfl, rfl⟩ := hv
  have HO := Lib.hid ho
  have H2' := Lib.hid (H2.out.ext hb)
  have H2 := Lib.hid (H2.out.ext hb)
  have HC1 := Lib.hid (bt HC.out hb)
  have hsz := HC.out.size
  clear HCL hb ho HC s0 l1
  go_upto_region 2 with fail
  have HCI : Hid (ClI ts w w1.heap.size g ts.length c' 0 (w1.alloc (.cells #[.slice (some ⟨g, 0, none⟩) ts.length c'] 24))) :=
    ⟨⟨HC1.out.size, Nat.le_trans hsz hg1, by simp⟩, Blk.new _ _ _, ⟨ts, rfl, rfl, own_base' (own_below HO.out (by repeat (first | exact Below.refl _ _ | assumption | refine Below.drew ?_ | refine below_drewN ?_ _ | refine Below.alloc ?_ (by simp <;> omega) _))) hsz, fun j t hj => by omega, fun j _ => rfl⟩, bt HC1.out (by repeat (first | exact Below.refl _ _ | assumption | refine Below.drew ?_ | refine below_drewN ?_ _ | refine Below.alloc ?_ (by simp <;> omega) _))⟩
  have H2 := Lib.hid (H2.out.old (.cells #[.slice (some ⟨g, 0, none⟩) ts.length c'] 24))
  have hX3 := H2.out.lt
  have x0 := HCI.out.b.cell 0
  have l3 := HCI.out.b.lt
  have hne : Hid (X2 ≠ w1.heap.size) := by
    show _ ≠ _
    have := H2'.out.lt
    omega
  simp only [List.getElem?_toArray, List.getElem?_cons_zero] at x0
  generalize w1.alloc (.cells #[.slice (some ⟨g, 0, none⟩) ts.length c'] 24) = W2 at HCI H2 x0 l3 hX3 ⊢
  generalize w1.heap.size = X3 at HCI hne x0 l3 ⊢
  generalize hN : ts.length = n at *
  clear hX3 hsz HO HC1 hg1 hg2 H2'
  have HN := Lib.hid hN
  clear hN
  go_wp2_with fail
  go_loopw [12] (fun i wr => ∃ k : Nat, k ≤ n ∧ i = .int .i64 k ∧ Hid (ClI ts w X3 g n c' k wr) ∧ Hid (Blk wr X2 #[.slice none 0 0] 24)) (fun i _ => n - (intOf i).toNat)
  case atStart => exact ⟨0, by omega, rfl, HCI.out, H2.out⟩
  case round =>
    clear x0 l3 HCI H2
    obtain ⟨k, hk, rfl, HCI, H2⟩ := hrel
    by_cases hlt : k < n
    · obtain ⟨us, hul, hud, hown, hdone, hrest⟩ := HCI.out.m
      obtain ⟨t, htk⟩ : ∃ t, ts[k]? = some t := ⟨_, List.getElem?_eq_getElem (by rw [HN.out]; exact hlt)⟩
      have huk : us[k]? = some t := (hrest k (Nat.le_refl _)).trans htk
      have hcs := HS.out k t htk
      have hcr := (HT.out.1 t (List.mem_of_getElem? htk)).2
      obtain ⟨cb, coff, hA, lcb, _⟩ := hcr.2.2 (by intro e; rw [e] at hcs; simp at hcs)
      rw [hA] at hcr
      have HCC := Lib.hid (fun (W : World) (hW : Below w.heap.size w W) => clone_col t.cs.length (ccells t.cs) ⟨cb, coff, none⟩ t.c W (ccells_length _) (ccells_one _) (CRow.cells_ (hcr.ext hW)) (by omega))
      obtain ⟨cur, hg, hcn, hcm, hcz, htake⟩ := own_cur hown (by omega)
      have hcel : ∀ q v, q < 5 → [Value.string t.nm, .slice t.A t.cs.length t.c, .int .i64 t.key, .int .i64 t.ref, .int .i64 t.par][q]? = some v → cur[k * 5 + q]? = some v := by
        intro q v hq hv
        have e := tcells_at us k q t huk hq
        rw [hv, ← htake, List.getElem?_take] at e
        split at e
        · rw [← Array.getElem?_toList]; exact e
        · cases e
      have h1c := hcel 1 _ (by omega) rfl
      have hb1 : k * 5 + 1 < cur.size := (Array.getElem?_eq_some_iff.1 h1c).1
      rw [hA] at h1c
      have HG := Lib.hid (show Blk wr g cur 46 from hg)
      have HUS := Lib.hid (And.intro hul (And.intro hud (And.intro hdone hrest)))
      have HHH := Lib.hid (And.intro huk (And.intro htake (And.intro hcn (And.intro hcm (And.intro hcz hown)))))
      have HH1 := Lib.hid h1c
      have HTK := Lib.hid htk
      have x0 := HCI.out.b.cell 0
      have l3 := HCI.out.b.lt
      simp only [List.getElem?_toArray, List.getElem?_cons_zero] at x0
      clear hul hud hown hdone hrest htk huk hcs hcr hg hcn hcm hcz htake hcel h1c lcb
      have hlt' : (k : Int) < n := by omega
      go_upto_region 5 with fail
      have HRF := Lib.hid HCI.out.f
      refine region_last 12 _ [false, false, false, false, false, false, false, false, false, false, false, false, false, false, false, true, true, true, true, true, true, true, true, true, true, true, true, false, false] [15, 16, 17, 18, 19, 20, 21, 22, 23, 24, 25, 26] [.val (.pointer (some ⟨X3, 0, none⟩)), .val (.slice (some ⟨g, 0, none⟩) n c'), .val (.int .i64 k), .val (.pointer (some ⟨X3, 0, none⟩)), .val (.slice (some ⟨g, 0, none⟩) n c'), .val (.int .i64 k), .val (.pointer (some ⟨g, k * 5, none⟩)), .val (.pointer (some ⟨g, k * 5 + 1, none⟩)), .val (.slice (some ⟨cb, coff, none⟩) t.cs.length t.c), .mem (fun v w2 => ∃ A c, v = .slice A t.cs.length c ∧ w.heap.size ≤ w2.heap.size ∧ (∃ base, w2.ownsRow base 86 3 (.slice A t.cs.length c) t.cs.length (ccells t.cs)) ∧ (A = none → c = 0)) (fun v w2 w3 ⟨A, c, h1, h2, ⟨base, h3⟩, h4⟩ hb => ⟨A, c, h1, by have := hb.size; omega, ⟨base, own_below h3 hb⟩, h4⟩), .val (.pointer (some ⟨g, k * 5, none⟩)), .val (.pointer (some ⟨g, k * 5 + 1, none⟩))] [11, 9] (by kernel_rfl) (by kernel_rfl) rfl (by kernel_rfl) (by kernel_rfl) (by kernel_rfl) (by kernel_rfl) (by kernel_rfl) ⟨?_, ?_, ?_, ?_, ?_, ?_, ?_, ?_, ?_, ?_, ?_, ?_, trivial⟩ ?done
      case done =>
        intro x w5 hb5
        simp only [StepGoal, List.getD_cons_zero, List.getD_cons_succ]
        rintro v ⟨A2, c2, rfl, hB, ⟨base, hcols⟩, hn2⟩ K hK
        have hg5 := HG.out.ext hb5
        have HX5 := Lib.hid (HCI.out.b.ext hb5)
        have H25 := Lib.hid (H2.out.ext hb5)
        have HCO := Lib.hid hcols
        have HB5 := Lib.hid hb5
        clear hcols hb5 hB hn2 x0 l3
        obtain ⟨w3, rfl, lt⟩ := blk_put hg5
        have pc : (putBlk w3 g cur 46).cell? ⟨g, k * 5 + 1, none⟩ = some (.slice (some ⟨cb, coff, none⟩) t.cs.length t.c) := ((putBlk_blk cur 46 lt).cell _).trans HH1.out
        have pf : (putBlk w3 g cur 46).frozen? ⟨g, k * 5 + 1, none⟩ = false := (putBlk_blk cur 46 lt).frozen _
        have pS : ∀ v, (putBlk w3 g cur 46).setCell ⟨g, k * 5 + 1, none⟩ v = putBlk w3 g (cur.setIfInBounds (k * 5 + 1) v) 46 := fun v => putBlk_set cur 46 lt _ v
        have HST : Hid (ClI ts w X3 g n c' (k + 1) (putBlk w3 g (cur.setIfInBounds (k * 5 + 1) (.slice A2 t.cs.length c2)) 46)) := by
          have := HCI.out.step hlt HTK.out HB5.out hg5 HCO.out
          rwa [put_put'] at this
        have HX2' := Lib.hid (putBlk_old H25.out (blk_nt H25.out hg5 (by decide)) (cur.setIfInBounds (k * 5 + 1) (.slice A2 t.cs.length c2)))
        clear hg5
        rw [if_pos (by rfl)]; simp only [overlay, upd, cond_true, cond_false, Nat.reduceEqDiff, reduceIte]
        go_simp
        refine hK.out _ _ ?_
        clear pc pf pS
        go_wp2_with fail
        go_roundw
        case rel => exact ⟨k + 1, by omega, by go_num, HST.out, HX2'.out⟩
        case measure => simp [intOf]; omega
      all_goals
        intro x w5 hb5
        first
          | rintro v ⟨A2, c2, rfl, hB, hcols, hn2⟩ K hK
          | intro K hK
        have hx := HCI.out.b.ext hb5
        have hg5 := HG.out.ext hb5
        have x0 := hx.cell 0
        have l3 := hx.lt
        have g1 := (hg5.cell (k * 5 + 1)).trans HH1.out
        have lg := hg5.lt
        simp only [List.getElem?_toArray, List.getElem?_cons_zero] at x0
        rw [if_pos (by rfl)]; simp only [overlay, upd, cond_true, cond_false, List.getD_cons_zero, List.getD_cons_succ, Nat.reduceEqDiff, reduceIte]
        go_simp
        first
          | exact hK.out _ _ (Below.refl _ _) rfl
          | ((with_reducible refine (HCC.out _ (bt HRF.out hb5)).mono ?_); rintro e wa ⟨hba, A2, c2, rfl, ho2, hn2⟩; go_wp2_with fail; exact hK.out _ _ hba ⟨A2, c2, rfl, by have := hba.size; have := hb5.size; have := HRF.out.size; omega, ⟨_, ho2⟩, hn2⟩)
    · have hke : k = n := by omega
      subst hke
      have hres := HCI.out
      have HB2 := Lib.hid (H2.out)
      have h3 := HCI.out.b.cell 0
      have l3 := HCI.out.b.lt
      simp only [List.getElem?_toArray, List.getElem?_cons_zero] at h3
      have hX2 := H2.out
      have HNE := Lib.hid (show X3 ≠ X2 from Ne.symm hne.out)
      have HF : Hid (∀ cs, CloneS ts w (.returned (.agg #[.slice (some ⟨g, 0, none⟩) k c'])) (putBlk wr X2 cs 24)) := by
        intro cs
        obtain ⟨us, hul, hud, hown, hdone, _⟩ := hres.m
        subst hul
        refine ⟨putBlk_below _ _ hres.f HX2.out, some ⟨g, 0, none⟩, c', us, rfl, ⟨by have := hlen; omega, ⟨_, own_below_put hown hX2 (by decide) _⟩, fun t ht => ?_⟩, hud⟩
        obtain ⟨j, hj, rfl⟩ := List.getElem_of_mem ht
        have hget := List.getElem?_eq_getElem hj
        obtain ⟨base, h5⟩ := hdone j _ hj hget
        have hjt : j < ts.length := by rw [HN.out]; exact hj
        have hd : us[j].d = ts[j].d := by
          have := congrArg (fun l => l[j]?) hud
          simp only [List.getElem?_map, hget, List.getElem?_eq_getElem hjt, Option.map_some, Option.some.injEq] at this
          exact this
        unfold Ta.d at hd
        simp only [Prod.mk.injEq] at hd
        have hw := (HT.out.1 ts[j] (List.getElem_mem hjt)).1
        have hc := (HT.out.1 ts[j] (List.getElem_mem hjt)).2
        have hs8 := HS.out j ts[j] (List.getElem?_eq_getElem hjt)
        refine ⟨?_, ?_, ?_, base, own_below_put h5 hX2 (by decide) _⟩
        · unfold Ta.wf at hw ⊢
          rw [hd.1, hd.2.2.1, hd.2.2.2.1, hd.2.2.2.2]
          exact hw
        · rw [hd.2.1]; exact hc.1
        · rw [hd.2.1]; omega
      clear hres
      obtain ⟨w20, rfl, lt⟩ := blk_put hX2
      have h3' : ∀ ds, (putBlk w20 X2 ds 24).cell? ⟨X3, 0, none⟩ = some (.slice (some ⟨g, 0, none⟩) k c') := fun ds => by
        rw [putBlk_cell_ne HNE.out #[.slice none 0 0] ds]
        exact h3
      have h9 := h3' #[.slice none 0 0]
      obtain ⟨pc, pf, pS⟩ := putBlk_facts (w := w20) 24 lt
      have HF2 := Lib.hid (HF.out #[.slice (some ⟨g, 0, none⟩) k c'])
      rw [put_put'] at HF2
      clear hX2 h3 HF h3' HB2
      go_wp2_with fail
      refine bodyPost_ret (v := .agg #[.slice (some ⟨g, 0, none⟩) k c']) (by simp [results, Tryz.results39, go_sem, pc]) rfl ?_
      exact HF2.out
end Go.Proofs.YtgklopgeimjgiaaGreatDoor
