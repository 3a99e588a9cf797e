/- Several texts in one: see each part's head. -/
import Derived.Test.YtgklopgeimjgiaaGreatDoorJ38
/- VerifySees: verify.Docs: what it holds. -/
namespace Go.Proofs.YtgklopgeimjgiaaGreatDoor
open Go.RowKit

theorem info_rt : (Tryz.prog.info? 78).map (fun i => (i.zero, i.size, i.bytes)) = some (some (.agg #[.int .i64 0, .int .u8 0, .int .i64 0, .int .u64 0, .string ⟨#[]⟩]), 5, 48) := by kernel_rfl
theorem embR_inj {x y : Nat × V} (h : embR x = embR y) : x = y := by
  unfold embR at h
  rw [Prod.mk.injEq] at h
  exact Prod.ext (by omega) h.2
/-- A document of a table of roots. -/
def RootD (us : List Ta) (d : De) : Prop := ∃ (t : Nat) (u : Ta), d.tb = t ∧ us[t]? = some u ∧ u.par < 0 ∧ rowS us t d.row = true ∧ ∀ v ∈ d.row, v.wf
theorem RootD.okK {us : List Ta} {d : De} (h : RootD us d) : okK (rtD (keyN us) d).2 := by
  obtain ⟨t, u, h1, h2, h3, h4, h5⟩ := h
  unfold rtD
  rw [h1, Int.toNat_natCast]
  exact rowS_ok h4 h5
theorem RootD.isR {us : List Ta} {d : De} (h : RootD us d) : isRootB us d.tb = true := by
  obtain ⟨t, u, h1, h2, h3, _⟩ := h
  unfold isRootB
  rw [h1, Int.toNat_natCast, h2]
  simp [h3]
theorem RootD.ok {us : List Ta} {d : De} (h : RootD us d) (hs : schB us = true) : okP (embR (rtD (keyN us) d)) := by
  have hk := h.okK
  obtain ⟨t, u, h1, h2, h3, _⟩ := h
  refine ⟨?_, hk.1⟩
  have := (List.getElem?_eq_some_iff.1 h2).1
  have := schN hs
  unfold okT embR rtD
  simp only
  rw [h1, Int.toNat_natCast]
  omega
theorem isRootB_d {us vs : List Ta} (h : vs.map Ta.d = us.map Ta.d) (t : Int) : isRootB vs t = isRootB us t := by
  unfold isRootB
  congr 1
  cases hu : us[t.toNat]? with
  | none =>
    have e := congrArg List.length h
    rw [List.length_map, List.length_map] at e
    rw [List.getElem?_eq_none_iff] at hu
    rw [List.getElem?_eq_none (by omega)]
  | some u =>
    obtain ⟨y, hy, e⟩ := map_d_get h.symm hu
    rw [hy]
    have h1 := congrArg (fun q => q.2.2.2.2) e
    simp only [Ta.d] at h1 ⊢
    rw [h1]
theorem docsN_root {us : List Ta} {l : List Rw} (hi : StI us l) {d : De} (hd : d ∈ docsN us l) : RootD us d := by
  unfold docsN at hd
  obtain ⟨x, hx, hr, rfl⟩ := allD_mem.1 hd
  obtain ⟨u, hu, hp⟩ := mem_rootsN.1 hr
  exact ⟨x.1, u, rfl, hu, hp, (hi.fit x hx).1, (hi.fit x hx).2⟩
/-- A document's root. -/
theorem of_doc {us vs : List Ta} {A : Option Addr} {c m : Nat} {w : World} {v : Value} {d : De} (ht : TRow w A c vs) (hd : vs.map Ta.d = us.map Ta.d) (h : RootD us d) (hv : DRd m w v d) :
    Calls Tryz.prog 31 #[.agg #[.slice A vs.length c], v] w fun q w' => q = .returned (plc (embR (rtD (keyN us) d)).1 (embR (rtD (keyN us) d)).2) ∧ Below w.heap.size w w' := by
  obtain ⟨t, u, h1, _, _, h4, _⟩ := h
  obtain ⟨u', kj, x, hju, _, hkj, hkl, hvk, hkey⟩ := rowS_key h4
  cases m with
  | zero => exact hv.elim
  | succ m =>
    obtain ⟨B, ca, K, ck, rfl, _, hvr, _⟩ := hv
    obtain ⟨y, hy, e⟩ := map_d_get hd.symm hju
    have hyk : y.key = kj := by
      have h6 := congrArg (fun q => q.2.2.1) e
      simp only [Ta.d] at h6
      omega
    have h5 := of1root_any (rc := ca) (.slice K d.kids.length ck) ht hy hyk hvr hvk rfl
    rw [← h1] at h5
    have e2 : rtV (d.tb, x) = plc (embR (rtD (keyN us) d)).1 (embR (rtD (keyN us) d)).2 := by
      unfold rtV plc embR rtD
      simp only
      rw [h1, Int.toNat_natCast, hkey]
    rw [e2] at h5
    exact h5
noncomputable def toldAt (us : List Ta) (told : List De) (x : Nat × V) : List De := told.filter (fun d => rtD (keyN us) d = x)
theorem toldAt_self (us : List Ta) (told : List De) (d : De) : toldAt us (told ++ [d]) (rtD (keyN us) d) = toldAt us told (rtD (keyN us) d) ++ [d] := by
  unfold toldAt
  rw [List.filter_append, List.filter_cons, if_pos (by simp)]
  rfl
theorem toldAt_ne {us : List Ta} {told : List De} {d : De} {y : Nat × V} (h : rtD (keyN us) d ≠ y) : toldAt us (told ++ [d]) y = toldAt us told y := by
  unfold toldAt
  rw [List.filter_append, List.filter_cons, if_neg (by simpa using h)]
  simp
theorem toldAt_nil {us : List Ta} {told : List De} {y : Nat × V} (h : y ∉ told.map (rtD (keyN us))) : toldAt us told y = [] := by
  unfold toldAt
  rw [List.filter_eq_nil_iff]
  intro d hd he
  exact h (List.mem_map.2 ⟨d, hd, by simpa using he⟩)
/-- A row of documents told of one root. -/
structure Got where
  A : Option Addr
  c : Nat
  xs : List Value
structure GotS (us : List Ta) (m : Nat) (w2 : World) (told : List De) (ys : List (Nat × V)) (f : Nat × V → Got) (W : World) : Prop where
  mem : ∀ x, x ∈ ys ↔ x ∈ told.map (rtD (keyN us))
  nd : ys.Nodup
  le : ys.length ≤ told.length
  row : ∀ x ∈ ys, W.ownsRow w2.heap.size 42 3 (.slice (f x).A (toldAt us told x).length (f x).c) (toldAt us told x).length (f x).xs ∧ KCells (DRd m w2) (f x).xs (toldAt us told x)
  dis : ∀ x ∈ ys, ∀ y ∈ ys, x ≠ y → ∀ i ∈ gS (f x).A, i ∉ gS (f y).A
variable {us : List Ta} {m : Nat} {w2 W W' : World} {told : List De} {ys : List (Nat × V)} {f : Nat × V → Got}
theorem GotS.start (f : Nat × V → Got) (W : World) : GotS us m w2 [] [] f W := ⟨by simp, List.nodup_nil, by simp, by simp, by simp⟩
theorem GotS.chg {S : List Nat} (h : GotS us m w2 told ys f W) (hc : Chg S W W') (hn : ∀ i ∈ S, ∀ cs, W.heap[i]? ≠ some (.cells cs 42 (0, 0))) : GotS us m w2 told ys f W' :=
  ⟨h.mem, h.nd, h.le, fun x hx => ⟨own_chg (h.row x hx).1 hc (fun i hi e => by obtain ⟨cur, h1⟩ := own_typ (h.row x hx).1 e; exact hn i hi _ h1), (h.row x hx).2⟩, h.dis⟩
theorem GotS.ext (h : GotS us m w2 told ys f W) (hb : Below W.heap.size W W') : GotS us m w2 told ys f W' := h.chg (Chg.of_below (S := []) hb) (by simp)
/-- One more. -/
noncomputable def gotF (ys : List (Nat × V)) (f : Nat × V → Got) (x : Nat × V) : Got := if x ∈ ys then f x else ⟨none, 0, []⟩
theorem GotS.at_ (h : GotS us m w2 told ys f W) (x : Nat × V) : W.ownsRow w2.heap.size 42 3 (.slice (gotF ys f x).A (toldAt us told x).length (gotF ys f x).c) (toldAt us told x).length (gotF ys f x).xs ∧ KCells (DRd m w2) (gotF ys f x).xs (toldAt us told x) := by
  unfold gotF
  by_cases hx : x ∈ ys
  · rw [if_pos hx]; exact h.row x hx
  · rw [if_neg hx, toldAt_nil (fun hm => hx ((h.mem x).2 hm))]
    exact ⟨World.ownsRow_nil _ _ _ _, KCells.nil _⟩
noncomputable def gotF' (f : Nat × V → Got) (x : Nat × V) (g : Got) : Nat × V → Got := fun y => if y = x then g else f y
noncomputable def addY (ys : List (Nat × V)) (x : Nat × V) : List (Nat × V) := if x ∈ ys then ys else ys ++ [x]
theorem mem_addY {ys : List (Nat × V)} {x y : Nat × V} : y ∈ addY ys x ↔ y = x ∨ y ∈ ys := by
  unfold addY
  split
  · next h => exact ⟨Or.inr, fun h2 => h2.elim (fun e => e ▸ h) id⟩
  · rw [List.mem_append, List.mem_singleton]; exact Or.comm
theorem nd_addY {ys : List (Nat × V)} {x : Nat × V} (h : ys.Nodup) : (addY ys x).Nodup := by
  unfold addY
  split
  · exact h
  · next hx =>
    rw [List.nodup_append]
    exact ⟨h, by simp, fun a ha b hb e => by rw [List.mem_singleton] at hb; subst hb; subst e; exact hx ha⟩
theorem len_addY {ys : List (Nat × V)} {x : Nat × V} {told : List De} {d : De} (h : ys.length ≤ told.length) : (addY ys x).length ≤ (told ++ [d]).length := by
  unfold addY
  rw [List.length_append]
  split
  · exact Nat.le_trans h (Nat.le_add_right _ _)
  · rw [List.length_append]; exact Nat.add_le_add_right h 1
theorem GotS.step (h : GotS us m w2 told ys f W) {W2 : World} {d : De} {g c' : Nat} {c0 c1 c2 : Value} (hg : W.grownBy W2 (Value.slice (gotF ys f (rtD (keyN us) d)).A (toldAt us told (rtD (keyN us) d)).length (gotF ys f (rtD (keyN us) d)).c).ownBlock)
    (hown : W2.ownsRow w2.heap.size 42 3 (.slice (some ⟨g, 0, none⟩) ((toldAt us told (rtD (keyN us) d)).length + 1) c') ((toldAt us told (rtD (keyN us) d)).length + 1) ((gotF ys f (rtD (keyN us) d)).xs ++ [c0, c1, c2]))
    (hat : (Value.slice (gotF ys f (rtD (keyN us) d)).A (toldAt us told (rtD (keyN us) d)).length (gotF ys f (rtD (keyN us) d)).c).ownBlock = some g ∨ g = W.heap.size) (hd : DRd m w2 (.agg #[c0, c1, c2]) d) :
    GotS us m w2 (told ++ [d]) (addY ys (rtD (keyN us) d)) (gotF' f (rtD (keyN us) d) ⟨some ⟨g, 0, none⟩, c', (gotF ys f (rtD (keyN us) d)).xs ++ [c0, c1, c2]⟩) W2 := by
  obtain ⟨x, hx⟩ : ∃ x, x = rtD (keyN us) d := ⟨_, rfl⟩
  have hts := toldAt_self us told d
  rw [← hx] at hg hown hat hts ⊢
  have hc := Chg.of_grownV hg
  have hr := h.at_ x
  have hold : ∀ y ∈ ys, y ≠ x → ∀ i ∈ gS (f y).A, i ∉ gS (gotF ys f x).A ∧ i < W.heap.size := fun y hy hne i hi => by
    refine ⟨fun hm => ?_, ((h.row y hy).1.lt i (gS_own.2 hi)).2⟩
    unfold gotF at hm
    by_cases hxy : x ∈ ys
    · rw [if_pos hxy] at hm
      exact h.dis y hy x hxy hne i hi hm
    · rw [if_neg hxy] at hm
      simp [gS] at hm
  have hgn : ∀ y ∈ ys, y ≠ x → g ∉ gS (f y).A := fun y hy hne hm => by
    have h1 := hold y hy hne g hm
    rcases hat with h2 | h2
    · exact h1.1 (gS_own.1 h2)
    · omega
  have hl : ∀ y, y ∈ addY ys x → y ≠ x → y ∈ ys := fun y hy hne => (mem_addY.1 hy).resolve_left hne
  refine ⟨fun y => ?_, nd_addY h.nd, len_addY h.le, fun y hy => ?_, fun y hy z hz hne i hi => ?_⟩
  · rw [mem_addY, h.mem, List.map_append, List.mem_append, List.map_cons, List.map_nil, List.mem_singleton, ← hx]
    exact Or.comm
  · by_cases e : y = x
    · subst e
      unfold gotF'
      rw [if_pos rfl, hts, List.length_append]
      exact ⟨hown, hr.2.app (KCells.one hd)⟩
    · unfold gotF'
      rw [if_neg e, toldAt_ne (fun h2 => e (by rw [hx]; exact h2.symm))]
      have h3 := h.row y (hl y hy e)
      refine ⟨own_chg h3.1 hc (fun i hi e2 => (hold y (hl y hy e) e i (gS_own.1 e2)).1 hi), h3.2⟩
  · unfold gotF' at hi ⊢
    by_cases e1 : y = x
    · rw [if_pos e1] at hi
      have e2 : z ≠ x := fun h2 => hne (e1.trans h2.symm)
      rw [if_neg e2]
      simp only [gS, List.mem_singleton] at hi
      subst hi
      exact hgn z (hl z hz e2) e2
    · rw [if_neg e1] at hi
      by_cases e2 : z = x
      · rw [if_pos e2]
        simp only [gS, List.mem_singleton]
        intro e3
        subst e3
        exact hgn y (hl y hy e1) e1 hi
      · rw [if_neg e2]
        exact h.dis y (hl y hy e1) z (hl z hz e2) hne i hi
/-- The elements of the map of documents told. -/
def E2 (us : List Ta) (told : List De) (ys : List (Nat × V)) (f : Nat × V → Got) (p : Int × V) (v : Value) : Prop := ∃ x ∈ ys, embR x = p ∧ v = .slice (f x).A (toldAt us told x).length (f x).c
/-- The elements of the map of a state's documents. -/
def E1 (us : List Ta) (w2 : World) (ds : List De) (p : Int × V) (v : Value) : Prop := ∃ d ∈ ds, embR (rtD (keyN us) d) = p ∧ DRd 9 w2 v d
theorem zero_docs : ∀ W, (zeroValue 34).run Tryz.prog W = .ok (.slice none 0 0) W := fun _ => by kernel_rfl
theorem zero_doc : ∀ W, (zeroValue 42).run Tryz.prog W = .ok (.agg #[.int .i64 0, .slice none 0 0, .slice none 0 0]) W := fun _ => by kernel_rfl
def rts (us : List Ta) (ds : List De) : List (Int × V) := ds.map fun d => embR (rtD (keyN us) d)
/-- The maps, and all roots. -/
structure DS (us : List Ta) (m : Nat) (w2 : World) (M1 M2 : Nat) (ds told : List De) (ys : List (Nat × V)) (f : Nat × V → Got) (rs : List (Int × V)) (Ka : Option Addr) (ca : Nat) (W : World) : Prop where
  b : Below w2.heap.size w2 W
  ne : w2.heap.size ≤ M1 ∧ w2.heap.size ≤ M2 ∧ M1 ≠ M2
  m1 : MapG 78 W M1 (rts us ds) (E1 us w2 ds)
  m2 : MapG 78 W M2 (ys.map embR) (E2 us told ys f)
  g : GotS us m w2 told ys f W
  al : W.ownsRow w2.heap.size 78 5 (.slice Ka rs.length ca) rs.length (rcells rs)
  nil : rs = [] → Ka = none ∧ ca = 0
variable {M1 M2 : Nat} {ds : List De} {rs : List (Int × V)} {Ka : Option Addr} {ca : Nat}
theorem DS.chg {S : List Nat} (h : DS us m w2 M1 M2 ds told ys f rs Ka ca W) (hc : Chg S W W') (h2 : ∀ i ∈ S, w2.heap.size ≤ i) (hm : M1 ∉ S ∧ M2 ∉ S) (hn : ∀ i ∈ S, ∀ cs t, W.heap[i]? = some (.cells cs t (0, 0)) → t ≠ 42 ∧ t ≠ 78) :
    DS us m w2 M1 M2 ds told ys f rs Ka ca W' :=
  ⟨h.b.trans (hc.below h.b.size h2), h.ne, h.m1.chg hc hm.1 (fun _ _ _ h => h), h.m2.chg hc hm.2 (fun _ _ _ h => h), h.g.chg hc (fun i hi cs e => (hn i hi cs _ e).1 rfl),
    own_chg h.al hc (fun i hi e => by obtain ⟨cur, h1⟩ := own_typ h.al e; exact (hn i hi _ _ h1).2 rfl), h.nil⟩
theorem DS.ext (h : DS us m w2 M1 M2 ds told ys f rs Ka ca W) (hb : Below W.heap.size W W') : DS us m w2 M1 M2 ds told ys f rs Ka ca W' := h.chg (Chg.of_below (S := []) hb) (by simp) (by simp) (by simp)
theorem DS.put1 (h : DS us m w2 M1 M2 ds told ys f rs Ka ca W) {d : De} {v : Value} (hv : DRd 9 w2 v d) (hok : okP (embR (rtD (keyN us) d))) (hn : rtD (keyN us) d ∉ ds.map (rtD (keyN us))) (hl : ds.length ≤ 3000) :
    ∃ W', (Instr.mapUpdate 74 (.map (some M1)) (plc (embR (rtD (keyN us) d)).1 (embR (rtD (keyN us) d)).2) v).run Tryz.prog W = .ok () W' ∧ Chg [M1] W W' ∧ DS us m w2 M1 M2 (ds ++ [d]) told ys f rs Ka ca W' := by
  obtain ⟨W', hrun, ht, hm⟩ := h.m1.put keyT_root Tryz.underlying74 hok (by unfold rts; rw [List.length_map]; omega) v
  have hc := turned_chg ht
  have hno : embR (rtD (keyN us) d) ∉ rts us ds := fun hm => by
    obtain ⟨e, he, h1⟩ := List.mem_map.1 hm
    exact hn (List.mem_map.2 ⟨e, he, embR_inj h1⟩)
  refine ⟨W', hrun, hc, h.b.trans (hc.below h.b.size (fun i hi => by rw [List.mem_singleton] at hi; subst hi; exact h.ne.1)), h.ne, ?_, h.m2.chg hc (by rw [List.mem_singleton]; exact fun e => h.ne.2.2 e.symm) (fun _ _ _ h => h), h.g.chg hc (fun i hi cs => by rw [List.mem_singleton] at hi; subst hi; exact h.m1.no_cells _ _ _),
    own_chg h.al hc (fun i hi e => by rw [List.mem_singleton] at hi; subst hi; obtain ⟨cur, h1⟩ := own_typ h.al e; exact h.m1.no_cells _ _ _ h1), h.nil⟩
  refine hm (rts us (ds ++ [d])) (E1 us w2 (ds ++ [d])) ?_ (fun q => ?_) (fun h1 => absurd h1 hno) (fun _ => by simp [rts]) ⟨d, by simp, rfl, hv⟩ (fun q hq hne u ⟨e, he, h1, h2⟩ => ⟨e, List.mem_append_left _ he, h1, h2⟩)
  · unfold rts
    rw [List.map_append, List.nodup_append]
    refine ⟨h.m1.nd, by simp, fun a ha b hb e => ?_⟩
    rw [List.map_cons, List.map_nil, List.mem_singleton] at hb
    subst hb
    subst e
    exact hno ha
  · unfold rts
    rw [List.map_append, List.mem_append, List.map_cons, List.map_nil, List.mem_singleton]
    exact Or.comm
theorem DS.app (h : DS us m w2 M1 M2 ds told ys f rs Ka ca W) {p : Int × V} {K' : Option Addr} {c' : Nat} (hg : W.grownBy W' (Value.slice Ka rs.length ca).ownBlock)
    (hown : W'.ownsRow w2.heap.size 78 5 (.slice K' (rs.length + 1) c') (rs.length + 1) (rcells rs ++ rcells [p])) : DS us m w2 M1 M2 ds told ys f (rs ++ [p]) K' c' W' := by
  have hc := Chg.of_grownV hg
  have hty : ∀ i ∈ gS Ka, w2.heap.size ≤ i ∧ ∃ cur, W.heap[i]? = some (.cells cur 78 (0, 0)) := fun i hi => ⟨(h.al.lt i (gS_own.2 hi)).1, own_typ h.al (gS_own.2 hi)⟩
  have e : rcells (rs ++ [p]) = rcells rs ++ rcells [p] := by simp [rcells]
  refine ⟨h.b.trans (hc.below h.b.size (fun i hi => (hty i hi).1)), h.ne, h.m1.chg hc (fun hi => by obtain ⟨_, cur, h1⟩ := hty _ hi; exact h.m1.no_cells _ _ _ h1) (fun _ _ _ h => h), h.m2.chg hc (fun hi => by obtain ⟨_, cur, h1⟩ := hty _ hi; exact h.m2.no_cells _ _ _ h1) (fun _ _ _ h => h), h.g.chg hc (fun i hi cs e => by obtain ⟨_, cur, h1⟩ := hty _ hi; rw [h1] at e; cases e), ?_, fun h => absurd h (by simp)⟩
  rw [e, List.length_append]
  exact hown
/-- A document told more: the entry, then the store. -/
theorem DS.ent (h : DS us m w2 M1 M2 ds told ys f rs Ka ca W) {d : De} (hok : okP (embR (rtD (keyN us) d))) (hl : told.length ≤ 3000) :
    ∃ (st : Nat) (w1 : World), (Instr.mapEntry 75 (.map (some M2)) (plc (embR (rtD (keyN us) d)).1 (embR (rtD (keyN us) d)).2)).run Tryz.prog W = .ok (.tuple #[.slice (gotF ys f (rtD (keyN us) d)).A (toldAt us told (rtD (keyN us) d)).length (gotF ys f (rtD (keyN us) d)).c, goInt st]) w1 ∧
      (Chg [M2] W w1 ∧ w1.ownsRow w2.heap.size 42 3 (.slice (gotF ys f (rtD (keyN us) d)).A (toldAt us told (rtD (keyN us) d)).length (gotF ys f (rtD (keyN us) d)).c) (toldAt us told (rtD (keyN us) d)).length (gotF ys f (rtD (keyN us) d)).xs) ∧
      ∀ (W2 : World) (g c' : Nat) (c0 c1 c2 : Value), w1.grownBy W2 (Value.slice (gotF ys f (rtD (keyN us) d)).A (toldAt us told (rtD (keyN us) d)).length (gotF ys f (rtD (keyN us) d)).c).ownBlock →
        W2.ownsRow w2.heap.size 42 3 (.slice (some ⟨g, 0, none⟩) ((toldAt us told (rtD (keyN us) d)).length + 1) c') ((toldAt us told (rtD (keyN us) d)).length + 1) ((gotF ys f (rtD (keyN us) d)).xs ++ [c0, c1, c2]) →
        ((Value.slice (gotF ys f (rtD (keyN us) d)).A (toldAt us told (rtD (keyN us) d)).length (gotF ys f (rtD (keyN us) d)).c).ownBlock = some g ∨ g = w1.heap.size) → DRd m w2 (.agg #[c0, c1, c2]) d →
        ∃ w3, (Instr.entryStore 75 (.map (some M2)) (goInt st) (.slice (some ⟨g, 0, none⟩) ((toldAt us told (rtD (keyN us) d)).length + 1) c')).run Tryz.prog W2 = .ok () w3 ∧ (∀ b cs t, t ≠ 42 → Blk W b cs t → Blk w3 b cs t) ∧ ∃ ys' f', DS us m w2 M1 M2 ds (told ++ [d]) ys' f' rs Ka ca w3 := by
  have hyl := h.g.le
  obtain ⟨v0, st, w1, hrun, hturn, hcase, hst⟩ := h.m2.entry keylaw_root keyT_root Tryz.underlying75 zero_docs hok (by rw [List.length_map]; omega)
  obtain ⟨x, hx⟩ : ∃ x, x = rtD (keyN us) d := ⟨_, rfl⟩
  rw [← hx] at hrun hcase hst hok ⊢
  have hv0 : v0 = .slice (gotF ys f x).A (toldAt us told x).length (gotF ys f x).c := by
    unfold gotF
    rcases hcase with ⟨hm, y, hy, he, rfl⟩ | ⟨hm, rfl⟩
    · obtain rfl := embR_inj he
      rw [if_pos hy]
    · have hxy : x ∉ ys := fun hh => hm (List.mem_map.2 ⟨x, hh, rfl⟩)
      rw [if_neg hxy, toldAt_nil (fun hm => hxy ((h.g.mem x).2 hm))]
      rfl
  subst hv0
  have hc := turned_chg hturn
  have hno : ∀ i ∈ [M2], ∀ cs t, W.heap[i]? ≠ some (.cells cs t (0, 0)) := fun i hi cs t => by rw [List.mem_singleton] at hi; subst hi; exact h.m2.no_cells _ _ _
  have hg1 : GotS us m w2 told ys f w1 := h.g.chg hc (fun i hi cs => hno i hi cs _)
  have hal1 : w1.ownsRow w2.heap.size 78 5 (.slice Ka rs.length ca) rs.length (rcells rs) := own_chg h.al hc (fun i hi e => by obtain ⟨cur, h1⟩ := own_typ h.al e; exact hno i hi _ _ h1)
  have hm11 : MapG 78 w1 M1 (rts us ds) (E1 us w2 ds) := h.m1.chg hc (by rw [List.mem_singleton]; exact h.ne.2.2) (fun _ _ _ h => h)
  have hb1 : Below w2.heap.size w2 w1 := h.b.trans (hc.below h.b.size (fun i hi => by rw [List.mem_singleton] at hi; subst hi; exact h.ne.2.1))
  have hat1 := hg1.at_ x
  refine ⟨st, w1, hrun, ⟨hc, hat1.1⟩, fun W2 g c' c0 c1 c2 hg hown hat hd => ?_⟩
  have hc2 := Chg.of_grownV hg
  have hty : ∀ i ∈ gS (gotF ys f x).A, w2.heap.size ≤ i ∧ ∃ cur, w1.heap[i]? = some (.cells cur 42 (0, 0)) := fun i hi => ⟨(hat1.1.lt i (gS_own.2 hi)).1, own_typ hat1.1 (gS_own.2 hi)⟩
  have hm1lt : M2 < w1.heap.size := Nat.lt_of_lt_of_le h.m2.lt hc.size
  have hM2n : M2 ∉ gS (gotF ys f x).A := fun hi => by
    obtain ⟨_, cur, h1⟩ := hty _ hi
    obtain ⟨es, clock, es', clock', hb, hw⟩ := hturn
    rw [hw] at h1
    have hlt : M2 < W.heap.size := h.m2.lt
    unfold Go.ChangeMaps.setBlock at h1
    simp [hlt] at h1
  obtain ⟨w3, hr3, hturn3, hm3⟩ := hst W2 (.slice (some ⟨g, 0, none⟩) ((toldAt us told x).length + 1) c') (hc2.block M2 hm1lt hM2n)
  refine ⟨w3, hr3, fun b cs t ht hb => ?_, addY ys x, gotF' f x ⟨some ⟨g, 0, none⟩, c', (gotF ys f x).xs ++ [c0, c1, c2]⟩, ?_⟩
  · have k1 := hb.chg hc (fun hi => hno b hi _ _ hb)
    have k2 := k1.chg hc2 (fun hi => by
      obtain ⟨_, cur, h1⟩ := hty b hi
      have h2 := k1.symm.trans h1
      simp only [Option.some.injEq, Obj.cells.injEq] at h2
      exact ht h2.2.1)
    exact k2.chg (turned_chg hturn3) (fun hi => by
      rw [List.mem_singleton] at hi
      obtain ⟨es, clock, es', clock', hb2, _⟩ := hturn3
      rw [← hi] at hb2
      have h2 := k2.symm.trans hb2
      cases h2)
  have hstep : GotS us m w2 (told ++ [d]) (addY ys x) (gotF' f x ⟨some ⟨g, 0, none⟩, c', (gotF ys f x).xs ++ [c0, c1, c2]⟩) W2 := by
    subst hx
    exact hg1.step hg hown hat hd
  have hc3 := turned_chg hturn3
  have hno3 : ∀ i ∈ [M2], ∀ cs t, W2.heap[i]? ≠ some (.cells cs t (0, 0)) := fun i hi cs t e => by
    rw [List.mem_singleton] at hi; subst hi
    obtain ⟨es, clock, es', clock', hb, hw⟩ := hturn3
    rw [hb] at e
    cases e
  have hal2 := own_chg hal1 hc2 (fun i hi e => by
    obtain ⟨cur, h1⟩ := own_typ hal1 e
    obtain ⟨_, cur2, h2⟩ := hty i hi
    rw [h1] at h2
    cases h2)
  refine ⟨(hb1.trans (hc2.below hb1.size (fun i hi => (hty i hi).1))).trans (hc3.below (Nat.le_trans hb1.size hc2.size) (fun i hi => by rw [List.mem_singleton] at hi; subst hi; exact h.ne.2.1)), h.ne, ?_, ?_, hstep.chg hc3 (fun i hi cs => hno3 i hi cs _), own_chg hal2 hc3 (fun i hi e => by obtain ⟨cur, h1⟩ := own_typ hal2 e; exact hno3 i hi _ _ h1), h.nil⟩
  · exact (hm11.chg hc2 (fun hi => by obtain ⟨_, cur, h1⟩ := hty _ hi; exact hm11.no_cells _ _ _ h1) (fun _ _ _ h => h)).chg hc3 (by rw [List.mem_singleton]; exact h.ne.2.2) (fun _ _ _ h => h)
  · have hmy : ∀ q, q ∈ (addY ys x).map embR ↔ q = embR x ∨ q ∈ ys.map embR := fun q => by
      constructor
      · intro hq
        obtain ⟨y, hy, rfl⟩ := List.mem_map.1 hq
        rcases mem_addY.1 hy with rfl | hy
        · exact Or.inl rfl
        · exact Or.inr (List.mem_map.2 ⟨y, hy, rfl⟩)
      · rintro (rfl | hq)
        · exact List.mem_map.2 ⟨x, mem_addY.2 (Or.inl rfl), rfl⟩
        · obtain ⟨y, hy, rfl⟩ := List.mem_map.1 hq
          exact List.mem_map.2 ⟨y, mem_addY.2 (Or.inr hy), rfl⟩
    refine hm3 ((addY ys x).map embR) (E2 us (told ++ [d]) (addY ys x) (gotF' f x ⟨some ⟨g, 0, none⟩, c', (gotF ys f x).xs ++ [c0, c1, c2]⟩)) ?_ hmy (fun hq => ?_) (fun hq => ?_) ⟨x, mem_addY.2 (Or.inl rfl), rfl, ?_⟩ (fun q hq hne u hu => ?_)
    · exact List.Pairwise.map embR (fun a b hab e => hab (embR_inj e)) (nd_addY h.g.nd)
    · obtain ⟨y, hy, he⟩ := List.mem_map.1 hq
      obtain rfl := embR_inj he
      unfold addY
      rw [if_pos hy]
    · have hxy : x ∉ ys := fun hh => hq (List.mem_map.2 ⟨x, hh, rfl⟩)
      unfold addY
      rw [if_neg hxy]
      simp
    · unfold gotF'
      rw [if_pos rfl]
      have := toldAt_self us told d
      rw [← hx] at this
      rw [this, List.length_append]
      rfl
    · obtain ⟨y, hy, rfl, rfl⟩ := hu
      have hyx : y ≠ x := fun e => hne (by rw [e])
      refine ⟨y, mem_addY.2 (Or.inr hy), rfl, ?_⟩
      unfold gotF'
      rw [if_neg hyx, toldAt_ne (fun e => hyx (by rw [hx]; exact e.symm))]
/-- The maps alone. -/
structure DE (us : List Ta) (m : Nat) (w2 : World) (M1 M2 : Nat) (ds told : List De) (ys : List (Nat × V)) (f : Nat × V → Got) (W : World) : Prop where
  b : Below w2.heap.size w2 W
  ne : w2.heap.size ≤ M1 ∧ w2.heap.size ≤ M2 ∧ M1 ≠ M2
  m1 : MapG 78 W M1 (rts us ds) (E1 us w2 ds)
  m2 : MapG 78 W M2 (ys.map embR) (E2 us told ys f)
  g : GotS us m w2 told ys f W
theorem DE.chg {S : List Nat} (h : DE us m w2 M1 M2 ds told ys f W) (hc : Chg S W W') (h2 : ∀ i ∈ S, w2.heap.size ≤ i) (hn : ∀ i ∈ S, ∃ cs t, W.heap[i]? = some (.cells cs t (0, 0)) ∧ t ≠ 42) : DE us m w2 M1 M2 ds told ys f W' :=
  ⟨h.b.trans (hc.below h.b.size h2), h.ne, h.m1.chg hc (fun hi => by obtain ⟨cs, t, e, _⟩ := hn _ hi; exact h.m1.no_cells _ _ _ e) (fun _ _ _ h => h), h.m2.chg hc (fun hi => by obtain ⟨cs, t, e, _⟩ := hn _ hi; exact h.m2.no_cells _ _ _ e) (fun _ _ _ h => h),
    h.g.chg hc (fun i hi cs e => by obtain ⟨cs', t, e', ht⟩ := hn _ hi; rw [e'] at e; cases e; exact ht rfl)⟩
/-- What is looked up of a root. -/
def HaveC (us : List Ta) (w2 : World) (ds : List De) (x : Nat × V) (v : Value) (is : Bool) : Prop :=
  (is = true ∧ ∃ d, toldAt us ds x = [d] ∧ DRd 9 w2 v d) ∨ (is = false ∧ v = .agg #[.int .i64 0, .slice none 0 0, .slice none 0 0] ∧ toldAt us ds x = [])
theorem DE.look (h : DE us m w2 M1 M2 ds told ys f W) {x : Nat × V} (hok : okP (embR x)) (hnd : (ds.map (rtD (keyN us))).Nodup) :
    (∃ v is, HaveC us w2 ds x v is ∧ ∀ W' : World, W'.heap[M1]? = W.heap[M1]? → (Instr.lookup 74 (.map (some M1)) (plc (embR x).1 (embR x).2) true).run Tryz.prog W' = .ok (.tuple #[v, .bool is]) W') ∧
      ∀ W' : World, W'.heap[M2]? = W.heap[M2]? → (Instr.lookup 75 (.map (some M2)) (plc (embR x).1 (embR x).2) false).run Tryz.prog W' = .ok (.slice (gotF ys f x).A (toldAt us told x).length (gotF ys f x).c) W' := by
  constructor
  · rcases h.m1.look keyT_root Tryz.underlying74 zero_doc hok with ⟨_, v, ⟨d, hd, he, hv⟩, hr⟩ | ⟨hn, hr⟩
    · obtain rfl := embR_inj he
      exact ⟨v, true, Or.inl ⟨rfl, d, filt_one hnd hd, hv⟩, fun W' e => (hr W' e).1⟩
    · refine ⟨_, false, Or.inr ⟨rfl, rfl, toldAt_nil (fun hm => hn ?_)⟩, fun W' e => (hr W' e).1⟩
      obtain ⟨d, hd, he⟩ := List.mem_map.1 hm
      exact List.mem_map.2 ⟨d, hd, by rw [he]⟩
  · rcases h.m2.look keyT_root Tryz.underlying75 zero_docs hok with ⟨_, v, ⟨y, hy, he, rfl⟩, hr⟩ | ⟨hn, hr⟩
    · obtain rfl := embR_inj he
      unfold gotF
      rw [if_pos hy]
      exact fun W' e => (hr W' e).2
    · have hxy : x ∉ ys := fun hh => hn (List.mem_map.2 ⟨x, hh, rfl⟩)
      unfold gotF
      rw [if_neg hxy, toldAt_nil (fun hm => hxy ((h.g.mem x).2 hm))]
      exact fun W' e => (hr W' e).2
/-- In the last loop. -/
structure LS (us : List Ta) (m : Nat) (w2 : World) (M1 M2 : Nat) (ds told : List De) (ys : List (Nat × V)) (f : Nat × V → Got) (zs : List (Nat × V)) (Ks : Option Addr) (cs b19 : Nat) (gs : List (Int × (Int × V))) (Ag : Option Addr) (cg : Nat) (W : World) : Prop where
  e : DE us m w2 M1 M2 ds told ys f W
  so : W.ownsRow w2.heap.size 78 5 (.slice Ks zs.length cs) zs.length (rcells (zs.map embR))
  g : GapS w2.heap.size b19 gs Ag cg W
  lo : w2.heap.size ≤ b19
variable {zs : List (Nat × V)} {Ks : Option Addr} {cs b19 : Nat} {gs gs' : List (Int × (Int × V))} {Ag : Option Addr} {cg : Nat}
theorem GapS.ext {base b1 c : Nat} {A : Option Addr} (h : GapS base b1 gs A c W) (hb : Below W.heap.size W W') : GapS base b1 gs A c W' := ⟨h.b.ext hb, own_below h.o hb⟩
theorem LS.ext (h : LS us m w2 M1 M2 ds told ys f zs Ks cs b19 gs Ag cg W) (hb : Below W.heap.size W W') : LS us m w2 M1 M2 ds told ys f zs Ks cs b19 gs Ag cg W' :=
  ⟨h.e.chg (Chg.of_below (S := []) hb) (by simp) (by simp), own_below h.so hb, h.g.ext hb, h.lo⟩
theorem LS.note (h : LS us m w2 M1 M2 ds told ys f zs Ks cs b19 gs Ag cg W) {q : Ending} (hq : Doc1Q w2.heap.size b19 gs' Ag W q W') :
    q = .returned (.tuple #[]) ∧ (∀ b cs t, t ≠ 51 → t ≠ 38 → Blk W b cs t → Blk W' b cs t) ∧ ∃ Ag' cg', LS us m w2 M1 M2 ds told ys f zs Ks cs b19 gs' Ag' cg' W' := by
  obtain ⟨hq1, Ag', cg', hg, hc, _⟩ := hq
  have hty : ∀ i ∈ b19 :: gS Ag, w2.heap.size ≤ i ∧ ∃ cs t, W.heap[i]? = some (.cells cs t (0, 0)) ∧ (t = 51 ∨ t = 38) := fun i hi => by
    rcases List.mem_cons.1 hi with rfl | hi
    · exact ⟨h.lo, _, _, h.g.b, Or.inr rfl⟩
    · obtain ⟨cur, h1⟩ := own_typ h.g.o (gS_own.2 hi)
      exact ⟨(h.g.o.lt i (gS_own.2 hi)).1, _, _, h1, Or.inl rfl⟩
  refine ⟨hq1, fun b cs t h1 h2 hb => hb.chg hc (fun hi => ?_), Ag', cg', h.e.chg hc (fun i hi => (hty i hi).1) (fun i hi => ?_), own_chg h.so hc (fun i hi e => ?_), hg, h.lo⟩
  · obtain ⟨_, cs', t', e, ht⟩ := hty b hi
    have h3 := hb.symm.trans e
    simp only [Option.some.injEq, Obj.cells.injEq] at h3
    rcases ht with ht | ht
    · exact h1 (h3.2.1.trans ht)
    · exact h2 (h3.2.1.trans ht)
  · obtain ⟨_, cs', t', e, ht⟩ := hty i hi
    refine ⟨cs', t', e, ?_⟩
    rcases ht with rfl | rfl <;> decide
  · obtain ⟨cur, h1⟩ := own_typ h.so e
    obtain ⟨_, cs', t', e, ht⟩ := hty i hi
    rw [h1] at e
    rcases ht with rfl | rfl <;> cases e
theorem adjF_le {α : Type} (eq : α → α → Bool) : ∀ (p : α) (l : List α), (adjF eq p l).length ≤ l.length
  | _, [] => by simp [adjF]
  | p, b :: r => by
    unfold adjF
    split
    · exact Nat.le_trans (adjF_le eq b r) (by simp)
    · simp only [List.length_cons]; exact Nat.succ_le_succ (adjF_le eq b r)
theorem adjL_le {α : Type} (eq : α → α → Bool) : ∀ (l : List α), (adjL eq l).length ≤ l.length
  | [] => by simp [adjL]
  | a :: r => by unfold adjL; simp only [List.length_cons]; exact Nat.succ_le_succ (adjF_le eq a r)
theorem sorted_docs (h : DS us m w2 M1 M2 ds told ys f rs Ka ca W) (hrs : rs = rts us (ds ++ told)) (hk : ∀ d ∈ ds ++ told, RootD us d) (hl : rs.length ≤ 6000) (hb : Blk W b19 #[.slice none 0 0] 38) (h19 : w2.heap.size ≤ b19) :
    Calls Tryz.prog 32 #[.slice Ka rs.length ca, .func (.func 33) #[] #[]] W fun q W' => ∃ zs Ks cs, q = .returned (.slice Ks (List.length zs) cs) ∧ zs.length ≤ rs.length ∧ zs.Nodup ∧ (∀ x, x ∈ zs ↔ x ∈ (ds ++ told).map (rtD (keyN us))) ∧ LS us m w2 M1 M2 ds told ys f zs Ks cs b19 [] none 0 W' := by
  have he : DE us m w2 M1 M2 ds told ys f W := ⟨h.b, h.ne, h.m1, h.m2, h.g⟩
  by_cases hn : rs = []
  · obtain ⟨rfl, rfl⟩ := h.nil hn
    subst hn
    refine (sorted_nil W).mono ?_
    rintro q W' ⟨rfl, hbe⟩
    have hdt : ds ++ told = [] := by
      have := congrArg List.length hrs
      unfold rts at this
      rw [List.length_map] at this
      exact List.eq_nil_of_length_eq_zero this.symm
    refine ⟨[], none, 0, rfl, Nat.le_refl _, List.nodup_nil, by rw [hdt]; simp, LS.ext ⟨he, World.ownsRow_nil _ _ _ _, ⟨hb, World.ownsRow_nil _ _ _ _⟩, h19⟩ hbe⟩
  · have h0 : 0 < rs.length := List.length_pos_iff.2 hn
    obtain ⟨g, cap, hKa, hg1, hg2⟩ := h.al.form h0
    simp only [Value.slice.injEq, true_and] at hKa
    obtain ⟨rfl, rfl⟩ := hKa
    have hpm : rs = ((ds ++ told).map (rtD (keyN us))).map embR := by rw [hrs, rts, List.map_map]; rfl
    have hok : ∀ x ∈ (ds ++ told).map (rtD (keyN us)), okK x.2 := fun x hx => by
      obtain ⟨d, hd, rfl⟩ := List.mem_map.1 hx
      exact (hk d hd).okK
    refine (sorted_any rs (fun p hp => ?_) g rs.length ca w2.heap.size W h0 rfl (by omega) h.al).mono ?_
    · rw [hpm] at hp
      obtain ⟨x, hx, rfl⟩ := List.mem_map.1 hp
      exact (hok x hx).1
    · rintro q W' ⟨ss, xs, hperm, hpw, rfl, rfl, hc, hown⟩
      obtain ⟨zs, e, hnd, hmem⟩ := sorted_roots hok (hperm.trans (by rw [hpm])) hpw
      rw [e, List.length_map] at hown
      refine ⟨zs, some ⟨g, 0, none⟩, ca, by rw [e, List.length_map], by have h1 := adjL_le eqR ss; rw [e, List.length_map, hperm.length_eq] at h1; exact h1, hnd, hmem, ?_⟩
      have hty : ∀ i ∈ [g], w2.heap.size ≤ i ∧ ∃ cs, W.heap[i]? = some (.cells cs 78 (0, 0)) := fun i hi => by
        rw [List.mem_singleton] at hi
        subst hi
        exact ⟨hg1, own_typ h.al rfl⟩
      refine ⟨he.chg hc (fun i hi => (hty i hi).1) (fun i hi => ?_), hown, ⟨hb.chg hc (fun hi => ?_), World.ownsRow_nil _ _ _ _⟩, h19⟩
      · obtain ⟨_, cs, e⟩ := hty i hi
        exact ⟨cs, _, e, by decide⟩
      · obtain ⟨_, cs, e⟩ := hty _ hi
        have h3 := hb.symm.trans e
        simp only [Option.some.injEq, Obj.cells.injEq] at h3
        exact absurd h3.2.1 (by decide)
/-- A root's gaps. -/
noncomputable def gapI (us : List Ta) (ds told : List De) (x : Nat × V) : List (Int × (Int × V)) := (gapAt (rtD (keyN us)) smD ds told x).map fun y => (y.1, embR y.2)
noncomputable def headG (us : List Ta) (ds told : List De) (x : Nat × V) : List (Int × (Int × V)) :=
  match toldAt us told x, toldAt us ds x with
    | [], _ => [(1, embR x)]
    | _ :: _, [] => [(2, embR x)]
    | t :: _, d :: _ => if smD d t then [] else [(3, embR x)]
theorem gapI_eq (us : List Ta) (ds told : List De) (x : Nat × V) : gapI us ds told x = headG us ds told x ++ List.replicate ((toldAt us told x).length - 1) (2, embR x) := by
  unfold gapI gapAt headG
  have e : ∀ l : List De, l.filter (fun d => rtD (keyN us) d = x) = toldAt us l x := fun _ => rfl
  rw [List.map_append, List.map_replicate, e, e]
  congr 1
  cases toldAt us told x with
  | nil => rfl
  | cons t T =>
    cases toldAt us ds x with
    | nil => rfl
    | cons d D => simp only; split <;> rfl
end Go.Proofs.YtgklopgeimjgiaaGreatDoor
