/- Texts joined by a tool: contracts and walks of this claim. -/
import Derived.Test.YtceoficoappkpaaGreatDoorB23
import Derived.Maps.RangeWalk
namespace Go.Proofs.YtceoficoappkpaaGreatDoor
open Go.RowKit
open Go.Maps (Keyed)

def HV (v : Value) : Option (DataW Value × List MemPlace) := some (.held v, [])
def okP (p : Int × V) : Prop := okT p.1 ∧ p.2.wf
structure KeyT (kt : TypeId) : Prop where
 law : Keyed Tryz.prog kt
 key : ∀ t v, okT t → v.wf → keyOf Tryz.prog kt (plc t v) = some (keyP t v)
structure MapG (kt : TypeId) (w : World) (M : Nat) (ks : List (Int × V)) (E : Int × V → Value → Prop) : Prop where
 nd : ks.Nodup
 ok : ∀ p ∈ ks, okP p
 map : ∃ D, w.ownsMap Tryz.prog kt HV M ks.length D ∧ Maps.size D = ks.length ∧ (∀ kl, Maps.has D kl = true ↔ ∃ p ∈ ks, kl = keyP p.1 p.2) ∧ ∀ p ∈ ks, ∃ v, E p v ∧ ∀ z, D.atKey (keyP p.1 p.2) z = .held v
variable {kt et mt : TypeId} {w w' : World} {M : Nat} {ks ks' : List (Int × V)} {E E' : Int × V → Value → Prop} {p : Int × V} {z : Value}
theorem MapG.made (w : World) (kt : TypeId) (E : Int × V → Value → Prop) : MapG kt (w.alloc (.map #[] 0)) w.heap.size [] E where
 nd := List.nodup_nil
 ok := by simp
 map := ⟨_, World.ownsMap_made w _ _ _, rfl, fun kl => ⟨fun h => by simp [Maps.has] at h, fun ⟨_, h, _⟩ => by simp at h⟩, by simp⟩
theorem MapG.lt (h : MapG kt w M ks E) : M < w.heap.size := by obtain ⟨D, h1, _⟩ := h.map; exact h1.lt
theorem MapG.no_cells (h : MapG kt w M ks E) (cs : Array Value) (t : TypeId) (f : Nat × Nat) : w.heap[M]? ≠ some (.cells cs t f) := by
 obtain ⟨D, ⟨es, clock, hb, _⟩, _⟩ := h.map
 rw [hb]
 intro e; cases e
theorem MapG.chg {S : List Nat} (h : MapG kt w M ks E) (k : Chg S w w') (hM : M ∉ S) (hE : ∀ q ∈ ks, ∀ v, E q v → E' q v) : MapG kt w' M ks E' where
 nd := h.nd
 ok := h.ok
 map := by
  obtain ⟨D, ⟨es, clock, hb, F, hs, hD⟩, h2, h3, h4⟩ := h.map
  exact ⟨D, ⟨es, clock, (k.block M (Array.getElem?_eq_some_iff.1 hb).1 hM).trans hb, F, hs, hD⟩, h2, h3, fun q hq => by obtain ⟨v, h5, h6⟩ := h4 q hq; exact ⟨v, hE q hq v h5, h6⟩⟩
theorem turned_chg (h : w.mapTurned w' M) : Chg [M] w w' := Chg.of_grown h.grown (by simp)
theorem own_tight {P : Program} {k : TypeId} {R : Value → Option (DataW Value × List MemPlace)} {b n : Nat} {D : DataW Value} (h : w.ownsMap P k R b n D) : w.ownsMap P k R b (Maps.size D) D := by
 obtain ⟨es, clock, hb, F, hs, rfl⟩ := h
 exact ⟨es, clock, hb, F, by simp [Maps.size, length_sorted], rfl⟩
def MapI (kt : TypeId) (w : World) (M r : Nat) (ks : List (Int × V)) (E : Int × V → Value → Prop) (lf : List (Int × V)) : Prop :=
 ∃ D left cnt, w.ranges Tryz.prog kt HV M r ks.length D left cnt ∧ (∀ kl, Maps.has D kl = true ↔ ∃ p ∈ ks, kl = keyP p.1 p.2) ∧ (∀ p ∈ ks, ∃ v, E p v ∧ ∀ z, D.atKey (keyP p.1 p.2) z = .held v) ∧ (∀ p ∈ ks, okP p) ∧
  (∀ kl, left kl = true → Maps.has D kl = true) ∧ (∀ q ∈ ks, left (keyP q.1 q.2) = true ↔ q ∈ lf) ∧ lf.Nodup ∧ ∀ q ∈ lf, q ∈ ks
theorem MapG.range (h : MapG kt w M ks E) (K : KeyT kt) (ht : Tryz.prog.underlying mt = some (.map kt et)) :
  ∃ w', (Instr.range mt (.map (some M))).run Tryz.prog w = .ok (.pointer (some ⟨w.heap.size, 0, none⟩)) w' ∧ MapI kt w' M w.heap.size ks E ks ∧ w.grownBy w' none ∧ w'.heap.size = w.heap.size + 1 := by
 obtain ⟨D, h1, h2, h3, h4⟩ := h.map
 obtain ⟨w', hr, hg, hgr, hs⟩ := World.ownsMap.range h1 K.law ht
 exact ⟨w', hr, ⟨D, _, _, hg, h3, h4, h.ok, fun _ h => h, fun q hq => ⟨fun _ => hq, fun _ => (h3 _).2 ⟨q, hq, rfl⟩⟩, h.nd, fun _ h => h⟩, hgr, hs⟩
theorem MapI.kept {r : Nat} {lf : List (Int × V)} {S : List Nat} (h : MapI kt w M r ks E lf) (k : Chg S w w') (hM : M ∉ S) (hr : r ∉ S) (hE : ∀ q ∈ ks, ∀ v, E q v → E' q v) : MapI kt w' M r ks E' lf := by
 obtain ⟨D, left, cnt, hg, h3, h4, rest⟩ := h
 have hlM := hg.owns.lt
 have hlr := hg.lt
 obtain ⟨es, clock, since, seen, c0, hb, F, hs, hD, hr', rest'⟩ := hg
 exact ⟨D, left, cnt, ⟨es, clock, since, seen, c0, (k.block M hlM hM).trans hb, F, hs, hD, (k.block r hlr hr).trans hr', rest'⟩, h3, fun q hq => by obtain ⟨v, h5, h6⟩ := h4 q hq; exact ⟨v, hE q hq v h5, h6⟩, rest⟩
theorem MapI.lt {r : Nat} {lf : List (Int × V)} (h : MapI kt w M r ks E lf) : M < w.heap.size ∧ r < w.heap.size ∧ r ≠ M := by
 obtain ⟨D, left, cnt, hg, _⟩ := h
 exact ⟨hg.owns.lt, hg.lt, hg.ne⟩
theorem MapI.map {r : Nat} {lf : List (Int × V)} (h : MapI kt w M r ks E lf) (hnd : ks.Nodup) (hsz : ∀ D, w.ownsMap Tryz.prog kt HV M ks.length D → Maps.size D = ks.length) : MapG kt w M ks E := by
 obtain ⟨D, left, cnt, hg, h3, h4, h5, _⟩ := h
 exact ⟨hnd, h5, D, hg.owns, hsz D hg.owns, h3, h4⟩
end Go.Proofs.YtceoficoappkpaaGreatDoor
namespace Go.Proofs.YtceoficoappkpaaGreatDoor
open Go.RowKit
theorem tcells_set {l : List Ta} {k : Nat} {t : Ta} (hk : l[k]? = some t) (A : Option Addr) (c : Nat) : (tcells l).set (k * 5 + 1) (.slice A t.cs.length c) = tcells (l.set k { t with A := A, c := c }) := by
 induction l generalizing k with
 | nil => simp at hk
 | cons a l ih =>
  cases k with
  | zero =>
   simp only [List.getElem?_cons_zero, Option.some.injEq] at hk
   subst hk
   simp [tcells]
  | succ k =>
   have ih := ih (by simpa using hk)
   simp only [tcells, List.flatMap_cons, List.set_cons_succ] at ih ⊢
   rw [← ih, show (k + 1) * 5 + 1 = k * 5 + 1 + 5 by omega]
   rfl
theorem blk_nt {w : World} {x y : Nat} {cs ds : Array Value} {t u : TypeId} (h : Blk w x cs t) (k : Blk w y ds u) (hne : t ≠ u) : x ≠ y := by
 intro e
 subst e
 have := h.symm.trans k
 simp only [Option.some.injEq, Obj.cells.injEq] at this
 exact hne this.2.1
theorem own_base' {w : World} {base base' e size n : Nat} {v : Value} {xs : List Value} (h : w.ownsRow base e size v n xs) (hb : base' ≤ base) : w.ownsRow base' e size v n xs := by
 obtain ⟨h1, h2 | ⟨g, cap, cur, h3, h4, h5⟩⟩ := h
 · exact ⟨h1, Or.inl h2⟩
 · exact ⟨h1, Or.inr ⟨g, cap, cur, h3, Nat.le_trans hb h4, h5⟩⟩
theorem own_cur {w : World} {base e n c size q : Nat} {xs : List Value} (h : w.ownsRow base e size (.slice (some ⟨q, 0, none⟩) n c) n xs) (_hn : 0 < n) : ∃ cur, w.heap[q]? = some (.cells cur e (0, 0)) ∧ n ≤ c ∧ c ≤ maxLen ∧ cur.size = c * size ∧ cur.toList.take (n * size) = xs := by
 obtain ⟨hl, ⟨h1, _⟩ | ⟨q', cap, cur, h1, h2, h3, h4, h5, h6, h7⟩⟩ := h
 · cases h1
 · simp only [Value.slice.injEq, Option.some.injEq, Addr.mk.injEq, and_true] at h1
   obtain ⟨rfl, -, rfl⟩ := h1
   exact ⟨cur, h3, h4, h5, h6, h7⟩
structure ClI (ts : List Ta) (w : World) (X3 g n c' k : Nat) (wr : World) : Prop where
 lo : w.heap.size ≤ X3 ∧ w.heap.size ≤ g ∧ X3 < wr.heap.size
 b : Blk wr X3 #[.slice (some ⟨g, 0, none⟩) n c'] 24
 m : ∃ us, us.length = n ∧ us.map Ta.d = ts.map Ta.d ∧ wr.ownsRow w.heap.size 73 5 (.slice (some ⟨g, 0, none⟩) n c') n (tcells us) ∧ (∀ j t, j < k → us[j]? = some t → ∃ base, wr.ownsRow base 98 3 (.slice t.A t.cs.length t.c) t.cs.length (ccells t.cs)) ∧ ∀ j, k ≤ j → us[j]? = ts[j]?
 f : Below w.heap.size w wr
theorem ClI.step {ts : List Ta} {w wr w5 : World} {X3 g n c' k : Nat} (h : ClI ts w X3 g n c' k wr) (hlt : k < n) {t : Ta} (hk : ts[k]? = some t) (hb : Below wr.heap.size wr w5) {cur : Array Value} (hg : Blk w5 g cur 73) {A2 : Option Addr} {c2 base : Nat}
  (hcols : w5.ownsRow base 98 3 (.slice A2 t.cs.length c2) t.cs.length (ccells t.cs)) : ClI ts w X3 g n c' (k + 1) (putBlk w5 g (cur.setIfInBounds (k * 5 + 1) (.slice A2 t.cs.length c2)) 73) := by
 obtain ⟨us, hul, hud, hown, hdone, hrest⟩ := h.m
 have huk : us[k]? = some t := (hrest k (Nat.le_refl _)).trans hk
 have hown5 := own_below hown hb
 obtain ⟨cur', hg', hcn, hcm, hcz, htake⟩ := own_cur hown5 (by omega)
 have e : cur' = cur := by
  have := hg'.symm.trans hg
  simpa using this
 subst e
 have hbX := h.b.ext hb
 have hne : X3 ≠ g := blk_nt hbX hg (by decide)
 refine ⟨⟨h.lo.1, h.lo.2.1, by rw [putBlk_size]; exact hbX.lt⟩, putBlk_ne hbX hne, ⟨us.set k { t with A := A2, c := c2 }, by rw [List.length_set]; exact hul, ?_, ?_, ?_, ?_⟩, putBlk_below _ _ (bt h.f hb) h.lo.2.1⟩
 · rw [← hud, List.map_set]
   refine List.ext_getElem? fun j => ?_
   rw [List.getElem?_set]
   by_cases h' : k = j
   · subst h'
     rw [if_pos rfl, List.getElem?_map, huk, if_pos (by rw [List.length_map]; omega)]
     rfl
   · rw [if_neg h']
 · refine ⟨by rw [← tcells_set huk, List.length_set]; exact hown.1, Or.inr ⟨g, c', _, rfl, h.lo.2.1, putBlk_blk _ _ hg.lt, hcn, hcm, by simpa using hcz, ?_⟩⟩
   rw [← tcells_set huk, ← htake, Array.toList_setIfInBounds, List.take_set]
 · intro j u hj hu
   by_cases h' : j = k
   · subst h'
     rw [List.getElem?_set_self (by omega), Option.some.injEq] at hu
     subst hu
     exact ⟨base, own_below_put hcols hg (by decide) _⟩
   · rw [List.getElem?_set_ne (Ne.symm h')] at hu
     obtain ⟨b2, h2⟩ := hdone j u (by omega) hu
     exact ⟨b2, own_below_put (own_below h2 hb) hg (by decide) _⟩
 · intro j hj
   rw [List.getElem?_set_ne (by omega)]
   exact hrest j (by omega)
end Go.Proofs.YtceoficoappkpaaGreatDoor
namespace Go.Proofs.YtceoficoappkpaaGreatDoor
open Go.RowKit Go.Shelf
attribute [local go_sem] Oper.semAt_some

theorem vext {x k : V} (h1 : x.k = k.k) (h2 : x.n = k.n) (h3 : x.r = k.r) (h4 : x.t.toList = k.t.toList) : x = k := by
 obtain ⟨a, b, c, d⟩ := x
 obtain ⟨a', b', c', d'⟩ := k
 simp only at h1 h2 h3 h4
 rw [h1, h2, h3, toList_inj h4]
set_option maxRecDepth 100000 in
set_option maxHeartbeats 3200000 in
theorem row_fit (B v kk m : Nat) (t : Tr) (ts : List Ta) (tb0 off : Nat) (c : Nat) (j : Nat) (ta : Ta) (k : V) (p : Pr) (l : List V) (ke : Nat) (x : V) (w : World) (h : VwR w B v kk m t) (ht : TRow w (some ⟨tb0, off, none⟩) c ts) (hk : k.wf) (hL : LayX w) (hyes : keyS ts j k = true) (hlk : lkOk j [k] = true) (hf : findP (lkB 114 j [k]) t.toL = some p) (hg : p.g = false) (hsz : p.v.size ≤ 140737488355328)
  (hgr : getRow p.v.data.toList = (0, l, p.v.size)) (hj : ts[j]? = some ta) (hrow : rowS ts j l = true) (hke : ta.key = ke) (hx : l[ke]? = some x) (hlwf : ∀ v ∈ l, v.wf) (hl8 : l.length ≤ 8) (bb : Bool) (hbb : bb = !decide (x = k)) :
  Calls Tryz.prog 19 #[.pointer (some ⟨v, 0, none⟩), .agg #[.slice (some ⟨tb0, off, none⟩) ts.length c], .int .i64 j, k.agg] w fun r w' =>
   (bb = true → r = .returned (.tuple #[.slice none 0 0, .bool false, .int .i64 7])) ∧ (bb = false → ∃ g c2, r = .returned (.tuple #[.slice (some ⟨g, 0, none⟩) l.length c2, .bool true, .int .i64 0]) ∧ w'.ownsRow w.heap.size 47 4 (.slice (some ⟨g, 0, none⟩) l.length c2) l.length (rowCells l)) ∧ Below w.heap.size w w' := by
 have HS := hd_ (fun (W : World) (hW : Below w.heap.size w W) => schkey_any ts (some ⟨tb0, off, none⟩) c j k W (ht.ext hW) hk (hL.ext hW).1)
 have HR := hd_ (fun (W : World) (hW : Below w.heap.size w W) => ixrow_any j k hk W (hL.ext hW))
 have HG := hd_ (fun (W : World) (hW : Below w.heap.size w W) => vget_any B v kk m t (lkB 114 j [k]) p W (h.ext hW) hf)
 have HGR := hd_ (fun (W : World) (hW : Below w.heap.size w W) => getrow_any p.v W hsz (hL.ext hW).1)
 have HSR := hd_ (fun (W : World) (br c2 : Nat) (hW : Below w.heap.size w W) (hv : VRow W (some ⟨br, 0, none⟩) l) => schrow_any ts (some ⟨tb0, off, none⟩) (some ⟨br, 0, none⟩) c c2 j l W (ht.ext hW) hv (hL.ext hW).1)
 have HTR := hd_ (fun (W : World) (hW : Below w.heap.size w W) => ht.ext hW)
 have hjl : j < ts.length := (List.getElem?_eq_some_iff.1 hj).1
 have hkl : ke < l.length := (List.getElem?_eq_some_iff.1 hx).1
 have HJ := hd_ (And.intro hj (And.intro hke (And.intro hx hlwf)))
 have hts := ht.2.1
 have HBB := hd_ hbb
 rw [hyes] at HS
 unfold lkR at HR
 rw [hlk] at HR
 rw [hg] at HG
 rw [hgr] at HGR
 rw [hrow] at HSR
 unfold V.agg okE at *
 simp only [if_true, Bool.not_false] at HS HR HG HSR
 generalize lkB 114 j [k] = ky at HR HG
 clear hyes hlk hf hg ht hL h hgr hrow hj hke hx hlwf hbb
 go_enter Tryz.func19, Tryz.ntmps19
 go_wp2_with fail
 have h5 : Blk ((w.alloc (.cells #[.slice (some ⟨tb0, off, none⟩) ts.length c] 24)).alloc (.cells #[.int .u8 k.k, .int .i64 k.n, .int .u64 k.r, .string k.t] 47)) w.heap.size #[.slice (some ⟨tb0, off, none⟩) ts.length c] 24 := (by repeat (first | exact Blk.at (by simp) | assumption | refine Blk.drew ?_ | refine Blk.old ?_ _))
 have h7 : Blk ((w.alloc (.cells #[.slice (some ⟨tb0, off, none⟩) ts.length c] 24)).alloc (.cells #[.int .u8 k.k, .int .i64 k.n, .int .u64 k.r, .string k.t] 47)) (w.heap.size + 1) #[.int .u8 k.k, .int .i64 k.n, .int .u64 k.r, .string k.t] 47 := (by repeat (first | exact Blk.at (by simp) | assumption | refine Blk.drew ?_ | refine Blk.old ?_ _))
 refine (HS.out _ (by repeat (first | exact Below.refl _ _ | assumption | refine Below.drew ?_ | refine below_drewN ?_ _ | refine Below.alloc ?_ (by simp <;> omega) _))).mono ?_
 rintro r w1 ⟨rfl, hb⟩
 have hW1 : Below w.heap.size w w1 := bt ((by repeat (first | exact Below.refl _ _ | assumption | refine Below.drew ?_ | refine below_drewN ?_ _ | refine Below.alloc ?_ (by simp <;> omega) _))) hb
 have h71 := h7.ext hb
 have h51 := h5.ext hb
 obtain ⟨l7, a0, a1, a2, a3, _⟩ := blk4f h71
 clear hb h7 h5
 obtain ⟨b5, hb5⟩ : ∃ b, b = w.heap.size := ⟨_, rfl⟩
 obtain ⟨b7, hb7⟩ : ∃ b, b = w.heap.size + 1 := ⟨_, rfl⟩
 rw [← hb7] at h71 l7 a0 a1 a2 a3 ⊢
 have HB57 : Hid (b5 = w.heap.size ∧ b7 = w.heap.size + 1) := ⟨hb5, hb7⟩
 rw [← hb5] at h51 ⊢
 clear hb5 hb7
 have H5 := hd_ h51
 have H7 := hd_ h71
 clear h51 h71
 go_wp2_with fail
 refine (HR.out _ hW1).mono ?_
 rintro r w2 ⟨rfl, hb⟩
 have hW2 : Below w.heap.size w w2 := bt hW1 hb
 have H52 := hd_ (H5.out.ext hb)
 have H72 := hd_ (H7.out.ext hb)
 clear hb hW1 l7 a0 a1 a2 a3 H5 H7
 go_wp2_with fail
 refine (HG.out _ hW2).mono ?_
 rintro r w3 ⟨rfl, hb⟩
 have hW3 : Below w.heap.size w w3 := bt hW2 hb
 have H53 := hd_ (H52.out.ext hb)
 have H73 := hd_ (H72.out.ext hb)
 clear hb hW2 H52 H72
 go_wp2_with fail
 refine (HGR.out _ hW3).mono ?_
 rintro r w4 ⟨hb, hcase⟩
 have hW4 : Below w.heap.size w w4 := bt hW3 hb
 have H54 := hd_ (H53.out.ext hb)
 have H74 := hd_ (H73.out.ext hb)
 obtain ⟨A2, c2, rfl, hown⟩ : ∃ A2 c2, r = .returned (.tuple #[.slice A2 l.length c2, .int .i64 p.v.size, .int .i64 0]) ∧ w4.ownsRow w3.heap.size 47 4 (.slice A2 l.length c2) l.length (rowCells l) := by
  rcases hcase with ⟨_, A2, c2, h1, h2⟩ | ⟨h1, _⟩
  · exact ⟨A2, c2, h1, h2⟩
  · exact absurd rfl h1
 obtain ⟨br, c3, he, _⟩ := hown.form (by omega)
 simp only [Value.slice.injEq] at he
 obtain ⟨rfl, -, rfl⟩ := he
 have HO := hd_ hown
 have HVR := hd_ (VRow.of_own HJ.out.2.2.2 (by omega) hown).1
 have HW4 := hd_ hW4
 have HW3 := hd_ hW3.size
 clear hb hW3 hcase hown H53 H73 HS HR HG HGR
 go_upto_region 11 with fail
 let Iv : Nat → Unit → World → Prop := fun k _ W => match k with
  | 0 => W = w4.drew
  | _ => Below w4.heap.size w4 W
 refine region_phase (Iv) (fun _ _ _ => True) (()) (fun _ => [.int .i64 0, .bool false, .bool false, .int .i64 p.v.size, .string p.v, .int .i64 p.v.size, .bool false, .bool false, .bool false, .agg #[.slice (some ⟨tb0, off, none⟩) ts.length c], .int .i64 j, .slice (some ⟨br, 0, none⟩) l.length c2, .int .i64 0, .bool false, .bool false, .bool false, .slice (some ⟨br, 0, none⟩) l.length c2, .pointer (some ⟨b5, 0, none⟩), .slice (some ⟨tb0, off, none⟩) ts.length c, .int .i64 j, .pointer (some ⟨tb0, off + j * 5, none⟩), .pointer (some ⟨tb0, off + j * 5 + 2, none⟩), .int .i64 ke, .pointer (some ⟨br, ke * 4, none⟩), .agg #[.int .u8 x.k, .int .i64 x.n, .int .u64 x.r, .string x.t], .agg #[.int .u8 k.k, .int .i64 k.n, .int .u64 k.r, .string k.t], .bool bb, .bool bb]) [12] [(0, 0), (0, 0), (0, 0), (0, 0), (0, 0), (0, 0), (0, 0), (0, 0), (0, 0), (0, 0), (0, 0), (0, 0), (0, 1), (1, 1), (1, 1), (1, 1), (1, 1), (1, 1), (1, 1), (1, 1), (1, 1), (1, 1), (1, 1), (1, 1), (1, 1), (1, 1), (1, 1), (1, 1)] [false, false, false, false, false, false, false, false, false, false, false, false, false, false, false, false, false, false, false, false, false, false, false, false, false, false, false, false, false, false, false, false, false, false, false, false, false, false, false, false, false, false, false, false, false, false, false, false, false, false, false, false, false, false, true, true, true, true, true, true, true, true, true, true, true, true, true, true, true, true, true, true, true, true, true, true, true, true, true, true, true, true, false] [54, 55, 56, 57, 58, 59, 60, 61, 62, 63, 64, 65, 66, 67, 68, 69, 70, 71, 72, 73, 74, 75, 76, 77, 78, 79, 80, 81] [27] rfl (fun _ => rfl) (fun _ _ _ _ _ _ _ _ _ => rfl) (by kernel_rfl) (by kernel_rfl) (by kernel_rfl) (by decide) (by kernel_rfl) (by kernel_rfl) (by kernel_rfl) (by kernel_rfl) (by kernel_rfl) ⟨PhStep.pure rfl ?_, PhStep.pure rfl ?_, PhStep.pure rfl ?_, PhStep.pure rfl ?_, PhStep.pure rfl ?_, PhStep.pure rfl ?_, PhStep.pure rfl ?_, PhStep.pure rfl ?_, PhStep.pure rfl ?_, PhStep.pure rfl ?_, PhStep.pure rfl ?_, PhStep.pure rfl ?_, PhStep.chain 0 rfl ?c11_12, PhStep.pure rfl ?_, PhStep.pure rfl ?_, PhStep.pure rfl ?_, PhStep.pure rfl ?_, PhStep.pure rfl ?_, PhStep.pure rfl ?_, PhStep.pure rfl ?_, PhStep.pure rfl ?_, PhStep.pure rfl ?_, PhStep.pure rfl ?_, PhStep.pure rfl ?_, PhStep.pure rfl ?_, PhStep.pure rfl ?_, PhStep.pure rfl ?_, PhStep.pure rfl ?_, trivial⟩ ?done11
 case done11 =>
  intro g y W hiv
  have hW : Below w4.heap.size w4 W := hiv
  simp only [StepGoal, List.map_cons, List.map_nil, overlay, upd, cond_true, cond_false, List.getD_cons_zero, List.getD_cons_succ, Nat.zero_add, Nat.reduceAdd, Nat.reduceEqDiff, reduceIte]
  clear hiv Iv
  have HB : Hid (Below w.heap.size w W) := bt HW4.out hW
  have HO2 := hd_ (own_base' (own_below HO.out hW) HW3.out)
  clear hW HO HVR HW4
  cases bb with
  | true =>
   go_wp2_with fail
   refine bodyPost_ret (v := .tuple #[.slice none 0 0, .bool false, .int .i64 7]) (by simp [results, Tryz.results19, go_sem]) rfl ?_
   exact ⟨rfl, HB.out⟩
  | false =>
   go_wp2_with fail
   refine bodyPost_ret (v := .tuple #[.slice (some ⟨br, 0, none⟩) l.length c2, .bool true, .int .i64 0]) (by simp [results, Tryz.results19, go_sem]) rfl ?_
   exact ⟨⟨br, c2, rfl, HO2.out⟩, HB.out⟩
 case c11_12 =>
  intro g y W1 hiv
  have hW1 : W1 = w4.drew := hiv
  subst hW1
  intro K hK
  rw [if_pos (by rfl)]; simp only [overlay, upd, cond_true, cond_false, List.getD_cons_zero, List.getD_cons_succ, Nat.reduceEqDiff, reduceIte]
  go_simp
  refine (HSR.out w4.drew br c2 (HW4.out.drew) (HVR.out.ext (by repeat (first | exact Below.refl _ _ | assumption | refine Below.drew ?_ | refine below_drewN ?_ _ | refine Below.alloc ?_ (by simp <;> omega) _)))).mono ?_
  rintro e W' ⟨rfl, h1⟩
  exact hK.out _ _ () (⟨h1.os, h1.tape, h1.output, h1.size, h1.block⟩ : Below w4.heap.size w4 W') trivial rfl
 all_goals
  intro q hk1 hk2 g y W1 hiv
  intro K hK
  first
   | (rw [if_pos (by rfl)]; simp only [overlay, upd, cond_true, cond_false, List.getD_cons_zero, List.getD_cons_succ, Nat.reduceEqDiff, reduceIte]
      go_simp
      exact hK.out _ _ _ hiv rfl rfl)
   | (rw [if_pos (by rfl)]; simp only [overlay, cond_true, cond_false]
      go_simp
      exact hK.out _ _ _ hiv rfl rfl)
   | (have hX : Below w4.heap.size w4 W1 := by
       have hq : q = 0 ∨ 0 < q := by omega
       rcases hq with rfl | hq
       · have h : W1 = w4.drew := hiv
         rw [h]; exact (by repeat (first | exact Below.refl _ _ | assumption | refine Below.drew ?_ | refine below_drewN ?_ _ | refine Below.alloc ?_ (by simp <;> omega) _))
       · match q, hq, hiv with
         | q + 1, _, hiv => exact hiv
      obtain ⟨l5, e5⟩ : b5 < W1.heap.size ∧ W1.cell? ⟨b5, 0, none⟩ = some (.slice (some ⟨tb0, off, none⟩) ts.length c) := ⟨(H54.out.ext hX).lt, (H54.out.ext hX).cell 0⟩
      obtain ⟨l7, e70, e71, e72, e73, _⟩ := blk4f (H74.out.ext hX)
      obtain ⟨tb1, off1, htb, hlt, hcs⟩ := (HTR.out W1 (bt HW4.out hX)).2.2.2 (by intro e; rw [e] at hjl; simp at hjl)
      simp only [Option.some.injEq, Addr.mk.injEq, and_true] at htb
      obtain ⟨rfl, rfl⟩ := htb
      obtain ⟨t0, t1, t2, t3, t4⟩ := hcs j ta HJ.out.1
      rw [HJ.out.2.1] at t2
      have hov := own_below HO.out hX
      have hx0 : W1.cell? ⟨br, ke * 4, none⟩ = some (.int .u8 x.k) := (hov.cellAt (ke * 4) (by omega)).trans (rowCells_at l ke x 0 HJ.out.2.2.1 (by omega))
      have hx1 : W1.cell? ⟨br, ke * 4 + 1, none⟩ = some (.int .i64 x.n) := (hov.cellAt (ke * 4 + 1) (by omega)).trans (rowCells_at l ke x 1 HJ.out.2.2.1 (by omega))
      have hx2 : W1.cell? ⟨br, ke * 4 + 2, none⟩ = some (.int .u64 x.r) := (hov.cellAt (ke * 4 + 2) (by omega)).trans (rowCells_at l ke x 2 HJ.out.2.2.1 (by omega))
      have hx3 : W1.cell? ⟨br, ke * 4 + 3, none⟩ = some (.string x.t) := (hov.cellAt (ke * 4 + 3) (by omega)).trans (rowCells_at l ke x 3 HJ.out.2.2.1 (by omega))
      have lbr : br < W1.heap.size := (hov.lt br rfl).2
      clear hcs hov
      rw [if_pos (by rfl)]; simp only [overlay, upd, cond_true, cond_false, List.getD_cons_zero, List.getD_cons_succ, Nat.reduceEqDiff, reduceIte]
      go_simp
      first
       | exact hK.out _ _ _ hiv rfl rfl
       | (have hb0 := HBB.out
          (repeat' split)
          all_goals first
           | (obtain rfl : bb = false := by rw [hb0, decide_eq_true (vext (by assumption) (by assumption) (by assumption) (by assumption))]; rfl
              exact hK.out _ _ _ hiv rfl rfl)
           | (obtain rfl : bb = true := by rw [hb0, decide_eq_false (by rintro rfl; contradiction)]; rfl
              exact hK.out _ _ _ hiv rfl rfl)))
end Go.Proofs.YtceoficoappkpaaGreatDoor
namespace Go.Proofs.YtceoficoappkpaaGreatDoor
open Go.RowKit Go.Shelf
attribute [local go_sem] Oper.semAt_some

def chC (kd : Int) (tb : Int) (A0 : Option Addr) (n0 c0 : Nat) (A1 : Option Addr) (n1 c1 : Nat) : Array Value := #[.int .u8 kd, .int .i64 tb, .slice A0 n0 c0, .slice A1 n1 c1]
set_option maxRecDepth 100000 in
theorem fits1_must (ts : List Ta) (A C : Option Addr) (c d : Nat) (tb : Int) (l : List V) (b2 b3 : Nat) (kd : Int) (A0 A1 : Option Addr) (n0 c0 n1 c1 : Nat) (w : World) (ht : TRow w A c ts) (hr : VRow w C l) (hT : Tabs w)
  (h2 : Blk w b2 #[.slice A ts.length c] 24) (h3 : Blk w b3 (chC kd tb A0 n0 c0 A1 n1 c1) 27) (hrow : rowS ts tb l = true) :
  Calls Tryz.prog 72 #[.slice C l.length d, .bool true, .pointer (some ⟨b2, 0, none⟩), .pointer (some ⟨b3, 0, none⟩)] w fun r w' => r = .returned (.bool true) ∧ Below w.heap.size w w' := by
 have HS := hd_ (schrow_any ts A C c d tb l w ht hr hT)
 rw [hrow] at HS
 unfold okE at HS
 simp only [if_true] at HS
 unfold chC at h3
 obtain ⟨l2, s0⟩ : b2 < w.heap.size ∧ w.cell? ⟨b2, 0, none⟩ = some (.slice A ts.length c) := ⟨h2.lt, h2.cell 0⟩
 obtain ⟨l3, k0, k1, k2, k3, _⟩ := blk4f h3
 clear ht hr hT h2 h3 hrow
 go_enter Tryz.func72, Tryz.ntmps72
 go_wp2_with fail
 refine HS.out.mono ?_
 rintro r w1 ⟨rfl, hb⟩
 go_wp2_with fail
 go_ret
 exact ⟨rfl, hb⟩
set_option maxRecDepth 100000 in
set_option maxHeartbeats 1600000 in
theorem fits_upd (ts : List Ta) (tb0 off : Nat) (c d0 d1 : Nat) (j : Nat) (ta : Ta) (ke : Nat) (x : V) (B0 B1 : Nat) (o0 o1 : Nat) (l0 l1 : List V) (w : World) (ht : TRow w (some ⟨tb0, off, none⟩) c ts) (h0 : VRow w (some ⟨B0, o0, none⟩) l0) (h1 : VRow w (some ⟨B1, o1, none⟩) l1) (hT : Tabs w)
  (hj : ts[j]? = some ta) (hke : ta.key = ke) (hr0 : rowS ts j l0 = true) (hr1 : rowS ts j l1 = true) (hx0 : l0[ke]? = some x) (hx1 : l1[ke]? = some x) :
  Calls Tryz.prog 39 #[.agg #[.slice (some ⟨tb0, off, none⟩) ts.length c], .agg #[.int .u8 2, .int .i64 j, .slice (some ⟨B0, o0, none⟩) l0.length d0, .slice (some ⟨B1, o1, none⟩) l1.length d1]] w fun r w' => r = .returned (.bool true) ∧ Below w.heap.size w w' := by
 have HT := hd_ (fun (W : World) (hW : Below w.heap.size w W) => And.intro (ht.ext hW) (And.intro (h0.ext hW) (And.intro (h1.ext hW) (hT.ext hW))))
 have HJ := hd_ (And.intro hj (And.intro hke (And.intro hx0 hx1)))
 have HR := hd_ (And.intro hr0 hr1)
 have hjl : j < ts.length := (List.getElem?_eq_some_iff.1 hj).1
 have hk0 : ke < l0.length := (List.getElem?_eq_some_iff.1 hx0).1
 have hk1 : ke < l1.length := (List.getElem?_eq_some_iff.1 hx1).1
 have hts := ht.2.1
 have hn0 := h0.2.1
 have hn1 := h1.2.1
 clear ht h0 h1 hT hj hke hr0 hr1 hx0 hx1
 go_enter Tryz.func39, Tryz.ntmps39
 go_upto_region 1 with fail
 have b2 : Blk ((w.alloc (.cells #[.slice (some ⟨tb0, off, none⟩) ts.length c] 24)).alloc (.cells #[.int .u8 2, .int .i64 j, .slice (some ⟨B0, o0, none⟩) l0.length d0, .slice (some ⟨B1, o1, none⟩) l1.length d1] 27)) w.heap.size #[.slice (some ⟨tb0, off, none⟩) ts.length c] 24 := (by repeat (first | exact Blk.at (by simp) | assumption | refine Blk.drew ?_ | refine Blk.old ?_ _))
 have b3 : Blk ((w.alloc (.cells #[.slice (some ⟨tb0, off, none⟩) ts.length c] 24)).alloc (.cells #[.int .u8 2, .int .i64 j, .slice (some ⟨B0, o0, none⟩) l0.length d0, .slice (some ⟨B1, o1, none⟩) l1.length d1] 27)) (w.heap.size + 1) #[.int .u8 2, .int .i64 j, .slice (some ⟨B0, o0, none⟩) l0.length d0, .slice (some ⟨B1, o1, none⟩) l1.length d1] 27 := (by repeat (first | exact Blk.at (by simp) | assumption | refine Blk.drew ?_ | refine Blk.old ?_ _))
 have hb : Below w.heap.size w ((w.alloc (.cells #[.slice (some ⟨tb0, off, none⟩) ts.length c] 24)).alloc (.cells #[.int .u8 2, .int .i64 j, .slice (some ⟨B0, o0, none⟩) l0.length d0, .slice (some ⟨B1, o1, none⟩) l1.length d1] 27)) := (by repeat (first | exact Below.refl _ _ | assumption | refine Below.drew ?_ | refine below_drewN ?_ _ | refine Below.alloc ?_ (by simp <;> omega) _))
 generalize ((w.alloc (.cells #[.slice (some ⟨tb0, off, none⟩) ts.length c] 24)).alloc (.cells #[.int .u8 2, .int .i64 j, .slice (some ⟨B0, o0, none⟩) l0.length d0, .slice (some ⟨B1, o1, none⟩) l1.length d1] 27)) = W at b2 b3 hb ⊢
 obtain ⟨q2, hq2⟩ : ∃ b, b = w.heap.size := ⟨_, rfl⟩
 obtain ⟨q3, hq3⟩ : ∃ b, b = w.heap.size + 1 := ⟨_, rfl⟩
 rw [← hq3] at b3 ⊢
 rw [← hq2] at b2 ⊢
 clear hq2 hq3
 have HB2 := hd_ b2
 have HB3 := hd_ b3
 have HB := hd_ hb
 obtain ⟨l3, k0, k1, k2, k3, kf⟩ := blk4f b3
 clear b2 b3 hb
 go_quiet (fail)
 have HF0 := hd_ (fun (X : World) (hX : Below W.heap.size W X) => fits1_must ts (some ⟨tb0, off, none⟩) (some ⟨B0, o0, none⟩) c d0 j l0 q2 q3 2 (some ⟨B0, o0, none⟩) (some ⟨B1, o1, none⟩) l0.length d0 l1.length d1 X (HT.out X (bt HB.out hX)).1 (HT.out X (bt HB.out hX)).2.1 (HT.out X (bt HB.out hX)).2.2.2 (HB2.out.ext hX) (HB3.out.ext hX) HR.out.1)
 have HF1 := hd_ (fun (X : World) (hX : Below W.heap.size W X) => fits1_must ts (some ⟨tb0, off, none⟩) (some ⟨B1, o1, none⟩) c d1 j l1 q2 q3 2 (some ⟨B0, o0, none⟩) (some ⟨B1, o1, none⟩) l0.length d0 l1.length d1 X (HT.out X (bt HB.out hX)).1 (HT.out X (bt HB.out hX)).2.2.1 (HT.out X (bt HB.out hX)).2.2.2 (HB2.out.ext hX) (HB3.out.ext hX) HR.out.2)
 go_wp2_with fail
 refine (HF0.out _ (by repeat (first | exact Below.refl _ _ | assumption | refine Below.drew ?_ | refine below_drewN ?_ _ | refine Below.alloc ?_ (by simp <;> omega) _))).mono ?_
 rintro r w1 ⟨rfl, hb1⟩
 have hX1 : Below W.heap.size W w1 := bt ((by repeat (first | exact Below.refl _ _ | assumption | refine Below.drew ?_ | refine below_drewN ?_ _ | refine Below.alloc ?_ (by simp <;> omega) _))) hb1
 clear l3 k0 k1 k2 k3 kf hb1
 obtain ⟨l3, k0, k1, k2, k3, kf⟩ := blk4f (HB3.out.ext hX1)
 have HX1 := hd_ hX1
 clear hX1
 go_wp2_with fail
 refine (HF1.out _ HX1.out).mono ?_
 rintro r w2 ⟨rfl, hb2⟩
 have hX2 : Below W.heap.size W w2 := bt HX1.out hb2
 clear l3 k0 k1 k2 k3 kf hb2
 obtain ⟨l3, k0, k1, k2, k3, kf⟩ := blk4f (HB3.out.ext hX2)
 obtain ⟨l2, e2⟩ : q2 < w2.heap.size ∧ w2.cell? ⟨q2, 0, none⟩ = some (.slice (some ⟨tb0, off, none⟩) ts.length c) := ⟨(HB2.out.ext hX2).lt, (HB2.out.ext hX2).cell 0⟩
 have hall := HT.out w2 (bt HB.out hX2)
 obtain ⟨tb1, off1, htb, hlt, hcs⟩ := hall.1.2.2.2 (by intro e; rw [e] at hjl; simp at hjl)
 simp only [Option.some.injEq, Addr.mk.injEq, and_true] at htb
 obtain ⟨rfl, rfl⟩ := htb
 obtain ⟨t0, t1, t2, t3, t4⟩ := hcs j ta HJ.out.1
 rw [HJ.out.2.1] at t2
 obtain ⟨g0, p0, hg0, hl0, hc0⟩ := hall.2.1.2.2 (by intro e; rw [e] at hk0; simp at hk0)
 simp only [Option.some.injEq, Addr.mk.injEq, and_true] at hg0
 obtain ⟨rfl, rfl⟩ := hg0
 obtain ⟨x0, x1, x2, x3⟩ := hc0 ke x HJ.out.2.2.1
 obtain ⟨g1, p1, hg1, hl1, hc1⟩ := hall.2.2.1.2.2 (by intro e; rw [e] at hk1; simp at hk1)
 simp only [Option.some.injEq, Addr.mk.injEq, and_true] at hg1
 obtain ⟨rfl, rfl⟩ := hg1
 obtain ⟨y0, y1, y2, y3⟩ := hc1 ke x HJ.out.2.2.2
 have HBX : Hid (Below w.heap.size w w2) := bt HB.out hX2
 clear hall hcs hc0 hc1 hX2
 have hjI : (j : Int) < ts.length := by omega
 have hk0I : (ke : Int) < l0.length := by omega
 have hk1I : (ke : Int) < l1.length := by omega
 go_upto_region 6 with fail
 go_quiet (fail)
 go_wp2_with fail
 go_ret
 exact ⟨rfl, bt HBX.out ((by repeat (first | exact Below.refl _ _ | assumption | refine Below.drew ?_ | refine below_drewN ?_ _ | refine Below.alloc ?_ (by simp <;> omega) _)))⟩
end Go.Proofs.YtceoficoappkpaaGreatDoor
