/- Several texts in one: see each part's head. -/
import Derived.Maps.RangeWalk
import Derived.Test.YtgklopgeimjgiaaGreatDoorJ19
/- VerifySees: maps keyed by a struct of a number and a value (MapG): a look-up, a store, a deletion, the length, a range. -/
namespace Go.Proofs.YtgklopgeimjgiaaGreatDoor
open Go.RowKit
open Go.Maps (Keyed)

def HV (v : Value) : Option (DataW Value × List MemPlace) := some (.held v, [])
/-- A place that may be a key. -/
def okP (p : Int × V) : Prop := okT p.1 ∧ p.2.wf
/-- What a key's type must be. -/
structure KeyT (kt : TypeId) : Prop where
  law : Keyed Tryz.prog kt
  key : ∀ t v, okT t → v.wf → keyOf Tryz.prog kt (plc t v) = some (keyP t v)
theorem keyT_place : KeyT 101 := ⟨law_place, key_place⟩
theorem keyT_root : KeyT 78 := ⟨law_root, key_root⟩
/-- Block M is a map that has just these keys, each once; E tells its elements. -/
structure MapG (kt : TypeId) (w : World) (M : Nat) (ks : List (Int × V)) (E : Int × V → Value → Prop) : Prop where
  nd : ks.Nodup
  ok : ∀ p ∈ ks, okP p
  map : ∃ D, w.ownsMap Tryz.prog kt HV M ks.length D ∧ Maps.size D = ks.length ∧ (∀ kl, Maps.has D kl = true ↔ ∃ p ∈ ks, kl = keyP p.1 p.2) ∧ ∀ p ∈ ks, ∃ v, E p v ∧ ∀ z, D.atKey (keyP p.1 p.2) z = .held v
variable {kt et mt : TypeId} {w w' : World} {M : Nat} {ks ks' : List (Int × V)} {E E' : Int × V → Value → Prop} {p : Int × V} {z : Value}
theorem MapG.made (w : World) (kt : TypeId) (E : Int × V → Value → Prop) : MapG kt (w.alloc (.map #[] 0)) w.heap.size [] E where
  nd := List.nodup_nil
  ok := by simp
  map := ⟨_, World.ownsMap_made w _ _ _, rfl, fun kl => ⟨fun h => by simp [Maps.has] at h, fun ⟨_, h, _⟩ => by simp at h⟩, by simp⟩
theorem MapG.lt (h : MapG kt w M ks E) : M < w.heap.size := by obtain ⟨D, h1, _⟩ := h.map; exact h1.lt
theorem MapG.no_cells (h : MapG kt w M ks E) (cs : Array Value) (t : TypeId) (f : Nat × Nat) : w.heap[M]? ≠ some (.cells cs t f) := by
  obtain ⟨D, ⟨es, clock, hb, _⟩, _⟩ := h.map
  rw [hb]
  intro e; cases e
theorem MapG.chg {S : List Nat} (h : MapG kt w M ks E) (k : Chg S w w') (hM : M ∉ S) (hE : ∀ q ∈ ks, ∀ v, E q v → E' q v) : MapG kt w' M ks E' where
  nd := h.nd
  ok := h.ok
  map := by
    obtain ⟨D, ⟨es, clock, hb, F, hs, hD⟩, h2, h3, h4⟩ := h.map
    exact ⟨D, ⟨es, clock, (k.block M (Array.getElem?_eq_some_iff.1 hb).1 hM).trans hb, F, hs, hD⟩, h2, h3, fun q hq => by obtain ⟨v, h5, h6⟩ := h4 q hq; exact ⟨v, hE q hq v h5, h6⟩⟩
theorem okP_inj {p q : Int × V} (hp : okP p) (hq : okP q) (h : keyP p.1 p.2 = keyP q.1 q.2) : p = q := by
  obtain ⟨h1, h2⟩ := keyP_inj hp.1 hp.2 hq.1 hq.2 h
  exact Prod.ext h1 h2
theorem has_iff {D : DataW Value} (h : MapG kt w M ks E) (hD : ∀ kl, Maps.has D kl = true ↔ ∃ p ∈ ks, kl = keyP p.1 p.2) (hp : okP p) : Maps.has D (keyP p.1 p.2) = true ↔ p ∈ ks := by
  rw [hD]
  exact ⟨fun ⟨q, hq, e⟩ => okP_inj hp (h.ok q hq) e ▸ hq, fun hp => ⟨p, hp, rfl⟩⟩
/-- A look-up, in whatever world has the map as it is. -/
theorem MapG.look (h : MapG kt w M ks E) (K : KeyT kt) (ht : Tryz.prog.underlying mt = some (.map kt et)) (hz : ∀ W, (zeroValue et).run Tryz.prog W = .ok z W) (hp : okP p) :
    (p ∈ ks ∧ ∃ v, E p v ∧ ∀ W : World, W.heap[M]? = w.heap[M]? → (Instr.lookup mt (.map (some M)) (plc p.1 p.2) true).run Tryz.prog W = .ok (.tuple #[v, .bool true]) W ∧ (Instr.lookup mt (.map (some M)) (plc p.1 p.2) false).run Tryz.prog W = .ok v W)
    ∨ (p ∉ ks ∧ ∀ W : World, W.heap[M]? = w.heap[M]? → (Instr.lookup mt (.map (some M)) (plc p.1 p.2) true).run Tryz.prog W = .ok (.tuple #[z, .bool false]) W ∧ (Instr.lookup mt (.map (some M)) (plc p.1 p.2) false).run Tryz.prog W = .ok z W) := by
  obtain ⟨D, h1, h2, h3, h4⟩ := h.map
  have hkey := K.key p.1 p.2 hp.1 hp.2
  have hW : ∀ W : World, W.heap[M]? = w.heap[M]? → W.ownsMap Tryz.prog kt HV M ks.length D := fun W e => by
    obtain ⟨es, clock, hb, rest⟩ := h1
    exact ⟨es, clock, e.trans hb, rest⟩
  by_cases hm : p ∈ ks
  · left
    obtain ⟨u, hu, ha⟩ := h4 p hm
    refine ⟨hm, u, hu, fun W e => ?_⟩
    obtain ⟨v, ps, r1, e1⟩ := (hW W e).look_ok K.law ht (hz W) (zd := .held z) (zp := []) rfl hkey
    obtain ⟨v', ps', r2, e2⟩ := World.ownsMap.lookup (hW W e) K.law ht (hz W) (zd := .held z) (zp := []) rfl hkey
    unfold HV at e1 e2
    simp only [Option.some.injEq, Prod.mk.injEq] at e1 e2
    rw [ha, DataW.held.injEq] at e1 e2
    rw [(has_iff h h3 hp).2 hm, e1.1] at r1
    rw [e2.1] at r2
    exact ⟨r1, r2⟩
  · right
    have hf : Maps.has D (keyP p.1 p.2) = false := by
      cases hh : Maps.has D (keyP p.1 p.2)
      · rfl
      · exact absurd ((has_iff h h3 hp).1 hh) hm
    refine ⟨hm, fun W e => ?_⟩
    obtain ⟨v, ps, r1, e1⟩ := (hW W e).look_ok K.law ht (hz W) (zd := .held z) (zp := []) rfl hkey
    obtain ⟨v', ps', r2, e2⟩ := World.ownsMap.lookup (hW W e) K.law ht (hz W) (zd := .held z) (zp := []) rfl hkey
    unfold HV at e1 e2
    simp only [Option.some.injEq, Prod.mk.injEq] at e1 e2
    rw [Maps.atKey_of_not_has hf, DataW.held.injEq] at e1 e2
    rw [hf, e1.1] at r1
    rw [e2.1] at r2
    exact ⟨r1, r2⟩
/-- The length. -/
theorem MapG.len (h : MapG kt w M ks E) (ht : Tryz.prog.underlying mt = some (.map kt et)) (ty : TypeId) : (Builtin.len_ #[mt] ty #[.map (some M)]).run Tryz.prog w = .ok (.int .i64 ks.length) w := by
  obtain ⟨D, h1, h2, _⟩ := h.map
  have := World.ownsMap.len h1 ht ty
  rwa [h2] at this
theorem turned_chg (h : w.mapTurned w' M) : Chg [M] w w' := Chg.of_grown h.grown (by simp)
theorem own_tight {P : Program} {k : TypeId} {R : Value → Option (DataW Value × List MemPlace)} {b n : Nat} {D : DataW Value} (h : w.ownsMap P k R b n D) : w.ownsMap P k R b (Maps.size D) D := by
  obtain ⟨es, clock, hb, F, hs, rfl⟩ := h
  exact ⟨es, clock, hb, F, by simp [Maps.size, length_sorted], rfl⟩
/-- A store. -/
theorem MapG.put (h : MapG kt w M ks E) (K : KeyT kt) (ht : Tryz.prog.underlying mt = some (.map kt et)) (hp : okP p) (hl : ks.length < 1000000) (v : Value) :
    ∃ w', (Instr.mapUpdate mt (.map (some M)) (plc p.1 p.2) v).run Tryz.prog w = .ok () w' ∧ w.mapTurned w' M ∧
      ∀ ks' E', ks'.Nodup → (∀ q, q ∈ ks' ↔ q = p ∨ q ∈ ks) → (p ∈ ks → ks'.length = ks.length) → (p ∉ ks → ks'.length = ks.length + 1) → E' p v → (∀ q ∈ ks, q ≠ p → ∀ u, E q u → E' q u) → MapG kt w' M ks' E' := by
  obtain ⟨D, h1, h2, h3, h4⟩ := h.map
  have hkey := K.key p.1 p.2 hp.1 hp.2
  have hT := h1.tidy K.law
  obtain ⟨w', hrun, ho, hturn⟩ := h1.store K.law ht (by unfold maxLen; omega) hkey (val := v) (d := .held v) (ps := []) rfl
  refine ⟨w', hrun, hturn, fun ks' E' hnd hmem hl1 hl2 hE hE' => ⟨hnd, fun q hq => (hmem q).1 hq |>.elim (fun e => e ▸ hp) (h.ok q), D.put (keyP p.1 p.2) (.held v), ?_, ?_, ?_, ?_⟩⟩
  · have e := Maps.size_put (k := keyP p.1 p.2) hT (.held v)
    have ho' := own_tight ho
    refine ho'.mono ?_
    rw [e]
    by_cases hm : p ∈ ks
    · rw [if_pos ((has_iff h h3 hp).2 hm), h2, hl1 hm]; exact Nat.le_refl _
    · rw [if_neg (fun hh => hm ((has_iff h h3 hp).1 hh)), h2, hl2 hm]; exact Nat.le_refl _
  · rw [Maps.size_put hT]
    by_cases hm : p ∈ ks
    · rw [if_pos ((has_iff h h3 hp).2 hm), h2, hl1 hm]
    · rw [if_neg (fun hh => hm ((has_iff h h3 hp).1 hh)), h2, hl2 hm]
  · intro kl
    by_cases e : kl = keyP p.1 p.2
    · subst e
      exact ⟨fun _ => ⟨p, (hmem p).2 (Or.inl rfl), rfl⟩, fun _ => Maps.has_put_same hT.isMap (keyP_lit _ _) _⟩
    · rw [Maps.has_put_other e, h3]
      constructor
      · rintro ⟨q, hq, rfl⟩; exact ⟨q, (hmem q).2 (Or.inr hq), rfl⟩
      · rintro ⟨q, hq, rfl⟩
        rcases (hmem q).1 hq with rfl | hq
        · exact absurd rfl e
        · exact ⟨q, hq, rfl⟩
  · intro q hq
    by_cases e : q = p
    · subst e
      exact ⟨v, hE, fun z => Maps.atKey_put_same hT.isMap (keyP_lit _ _) _ _⟩
    · have hq' := ((hmem q).1 hq).resolve_left e
      obtain ⟨u, h5, h6⟩ := h4 q hq'
      refine ⟨u, hE' q hq' e u h5, fun z => ?_⟩
      rw [Maps.atKey_put_other (fun h' => e (okP_inj (h.ok q hq') hp h'))]
      exact h6 z
/-- A deletion. -/
theorem MapG.del (h : MapG kt w M ks E) (K : KeyT kt) (ht : Tryz.prog.underlying mt = some (.map kt et)) (hp : okP p) (hm : p ∈ ks) (ty : TypeId) :
    ∃ w', (Builtin.delete_ #[mt, kt] ty #[.map (some M), plc p.1 p.2]).run Tryz.prog w = .ok (.tuple #[]) w' ∧ w.mapTurned w' M ∧
      ∀ ks' E', ks'.Nodup → (∀ q, q ∈ ks' ↔ q ∈ ks ∧ q ≠ p) → ks'.length + 1 = ks.length → (∀ q ∈ ks, q ≠ p → ∀ u, E q u → E' q u) → MapG kt w' M ks' E' := by
  obtain ⟨D, h1, h2, h3, h4⟩ := h.map
  have hkey := K.key p.1 p.2 hp.1 hp.2
  have hT := h1.tidy K.law
  obtain ⟨w', hrun, ho, hturn⟩ := h1.drop K.law ht hkey ty
  have e := Maps.size_del (k := keyP p.1 p.2) hT
  rw [if_pos ((has_iff h h3 hp).2 hm), h2] at e
  refine ⟨w', hrun, hturn, fun ks' E' hnd hmem hl hE => ⟨hnd, fun q hq => h.ok q ((hmem q).1 hq).1, D.del (keyP p.1 p.2), ?_, ?_, ?_, ?_⟩⟩
  · exact (own_tight ho).mono (by omega)
  · omega
  · intro kl
    by_cases e : kl = keyP p.1 p.2
    · subst e
      rw [Maps.has_del_same]
      refine ⟨fun h => (by cases h), fun ⟨q, hq, e⟩ => ?_⟩
      have h5 := (hmem q).1 hq
      exact absurd (okP_inj hp (h.ok q h5.1) e).symm h5.2
    · rw [Maps.has_del_other e, h3]
      constructor
      · rintro ⟨q, hq, rfl⟩; exact ⟨q, (hmem q).2 ⟨hq, fun e' => e (by rw [e'])⟩, rfl⟩
      · rintro ⟨q, hq, rfl⟩; exact ⟨q, ((hmem q).1 hq).1, rfl⟩
  · intro q hq
    have h5 := (hmem q).1 hq
    obtain ⟨u, h6, h7⟩ := h4 q h5.1
    refine ⟨u, hE q h5.1 h5.2 u h6, fun z => ?_⟩
    rw [Maps.atKey_del_other (fun h' => h5.2 (okP_inj (h.ok q h5.1) hp h'))]
    exact h7 z
/-- A range under way: lf are the keys that are still to come. -/
def MapI (kt : TypeId) (w : World) (M r : Nat) (ks : List (Int × V)) (E : Int × V → Value → Prop) (lf : List (Int × V)) : Prop :=
  ∃ D left cnt, w.ranges Tryz.prog kt HV M r ks.length D left cnt ∧ (∀ kl, Maps.has D kl = true ↔ ∃ p ∈ ks, kl = keyP p.1 p.2) ∧ (∀ p ∈ ks, ∃ v, E p v ∧ ∀ z, D.atKey (keyP p.1 p.2) z = .held v) ∧ (∀ p ∈ ks, okP p) ∧
    (∀ kl, left kl = true → Maps.has D kl = true) ∧ (∀ q ∈ ks, left (keyP q.1 q.2) = true ↔ q ∈ lf) ∧ lf.Nodup ∧ ∀ q ∈ lf, q ∈ ks
theorem MapG.range (h : MapG kt w M ks E) (K : KeyT kt) (ht : Tryz.prog.underlying mt = some (.map kt et)) :
    ∃ w', (Instr.range mt (.map (some M))).run Tryz.prog w = .ok (.pointer (some ⟨w.heap.size, 0, none⟩)) w' ∧ MapI kt w' M w.heap.size ks E ks ∧ w.grownBy w' none ∧ w'.heap.size = w.heap.size + 1 := by
  obtain ⟨D, h1, h2, h3, h4⟩ := h.map
  obtain ⟨w', hr, hg, hgr, hs⟩ := World.ownsMap.range h1 K.law ht
  exact ⟨w', hr, ⟨D, _, _, hg, h3, h4, h.ok, fun _ h => h, fun q hq => ⟨fun _ => hq, fun _ => (h3 _).2 ⟨q, hq, rfl⟩⟩, h.nd, fun _ h => h⟩, hgr, hs⟩
theorem MapI.kept {r : Nat} {lf : List (Int × V)} {S : List Nat} (h : MapI kt w M r ks E lf) (k : Chg S w w') (hM : M ∉ S) (hr : r ∉ S) (hE : ∀ q ∈ ks, ∀ v, E q v → E' q v) : MapI kt w' M r ks E' lf := by
  obtain ⟨D, left, cnt, hg, h3, h4, rest⟩ := h
  have hlM := hg.owns.lt
  have hlr := hg.lt
  obtain ⟨es, clock, since, seen, c0, hb, F, hs, hD, hr', rest'⟩ := hg
  exact ⟨D, left, cnt, ⟨es, clock, since, seen, c0, (k.block M hlM hM).trans hb, F, hs, hD, (k.block r hlr hr).trans hr', rest'⟩, h3, fun q hq => by obtain ⟨v, h5, h6⟩ := h4 q hq; exact ⟨v, hE q hq v h5, h6⟩, rest⟩
theorem MapI.lt {r : Nat} {lf : List (Int × V)} (h : MapI kt w M r ks E lf) : M < w.heap.size ∧ r < w.heap.size ∧ r ≠ M := by
  obtain ⟨D, left, cnt, hg, _⟩ := h
  exact ⟨hg.owns.lt, hg.lt, hg.ne⟩
theorem MapI.left_same {r : Nat} {lf : List (Int × V)} {S : List Nat} (h : MapI kt w M r ks E lf) (k : Chg S w w') (hM : M ∉ S) (hr : r ∉ S) : w'.rangeLeft M r = w.rangeLeft M r := by
  unfold World.rangeLeft
  rw [k.block M h.lt.1 hM, k.block r h.lt.2.1 hr]
theorem MapI.map {r : Nat} {lf : List (Int × V)} (h : MapI kt w M r ks E lf) (hnd : ks.Nodup) (hsz : ∀ D, w.ownsMap Tryz.prog kt HV M ks.length D → Maps.size D = ks.length) : MapG kt w M ks E := by
  obtain ⟨D, left, cnt, hg, h3, h4, h5, _⟩ := h
  exact ⟨hnd, h5, D, hg.owns, hsz D hg.owns, h3, h4⟩
/-- The step. -/
theorem MapI.next {r : Nat} {lf : List (Int × V)} (h : MapI kt w M r ks E lf) (K : KeyT kt) (ty : TypeId) :
    (lf = [] ∧ (Instr.next (.pointer (some ⟨r, 0, none⟩)) false ty).run Tryz.prog w = .ok (.tuple #[.bool false]) w) ∨
    ∃ p v w' lf', p ∈ lf ∧ p ∈ ks ∧ okP p ∧ E p v ∧ (Instr.next (.pointer (some ⟨r, 0, none⟩)) false ty).run Tryz.prog w = .ok (.tuple #[.bool true, plc p.1 p.2, v]) w' ∧ MapI kt w' M r ks E lf' ∧ (∀ q, q ∈ lf' ↔ q ∈ lf ∧ q ≠ p) ∧ lf'.length + 1 = lf.length ∧
      w'.rangeLeft M r < w.rangeLeft M r ∧ Chg [r] w w' ∧ w'.heap.size = w.heap.size ∧ (Instr.entry (.pointer (some ⟨r, 0, none⟩))).run Tryz.prog w' = .ok (.tuple #[plc p.1 p.2, v]) w' := by
  obtain ⟨D, left, cnt, hg, h3, h4, h5, h6, h7, h8, h9⟩ := h
  rcases hg.next K.law ty with ⟨_, hl, hrun⟩ | ⟨key, v, kl, y, w', cnt', hkey, hlk, hv, hat, hrun, hrg, hlt, hgr, hsz, hen⟩
  · left
    refine ⟨List.eq_nil_iff_forall_not_mem.2 fun q hq => ?_, hrun⟩
    have := (h7 q (h9 q hq)).2 hq
    rw [hl] at this; cases this
  · right
    obtain ⟨p, hp, rfl⟩ := (h3 kl).1 (h6 kl hlk)
    have hok := h5 p hp
    obtain rfl : key = plc p.1 p.2 := K.law.inj hkey (K.key _ _ hok.1 hok.2)
    obtain ⟨u, hu, ha⟩ := h4 p hp
    have e1 := hat (.held v)
    unfold HV at hv
    simp only [Option.some.injEq] at hv
    rw [ha, ← hv, DataW.held.injEq] at e1
    subst e1
    have hpl := (h7 p hp).1 hlk
    have hmem : ∀ q, q ∈ lf.erase p ↔ q ∈ lf ∧ q ≠ p := fun q => by rw [h8.mem_erase_iff, and_comm]
    refine ⟨p, u, w', lf.erase p, hpl, hp, hok, hu, hrun, ⟨D, _, cnt', hrg, h3, h4, h5, fun kl hkl => ?_, fun q hq => ?_, h8.erase p, fun q hq => h9 q ((hmem q).1 hq).1⟩, hmem, by have := List.length_erase_of_mem hpl; have := List.length_pos_of_mem hpl; omega, by rw [hrg.left_eq, hg.left_eq]; exact hlt, Chg.of_grown hgr (by simp), hsz, hen⟩
    · simp only [Bool.and_eq_true] at hkl
      exact h6 kl hkl.1
    · simp only [Bool.and_eq_true, Bool.not_eq_true']
      rw [h7 q hq, hmem]
      constructor
      · rintro ⟨h1, h2⟩
        refine ⟨h1, fun e => ?_⟩
        rw [e, keyP_self] at h2; cases h2
      · rintro ⟨h1, h2⟩
        exact ⟨h1, Maps.sameKey_ne (fun e => h2 (okP_inj (h5 q hq) hok e))⟩
end Go.Proofs.YtgklopgeimjgiaaGreatDoor

/- VerifySees: clones of rows of tables, columns, values; rel.clone: a schema of one's own. -/
namespace Go.Proofs.YtgklopgeimjgiaaGreatDoor
open Go.RowKit

/-- A clone of a row. -/
def CloneG (e : TypeId) (sz n : Nat) (xs : List Value) (w : World) (r : Ending) (w' : World) : Prop :=
  Below w.heap.size w w' ∧ ∃ A c, r = .returned (.slice A n c) ∧ w'.ownsRow w.heap.size e sz (.slice A n c) n xs ∧ (A = none → c = 0)
set_option maxRecDepth 100000 in
theorem clone_tab (n : Nat) (xs : List Value) (a : Addr) (c : Nat) (w : World) (hl : xs.length = n * 5) (ho : ∀ u ∈ xs, Value.oneCell' u) (hc : ∀ j u, xs[j]? = some u → w.cell? (a.add j) = some u) (hn : n ≤ 1000) :
    Calls Tryz.prog 65 #[.slice (some a) n c] w (CloneG 46 5 n xs w) := by
  have HQ := Lib.hid (show ∀ r w', (Below w.heap.size w w' ∧ ∃ A c, r = .returned (.slice A n c) ∧ w'.ownsRow w.heap.size 46 5 (.slice A n c) n xs ∧ (A = none → c = 0)) → CloneG 46 5 n xs w r w' from fun _ _ h => h)
  generalize CloneG 46 5 n xs w = RP at HQ ⊢
  obtain ⟨i3, hi3, hy0, hy1, hy2⟩ := info_parts info_tab
  have HN : Hid (∀ W, Below w.heap.size w W → ∀ j u, xs[j]? = some u → W.cell? (a.add j) = some u) := by
    intro W hW j u hu
    have h1 := hc j u hu
    have hlt : a.block < w.heap.size := by
      have := World.block_lt_of_cell? w _ h1
      rwa [show (a.add j).block = a.block by unfold Addr.add; split <;> rfl] at this
    exact (hW.cell (p := a.add j) (by rw [show (a.add j).block = a.block by unfold Addr.add; split <;> rfl]; exact hlt)).trans h1
  have HO := Lib.hid ho
  have HL := Lib.hid hl
  have HOW := Lib.hid (show (w.alloc (.cells #[] 46)).ownsRow w.heap.size 46 5 (.slice (some ⟨w.heap.size, 0, none⟩) 0 0) 0 [] from World.ownsRow_made w #[] 0 (Nat.le_refl _) (by decide) rfl)
  clear hl ho hc
  have he : ∀ W : World, (binOp .eql 22 (.slice (some a) n c) (.slice none 0 0)).run Tryz.prog W = .ok (.bool false) W := fun _ => rfl
  go_enter Tryz.func65, Tryz.ntmps65
  go_wp2_with (at_builtin; refine wpList_append_own _ rfl _ _ 22 rfl w.heap.size 46 i3 _ 5 64 Tryz.underlying22 hi3 hy0 hy1 hy2 rfl (by decide) (.slice (some ⟨w.heap.size, 0, none⟩) 0 0) 0 [] rfl HOW.out a n c xs rfl HL.out (HN.out _ (by repeat (first | exact Below.refl _ _ | assumption | refine Below.drew ?_ | refine below_drewN ?_ _ | refine Below.alloc ?_ (by simp <;> omega) _))) HO.out (by simp only [maxLen]; omega) (by omega) (by simp) ?_)
  intro v' w2 hown hg hf
  have hb2 : Below w.heap.size w w2 := ((Below.refl w.heap.size w).alloc (Nat.le_refl _) _).grown hg (by simp) (by simp [Value.ownBlock])
  obtain ⟨A', c', rfl, hc'⟩ : ∃ A' c', v' = .slice A' n c' ∧ (A' = none → c' = 0) := by
    rcases hown.2 with ⟨rfl, rfl⟩ | ⟨g, cap, cur, rfl, _⟩
    · exact ⟨none, 0, rfl, fun _ => rfl⟩
    · exact ⟨_, _, rfl, fun h => by cases h⟩
  have HF := Lib.hid (HQ.out _ _ ⟨hb2, A', c', rfl, hown, hc'⟩)
  clear hown hg hf hb2 HQ
  go_wp2_with fail
  exact HF.out
set_option maxRecDepth 100000 in
theorem clone_col (n : Nat) (xs : List Value) (a : Addr) (c : Nat) (w : World) (hl : xs.length = n * 3) (ho : ∀ u ∈ xs, Value.oneCell' u) (hc : ∀ j u, xs[j]? = some u → w.cell? (a.add j) = some u) (hn : n ≤ 1000) :
    Calls Tryz.prog 66 #[.slice (some a) n c] w (CloneG 86 3 n xs w) := by
  have HQ := Lib.hid (show ∀ r w', (Below w.heap.size w w' ∧ ∃ A c, r = .returned (.slice A n c) ∧ w'.ownsRow w.heap.size 86 3 (.slice A n c) n xs ∧ (A = none → c = 0)) → CloneG 86 3 n xs w r w' from fun _ _ h => h)
  generalize CloneG 86 3 n xs w = RP at HQ ⊢
  obtain ⟨i3, hi3, hy0, hy1, hy2⟩ := info_parts info_col
  have HN : Hid (∀ W, Below w.heap.size w W → ∀ j u, xs[j]? = some u → W.cell? (a.add j) = some u) := by
    intro W hW j u hu
    have h1 := hc j u hu
    have hlt : a.block < w.heap.size := by
      have := World.block_lt_of_cell? w _ h1
      rwa [show (a.add j).block = a.block by unfold Addr.add; split <;> rfl] at this
    exact (hW.cell (p := a.add j) (by rw [show (a.add j).block = a.block by unfold Addr.add; split <;> rfl]; exact hlt)).trans h1
  have HO := Lib.hid ho
  have HL := Lib.hid hl
  have HOW := Lib.hid (show (w.alloc (.cells #[] 86)).ownsRow w.heap.size 86 3 (.slice (some ⟨w.heap.size, 0, none⟩) 0 0) 0 [] from World.ownsRow_made w #[] 0 (Nat.le_refl _) (by decide) rfl)
  clear hl ho hc
  have he : ∀ W : World, (binOp .eql 44 (.slice (some a) n c) (.slice none 0 0)).run Tryz.prog W = .ok (.bool false) W := fun _ => rfl
  go_enter Tryz.func66, Tryz.ntmps66
  go_wp2_with (at_builtin; refine wpList_append_own _ rfl _ _ 44 rfl w.heap.size 86 i3 _ 3 24 Tryz.underlying44 hi3 hy0 hy1 hy2 rfl (by decide) (.slice (some ⟨w.heap.size, 0, none⟩) 0 0) 0 [] rfl HOW.out a n c xs rfl HL.out (HN.out _ (by repeat (first | exact Below.refl _ _ | assumption | refine Below.drew ?_ | refine below_drewN ?_ _ | refine Below.alloc ?_ (by simp <;> omega) _))) HO.out (by simp only [maxLen]; omega) (by omega) (by simp) ?_)
  intro v' w2 hown hg hf
  have hb2 : Below w.heap.size w w2 := ((Below.refl w.heap.size w).alloc (Nat.le_refl _) _).grown hg (by simp) (by simp [Value.ownBlock])
  obtain ⟨A', c', rfl, hc'⟩ : ∃ A' c', v' = .slice A' n c' ∧ (A' = none → c' = 0) := by
    rcases hown.2 with ⟨rfl, rfl⟩ | ⟨g, cap, cur, rfl, _⟩
    · exact ⟨none, 0, rfl, fun _ => rfl⟩
    · exact ⟨_, _, rfl, fun h => by cases h⟩
  have HF := Lib.hid (HQ.out _ _ ⟨hb2, A', c', rfl, hown, hc'⟩)
  clear hown hg hf hb2 HQ
  go_wp2_with fail
  exact HF.out
set_option maxRecDepth 100000 in
theorem clone_val (n : Nat) (xs : List Value) (a : Addr) (c : Nat) (w : World) (hl : xs.length = n * 4) (ho : ∀ u ∈ xs, Value.oneCell' u) (hc : ∀ j u, xs[j]? = some u → w.cell? (a.add j) = some u) (hn : n ≤ 1000) :
    Calls Tryz.prog 43 #[.slice (some a) n c] w (CloneG 49 4 n xs w) := by
  have HQ := Lib.hid (show ∀ r w', (Below w.heap.size w w' ∧ ∃ A c, r = .returned (.slice A n c) ∧ w'.ownsRow w.heap.size 49 4 (.slice A n c) n xs ∧ (A = none → c = 0)) → CloneG 49 4 n xs w r w' from fun _ _ h => h)
  generalize CloneG 49 4 n xs w = RP at HQ ⊢
  obtain ⟨i3, hi3, hy0, hy1, hy2⟩ := info_parts info_V
  have HN : Hid (∀ W, Below w.heap.size w W → ∀ j u, xs[j]? = some u → W.cell? (a.add j) = some u) := by
    intro W hW j u hu
    have h1 := hc j u hu
    have hlt : a.block < w.heap.size := by
      have := World.block_lt_of_cell? w _ h1
      rwa [show (a.add j).block = a.block by unfold Addr.add; split <;> rfl] at this
    exact (hW.cell (p := a.add j) (by rw [show (a.add j).block = a.block by unfold Addr.add; split <;> rfl]; exact hlt)).trans h1
  have HO := Lib.hid ho
  have HL := Lib.hid hl
  have HOW := Lib.hid (show (w.alloc (.cells #[] 49)).ownsRow w.heap.size 49 4 (.slice (some ⟨w.heap.size, 0, none⟩) 0 0) 0 [] from World.ownsRow_made w #[] 0 (Nat.le_refl _) (by decide) rfl)
  clear hl ho hc
  have he : ∀ W : World, (binOp .eql 26 (.slice (some a) n c) (.slice none 0 0)).run Tryz.prog W = .ok (.bool false) W := fun _ => rfl
  go_enter Tryz.func43, Tryz.ntmps43
  go_wp2_with (at_builtin; refine wpList_append_own _ rfl _ _ 26 rfl w.heap.size 49 i3 _ 4 40 Tryz.underlying26 hi3 hy0 hy1 hy2 rfl (by decide) (.slice (some ⟨w.heap.size, 0, none⟩) 0 0) 0 [] rfl HOW.out a n c xs rfl HL.out (HN.out _ (by repeat (first | exact Below.refl _ _ | assumption | refine Below.drew ?_ | refine below_drewN ?_ _ | refine Below.alloc ?_ (by simp <;> omega) _))) HO.out (by simp only [maxLen]; omega) (by omega) (by simp) ?_)
  intro v' w2 hown hg hf
  have hb2 : Below w.heap.size w w2 := ((Below.refl w.heap.size w).alloc (Nat.le_refl _) _).grown hg (by simp) (by simp [Value.ownBlock])
  obtain ⟨A', c', rfl, hc'⟩ : ∃ A' c', v' = .slice A' n c' ∧ (A' = none → c' = 0) := by
    rcases hown.2 with ⟨rfl, rfl⟩ | ⟨g, cap, cur, rfl, _⟩
    · exact ⟨none, 0, rfl, fun _ => rfl⟩
    · exact ⟨_, _, rfl, fun h => by cases h⟩
  have HF := Lib.hid (HQ.out _ _ ⟨hb2, A', c', rfl, hown, hc'⟩)
  clear hown hg hf hb2 HQ
  go_wp2_with fail
  exact HF.out
set_option maxRecDepth 100000 in
theorem clone_nil (w : World) : Calls Tryz.prog 43 #[.slice none 0 0] w fun r w' => r = .returned (.slice none 0 0) ∧ w = w' := by
  have he : ∀ W : World, (binOp .eql 26 (.slice none 0 0) (.slice none 0 0)).run Tryz.prog W = .ok (.bool true) W := fun _ => rfl
  go_enter Tryz.func43, Tryz.ntmps43
  go_wp2_with fail
  go_ret
  exact ⟨rfl, rfl⟩
/-- A clone of a row of values that is not empty. -/
theorem clone_row (l : List V) (A : Option Addr) (c : Nat) (w : World) (h : VRow w A l) (hne : l ≠ []) (hl : l.length ≤ 1000) :
    Calls Tryz.prog 43 #[.slice A l.length c] w fun r w' => Below w.heap.size w w' ∧ ∃ A c, r = .returned (.slice A l.length c) ∧ RowO w' A c l := by
  obtain ⟨b, off, rfl, lb, _⟩ := h.2.2 hne
  refine (clone_val l.length (rowCells l) ⟨b, off, none⟩ c w (rowCells_length l) (rowCells_one l) h.cells_ hl).mono ?_
  rintro r w1 ⟨hb, A', c', rfl, ho, hn⟩
  exact ⟨hb, A', c', rfl, ⟨_, ho⟩, hn, h.1, hl⟩
end Go.Proofs.YtgklopgeimjgiaaGreatDoor
