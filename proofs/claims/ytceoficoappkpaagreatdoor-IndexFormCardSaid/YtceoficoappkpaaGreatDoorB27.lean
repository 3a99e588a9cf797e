/- Texts joined by a tool: contracts and walks of this claim. -/
import Derived.Test.YtceoficoappkpaaGreatDoorB24
import Derived.Lib.ParseIntB
import Derived.Lib.ItoaNum
import Derived.Laws.Cover4
namespace Go.Proofs.YtceoficoappkpaaGreatDoor
open Go.RowKit
open Go.Maps (Keyed)

def okS (s : ByteArray) : Prop := s.size ≤ 140737488355328
def kS (s : ByteArray) : Lit := .string s.data.toList
theorem kS_inj {p q : ByteArray} (h : kS p = kS q) : p = q := by
 unfold kS at h
 simp only [Lit.string.injEq] at h
 cases p; cases q
 simp only [ByteArray.mk.injEq]
 exact Array.toList_inj.1 h
theorem kS_self (s : ByteArray) : (kS s).sameKey (kS s) = true := WideAt.sameKey_self (show WideAt.IsKeyLit (kS s) from trivial)
instance reflBA : ReflBEq ByteArray where
 rfl {a} := show (a.data == a.data) = true from beq_self_eq_true a.data
instance lawfulBA : LawfulBEq ByteArray where
 eq_of_beq {a b} h := ByteArray.ext (eq_of_beq (show (a.data == b.data) = true from h))
theorem kS_lit (s : ByteArray) : WideAt.IsKeyLit (kS s) := trivial
theorem law_str : Keyed Tryz.prog 9 := Maps.string_keyed Tryz.underlying9
theorem key_str28 (s : ByteArray) (hs : okS s) : keyOf Tryz.prog 9 (.string s) = some (kS s) := WideMaps.keyOf_string_mk Tryz.underlying9 (by unfold maxLen; unfold okS at hs; omega)
structure MapS (w : World) (M : Nat) (ks : List ByteArray) (E : ByteArray → Value → Prop) : Prop where
 nd : ks.Nodup
 ok : ∀ p ∈ ks, okS p
 map : ∃ D, w.ownsMap Tryz.prog 9 HV M ks.length D ∧ Maps.size D = ks.length ∧ (∀ kl, Maps.has D kl = true ↔ ∃ p ∈ ks, kl = kS p) ∧ ∀ p ∈ ks, ∃ v, E p v ∧ ∀ z, D.atKey (kS p) z = .held v
variable {et mt : TypeId} {w w' : World} {M : Nat} {ks ks' : List ByteArray} {E E' : ByteArray → Value → Prop} {p : ByteArray} {z : Value}
theorem MapS.made (w : World) (E : ByteArray → Value → Prop) : MapS (w.alloc (.map #[] 0)) w.heap.size [] E where
 nd := List.nodup_nil
 ok := by simp
 map := ⟨_, World.ownsMap_made w _ _ _, rfl, fun kl => ⟨fun h => by simp [Maps.has] at h, fun ⟨_, h, _⟩ => by simp at h⟩, by simp⟩
theorem MapS.lt (h : MapS w M ks E) : M < w.heap.size := by obtain ⟨D, h1, _⟩ := h.map; exact h1.lt
theorem MapS.no_cells (h : MapS w M ks E) (cs : Array Value) (t : TypeId) (f : Nat × Nat) : w.heap[M]? ≠ some (.cells cs t f) := by
 obtain ⟨D, ⟨es, clock, hb, _⟩, _⟩ := h.map
 rw [hb]
 intro e; cases e
theorem MapS.chg {S : List Nat} (h : MapS w M ks E) (k : Chg S w w') (hM : M ∉ S) (hE : ∀ q ∈ ks, ∀ v, E q v → E' q v) : MapS w' M ks E' where
 nd := h.nd
 ok := h.ok
 map := by
  obtain ⟨D, ⟨es, clock, hb, F, hs, hD⟩, h2, h3, h4⟩ := h.map
  exact ⟨D, ⟨es, clock, (k.block M (Array.getElem?_eq_some_iff.1 hb).1 hM).trans hb, F, hs, hD⟩, h2, h3, fun q hq => by obtain ⟨v, h5, h6⟩ := h4 q hq; exact ⟨v, hE q hq v h5, h6⟩⟩
theorem okS_inj {p q : ByteArray} (_ : okS p) (_ : okS q) (h : kS p = kS q) : p = q := kS_inj h
theorem hasS_iff {D : DataW Value} (h : MapS w M ks E) (hD : ∀ kl, Maps.has D kl = true ↔ ∃ p ∈ ks, kl = kS p) (hp : okS p) : Maps.has D (kS p) = true ↔ p ∈ ks := by
 rw [hD]
 exact ⟨fun ⟨q, hq, e⟩ => okS_inj hp (h.ok q hq) e ▸ hq, fun hp => ⟨p, hp, rfl⟩⟩
theorem MapS.look (h : MapS w M ks E) (ht : Tryz.prog.underlying mt = some (.map 9 et)) (hz : ∀ W, (zeroValue et).run Tryz.prog W = .ok z W) (hp : okS p) :
  (p ∈ ks ∧ ∃ v, E p v ∧ ∀ W : World, W.heap[M]? = w.heap[M]? → (Instr.lookup mt (.map (some M)) (.string p) true).run Tryz.prog W = .ok (.tuple #[v, .bool true]) W ∧ (Instr.lookup mt (.map (some M)) (.string p) false).run Tryz.prog W = .ok v W)
  ∨ (p ∉ ks ∧ ∀ W : World, W.heap[M]? = w.heap[M]? → (Instr.lookup mt (.map (some M)) (.string p) true).run Tryz.prog W = .ok (.tuple #[z, .bool false]) W ∧ (Instr.lookup mt (.map (some M)) (.string p) false).run Tryz.prog W = .ok z W) := by
 obtain ⟨D, h1, h2, h3, h4⟩ := h.map
 have hkey := key_str28 p hp
 have hW : ∀ W : World, W.heap[M]? = w.heap[M]? → W.ownsMap Tryz.prog 9 HV M ks.length D := fun W e => by
  obtain ⟨es, clock, hb, rest⟩ := h1
  exact ⟨es, clock, e.trans hb, rest⟩
 by_cases hm : p ∈ ks
 · left
   obtain ⟨u, hu, ha⟩ := h4 p hm
   refine ⟨hm, u, hu, fun W e => ?_⟩
   obtain ⟨v, ps, r1, e1⟩ := (hW W e).look_ok law_str ht (hz W) (zd := .held z) (zp := []) rfl hkey
   obtain ⟨v', ps', r2, e2⟩ := World.ownsMap.lookup (hW W e) law_str ht (hz W) (zd := .held z) (zp := []) rfl hkey
   unfold HV at e1 e2
   simp only [Option.some.injEq, Prod.mk.injEq] at e1 e2
   rw [ha, DataW.held.injEq] at e1 e2
   rw [(hasS_iff h h3 hp).2 hm, e1.1] at r1
   rw [e2.1] at r2
   exact ⟨r1, r2⟩
 · right
   have hf : Maps.has D (kS p) = false := by
    cases hh : Maps.has D (kS p)
    · rfl
    · exact absurd ((hasS_iff h h3 hp).1 hh) hm
   refine ⟨hm, fun W e => ?_⟩
   obtain ⟨v, ps, r1, e1⟩ := (hW W e).look_ok law_str ht (hz W) (zd := .held z) (zp := []) rfl hkey
   obtain ⟨v', ps', r2, e2⟩ := World.ownsMap.lookup (hW W e) law_str ht (hz W) (zd := .held z) (zp := []) rfl hkey
   unfold HV at e1 e2
   simp only [Option.some.injEq, Prod.mk.injEq] at e1 e2
   rw [Maps.atKey_of_not_has hf, DataW.held.injEq] at e1 e2
   rw [hf, e1.1] at r1
   rw [e2.1] at r2
   exact ⟨r1, r2⟩
theorem MapS.put (h : MapS w M ks E) (ht : Tryz.prog.underlying mt = some (.map 9 et)) (hp : okS p) (hl : ks.length < 1000000) (v : Value) :
  ∃ w', (Instr.mapUpdate mt (.map (some M)) (.string p) v).run Tryz.prog w = .ok () w' ∧ w.mapTurned w' M ∧
   ∀ ks' E', ks'.Nodup → (∀ q, q ∈ ks' ↔ q = p ∨ q ∈ ks) → (p ∈ ks → ks'.length = ks.length) → (p ∉ ks → ks'.length = ks.length + 1) → E' p v → (∀ q ∈ ks, q ≠ p → ∀ u, E q u → E' q u) → MapS w' M ks' E' := by
 obtain ⟨D, h1, h2, h3, h4⟩ := h.map
 have hkey := key_str28 p hp
 have hT := h1.tidy law_str
 obtain ⟨w', hrun, ho, hturn⟩ := h1.store law_str ht (by unfold maxLen; omega) hkey (val := v) (d := .held v) (ps := []) rfl
 refine ⟨w', hrun, hturn, fun ks' E' hnd hmem hl1 hl2 hE hE' => ⟨hnd, fun q hq => (hmem q).1 hq |>.elim (fun e => e ▸ hp) (h.ok q), D.put (kS p) (.held v), ?_, ?_, ?_, ?_⟩⟩
 · have e := Maps.size_put (k := kS p) hT (.held v)
   have ho' := own_tight ho
   refine ho'.mono ?_
   rw [e]
   by_cases hm : p ∈ ks
   · rw [if_pos ((hasS_iff h h3 hp).2 hm), h2, hl1 hm]; exact Nat.le_refl _
   · rw [if_neg (fun hh => hm ((hasS_iff h h3 hp).1 hh)), h2, hl2 hm]; exact Nat.le_refl _
 · rw [Maps.size_put hT]
   by_cases hm : p ∈ ks
   · rw [if_pos ((hasS_iff h h3 hp).2 hm), h2, hl1 hm]
   · rw [if_neg (fun hh => hm ((hasS_iff h h3 hp).1 hh)), h2, hl2 hm]
 · intro kl
   by_cases e : kl = kS p
   · subst e
     exact ⟨fun _ => ⟨p, (hmem p).2 (Or.inl rfl), rfl⟩, fun _ => Maps.has_put_same hT.isMap (kS_lit _) _⟩
   · rw [Maps.has_put_other e, h3]
     constructor
     · rintro ⟨q, hq, rfl⟩; exact ⟨q, (hmem q).2 (Or.inr hq), rfl⟩
     · rintro ⟨q, hq, rfl⟩
       rcases (hmem q).1 hq with rfl | hq
       · exact absurd rfl e
       · exact ⟨q, hq, rfl⟩
 · intro q hq
   by_cases e : q = p
   · subst e
     exact ⟨v, hE, fun z => Maps.atKey_put_same hT.isMap (kS_lit _) _ _⟩
   · have hq' := ((hmem q).1 hq).resolve_left e
     obtain ⟨u, h5, h6⟩ := h4 q hq'
     refine ⟨u, hE' q hq' e u h5, fun z => ?_⟩
     rw [Maps.atKey_put_other (fun h' => e (okS_inj (h.ok q hq') hp h'))]
     exact h6 z
theorem MapS.del (h : MapS w M ks E) (ht : Tryz.prog.underlying mt = some (.map 9 et)) (hp : okS p) (hm : p ∈ ks) (ty : TypeId) :
  ∃ w', (Builtin.delete_ #[mt, 9] ty #[.map (some M), .string p]).run Tryz.prog w = .ok (.tuple #[]) w' ∧ w.mapTurned w' M ∧
   ∀ ks' E', ks'.Nodup → (∀ q, q ∈ ks' ↔ q ∈ ks ∧ q ≠ p) → ks'.length + 1 = ks.length → (∀ q ∈ ks, q ≠ p → ∀ u, E q u → E' q u) → MapS w' M ks' E' := by
 obtain ⟨D, h1, h2, h3, h4⟩ := h.map
 have hkey := key_str28 p hp
 have hT := h1.tidy law_str
 obtain ⟨w', hrun, ho, hturn⟩ := h1.drop law_str ht hkey ty
 have e := Maps.size_del (k := kS p) hT
 rw [if_pos ((hasS_iff h h3 hp).2 hm), h2] at e
 refine ⟨w', hrun, hturn, fun ks' E' hnd hmem hl hE => ⟨hnd, fun q hq => h.ok q ((hmem q).1 hq).1, D.del (kS p), ?_, ?_, ?_, ?_⟩⟩
 · exact (own_tight ho).mono (by omega)
 · omega
 · intro kl
   by_cases e : kl = kS p
   · subst e
     rw [Maps.has_del_same]
     refine ⟨fun h => (by cases h), fun ⟨q, hq, e⟩ => ?_⟩
     have h5 := (hmem q).1 hq
     exact absurd (okS_inj hp (h.ok q h5.1) e).symm h5.2
   · rw [Maps.has_del_other e, h3]
     constructor
     · rintro ⟨q, hq, rfl⟩; exact ⟨q, (hmem q).2 ⟨hq, fun e' => e (by rw [e'])⟩, rfl⟩
     · rintro ⟨q, hq, rfl⟩; exact ⟨q, ((hmem q).1 hq).1, rfl⟩
 · intro q hq
   have h5 := (hmem q).1 hq
   obtain ⟨u, h6, h7⟩ := h4 q h5.1
   refine ⟨u, hE q h5.1 h5.2 u h6, fun z => ?_⟩
   rw [Maps.atKey_del_other (fun h' => h5.2 (okS_inj (h.ok q h5.1) hp h'))]
   exact h7 z
def MapJ (w : World) (M r : Nat) (ks : List ByteArray) (E : ByteArray → Value → Prop) (lf : List ByteArray) : Prop :=
 ∃ D left cnt, w.ranges Tryz.prog 9 HV M r ks.length D left cnt ∧ (∀ kl, Maps.has D kl = true ↔ ∃ p ∈ ks, kl = kS p) ∧ (∀ p ∈ ks, ∃ v, E p v ∧ ∀ z, D.atKey (kS p) z = .held v) ∧ (∀ p ∈ ks, okS p) ∧
  (∀ kl, left kl = true → Maps.has D kl = true) ∧ (∀ q ∈ ks, left (kS q) = true ↔ q ∈ lf) ∧ lf.Nodup ∧ ∀ q ∈ lf, q ∈ ks
theorem MapS.range (h : MapS w M ks E) (ht : Tryz.prog.underlying mt = some (.map 9 et)) :
  ∃ w', (Instr.range mt (.map (some M))).run Tryz.prog w = .ok (.pointer (some ⟨w.heap.size, 0, none⟩)) w' ∧ MapJ w' M w.heap.size ks E ks ∧ w.grownBy w' none ∧ w'.heap.size = w.heap.size + 1 := by
 obtain ⟨D, h1, h2, h3, h4⟩ := h.map
 obtain ⟨w', hr, hg, hgr, hs⟩ := World.ownsMap.range h1 law_str ht
 exact ⟨w', hr, ⟨D, _, _, hg, h3, h4, h.ok, fun _ h => h, fun q hq => ⟨fun _ => hq, fun _ => (h3 _).2 ⟨q, hq, rfl⟩⟩, h.nd, fun _ h => h⟩, hgr, hs⟩
theorem MapJ.kept {r : Nat} {lf : List ByteArray} {S : List Nat} (h : MapJ w M r ks E lf) (k : Chg S w w') (hM : M ∉ S) (hr : r ∉ S) (hE : ∀ q ∈ ks, ∀ v, E q v → E' q v) : MapJ w' M r ks E' lf := by
 obtain ⟨D, left, cnt, hg, h3, h4, rest⟩ := h
 have hlM := hg.owns.lt
 have hlr := hg.lt
 obtain ⟨es, clock, since, seen, c0, hb, F, hs, hD, hr', rest'⟩ := hg
 exact ⟨D, left, cnt, ⟨es, clock, since, seen, c0, (k.block M hlM hM).trans hb, F, hs, hD, (k.block r hlr hr).trans hr', rest'⟩, h3, fun q hq => by obtain ⟨v, h5, h6⟩ := h4 q hq; exact ⟨v, hE q hq v h5, h6⟩, rest⟩
theorem MapJ.lt {r : Nat} {lf : List ByteArray} (h : MapJ w M r ks E lf) : M < w.heap.size ∧ r < w.heap.size ∧ r ≠ M := by
 obtain ⟨D, left, cnt, hg, _⟩ := h
 exact ⟨hg.owns.lt, hg.lt, hg.ne⟩
theorem MapJ.map {r : Nat} {lf : List ByteArray} (h : MapJ w M r ks E lf) (hnd : ks.Nodup) (hsz : ∀ D, w.ownsMap Tryz.prog 9 HV M ks.length D → Maps.size D = ks.length) : MapS w M ks E := by
 obtain ⟨D, left, cnt, hg, h3, h4, h5, _⟩ := h
 exact ⟨hnd, h5, D, hg.owns, hsz D hg.owns, h3, h4⟩
theorem MapJ.next {r : Nat} {lf : List ByteArray} (h : MapJ w M r ks E lf) (ty : TypeId) :
  (lf = [] ∧ (Instr.next (.pointer (some ⟨r, 0, none⟩)) false ty).run Tryz.prog w = .ok (.tuple #[.bool false]) w) ∨
  ∃ p v w' lf', p ∈ lf ∧ p ∈ ks ∧ okS p ∧ E p v ∧ (Instr.next (.pointer (some ⟨r, 0, none⟩)) false ty).run Tryz.prog w = .ok (.tuple #[.bool true, .string p, v]) w' ∧ MapJ w' M r ks E lf' ∧ (∀ q, q ∈ lf' ↔ q ∈ lf ∧ q ≠ p) ∧ lf'.length + 1 = lf.length ∧
   w'.rangeLeft M r < w.rangeLeft M r ∧ Chg [r] w w' ∧ w'.heap.size = w.heap.size ∧ (Instr.entry (.pointer (some ⟨r, 0, none⟩))).run Tryz.prog w' = .ok (.tuple #[.string p, v]) w' := by
 obtain ⟨D, left, cnt, hg, h3, h4, h5, h6, h7, h8, h9⟩ := h
 rcases hg.next law_str ty with ⟨_, hl, hrun⟩ | ⟨key, v, kl, y, w', cnt', hkey, hlk, hv, hat, hrun, hrg, hlt, hgr, hsz, hen⟩
 · left
   refine ⟨List.eq_nil_iff_forall_not_mem.2 fun q hq => ?_, hrun⟩
   have := (h7 q (h9 q hq)).2 hq
   rw [hl] at this; cases this
 · right
   obtain ⟨p, hp, rfl⟩ := (h3 kl).1 (h6 kl hlk)
   have hok := h5 p hp
   obtain rfl : key = .string p := law_str.inj hkey (key_str28 _ hok)
   obtain ⟨u, hu, ha⟩ := h4 p hp
   have e1 := hat (.held v)
   unfold HV at hv
   simp only [Option.some.injEq] at hv
   rw [ha, ← hv, DataW.held.injEq] at e1
   subst e1
   have hpl := (h7 p hp).1 hlk
   have hmem : ∀ q, q ∈ lf.erase p ↔ q ∈ lf ∧ q ≠ p := fun q => by rw [h8.mem_erase_iff, and_comm]
   refine ⟨p, u, w', lf.erase p, hpl, hp, hok, hu, hrun, ⟨D, _, cnt', hrg, h3, h4, h5, fun kl hkl => ?_, fun q hq => ?_, h8.erase p, fun q hq => h9 q ((hmem q).1 hq).1⟩, hmem, by have := List.length_erase_of_mem hpl; have := List.length_pos_of_mem hpl; omega, by rw [hrg.left_eq, hg.left_eq]; exact hlt, Chg.of_grown hgr (by simp), hsz, hen⟩
   · simp only [Bool.and_eq_true] at hkl
     exact h6 kl hkl.1
   · simp only [Bool.and_eq_true, Bool.not_eq_true']
     rw [h7 q hq, hmem]
     constructor
     · rintro ⟨h1, h2⟩
       refine ⟨h1, fun e => ?_⟩
       rw [e, kS_self] at h2; cases h2
     · rintro ⟨h1, h2⟩
       exact ⟨h1, Maps.sameKey_ne (fun e => h2 (okS_inj (h5 q hq) hok e))⟩
end Go.Proofs.YtceoficoappkpaaGreatDoor
namespace Go.Proofs.YtceoficoappkpaaGreatDoor
open Go.RowKit
def bsO (l : List UInt8) : ByteArray := ⟨l.toArray⟩
theorem bsO_size (l : List UInt8) : (bsO l).size = l.length := by show l.toArray.size = _; simp
def hexD (n : Nat) : UInt8 := if n ≤ 9 then UInt8.ofNat (48 + n) else UInt8.ofNat (87 + n)
def hexN : Nat → Nat → List UInt8
 | 0, _ => []
 | k + 1, v => hexN k (v / 16) ++ [hexD (v % 16)]
def unD (c : UInt8) : Option Nat := if 48 ≤ c.toNat ∧ c.toNat ≤ 57 then some (c.toNat - 48) else if 97 ≤ c.toNat ∧ c.toNat ≤ 102 then some (c.toNat - 87) else none
def unxA : Nat → List UInt8 → Option Nat
 | a, [] => some a
 | a, c :: r => match unD c with
  | some d => unxA (a * 16 + d) r
  | none => none
theorem hexD_toNat {n : Nat} (h : n < 16) : (hexD n).toNat = if n ≤ 9 then 48 + n else 87 + n := by
 unfold hexD
 split <;> (simp only [UInt8.toNat_ofNat']; omega)
theorem unD_some {c : UInt8} {d : Nat} (h : unD c = some d) : d < 16 ∧ hexD d = c := by
 unfold unD at h
 have hc := c.toNat_lt
 split at h
 · injection h with h
   refine ⟨by omega, ?_⟩
   apply UInt8.toNat_inj.1
   rw [hexD_toNat (by omega), if_pos (by omega)]
   omega
 · split at h
   · injection h with h
     refine ⟨by omega, ?_⟩
     apply UInt8.toNat_inj.1
     rw [hexD_toNat (by omega), if_neg (by omega)]
     omega
   · cases h
theorem hexD_ne (n : Nat) (h : n < 16) : (48 ≤ (hexD n).toNat ∧ (hexD n).toNat ≤ 57) ∨ (97 ≤ (hexD n).toNat ∧ (hexD n).toNat ≤ 102) := by
 rw [hexD_toNat h]; split <;> omega
theorem hexN_mem : ∀ (k v : Nat), ∀ c ∈ hexN k v, (48 ≤ c.toNat ∧ c.toNat ≤ 57) ∨ (97 ≤ c.toNat ∧ c.toNat ≤ 102)
 | 0, _, c, h => by cases h
 | k + 1, v, c, h => by
  rcases List.mem_append.1 h with h | h
  · exact hexN_mem k _ c h
  · simp only [List.mem_singleton] at h
    subst h
    exact hexD_ne _ (by omega)
def runeC (c : UInt8) : Value := .int .i32 c.toNat
theorem info_i32 : (Tryz.prog.info? 21).map (fun i => (i.zero, i.size, i.bytes)) = some (some (.int .i32 0), 1, 4) := by kernel_rfl
theorem and15 (x : Int) (h0 : 0 ≤ x) (h1 : x ≤ 18446744073709551615) : bits .and .u64 x 15 = x % 16 := by
 rw [u64_and x 15 h0 (by omega) (by decide) (by decide)]
 have : x.toNat &&& (15 : Int).toNat = x.toNat % 16 := Nat.and_two_pow_sub_one_eq_mod x.toNat 4
 rw [this]
 omega
theorem nib_eq (v : Int) (h0 : 0 ≤ v) (m : Nat) : v / 2 ^ (4 * m) = ((v.toNat / 16 ^ m : Nat) : Int) := by
 obtain ⟨u, rfl⟩ := Int.eq_ofNat_of_zero_le h0
 have e : (2 : Nat) ^ (4 * m) = 16 ^ m := Nat.pow_mul 2 4 m
 have e2 : (2 : Int) ^ (4 * m) = ((2 ^ (4 * m) : Nat) : Int) := by push_cast; rfl
 rw [Int.toNat_natCast, e2, e]
 rfl
theorem utf8_ascii (c : UInt8) (h : c.toNat < 128) : Utf8.encode (c.toNat : Int) = ⟨#[c]⟩ := by
 have hv : Utf8.valid (c.toNat : Int) = true := by
  unfold Utf8.valid
  simp
  omega
 unfold Utf8.encode
 simp [hv, h]
theorem runes_bytes : ∀ (l : List UInt8) (a : ByteArray), (∀ c ∈ l, c.toNat < 128) → (l.map fun c => (c.toNat : Int)).foldl (fun r n => r ++ Utf8.encode n) a = a ++ bsO l
 | [], a, _ => by
  show a = a ++ ByteArray.empty
  rw [ByteArray.append_empty]
 | c :: l, a, h => by
  rw [List.map_cons, List.foldl_cons, runes_bytes l _ (fun x hx => h x (by simp [hx])), utf8_ascii c (h c (by simp)), ByteArray.append_assoc]
  rfl
set_option maxRecDepth 100000 in
/-- 'string(r)' of a row of runes of the call's own, each of one byte. -/
theorem conv_runes {w : World} {base n : Nat} {v : Value} (l : List UInt8) (hl : ∀ c ∈ l, c.toNat < 128) (h : w.ownsRow base 21 1 v n (l.map runeC)) :
  (convert 319 9 v).run Tryz.prog w = .ok (.string (bsO l)) w := by
 have hlen : n = l.length := by have := h.1; simpa using this.symm
 rcases h.2 with ⟨rfl, h0⟩ | ⟨g, cap, cur, rfl, _⟩
 · have : l = [] := List.eq_nil_of_length_eq_zero (by omega)
   subst this
   exact run_convert_runes_nil w 319 9 21 0 0 Tryz.underlying319 Tryz.underlying21 Tryz.underlying9
 · have hc := h.cells (g := g) rfl
   have e := run_convert_runes (P := Tryz.prog) w 319 9 21 ⟨g, 0, none⟩ n cap (l.map fun c => (c.toNat : Int)) (by simp [hlen]) Tryz.underlying319 Tryz.underlying21 Tryz.underlying9 (fun j hj => by
    rw [List.length_map] at hj
    refine hc j _ ?_
    rw [List.getElem?_map, List.getElem?_eq_getElem hj, List.getD_eq_getElem?_getD, List.getElem?_map, List.getElem?_eq_getElem hj]
    rfl)
   rw [e, List.take_of_length_le (by simp [hlen])]
   unfold runesBytes
   rw [runes_bytes l _ hl]
   rw [ByteArray.empty_append]
theorem hexN_step {n j V : Nat} (hj : j < n) : hexN (j + 1) (V / 16 ^ (n - (j + 1))) = hexN j (V / 16 ^ (n - j)) ++ [hexD (V / 16 ^ (n - 1 - j) % 16)] := by
 have e1 : n - (j + 1) = n - 1 - j := by omega
 have e2 : n - j = (n - 1 - j) + 1 := by omega
 rw [hexN, e1, e2, Nat.pow_succ, ← Nat.div_div_eq_div_mul]
theorem runeC_hexD {x : Nat} (h : x < 16) : runeC (hexD x) = .int .i32 (if x ≤ 9 then 48 + (x : Int) else 87 + x) := by
 unfold runeC
 rw [hexD_toNat h]
 split <;> simp
theorem hexN_ascii (k v : Nat) : ∀ c ∈ hexN k v, c.toNat < 128 := fun c h => by have := hexN_mem k v c h; omega
set_option maxRecDepth 100000 in
set_option maxHeartbeats 800000 in
theorem hex_gen (n : Nat) (hn : 1 ≤ n) (hn16 : n ≤ 16) (v : Int) (h0 : 0 ≤ v) (h1 : v ≤ 18446744073709551615) (hfit : ∀ W, Calls Tryz.prog 207 #[.int .u64 v, .int .i64 n, .int .i64 4] W fun r w' => r = .returned (.bool true) ∧ w' = W) (w0 : World) :
  Calls Tryz.prog 202 #[.int .u64 v, .int .i64 n] w0 fun r w' => r = .returned (.tuple #[.string (bsO (hexN n v.toNat)), .int .i64 0]) ∧ Below w0.heap.size w0 w' := by
 obtain ⟨i0, hi0, hz0, hz1, hz2⟩ := info_parts info_i32
 have HF := hd_ hfit
 clear hfit
 go_enter Tryz.func202, Tryz.ntmps202
 go_wp2_with fail
 refine (HF.out w0).mono ?_
 rintro r w ⟨rfl, rfl⟩
 go_wp2_with fail
 go_loopw [6, 7] (fun b k wr => ∃ (j : Nat), j ≤ n ∧ k = .int .i64 ((n : Int) - 1 - j) ∧ wr.ownsRow w.heap.size 21 1 b j ((hexN j (v.toNat / 16 ^ (n - j))).map runeC) ∧ Below w.heap.size w wr) (fun _ k _ => (intOf k + 1).toNat)
 case atStart => exact ⟨0, by omega, by go_num, ⟨by simp [hexN], .inl ⟨rfl, rfl⟩⟩, Below.refl _ _⟩
 case round =>
  obtain ⟨j, hj, rfl, hown, hbw⟩ := hrel
  by_cases hlt : j < n
  · have hk : (0 : Int) ≤ (n : Int) - 1 - j := by omega
    have hstep := hexN_step (V := v.toNat) hlt
    obtain ⟨x, hx⟩ : ∃ x, x = v.toNat / 16 ^ (n - 1 - j) % 16 := ⟨_, rfl⟩
    have hx16 : x < 16 := by omega
    rw [← hx] at hstep
    have hb : wrap32 (bits BinOp.and IntKind.u64 (v / 2 ^ (4 * (n - 1 - j))) 15) = x := by
     have hq : v.toNat / 16 ^ (n - 1 - j) ≤ v.toNat := Nat.div_le_self _ _
     rw [nib_eq v h0]
     generalize v.toNat / 16 ^ (n - 1 - j) = q at hq hx
     rw [and15 _ (by omega) (by omega)]
     have : (q : Int) % 16 = (x : Int) := by omega
     rw [this]
     exact IntWalk.wrap32_in _ (by omega)
    have HST := hd_ hstep
    clear hstep hx
    go_upto_region 10 with fail
    rw [hb]
    clear hb
    have hr := runeC_hexD hx16
    by_cases h9 : x ≤ 9
    · rw [if_pos h9] at hr
      have h9' : (x : Int) ≤ 9 := by omega
      have HRC := hd_ hr
      clear hr
      go_wp2_with (at_builtin; refine wpList_append_own _ rfl _ _ 319 rfl w.heap.size 21 i0 (.int .i32 0) 1 4 Tryz.underlying319 hi0 hz0 hz1 hz2 rfl (by decide) _ j ((hexN j (v.toNat / 16 ^ (n - j))).map runeC) rfl (hown.alloc _) ⟨wr.heap.size, 0, none⟩ 1 1 [.int .i32 (48 + (x : Int))] rfl rfl ?c1 ?c2 ?c3 ?c4 ?c5 ?_)
      case c1 => exact cell_one_new _ _ _
      case c2 => simp [Value.oneCell']
      case c3 => simp only [maxLen]; omega
      case c4 => omega
      case c5 => have := hbw.size; simp; omega
      intro v' w1 hown1 hg1 _
      have hown2 : w1.ownsRow w.heap.size 21 1 v' (j + 1) ((hexN (j + 1) (v.toNat / 16 ^ (n - (j + 1)))).map runeC) := by
       rw [HST.out, List.map_append, List.map_singleton, HRC.out]; exact hown1
      have hbw1 : Below w.heap.size w w1 := (hbw.alloc hbw.size _).grown hg1 (by have := hbw.size; simp; omega) (own_ge hown)
      clear hown1 hg1 hbw hown
      go_wp2_with fail
      go_roundw
      case rel => exact ⟨j + 1, by omega, by go_num, hown2, hbw1⟩
      case measure => simp [intOf]; omega
    · rw [if_neg h9] at hr
      have h9' : ¬ (x : Int) ≤ 9 := by omega
      have HRC := hd_ hr
      clear hr
      have e1 : (48 : Int) + (x + 39) = 87 + x := by omega
      have HE1 := hd_ e1
      clear e1
      go_wp2_with (at_builtin; refine wpList_append_own _ rfl _ _ 319 rfl w.heap.size 21 i0 (.int .i32 0) 1 4 Tryz.underlying319 hi0 hz0 hz1 hz2 rfl (by decide) _ j ((hexN j (v.toNat / 16 ^ (n - j))).map runeC) rfl (hown.alloc _) ⟨wr.heap.size, 0, none⟩ 1 1 [.int .i32 (48 + ((x : Int) + 39))] rfl rfl ?d1 ?d2 ?d3 ?d4 ?d5 ?_)
      case d2 => simp [Value.oneCell']
      case d3 => simp only [maxLen]; omega
      case d4 => omega
      case d5 => have := hbw.size; simp; omega
      intro v' w1 hown1 hg1 _
      have hown2 : w1.ownsRow w.heap.size 21 1 v' (j + 1) ((hexN (j + 1) (v.toNat / 16 ^ (n - (j + 1)))).map runeC) := by
       rw [HST.out, List.map_append, List.map_singleton, HRC.out, ← HE1.out]; exact hown1
      have hbw1 : Below w.heap.size w w1 := (hbw.alloc hbw.size _).grown hg1 (by have := hbw.size; simp; omega) (own_ge hown)
      clear hown1 hg1 hbw hown
      go_wp2_with fail
      go_roundw
      case rel => exact ⟨j + 1, by omega, by go_num, hown2, hbw1⟩
      case measure => simp [intOf]; omega
  · have hjn : j = n := by omega
    subst hjn
    have hcv := conv_runes _ (hexN_ascii _ _) hown
    rw [Nat.sub_self, Nat.pow_zero, Nat.div_one] at hcv
    clear hown
    go_wp2_with fail
    go_ret2
    exact ⟨rfl, hbw⟩
def unxR (l : List UInt8) : Option Nat := if 1 ≤ l.length ∧ l.length ≤ 16 then unxA 0 l else none
def unxV (l : List UInt8) : Value := match unxR l with
 | some u => .tuple #[.int .u64 u, .int .i64 0]
 | none => .tuple #[.int .u64 0, .int .i64 2]
theorem unxA_lt : ∀ (l : List UInt8) (a v : Nat), unxA a l = some v → v < (a + 1) * 16 ^ l.length
 | [], a, v, h => by simp only [unxA, Option.some.injEq] at h; subst h; simp
 | c :: r, a, v, h => by
  simp only [unxA] at h
  split at h
  · next d hd =>
    have h1 := unxA_lt r _ v h
    have h2 := (unD_some hd).1
    rw [List.length_cons, Nat.pow_succ, Nat.mul_comm (16 ^ r.length), ← Nat.mul_assoc]
    exact Nat.lt_of_lt_of_le h1 (Nat.mul_le_mul_right _ (by omega))
  · cases h
theorem unxA_take_lt {l : List UInt8} {k a : Nat} (h : unxA 0 (l.take k) = some a) (hk : k ≤ 15) : a ≤ 1152921504606846975 := by
 have h1 := unxA_lt _ _ _ h
 have h2 : (l.take k).length ≤ 15 := by simp; omega
 have h3 : 16 ^ (l.take k).length ≤ 16 ^ 15 := Nat.pow_le_pow_right (by decide) h2
 have h4 : (16 : Nat) ^ 15 = 1152921504606846976 := by decide
 omega
theorem unxA_app : ∀ (l m : List UInt8) (a : Nat), unxA a (l ++ m) = (unxA a l).bind fun b => unxA b m
 | [], m, a => rfl
 | c :: l, m, a => by
  simp only [List.cons_append, unxA]
  split
  · exact unxA_app l m _
  · rfl
theorem shl4 (a : Nat) (ha : a ≤ 1152921504606846975) : IntKind.u64.wrap ((a : Int) * 16) = (a : Int) * 16 := IntWalk.u64_in _ (by omega)
theorem or4 (a d : Nat) (ha : a ≤ 1152921504606846975) (hd : d < 16) : bits .or .u64 ((a : Int) * 16) (d : Int) = ((a * 16 + d : Nat) : Int) := by
 rw [u64_or _ _ (by omega) (by omega) (by omega) (by omega)]
 have e1 : ((a : Int) * 16).toNat = a * 16 := by omega
 have e2 : ((d : Nat) : Int).toNat = d := by omega
 rw [e1, e2, nat_join 4 (a * 16) d (by omega) (by omega)]
set_option maxRecDepth 100000 in
set_option maxHeartbeats 1600000 in
theorem unhex_any (s : ByteArray) (w : World) :
  Calls Tryz.prog 193 #[.string s] w fun r w' => r = .returned (unxV s.data.toList) ∧ Below w.heap.size w w' := by
 have hlen : s.data.toList.length = s.size := by simp
 have HLEN := hd_ hlen
 clear hlen
 generalize hR : unxV s.data.toList = R
 have HR := hd_ hR
 clear hR
 by_cases h1 : s.size < 1
 · have h1' : (s.size : Int) < 1 := by omega
   go_enter Tryz.func193, Tryz.ntmps193
   go_wp2_with fail
   go_ret2
   exact ⟨by rw [← HR.out]; unfold unxV unxR; rw [HLEN.out, if_neg (by omega)]; rfl, Below.refl _ _⟩
 · by_cases h2 : 16 < s.size
   · have h1' : ¬ (s.size : Int) < 1 := by omega
     have h2' : (16 : Int) < s.size := by omega
     go_enter Tryz.func193, Tryz.ntmps193
     go_wp2_with fail
     go_ret2
     exact ⟨by rw [← HR.out]; unfold unxV unxR; rw [HLEN.out, if_neg (by omega)]; rfl, Below.refl _ _⟩
   · have h1' : ¬ (s.size : Int) < 1 := by omega
     have h2' : ¬ (16 : Int) < s.size := by omega
     have hcv := Lib.run_convert_string_bytes (P := Tryz.prog) w 9 128 5 s Tryz.underlying9 Tryz.underlying128 Tryz.underlying5
     have hcell := Lib.bytesWorld_cell w 5 s
     have hbl := below_bytes w 5 s
     have hsz := Lib.bytesWorld_size w 5 s
     generalize Lib.bytesWorld w 5 s = W at hcv hcell hbl hsz
     have HBL := hd_ hbl
     have HCELL := hd_ hcell
     have HSZ := hd_ hsz
     clear hcell hsz hbl
     go_enter Tryz.func193, Tryz.ntmps193
     go_wp2_with fail
     clear hcv
     go_loop [2, 17] (fun u k => ∃ (j a : Nat), j ≤ s.size ∧ k = .int .i64 j ∧ u = .int .u64 a ∧ Hid (unxA 0 (s.data.toList.take j) = some a)) (fun _ k => s.size - (intOf k).toNat)
     case atStart => exact ⟨0, 0, by omega, rfl, rfl, (rfl : _ = _)⟩
     case round =>
      obtain ⟨j, a, hj, rfl, rfl, HU⟩ := hrel
      by_cases hlt : j < s.size
      · obtain ⟨c, hc⟩ : ∃ c, c = s.data.toList[j]'(by rw [HLEN.out]; exact hlt) := ⟨_, rfl⟩
        have hsp : s.data.toList = s.data.toList.take j ++ c :: s.data.toList.drop (j + 1) := by
         rw [hc, List.getElem_cons_drop, List.take_append_drop]
        have htk : s.data.toList.take (j + 1) = s.data.toList.take j ++ [c] := by rw [List.take_succ_eq_append_getElem (by rw [HLEN.out]; exact hlt), ← hc]
        have c0 := HCELL.out j hlt
        have hgd : s.data.toList.getD j 0 = c := by rw [List.getD_eq_getElem?_getD, List.getElem?_eq_getElem (by rw [HLEN.out]; exact hlt), ← hc]; rfl
        rw [hgd] at c0
        have c1 : W.cell? ⟨w.heap.size, 0 + j, none⟩ = some (.int .u8 c.toNat) := by rw [Nat.zero_add]; exact c0
        have ha := unxA_take_lt HU.out (by omega)
        have HSP := hd_ hsp
        have HTK := hd_ htk
        have hltI : (j : Int) < s.size := by omega
        have hc8 := c.toNat_lt
        clear hsp htk hc hgd
        cases hu : unD c with
        | none =>
         have HM : Hid (unxA 0 s.data.toList = none) := by
          show _ = _
          rw [HSP.out, unxA_app, HU.out]
          simp [unxA, hu]
         unfold unD at hu
         split at hu
         · cases hu
         · next k1 =>
           split at hu
           · cases hu
           · next k2 =>
             clear hu
             generalize c.toNat = n at *
             by_cases a48 : (n : Int) < 48
             · have a97 : (n : Int) < 97 := by omega
               clear k1 k2
               go_wp2_with fail
               go_ret2
               exact ⟨by rw [← HR.out]; unfold unxV unxR; rw [HLEN.out, if_pos (by omega), HM.out]; rfl, HBL.out⟩
             · have a57 : (57 : Int) < n := by omega
               by_cases a97 : (n : Int) < 97
               · clear k1 k2
                 go_wp2_with fail
                 go_ret2
                 exact ⟨by rw [← HR.out]; unfold unxV unxR; rw [HLEN.out, if_pos (by omega), HM.out]; rfl, HBL.out⟩
               · have a102 : (102 : Int) < n := by omega
                 clear k1 k2
                 go_wp2_with fail
                 go_ret2
                 exact ⟨by rw [← HR.out]; unfold unxV unxR; rw [HLEN.out, if_pos (by omega), HM.out]; rfl, HBL.out⟩
        | some d =>
         have hd := (unD_some hu).1
         have HM : Hid (unxA 0 (s.data.toList.take (j + 1)) = some (a * 16 + d)) := by
          show _ = _
          rw [HTK.out, unxA_app, HU.out]
          simp [unxA, hu]
         have ho := or4 a d ha hd
         have hs4 := shl4 a ha
         unfold unD at hu
         split at hu
         · next k1 =>
           injection hu with hu
           have e : (c.toNat : Int) - 48 = d := by omega
           clear hu
           generalize c.toNat = n at *
           have a48 : (48 : Int) ≤ n := by omega
           have a57 : (n : Int) ≤ 57 := by omega
           clear k1
           go_wp2_with fail
           go_round
           case rel => exact ⟨j + 1, a * 16 + d, by omega, by go_num, by go_num, HM⟩
           case measure => simp [intOf]; omega
         · next k1 =>
           split at hu
           · next k2 =>
             injection hu with hu
             have e : (c.toNat : Int) - 97 + 10 = d := by omega
             clear hu
             generalize c.toNat = n at *
             have a57 : (57 : Int) < n := by omega
             have a97 : (97 : Int) ≤ n := by omega
             have a102 : (n : Int) ≤ 102 := by omega
             clear k1 k2
             go_wp2_with fail
             go_round
             case rel => exact ⟨j + 1, a * 16 + d, by omega, by go_num, by go_num, HM⟩
             case measure => simp [intOf]; omega
           · cases hu
      · have hjn : j = s.size := by omega
        subst hjn
        have hu := HU.out
        rw [List.take_of_length_le (by rw [HLEN.out]; exact Nat.le_refl _)] at hu
        have HU := hd_ hu
        clear hu
        go_wp2_with fail
        go_ret2
        exact ⟨by rw [← HR.out]; unfold unxV unxR; rw [HLEN.out, if_pos (by omega), HU.out]; rfl, HBL.out⟩
theorem own_ext {w w' : World} {base n size : Nat} {e : TypeId} {v : Value} {xs : List Value} (h : w.ownsRow base e size v n xs) (hb : Below w.heap.size w w') : w'.ownsRow base e size v n xs := own_low h hb (fun g hg => (h.lt g hg).2)
end Go.Proofs.YtceoficoappkpaaGreatDoor
