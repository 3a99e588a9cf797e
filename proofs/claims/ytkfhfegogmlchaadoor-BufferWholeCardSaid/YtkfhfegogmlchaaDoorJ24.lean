/- Several texts in one: see each part's head. -/
import Derived.Test.YtkfhfegogmlchaaDoorJ21
import Derived.Test.YtkfhfegogmlchaaDoorJ23
/- The buffer, in general: an event comes. -/
namespace Go.Proofs.YtkfhfegogmlchaaDoor
open Go.RowKit

theorem mapD_miss (k : Int) (z : DataW Value) : ∀ ev : List (Int × Value), k ∉ ev.map (·.1) → (mapD ev).atKey (.int .i64 k) z = z := snoc_ind (fun _ => rfl) (fun l x h hn => by
  rw [List.map_append, List.mem_append, not_or] at hn
  rw [mapD_snoc, Maps.atKey_put_other (by simpa using fun e : k = x.1 => hn.2 (by simp [e]))]
  exact h hn.1)
theorem MapL.miss {w : World} {M : Nat} {ev : List (Int × Value)} (h : MapL w M ev) {k : Int} (hk : k ∉ ev.map (·.1)) (hb : -9223372036854775808 ≤ k ∧ k ≤ 9223372036854775807) :
    (Instr.lookup 92 (.map (some M)) (.int .i64 k) true).run Tryd.prog w = .ok (.tuple #[ZE, .bool false]) w := by
  obtain ⟨es, clock, hh, F, hs, hD⟩ := h.1
  rcases Maps.fit_look true (Maps.int_keyed Tryd.underlying3) Tryd.underlying92 (zero_ev w) hh F (keyI k hb) with ⟨hrun, _, _⟩ | ⟨e0, y, _, _, _, _, hat, _⟩
  · simpa using hrun
  · rw [← hD] at hat
    have h1 := hat (.held (.bool true))
    have h2 := hat (.held (.bool false))
    rw [mapD_miss k _ ev hk] at h1 h2
    rw [← h1] at h2
    cases h2
theorem MapL.put {w : World} {M : Nat} {ev : List (Int × Value)} (h : MapL w M ev) {k : Int} (hk : k ∉ ev.map (·.1)) (hb : -9223372036854775808 ≤ k ∧ k ≤ 9223372036854775807) (hl : ev.length ≤ 100000) (v : Value) :
    ∃ w', (Instr.mapUpdate 92 (.map (some M)) (.int .i64 k) v).run Tryd.prog w = .ok () w' ∧ MapL w' M (ev ++ [(k, v)]) ∧ w.grownBy w' (some M) := by
  obtain ⟨w', h1, h2, h3⟩ := World.ownsMap.update h.1 (Maps.int_keyed Tryd.underlying3) Tryd.underlying92 (by unfold maxLen; omega) (keyI k hb) (show RV v = some (.held v, []) from rfl)
  refine ⟨w', h1, ⟨?_, ?_⟩, h3⟩
  · rw [mapD_snoc]
    simpa using h2
  · rw [List.map_append, List.nodup_append]
    exact ⟨h.2, by simp, fun a ha b hb => by
      obtain rfl : b = k := by simpa using hb
      exact fun e => hk (e ▸ ha)⟩
theorem Dis.congr {l1 l2 : List Tb} {t t' : Tb} (h : Dis (l1 ++ t :: l2)) (hX : t'.X = t.X) (hM : t'.M = t.M) (hI : t'.ints = t.ints) : Dis (l1 ++ t' :: l2) := by
  obtain ⟨d1, d2, d3⟩ := h
  refine ⟨?_, ?_, ?_⟩
  · simpa [hX] using d1
  · simpa [hM] using d2
  · simpa [hI] using d3
theorem Dis.other {l1 l2 : List Tb} {t u : Tb} (h : Dis (l1 ++ t :: l2)) (hu : u ∈ l1 ++ l2) : u.X ≠ t.X ∧ u.M ≠ t.M ∧ ∀ b ∈ u.ints, b ∉ t.ints := by
  obtain ⟨d1, d2, d3⟩ := h
  rw [List.map_append, List.map_cons, List.nodup_append, List.nodup_cons] at d1 d2
  rw [List.flatMap_append, List.flatMap_cons, List.nodup_append, List.nodup_append] at d3
  rcases List.mem_append.1 hu with hu | hu
  · exact ⟨d1.2.2 _ (List.mem_map.2 ⟨u, hu, rfl⟩) _ (by simp), d2.2.2 _ (List.mem_map.2 ⟨u, hu, rfl⟩) _ (by simp), fun b hb hb' => d3.2.2 b (List.mem_flatMap.2 ⟨u, hu, hb⟩) b (by simp [hb']) rfl⟩
  · exact ⟨fun e => d1.2.1.1 (e ▸ List.mem_map.2 ⟨u, hu, rfl⟩), fun e => d2.2.1.1 (e ▸ List.mem_map.2 ⟨u, hu, rfl⟩), fun b hb hb' => d3.2.1.2.2 b hb' b (List.mem_flatMap.2 ⟨u, hu, hb⟩) rfl⟩
/-- Block g is of no such type. -/
def NoT (w : World) (g : Nat) (t : TypeId) : Prop := ∀ cs T f, w.heap[g]? = some (.cells cs T f) → T ≠ t
theorem NoT.blk {w : World} {g : Nat} {cs : Array Value} {t u : TypeId} (h : Blk w g cs t) (hne : t ≠ u) : NoT w g u := fun cs' T f hc => by
  unfold Blk at h
  rw [h] at hc
  simp only [Option.some.injEq, Obj.cells.injEq] at hc
  rw [← hc.2.1]
  exact hne
theorem NoT.map {w : World} {M : Nat} {ev : List (Int × Value)} (h : MapL w M ev) (t : TypeId) : NoT w M t := fun cs T f hc => by
  obtain ⟨es, clock, hb, _⟩ := h.1
  rw [hb] at hc
  cases hc
theorem blk_keep {w w' : World} {g b : Nat} {cs : Array Value} {t : TypeId} (h : Blk w b cs t) (hg : w.grownBy w' (some g)) (ho : NoT w g t) : Blk w' b cs t :=
  (hg.block b h.lt (fun e => by obtain rfl := Option.some.inj e; exact ho _ _ _ h rfl)).trans h
theorem own_keep {w w' : World} {g base e size n : Nat} {v : Value} {xs : List Value} (h : w.ownsRow base e size v n xs) (hg : w.grownBy w' (some g)) (ho : NoT w g e) : w'.ownsRow base e size v n xs := by
  refine own_grown h hg (Or.inr fun e' => ?_)
  rcases h.2 with ⟨rfl, _⟩ | ⟨g', cap, cur, rfl, _, hh, _⟩
  · cases e'
  · obtain rfl : g' = g := by simpa [Value.ownBlock] using e'
    exact ho _ _ _ hh rfl
theorem RowR.keep {w w' : World} {g : Nat} {A : Option Addr} {c : Nat} {l : List V} (h : RowR w A c l) (hg : w.grownBy w' (some g)) (ho : NoT w g 97) : RowR w' A c l := by
  obtain ⟨⟨b, h1⟩, h2⟩ := h
  exact ⟨⟨b, own_keep h1 hg ho⟩, h2⟩
theorem EvV.keep {w w' : World} {g : Nat} {v : Value} {e : Ev} (h : EvV w v e) (hg : w.grownBy w' (some g)) (ho : NoT w g 97) : EvV w' v e := by
  obtain ⟨A, c, A2, c2, h1, h2, h3⟩ := h
  exact ⟨A, c, A2, c2, h1, h2.keep hg ho, h3.keep hg ho⟩
theorem FiR.keep {n : Int} {f : Fi} {w w' : World} {g : Nat} (h : FiR n f w) (hg : w.grownBy w' (some g)) (h1 : NoT w g 50) (h2 : f.gc ≠ g) (h3 : NoT w g 29) : FiR n f w' := by
  obtain ⟨g1, ⟨b1, g2⟩, ⟨b2, g3⟩, g4⟩ := h
  exact ⟨blk_keep g1 hg h1, ⟨b1, own_grown g2 hg (Or.inr fun e => h2 (by simpa [Value.ownBlock] using e))⟩, ⟨b2, own_keep g3 hg h3⟩, g4⟩
theorem PtrL.keep {lo : Nat} {w w' : World} {g : Nat} {v : Value} {ps : List Nat} (h : PtrL lo w v ps) (hg : w.grownBy w' (some g)) (ho : NoT w g 90) : PtrL lo w' v ps := by
  obtain ⟨A, c, rfl, h1, h2⟩ := h
  have key : ∀ (b : Nat) (cs : Array Value) (f : Nat × Nat), w.heap[b]? = some (.cells cs 90 f) → w'.heap[b]? = some (.cells cs 90 f) := fun b cs f hb =>
    (hg.block b (Array.getElem?_eq_some_iff.1 hb).1 (fun e => by obtain rfl := Option.some.inj e; exact ho _ _ _ hb rfl)).trans hb
  refine ⟨A, c, rfl, fun hne => ?_, ?_⟩
  · obtain ⟨g', off, rfl, hl, hlt, hc⟩ := h1 hne
    have hgb : ∃ cs f, w.heap[g']? = some (.cells cs 90 f) := by
      rcases h2 with h2 | h2
      · rcases h2.2 with ⟨e, _⟩ | ⟨g2, cap, cur, e, _, hh, _⟩
        · cases e
        · simp only [Value.slice.injEq, Option.some.injEq, Addr.mk.injEq] at e
          obtain ⟨⟨rfl, _⟩, _⟩ := e
          exact ⟨cur, _, hh⟩
      · exact h2.2 _ rfl
    obtain ⟨cs, f, hh⟩ := hgb
    refine ⟨g', off, rfl, hl, Nat.lt_of_lt_of_le hlt hg.size, fun i p hi => ?_⟩
    rw [← hc i p hi]
    exact World.cell?_of_block ((key g' cs f hh).trans hh.symm)
  · rcases h2 with h2 | h2
    · exact Or.inl (own_keep h2 hg ho)
    · refine Or.inr ⟨h2.1, fun a ha => ?_⟩
      obtain ⟨cs, f, h3⟩ := h2.2 a ha
      exact ⟨cs, f, key _ _ _ h3⟩
/-- A store leaves the buffer's own block and its list. -/
theorem BuR.keep {B nt : Nat} {bd nx : Int} {has : Bool} {fa : Int} {l l' : List Tb} {w w' : World} {g : Nat} (h : BuR B nt bd nx has fa l w) (hg : w.grownBy w' (some g)) (h1 : NoT w g 85) (h2 : NoT w g 90) (hm : l'.map (·.X) = l.map (·.X)) (ht : ∀ t ∈ l', TxR B nt t w') : BuR B nt bd nx has fa l' w' := by
  obtain ⟨v, hb, hp⟩ := h.b
  exact ⟨⟨v, blk_keep hb hg h1, by rw [hm]; exact hp.keep hg h2⟩, ht⟩
/-- .. of an event. -/
theorem BuR.offE {B nt : Nat} {bd nx : Int} {has : Bool} {fa : Int} {l : List Tb} {w w' : World} {g : Nat} {cs : Array Value} (h : BuR B nt bd nx has fa l w) (hg : w.grownBy w' (some g)) (hb : Blk w g cs 59) : BuR B nt bd nx has fa l w' :=
  h.keep hg (NoT.blk hb (by decide)) (NoT.blk hb (by decide)) rfl (fun t ht => (h.t t ht).farB hg hb (by decide) (by decide) (by decide) (fun e => absurd e (by decide)) (fun e => absurd e (by decide)))
/-- An event is put into its transaction's map. -/
theorem BuR.mapPut {B nt : Nat} {bd nx : Int} {has : Bool} {fa : Int} {l1 l2 : List Tb} {t : Tb} {w w' : World} {e : Ev} {v : Value} (h : BuR B nt bd nx has fa (l1 ++ t :: l2) w) (hd : Dis (l1 ++ t :: l2)) (hg : w.grownBy w' (some t.M)) (hm : MapL w' t.M (t.ev ++ [(e.tot, v)])) (he : EvV w' v e) :
    BuR B nt bd nx has fa (l1 ++ { t with es := t.es ++ [(e, v)] } :: l2) w' := by
  have hT := h.t t (by simp)
  have no := fun u => NoT.map hT.m u
  refine h.keep hg (no _) (no _) (by simp) (fun u hu => ?_)
  have oth : ∀ u ∈ l1 ++ l2, TxR B nt u w' := fun u hu => (h.t u (by rcases List.mem_append.1 hu with hu | hu <;> simp [hu])).far hg (fun cs T f hc => absurd hc (by
    obtain ⟨es, clock, hb, _⟩ := hT.m.1
    rw [hb]
    simp)) (fun _ _ _ => (hd.other hu).2.1)
  rcases List.mem_append.1 hu with hu | hu
  · exact oth u (by simp [hu])
  · rcases List.mem_cons.1 hu with rfl | hu
    · refine ⟨hT.lx, hT.ln, hT.lm, blk_keep hT.x hg (no _), fun f hf => ?_, blk_keep hT.n hg (no _), hT.l, ?_, fun p hp => ?_⟩
      · obtain ⟨g1, ⟨b1, g2⟩, ⟨b2, g3⟩, g4⟩ := hT.f f hf
        exact ⟨blk_keep g1 hg (no _), ⟨b1, own_keep g2 hg (no _)⟩, ⟨b2, own_keep g3 hg (no _)⟩, g4⟩
      · have : ({ t with es := t.es ++ [(e, v)] } : Tb).ev = t.ev ++ [(e.tot, v)] := by simp [Tb.ev]
        rw [this]
        exact hm
      · rcases List.mem_append.1 hp with hp | hp
        · exact (hT.e p hp).keep hg (no _)
        · obtain rfl := List.mem_singleton.1 hp
          exact he
    · exact oth u (by simp [hu])
/-- One more is counted. -/
theorem BuR.count {B nt : Nat} {bd nx : Int} {has : Bool} {fa : Int} {l1 l2 : List Tb} {t : Tb} {w w' : World} (h : BuR B nt bd nx has fa (l1 ++ t :: l2) w) (hd : Dis (l1 ++ t :: l2)) (nth' : List Int) (hl : nth'.length = nt) (hg : w.grownBy w' (some t.N)) (hn : Blk w' t.N (nth'.map (Value.int .i64)).toArray 3) :
    BuR B nt bd nx has fa (l1 ++ { t with nth := nth' } :: l2) w' := by
  have hT := h.t t (by simp)
  have no : ∀ {u : TypeId}, 3 ≠ u → NoT w t.N u := fun hne => NoT.blk hT.n hne
  refine h.keep hg (no (by decide)) (no (by decide)) (by simp) (fun u hu => ?_)
  have oth : ∀ u ∈ l1 ++ l2, TxR B nt u w' := fun u hu => (h.t u (by rcases List.mem_append.1 hu with hu | hu <;> simp [hu])).farB hg hT.n (by decide) (by decide) (by decide) (fun e => absurd e (by decide)) (fun _ b hb e => (hd.other hu).2.2 b hb (by rw [e]; simp [Tb.ints]))
  rcases List.mem_append.1 hu with hu | hu
  · exact oth u (by simp [hu])
  · rcases List.mem_cons.1 hu with rfl | hu
    · refine ⟨hT.lx, hT.ln, hT.lm, blk_keep hT.x hg (no (by decide)), fun f hf => ?_, hn, hl, ?_, fun p hp => (hT.e p hp).keep hg (no (by decide))⟩
      · refine (hT.f f hf).keep hg (no (by decide)) (fun e => ?_) (no (by decide))
        have h3 := hd.2.2
        rw [List.flatMap_append, List.flatMap_cons, List.nodup_append, List.nodup_append] at h3
        have h4 := h3.2.1.1
        have h5 : t.fin = some f := hf
        rw [show t.ints = [t.N, f.gc] by simp [Tb.ints, h5]] at h4
        rw [e] at h4
        simp at h4
      · obtain ⟨es, clock, hb, r⟩ := hT.m.1
        refine ⟨⟨es, clock, (hg.block _ hT.m.1.lt (fun e => ?_)).trans hb, r⟩, hT.m.2⟩
        have e' : t.M = t.N := Option.some.inj e
        have hn0 := hT.n
        unfold Blk at hn0
        rw [← e', hb] at hn0
        cases hn0
    · exact oth u (by simp [hu])
def wClv (l : List V) : Known := .mem (fun u w => ∃ A c b, u = .slice A l.length c ∧ w.ownsRow b 97 4 (.slice A l.length c) l.length (rowCells l) ∧ (A = none → c = 0)) (fun _ _ _ ⟨A, c, b, h, h1, h2⟩ hb => ⟨A, c, b, h, own_below h1 hb, h2⟩)
def TakeOk (bd : Int) (k : Nat) (tx tot nth : Int) (l : List Tb) : Prop := ∀ X, roomL bd tx 0 l = some X → ∃ l1 t l2 f c, l = l1 ++ t :: l2 ∧ t.X = X ∧ t.fin = some f ∧ tot ∉ t.ev.map (·.1) ∧ t.nth[k]? = some nth ∧ f.cnt[k]? = some c ∧ 0 ≤ nth ∧ nth < c ∧ 0 ≤ tot ∧ tot < f.cnt.sum ∧ t.es.length ≤ 100000
end Go.Proofs.YtkfhfegogmlchaaDoor

/- The buffer, in general: Mark and Event. -/
namespace Go.Proofs.YtkfhfegogmlchaaDoor
open Go.RowKit

set_option maxRecDepth 100000 in
theorem takenM (B nt p q : Nat) (bd nx : Int) (has : Bool) (l : List Tb) (Q : Bool → World → Prop) (w : World) (h : BuR B nt bd nx has 0 l w)
    (hd : Calls Tryd.prog 40 #[.pointer (some ⟨p, 0, none⟩), .pointer (some ⟨q, 0, none⟩)] w (OkA Q)) :
    Calls Tryd.prog 36 #[.pointer (some ⟨B, 0, none⟩), .func (.func 22) #[.pointer (some ⟨B, 0, none⟩)] #[], .func (.func 40) #[] #[.pointer (some ⟨p, 0, none⟩), .pointer (some ⟨q, 0, none⟩)]] w (OkA Q) := by
  obtain ⟨v, hb, A, c, rfl, _⟩ := h.b
  have HF := Lib.hid (fault_ok B _ c A nt bd nx 0 has w hb)
  have HD := Lib.hid hd
  clear hb hd h
  go_enter Tryd.func36, Tryd.ntmps36
  go_wp2_with fail
  refine HF.out.mono ?_
  rintro r w1 ⟨rfl, rfl⟩
  go_wp2_with fail
  refine HD.out.mono ?_
  rintro r w2 ⟨is, rfl, hq⟩
  have HQ := Lib.hid hq
  clear hq
  go_wp2_with fail
  go_ret2
  exact ⟨is, rfl, HQ.out⟩
set_option maxRecDepth 100000 in
theorem takenE (B nt p q : Nat) (bd nx : Int) (has : Bool) (l : List Tb) (Q : Bool → World → Prop) (w : World) (h : BuR B nt bd nx has 0 l w)
    (hd : Calls Tryd.prog 37 #[.pointer (some ⟨p, 0, none⟩), .pointer (some ⟨q, 0, none⟩)] w (OkA Q)) :
    Calls Tryd.prog 36 #[.pointer (some ⟨B, 0, none⟩), .func (.func 22) #[.pointer (some ⟨B, 0, none⟩)] #[], .func (.func 37) #[] #[.pointer (some ⟨p, 0, none⟩), .pointer (some ⟨q, 0, none⟩)]] w (OkA Q) := by
  obtain ⟨v, hb, A, c, rfl, _⟩ := h.b
  have HF := Lib.hid (fault_ok B _ c A nt bd nx 0 has w hb)
  have HD := Lib.hid hd
  clear hb hd h
  go_enter Tryd.func36, Tryd.ntmps36
  go_wp2_with fail
  refine HF.out.mono ?_
  rintro r w1 ⟨rfl, rfl⟩
  go_wp2_with fail
  refine HD.out.mono ?_
  rintro r w2 ⟨is, rfl, hq⟩
  have HQ := Lib.hid hq
  clear hq
  go_wp2_with fail
  go_ret2
  exact ⟨is, rfl, HQ.out⟩
/-- What is to be done with a mark that may be. -/
def MkDo (B nt : Nat) (kk tx : Int) (C S : Option Addr) (n1 c1 c2 : Nat) (Q : Bool → World → Prop) (w : World) : Prop :=
  (kk = 1 ∧ ∀ W, Below w.heap.size w W → Calls Tryd.prog 42 #[.pointer (some ⟨B, 0, none⟩), .agg #[.int .u8 kk, .int .u64 tx, .slice C n1 c1, .slice S nt c2]] W (OkA Q)) ∨ (kk = 2 ∧ ∀ W, Below w.heap.size w W → Calls Tryd.prog 43 #[.pointer (some ⟨B, 0, none⟩), .agg #[.int .u8 kk, .int .u64 tx, .slice C n1 c1, .slice S nt c2]] W (OkA Q))
set_option maxRecDepth 100000 in
set_option maxHeartbeats 800000 in
set_option linter.unusedSimpArgs false in
theorem mark1_gen (p q B nt n1 c1 c2 : Nat) (kk tx bd nx : Int) (has : Bool) (l : List Tb) (C S : Option Addr) (Q : Bool → World → Prop) (w : World) (hp : Blk w p #[.int .u8 kk, .int .u64 tx, .slice C n1 c1, .slice S nt c2] 50) (hq : Blk w q #[.pointer (some ⟨B, 0, none⟩)] 42)
    (h : BuR B nt bd nx has 0 l w) (hck : ∀ W, Below w.heap.size w W → Calls Tryd.prog 41 #[.agg #[.int .u8 kk, .int .u64 tx, .slice C n1 c1, .slice S nt c2]] W fun e w' => e = .returned (.int .i64 0) ∧ Below W.heap.size W w') (hdo : MkDo B nt kk tx C S n1 c1 c2 Q w) :
    Calls Tryd.prog 40 #[.pointer (some ⟨p, 0, none⟩), .pointer (some ⟨q, 0, none⟩)] w (OkA Q) := by
  have HCM := Lib.hid hck
  have HDO := Lib.hid hdo
  have HP := Lib.hid hp
  have HQ := Lib.hid hq
  obtain ⟨v, hb, _⟩ := h.b
  have HB := Lib.hid hb
  clear hp hq hb h hck hdo
  go_enter Tryd.func40, Tryd.ntmps40
  go_upto_region 1 with fail
  refine region_grow [false, false, false, false, true, true, true, true, true, true, true, true, true, true, true, true, true, false, false, false, false, false, false, false, false, false, false, false, false, false] [4, 5, 6, 7, 8, 9, 10, 11, 12, 13, 14, 15, 16] [.val (.agg #[.int .u8 kk, .int .u64 tx, .slice C n1 c1, .slice S nt c2]), .val (.int .i64 0), .val (.bool false), .val (.bool false), .val (.pointer (some ⟨p, 3, none⟩)), .val (.slice S nt c2), .val (.int .i64 nt), .val (.pointer (some ⟨B, 0, none⟩)), .val (.pointer (some ⟨B, 0, none⟩)), .val (.pointer (some ⟨B, 0, none⟩)), .val (.int .i64 nt), .val (.bool false), .val (.bool false)] [12] (by kernel_rfl) (by kernel_rfl) (by kernel_rfl) (by kernel_rfl) (by kernel_rfl) ⟨?_, ?_, ?_, ?_, ?_, ?_, ?_, ?_, ?_, ?_, ?_, ?_, ?_, trivial⟩ ?done
  case done =>
    intro x w5 hb5
    simp only [StepGoal, overlay, upd, cond_true, cond_false, List.getD_cons_zero, List.getD_cons_succ, Nat.zero_add, Nat.reduceAdd, Nat.reduceEqDiff, reduceIte]
    have HP := Lib.hid (HP.out.ext hb5)
    have HQ := Lib.hid (HQ.out.ext hb5)
    have HC := Lib.hid hb5
    clear hb5
    have p0 := HP.out.cell 0
    have p1 := HP.out.cell 1
    have p2 := HP.out.cell 2
    have p3 := HP.out.cell 3
    have q0 := HQ.out.cell 0
    have lP := HP.out.lt
    have lQ := HQ.out.lt
    simp only [List.getElem?_toArray, List.getElem?_cons_zero, List.getElem?_cons_succ] at p0 p1 p2 p3 q0
    rcases HDO.out with ⟨rfl, hd⟩ | ⟨rfl, hd⟩
    · go_wp2_with fail
      refine (hd w5 HC.out).mono ?_
      rintro r w6 ⟨is, rfl, hq⟩
      have HF := Lib.hid hq
      clear hd hq HDO
      go_wp2_with fail
      go_ret2
      exact ⟨is, rfl, HF.out⟩
    · go_wp2_with fail
      refine (hd w5 HC.out).mono ?_
      rintro r w6 ⟨is, rfl, hq⟩
      have HF := Lib.hid hq
      clear hd hq HDO
      go_wp2_with fail
      go_ret2
      exact ⟨is, rfl, HF.out⟩
  all_goals
    intro x w5 hb5
    intro K hK
    have hP := HP.out.ext hb5
    have hQ := HQ.out.ext hb5
    have hB := HB.out.ext hb5
    have p0 := hP.cell 0
    have p1 := hP.cell 1
    have p2 := hP.cell 2
    have p3 := hP.cell 3
    have q0 := hQ.cell 0
    have b0 := hB.cell 0
    have lP := hP.lt
    have lQ := hQ.lt
    have lB := hB.lt
    simp only [List.getElem?_toArray, List.getElem?_cons_zero, List.getElem?_cons_succ] at p0 p1 p2 p3 q0 b0
    rw [if_pos (by rfl)]; simp only [overlay, upd, cond_true, cond_false, List.getD_cons_zero, List.getD_cons_succ, Nat.reduceEqDiff, reduceIte]
    go_simp
    first
      | exact hK.out _ _ (Below.refl _ _) rfl
      | ((with_reducible refine (HCM.out _ hb5).mono ?_); rintro e wa ⟨rfl, hba⟩; go_wp2_with fail; exact hK.out _ _ hba rfl)
set_option maxRecDepth 100000 in
theorem mark_gen (B nt n1 c1 c2 : Nat) (kk tx bd nx : Int) (has : Bool) (l : List Tb) (C S : Option Addr) (Q : Bool → World → Prop) (w : World)
    (h : BuR B nt bd nx has 0 l w) (hck : ∀ W, Below w.heap.size w W → Calls Tryd.prog 41 #[.agg #[.int .u8 kk, .int .u64 tx, .slice C n1 c1, .slice S nt c2]] W fun e w' => e = .returned (.int .i64 0) ∧ Below W.heap.size W w') (hdo : MkDo B nt kk tx C S n1 c1 c2 Q w) :
    Calls Tryd.prog 20 #[.pointer (some ⟨B, 0, none⟩), .agg #[.int .u8 kk, .int .u64 tx, .slice C n1 c1, .slice S nt c2]] w (OkA Q) := by
  have hC : Below w.heap.size w ((w.alloc (.cells #[.pointer (some ⟨B, 0, none⟩)] 42)).alloc (.cells #[.int .u8 kk, .int .u64 tx, .slice C n1 c1, .slice S nt c2] 50)) := (by repeat (first | exact Below.refl _ _ | assumption | refine Below.drew ?_ | refine below_drewN ?_ _ | refine Below.alloc ?_ (by simp <;> omega) _))
  have hq : Blk ((w.alloc (.cells #[.pointer (some ⟨B, 0, none⟩)] 42)).alloc (.cells #[.int .u8 kk, .int .u64 tx, .slice C n1 c1, .slice S nt c2] 50)) w.heap.size #[.pointer (some ⟨B, 0, none⟩)] 42 := (Blk.new w _ _).old _
  have hp : Blk ((w.alloc (.cells #[.pointer (some ⟨B, 0, none⟩)] 42)).alloc (.cells #[.int .u8 kk, .int .u64 tx, .slice C n1 c1, .slice S nt c2] 50)) (w.heap.size + 1) #[.int .u8 kk, .int .u64 tx, .slice C n1 c1, .slice S nt c2] 50 := (by repeat (first | exact Blk.at (by simp) | assumption | refine Blk.drew ?_ | refine Blk.old ?_ _))
  have HTK := Lib.hid (takenM B nt (w.heap.size + 1) w.heap.size bd nx has l Q _ (h.ext hC) (mark1_gen (w.heap.size + 1) w.heap.size B nt n1 c1 c2 kk tx bd nx has l C S Q _ hp hq (h.ext hC) (fun W hW => hck W (bt hC hW)) (by
    rcases hdo with ⟨h1, h2⟩ | ⟨h1, h2⟩
    · exact Or.inl ⟨h1, fun W hW => h2 W (bt hC hW)⟩
    · exact Or.inr ⟨h1, fun W hW => h2 W (bt hC hW)⟩)))
  clear hC hq hp h hck hdo
  go_enter Tryd.func20, Tryd.ntmps20
  go_wp2_with fail
  refine HTK.out.mono ?_
  rintro r w2 ⟨is, rfl, hq⟩
  have HQ := Lib.hid hq
  clear hq HTK
  go_wp2_with fail
  go_ret2
  exact ⟨is, rfl, HQ.out⟩
/-- What is known of an event that comes. -/
structure EvOk (k nt : Nat) (bd nx tx tot nth kd : Int) (has : Bool) (bf af : List V) (A A2 : Option Addr) (c c2 : Nat) (l : List Tb) (w : World) : Prop where
  tb : Tabs w
  kl : k < nt
  ev : evB ⟨tx, tot, nth, kd, k, bf, af⟩ = true
  r1 : VRow w A bf
  r2 : VRow w A2 af
  l1 : bf.length ≤ 1000
  l2 : af.length ≤ 1000
  z1 : A = none → c = 0
  z2 : A2 = none → c2 = 0
  nx : has = true → ¬ tx < nx
  tk : TakeOk bd k tx tot nth l
end Go.Proofs.YtkfhfegogmlchaaDoor
