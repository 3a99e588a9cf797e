/- Texts joined by a tool: contracts and walks of this claim. -/
import Derived.Test.YtfekohonidggjaaGreatDoorB30
namespace Go.Proofs.YtfekohonidggjaaGreatDoor
open Go.RowKit
def acells (l : List Am) : List Value := l.flatMap Am.cells
theorem CRow.same {w w' : World} {A : Option Addr} {l : List Co} (h : CRow w A l) (hs : w.heap.size ≤ w'.heap.size) (hb : l ≠ [] → ∀ p, A = some p → p.block < w.heap.size → w'.heap[p.block]? = w.heap[p.block]?) : CRow w' A l := by
 refine ⟨h.1, h.2.1, fun hl => ?_⟩
 obtain ⟨b, off, rfl, hlt, hc⟩ := h.2.2 hl
 have hk : ∀ i, w'.cell? ⟨b, i, none⟩ = w.cell? ⟨b, i, none⟩ := fun i => World.cell?_of_block (a := ⟨b, i, none⟩) (show w'.heap[b]? = w.heap[b]? from hb hl ⟨b, off, none⟩ rfl hlt)
 refine ⟨b, off, rfl, Nat.lt_of_lt_of_le hlt hs, fun i v hi => ?_⟩
 obtain ⟨c0, c1, c2⟩ := hc i v hi
 exact ⟨(hk _).trans c0, (hk _).trans c1, (hk _).trans c2⟩
theorem VRow.same {w w' : World} {A : Option Addr} {l : List V} (h : VRow w A l) (hs : w.heap.size ≤ w'.heap.size) (hb : l ≠ [] → ∀ p, A = some p → p.block < w.heap.size → w'.heap[p.block]? = w.heap[p.block]?) : VRow w' A l := by
 refine ⟨h.1, h.2.1, fun hl => ?_⟩
 obtain ⟨b, off, rfl, hlt, hc⟩ := h.2.2 hl
 have hk : ∀ i, w'.cell? ⟨b, i, none⟩ = w.cell? ⟨b, i, none⟩ := fun i => World.cell?_of_block (a := ⟨b, i, none⟩) (show w'.heap[b]? = w.heap[b]? from hb hl ⟨b, off, none⟩ rfl hlt)
 refine ⟨b, off, rfl, Nat.lt_of_lt_of_le hlt hs, fun i v hi => ?_⟩
 obtain ⟨c0, c1, c2, c3⟩ := hc i v hi
 exact ⟨(hk _).trans c0, (hk _).trans c1, (hk _).trans c2, (hk _).trans c3⟩
theorem own_same {w w' : World} {base e size n : Nat} {v : Value} {xs : List Value} (h : w.ownsRow base e size v n xs) (hb : ∀ k, v.ownBlock = some k → w'.heap[k]? = w.heap[k]?) : w'.ownsRow base e size v n xs := by
 obtain ⟨h0, h1 | ⟨g, cap, cur, h1, h2, h3, h4⟩⟩ := h
 · exact ⟨h0, Or.inl h1⟩
 · subst h1
   exact ⟨h0, Or.inr ⟨g, cap, cur, rfl, h2, (hb g rfl).trans h3, h4⟩⟩
def FreC (base : Nat) (A C P : Option Addr) : Prop := ∀ p, P = some p → base ≤ p.block ∧ (∀ q, A = some q → q.block ≠ p.block) ∧ ∀ q, C = some q → q.block ≠ p.block
structure RdI (base : Nat) (T : List Ta) (A : Option Addr) (kT : Nat) (L : List Am) (C : Option Addr) (kL : Nat) (w : World) : Prop where
 hb : base ≤ w.heap.size
 oT : w.ownsRow base 66 5 (.slice A T.length kT) T.length (tcells T)
 oL : w.ownsRow base 42 8 (.slice C L.length kL) L.length (acells L)
 hT : ∀ t ∈ T, t.wf ∧ CRow w t.A t.cs ∧ (t.cs ≠ [] → FreC base A C t.A)
 hL : ∀ x ∈ L, x.a.wf ∧ VRow w x.A x.a.row ∧ (x.a.row ≠ [] → FreC base A C x.A)
theorem RdI.move {base : Nat} {T : List Ta} {A : Option Addr} {kT : Nat} {L : List Am} {C : Option Addr} {kL : Nat} {w w' : World} (h : RdI base T A kT L C kL w) (hs : w.heap.size ≤ w'.heap.size) (hk : ∀ k, base ≤ k → k < w.heap.size → w'.heap[k]? = w.heap[k]?) : RdI base T A kT L C kL w' where
 hb := Nat.le_trans h.hb hs
 oT := own_same h.oT fun k e => hk k (h.oT.lt k e).1 (h.oT.lt k e).2
 oL := own_same h.oL fun k e => hk k (h.oL.lt k e).1 (h.oL.lt k e).2
 hT := fun t ht => by
  obtain ⟨h1, h2, h3⟩ := h.hT t ht
  exact ⟨h1, h2.same hs fun hne p hp hl => hk _ (h3 hne p hp).1 hl, h3⟩
 hL := fun x hx => by
  obtain ⟨h1, h2, h3⟩ := h.hL x hx
  exact ⟨h1, h2.same hs fun hne p hp hl => hk _ (h3 hne p hp).1 hl, h3⟩
theorem RdI.ext {base : Nat} {T : List Ta} {A : Option Addr} {kT : Nat} {L : List Am} {C : Option Addr} {kL : Nat} {w w' : World} (h : RdI base T A kT L C kL w) (hb : Below w.heap.size w w') : RdI base T A kT L C kL w' := h.move hb.size fun k _ hk => hb.block k hk
theorem RdI.gr {base b : Nat} {T : List Ta} {A : Option Addr} {kT : Nat} {L : List Am} {C : Option Addr} {kL : Nat} {w w' : World} (h : RdI base T A kT L C kL w) (hg : w.grownBy w' (some b)) (hb : b < base) : RdI base T A kT L C kL w' := h.move hg.size fun k hk hl => hg.block k hl (by simp; omega)
theorem own_blk (A : Option Addr) (n k : Nat) : (Value.slice A n k).ownBlock = A.map (·.block) := by cases A <;> rfl
theorem FreC.newA {base : Nat} {A C P : Option Addr} {g N : Nat} (h : FreC base A C P) (hp : ∀ p, P = some p → p.block < N) (hat : A.map (·.block) = some g ∨ g = N) : FreC base (some ⟨g, 0, none⟩) C P := fun p e => by
 obtain ⟨h1, h2, h3⟩ := h p e
 refine ⟨h1, fun q hq => ?_, h3⟩
 injection hq with hq
 subst hq
 rcases hat with ha | ha
 · obtain ⟨q, hq, hg⟩ := Option.map_eq_some_iff.1 ha
   have := h2 q hq
   simp only
   omega
 · have := hp p e
   simp only
   omega
theorem FreC.newC {base : Nat} {A C P : Option Addr} {g N : Nat} (h : FreC base A C P) (hp : ∀ p, P = some p → p.block < N) (hat : C.map (·.block) = some g ∨ g = N) : FreC base A (some ⟨g, 0, none⟩) P := fun p e => by
 obtain ⟨h1, h2, h3⟩ := h p e
 refine ⟨h1, h2, fun q hq => ?_⟩
 injection hq with hq
 subst hq
 rcases hat with ha | ha
 · obtain ⟨q, hq, hg⟩ := Option.map_eq_some_iff.1 ha
   have := h3 q hq
   simp only
   omega
 · have := hp p e
   simp only
   omega
theorem crow_lt {w : World} {A : Option Addr} {l : List Co} (h : CRow w A l) (hl : l ≠ []) : ∀ p, A = some p → p.block < w.heap.size := fun p hp => by
 obtain ⟨b, off, rfl, hlt, _⟩ := h.2.2 hl
 injection hp with hp
 subst hp
 exact hlt
theorem vrow_lt {w : World} {A : Option Addr} {l : List V} (h : VRow w A l) (hl : l ≠ []) : ∀ p, A = some p → p.block < w.heap.size := fun p hp => by
 obtain ⟨b, off, rfl, hlt, _⟩ := h.2.2 hl
 injection hp with hp
 subst hp
 exact hlt
theorem RdI.addT {base : Nat} {T : List Ta} {A : Option Addr} {kT : Nat} {L : List Am} {C : Option Addr} {kL : Nat} {w w' : World} {t : Ta} {g c : Nat} (h : RdI base T A kT L C kL w) (ht : t.wf) (hc : CRow w t.A t.cs) (hf : t.cs ≠ [] → FreC base A C t.A)
  (ho : w'.ownsRow base 66 5 (.slice (some ⟨g, 0, none⟩) (T.length + 1) c) (T.length + 1) (tcells T ++ tcells [t])) (hg : w.grownBy w' (Value.slice A T.length kT).ownBlock) (hat : (Value.slice A T.length kT).ownBlock = some g ∨ g = w.heap.size) :
  RdI base (T ++ [t]) (some ⟨g, 0, none⟩) c L C kL w' := by
 rw [own_blk] at hat
 have key : ∀ u : Ta, (u.wf ∧ CRow w u.A u.cs ∧ (u.cs ≠ [] → FreC base A C u.A)) → u.wf ∧ CRow w' u.A u.cs ∧ (u.cs ≠ [] → FreC base (some ⟨g, 0, none⟩) C u.A) := by
  rintro u ⟨h1, h2, h3⟩
  refine ⟨h1, h2.same hg.size fun hne p hp hl => hg.block _ hl ?_, fun hne => (h3 hne).newA (crow_lt h2 hne) hat⟩
  rw [own_blk]
  intro e
  obtain ⟨q, hq, hq2⟩ := Option.map_eq_some_iff.1 e.symm
  exact ((h3 hne) p hp).2.1 q hq hq2
 refine ⟨Nat.le_trans h.hb hg.size, ?_, own_grown h.oL hg (own_far h.oL h.oT (by decide)), fun u hu => ?_, fun x hx => ?_⟩
 · rw [List.length_append]
   unfold tcells at ho ⊢
   rw [List.flatMap_append]
   exact ho
 · rcases List.mem_append.1 hu with hu | hu
   · exact key u (h.hT u hu)
   · obtain rfl : u = t := by simpa using hu
     exact key u ⟨ht, hc, hf⟩
 · obtain ⟨h1, h2, h3⟩ := h.hL x hx
   refine ⟨h1, h2.same hg.size fun hne p hp hl => hg.block _ hl ?_, fun hne => (h3 hne).newA (vrow_lt h2 hne) hat⟩
   rw [own_blk]
   intro e
   obtain ⟨q, hq, hq2⟩ := Option.map_eq_some_iff.1 e.symm
   exact ((h3 hne) p hp).2.1 q hq hq2
theorem RdI.addL {base : Nat} {T : List Ta} {A : Option Addr} {kT : Nat} {L : List Am} {C : Option Addr} {kL : Nat} {w w' : World} {x : Am} {g c : Nat} (h : RdI base T A kT L C kL w) (ht : x.a.wf) (hc : VRow w x.A x.a.row) (hf : x.a.row ≠ [] → FreC base A C x.A)
  (ho : w'.ownsRow base 42 8 (.slice (some ⟨g, 0, none⟩) (L.length + 1) c) (L.length + 1) (acells L ++ acells [x])) (hg : w.grownBy w' (Value.slice C L.length kL).ownBlock) (hat : (Value.slice C L.length kL).ownBlock = some g ∨ g = w.heap.size) :
  RdI base T A kT (L ++ [x]) (some ⟨g, 0, none⟩) c w' := by
 rw [own_blk] at hat
 have key : ∀ u : Am, (u.a.wf ∧ VRow w u.A u.a.row ∧ (u.a.row ≠ [] → FreC base A C u.A)) → u.a.wf ∧ VRow w' u.A u.a.row ∧ (u.a.row ≠ [] → FreC base A (some ⟨g, 0, none⟩) u.A) := by
  rintro u ⟨h1, h2, h3⟩
  refine ⟨h1, h2.same hg.size fun hne p hp hl => hg.block _ hl ?_, fun hne => (h3 hne).newC (vrow_lt h2 hne) hat⟩
  rw [own_blk]
  intro e
  obtain ⟨q, hq, hq2⟩ := Option.map_eq_some_iff.1 e.symm
  exact ((h3 hne) p hp).2.2 q hq hq2
 refine ⟨Nat.le_trans h.hb hg.size, own_grown h.oT hg (own_far h.oT h.oL (by decide)), ?_, fun u hu => ?_, fun u hu => ?_⟩
 · rw [List.length_append]
   unfold acells at ho ⊢
   rw [List.flatMap_append]
   exact ho
 · obtain ⟨h1, h2, h3⟩ := h.hT u hu
   refine ⟨h1, h2.same hg.size fun hne p hp hl => hg.block _ hl ?_, fun hne => (h3 hne).newC (crow_lt h2 hne) hat⟩
   rw [own_blk]
   intro e
   obtain ⟨q, hq, hq2⟩ := Option.map_eq_some_iff.1 e.symm
   exact ((h3 hne) p hp).2.2 q hq hq2
 · rcases List.mem_append.1 hu with hu | hu
   · exact key u (h.hL u hu)
   · obtain rfl : u = x := by simpa using hu
     exact key u ⟨ht, hc, hf⟩
theorem AmRow.of_own {w : World} {base n c : Nat} {e : TypeId} {A : Option Addr} {l : List Am} (hw : ∀ x ∈ l, x.a.wf ∧ VRow w x.A x.a.row) (hlen : l.length ≤ 1599289640401) (hn : n = l.length)
  (h : w.ownsRow base e 8 (.slice A n c) n (acells l)) : AmRow w A l := by
 refine ⟨hw, hlen, fun hl => ?_⟩
 have hpos : 0 < n := by rw [hn]; exact List.length_pos_iff.2 hl
 obtain ⟨g, cap, hv, _, hlt⟩ := h.form hpos
 have hA : A = some ⟨g, 0, none⟩ := by injection hv
 subst hA
 refine ⟨g, 0, rfl, hlt, fun i x hi j hj => ?_⟩
 have hc := h.cells (g := g) rfl
 have hu : ∃ u, x.cells[j]? = some u := ⟨_, List.getElem?_eq_getElem (by show j < 8; exact hj)⟩
 obtain ⟨u, hu⟩ := hu
 rw [hu]
 have k0 := hc (i * 8 + j) u ((flat_get Am.cells 8 (fun _ => rfl) l i j x hi hj).trans hu)
 rw [addr_addS] at k0
 simpa using k0
theorem RdI.trow {base : Nat} {T : List Ta} {A : Option Addr} {kT : Nat} {L : List Am} {C : Option Addr} {kL : Nat} {w : World} (h : RdI base T A kT L C kL w) (hl : T.length ≤ 100) : TRow w A kT T :=
 TRow.of_own (fun t ht => ⟨(h.hT t ht).1, (h.hT t ht).2.1⟩) (by omega) rfl h.oT
theorem RdI.arow {base : Nat} {T : List Ta} {A : Option Addr} {kT : Nat} {L : List Am} {C : Option Addr} {kL : Nat} {w : World} (h : RdI base T A kT L C kL w) (hl : L.length ≤ 4294967296) : AmRow w C L :=
 AmRow.of_own (fun t ht => ⟨(h.hL t ht).1, (h.hL t ht).2.1⟩) (by omega) rfl h.oL
def RdB (b base : Nat) (st : Ls) (n : Nat) (w : World) : Prop := ∃ T A kT L C kL, Blk w b (rdArr (.slice A T.length kT) (.slice C L.length kL) st n) 85 ∧ RdI base T A kT L C kL w ∧ T.map Ta.z = st.ts ∧ L.map (·.a) = st.l
theorem RdB.ext {b base n : Nat} {st : Ls} {w w' : World} (h : RdB b base st n w) (hb : Below w.heap.size w w') : RdB b base st n w' := by
 obtain ⟨T, A, kT, L, C, kL, h1, h2, h3, h4⟩ := h
 exact ⟨T, A, kT, L, C, kL, h1.ext hb, h2.ext hb, h3, h4⟩
theorem headF_keeps {st st' : Ls} {l : List UInt8} (h : headF st l = some st') : st'.ts = st.ts ∧ st'.l = st.l ∧ st'.n = st.n + 1 := by
 rcases headF_some h with ⟨h0, v, _, _, rfl⟩ | ⟨h0, v, _, _, rfl⟩ | ⟨h0, u, v, t, _, _, rfl⟩
 · exact ⟨rfl, rfl, by simp [h0]⟩
 · exact ⟨rfl, rfl, by simp [h0]⟩
 · exact ⟨rfl, rfl, by simp [h0]⟩
def tTab6 : List UInt8 := [116, 97, 98, 108, 101, 32]
theorem readT_prefix {l : List UInt8} {t : Ta} (h : readT l = some t) : Lib.hasPrefix l tTab6 = true := by
 unfold readT at h
 split at h
 · next ws hws =>
   obtain ⟨_, _, rfl⟩ := wordsF_some.1 hws
   rcases ws with _ | ⟨a, _ | ⟨nm, ws⟩⟩
   · cases h
   · cases h
   · unfold tabR at h
     split at h
     · next e =>
       injection e with e1 e2
       split at h
       · next ha =>
         rw [e1, ha]
         injection e2 with e2 e3
         rfl
       · cases h
     · cases h
 · cases h
theorem readA_prefix {l : List UInt8} (h : Lib.hasPrefix l tTab6 = true) : readA l = none := by
 obtain ⟨r, rfl⟩ := List.isPrefixOf_iff_prefix.1 h
 unfold readA wordsF
 have e : spW 32 (tTab6 ++ r) = tTable :: spW 32 r := by
  simp [tTab6, spW, tTable]
 rw [e]
 split
 · next ws hws =>
   split at hws
   · cases hws
   · injection hws with hws
     subst hws
     have e1 : opAt tTable = none := by decide
     have e2 : formAt tTable = none := by decide
     simp only [wordsR, e1, e2]
 · rfl
theorem bodyF_tab {st : Ls} {l : List UInt8} (ha : st.acts = false) (hp : Lib.hasPrefix l tTab6 = true) : bodyF st l = match readT l with
  | some t => if schB (st.ts ++ [t]) then some { st with ts := st.ts ++ [t], n := st.n + 1 } else none
  | none => none := by
 unfold bodyF
 rw [ha, readA_prefix hp]
 cases readT l with
 | none =>
  simp only [Bool.false_eq_true, if_false]
  split <;> rfl
 | some t => simp only [Bool.false_eq_true, if_false]
theorem bodyF_act {st : Ls} {l : List UInt8} (h : st.acts = true ∨ Lib.hasPrefix l tTab6 = false) : bodyF st l = if st.ts.length = 0 then none else match readA l with
  | some a => some { st with l := st.l ++ [a], n := st.n + 1, acts := true }
  | none => none := by
 unfold bodyF
 have e : (if st.acts = true then none else readT l) = none := by
  rcases h with h | h
  · rw [if_pos h]
  · split
    · rfl
    · cases hr : readT l with
      | none => rfl
      | some t => rw [readT_prefix hr] at h; cases h
 rw [e]
 simp only
 split
 · rfl
 · cases readA l <;> rfl
theorem sch_z (T : List Ta) : schB (T.map Ta.z) = schB T := schB_d (by rw [List.map_map]; rfl)
end Go.Proofs.YtfekohonidggjaaGreatDoor
