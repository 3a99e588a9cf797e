/- Texts joined by a tool: contracts and walks of this claim. -/
import Derived.Test.YtfekohonidggjaaGreatDoorB32
namespace Go.Proofs.YtfekohonidggjaaGreatDoor
open Go.RowKit
def lnC : List UInt8 → Option (List UInt8 × List UInt8)
 | [] => none
 | c :: r => if c = 10 then some ([], r) else (lnC r).map fun x => (c :: x.1, x.2)
theorem ln_index : ∀ w : List UInt8, match lnC w with
  | some (a, b) => Lib.indexByte w 10 = a.length ∧ w = a ++ 10 :: b
  | none => Lib.indexByte w 10 = -1
 | [] => rfl
 | c :: r => by
  have ih := ln_index r
  unfold lnC Lib.indexByte
  by_cases hc : c = 10
  · subst hc
    simp
  · rw [if_neg hc]
    cases h : lnC r with
    | none =>
     rw [h] at ih
     simp only at ih
     simp [hc, ih]
    | some x =>
     obtain ⟨a, b⟩ := x
     rw [h] at ih
     simp only at ih
     simp only [Option.map_some, List.length_cons, List.cons_append]
     refine ⟨?_, by rw [← ih.2]⟩
     simp [hc, ih.1]
theorem cut_L (w : List UInt8) : Lib.cut w [10] = match lnC w with
  | some (a, b) => (a, b, true)
  | none => (w, [], false) := by
 have h := ln_index w
 unfold Lib.cut
 rw [Lib.index_one]
 cases hc : lnC w with
 | none =>
  rw [hc] at h
  simp only at h
  rw [h]
  rfl
 | some x =>
  obtain ⟨a, b⟩ := x
  rw [hc] at h
  simp only at h
  rw [h.1, if_pos (by omega)]
  simp only [Int.toNat_natCast, List.length_singleton, Prod.mk.injEq, and_true]
  rw [h.2]
  exact ⟨by simp, by simp⟩
theorem ln_some {w a b : List UInt8} (h : lnC w = some (a, b)) : w = a ++ 10 :: b := by
 have := ln_index w
 rw [h] at this
 exact this.2
theorem spW_ne10 (w : List UInt8) : ∃ x xs, spW 10 w = x :: xs := by
 induction w with
 | nil => exact ⟨_, _, rfl⟩
 | cons c r ih =>
  obtain ⟨x, xs, h⟩ := ih
  unfold spW
  split
  · exact ⟨_, _, rfl⟩
  · rw [h]
    exact ⟨_, _, rfl⟩
theorem spW_ln : ∀ w : List UInt8, spW 10 w = match lnC w with
  | some (a, b) => a :: spW 10 b
  | none => [w]
 | [] => rfl
 | c :: r => by
  have ih := spW_ln r
  rw [show spW 10 (c :: r) = (if c = 10 then [] :: spW 10 r else match spW 10 r with
   | [] => [[c]]
   | w :: ws => (c :: w) :: ws) from rfl, show lnC (c :: r) = (if c = 10 then some ([], r) else (lnC r).map fun x => (c :: x.1, x.2)) from rfl]
  by_cases hc : c = 10
  · rw [if_pos hc, if_pos hc]
  · rw [if_neg hc, if_neg hc, ih]
    cases h : lnC r with
    | none => rfl
    | some x =>
     obtain ⟨a, b⟩ := x
     rfl
theorem goP_line {st : Ls} {w a b : List UInt8} (h : lnC w = some (a, b)) : goP st (spW 10 w) = match lineF st a with
  | some st' => goP st' (spW 10 b)
  | none => .bad (st.n + 1) := by
 rw [spW_ln, h]
 obtain ⟨x, xs, hx⟩ := spW_ne10 b
 simp only [hx]
 rfl
theorem goP_end {st : Ls} {w : List UInt8} (h : lnC w = none) : goP st (spW 10 w) = if w = [] ∧ st.ts.length ≠ 0 then .ok st else .bad (st.n + 1) := by
 rw [spW_ln, h]
 rfl
theorem bodyF_facts {st st' : Ls} {l : List UInt8} (h : bodyF st l = some st') (ht : st.ts.length ≤ 99) (hl : st.l.length ≤ st.n) : st'.n = st.n + 1 ∧ st'.ts.length ≤ 99 ∧ st'.l.length ≤ st'.n := by
 unfold bodyF at h
 split at h
 · split at h
   · next hs =>
     injection h with h
     subst h
     have := sch_le hs
     exact ⟨rfl, this, by simp only; omega⟩
   · cases h
 · split at h
   · cases h
   · split at h
     · injection h with h
       subst h
       refine ⟨rfl, ht, ?_⟩
       simp only [List.length_append, List.length_cons, List.length_nil]
       omega
     · cases h
theorem lineF_facts {st st' : Ls} {l : List UInt8} (h : lineF st l = some st') (ht : st.ts.length ≤ 99) (hl : st.l.length ≤ st.n) : st'.n = st.n + 1 ∧ st'.ts.length ≤ 99 ∧ st'.l.length ≤ st'.n := by
 unfold lineF at h
 split at h
 · obtain ⟨e1, e2, e3⟩ := headF_keeps h
   rw [e1, e2, e3]
   exact ⟨rfl, ht, by omega⟩
 · exact bodyF_facts h ht hl
def KT (T : World → World → Prop) (k : Known) : Prop := ∀ v w w', T w w' → k.holds v w → k.holds v w'
theorem KT.val {T : World → World → Prop} (c : Value) : KT T (.val c) := fun _ _ _ _ h => h
def StepBodyT (P : Program) (ops : Array Oper) (Q : Exit → Act → World → Prop) (mask : List Bool) (L : List Value) (df : List Deferred) (T : World → World → Prop) (k : Known) (w : World) (d : Nat) (o : Oper) (x : Nat → Value) : Prop :=
 ∀ K' : Act → World → Prop, Shut (∀ v w', T w w' → k.holds v w' → K' ⟨(overlay (upd x d v) 0 mask L).toArray, df⟩ w') →
  if Region.wanted o (yielded ops (overlay x 0 mask L).toArray) = true then Oper.wp P o ⟨(overlay x 0 mask L).toArray, df⟩ w K' Q else K' (Act.put ⟨(overlay x 0 mask L).toArray, df⟩ o.dst undef) w
def StepsT (P : Program) (ops : Array Oper) (Q : Exit → Act → World → Prop) (mask : List Bool) (L : List Value) (df : List Deferred) (T : World → World → Prop) (ps : List Known) (dst : Nat → Nat) (w0 : World) : Nat → List Oper → Prop
 | _, [] => True
 | i, o :: os => (∀ x w, T w0 w → StepGoal ps dst w (StepBodyT P ops Q mask L df T (ps.getD i kAny) w (dst i) o) (depsOf o) x) ∧ StepsT P ops Q mask L df T ps dst w0 (i + 1) os
theorem StepsT.at_ {P : Program} {ops : Array Oper} {Q : Exit → Act → World → Prop} {mask : List Bool} {L : List Value} {df : List Deferred} {T : World → World → Prop} {ps : List Known} {dst : Nat → Nat} {w0 : World} :
  ∀ (os : List Oper) (n i : Nat) (o : Oper), StepsT P ops Q mask L df T ps dst w0 n os → os[i]? = some o → ∀ x w, T w0 w → StepGoal ps dst w (StepBodyT P ops Q mask L df T (ps.getD (n + i) kAny) w (dst (n + i)) o) (depsOf o) x
 | [], _, _, _, _, h => by simp at h
 | o' :: os, n, 0, o, hs, h => by
  simp only [List.getElem?_cons_zero, Option.some.injEq] at h
  subst h
  exact hs.1
 | o' :: os, n, i + 1, o, hs, h => by
  have := StepsT.at_ os (n + 1) i o hs.2 (by simpa using h)
  rw [show n + 1 + i = n + (i + 1) by omega] at this
  exact this
theorem region_free {P : Program} {id : Nat} {ops : Array Oper} {Q : Exit → Act → World → Prop} {L : List Value} {df : List Deferred} {w0 : World} (T : World → World → Prop) (mask : List Bool) (dsts : List Nat) (ps : List Known) (fin : List Nat)
  (hT0 : T w0 w0.drew) (hTt : ∀ {a b c}, T a b → T b c → T a c) (hTk : ∀ k ∈ ps, KT T k)
  (hm : P.follows .mixedOrders = true) (hb : backB ops = true) (hdl : dsts = (List.range ops.size).map (dstN ops)) (hd : distB ops = true) (hfin : fin.all (fun j => decide (j < ops.size)) = true)
  (hs : StepsT P ops Q mask L df T ps (fun i => dsts.getD i 0) w0 0 ops.toList)
  (hdone : ∀ x w, T w0 w → StepGoal ps (fun i => dsts.getD i 0) w (fun x => Q .normal ⟨(overlay x 0 mask L).toArray, df⟩ w) fin x) :
  (Code.region id ops true).wp P Q ⟨L.toArray, df⟩ w0 := by
 have hKT : ∀ i, KT T (ps.getD i kAny) := by
  intro i
  rw [List.getD_eq_getElem?_getD]
  cases h : ps[i]? with
  | none => exact fun _ _ _ _ _ => trivial
  | some k => exact hTk k (List.mem_of_getElem? h)
 have hdg : ∀ i, i < ops.size → dsts.getD i 0 = dstN ops i := by
  intro i hi
  rw [hdl, List.getD_eq_getElem?_getD, List.getElem?_map, List.getElem?_range hi]
  rfl
 refine wp_region_any hm (wpAny_inv (fun listed a w => ∃ x : Nat → Value, a = ⟨(overlay x 0 mask L).toArray, df⟩ ∧ T w0 w ∧ ∀ i, i < ops.size → listed.getD i false = true → (ps.getD i kAny).holds (x (dsts.getD i 0)) w) ?_ ?_ _ _ _ _ (by simp) (by simp) ?_)
 · rintro listed a w i hsz ⟨x, rfl, hbw, hk⟩ hi
   obtain ⟨hun, o, ho, hall⟩ := mem_ready.1 hi
   have his : i < ops.size := (Array.getElem?_eq_some_iff.1 ho).1
   have hst := StepsT.at_ ops.toList 0 i o hs (by rw [Array.getElem?_toList]; exact ho) x w hbw
   rw [Nat.zero_add] at hst
   have hbd := StepGoal.use (depsOf o) x (fun j hj => by
    obtain ⟨e, he, rfl⟩ := List.mem_map.1 hj
    obtain ⟨he1, he2⟩ := List.mem_filter.1 he
    have hl := hall e (by simpa using he1) he2
    refine hk e.on ?_ hl
    rcases Nat.lt_or_ge e.on listed.size with h' | h'
    · omega
    · rw [Array.getD_eq_getD_getElem?, Array.getElem?_eq_none h'] at hl; cases hl) hst
   refine wpOp_step ho (fun K' hK => hbd K' (fun v w' hb' hv => hK _ _ ⟨upd x (dsts.getD i 0) v, rfl, hTt hbw hb', fun j hj hlj => ?_⟩))
   by_cases hji : j = i
   · subst hji; rw [upd_eq]; exact hv
   · have hne : dsts.getD j 0 ≠ dsts.getD i 0 := by
      rw [hdg j hj, hdg i his]
      have h1 := List.all_eq_true.1 (List.all_eq_true.1 hd j (List.mem_range.2 hj)) i (List.mem_range.2 his)
      simpa [hji] using h1
     rw [upd_ne hne]
     refine hKT j _ _ _ hb' (hk j hj ?_)
     rw [Array.getD_eq_getD_getElem?] at hlj ⊢
     rwa [Array.getElem?_setIfInBounds_ne (Ne.symm hji)] at hlj
 · rintro listed a w hsz ⟨x, rfl, hbw, hk⟩ hr
   have hal := all_listed hb hsz hr
   exact StepGoal.use fin x (fun j hj => by
    have hjs : j < ops.size := of_decide_eq_true (List.all_eq_true.1 hfin j hj)
    exact hk j hjs (hal (j + 1) j (by omega) hjs)) (hdone x w hbw)
 · refine ⟨fun j => L.getD j undef, ?_, hT0, fun i hi h => ?_⟩
   · have := overlay_self L [] mask
     rw [List.nil_append, List.length_nil] at this
     rw [this]
   · rw [Array.getD_eq_getD_getElem?] at h
     simp [hi] at h
end Go.Proofs.YtfekohonidggjaaGreatDoor
