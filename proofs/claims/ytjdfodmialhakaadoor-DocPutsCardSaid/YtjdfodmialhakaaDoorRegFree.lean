/- The law of region_grow with any relation T of the worlds in Below's place: for regions that store into what they have made themselves. -/
import Derived.Test.YtjdfodmialhakaaDoorRegApp
namespace Go.Proofs.YtjdfodmialhakaaDoor
open Go.RowKit

def KT (T : World → World → Prop) (k : Known) : Prop := ∀ v w w', T w w' → k.holds v w → k.holds v w'
theorem KT.val {T : World → World → Prop} (c : Value) : KT T (.val c) := fun _ _ _ _ h => h
def StepBodyT (P : Program) (ops : Array Oper) (Q : Exit → Act → World → Prop) (mask : List Bool) (L : List Value) (df : List Deferred) (T : World → World → Prop) (k : Known) (w : World) (d : Nat) (o : Oper) (x : Nat → Value) : Prop :=
  ∀ K' : Act → World → Prop, Shut (∀ v w', T w w' → k.holds v w' → K' ⟨(overlay (upd x d v) 0 mask L).toArray, df⟩ w') →
    if Region.wanted o (yielded ops (overlay x 0 mask L).toArray) = true then Oper.wp P o ⟨(overlay x 0 mask L).toArray, df⟩ w K' Q else K' (Act.put ⟨(overlay x 0 mask L).toArray, df⟩ o.dst undef) w
def StepsT (P : Program) (ops : Array Oper) (Q : Exit → Act → World → Prop) (mask : List Bool) (L : List Value) (df : List Deferred) (T : World → World → Prop) (ps : List Known) (dst : Nat → Nat) (w0 : World) : Nat → List Oper → Prop
  | _, [] => True
  | i, o :: os => (∀ x w, T w0 w → StepGoal ps dst w (StepBodyT P ops Q mask L df T (ps.getD i kAny) w (dst i) o) (depsOf o) x) ∧ StepsT P ops Q mask L df T ps dst w0 (i + 1) os
theorem StepsT.at_ {P : Program} {ops : Array Oper} {Q : Exit → Act → World → Prop} {mask : List Bool} {L : List Value} {df : List Deferred} {T : World → World → Prop} {ps : List Known} {dst : Nat → Nat} {w0 : World} :
    ∀ (os : List Oper) (n i : Nat) (o : Oper), StepsT P ops Q mask L df T ps dst w0 n os → os[i]? = some o → ∀ x w, T w0 w → StepGoal ps dst w (StepBodyT P ops Q mask L df T (ps.getD (n + i) kAny) w (dst (n + i)) o) (depsOf o) x
  | [], _, _, _, _, h => by simp at h
  | o' :: os, n, 0, o, hs, h => by
    simp only [List.getElem?_cons_zero, Option.some.injEq] at h
    subst h
    exact hs.1
  | o' :: os, n, i + 1, o, hs, h => by
    have := StepsT.at_ os (n + 1) i o hs.2 (by simpa using h)
    rw [show n + 1 + i = n + (i + 1) by omega] at this
    exact this
theorem region_free {P : Program} {id : Nat} {ops : Array Oper} {Q : Exit → Act → World → Prop} {L : List Value} {df : List Deferred} {w0 : World} (T : World → World → Prop) (mask : List Bool) (dsts : List Nat) (ps : List Known) (fin : List Nat)
    (hT0 : T w0 w0.drew) (hTt : ∀ {a b c}, T a b → T b c → T a c) (hTk : ∀ k ∈ ps, KT T k)
    (hm : P.follows .mixedOrders = true) (hb : backB ops = true) (hdl : dsts = (List.range ops.size).map (dstN ops)) (hd : distB ops = true) (hfin : fin.all (fun j => decide (j < ops.size)) = true)
    (hs : StepsT P ops Q mask L df T ps (fun i => dsts.getD i 0) w0 0 ops.toList)
    (hdone : ∀ x w, T w0 w → StepGoal ps (fun i => dsts.getD i 0) w (fun x => Q .normal ⟨(overlay x 0 mask L).toArray, df⟩ w) fin x) :
    (Code.region id ops true).wp P Q ⟨L.toArray, df⟩ w0 := by
  have hKT : ∀ i, KT T (ps.getD i kAny) := by
    intro i
    rw [List.getD_eq_getElem?_getD]
    cases h : ps[i]? with
    | none => exact fun _ _ _ _ _ => trivial
    | some k => exact hTk k (List.mem_of_getElem? h)
  have hdg : ∀ i, i < ops.size → dsts.getD i 0 = dstN ops i := by
    intro i hi
    rw [hdl, List.getD_eq_getElem?_getD, List.getElem?_map, List.getElem?_range hi]
    rfl
  refine wp_region_any hm (wpAny_inv (fun listed a w => ∃ x : Nat → Value, a = ⟨(overlay x 0 mask L).toArray, df⟩ ∧ T w0 w ∧ ∀ i, i < ops.size → listed.getD i false = true → (ps.getD i kAny).holds (x (dsts.getD i 0)) w) ?_ ?_ _ _ _ _ (by simp) (by simp) ?_)
  · rintro listed a w i hsz ⟨x, rfl, hbw, hk⟩ hi
    obtain ⟨hun, o, ho, hall⟩ := mem_ready.1 hi
    have his : i < ops.size := (Array.getElem?_eq_some_iff.1 ho).1
    have hst := StepsT.at_ ops.toList 0 i o hs (by rw [Array.getElem?_toList]; exact ho) x w hbw
    rw [Nat.zero_add] at hst
    have hbd := StepGoal.use (depsOf o) x (fun j hj => by
      obtain ⟨e, he, rfl⟩ := List.mem_map.1 hj
      obtain ⟨he1, he2⟩ := List.mem_filter.1 he
      have hl := hall e (by simpa using he1) he2
      refine hk e.on ?_ hl
      rcases Nat.lt_or_ge e.on listed.size with h' | h'
      · omega
      · rw [Array.getD_eq_getD_getElem?, Array.getElem?_eq_none h'] at hl; cases hl) hst
    refine wpOp_step ho (fun K' hK => hbd K' (fun v w' hb' hv => hK _ _ ⟨upd x (dsts.getD i 0) v, rfl, hTt hbw hb', fun j hj hlj => ?_⟩))
    by_cases hji : j = i
    · subst hji; rw [upd_eq]; exact hv
    · have hne : dsts.getD j 0 ≠ dsts.getD i 0 := by
        rw [hdg j hj, hdg i his]
        have h1 := List.all_eq_true.1 (List.all_eq_true.1 hd j (List.mem_range.2 hj)) i (List.mem_range.2 his)
        simpa [hji] using h1
      rw [upd_ne hne]
      refine hKT j _ _ _ hb' (hk j hj ?_)
      rw [Array.getD_eq_getD_getElem?] at hlj ⊢
      rwa [Array.getElem?_setIfInBounds_ne (Ne.symm hji)] at hlj
  · rintro listed a w hsz ⟨x, rfl, hbw, hk⟩ hr
    have hal := all_listed hb hsz hr
    exact StepGoal.use fin x (fun j hj => by
      have hjs : j < ops.size := of_decide_eq_true (List.all_eq_true.1 hfin j hj)
      exact hk j hjs (hal (j + 1) j (by omega) hjs)) (hdone x w hbw)
  · refine ⟨fun j => L.getD j undef, ?_, hT0, fun i hi h => ?_⟩
    · have := overlay_self L [] mask
      rw [List.nil_append, List.length_nil] at this
      rw [this]
    · rw [Array.getD_eq_getD_getElem?] at h
      simp [hi] at h
end Go.Proofs.YtjdfodmialhakaaDoor
