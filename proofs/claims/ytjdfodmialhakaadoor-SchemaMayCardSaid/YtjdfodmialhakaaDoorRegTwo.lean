/- A law for a region that draws its order and holds two appends in a row (the first may come anywhere among the others; the second, and what stores its value, come last): each operation is run once. -/
import Derived.Test.YtjdfodmialhakaaDoorRegApp
namespace Go.Proofs.YtjdfodmialhakaaDoor
open Go.RowKit

/-- The last operation, still to come. -/
def Rem (P : Program) (ops : Array Oper) (Q : Exit → Act → World → Prop) (o : Oper) (a : Act) (w : World) : Prop :=
  ∀ K' : Act → World → Prop, Shut (∀ a' w', Q .normal a' w' → K' a' w') →
    if Region.wanted o (yielded ops a.tmps) = true then Oper.wp P o a w K' Q else K' (Act.put a o.dst undef) w
def ChainBody (P : Program) (ops : Array Oper) (Q : Exit → Act → World → Prop) (mask : List Bool) (L : List Value) (df : List Deferred) (w : World) (o1 o2 : Oper) (x : Nat → Value) : Prop :=
  ∀ K' : Act → World → Prop, Shut (∀ a' w', Rem P ops Q o2 a' w' → K' a' w') →
    if Region.wanted o1 (yielded ops (overlay x 0 mask L).toArray) = true then Oper.wp P o1 ⟨(overlay x 0 mask L).toArray, df⟩ w K' Q else K' (Act.put ⟨(overlay x 0 mask L).toArray, df⟩ o1.dst undef) w
def Steps2 (P : Program) (ops : Array Oper) (Q : Exit → Act → World → Prop) (mask : List Bool) (L : List Value) (df : List Deferred) (ps : List Known) (dst : Nat → Nat) (a : Nat) (J V0 : World → Prop) (V1 : Value → World → Prop) (T : World → World → Prop) : Nat → List Oper → Prop
  | _, [] => True
  | i, o :: os => (if i = a then ∀ x w, J w → V0 w → StepGoal ps dst w (TurnBody P ops Q mask L df (fun v w' => T w w' ∧ V1 v w') w (dst i) o) (depsOf o) x
      else ∀ x w, J w → StepGoal ps dst w (StepBody P ops Q mask L df (ps.getD i kAny) w (dst i) o) (depsOf o) x) ∧ Steps2 P ops Q mask L df ps dst a J V0 V1 T (i + 1) os
theorem Steps2.at_ {P : Program} {ops : Array Oper} {Q : Exit → Act → World → Prop} {mask : List Bool} {L : List Value} {df : List Deferred} {ps : List Known} {dst : Nat → Nat} {a : Nat} {J V0 : World → Prop} {V1 : Value → World → Prop} {T : World → World → Prop} :
    ∀ (os : List Oper) (n i : Nat) (o : Oper), Steps2 P ops Q mask L df ps dst a J V0 V1 T n os → os[i]? = some o → (if n + i = a then ∀ x w, J w → V0 w → StepGoal ps dst w (TurnBody P ops Q mask L df (fun v w' => T w w' ∧ V1 v w') w (dst (n + i)) o) (depsOf o) x
      else ∀ x w, J w → StepGoal ps dst w (StepBody P ops Q mask L df (ps.getD (n + i) kAny) w (dst (n + i)) o) (depsOf o) x)
  | [], _, _, _, _, h => by simp at h
  | o' :: os, n, 0, o, hs, h => by
    simp only [List.getElem?_cons_zero, Option.some.injEq] at h
    subst h
    exact hs.1
  | o' :: os, n, i + 1, o, hs, h => by
    have := Steps2.at_ os (n + 1) i o hs.2 (by simpa using h)
    rw [show n + 1 + i = n + (i + 1) by omega] at this
    exact this
/-- No operation of the first n but a itself hangs on a. -/
def farB (ops : Array Oper) (n a : Nat) : Bool := (List.range n).all fun i => decide (i = a) || match ops[i]? with | some o => !(depsOf o).contains a | none => true
theorem region_two {P : Program} {id : Nat} {ops : Array Oper} {Q : Exit → Act → World → Prop} {L : List Value} {df : List Deferred} {w0 : World} (n a : Nat) (o1 o2 : Oper) (mask : List Bool) (dsts : List Nat) (ps : List Known) (J V0 : World → Prop) (V1 : Value → World → Prop) (T : World → World → Prop) (fin : List Nat)
    (hJ : ∀ w w', J w → Below w.heap.size w w' → J w') (hV : ∀ w w', V0 w → Below w.heap.size w w' → V0 w') (hV1 : ∀ v w w', V1 v w → Below w.heap.size w w' → V1 v w') (hJT : ∀ w w', T w w' → J w → J w')
    (hKT : ∀ k ∈ ps, ∀ v w w', T w w' → k.holds v w → k.holds v w') (hJ0 : J w0) (hV0 : V0 w0)
    (hm : P.follows .mixedOrders = true) (hn : ops.size = n + 2) (ho1 : ops[n]? = some o1) (ho2 : ops[n + 1]? = some o2) (ha : a < n) (hb : backB ops = true) (hf : feedB ops n = true) (hf2 : (depsOf o2).contains n = true) (hfar : farB ops n a = true)
    (hdl : dsts = (List.range n).map (dstN ops)) (hd : distB (ops.extract 0 n) = true) (hfin : fin.all (fun j => decide (j < n) && !decide (j = a)) = true)
    (hs : Steps2 P ops Q mask L df ps (fun i => dsts.getD i 0) a J V0 V1 T 0 (ops.toList.take n))
    (hdone : ∀ x w v, J w → V1 v w → StepGoal ps (fun i => dsts.getD i 0) w (fun x => ChainBody P ops Q mask L df w o1 o2 (upd x (dsts.getD a 0) v)) fin x) :
    (Code.region id ops true).wp P Q ⟨L.toArray, df⟩ w0 := by
  have hdg : ∀ i, i < n → dsts.getD i 0 = dstN ops i := by
    intro i hi
    rw [hdl, List.getD_eq_getElem?_getD, List.getElem?_map, List.getElem?_range hi]
    rfl
  have hdist : ∀ i j, i < n → j < n → i ≠ j → dsts.getD i 0 ≠ dsts.getD j 0 := by
    intro i j hi hj hne
    rw [hdg i hi, hdg j hj]
    have hsz : (ops.extract 0 n).size = n := by simp; omega
    have h1 := List.all_eq_true.1 (List.all_eq_true.1 hd i (List.mem_range.2 (by omega))) j (List.mem_range.2 (by omega))
    have e : ∀ q, q < n → dstN (ops.extract 0 n) q = dstN ops q := by
      intro q hq
      unfold dstN
      rw [Array.getElem?_extract]
      simp [hq, hn]
    rw [e i hi, e j hj] at h1
    simpa [hne] using h1
  have hKT' : ∀ i v w w', T w w' → (ps.getD i kAny).holds v w → (ps.getD i kAny).holds v w' := by
    intro i v w w' ht h
    by_cases hi : i < ps.length
    · have e : ps.getD i kAny = ps[i] := by rw [List.getD_eq_getElem?_getD, List.getElem?_eq_getElem hi]; rfl
      rw [e] at h ⊢
      exact hKT _ (List.getElem_mem hi) _ _ _ ht h
    · have e : ps.getD i kAny = kAny := by rw [List.getD_eq_getElem?_getD, List.getElem?_eq_none (by omega)]; rfl
      rw [e]
      exact trivial
  let dc : Array Bool → Prop := fun listed => ∀ i o, ops[i]? = some o → listed.getD i false = true → ∀ e ∈ o.after, Region.binds .any e = true → listed.getD e.on false = true
  have hcl : ∀ listed : Array Bool, dc listed → (∀ e ∈ o1.after, Region.binds .any e = true → listed.getD e.on false = true) → ∀ m i, i + m = n → 0 < m → listed.getD i false = true := by
    intro listed hdc hl m
    induction m using Nat.strongRecOn with
    | _ m ih =>
      intro i him hm0
      have h1 := List.all_eq_true.1 hf i (List.mem_range.2 (by omega))
      obtain ⟨j, hj, h2⟩ := List.any_eq_true.1 h1
      have hj' := List.mem_range.1 hj
      have hjs : j < ops.size := by omega
      have ho : ops[j]? = some ops[j] := Array.getElem?_eq_getElem hjs
      rw [ho] at h2
      obtain ⟨e, he, hbd, hei⟩ := mem_deps h2
      have hlt : e.on < j := back_lt hb ho he hbd
      subst hei
      by_cases hjn : j = n
      · subst hjn
        rw [ho1] at ho
        cases ho
        exact hl e he hbd
      · exact hdc j _ ho (ih (n - j) (by omega) j (by omega) (by omega)) e he hbd
  obtain ⟨e2, he2, hbd2, hon2⟩ := mem_deps hf2
  refine wp_region_any hm (wpAny_inv (fun listed ac w => dc listed ∧ ((listed.getD (n + 1) false = true ∧ Q .normal ac w) ∨ (listed.getD (n + 1) false = false ∧ listed.getD n false = true ∧ Rem P ops Q o2 ac w)
      ∨ (listed.getD (n + 1) false = false ∧ listed.getD n false = false ∧ ∃ x : Nat → Value, ac = ⟨(overlay x 0 mask L).toArray, df⟩ ∧ J w ∧ ((listed.getD a false = false ∧ V0 w) ∨ (listed.getD a false = true ∧ V1 (x (dsts.getD a 0)) w)) ∧ ∀ i, i < n → i ≠ a → listed.getD i false = true → (ps.getD i kAny).holds (x (dsts.getD i 0)) w))) ?_ ?_ _ _ _ _ (by simp) (by simp) ?_)
  · rintro listed ac w i hsz ⟨hdc, hor⟩ hi
    obtain ⟨hun, o, ho, hall⟩ := mem_ready.1 hi
    have his : i < ops.size := (Array.getElem?_eq_some_iff.1 ho).1
    have hun' : listed.getD i false = false := by
      rw [Array.getD_eq_getD_getElem?] at hun ⊢
      rw [Array.getElem?_eq_getElem (by omega)] at hun ⊢
      exact hun
    have hset : ∀ j, j ≠ i → (listed.setIfInBounds i true).getD j false = listed.getD j false := by
      intro j hj
      rw [Array.getD_eq_getD_getElem?, Array.getD_eq_getD_getElem?, Array.getElem?_setIfInBounds_ne (Ne.symm hj)]
    have hsetI : (listed.setIfInBounds i true).getD i false = true := by
      rw [Array.getD_eq_getD_getElem?, Array.getElem?_setIfInBounds_self_of_lt (by omega)]
      rfl
    have hdc' : dc (listed.setIfInBounds i true) := by
      intro j oj hoj hlj e he hbd
      have key : listed.getD e.on false = true := by
        by_cases hji : j = i
        · subst hji
          rw [ho] at hoj
          cases hoj
          exact hall e he hbd
        · refine hdc j oj hoj ?_ e he hbd
          rw [hset j hji] at hlj
          exact hlj
      by_cases hei : e.on = i
      · rw [hei] at key
        rw [hun'] at key
        cases key
      · rw [hset _ hei]; exact key
    have hcl1 : listed.getD n false = true → ∀ j, j < n → listed.getD j false = true := fun hln j hj => hcl listed hdc (fun e he hbd => hdc n o1 ho1 hln e he hbd) (n - j) j (by omega) (by omega)
    have hcl2 : listed.getD (n + 1) false = true → listed.getD n false = true := fun hl => by
      have := hdc (n + 1) o2 ho2 hl e2 he2 hbd2
      rwa [hon2] at this
    rcases hor with ⟨hln, _⟩ | ⟨hl1, hln, hrem⟩ | ⟨hl1, hln, x, rfl, hJw, hor, hk⟩
    · exfalso
      have h1 := hcl2 hln
      by_cases h2 : i = n + 1
      · subst h2; rw [hln] at hun'; cases hun'
      · by_cases h3 : i = n
        · subst h3; rw [h1] at hun'; cases hun'
        · rw [hcl1 h1 i (by omega)] at hun'; cases hun'
    · by_cases h2 : i = n + 1
      · subst h2
        rw [ho2] at ho
        cases ho
        refine wpOp_step ho2 (fun K' hK => hrem K' (fun a' w' hq => hK _ _ ⟨hdc', Or.inl ⟨hsetI, hq⟩⟩))
      · exfalso
        by_cases h3 : i = n
        · subst h3; rw [hln] at hun'; cases hun'
        · rw [hcl1 hln i (by omega)] at hun'; cases hun'
    · by_cases h2 : i = n + 1
      · exfalso
        subst h2
        rw [ho2] at ho
        cases ho
        have := hall e2 he2 hbd2
        rw [hon2, hln] at this
        cases this
      · by_cases hin : i = n
        · subst hin
          rw [ho1] at ho
          cases ho
          have hl0 : ∀ j, j < i → listed.getD j false = true := fun j hj => hcl listed hdc hall (i - j) j (by omega) (by omega)
          rcases hor with ⟨hla, _⟩ | ⟨hla, hv1⟩
          · rw [hl0 a ha] at hla; cases hla
          have hbd := StepGoal.use fin x (fun j hj => by
            have h1 := List.all_eq_true.1 hfin j hj
            simp only [Bool.and_eq_true, decide_eq_true_eq, Bool.not_eq_true', decide_eq_false_iff_not] at h1
            exact hk j h1.1 h1.2 (hl0 j h1.1)) (hdone x w _ hJw hv1)
          simp only [upd_self] at hbd
          refine wpOp_step ho1 (fun K' hK => hbd K' (fun a' w' hq => hK _ _ ⟨hdc', Or.inr (Or.inl ⟨?_, hsetI, hq⟩)⟩))
          rw [hset (i + 1) (by omega)]; exact hl1
        · have hilt : i < n := by omega
          have hst := Steps2.at_ (ops.toList.take n) 0 i o hs (by rw [List.getElem?_take_of_lt hilt, Array.getElem?_toList]; exact ho)
          rw [Nat.zero_add] at hst
          have hlt2 : ∀ e ∈ o.after, Region.binds .any e = true → e.on < i := fun e he hbd => back_lt hb ho he hbd
          by_cases hia : i = a
          · rw [if_pos hia] at hst
            rcases hor with ⟨_, hv0⟩ | ⟨hla, _⟩
            · have hbd := StepGoal.use (depsOf o) x (fun j hj => by
                obtain ⟨e, he, rfl⟩ := List.mem_map.1 hj
                obtain ⟨he1, he2⟩ := List.mem_filter.1 he
                have he1' : e ∈ o.after := by simpa using he1
                have := hlt2 e he1' he2
                exact hk e.on (by omega) (by omega) (hall e he1' he2)) (hst x w hJw hv0)
              refine wpOp_step ho (fun K' hK => hbd K' (fun v w' hv => hK _ _ ⟨hdc', Or.inr (Or.inr ⟨by rw [hset (n + 1) (by omega)]; exact hl1, by rw [hset n (by omega)]; exact hln, upd x (dsts.getD i 0) v, rfl, hJT _ _ hv.1 hJw, Or.inr ⟨by rw [← hia]; exact hsetI, by rw [hia, upd_eq]; exact hv.2⟩, fun j hj hja hlj => ?_⟩)⟩))
              have hji : j ≠ i := by omega
              rw [upd_ne (hdist j i hj hilt hji)]
              rw [hset j hji] at hlj
              exact hKT' j _ _ _ hv.1 (hk j hj hja hlj)
            · rw [← hia, hun'] at hla; cases hla
          · rw [if_neg hia] at hst
            have hbd := StepGoal.use (depsOf o) x (fun j hj => by
              have hja : j ≠ a := by
                have h1 := List.all_eq_true.1 hfar i (List.mem_range.2 hilt)
                rw [decide_eq_false hia, Bool.false_or, ho] at h1
                intro e
                subst e
                have : (depsOf o).contains j = true := by simpa using hj
                simp only at h1
                rw [this] at h1
                cases h1
              obtain ⟨e, he, rfl⟩ := List.mem_map.1 hj
              obtain ⟨he1, he2⟩ := List.mem_filter.1 he
              have he1' : e ∈ o.after := by simpa using he1
              have := hlt2 e he1' he2
              exact hk e.on (by omega) hja (hall e he1' he2)) (hst x w hJw)
            refine wpOp_step ho (fun K' hK => hbd K' (fun v w' hb' hv => hK _ _ ⟨hdc', Or.inr (Or.inr ⟨by rw [hset (n + 1) (by omega)]; exact hl1, by rw [hset n (by omega)]; exact hln, upd x (dsts.getD i 0) v, rfl, hJ _ _ hJw hb', ?_, fun j hj hja hlj => ?_⟩)⟩))
            · rw [hset a (Ne.symm hia), upd_ne (hdist a i ha hilt (Ne.symm hia))]
              rcases hor with ⟨h1, h2⟩ | ⟨h1, h2⟩
              · exact Or.inl ⟨h1, hV _ _ h2 hb'⟩
              · exact Or.inr ⟨h1, hV1 _ _ _ h2 hb'⟩
            · by_cases hji : j = i
              · subst hji; rw [upd_eq]; exact hv
              · rw [upd_ne (hdist j i hj hilt hji)]
                rw [hset j hji] at hlj
                exact Known.ext (hk j hj hja hlj) hb'
  · rintro listed ac w hsz ⟨hdc, hor⟩ hr
    have hal := all_listed hb hsz hr
    rcases hor with ⟨_, hq⟩ | ⟨hl1, _⟩ | ⟨hl1, _⟩
    · exact hq
    · rw [hal (n + 2) (n + 1) (by omega) (by omega)] at hl1
      cases hl1
    · rw [hal (n + 2) (n + 1) (by omega) (by omega)] at hl1
      cases hl1
  · have hzero : ∀ i, i < ops.size → (Array.replicate ops.size false).getD i false = false := by
      intro i hi
      rw [Array.getD_eq_getD_getElem?]
      simp [hi]
    have hbd0 : Below w0.heap.size w0 w0.drew := (Below.refl _ _).drew
    refine ⟨fun i o hoi h => ?_, Or.inr (Or.inr ⟨hzero (n + 1) (by omega), hzero n (by omega), fun j => L.getD j undef, ?_, hJ _ _ hJ0 hbd0, Or.inl ⟨hzero a (by omega), hV _ _ hV0 hbd0⟩, fun i hi _ h => ?_⟩)⟩
    · have hi : i < ops.size := (Array.getElem?_eq_some_iff.1 hoi).1
      rw [hzero i hi] at h
      cases h
    · have := overlay_self L [] mask
      rw [List.nil_append, List.length_nil] at this
      rw [this]
    · rw [hzero i (by omega)] at h
      cases h
end Go.Proofs.YtjdfodmialhakaaDoor
