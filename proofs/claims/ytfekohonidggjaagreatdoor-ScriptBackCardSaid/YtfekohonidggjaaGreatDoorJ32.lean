/- Several texts in one: see each part's head. -/
import Derived.Test.YtfekohonidggjaaGreatDoorJ21
/- As region_pair, what is stored being told by a predicate. -/
namespace Go.Proofs.YtfekohonidggjaaGreatDoor
open Go.RowKit

def PairBodyG (P : Program) (ops : Array Oper) (Q : Exit → Act → World → Prop) (mask : List Bool) (L : List Value) (df : List Deferred) (w : World) (g : Nat) (FP : Array Value → World → Prop) (t : TypeId) (d : Nat) (o : Oper) (x : Nat → Value) : Prop :=
  ∀ K' : Act → World → Prop, Shut (∀ v F, FP F (putBlk w g F t) → K' ⟨(overlay (upd x d v) 0 mask L).toArray, df⟩ (putBlk w g F t)) →
    if Region.wanted o (yielded ops (overlay x 0 mask L).toArray) = true then Oper.wp P o ⟨(overlay x 0 mask L).toArray, df⟩ w K' Q else K' (Act.put ⟨(overlay x 0 mask L).toArray, df⟩ o.dst undef) w
def StepsG (P : Program) (ops : Array Oper) (Q : Exit → Act → World → Prop) (mask : List Bool) (L : List Value) (df : List Deferred) (ps : List Known) (dst : Nat → Nat) (a s : Nat) (Z : Array Value) (FP : Array Value → World → Prop) (t : TypeId) (w0 : World) : Nat → List Oper → Prop
  | _, [] => True
  | i, o :: os => (if i = s then ∀ x w g, Below w0.heap.size w0 w → w0.heap.size ≤ g → Blk w g Z t → StepGoal ps dst w (fun x => PairBodyG P ops Q mask L df w g FP t (dst s) o (upd x (dst a) (.pointer (some ⟨g, 0, none⟩)))) ((depsOf o).filter fun j => !decide (j = a)) x
      else ∀ x w, Below w0.heap.size w0 w → StepGoal ps dst w (StepBody P ops Q mask L df (ps.getD i kAny) w (dst i) o) ((depsOf o).filter fun j => !decide (j = a) && !decide (j = s)) x) ∧ StepsG P ops Q mask L df ps dst a s Z FP t w0 (i + 1) os
theorem StepsG.at_ {P : Program} {ops : Array Oper} {Q : Exit → Act → World → Prop} {mask : List Bool} {L : List Value} {df : List Deferred} {ps : List Known} {dst : Nat → Nat} {a s : Nat} {Z : Array Value} {FP : Array Value → World → Prop} {t : TypeId} {w0 : World} :
    ∀ (os : List Oper) (n i : Nat) (o : Oper), StepsG P ops Q mask L df ps dst a s Z FP t w0 n os → os[i]? = some o → (if n + i = s then ∀ x w g, Below w0.heap.size w0 w → w0.heap.size ≤ g → Blk w g Z t → StepGoal ps dst w (fun x => PairBodyG P ops Q mask L df w g FP t (dst s) o (upd x (dst a) (.pointer (some ⟨g, 0, none⟩)))) ((depsOf o).filter fun j => !decide (j = a)) x
      else ∀ x w, Below w0.heap.size w0 w → StepGoal ps dst w (StepBody P ops Q mask L df (ps.getD (n + i) kAny) w (dst (n + i)) o) ((depsOf o).filter fun j => !decide (j = a) && !decide (j = s)) x)
  | [], _, _, _, _, h => by simp at h
  | o' :: os, n, 0, o, hs, h => by
    simp only [List.getElem?_cons_zero, Option.some.injEq] at h
    subst h
    exact hs.1
  | o' :: os, n, i + 1, o, hs, h => by
    have := StepsG.at_ os (n + 1) i o hs.2 (by simpa using h)
    rw [show n + 1 + i = n + (i + 1) by omega] at this
    exact this
theorem region_pairG {P : Program} {id : Nat} {ops : Array Oper} {Q : Exit → Act → World → Prop} {L : List Value} {df : List Deferred} {w0 : World} (a s : Nat) (Z : Array Value) (FP : Array Value → World → Prop) (t : TypeId) (mask : List Bool) (dsts : List Nat) (ps : List Known) (fin : List Nat)
    (hpa : ps.getD a kAny = kPair w0.heap.size Z t) (hFP : ∀ F w w', FP F w → Below w.heap.size w w' → FP F w') (hkp : ∀ F i, i ≠ a → i ≠ s → KP w0.heap.size Z F t (ps.getD i kAny))
    (hm : P.follows .mixedOrders = true) (ha : a < ops.size) (hs0 : s < ops.size) (hb : backB ops = true) (hsa : (match ops[s]? with | some o => (depsOf o).contains a | none => false) = true) (hdl : dsts = (List.range ops.size).map (dstN ops)) (hd : distB ops = true) (hfin : fin.all (fun j => decide (j < ops.size) && !decide (j = a) && !decide (j = s)) = true)
    (hs : StepsG P ops Q mask L df ps (fun i => dsts.getD i 0) a s Z FP t w0 0 ops.toList)
    (hdone : ∀ x w g F, Below w0.heap.size w0 w → w0.heap.size ≤ g → Blk w g F t → FP F w → StepGoal ps (fun i => dsts.getD i 0) w (fun x => Q .normal ⟨(overlay (upd x (dsts.getD a 0) (.pointer (some ⟨g, 0, none⟩))) 0 mask L).toArray, df⟩ w) fin x) :
    (Code.region id ops true).wp P Q ⟨L.toArray, df⟩ w0 := by
  have hdg : ∀ i, i < ops.size → dsts.getD i 0 = dstN ops i := by
    intro i hi
    rw [hdl, List.getD_eq_getElem?_getD, List.getElem?_map, List.getElem?_range hi]
    rfl
  have hne : ∀ i j, i < ops.size → j < ops.size → i ≠ j → dsts.getD i 0 ≠ dsts.getD j 0 := by
    intro i j hi hj hij
    rw [hdg i hi, hdg j hj]
    have h1 := List.all_eq_true.1 (List.all_eq_true.1 hd i (List.mem_range.2 hi)) j (List.mem_range.2 hj)
    simpa [hij] using h1
  have hlt : ∀ i o, ops[i]? = some o → ∀ j ∈ depsOf o, j < i := by
    intro i o ho j hj
    obtain ⟨e, he, hbd, rfl⟩ := mem_deps (i := j) (o := o) (by simpa using hj)
    exact back_lt hb ho he hbd
  have has : a ≠ s := by
    intro e
    subst e
    have ho : ops[a]? = some ops[a] := Array.getElem?_eq_getElem ha
    rw [ho] at hsa
    have := hlt a _ ho a (by simpa using hsa)
    omega
  refine wp_region_any hm (wpAny_inv (fun listed ac w => ∃ x : Nat → Value, ac = ⟨(overlay x 0 mask L).toArray, df⟩ ∧ Below w0.heap.size w0 w ∧ (∀ i, i < ops.size → listed.getD i false = true → i ≠ a → i ≠ s → (ps.getD i kAny).holds (x (dsts.getD i 0)) w) ∧ (listed.getD s false = true → listed.getD a false = true) ∧ (listed.getD a false = true → ∃ g, x (dsts.getD a 0) = .pointer (some ⟨g, 0, none⟩) ∧ w0.heap.size ≤ g ∧ (listed.getD s false = true → ∃ F, Blk w g F t ∧ FP F w) ∧ (listed.getD s false = false → Blk w g Z t))) ?_ ?_ _ _ _ _ (by simp) (by simp) ?_)
  · rintro listed ac w i hsz ⟨x, rfl, hbw, hk, hsl, hp⟩ hi
    obtain ⟨hun, o, ho, hall⟩ := mem_ready.1 hi
    have his : i < ops.size := (Array.getElem?_eq_some_iff.1 ho).1
    have hun' : listed.getD i false = false := by
      rw [Array.getD_eq_getD_getElem?] at hun ⊢
      rw [Array.getElem?_eq_getElem (by omega)] at hun ⊢
      exact hun
    have hset : ∀ j, j ≠ i → (listed.setIfInBounds i true).getD j false = listed.getD j false := by
      intro j hj
      rw [Array.getD_eq_getD_getElem?, Array.getD_eq_getD_getElem?, Array.getElem?_setIfInBounds_ne (Ne.symm hj)]
    have hseti : (listed.setIfInBounds i true).getD i false = true := by
      rw [Array.getD_eq_getD_getElem?, Array.getElem?_setIfInBounds_self_of_lt (by omega)]
      rfl
    have hdl' : ∀ j ∈ depsOf o, listed.getD j false = true ∧ j < ops.size := by
      intro j hj
      obtain ⟨e, he, rfl⟩ := List.mem_map.1 hj
      obtain ⟨he1, he2⟩ := List.mem_filter.1 he
      have hl := hall e (by simpa using he1) he2
      refine ⟨hl, ?_⟩
      rcases Nat.lt_or_ge e.on listed.size with h' | h'
      · omega
      · rw [Array.getD_eq_getD_getElem?, Array.getElem?_eq_none h'] at hl; cases hl
    have hst := StepsG.at_ ops.toList 0 i o hs (by rw [Array.getElem?_toList]; exact ho)
    rw [Nat.zero_add] at hst
    by_cases hxs : i = s
    · subst hxs
      rw [if_pos rfl] at hst
      have hla : listed.getD a false = true := by
        rw [ho] at hsa
        exact (hdl' a (by simpa using hsa)).1
      obtain ⟨g, hg1, hg2, hg3, hg4⟩ := hp hla
      have hZ := hg4 hun'
      have hbd := StepGoal.use ((depsOf o).filter fun j => !decide (j = a)) x (fun j hj => by
        obtain ⟨hj1, hj2⟩ := List.mem_filter.1 hj
        have hja : j ≠ a := by simpa using hj2
        have hji : j ≠ i := by have := hlt i o ho j hj1; omega
        exact hk j (hdl' j hj1).2 (hdl' j hj1).1 hja hji) (hst x w g hbw hg2 hZ)
      have e1 : upd x (dsts.getD a 0) (.pointer (some ⟨g, 0, none⟩)) = x := by rw [← hg1]; exact upd_self x _
      simp only [e1] at hbd
      refine wpOp_step ho (fun K' hK => hbd K' (fun v F hF => hK _ _ ⟨upd x (dsts.getD i 0) v, rfl, putBlk_below _ _ hbw hg2, fun j hj hlj hja hji => ?_, fun _ => by rw [hset a has]; exact hla, fun _ => ⟨g, by rw [upd_ne (hne a i ha his has)]; exact hg1, hg2, fun _ => ?_, fun h => ?_⟩⟩))
      · rw [hset j hji] at hlj
        rw [upd_ne (hne j i hj his hji)]
        exact hkp F j hja hji _ w g hg2 hZ (hk j hj hlj hja hji)
      · exact ⟨F, putBlk_blk _ _ hZ.lt, hF⟩
      · rw [hseti] at h; cases h
    · rw [if_neg hxs] at hst
      have hbd := StepGoal.use ((depsOf o).filter fun j => !decide (j = a) && !decide (j = s)) x (fun j hj => by
        obtain ⟨hj1, hj2⟩ := List.mem_filter.1 hj
        simp only [Bool.and_eq_true, Bool.not_eq_true', decide_eq_false_iff_not] at hj2
        exact hk j (hdl' j hj1).2 (hdl' j hj1).1 hj2.1 hj2.2) (hst x w hbw)
      refine wpOp_step ho (fun K' hK => hbd K' (fun v w' hb' hv => hK _ _ ⟨upd x (dsts.getD i 0) v, rfl, hbw.trans (hb'.mono hbw.size), fun j hj hlj hja hjs => ?_, fun h => ?_, fun h => ?_⟩))
      · by_cases hji : j = i
        · subst hji; rw [upd_eq]; exact hv
        · rw [hset j hji] at hlj
          rw [upd_ne (hne j i hj his hji)]
          exact Known.ext (hk j hj hlj hja hjs) hb'
      · rw [hset s (Ne.symm hxs)] at h
        by_cases hia : a = i
        · subst hia; exact hseti
        · rw [hset a hia]; exact hsl h
      · rw [hset s (Ne.symm hxs)]
        by_cases hia : a = i
        · subst hia
          rw [hpa] at hv
          obtain ⟨g, hg1, hg2, hg3⟩ := hv
          exact ⟨g, by rw [upd_eq]; exact hg1, hg2, fun h' => (by rw [hsl h'] at hun'; cases hun'), fun _ => hg3⟩
        · rw [hset a hia] at h
          obtain ⟨g, hg1, hg2, hg3, hg4⟩ := hp h
          exact ⟨g, by rw [upd_ne (hne a i ha his hia)]; exact hg1, hg2, fun h' => (by obtain ⟨F, h1, h2⟩ := hg3 h'; exact ⟨F, h1.ext hb', hFP F _ _ h2 hb'⟩), fun h' => (hg4 h').ext hb'⟩
  · rintro listed ac w hsz ⟨x, rfl, hbw, hk, hsl, hp⟩ hr
    have hal := all_listed hb hsz hr
    obtain ⟨g, hg1, hg2, hg3, _⟩ := hp (hal (a + 1) a (by omega) ha)
    obtain ⟨F, hF1, hF2⟩ := hg3 (hal (s + 1) s (by omega) hs0)
    have hx := StepGoal.use fin x (fun j hj => by
      have h1 := List.all_eq_true.1 hfin j hj
      simp only [Bool.and_eq_true, decide_eq_true_eq, Bool.not_eq_true', decide_eq_false_iff_not] at h1
      exact hk j h1.1.1 (hal (j + 1) j (by omega) h1.1.1) h1.1.2 h1.2) (hdone x w g F hbw hg2 hF1 hF2)
    have e1 : upd x (dsts.getD a 0) (.pointer (some ⟨g, 0, none⟩)) = x := by rw [← hg1]; exact upd_self x _
    simp only [e1] at hx
    exact hx
  · refine ⟨fun j => L.getD j undef, ?_, (Below.refl _ _).drew, fun i hi h => ?_, fun h => ?_, fun h => ?_⟩
    · have := overlay_self L [] mask
      rw [List.nil_append, List.length_nil] at this
      rw [this]
    · rw [Array.getD_eq_getD_getElem?] at h
      simp [hi] at h
    · rw [Array.getD_eq_getD_getElem?] at h
      simp [hs0] at h
    · rw [Array.getD_eq_getD_getElem?] at h
      simp [ha] at h
end Go.Proofs.YtfekohonidggjaaGreatDoor
