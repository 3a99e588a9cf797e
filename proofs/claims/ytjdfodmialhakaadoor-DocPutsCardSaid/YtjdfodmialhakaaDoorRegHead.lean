/- Several texts in one: see each part's head. -/
import Derived.Test.YtjdfodmialhakaaDoorRegApp
import Derived.OrdersIn
import Derived.RangeFuncCalls
import Derived.TacticsIn
/- Regions that draw their order, within a round of a loop over a function. -/
namespace Go.Proofs.YtjdfodmialhakaaDoor
open Go.RowKit

theorem rowsIn_round {n : Nat} {P : Program} {l : Nat} {row : String} {args : Array Value} {w : World} {R : Value → World → Prop} (h : Rows P row args w R) : RowsIn (Fence.wide.inRound l) n P row args w R := by
  intro c cs _
  obtain ⟨v, w', hr, hs⟩ := h c cs
  exact ⟨v, w', hr, stepsIn_wide.2 hs⟩
theorem Oper.wpIn_of_wp {l n : Nat} {P : Program} {o : Oper} {a : Act} {w : World} {K : Act → World → Prop} {Q : Exit → Act → World → Prop} (hnd : ∀ c, o.op ≠ .defer c) (h : o.wp P a w K Q) : o.wpIn (Fence.wide.inRound l) n P a w K Q := by
  refine ⟨fun _ _ => trivial, ?_⟩
  unfold Oper.wp at h
  rw [show (Fence.wide.inRound l).round = some l from rfl, Oper.semAt_some l _ o hnd]
  generalize (execOp a.eval o).run P w = r at *
  cases r with
  | ok x w' =>
    cases x with
    | value v => exact h
    | skip => exact h
    | defer d => exact h
    | enter f args => exact ⟨fun e => by simp [Fence.wide, Fence.inRound] at e, CallsIn.inRound l (callsIn_wide.2 h)⟩
    | row row args => exact ⟨fun e => by simp [Fence.wide, Fence.inRound] at e, rowsIn_round h⟩
    | _ => exact False.elim h
  | halt x w' => cases x with
    | panic v => exact h
    | _ => exact False.elim h
def plainB (ops : Array Oper) : Bool := ops.all fun o => match o.op with | .defer _ => false | _ => true
theorem plain_op {ops : Array Oper} (h : plainB ops = true) {i : Nat} {o : Oper} (ho : ops[i]? = some o) : ∀ c, o.op ≠ .defer c := by
  intro c e
  have hm := Array.mem_of_getElem? ho
  have := Array.all_eq_true_iff_forall_mem.1 h o hm
  rw [e] at this
  cases this
theorem wpOpIn_step {l n : Nat} {P : Program} {ops : Array Oper} {Q : Exit → Act → World → Prop} {i : Nat} {o : Oper} {K : Act → World → Prop} {a : Act} {w : World} (hp : plainB ops = true) (ho : ops[i]? = some o)
    (h : ∀ K' : Act → World → Prop, (∀ a w, K a w → K' a w) → if Region.wanted o (yielded ops a.tmps) = true then Oper.wp P o a w K' Q else K' (a.put o.dst undef) w) : wpOpIn (Fence.wide.inRound l) n P ops Q i K a w := by
  have := h K (fun _ _ h => h)
  unfold wpOpIn
  rw [ho]
  show if Region.wanted o (yielded ops a.tmps) = true then _ else _
  split
  · rename_i hw; rw [if_pos hw] at this; exact Oper.wpIn_of_wp (plain_op hp ho) this
  · rename_i hw; rw [if_neg hw] at this; exact ⟨fun _ _ => trivial, this⟩
theorem wpAnyIn_inv {F : Fence} {n : Nat} {P : Program} {ops : Array Oper} {Q : Exit → Act → World → Prop} {md : Region.Mode} (I : Array Bool → Act → World → Prop)
    (hstep : ∀ listed a w i, listed.size = ops.size → I listed a w → i ∈ Region.ready md ops listed → wpOpIn F n P ops Q i (fun a' w' => I (listed.setIfInBounds i true) a' w') a w)
    (hdone : ∀ listed a w, listed.size = ops.size → I listed a w → Region.ready md ops listed = [] → Q .normal a w) :
    ∀ fuel listed a w, listed.size = ops.size → listed.toList.count false ≤ fuel → I listed a w → wpAnyIn F n P md ops Q fuel listed a w
  | 0, listed, a, w, hs, hc, hI => by
    have hr : Region.ready md ops listed = [] := by
      rw [List.eq_nil_iff_forall_not_mem]
      intro j hj
      have h1 := (mem_ready.1 hj).1
      rw [getD_list, cnt_zero (by omega) j] at h1
      cases h1
    exact ⟨hr, hdone listed a w hs hI hr⟩
  | fuel + 1, listed, a, w, hs, hc, hI => by
    refine ⟨fun hr => hdone listed a w hs hI hr, fun i hi => ?_⟩
    refine wpOpIn_mono (fun a' w' h' => ?_) (hstep listed a w i hs hI hi)
    refine wpAnyIn_inv I hstep hdone fuel _ a' w' (by simpa using hs) ?_ h'
    have h1 := (mem_ready.1 hi).1
    rw [getD_list] at h1
    have h2 := cnt_set h1
    rw [Array.toList_setIfInBounds]
    omega
theorem region_growIn {l m : Nat} {P : Program} {id : Nat} {ops : Array Oper} {Q : Exit → Act → World → Prop} {L : List Value} {df : List Deferred} {w0 : World} (mask : List Bool) (dsts : List Nat) (ps : List Known) (fin : List Nat)
    (hm : P.follows .mixedOrders = true) (hpl : plainB ops = true) (hb : backB ops = true) (hdl : dsts = (List.range ops.size).map (dstN ops)) (hd : distB ops = true) (hfin : fin.all (fun j => decide (j < ops.size)) = true)
    (hs : Steps P ops Q mask L df ps (fun i => dsts.getD i 0) w0 0 ops.toList)
    (hdone : ∀ x w, Below w0.heap.size w0 w → StepGoal ps (fun i => dsts.getD i 0) w (fun x => Q .normal ⟨(overlay x 0 mask L).toArray, df⟩ w) fin x) :
    (Code.region id ops true).wpIn (Fence.wide.inRound l) m P Q ⟨L.toArray, df⟩ w0 := by
  have hdg : ∀ i, i < ops.size → dsts.getD i 0 = dstN ops i := by
    intro i hi
    rw [hdl, List.getD_eq_getElem?_getD, List.getElem?_map, List.getElem?_range hi]
    rfl
  refine wpIn_region_any hm (wpAnyIn_inv (fun listed a w => ∃ x : Nat → Value, a = ⟨(overlay x 0 mask L).toArray, df⟩ ∧ Below w0.heap.size w0 w ∧ ∀ i, i < ops.size → listed.getD i false = true → (ps.getD i kAny).holds (x (dsts.getD i 0)) w) ?_ ?_ _ _ _ _ (by simp) (by simp) ?_)
  · rintro listed a w i hsz ⟨x, rfl, hbw, hk⟩ hi
    obtain ⟨hun, o, ho, hall⟩ := mem_ready.1 hi
    have his : i < ops.size := (Array.getElem?_eq_some_iff.1 ho).1
    have hst := Steps.at_ ops.toList 0 i o hs (by rw [Array.getElem?_toList]; exact ho) x w hbw
    rw [Nat.zero_add] at hst
    have hbd := StepGoal.use (depsOf o) x (fun j hj => by
      obtain ⟨e, he, rfl⟩ := List.mem_map.1 hj
      obtain ⟨he1, he2⟩ := List.mem_filter.1 he
      have hl := hall e (by simpa using he1) he2
      refine hk e.on ?_ hl
      rcases Nat.lt_or_ge e.on listed.size with h' | h'
      · omega
      · rw [Array.getD_eq_getD_getElem?, Array.getElem?_eq_none h'] at hl; cases hl) hst
    refine wpOpIn_step hpl ho (fun K' hK => hbd K' (fun v w' hb' hv => hK _ _ ⟨upd x (dsts.getD i 0) v, rfl, hbw.trans (hb'.mono hbw.size), fun j hj hlj => ?_⟩))
    by_cases hji : j = i
    · subst hji; rw [upd_eq]; exact hv
    · have hne : dsts.getD j 0 ≠ dsts.getD i 0 := by
        rw [hdg j hj, hdg i his]
        have h1 := List.all_eq_true.1 (List.all_eq_true.1 hd j (List.mem_range.2 hj)) i (List.mem_range.2 his)
        simpa [hji] using h1
      rw [upd_ne hne]
      refine Known.ext (hk j hj ?_) hb'
      rw [Array.getD_eq_getD_getElem?] at hlj ⊢
      rwa [Array.getElem?_setIfInBounds_ne (Ne.symm hji)] at hlj
  · rintro listed a w hsz ⟨x, rfl, hbw, hk⟩ hr
    have hal := all_listed hb hsz hr
    exact StepGoal.use fin x (fun j hj => by
      have hjs : j < ops.size := of_decide_eq_true (List.all_eq_true.1 hfin j hj)
      exact hk j hjs (hal (j + 1) j (by omega) hjs)) (hdone x w hbw)
  · refine ⟨fun j => L.getD j undef, ?_, (Below.refl _ _).drew, fun i hi h => ?_⟩
    · have := overlay_self L [] mask
      rw [List.nil_append, List.length_nil] at this
      rw [this]
    · rw [Array.getD_eq_getD_getElem?] at h
      simp [hi] at h
end Go.Proofs.YtjdfodmialhakaaDoor

/- Regions that draw their order, within a round: the operations ahead of the n-th, each once; then what is left, in all its orders. -/
namespace Go.Proofs.YtjdfodmialhakaaDoor
open Go.RowKit

def headL (ops : Array Oper) (n : Nat) : Array Bool := ((List.range ops.size).map fun i => decide (i < n)).toArray
def headB (ops : Array Oper) (n : Nat) : Bool := (List.range n).all (fun j => match ops[n]? with | some o => (depsOf o).contains j | none => false) && (List.range ops.size).all (fun i => decide (i ≤ n) || match ops[i]? with | some o => (depsOf o).contains n | none => false)
theorem mem_deps' {o : Oper} {i : Nat} (h : (depsOf o).contains i = true) : ∃ e ∈ o.after, Region.binds .any e = true ∧ e.on = i := by
  have h' : i ∈ depsOf o := by simpa using h
  obtain ⟨e, he, rfl⟩ := List.mem_map.1 h'
  obtain ⟨he1, he2⟩ := List.mem_filter.1 he
  exact ⟨e, by simpa using he1, he2, rfl⟩
theorem headL_get (ops : Array Oper) (n i : Nat) (hi : i < ops.size) : (headL ops n).getD i false = decide (i < n) := by
  unfold headL
  rw [Array.getD_eq_getD_getElem?, List.getElem?_toArray, List.getElem?_map, List.getElem?_range hi]
  rfl
theorem getD_ext {a b : Array Bool} (hs : a.size = b.size) (h : ∀ i, i < a.size → a.getD i false = b.getD i false) : a = b := by
  apply Array.ext hs
  intro i h1 h2
  have := h i h1
  rw [Array.getD_eq_getD_getElem?, Array.getD_eq_getD_getElem?, Array.getElem?_eq_getElem h1, Array.getElem?_eq_getElem h2] at this
  exact this
/-- The invariant holds till the first n are listed; then what is left is told. -/
theorem wpAnyIn_head {F : Fence} {m : Nat} {P : Program} {ops : Array Oper} {Q : Exit → Act → World → Prop} {md : Region.Mode} (I : Array Bool → Act → World → Prop) (LN : Array Bool) (fl : Nat)
    (hstep : ∀ listed a w i, listed.size = ops.size → I listed a w → listed ≠ LN → i ∈ Region.ready md ops listed → wpOpIn F m P ops Q i (fun a' w' => I (listed.setIfInBounds i true) a' w') a w)
    (hmore : ∀ listed a w, listed.size = ops.size → I listed a w → listed ≠ LN → Region.ready md ops listed ≠ [])
    (hfl : LN.toList.count false = fl)
    (hdone : ∀ a w, I LN a w → wpAnyIn F m P md ops Q fl LN a w) :
    ∀ fuel listed a w, listed.size = ops.size → listed.toList.count false = fuel → I listed a w → wpAnyIn F m P md ops Q fuel listed a w
  | 0, listed, a, w, hs, hc, hI => by
    by_cases e : listed = LN
    · subst e
      rw [← hc, hfl]
      exact hdone a w hI
    · exfalso
      have hr : Region.ready md ops listed = [] := by
        rw [List.eq_nil_iff_forall_not_mem]
        intro j hj
        have h1 := (mem_ready.1 hj).1
        rw [getD_list, cnt_zero (by omega) j] at h1
        cases h1
      exact hmore listed a w hs hI e hr
  | fuel + 1, listed, a, w, hs, hc, hI => by
    by_cases e : listed = LN
    · subst e
      rw [← hc, hfl]
      exact hdone a w hI
    · refine ⟨fun hr => absurd hr (hmore listed a w hs hI e), fun i hi => ?_⟩
      refine wpOpIn_mono (fun a' w' h' => ?_) (hstep listed a w i hs hI e hi)
      refine wpAnyIn_head I LN fl hstep hmore hfl hdone fuel _ a' w' (by simpa using hs) ?_ h'
      have h1 := (mem_ready.1 hi).1
      rw [getD_list] at h1
      have h2 := cnt_set h1
      rw [Array.toList_setIfInBounds]
      omega
theorem region_headIn {l m : Nat} {P : Program} {id : Nat} {ops : Array Oper} {Q : Exit → Act → World → Prop} {L : List Value} {df : List Deferred} {w0 : World} (n : Nat) (mask : List Bool) (dsts : List Nat) (ps : List Known) (fin : List Nat)
    (hm : P.follows .mixedOrders = true) (hpl : plainB ops = true) (hn : n < ops.size) (hb : backB ops = true) (hh : headB ops n = true) (hdl : dsts = (List.range n).map (dstN ops)) (hd : distB (ops.extract 0 n) = true) (hfin : fin.all (fun j => decide (j < n)) = true)
    (hs : Steps P ops Q mask L df ps (fun i => dsts.getD i 0) w0 0 (ops.toList.take n))
    (hfl : (headL ops n).toList.count false = ops.size - n)
    (hdone : ∀ x w, Below w0.heap.size w0 w → StepGoal ps (fun i => dsts.getD i 0) w (fun x => wpAnyIn (Fence.wide.inRound l) m P .any ops Q (ops.size - n) (headL ops n) ⟨(overlay x 0 mask L).toArray, df⟩ w) fin x) :
    (Code.region id ops true).wpIn (Fence.wide.inRound l) m P Q ⟨L.toArray, df⟩ w0 := by
  have hdg : ∀ i, i < n → dsts.getD i 0 = dstN ops i := by
    intro i hi
    rw [hdl, List.getD_eq_getElem?_getD, List.getElem?_map, List.getElem?_range hi]
    rfl
  have hdist : ∀ i j, i < n → j < n → i ≠ j → dstN ops i ≠ dstN ops j := by
    intro i j hi hj hne
    have hsz : (ops.extract 0 n).size = n := by simp; omega
    have h1 := List.all_eq_true.1 (List.all_eq_true.1 hd i (List.mem_range.2 (by omega))) j (List.mem_range.2 (by omega))
    have e : ∀ q, q < n → dstN (ops.extract 0 n) q = dstN ops q := by
      intro q hq
      unfold dstN
      rw [Array.getElem?_extract, if_pos (by omega), Nat.zero_add]
    rw [e i hi, e j hj] at h1
    simpa [hne] using h1
  simp only [headB, Bool.and_eq_true] at hh
  have hsN : (headL ops n).size = ops.size := by simp [headL]
  refine wpIn_region_any hm (wpAnyIn_head (fun listed a w => (∀ i, n ≤ i → i < ops.size → listed.getD i false = false) ∧ ∃ x : Nat → Value, a = ⟨(overlay x 0 mask L).toArray, df⟩ ∧ Below w0.heap.size w0 w ∧ ∀ i, i < n → listed.getD i false = true → (ps.getD i kAny).holds (x (dsts.getD i 0)) w) (headL ops n) (ops.size - n) ?_ ?_ hfl ?_ _ _ _ _ (by simp) (by simp) ?_)
  · rintro listed a w i hsz ⟨hlate, x, rfl, hbw, hk⟩ hne hi
    obtain ⟨hun, o, ho, hall⟩ := mem_ready.1 hi
    have his : i < ops.size := (Array.getElem?_eq_some_iff.1 ho).1
    have hin : i < n := by
      rcases Nat.lt_or_ge i n with h | h
      · exact h
      · exfalso
        rcases Nat.lt_or_ge n i with h' | h'
        · have h2 := List.all_eq_true.1 hh.2 i (List.mem_range.2 his)
          rw [ho] at h2
          simp only [Bool.or_eq_true, decide_eq_true_eq] at h2
          rcases h2 with h2 | h2
          · omega
          · obtain ⟨e, he, hbd, hei⟩ := mem_deps' h2
            have := hall e he hbd
            rw [hei, hlate n (Nat.le_refl _) hn] at this
            cases this
        · obtain rfl : i = n := by omega
          refine hne (getD_ext (by rw [hsz, hsN]) (fun j hj => ?_))
          rw [headL_get ops i j (by omega)]
          by_cases hji : j < i
          · rw [decide_eq_true hji]
            have h2 := List.all_eq_true.1 hh.1 j (List.mem_range.2 hji)
            rw [ho] at h2
            obtain ⟨e, he, hbd, hei⟩ := mem_deps' h2
            rw [← hei]
            exact hall e he hbd
          · rw [decide_eq_false hji]
            exact hlate j (by omega) (by omega)
    have hst := Steps.at_ (ops.toList.take n) 0 i o hs (by rw [List.getElem?_take_of_lt hin, Array.getElem?_toList]; exact ho) x w hbw
    rw [Nat.zero_add] at hst
    have hbd := StepGoal.use (depsOf o) x (fun j hj => by
      obtain ⟨e, he, rfl⟩ := List.mem_map.1 hj
      obtain ⟨he1, he2⟩ := List.mem_filter.1 he
      have hl := hall e (by simpa using he1) he2
      refine hk e.on ?_ hl
      have hlt : e.on < i := back_lt hb ho (by simpa using he1) he2
      omega) hst
    refine wpOpIn_step hpl ho (fun K' hK => hbd K' (fun v w' hb' hv => hK _ _ ⟨fun j hj hjs => ?_, upd x (dsts.getD i 0) v, rfl, hbw.trans (hb'.mono hbw.size), fun j hj hlj => ?_⟩))
    · have hji : j ≠ i := by omega
      rw [Array.getD_eq_getD_getElem?, Array.getElem?_setIfInBounds_ne (Ne.symm hji), ← Array.getD_eq_getD_getElem?]
      exact hlate j hj hjs
    · by_cases hji : j = i
      · subst hji; rw [upd_eq]; exact hv
      · have hne : dsts.getD j 0 ≠ dsts.getD i 0 := by
          rw [hdg j hj, hdg i hin]
          exact hdist j i hj hin hji
        rw [upd_ne hne]
        refine Known.ext (hk j hj ?_) hb'
        rw [Array.getD_eq_getD_getElem?] at hlj ⊢
        rwa [Array.getElem?_setIfInBounds_ne (Ne.symm hji)] at hlj
  · rintro listed a w hsz ⟨hlate, _⟩ hne hr
    have hal := all_listed hb hsz hr
    have := hal (n + 1) n (by omega) hn
    rw [hlate n (Nat.le_refl _) hn] at this
    cases this
  · rintro a w ⟨_, x, rfl, hbw, hk⟩
    exact StepGoal.use fin x (fun j hj => by
      have hjs : j < n := of_decide_eq_true (List.all_eq_true.1 hfin j hj)
      exact hk j hjs (by rw [headL_get ops n j (by omega), decide_eq_true hjs])) (hdone x w hbw)
  · refine ⟨fun i _ hi => ?_, fun j => L.getD j undef, ?_, (Below.refl _ _).drew, fun i hi h => ?_⟩
    · rw [Array.getD_eq_getD_getElem?]
      simp [hi]
    · have := overlay_self L [] mask
      rw [List.nil_append, List.length_nil] at this
      rw [this]
    · rw [Array.getD_eq_getD_getElem?] at h
      simp [show i < ops.size by omega] at h
end Go.Proofs.YtjdfodmialhakaaDoor
