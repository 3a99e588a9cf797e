/- Several texts in one: see each part's head. -/
import Derived.Deep.RegionHeld
import Derived.Test.YtgklopgeimjgiaaGreatDoorJ4
/- Several texts in one: see each part's head. -/
/- A law for a region that draws its order, by an invariant: each operation is run once, whatever came before it, and not once for each order. -/
namespace Go.Proofs.YtgklopgeimjgiaaGreatDoor
open Go.RowKit

def upd (x : Nat → Value) (d : Nat) (v : Value) : Nat → Value := fun j => if j = d then v else x j
theorem upd_self (x : Nat → Value) (d : Nat) : upd x d (x d) = x := by
  funext j
  unfold upd
  split
  · next h => rw [h]
  · rfl
theorem upd_ne {x : Nat → Value} {d e : Nat} {v : Value} (h : e ≠ d) : upd x d v e = x e := if_neg h
theorem upd_eq {x : Nat → Value} {d : Nat} {v : Value} : upd x d v d = v := if_pos rfl
/-- A frame, some of its slots told by x. -/
def overlay (x : Nat → Value) : Nat → List Bool → List Value → List Value
  | _, _, [] => []
  | _, [], v :: vs => v :: vs
  | j, m :: ms, v :: vs => (bif m then x j else v) :: overlay x (j + 1) ms vs
theorem overlay_self : ∀ (L pre : List Value) (mask : List Bool), overlay (fun j => (pre ++ L).getD j undef) pre.length mask L = L
  | [], _, _ => by cases ‹List Bool› <;> rfl
  | v :: vs, pre, [] => rfl
  | v :: vs, pre, m :: ms => by
    have ih := overlay_self vs (pre ++ [v]) ms
    rw [List.append_assoc, List.singleton_append, List.length_append, List.length_singleton] at ih
    rw [overlay, ih]
    cases m
    · rfl
    · simp [List.getD_eq_getElem?_getD]

/-- What is known of an operation's value, once it has come up. -/
inductive Known where
  | val (v : Value)
  | new (f : Nat → Value) (cs : Array Value) (t : TypeId)
  | mem (q : Value → World → Prop) (h : ∀ v w w', q v w → Below w.heap.size w w' → q v w')
def Known.holds : Known → Value → World → Prop
  | .val c, v, _ => v = c
  | .new f cs t, v, w => ∃ b, v = f b ∧ Blk w b cs t
  | .mem q _, v, w => q v w
theorem Known.ext {k : Known} {v : Value} {w w' : World} (h : k.holds v w) (hb : Below w.heap.size w w') : k.holds v w' := by
  cases k with
  | val c => exact h
  | new f cs t =>
    obtain ⟨b, h1, h2⟩ := h
    exact ⟨b, h1, h2.ext hb⟩
  | mem q hq => exact hq _ _ _ h hb
def kAny : Known := .mem (fun _ _ => True) (fun _ _ _ _ _ => trivial)
def dstN (ops : Array Oper) (i : Nat) : Nat := ((ops[i]?).bind (·.dst)).getD 0
def depsOf (o : Oper) : List Nat := (o.after.toList.filter (Region.binds .any ·)).map (·.on)
def StepGoal (ps : List Known) (dst : Nat → Nat) (w : World) (body : (Nat → Value) → Prop) : List Nat → (Nat → Value) → Prop
  | [], x => body x
  | j :: js, x => match ps.getD j kAny with
    | .val c => StepGoal ps dst w body js (upd x (dst j) c)
    | .new f cs t => ∀ b, Blk w b cs t → StepGoal ps dst w body js (upd x (dst j) (f b))
    | .mem q _ => ∀ v, q v w → StepGoal ps dst w body js (upd x (dst j) v)
theorem StepGoal.use {ps : List Known} {dst : Nat → Nat} {w : World} {body : (Nat → Value) → Prop} : ∀ (js : List Nat) (x : Nat → Value),
    (∀ j ∈ js, (ps.getD j kAny).holds (x (dst j)) w) → StepGoal ps dst w body js x → body x
  | [], _, _, h => h
  | j :: js, x, hx, h => by
    have h1 := hx j (by simp)
    have h2 : ∀ i ∈ js, (ps.getD i kAny).holds (x (dst i)) w := fun i hi => hx i (by simp [hi])
    rw [StepGoal] at h
    cases hk : ps.getD j kAny with
    | val c =>
      rw [hk] at h h1
      have e : x (dst j) = c := h1
      simp only at h
      rw [← e, upd_self] at h
      exact StepGoal.use js x h2 h
    | new f cs t =>
      rw [hk] at h h1
      obtain ⟨b, e, hb⟩ := h1
      have h := h b hb
      rw [← e, upd_self] at h
      exact StepGoal.use js x h2 h
    | mem q hq =>
      rw [hk] at h h1
      have h := h (x (dst j)) h1
      rw [upd_self] at h
      exact StepGoal.use js x h2 h
def StepBody (P : Program) (ops : Array Oper) (Q : Exit → Act → World → Prop) (mask : List Bool) (L : List Value) (df : List Deferred) (k : Known) (w : World) (d : Nat) (o : Oper) (x : Nat → Value) : Prop :=
  ∀ K' : Act → World → Prop, Shut (∀ v w', Below w.heap.size w w' → k.holds v w' → K' ⟨(overlay (upd x d v) 0 mask L).toArray, df⟩ w') →
    if Region.wanted o (yielded ops (overlay x 0 mask L).toArray) = true then Oper.wp P o ⟨(overlay x 0 mask L).toArray, df⟩ w K' Q else K' (Act.put ⟨(overlay x 0 mask L).toArray, df⟩ o.dst undef) w
def Steps (P : Program) (ops : Array Oper) (Q : Exit → Act → World → Prop) (mask : List Bool) (L : List Value) (df : List Deferred) (ps : List Known) (dst : Nat → Nat) (w0 : World) : Nat → List Oper → Prop
  | _, [] => True
  | i, o :: os => (∀ x w, Below w0.heap.size w0 w → StepGoal ps dst w (StepBody P ops Q mask L df (ps.getD i kAny) w (dst i) o) (depsOf o) x) ∧ Steps P ops Q mask L df ps dst w0 (i + 1) os
theorem Steps.at_ {P : Program} {ops : Array Oper} {Q : Exit → Act → World → Prop} {mask : List Bool} {L : List Value} {df : List Deferred} {ps : List Known} {dst : Nat → Nat} {w0 : World} :
    ∀ (os : List Oper) (n i : Nat) (o : Oper), Steps P ops Q mask L df ps dst w0 n os → os[i]? = some o → ∀ x w, Below w0.heap.size w0 w → StepGoal ps dst w (StepBody P ops Q mask L df (ps.getD (n + i) kAny) w (dst (n + i)) o) (depsOf o) x
  | [], _, _, _, _, h => by simp at h
  | o' :: os, n, 0, o, hs, h => by
    simp only [List.getElem?_cons_zero, Option.some.injEq] at h
    subst h
    exact hs.1
  | o' :: os, n, i + 1, o, hs, h => by
    have := Steps.at_ os (n + 1) i o hs.2 (by simpa using h)
    rw [show n + 1 + i = n + (i + 1) by omega] at this
    exact this

def backB (ops : Array Oper) : Bool := (List.range ops.size).all fun i => match ops[i]? with | some o => (depsOf o).all fun j => decide (j < i) | none => true
theorem back_lt {ops : Array Oper} {i : Nat} {o : Oper} (hb : backB ops = true) (ho : ops[i]? = some o) {e} (he : e ∈ o.after) (hbd : Region.binds .any e = true) : e.on < i := by
  have his : i < ops.size := (Array.getElem?_eq_some_iff.1 ho).1
  have h1 := List.all_eq_true.1 hb i (List.mem_range.2 his)
  rw [ho] at h1
  exact of_decide_eq_true (List.all_eq_true.1 h1 e.on (List.mem_map.2 ⟨e, List.mem_filter.2 ⟨by simpa using he, hbd⟩, rfl⟩))
def distB (ops : Array Oper) : Bool := (List.range ops.size).all fun i => (List.range ops.size).all fun j => decide (i = j) || !decide (dstN ops i = dstN ops j)

theorem cnt_zero {l : List Bool} (h : l.count false = 0) : ∀ i, l.getD i true = true := by
  intro i
  rw [List.getD_eq_getElem?_getD]
  cases hi : l[i]? with
  | none => rfl
  | some b =>
    cases b
    · have := List.mem_of_getElem? hi
      have := List.count_pos_iff.2 this
      omega
    · rfl
theorem cnt_set {l : List Bool} {i : Nat} (h : l.getD i true = false) : (l.set i true).count false + 1 = l.count false := by
  have hi : i < l.length := by
    rcases Nat.lt_or_ge i l.length with h' | h'
    · exact h'
    · rw [List.getD_eq_getElem?_getD, List.getElem?_eq_none h'] at h; cases h
  have hv : l[i] = false := by
    rw [List.getD_eq_getElem?_getD, List.getElem?_eq_getElem hi] at h; exact h
  have hp : 0 < l.count false := List.count_pos_iff.2 (by rw [← hv]; exact List.getElem_mem hi)
  rw [List.count_set hi, hv]
  simp
  omega
theorem getD_list (a : Array Bool) (i : Nat) (d : Bool) : a.getD i d = a.toList.getD i d := by
  rw [Array.getD_eq_getD_getElem?, List.getD_eq_getElem?_getD, Array.getElem?_toList]
theorem wpAny_inv {P : Program} {ops : Array Oper} {Q : Exit → Act → World → Prop} {md : Region.Mode} (I : Array Bool → Act → World → Prop)
    (hstep : ∀ listed a w i, listed.size = ops.size → I listed a w → i ∈ Region.ready md ops listed → wpOp P ops Q i (fun a' w' => I (listed.setIfInBounds i true) a' w') a w)
    (hdone : ∀ listed a w, listed.size = ops.size → I listed a w → Region.ready md ops listed = [] → Q .normal a w) :
    ∀ fuel listed a w, listed.size = ops.size → listed.toList.count false ≤ fuel → I listed a w → wpAny P md ops Q fuel listed a w
  | 0, listed, a, w, hs, hc, hI => by
    have hr : Region.ready md ops listed = [] := by
      rw [List.eq_nil_iff_forall_not_mem]
      intro j hj
      have h1 := (mem_ready.1 hj).1
      rw [getD_list, cnt_zero (by omega) j] at h1
      cases h1
    exact ⟨hr, hdone listed a w hs hI hr⟩
  | fuel + 1, listed, a, w, hs, hc, hI => by
    refine ⟨fun hr => hdone listed a w hs hI hr, fun i hi => ?_⟩
    refine wpOp_mono (fun a' w' h' => ?_) (hstep listed a w i hs hI hi)
    refine wpAny_inv I hstep hdone fuel _ a' w' (by simpa using hs) ?_ h'
    have h1 := (mem_ready.1 hi).1
    rw [getD_list] at h1
    have h2 := cnt_set h1
    rw [Array.toList_setIfInBounds]
    omega
theorem all_listed {ops : Array Oper} {listed : Array Bool} (hb : backB ops = true) (hs : listed.size = ops.size) (hr : Region.ready .any ops listed = []) :
    ∀ n j, j < n → j < ops.size → listed.getD j false = true := by
  intro n
  induction n with
  | zero => intro j h; omega
  | succ n ih =>
    intro j hj hjs
    by_cases hlt : j < n
    · exact ih j hlt hjs
    · obtain rfl : j = n := by omega
      have ho : ops[j]? = some ops[j] := Array.getElem?_eq_getElem hjs
      have hjl : j < listed.size := by omega
      cases hv : listed[j] with
      | true =>
        rw [Array.getD_eq_getD_getElem?, Array.getElem?_eq_getElem hjl, hv]; rfl
      | false =>
        have hmem : j ∈ Region.ready .any ops listed := by
          refine mem_ready.2 ⟨?_, ops[j], ho, fun e he hbd => ?_⟩
          · rw [Array.getD_eq_getD_getElem?, Array.getElem?_eq_getElem hjl, hv]; rfl
          · have hlt : e.on < j := back_lt hb ho he hbd
            exact ih e.on hlt (by omega)
        rw [hr] at hmem
        cases hmem
theorem region_grow {P : Program} {id : Nat} {ops : Array Oper} {Q : Exit → Act → World → Prop} {L : List Value} {df : List Deferred} {w0 : World} (mask : List Bool) (dsts : List Nat) (ps : List Known) (fin : List Nat)
    (hm : P.follows .mixedOrders = true) (hb : backB ops = true) (hdl : dsts = (List.range ops.size).map (dstN ops)) (hd : distB ops = true) (hfin : fin.all (fun j => decide (j < ops.size)) = true)
    (hs : Steps P ops Q mask L df ps (fun i => dsts.getD i 0) w0 0 ops.toList)
    (hdone : ∀ x w, Below w0.heap.size w0 w → StepGoal ps (fun i => dsts.getD i 0) w (fun x => Q .normal ⟨(overlay x 0 mask L).toArray, df⟩ w) fin x) :
    (Code.region id ops true).wp P Q ⟨L.toArray, df⟩ w0 := by
  have hdg : ∀ i, i < ops.size → dsts.getD i 0 = dstN ops i := by
    intro i hi
    rw [hdl, List.getD_eq_getElem?_getD, List.getElem?_map, List.getElem?_range hi]
    rfl
  refine wp_region_any hm (wpAny_inv (fun listed a w => ∃ x : Nat → Value, a = ⟨(overlay x 0 mask L).toArray, df⟩ ∧ Below w0.heap.size w0 w ∧ ∀ i, i < ops.size → listed.getD i false = true → (ps.getD i kAny).holds (x (dsts.getD i 0)) w) ?_ ?_ _ _ _ _ (by simp) (by simp) ?_)
  · rintro listed a w i hsz ⟨x, rfl, hbw, hk⟩ hi
    obtain ⟨hun, o, ho, hall⟩ := mem_ready.1 hi
    have his : i < ops.size := (Array.getElem?_eq_some_iff.1 ho).1
    have hst := Steps.at_ ops.toList 0 i o hs (by rw [Array.getElem?_toList]; exact ho) x w hbw
    rw [Nat.zero_add] at hst
    have hbd := StepGoal.use (depsOf o) x (fun j hj => by
      obtain ⟨e, he, rfl⟩ := List.mem_map.1 hj
      obtain ⟨he1, he2⟩ := List.mem_filter.1 he
      have hl := hall e (by simpa using he1) he2
      refine hk e.on ?_ hl
      rcases Nat.lt_or_ge e.on listed.size with h' | h'
      · omega
      · rw [Array.getD_eq_getD_getElem?, Array.getElem?_eq_none h'] at hl; cases hl) hst
    refine wpOp_step ho (fun K' hK => hbd K' (fun v w' hb' hv => hK _ _ ⟨upd x (dsts.getD i 0) v, rfl, hbw.trans (hb'.mono hbw.size), fun j hj hlj => ?_⟩))
    by_cases hji : j = i
    · subst hji; rw [upd_eq]; exact hv
    · have hne : dsts.getD j 0 ≠ dsts.getD i 0 := by
        rw [hdg j hj, hdg i his]
        have h1 := List.all_eq_true.1 (List.all_eq_true.1 hd j (List.mem_range.2 hj)) i (List.mem_range.2 his)
        simpa [hji] using h1
      rw [upd_ne hne]
      refine Known.ext (hk j hj ?_) hb'
      rw [Array.getD_eq_getD_getElem?] at hlj ⊢
      rwa [Array.getElem?_setIfInBounds_ne (Ne.symm hji)] at hlj
  · rintro listed a w hsz ⟨x, rfl, hbw, hk⟩ hr
    have hal := all_listed hb hsz hr
    exact StepGoal.use fin x (fun j hj => by
      have hjs : j < ops.size := of_decide_eq_true (List.all_eq_true.1 hfin j hj)
      exact hk j hjs (hal (j + 1) j (by omega) hjs)) (hdone x w hbw)
  · refine ⟨fun j => L.getD j undef, ?_, (Below.refl _ _).drew, fun i hi h => ?_⟩
    · have := overlay_self L [] mask
      rw [List.nil_append, List.length_nil] at this
      rw [this]
    · rw [Array.getD_eq_getD_getElem?] at h
      simp [hi] at h
/-! A region whose last operation hangs on all others, and turns what lies in memory. -/
def feedB (ops : Array Oper) (n : Nat) : Bool := (List.range n).all fun i => (List.range (n + 1)).any fun j => match ops[j]? with | some o => (depsOf o).contains i | none => false
theorem mem_deps {o : Oper} {i : Nat} (h : (depsOf o).contains i = true) : ∃ e ∈ o.after, Region.binds .any e = true ∧ e.on = i := by
  have h' : i ∈ depsOf o := by simpa using h
  obtain ⟨e, he, rfl⟩ := List.mem_map.1 h'
  obtain ⟨he1, he2⟩ := List.mem_filter.1 he
  exact ⟨e, by simpa using he1, he2, rfl⟩
def LastBody (P : Program) (ops : Array Oper) (Q : Exit → Act → World → Prop) (mask : List Bool) (L : List Value) (df : List Deferred) (w : World) (o : Oper) (x : Nat → Value) : Prop :=
  ∀ K' : Act → World → Prop, Shut (∀ a' w', Q .normal a' w' → K' a' w') →
    if Region.wanted o (yielded ops (overlay x 0 mask L).toArray) = true then Oper.wp P o ⟨(overlay x 0 mask L).toArray, df⟩ w K' Q else K' (Act.put ⟨(overlay x 0 mask L).toArray, df⟩ o.dst undef) w
theorem region_last {P : Program} {id : Nat} {ops : Array Oper} {Q : Exit → Act → World → Prop} {L : List Value} {df : List Deferred} {w0 : World} (n : Nat) (o0 : Oper) (mask : List Bool) (dsts : List Nat) (ps : List Known) (fin : List Nat)
    (hm : P.follows .mixedOrders = true) (hn : ops.size = n + 1) (ho0 : ops[n]? = some o0) (hb : backB ops = true) (hf : feedB ops n = true) (hdl : dsts = (List.range n).map (dstN ops)) (hd : distB (ops.extract 0 n) = true) (hfin : fin.all (fun j => decide (j < n)) = true)
    (hs : Steps P ops Q mask L df ps (fun i => dsts.getD i 0) w0 0 (ops.toList.take n))
    (hdone : ∀ x w, Below w0.heap.size w0 w → StepGoal ps (fun i => dsts.getD i 0) w (LastBody P ops Q mask L df w o0) fin x) :
    (Code.region id ops true).wp P Q ⟨L.toArray, df⟩ w0 := by
  have hdg : ∀ i, i < n → dsts.getD i 0 = dstN ops i := by
    intro i hi
    rw [hdl, List.getD_eq_getElem?_getD, List.getElem?_map, List.getElem?_range hi]
    rfl
  have hdist : ∀ i j, i < n → j < n → i ≠ j → dstN ops i ≠ dstN ops j := by
    intro i j hi hj hne
    have hsz : (ops.extract 0 n).size = n := by simp; omega
    have h1 := List.all_eq_true.1 (List.all_eq_true.1 hd i (List.mem_range.2 (by omega))) j (List.mem_range.2 (by omega))
    have e : ∀ q, q < n → dstN (ops.extract 0 n) q = dstN ops q := by
      intro q hq
      unfold dstN
      rw [Array.getElem?_extract]
      simp [hq, hn]
    rw [e i hi, e j hj] at h1
    simpa [hne] using h1
  let dc : Array Bool → Prop := fun listed => ∀ i o, ops[i]? = some o → listed.getD i false = true → ∀ e ∈ o.after, Region.binds .any e = true → listed.getD e.on false = true
  have hcl : ∀ listed : Array Bool, dc listed → (∀ e ∈ o0.after, Region.binds .any e = true → listed.getD e.on false = true) → ∀ m i, i + m = n → 0 < m → listed.getD i false = true := by
    intro listed hdc hl m
    induction m using Nat.strongRecOn with
    | _ m ih =>
      intro i him hm0
      have h1 := List.all_eq_true.1 hf i (List.mem_range.2 (by omega))
      obtain ⟨j, hj, h2⟩ := List.any_eq_true.1 h1
      have hj' := List.mem_range.1 hj
      have hjs : j < ops.size := by omega
      have ho : ops[j]? = some ops[j] := Array.getElem?_eq_getElem hjs
      rw [ho] at h2
      obtain ⟨e, he, hbd, hei⟩ := mem_deps h2
      have hlt : e.on < j := back_lt hb ho he hbd
      subst hei
      by_cases hjn : j = n
      · subst hjn
        rw [ho0] at ho
        cases ho
        exact hl e he hbd
      · exact hdc j _ ho (ih (n - j) (by omega) j (by omega) (by omega)) e he hbd
  refine wp_region_any hm (wpAny_inv (fun listed a w => dc listed ∧ ((listed.getD n false = true ∧ Q .normal a w) ∨ (listed.getD n false = false ∧ ∃ x : Nat → Value, a = ⟨(overlay x 0 mask L).toArray, df⟩ ∧ Below w0.heap.size w0 w ∧ ∀ i, i < n → listed.getD i false = true → (ps.getD i kAny).holds (x (dsts.getD i 0)) w))) ?_ ?_ _ _ _ _ (by simp) (by simp) ?_)
  · rintro listed a w i hsz ⟨hdc, hor⟩ hi
    obtain ⟨hun, o, ho, hall⟩ := mem_ready.1 hi
    have his : i < ops.size := (Array.getElem?_eq_some_iff.1 ho).1
    have hun' : listed.getD i false = false := by
      rw [Array.getD_eq_getD_getElem?] at hun ⊢
      rw [Array.getElem?_eq_getElem (by omega)] at hun ⊢
      exact hun
    have hdc' : dc (listed.setIfInBounds i true) := by
      intro j oj hoj hlj e he hbd
      have key : listed.getD e.on false = true := by
        by_cases hji : j = i
        · subst hji
          rw [ho] at hoj
          cases hoj
          exact hall e he hbd
        · refine hdc j oj hoj ?_ e he hbd
          rw [Array.getD_eq_getD_getElem?] at hlj ⊢
          rwa [Array.getElem?_setIfInBounds_ne (Ne.symm hji)] at hlj
      by_cases hei : e.on = i
      · rw [hei] at key
        rw [hun'] at key
        cases key
      · rw [Array.getD_eq_getD_getElem?] at key ⊢
        rwa [Array.getElem?_setIfInBounds_ne (Ne.symm hei)]
    rcases hor with ⟨hln, _⟩ | ⟨hln, x, rfl, hbw, hk⟩
    · exfalso
      by_cases hin : i = n
      · subst hin; rw [hln] at hun'; cases hun'
      · have := hcl listed hdc (fun e he hbd => hdc n o0 ho0 hln e he hbd) (n - i) i (by omega) (by omega)
        rw [this] at hun'; cases hun'
    · by_cases hin : i = n
      · subst hin
        rw [ho0] at ho
        cases ho
        have hbd := StepGoal.use fin x (fun j hj => by
          have hjs : j < i := of_decide_eq_true (List.all_eq_true.1 hfin j hj)
          exact hk j hjs (hcl listed hdc hall (i - j) j (by omega) (by omega))) (hdone x w hbw)
        refine wpOp_step ho0 (fun K' hK => hbd K' (fun a' w' hq => hK _ _ ⟨hdc', Or.inl ⟨?_, hq⟩⟩))
        rw [Array.getD_eq_getD_getElem?, Array.getElem?_setIfInBounds_self_of_lt (by omega)]
        rfl
      · have hilt : i < n := by omega
        have hst := Steps.at_ (ops.toList.take n) 0 i o hs (by rw [List.getElem?_take_of_lt hilt, Array.getElem?_toList]; exact ho) x w hbw
        rw [Nat.zero_add] at hst
        have hbd := StepGoal.use (depsOf o) x (fun j hj => by
          obtain ⟨e, he, rfl⟩ := List.mem_map.1 hj
          obtain ⟨he1, he2⟩ := List.mem_filter.1 he
          have hl := hall e (by simpa using he1) he2
          refine hk e.on ?_ hl
          have hlt : e.on < i := back_lt hb ho (by simpa using he1) he2
          omega) hst
        refine wpOp_step ho (fun K' hK => hbd K' (fun v w' hb' hv => hK _ _ ⟨hdc', Or.inr ⟨?_, upd x (dsts.getD i 0) v, rfl, hbw.trans (hb'.mono hbw.size), fun j hj hlj => ?_⟩⟩))
        · rw [Array.getD_eq_getD_getElem?] at hln ⊢
          rwa [Array.getElem?_setIfInBounds_ne hin]
        · by_cases hji : j = i
          · subst hji; rw [upd_eq]; exact hv
          · have hne : dsts.getD j 0 ≠ dsts.getD i 0 := by
              rw [hdg j hj, hdg i hilt]
              exact hdist j i hj hilt hji
            rw [upd_ne hne]
            refine Known.ext (hk j hj ?_) hb'
            rw [Array.getD_eq_getD_getElem?] at hlj ⊢
            rwa [Array.getElem?_setIfInBounds_ne (Ne.symm hji)] at hlj
  · rintro listed a w hsz ⟨hdc, hor⟩ hr
    have hal := all_listed hb hsz hr
    rcases hor with ⟨_, hq⟩ | ⟨hln, _⟩
    · exact hq
    · rw [hal (n + 1) n (by omega) (by omega)] at hln
      cases hln
  · refine ⟨fun i o _ h => ?_, Or.inr ⟨?_, fun j => L.getD j undef, ?_, (Below.refl _ _).drew, fun i hi h => ?_⟩⟩
    · exfalso
      rw [Array.getD_eq_getD_getElem?] at h
      by_cases hi : i < ops.size
      · simp [hi] at h
      · simp [hi] at h
    · rw [Array.getD_eq_getD_getElem?]
      simp [hn]
    · have := overlay_self L [] mask
      rw [List.nil_append, List.length_nil] at this
      rw [this]
    · exfalso
      rw [Array.getD_eq_getD_getElem?] at h
      have : i < ops.size := by omega
      simp [this] at h
end Go.Proofs.YtgklopgeimjgiaaGreatDoor

/- A law for a region that draws its order, whose tail is two operations that turn memory (an append, then the store of what it gave): each operation is run once; pure ones (addresses of fields, constants) may come behind the append. -/
namespace Go.Proofs.YtgklopgeimjgiaaGreatDoor
open Go.RowKit

/-- A pure step: it leaves the world alone, whatever that is. -/
def PureBody (P : Program) (ops : Array Oper) (Q : Exit → Act → World → Prop) (mask : List Bool) (L : List Value) (df : List Deferred) (k : Known) (w : World) (d : Nat) (o : Oper) (x : Nat → Value) : Prop :=
  ∀ K' : Act → World → Prop, Shut (∀ v, k.holds v w → K' ⟨(overlay (upd x d v) 0 mask L).toArray, df⟩ w) →
    if Region.wanted o (yielded ops (overlay x 0 mask L).toArray) = true then Oper.wp P o ⟨(overlay x 0 mask L).toArray, df⟩ w K' Q else K' (Act.put ⟨(overlay x 0 mask L).toArray, df⟩ o.dst undef) w
/-- The step of the first operation of the tail: M tells what it gives, and what the world has become. -/
def TurnBody (P : Program) (ops : Array Oper) (Q : Exit → Act → World → Prop) (mask : List Bool) (L : List Value) (df : List Deferred) (M : Value → World → Prop) (w : World) (d : Nat) (o : Oper) (x : Nat → Value) : Prop :=
  ∀ K' : Act → World → Prop, Shut (∀ v w', M v w' → K' ⟨(overlay (upd x d v) 0 mask L).toArray, df⟩ w') →
    if Region.wanted o (yielded ops (overlay x 0 mask L).toArray) = true then Oper.wp P o ⟨(overlay x 0 mask L).toArray, df⟩ w K' Q else K' (Act.put ⟨(overlay x 0 mask L).toArray, df⟩ o.dst undef) w
def StepsA (P : Program) (ops : Array Oper) (Q : Exit → Act → World → Prop) (mask : List Bool) (L : List Value) (df : List Deferred) (ps : List Known) (dst : Nat → Nat) (a : Nat) (pu : List Nat) (J : World → Prop) (M : Value → World → Prop) (fin : List Nat) (w0 : World) : Nat → List Oper → Prop
  | _, [] => True
  | i, o :: os => (if i = a then ∀ x w, Below w0.heap.size w0 w → StepGoal ps dst w (TurnBody P ops Q mask L df M w (dst i) o) fin x
      else if pu.contains i then ∀ x w, J w → StepGoal ps dst w (PureBody P ops Q mask L df (ps.getD i kAny) w (dst i) o) ((depsOf o).filter (pu.contains ·)) x
      else ∀ x w, Below w0.heap.size w0 w → StepGoal ps dst w (StepBody P ops Q mask L df (ps.getD i kAny) w (dst i) o) (depsOf o) x) ∧ StepsA P ops Q mask L df ps dst a pu J M fin w0 (i + 1) os
theorem StepsA.at_ {P : Program} {ops : Array Oper} {Q : Exit → Act → World → Prop} {mask : List Bool} {L : List Value} {df : List Deferred} {ps : List Known} {dst : Nat → Nat} {a : Nat} {pu : List Nat} {J : World → Prop} {M : Value → World → Prop} {fin : List Nat} {w0 : World} :
    ∀ (os : List Oper) (n i : Nat) (o : Oper), StepsA P ops Q mask L df ps dst a pu J M fin w0 n os → os[i]? = some o → (if n + i = a then ∀ x w, Below w0.heap.size w0 w → StepGoal ps dst w (TurnBody P ops Q mask L df M w (dst (n + i)) o) fin x
      else if pu.contains (n + i) then ∀ x w, J w → StepGoal ps dst w (PureBody P ops Q mask L df (ps.getD (n + i) kAny) w (dst (n + i)) o) ((depsOf o).filter (pu.contains ·)) x
      else ∀ x w, Below w0.heap.size w0 w → StepGoal ps dst w (StepBody P ops Q mask L df (ps.getD (n + i) kAny) w (dst (n + i)) o) (depsOf o) x)
  | [], _, _, _, _, h => by simp at h
  | o' :: os, n, 0, o, hs, h => by
    simp only [List.getElem?_cons_zero, Option.some.injEq] at h
    subst h
    exact hs.1
  | o' :: os, n, i + 1, o, hs, h => by
    have := StepsA.at_ os (n + 1) i o hs.2 (by simpa using h)
    rw [show n + 1 + i = n + (i + 1) by omega] at this
    exact this
def isVal : Known → Bool
  | .val _ => true
  | _ => false
theorem isVal_holds {k : Known} (h : isVal k = true) {v : Value} {w w' : World} (hv : k.holds v w) : k.holds v w' := by
  cases k with
  | val c => exact hv
  | new f cs t => cases h
  | mem q hq => cases h
/-- All but the pure ones feed a. -/
def feedA (ops : Array Oper) (n a : Nat) (pu : List Nat) : Bool := (List.range n).all fun i => decide (i = a) || pu.contains i || (List.range n).any fun j => (decide (j = a) || (!pu.contains j && decide (i < j))) && match ops[j]? with | some o => (depsOf o).contains i | none => false
theorem region_app {P : Program} {id : Nat} {ops : Array Oper} {Q : Exit → Act → World → Prop} {L : List Value} {df : List Deferred} {w0 : World} (n a : Nat) (o0 : Oper) (mask : List Bool) (dsts : List Nat) (ps : List Known) (pu : List Nat) (J : World → Prop) (M : Value → World → Prop) (fin : List Nat) (fin2 : List Nat)
    (hJ1 : ∀ w, Below w0.heap.size w0 w → J w) (hJ2 : ∀ v w, M v w → J w)
    (hm : P.follows .mixedOrders = true) (hn : ops.size = n + 1) (ho0 : ops[n]? = some o0) (ha : a < n) (hb : backB ops = true) (hf : feedB ops n = true) (hfa : feedA ops n a pu = true) (hpd : pu.contains a = false) (hpv : pu.all (fun j => isVal (ps.getD j kAny)) = true) (hpn : pu.all (fun j => decide (j < n)) = true)
    (hdl : dsts = (List.range n).map (dstN ops)) (hd : distB (ops.extract 0 n) = true) (hfin : fin.all (fun j => decide (j < n) && !decide (j = a) && !pu.contains j) = true) (hfin2 : fin2.all (fun j => pu.contains j) = true)
    (hs : StepsA P ops Q mask L df ps (fun i => dsts.getD i 0) a pu J M fin w0 0 (ops.toList.take n))
    (hdone : ∀ x w v, M v w → StepGoal ps (fun i => dsts.getD i 0) w (fun x => LastBody P ops Q mask L df w o0 (upd x (dsts.getD a 0) v)) fin2 x) :
    (Code.region id ops true).wp P Q ⟨L.toArray, df⟩ w0 := by
  have hdg : ∀ i, i < n → dsts.getD i 0 = dstN ops i := by
    intro i hi
    rw [hdl, List.getD_eq_getElem?_getD, List.getElem?_map, List.getElem?_range hi]
    rfl
  have hdist : ∀ i j, i < n → j < n → i ≠ j → dsts.getD i 0 ≠ dsts.getD j 0 := by
    intro i j hi hj hne
    rw [hdg i hi, hdg j hj]
    have hsz : (ops.extract 0 n).size = n := by simp; omega
    have h1 := List.all_eq_true.1 (List.all_eq_true.1 hd i (List.mem_range.2 (by omega))) j (List.mem_range.2 (by omega))
    have e : ∀ q, q < n → dstN (ops.extract 0 n) q = dstN ops q := by
      intro q hq
      unfold dstN
      rw [Array.getElem?_extract]
      simp [hq, hn]
    rw [e i hi, e j hj] at h1
    simpa [hne] using h1
  have hpun : ∀ i, pu.contains i = true → i < n ∧ i ≠ a := by
    intro i hi
    have hi' : i ∈ pu := by simpa using hi
    have h1 := List.all_eq_true.1 hpn i hi'
    exact ⟨of_decide_eq_true h1, by intro e; subst e; rw [hpd] at hi; cases hi⟩
  have hpval : ∀ i, pu.contains i = true → isVal (ps.getD i kAny) = true := fun i hi => List.all_eq_true.1 hpv i (by simpa using hi)
  let dc : Array Bool → Prop := fun listed => ∀ i o, ops[i]? = some o → listed.getD i false = true → ∀ e ∈ o.after, Region.binds .any e = true → listed.getD e.on false = true
  have hcl : ∀ listed : Array Bool, dc listed → (∀ e ∈ o0.after, Region.binds .any e = true → listed.getD e.on false = true) → ∀ m i, i + m = n → 0 < m → listed.getD i false = true := by
    intro listed hdc hl m
    induction m using Nat.strongRecOn with
    | _ m ih =>
      intro i him hm0
      have h1 := List.all_eq_true.1 hf i (List.mem_range.2 (by omega))
      obtain ⟨j, hj, h2⟩ := List.any_eq_true.1 h1
      have hj' := List.mem_range.1 hj
      have hjs : j < ops.size := by omega
      have ho : ops[j]? = some ops[j] := Array.getElem?_eq_getElem hjs
      rw [ho] at h2
      obtain ⟨e, he, hbd, hei⟩ := mem_deps h2
      have hlt : e.on < j := back_lt hb ho he hbd
      subst hei
      by_cases hjn : j = n
      · subst hjn
        rw [ho0] at ho
        cases ho
        exact hl e he hbd
      · exact hdc j _ ho (ih (n - j) (by omega) j (by omega) (by omega)) e he hbd
  have hoa : ops[a]? = some ops[a] := Array.getElem?_eq_getElem (by omega)
  have hcla : ∀ listed : Array Bool, dc listed → (∀ e ∈ (ops[a]).after, Region.binds .any e = true → listed.getD e.on false = true) → ∀ m i, i + m = n → 0 < m → i ≠ a → pu.contains i = false → listed.getD i false = true := by
    intro listed hdc hl m
    induction m using Nat.strongRecOn with
    | _ m ih =>
      intro i him hm0 hia hip
      have h1 := List.all_eq_true.1 hfa i (List.mem_range.2 (by omega))
      rw [decide_eq_false hia, hip, Bool.false_or, Bool.false_or] at h1
      obtain ⟨j, hj, h2⟩ := List.any_eq_true.1 h1
      have hj' := List.mem_range.1 hj
      have hjs : j < ops.size := by omega
      have ho : ops[j]? = some ops[j] := Array.getElem?_eq_getElem hjs
      rw [ho] at h2
      obtain ⟨h3, h2⟩ := Bool.and_eq_true_iff.1 h2
      obtain ⟨e, he, hbd, hei⟩ := mem_deps h2
      subst hei
      by_cases hja : j = a
      · subst hja
        exact hl e he hbd
      · rw [decide_eq_false hja, Bool.false_or] at h3
        obtain ⟨h4, h5⟩ := Bool.and_eq_true_iff.1 h3
        have h5 := of_decide_eq_true h5
        exact hdc j _ ho (ih (n - j) (by omega) j (by omega) (by omega) hja (by simpa using h4)) e he hbd
  refine wp_region_any hm (wpAny_inv (fun listed ac w => dc listed ∧ ((listed.getD n false = true ∧ Q .normal ac w) ∨ (listed.getD n false = false ∧ listed.getD a false = false ∧ ∃ x : Nat → Value, ac = ⟨(overlay x 0 mask L).toArray, df⟩ ∧ Below w0.heap.size w0 w ∧ ∀ i, i < n → listed.getD i false = true → (ps.getD i kAny).holds (x (dsts.getD i 0)) w)
      ∨ (listed.getD n false = false ∧ listed.getD a false = true ∧ ∃ x : Nat → Value, ac = ⟨(overlay x 0 mask L).toArray, df⟩ ∧ M (x (dsts.getD a 0)) w ∧ ∀ i, pu.contains i = true → listed.getD i false = true → (ps.getD i kAny).holds (x (dsts.getD i 0)) w))) ?_ ?_ _ _ _ _ (by simp) (by simp) ?_)
  · rintro listed ac w i hsz ⟨hdc, hor⟩ hi
    obtain ⟨hun, o, ho, hall⟩ := mem_ready.1 hi
    have his : i < ops.size := (Array.getElem?_eq_some_iff.1 ho).1
    have hun' : listed.getD i false = false := by
      rw [Array.getD_eq_getD_getElem?] at hun ⊢
      rw [Array.getElem?_eq_getElem (by omega)] at hun ⊢
      exact hun
    have hset : ∀ j, j ≠ i → (listed.setIfInBounds i true).getD j false = listed.getD j false := by
      intro j hj
      rw [Array.getD_eq_getD_getElem?, Array.getD_eq_getD_getElem?, Array.getElem?_setIfInBounds_ne (Ne.symm hj)]
    have hsetI : (listed.setIfInBounds i true).getD i false = true := by
      rw [Array.getD_eq_getD_getElem?, Array.getElem?_setIfInBounds_self_of_lt (by omega)]
      rfl
    have hdc' : dc (listed.setIfInBounds i true) := by
      intro j oj hoj hlj e he hbd
      have key : listed.getD e.on false = true := by
        by_cases hji : j = i
        · subst hji
          rw [ho] at hoj
          cases hoj
          exact hall e he hbd
        · refine hdc j oj hoj ?_ e he hbd
          rw [hset j hji] at hlj
          exact hlj
      by_cases hei : e.on = i
      · rw [hei] at key
        rw [hun'] at key
        cases key
      · rw [hset _ hei]; exact key
    have hdl2 : ∀ e ∈ o.after, Region.binds .any e = true → e.on < i := fun e he hbd => back_lt hb ho he hbd
    rcases hor with ⟨hln, _⟩ | ⟨hln, hla, x, rfl, hbw, hk⟩ | ⟨hln, hla, x, rfl, hM, hk⟩
    · exfalso
      by_cases hin : i = n
      · subst hin; rw [hln] at hun'; cases hun'
      · have := hcl listed hdc (fun e he hbd => hdc n o0 ho0 hln e he hbd) (n - i) i (by omega) (by omega)
        rw [this] at hun'; cases hun'
    · by_cases hin : i = n
      · exfalso
        subst hin
        rw [ho0] at ho
        cases ho
        have := hcl listed hdc hall (i - a) a (by omega) (by omega)
        rw [this] at hla
        cases hla
      · have hilt : i < n := by omega
        have hst := StepsA.at_ (ops.toList.take n) 0 i o hs (by rw [List.getElem?_take_of_lt hilt, Array.getElem?_toList]; exact ho)
        rw [Nat.zero_add] at hst
        by_cases hia : i = a
        · rw [if_pos hia] at hst
          have e1 : o = ops[a] := by subst hia; rw [hoa] at ho; exact (Option.some.inj ho).symm
          have hbd := StepGoal.use fin x (fun j hj => by
            have h1 := List.all_eq_true.1 hfin j hj
            simp only [Bool.and_eq_true, decide_eq_true_eq, Bool.not_eq_true', decide_eq_false_iff_not] at h1
            exact hk j h1.1.1 (hcla listed hdc (by rw [← e1]; exact hall) (n - j) j (by omega) (by omega) h1.1.2 h1.2)) (hst x w hbw)
          refine wpOp_step ho (fun K' hK => hbd K' (fun v w' hv => hK _ _ ⟨hdc', Or.inr (Or.inr ⟨by rw [hset n (by omega)]; exact hln, by rw [← hia]; exact hsetI, upd x (dsts.getD i 0) v, rfl, by rw [hia, upd_eq]; exact hv, fun j hj hlj => ?_⟩)⟩))
          have hjn := hpun j hj
          have hne : dsts.getD j 0 ≠ dsts.getD i 0 := hdist j i hjn.1 hilt (by omega)
          rw [upd_ne hne]
          rw [hset j (by omega)] at hlj
          exact isVal_holds (hpval j hj) (hk j hjn.1 hlj)
        · rw [if_neg hia] at hst
          by_cases hip : pu.contains i = true
          · rw [if_pos hip] at hst
            have hbd := StepGoal.use ((depsOf o).filter (pu.contains ·)) x (fun j hj => by
              obtain ⟨hj, _⟩ := List.mem_filter.1 hj
              obtain ⟨e, he, rfl⟩ := List.mem_map.1 hj
              obtain ⟨he1, he2⟩ := List.mem_filter.1 he
              have he1' : e ∈ o.after := by simpa using he1
              have := hdl2 e he1' he2
              exact hk e.on (by omega) (hall e he1' he2)) (hst x w (hJ1 _ hbw))
            refine wpOp_step ho (fun K' hK => hbd K' (fun v hv => hK _ _ ⟨hdc', Or.inr (Or.inl ⟨by rw [hset n (by omega)]; exact hln, by rw [hset a (Ne.symm hia)]; exact hla, upd x (dsts.getD i 0) v, rfl, hbw, fun j hj hlj => ?_⟩)⟩))
            by_cases hji : j = i
            · subst hji; rw [upd_eq]; exact hv
            · rw [upd_ne (hdist j i hj hilt hji)]
              rw [hset j hji] at hlj
              exact hk j hj hlj
          · rw [if_neg hip] at hst
            have hbd := StepGoal.use (depsOf o) x (fun j hj => by
              obtain ⟨e, he, rfl⟩ := List.mem_map.1 hj
              obtain ⟨he1, he2⟩ := List.mem_filter.1 he
              have he1' : e ∈ o.after := by simpa using he1
              have := hdl2 e he1' he2
              exact hk e.on (by omega) (hall e he1' he2)) (hst x w hbw)
            refine wpOp_step ho (fun K' hK => hbd K' (fun v w' hb' hv => hK _ _ ⟨hdc', Or.inr (Or.inl ⟨by rw [hset n (by omega)]; exact hln, by rw [hset a (Ne.symm hia)]; exact hla, upd x (dsts.getD i 0) v, rfl, hbw.trans (hb'.mono hbw.size), fun j hj hlj => ?_⟩)⟩))
            by_cases hji : j = i
            · subst hji; rw [upd_eq]; exact hv
            · rw [upd_ne (hdist j i hj hilt hji)]
              rw [hset j hji] at hlj
              exact Known.ext (hk j hj hlj) hb'
    · by_cases hin : i = n
      · subst hin
        rw [ho0] at ho
        cases ho
        have hbd := StepGoal.use fin2 x (fun j hj => by
          have h1 := List.all_eq_true.1 hfin2 j hj
          have h2 := hpun j h1
          exact hk j h1 (hcl listed hdc hall (i - j) j (by omega) (by omega))) (hdone x w _ hM)
        simp only [upd_self] at hbd
        refine wpOp_step ho0 (fun K' hK => hbd K' (fun a' w' hq => hK _ _ ⟨hdc', Or.inl ⟨hsetI, hq⟩⟩))
      · have hilt : i < n := by omega
        have hia : i ≠ a := by intro e; subst e; rw [hla] at hun'; cases hun'
        have hip : pu.contains i = true := by
          cases hc : pu.contains i with
          | true => rfl
          | false =>
            have := hcla listed hdc (fun e he hbd => hdc a _ hoa hla e he hbd) (n - i) i (by omega) (by omega) hia hc
            rw [this] at hun'; cases hun'
        have hst := StepsA.at_ (ops.toList.take n) 0 i o hs (by rw [List.getElem?_take_of_lt hilt, Array.getElem?_toList]; exact ho)
        rw [Nat.zero_add, if_neg hia, if_pos hip] at hst
        have hbd := StepGoal.use ((depsOf o).filter (pu.contains ·)) x (fun j hj => by
          obtain ⟨hj, hjp⟩ := List.mem_filter.1 hj
          obtain ⟨e, he, rfl⟩ := List.mem_map.1 hj
          obtain ⟨he1, he2⟩ := List.mem_filter.1 he
          have he1' : e ∈ o.after := by simpa using he1
          exact hk e.on hjp (hall e he1' he2)) (hst x w (hJ2 _ _ hM))
        refine wpOp_step ho (fun K' hK => hbd K' (fun v hv => hK _ _ ⟨hdc', Or.inr (Or.inr ⟨by rw [hset n (by omega)]; exact hln, by rw [hset a (Ne.symm hia)]; exact hla, upd x (dsts.getD i 0) v, rfl, by rw [upd_ne (hdist a i ha hilt (Ne.symm hia))]; exact hM, fun j hj hlj => ?_⟩)⟩))
        by_cases hji : j = i
        · subst hji; rw [upd_eq]; exact hv
        · rw [upd_ne (hdist j i (hpun j hj).1 hilt hji)]
          rw [hset j hji] at hlj
          exact hk j hj hlj
  · rintro listed ac w hsz ⟨hdc, hor⟩ hr
    have hal := all_listed hb hsz hr
    rcases hor with ⟨_, hq⟩ | ⟨hln, _⟩ | ⟨hln, _⟩
    · exact hq
    · rw [hal (n + 1) n (by omega) (by omega)] at hln
      cases hln
    · rw [hal (n + 1) n (by omega) (by omega)] at hln
      cases hln
  · have hzero : ∀ i, i < ops.size → (Array.replicate ops.size false).getD i false = false := by
      intro i hi
      rw [Array.getD_eq_getD_getElem?]
      simp [hi]
    refine ⟨fun i o _ h => ?_, Or.inr (Or.inl ⟨?_, ?_, fun j => L.getD j undef, ?_, (Below.refl _ _).drew, fun i hi h => ?_⟩)⟩
    · exfalso
      rw [Array.getD_eq_getD_getElem?] at h
      by_cases hi : i < ops.size
      · simp [hi] at h
      · simp [hi] at h
    · rw [Array.getD_eq_getD_getElem?]
      simp [hn]
    · rw [Array.getD_eq_getD_getElem?]
      have : a < ops.size := by omega
      simp [this]
    · have := overlay_self L [] mask
      rw [List.nil_append, List.length_nil] at this
      rw [this]
    · exfalso
      rw [Array.getD_eq_getD_getElem?] at h
      have : i < ops.size := by omega
      simp [this] at h
end Go.Proofs.YtgklopgeimjgiaaGreatDoor
