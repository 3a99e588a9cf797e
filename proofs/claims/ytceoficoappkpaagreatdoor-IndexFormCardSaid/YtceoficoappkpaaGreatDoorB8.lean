/- Texts joined by a tool: contracts and walks of this claim. -/
import Derived.Test.YtceoficoappkpaaGreatDoorB7
import Derived.Deep.RegionHeld
import Derived.Deep.DeepCutAuto
import Derived.Laws.Concat
namespace Go.Proofs.YtceoficoappkpaaGreatDoor
open Go.RowKit
def upd (x : Nat → Value) (d : Nat) (v : Value) : Nat → Value := fun j => if j = d then v else x j
theorem upd_self (x : Nat → Value) (d : Nat) : upd x d (x d) = x := by
 funext j
 unfold upd
 split
 · next h => rw [h]
 · rfl
theorem upd_ne {x : Nat → Value} {d e : Nat} {v : Value} (h : e ≠ d) : upd x d v e = x e := if_neg h
theorem upd_eq {x : Nat → Value} {d : Nat} {v : Value} : upd x d v d = v := if_pos rfl
def overlay (x : Nat → Value) : Nat → List Bool → List Value → List Value
 | _, _, [] => []
 | _, [], v :: vs => v :: vs
 | j, m :: ms, v :: vs => (bif m then x j else v) :: overlay x (j + 1) ms vs
theorem overlay_self : ∀ (L pre : List Value) (mask : List Bool), overlay (fun j => (pre ++ L).getD j undef) pre.length mask L = L
 | [], _, _ => by cases ‹List Bool› <;> rfl
 | v :: vs, pre, [] => rfl
 | v :: vs, pre, m :: ms => by
  have ih := overlay_self vs (pre ++ [v]) ms
  rw [List.append_assoc, List.singleton_append, List.length_append, List.length_singleton] at ih
  rw [overlay, ih]
  cases m
  · rfl
  · simp [List.getD_eq_getElem?_getD]
inductive Known where
 | val (v : Value)
 | new (f : Nat → Value) (cs : Array Value) (t : TypeId)
 | mem (q : Value → World → Prop) (h : ∀ v w w', q v w → Below w.heap.size w w' → q v w')
def Known.holds : Known → Value → World → Prop
 | .val c, v, _ => v = c
 | .new f cs t, v, w => ∃ b, v = f b ∧ Blk w b cs t
 | .mem q _, v, w => q v w
theorem Known.ext {k : Known} {v : Value} {w w' : World} (h : k.holds v w) (hb : Below w.heap.size w w') : k.holds v w' := by
 cases k with
 | val c => exact h
 | new f cs t =>
  obtain ⟨b, h1, h2⟩ := h
  exact ⟨b, h1, h2.ext hb⟩
 | mem q hq => exact hq _ _ _ h hb
def kAny : Known := .mem (fun _ _ => True) (fun _ _ _ _ _ => trivial)
def dstN (ops : Array Oper) (i : Nat) : Nat := ((ops[i]?).bind (·.dst)).getD 0
def depsOf (o : Oper) : List Nat := (o.after.toList.filter (Region.binds .any ·)).map (·.on)
def StepGoal (ps : List Known) (dst : Nat → Nat) (w : World) (body : (Nat → Value) → Prop) : List Nat → (Nat → Value) → Prop
 | [], x => body x
 | j :: js, x => match ps.getD j kAny with
  | .val c => StepGoal ps dst w body js (upd x (dst j) c)
  | .new f cs t => ∀ b, Blk w b cs t → StepGoal ps dst w body js (upd x (dst j) (f b))
  | .mem q _ => ∀ v, q v w → StepGoal ps dst w body js (upd x (dst j) v)
theorem StepGoal.use {ps : List Known} {dst : Nat → Nat} {w : World} {body : (Nat → Value) → Prop} : ∀ (js : List Nat) (x : Nat → Value),
  (∀ j ∈ js, (ps.getD j kAny).holds (x (dst j)) w) → StepGoal ps dst w body js x → body x
 | [], _, _, h => h
 | j :: js, x, hx, h => by
  have h1 := hx j (by simp)
  have h2 : ∀ i ∈ js, (ps.getD i kAny).holds (x (dst i)) w := fun i hi => hx i (by simp [hi])
  rw [StepGoal] at h
  cases hk : ps.getD j kAny with
  | val c =>
   rw [hk] at h h1
   have e : x (dst j) = c := h1
   simp only at h
   rw [← e, upd_self] at h
   exact StepGoal.use js x h2 h
  | new f cs t =>
   rw [hk] at h h1
   obtain ⟨b, e, hb⟩ := h1
   have h := h b hb
   rw [← e, upd_self] at h
   exact StepGoal.use js x h2 h
  | mem q hq =>
   rw [hk] at h h1
   have h := h (x (dst j)) h1
   rw [upd_self] at h
   exact StepGoal.use js x h2 h
def StepBody (P : Program) (ops : Array Oper) (Q : Exit → Act → World → Prop) (mask : List Bool) (L : List Value) (df : List Deferred) (k : Known) (w : World) (d : Nat) (o : Oper) (x : Nat → Value) : Prop :=
 ∀ K' : Act → World → Prop, Shut (∀ v w', Below w.heap.size w w' → k.holds v w' → K' ⟨(overlay (upd x d v) 0 mask L).toArray, df⟩ w') →
  if Region.wanted o (yielded ops (overlay x 0 mask L).toArray) = true then Oper.wp P o ⟨(overlay x 0 mask L).toArray, df⟩ w K' Q else K' (Act.put ⟨(overlay x 0 mask L).toArray, df⟩ o.dst undef) w
def Steps (P : Program) (ops : Array Oper) (Q : Exit → Act → World → Prop) (mask : List Bool) (L : List Value) (df : List Deferred) (ps : List Known) (dst : Nat → Nat) (w0 : World) : Nat → List Oper → Prop
 | _, [] => True
 | i, o :: os => (∀ x w, Below w0.heap.size w0 w → StepGoal ps dst w (StepBody P ops Q mask L df (ps.getD i kAny) w (dst i) o) (depsOf o) x) ∧ Steps P ops Q mask L df ps dst w0 (i + 1) os
theorem Steps.at_ {P : Program} {ops : Array Oper} {Q : Exit → Act → World → Prop} {mask : List Bool} {L : List Value} {df : List Deferred} {ps : List Known} {dst : Nat → Nat} {w0 : World} :
  ∀ (os : List Oper) (n i : Nat) (o : Oper), Steps P ops Q mask L df ps dst w0 n os → os[i]? = some o → ∀ x w, Below w0.heap.size w0 w → StepGoal ps dst w (StepBody P ops Q mask L df (ps.getD (n + i) kAny) w (dst (n + i)) o) (depsOf o) x
 | [], _, _, _, _, h => by simp at h
 | o' :: os, n, 0, o, hs, h => by
  simp only [List.getElem?_cons_zero, Option.some.injEq] at h
  subst h
  exact hs.1
 | o' :: os, n, i + 1, o, hs, h => by
  have := Steps.at_ os (n + 1) i o hs.2 (by simpa using h)
  rw [show n + 1 + i = n + (i + 1) by omega] at this
  exact this
def backB (ops : Array Oper) : Bool := (List.range ops.size).all fun i => match ops[i]? with | some o => (depsOf o).all fun j => decide (j < i) | none => true
theorem back_lt {ops : Array Oper} {i : Nat} {o : Oper} (hb : backB ops = true) (ho : ops[i]? = some o) {e} (he : e ∈ o.after) (hbd : Region.binds .any e = true) : e.on < i := by
 have his : i < ops.size := (Array.getElem?_eq_some_iff.1 ho).1
 have h1 := List.all_eq_true.1 hb i (List.mem_range.2 his)
 rw [ho] at h1
 exact of_decide_eq_true (List.all_eq_true.1 h1 e.on (List.mem_map.2 ⟨e, List.mem_filter.2 ⟨by simpa using he, hbd⟩, rfl⟩))
def distB (ops : Array Oper) : Bool := (List.range ops.size).all fun i => (List.range ops.size).all fun j => decide (i = j) || !decide (dstN ops i = dstN ops j)
theorem cnt_zero {l : List Bool} (h : l.count false = 0) : ∀ i, l.getD i true = true := by
 intro i
 rw [List.getD_eq_getElem?_getD]
 cases hi : l[i]? with
 | none => rfl
 | some b =>
  cases b
  · have := List.mem_of_getElem? hi
    have := List.count_pos_iff.2 this
    omega
  · rfl
theorem cnt_set {l : List Bool} {i : Nat} (h : l.getD i true = false) : (l.set i true).count false + 1 = l.count false := by
 have hi : i < l.length := by
  rcases Nat.lt_or_ge i l.length with h' | h'
  · exact h'
  · rw [List.getD_eq_getElem?_getD, List.getElem?_eq_none h'] at h; cases h
 have hv : l[i] = false := by
  rw [List.getD_eq_getElem?_getD, List.getElem?_eq_getElem hi] at h; exact h
 have hp : 0 < l.count false := List.count_pos_iff.2 (by rw [← hv]; exact List.getElem_mem hi)
 rw [List.count_set hi, hv]
 simp
 omega
theorem getD_list (a : Array Bool) (i : Nat) (d : Bool) : a.getD i d = a.toList.getD i d := by
 rw [Array.getD_eq_getD_getElem?, List.getD_eq_getElem?_getD, Array.getElem?_toList]
theorem wpAny_inv {P : Program} {ops : Array Oper} {Q : Exit → Act → World → Prop} {md : Region.Mode} (I : Array Bool → Act → World → Prop)
  (hstep : ∀ listed a w i, listed.size = ops.size → I listed a w → i ∈ Region.ready md ops listed → wpOp P ops Q i (fun a' w' => I (listed.setIfInBounds i true) a' w') a w)
  (hdone : ∀ listed a w, listed.size = ops.size → I listed a w → Region.ready md ops listed = [] → Q .normal a w) :
  ∀ fuel listed a w, listed.size = ops.size → listed.toList.count false ≤ fuel → I listed a w → wpAny P md ops Q fuel listed a w
 | 0, listed, a, w, hs, hc, hI => by
  have hr : Region.ready md ops listed = [] := by
   rw [List.eq_nil_iff_forall_not_mem]
   intro j hj
   have h1 := (mem_ready.1 hj).1
   rw [getD_list, cnt_zero (by omega) j] at h1
   cases h1
  exact ⟨hr, hdone listed a w hs hI hr⟩
 | fuel + 1, listed, a, w, hs, hc, hI => by
  refine ⟨fun hr => hdone listed a w hs hI hr, fun i hi => ?_⟩
  refine wpOp_mono (fun a' w' h' => ?_) (hstep listed a w i hs hI hi)
  refine wpAny_inv I hstep hdone fuel _ a' w' (by simpa using hs) ?_ h'
  have h1 := (mem_ready.1 hi).1
  rw [getD_list] at h1
  have h2 := cnt_set h1
  rw [Array.toList_setIfInBounds]
  omega
theorem all_listed {ops : Array Oper} {listed : Array Bool} (hb : backB ops = true) (hs : listed.size = ops.size) (hr : Region.ready .any ops listed = []) :
  ∀ n j, j < n → j < ops.size → listed.getD j false = true := by
 intro n
 induction n with
 | zero => intro j h; omega
 | succ n ih =>
  intro j hj hjs
  by_cases hlt : j < n
  · exact ih j hlt hjs
  · obtain rfl : j = n := by omega
    have ho : ops[j]? = some ops[j] := Array.getElem?_eq_getElem hjs
    have hjl : j < listed.size := by omega
    cases hv : listed[j] with
    | true =>
     rw [Array.getD_eq_getD_getElem?, Array.getElem?_eq_getElem hjl, hv]; rfl
    | false =>
     have hmem : j ∈ Region.ready .any ops listed := by
      refine mem_ready.2 ⟨?_, ops[j], ho, fun e he hbd => ?_⟩
      · rw [Array.getD_eq_getD_getElem?, Array.getElem?_eq_getElem hjl, hv]; rfl
      · have hlt : e.on < j := back_lt hb ho he hbd
        exact ih e.on hlt (by omega)
     rw [hr] at hmem
     cases hmem
theorem region_grow {P : Program} {id : Nat} {ops : Array Oper} {Q : Exit → Act → World → Prop} {L : List Value} {df : List Deferred} {w0 : World} (mask : List Bool) (dsts : List Nat) (ps : List Known) (fin : List Nat)
  (hm : P.follows .mixedOrders = true) (hb : backB ops = true) (hdl : dsts = (List.range ops.size).map (dstN ops)) (hd : distB ops = true) (hfin : fin.all (fun j => decide (j < ops.size)) = true)
  (hs : Steps P ops Q mask L df ps (fun i => dsts.getD i 0) w0 0 ops.toList)
  (hdone : ∀ x w, Below w0.heap.size w0 w → StepGoal ps (fun i => dsts.getD i 0) w (fun x => Q .normal ⟨(overlay x 0 mask L).toArray, df⟩ w) fin x) :
  (Code.region id ops true).wp P Q ⟨L.toArray, df⟩ w0 := by
 have hdg : ∀ i, i < ops.size → dsts.getD i 0 = dstN ops i := by
  intro i hi
  rw [hdl, List.getD_eq_getElem?_getD, List.getElem?_map, List.getElem?_range hi]
  rfl
 refine wp_region_any hm (wpAny_inv (fun listed a w => ∃ x : Nat → Value, a = ⟨(overlay x 0 mask L).toArray, df⟩ ∧ Below w0.heap.size w0 w ∧ ∀ i, i < ops.size → listed.getD i false = true → (ps.getD i kAny).holds (x (dsts.getD i 0)) w) ?_ ?_ _ _ _ _ (by simp) (by simp) ?_)
 · rintro listed a w i hsz ⟨x, rfl, hbw, hk⟩ hi
   obtain ⟨hun, o, ho, hall⟩ := mem_ready.1 hi
   have his : i < ops.size := (Array.getElem?_eq_some_iff.1 ho).1
   have hst := Steps.at_ ops.toList 0 i o hs (by rw [Array.getElem?_toList]; exact ho) x w hbw
   rw [Nat.zero_add] at hst
   have hbd := StepGoal.use (depsOf o) x (fun j hj => by
    obtain ⟨e, he, rfl⟩ := List.mem_map.1 hj
    obtain ⟨he1, he2⟩ := List.mem_filter.1 he
    have hl := hall e (by simpa using he1) he2
    refine hk e.on ?_ hl
    rcases Nat.lt_or_ge e.on listed.size with h' | h'
    · omega
    · rw [Array.getD_eq_getD_getElem?, Array.getElem?_eq_none h'] at hl; cases hl) hst
   refine wpOp_step ho (fun K' hK => hbd K' (fun v w' hb' hv => hK _ _ ⟨upd x (dsts.getD i 0) v, rfl, hbw.trans (hb'.mono hbw.size), fun j hj hlj => ?_⟩))
   by_cases hji : j = i
   · subst hji; rw [upd_eq]; exact hv
   · have hne : dsts.getD j 0 ≠ dsts.getD i 0 := by
      rw [hdg j hj, hdg i his]
      have h1 := List.all_eq_true.1 (List.all_eq_true.1 hd j (List.mem_range.2 hj)) i (List.mem_range.2 his)
      simpa [hji] using h1
     rw [upd_ne hne]
     refine Known.ext (hk j hj ?_) hb'
     rw [Array.getD_eq_getD_getElem?] at hlj ⊢
     rwa [Array.getElem?_setIfInBounds_ne (Ne.symm hji)] at hlj
 · rintro listed a w hsz ⟨x, rfl, hbw, hk⟩ hr
   have hal := all_listed hb hsz hr
   exact StepGoal.use fin x (fun j hj => by
    have hjs : j < ops.size := of_decide_eq_true (List.all_eq_true.1 hfin j hj)
    exact hk j hjs (hal (j + 1) j (by omega) hjs)) (hdone x w hbw)
 · refine ⟨fun j => L.getD j undef, ?_, (Below.refl _ _).drew, fun i hi h => ?_⟩
   · have := overlay_self L [] mask
     rw [List.nil_append, List.length_nil] at this
     rw [this]
   · rw [Array.getD_eq_getD_getElem?] at h
     simp [hi] at h
def PureBody (P : Program) (ops : Array Oper) (Q : Exit → Act → World → Prop) (mask : List Bool) (L : List Value) (df : List Deferred) (k : Known) (w : World) (d : Nat) (o : Oper) (x : Nat → Value) : Prop :=
 ∀ K' : Act → World → Prop, Shut (∀ v, k.holds v w → K' ⟨(overlay (upd x d v) 0 mask L).toArray, df⟩ w) →
  if Region.wanted o (yielded ops (overlay x 0 mask L).toArray) = true then Oper.wp P o ⟨(overlay x 0 mask L).toArray, df⟩ w K' Q else K' (Act.put ⟨(overlay x 0 mask L).toArray, df⟩ o.dst undef) w
def TurnBody (P : Program) (ops : Array Oper) (Q : Exit → Act → World → Prop) (mask : List Bool) (L : List Value) (df : List Deferred) (M : Value → World → Prop) (w : World) (d : Nat) (o : Oper) (x : Nat → Value) : Prop :=
 ∀ K' : Act → World → Prop, Shut (∀ v w', M v w' → K' ⟨(overlay (upd x d v) 0 mask L).toArray, df⟩ w') →
  if Region.wanted o (yielded ops (overlay x 0 mask L).toArray) = true then Oper.wp P o ⟨(overlay x 0 mask L).toArray, df⟩ w K' Q else K' (Act.put ⟨(overlay x 0 mask L).toArray, df⟩ o.dst undef) w
def StepsA (P : Program) (ops : Array Oper) (Q : Exit → Act → World → Prop) (mask : List Bool) (L : List Value) (df : List Deferred) (ps : List Known) (dst : Nat → Nat) (a : Nat) (pu : List Nat) (J : World → Prop) (M : Value → World → Prop) (fin : List Nat) (w0 : World) : Nat → List Oper → Prop
 | _, [] => True
 | i, o :: os => (if i = a then ∀ x w, Below w0.heap.size w0 w → StepGoal ps dst w (TurnBody P ops Q mask L df M w (dst i) o) fin x
  else if pu.contains i then ∀ x w, J w → StepGoal ps dst w (PureBody P ops Q mask L df (ps.getD i kAny) w (dst i) o) ((depsOf o).filter (pu.contains ·)) x
  else ∀ x w, Below w0.heap.size w0 w → StepGoal ps dst w (StepBody P ops Q mask L df (ps.getD i kAny) w (dst i) o) (depsOf o) x) ∧ StepsA P ops Q mask L df ps dst a pu J M fin w0 (i + 1) os
theorem StepsA.at_ {P : Program} {ops : Array Oper} {Q : Exit → Act → World → Prop} {mask : List Bool} {L : List Value} {df : List Deferred} {ps : List Known} {dst : Nat → Nat} {a : Nat} {pu : List Nat} {J : World → Prop} {M : Value → World → Prop} {fin : List Nat} {w0 : World} :
  ∀ (os : List Oper) (n i : Nat) (o : Oper), StepsA P ops Q mask L df ps dst a pu J M fin w0 n os → os[i]? = some o → (if n + i = a then ∀ x w, Below w0.heap.size w0 w → StepGoal ps dst w (TurnBody P ops Q mask L df M w (dst (n + i)) o) fin x
   else if pu.contains (n + i) then ∀ x w, J w → StepGoal ps dst w (PureBody P ops Q mask L df (ps.getD (n + i) kAny) w (dst (n + i)) o) ((depsOf o).filter (pu.contains ·)) x
   else ∀ x w, Below w0.heap.size w0 w → StepGoal ps dst w (StepBody P ops Q mask L df (ps.getD (n + i) kAny) w (dst (n + i)) o) (depsOf o) x)
 | [], _, _, _, _, h => by simp at h
 | o' :: os, n, 0, o, hs, h => by
  simp only [List.getElem?_cons_zero, Option.some.injEq] at h
  subst h
  exact hs.1
 | o' :: os, n, i + 1, o, hs, h => by
  have := StepsA.at_ os (n + 1) i o hs.2 (by simpa using h)
  rw [show n + 1 + i = n + (i + 1) by omega] at this
  exact this
def putBlk (w : World) (b : Nat) (cs : Array Value) (t : TypeId) : World := { w with heap := w.heap.setIfInBounds b (.cells cs t (0, 0)) }
theorem putBlk_self {w : World} {b : Nat} {cs : Array Value} {t : TypeId} (h : Blk w b cs t) : putBlk w b cs t = w := by
 have : w.heap.setIfInBounds b (.cells cs t (0, 0)) = w.heap := by
  apply Array.ext_getElem?
  intro i
  rw [Array.getElem?_setIfInBounds]
  split
  · next e =>
    subst e
    split
    · exact h.symm
    · next hn => exact absurd h.lt hn
  · rfl
 unfold putBlk
 rw [this]
theorem putBlk_size (w : World) (b : Nat) (cs : Array Value) (t : TypeId) : (putBlk w b cs t).heap.size = w.heap.size := by simp [putBlk]
theorem putBlk_blk {w : World} {b : Nat} (cs : Array Value) (t : TypeId) (h : b < w.heap.size) : Blk (putBlk w b cs t) b cs t := by
 unfold Blk putBlk
 simp [h]
theorem putBlk_ne {w : World} {b c : Nat} {cs cs' : Array Value} {t t' : TypeId} (h : Blk w c cs' t') (hne : c ≠ b) : Blk (putBlk w b cs t) c cs' t' := by
 unfold Blk putBlk at *
 simp only
 rw [Array.getElem?_setIfInBounds_ne (Ne.symm hne)]
 exact h
theorem putBlk_below {w a : World} {B b : Nat} (cs : Array Value) (t : TypeId) (h : Below B a w) (hb : B ≤ b) : Below B a (putBlk w b cs t) := by
 refine ⟨h.os, h.tape, h.output, by rw [putBlk_size]; exact h.size, fun c hc => ?_⟩
 refine Eq.trans ?_ (h.block c hc)
 unfold putBlk
 simp only
 rw [Array.getElem?_setIfInBounds_ne (by omega)]
theorem putBlk_set {w : World} {b : Nat} (cs : Array Value) (t : TypeId) (h : b < w.heap.size) (i : Nat) (v : Value) : (putBlk w b cs t).setCell ⟨b, i, none⟩ v = putBlk w b (cs.setIfInBounds i v) t := by
 unfold putBlk World.setCell
 simp only [World.mk.injEq, and_true]
 apply Array.ext_getElem?
 intro j
 rw [Array.getElem?_modify, Array.getElem?_setIfInBounds, Array.getElem?_setIfInBounds]
 by_cases e : b = j
 · subst e
   simp [h]
 · simp [e]
theorem putBlk_facts {w : World} {b : Nat} (t : TypeId) (h : b < w.heap.size) :
  (∀ cs i, (putBlk w b cs t).cell? ⟨b, i, none⟩ = cs[i]?) ∧ (∀ cs i, (putBlk w b cs t).frozen? ⟨b, i, none⟩ = false) ∧ ∀ cs i v, (putBlk w b cs t).setCell ⟨b, i, none⟩ v = putBlk w b (cs.setIfInBounds i v) t :=
 ⟨fun cs i => (putBlk_blk cs t h).cell i, fun cs i => (putBlk_blk cs t h).frozen i, fun cs i v => putBlk_set cs t h i v⟩
theorem blk_put {w : World} {b : Nat} {cs : Array Value} {t : TypeId} (h : Blk w b cs t) : ∃ w3, w = putBlk w3 b cs t ∧ b < w3.heap.size := ⟨w, (putBlk_self h).symm, h.lt⟩
theorem putBlk_old {w : World} {b c : Nat} {cs cs' : Array Value} {t t' : TypeId} (h : Blk (putBlk w b cs t) c cs' t') (hne : c ≠ b) (ds : Array Value) : Blk (putBlk w b ds t) c cs' t' := by
 unfold Blk putBlk at *
 simp only at *
 rw [Array.getElem?_setIfInBounds_ne (Ne.symm hne)] at h ⊢
 exact h
theorem putBlk_belows {w a : World} {B b : Nat} {cs : Array Value} {t : TypeId} (h : Below B a (putBlk w b cs t)) (hb : B ≤ b) (ds : Array Value) : Below B a (putBlk w b ds t) := by
 have := putBlk_below (b := b) ds t h hb
 have e : putBlk (putBlk w b cs t) b ds t = putBlk w b ds t := by unfold putBlk; simp
 rwa [e] at this
theorem own_below {w w' : World} {base : Nat} {e : TypeId} {size n : Nat} {v : Value} {xs : List Value} (h : w.ownsRow base e size v n xs) (hb : Below w.heap.size w w') : w'.ownsRow base e size v n xs := by
 refine ⟨h.1, ?_⟩
 rcases h.2 with h0 | ⟨g, cap, cur, rfl, hbg, hh, h1, h2, h3, h4⟩
 · exact .inl h0
 · have hlt : g < w.heap.size := by
    rcases Nat.lt_or_ge g w.heap.size with hlt | hge
    · exact hlt
    · rw [Array.getElem?_eq_none hge] at hh; cases hh
   exact .inr ⟨g, cap, cur, rfl, hbg, (hb.block g hlt).trans hh, h1, h2, h3, h4⟩
theorem own_far {w : World} {b1 b2 : Nat} {e1 e2 : TypeId} {s1 s2 n1 n2 : Nat} {v1 v2 : Value} {x1 x2 : List Value} (h1 : w.ownsRow b1 e1 s1 v1 n1 x1) (h2 : w.ownsRow b2 e2 s2 v2 n2 x2) (hne : e1 ≠ e2) : v2.ownBlock = none ∨ v1.ownBlock ≠ v2.ownBlock := by
 rcases h2.2 with ⟨rfl, _⟩ | ⟨g, cap, cur, rfl, _, hh, _⟩
 · exact .inl rfl
 · exact .inr (own_ne h1 hh hne)
theorem Blk.grown {w w' : World} {b : Nat} {cs : Array Value} {t : TypeId} {base : Nat} {e : TypeId} {sz n : Nat} {v : Value} {xs : List Value} (h : Blk w b cs t) (ho : w.ownsRow base e sz v n xs) (hne : e ≠ t) (hg : w.grownBy w' v.ownBlock) : Blk w' b cs t :=
 (hg.block b h.lt (own_ne ho h hne).symm).trans h
theorem own_form {w : World} {base : Nat} {e : TypeId} {size n : Nat} {v : Value} {xs : List Value} (h : w.ownsRow base e size v n xs) : ∃ A c, v = .slice A n c := by
 rcases h.2 with ⟨rfl, rfl⟩ | ⟨g, cap, cur, rfl, _⟩
 · exact ⟨none, 0, rfl⟩
 · exact ⟨_, _, rfl⟩
theorem cells_new1 (w : World) (a : Value) (t : TypeId) : ∀ j u, [a][j]? = some u → (w.alloc (.cells #[a] t)).cell? ((⟨w.heap.size, 0, none⟩ : Addr).add j) = some u := by
 intro j u h
 match j with
 | 0 => exact ((Blk.new w #[a] t).cell 0).trans (by simpa using h)
 | j + 1 => simp at h
theorem ne_empty {rb : ByteArray} (h : ¬ rb.size = 0) : rb.toList.isEmpty = false ∧ rb.data.toList ≠ [] := by
 have h1 : rb.data.toList ≠ [] := by
  intro h'
  apply h
  have := congrArg List.length h'
  simpa using this
 have := str_ne rb.data.toList h1
 rw [Array.toArray_toList] at this
 exact ⟨this.1, h1⟩
theorem own_put {w : World} {b : Nat} {cs : Array Value} {t : TypeId} {base : Nat} {e : TypeId} {size n : Nat} {v : Value} {xs : List Value} (h3 : (putBlk w b cs t).ownsRow base e size v n xs) (hb : b < w.heap.size) (hne : e ≠ t) (ds : Array Value) : (putBlk w b ds t).ownsRow base e size v n xs := by
 have hfar := own_ne h3 (putBlk_blk cs t hb) hne
 refine ⟨h3.1, ?_⟩
 rcases h3.2 with h0 | ⟨g, cap, cur, hv, hbg, hh, h4⟩
 · exact .inl h0
 · refine .inr ⟨g, cap, cur, hv, hbg, ?_, h4⟩
   have hgb : b ≠ g := by
    intro e
    apply hfar
    rw [hv, e]
    rfl
   unfold putBlk at hh ⊢
   simp only at hh ⊢
   rw [Array.getElem?_setIfInBounds_ne hgb] at hh ⊢
   exact hh
theorem NRow.of_own {k : IntKind} {w : World} {base n c : Nat} {e : TypeId} {A : Option Addr} {l : List Int} (hlen : l.length ≤ 17592186044416)
  (h : w.ownsRow base e 1 (.slice A n c) n (l.map (Value.int k))) : NRow k w A l ∧ n = l.length := by
 have hn : n = l.length := by have := h.1; simp at this; omega
 refine ⟨⟨hlen, fun hl => ?_⟩, hn⟩
 have hpos : 0 < n := by rw [hn]; exact List.length_pos_iff.2 hl
 obtain ⟨g, cap, hv, _, hlt⟩ := h.form hpos
 have hA : A = some ⟨g, 0, none⟩ := by injection hv
 subst hA
 refine ⟨g, 0, rfl, hlt, fun i v hi => ?_⟩
 have hc := h.cells (g := g) rfl i (.int k v) (by rw [List.getElem?_map, hi]; rfl)
 have e : (⟨g, 0, none⟩ : Addr).add i = ⟨g, 0 + i, none⟩ := by
  unfold Addr.add; split
  · next h0 => subst h0; rfl
  · simp
 rwa [e] at hc
theorem info_u64 : (Tryz.prog.info? 29).map (fun i => (i.zero, i.size, i.bytes)) = some (some (.int .u64 0), 1, 8) := by kernel_rfl
theorem info_i64 : (Tryz.prog.info? 3).map (fun i => (i.zero, i.size, i.bytes)) = some (some (.int .i64 0), 1, 8) := by kernel_rfl
theorem cells_blk1 {w : World} {b : Nat} {a : Value} {t : TypeId} (h : Blk w b #[a] t) : ∀ j u, [a][j]? = some u → w.cell? ((⟨b, 0, none⟩ : Addr).add j) = some u := by
 intro j u hu
 match j with
 | 0 => exact (h.cell 0).trans (by simpa using hu)
 | j + 1 => simp at hu
theorem str_empty {rb : ByteArray} (h : rb.size = 0) : rb = ByteArray.empty := by
 apply ByteArray.ext; apply Array.eq_empty_of_size_eq_zero; exact h
theorem NRow.cells_ {k : IntKind} {w : World} {A : Option Addr} {l : List Int} (h : NRow k w A l) : ∀ ad, A = some ad → ∀ j u, (l.map (Value.int k))[j]? = some u → w.cell? (ad.add j) = some u := by
 rintro ad rfl j u hu
 rw [List.getElem?_map] at hu
 cases hj : l[j]? with
 | none => rw [hj] at hu; cases hu
 | some v =>
  rw [hj] at hu
  simp only [Option.map_some, Option.some.injEq] at hu
  subst hu
  have hne : l ≠ [] := by rintro rfl; simp at hj
  obtain ⟨b, off, e, _, hc⟩ := h.2 hne
  injection e with e
  subst e
  have ea : (⟨b, off, none⟩ : Addr).add j = ⟨b, off + j, none⟩ := by
   unfold Addr.add; split
   · next h0 => subst h0; rfl
   · rfl
  rw [ea]
  exact hc j v hj
end Go.Proofs.YtceoficoappkpaaGreatDoor
