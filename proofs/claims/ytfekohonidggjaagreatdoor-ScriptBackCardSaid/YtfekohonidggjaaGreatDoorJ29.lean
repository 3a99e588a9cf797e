/- Several texts in one: see each part's head. -/
import Derived.Test.YtfekohonidggjaaGreatDoorJ4
/- A law for a region that draws its order, whose last operations are forced, one behind the other, and turn what lies in memory. -/
namespace Go.Proofs.YtfekohonidggjaaGreatDoor
open Go.RowKit

def TailB (P : Program) (ops : Array Oper) (Q : Exit → Act → World → Prop) : List Oper → Act → World → Prop
  | [], a, w => Q .normal a w
  | o :: os, a, w => ∀ K' : Act → World → Prop, Shut (∀ a' w', TailB P ops Q os a' w' → K' a' w') →
    if Region.wanted o (yielded ops a.tmps) = true then Oper.wp P o a w K' Q else K' (Act.put a o.dst undef) w
def chainB (ops : Array Oper) (n : Nat) : Bool := (List.range ops.size).all fun i => decide (i ≤ n) || match ops[i]? with | some o => (depsOf o).contains (i - 1) | none => false
theorem region_tail {P : Program} {id : Nat} {ops : Array Oper} {Q : Exit → Act → World → Prop} {L : List Value} {df : List Deferred} {w0 : World} (n : Nat) (mask : List Bool) (dsts : List Nat) (ps : List Known) (fin : List Nat)
    (hm : P.follows .mixedOrders = true) (hn : n < ops.size) (hb : backB ops = true) (hf : feedB ops n = true) (hch : chainB ops n = true) (hdl : dsts = (List.range n).map (dstN ops)) (hd : distB (ops.extract 0 n) = true) (hfin : fin.all (fun j => decide (j < n)) = true)
    (hs : Steps P ops Q mask L df ps (fun i => dsts.getD i 0) w0 0 (ops.toList.take n))
    (hdone : ∀ x w, Below w0.heap.size w0 w → StepGoal ps (fun i => dsts.getD i 0) w (fun x => TailB P ops Q (ops.toList.drop n) ⟨(overlay x 0 mask L).toArray, df⟩ w) fin x) :
    (Code.region id ops true).wp P Q ⟨L.toArray, df⟩ w0 := by
  have hdg : ∀ i, i < n → dsts.getD i 0 = dstN ops i := by
    intro i hi
    rw [hdl, List.getD_eq_getElem?_getD, List.getElem?_map, List.getElem?_range hi]
    rfl
  have hdist : ∀ i j, i < n → j < n → i ≠ j → dstN ops i ≠ dstN ops j := by
    intro i j hi hj hne
    have hsz : (ops.extract 0 n).size = n := by simp; omega
    have h1 := List.all_eq_true.1 (List.all_eq_true.1 hd i (List.mem_range.2 (by omega))) j (List.mem_range.2 (by omega))
    have e : ∀ q, q < n → dstN (ops.extract 0 n) q = dstN ops q := by
      intro q hq
      unfold dstN
      rw [Array.getElem?_extract, if_pos (by omega), Nat.zero_add]
    rw [e i hi, e j hj] at h1
    simpa [hne] using h1
  have hch' : ∀ i o, n < i → ops[i]? = some o → ∃ e ∈ o.after, Region.binds .any e = true ∧ e.on = i - 1 := by
    intro i o hi ho
    have his : i < ops.size := (Array.getElem?_eq_some_iff.1 ho).1
    have h1 := List.all_eq_true.1 hch i (List.mem_range.2 his)
    rw [ho] at h1
    simp only [Bool.or_eq_true, decide_eq_true_eq] at h1
    rcases h1 with h1 | h1
    · omega
    · exact mem_deps h1
  let dc : Array Bool → Prop := fun listed => ∀ i o, ops[i]? = some o → listed.getD i false = true → ∀ e ∈ o.after, Region.binds .any e = true → listed.getD e.on false = true
  have hon : ops[n]? = some ops[n] := Array.getElem?_eq_getElem hn
  have hcl : ∀ listed : Array Bool, dc listed → (∀ e ∈ ops[n].after, Region.binds .any e = true → listed.getD e.on false = true) → ∀ m i, i + m = n → 0 < m → listed.getD i false = true := by
    intro listed hdc hl m
    induction m using Nat.strongRecOn with
    | _ m ih =>
      intro i him hm0
      have h1 := List.all_eq_true.1 hf i (List.mem_range.2 (by omega))
      obtain ⟨j, hj, h2⟩ := List.any_eq_true.1 h1
      have hj' := List.mem_range.1 hj
      have hjs : j < ops.size := by omega
      have ho : ops[j]? = some ops[j] := Array.getElem?_eq_getElem hjs
      rw [ho] at h2
      obtain ⟨e, he, hbd, hei⟩ := mem_deps h2
      have hlt : e.on < j := back_lt hb ho he hbd
      subst hei
      by_cases hjn : j = n
      · subst hjn
        exact hl e he hbd
      · exact hdc j _ ho (ih (n - j) (by omega) j (by omega) (by omega)) e he hbd
  -- an operation behind n that is listed has n listed
  have hup : ∀ listed : Array Bool, dc listed → ∀ m i, i = n + m → i < ops.size → listed.getD i false = true → listed.getD n false = true := by
    intro listed hdc m
    induction m with
    | zero => intro i hi _ h; rw [hi] at h; exact h
    | succ m ih =>
      intro i hi his h
      obtain ⟨e, he, hbd, hei⟩ := hch' i ops[i] (by omega) (Array.getElem?_eq_getElem his)
      have := hdc i ops[i] (Array.getElem?_eq_getElem his) h e he hbd
      exact ih e.on (by omega) (by omega) this
  refine wp_region_any hm (wpAny_inv (fun listed a w => dc listed ∧ ((∃ j, n < j ∧ j ≤ ops.size ∧ (∀ i, i < j → listed.getD i false = true) ∧ (∀ i, j ≤ i → i < ops.size → listed.getD i false = false) ∧ TailB P ops Q (ops.toList.drop j) a w) ∨ (listed.getD n false = false ∧ ∃ x : Nat → Value, a = ⟨(overlay x 0 mask L).toArray, df⟩ ∧ Below w0.heap.size w0 w ∧ ∀ i, i < n → listed.getD i false = true → (ps.getD i kAny).holds (x (dsts.getD i 0)) w))) ?_ ?_ _ _ _ _ (by simp) (by simp) ?_)
  · rintro listed a w i hsz ⟨hdc, hor⟩ hi
    obtain ⟨hun, o, ho, hall⟩ := mem_ready.1 hi
    have his : i < ops.size := (Array.getElem?_eq_some_iff.1 ho).1
    have hun' : listed.getD i false = false := by
      rw [Array.getD_eq_getD_getElem?] at hun ⊢
      rw [Array.getElem?_eq_getElem (by omega)] at hun ⊢
      exact hun
    have hset : ∀ j, j ≠ i → (listed.setIfInBounds i true).getD j false = listed.getD j false := by
      intro j hji
      rw [Array.getD_eq_getD_getElem?, Array.getD_eq_getD_getElem?, Array.getElem?_setIfInBounds_ne (Ne.symm hji)]
    have hself : (listed.setIfInBounds i true).getD i false = true := by
      rw [Array.getD_eq_getD_getElem?, Array.getElem?_setIfInBounds_self_of_lt (by omega)]
      rfl
    have hdc' : dc (listed.setIfInBounds i true) := by
      intro j oj hoj hlj e he hbd
      have key : listed.getD e.on false = true := by
        by_cases hji : j = i
        · subst hji
          rw [ho] at hoj
          cases hoj
          exact hall e he hbd
        · rw [hset j hji] at hlj
          exact hdc j oj hoj hlj e he hbd
      by_cases hei : e.on = i
      · rw [hei] at key
        rw [hun'] at key
        cases key
      · rw [hset _ hei]
        exact key
    rcases hor with ⟨j, hnj, hjs, hl1, hl2, hT⟩ | ⟨hln, x, rfl, hbw, hk⟩
    · have hij : j ≤ i := by
        rcases Nat.lt_or_ge i j with h | h
        · rw [hl1 i h] at hun'; cases hun'
        · exact h
      have hie : i = j := by
        by_cases h : i = j
        · exact h
        · exfalso
          obtain ⟨e, he, hbd, hei⟩ := hch' i o (by omega) ho
          have h1 := hall e he hbd
          rw [hl2 e.on (by omega) (by omega)] at h1
          cases h1
      subst hie
      have hdr : ops.toList.drop i = o :: ops.toList.drop (i + 1) := by
        have hi' : i < ops.toList.length := by simpa using his
        rw [List.drop_eq_getElem_cons hi']
        congr 1
        have := (Array.getElem?_eq_some_iff.1 ho).2
        simpa using this
      rw [hdr] at hT
      refine wpOp_step ho (fun K' hK => hT K' (fun a' w' hq => hK _ _ ⟨hdc', Or.inl ⟨i + 1, by omega, by omega, ?_, ?_, hq⟩⟩))
      · intro q hq
        by_cases hqi : q = i
        · rw [hqi]; exact hself
        · rw [hset q hqi]; exact hl1 q (by omega)
      · intro q hq hqs
        rw [hset q (by omega)]
        exact hl2 q (by omega) hqs
    · by_cases hin : i = n
      · subst hin
        have hoo : o = ops[i] := by
          have := (Array.getElem?_eq_some_iff.1 ho).2
          exact this.symm
        have hallA : ∀ q, q < i → listed.getD q false = true := fun q hq => hcl listed hdc (fun e he hbd => hall e (by rw [hoo]; exact he) hbd) (i - q) q (by omega) (by omega)
        have hbd := StepGoal.use fin x (fun j hj => by
          have hjs : j < i := of_decide_eq_true (List.all_eq_true.1 hfin j hj)
          exact hk j hjs (hallA j hjs)) (hdone x w hbw)
        have hdr : ops.toList.drop i = o :: ops.toList.drop (i + 1) := by
          have hi' : i < ops.toList.length := by simpa using his
          rw [List.drop_eq_getElem_cons hi']
          congr 1
          have := (Array.getElem?_eq_some_iff.1 ho).2
          simpa using this
        rw [hdr] at hbd
        refine wpOp_step ho (fun K' hK => hbd K' (fun a' w' hq => hK _ _ ⟨hdc', Or.inl ⟨i + 1, by omega, by omega, ?_, ?_, hq⟩⟩))
        · intro q hq
          by_cases hqi : q = i
          · rw [hqi]; exact hself
          · rw [hset q hqi]; exact hallA q (by omega)
        · intro q hq hqs
          rw [hset q (by omega)]
          cases hv : listed.getD q false with
          | false => rfl
          | true =>
            have := hup listed hdc (q - i) q (by omega) hqs hv
            rw [hln] at this; cases this
      · have hilt : i < n := by
          rcases Nat.lt_or_ge i n with h | h
          · exact h
          · exfalso
            obtain ⟨e, he, hbd, hei⟩ := hch' i o (by omega) ho
            have h1 := hall e he hbd
            have h2 := hup listed hdc (e.on - n) e.on (by omega) (by omega) h1
            rw [hln] at h2; cases h2
        have hst := Steps.at_ (ops.toList.take n) 0 i o hs (by rw [List.getElem?_take_of_lt hilt, Array.getElem?_toList]; exact ho) x w hbw
        rw [Nat.zero_add] at hst
        have hbd := StepGoal.use (depsOf o) x (fun j hj => by
          obtain ⟨e, he, rfl⟩ := List.mem_map.1 hj
          obtain ⟨he1, he2⟩ := List.mem_filter.1 he
          have hl := hall e (by simpa using he1) he2
          refine hk e.on ?_ hl
          have hlt : e.on < i := back_lt hb ho (by simpa using he1) he2
          omega) hst
        refine wpOp_step ho (fun K' hK => hbd K' (fun v w' hb' hv => hK _ _ ⟨hdc', Or.inr ⟨?_, upd x (dsts.getD i 0) v, rfl, hbw.trans (hb'.mono hbw.size), fun j hj hlj => ?_⟩⟩))
        · rw [hset n (by omega)]; exact hln
        · by_cases hji : j = i
          · subst hji; rw [upd_eq]; exact hv
          · have hne : dsts.getD j 0 ≠ dsts.getD i 0 := by
              rw [hdg j hj, hdg i hilt]
              exact hdist j i hj hilt hji
            rw [upd_ne hne]
            rw [hset j hji] at hlj
            exact Known.ext (hk j hj hlj) hb'
  · rintro listed a w hsz ⟨hdc, hor⟩ hr
    have hal := all_listed hb hsz hr
    rcases hor with ⟨j, hnj, hjs, hl1, hl2, hT⟩ | ⟨hln, _⟩
    · have hje : j = ops.size := by
        rcases Nat.lt_or_ge j ops.size with h | h
        · have := hal (j + 1) j (by omega) h
          rw [hl2 j (Nat.le_refl _) h] at this; cases this
        · omega
      subst hje
      rw [List.drop_eq_nil_of_le (by simp)] at hT
      exact hT
    · rw [hal (n + 1) n (by omega) hn] at hln
      cases hln
  · refine ⟨fun i o _ h => ?_, Or.inr ⟨?_, fun j => L.getD j undef, ?_, (Below.refl _ _).drew, fun i hi h => ?_⟩⟩
    · exfalso
      rw [Array.getD_eq_getD_getElem?] at h
      by_cases hi : i < ops.size
      · simp [hi] at h
      · simp [Nat.not_lt.1 hi] at h
    · rw [Array.getD_eq_getD_getElem?]
      simp [hn]
    · have := overlay_self L [] mask
      rw [List.nil_append, List.length_nil] at this
      rw [this]
    · rw [Array.getD_eq_getD_getElem?] at h
      simp [show i < ops.size by omega] at h
end Go.Proofs.YtfekohonidggjaaGreatDoor
