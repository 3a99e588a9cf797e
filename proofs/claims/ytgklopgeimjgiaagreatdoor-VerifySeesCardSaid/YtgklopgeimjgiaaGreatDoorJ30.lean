/- Several texts in one: see each part's head. -/
import Derived.Test.YtgklopgeimjgiaaGreatDoorJ29
import Derived.Test.YtgklopgeimjgiaaGreatDoorJ19
import Derived.Maps.RangeWalk
import Derived.Test.YtgklopgeimjgiaaGreatDoorJ27
/- VerifySees: the reference's Do, plain: what an op makes of its state; rows that are spliced. -/
namespace Go.Proofs.YtgklopgeimjgiaaGreatDoor
open Go.RowKit

variable {us : List Ta} {x : Nat} {A G : Option Addr} {c gc : Nat} {tn : Int} {its : List It} {lo : Nat} {w w' : World}
theorem mayF_no {l : List Rw} {kd t : Int} {row : List V} (h : mayF us kd t row = false) : doS us l kd t row = (2, l) := by
  unfold mayF at h
  by_cases h3 : kd = 3
  · rw [if_pos h3] at h
    refine doS_bad (Or.inr ?_)
    unfold plF
    rw [if_pos h3]
    rcases row with _ | ⟨k, _ | ⟨k2, l2⟩⟩
    · rfl
    · simp only at h ⊢; rw [h]; rfl
    · rfl
  · rw [if_neg h3] at h
    cases h1 : decide (kd = 1 ∨ kd = 2)
    · have := of_decide_eq_false h1
      exact doS_bad (Or.inl (decide_eq_false fun h => h.elim (fun e => this (Or.inl e)) fun h => h.elim (fun e => this (Or.inr e)) h3))
    · rw [h1, Bool.true_and] at h
      exact doS_bad (Or.inr (by unfold plF; rw [if_neg h3, h]; rfl))
/-- An op that may be: its kind, its table, its row's key. -/
theorem mayF_yes {kd t : Int} {row : List V} (h : mayF us kd t row = true) : row ≠ [] ∧ ((kd = 3 ∧ ∃ k, row = [k] ∧ keyS us t k = true) ∨ ((kd = 1 ∨ kd = 2) ∧ kd ≠ 3 ∧ rowS us t row = true)) := by
  unfold mayF at h
  by_cases h3 : kd = 3
  · rw [if_pos h3] at h
    rcases row with _ | ⟨k, _ | ⟨k2, l2⟩⟩
    · cases h
    · exact ⟨by simp, Or.inl ⟨h3, k, rfl, h⟩⟩
    · cases h
  · rw [if_neg h3, Bool.and_eq_true, decide_eq_true_eq] at h
    refine ⟨fun e => ?_, Or.inr ⟨h.1, h3, h.2⟩⟩
    subst e
    have h2 := h.2
    have e := rowS_nat h2
    rw [← e] at h2
    obtain ⟨_, _, _, _, _, _, h4, _⟩ := rowS_key h2
    simp at h4
def RDoQ (us : List Ta) (x : Nat) (A G : Option Addr) (c lo : Nat) (F : Int × List Rw) (w : World) (q : Ending) (w' : World) : Prop :=
  (∃ V1 V2, q = .returned (.tuple #[V1, V2, .int .i64 F.1])) ∧ (∃ S, Chg S w w' ∧ ∀ i ∈ S, i = x ∨ ∃ a, G = some a ∧ a.block = i) ∧ ∃ G' gc' tn' its', its'.map It.x = F.2 ∧ RefR us x A c G' gc' tn' its' lo w'
theorem RefR.same (h : RefR us x A c G gc tn its lo w) (hb : Below w.heap.size w w') {e : Int} {V1 V2 : Value} : RDoQ us x A G c lo (e, its.map It.x) w (.returned (.tuple #[V1, V2, .int .i64 e])) w' :=
  ⟨⟨_, _, rfl⟩, ⟨[], Chg.of_below hb, by simp⟩, _, _, _, its, rfl, h.ext hb⟩
def gS (G : Option Addr) : List Nat := match G with | none => [] | some a => [a.block]
theorem gS_mem {G : Option Addr} {i : Nat} : i ∈ gS G ↔ ∃ a, G = some a ∧ a.block = i := by
  cases G with
  | none => simp [gS]
  | some a => simp [gS, eq_comm]
theorem gS_own {n : Nat} {i : Nat} : (Value.slice G n gc).ownBlock = some i ↔ i ∈ gS G := by
  rw [gS_mem]
  cases G with
  | none => simp [Value.ownBlock]
  | some a => simp [Value.ownBlock]
theorem Chg.of_grownV {n : Nat} (h : w.grownBy w' (Value.slice G n gc).ownBlock) : Chg (gS G) w w' :=
  ⟨h.os, h.tape, h.output, h.size, fun i hi hn => h.block i hi (fun e => hn (gS_own.1 e.symm))⟩
theorem RefR.oth (h : RefR us x A c G gc tn its lo w) : Oth w (x :: gS G) := by
  intro i hi cs t ht
  rcases List.mem_cons.1 hi with rfl | hi
  · have e := h.b
    unfold Blk at e
    rw [e] at ht
    cases ht
    decide
  · obtain ⟨a, rfl, rfl⟩ := gS_mem.1 hi
    obtain ⟨_, ⟨h1, _⟩ | ⟨q, cap, cur, h1, _, h3, _⟩⟩ := h.g
    · cases h1
    · cases h1
      rw [h3] at ht
      cases ht
      decide
theorem RefR.lo_ (h : RefR us x A c G gc tn its lo w) : ∀ i ∈ x :: gS G, lo ≤ i := by
  intro i hi
  rcases List.mem_cons.1 hi with rfl | hi
  · exact h.lx
  · exact (h.g.lt i (gS_own.2 hi)).1
theorem RefR.lt_ (h : RefR us x A c G gc tn its lo w) : ∀ i ∈ gS G, i < w.heap.size := fun i hi => (h.g.lt i (gS_own.2 hi)).2
theorem RefR.xg (h : RefR us x A c G gc tn its lo w) : x ∉ gS G := fun hi => by
  obtain ⟨a, rfl, rfl⟩ := gS_mem.1 hi
  obtain ⟨_, ⟨h1, _⟩ | ⟨q, cap, cur, h1, _, h3, _⟩⟩ := h.g
  · cases h1
  · cases h1
    have e := h.b
    unfold Blk at e
    rw [e] at h3
    cases h3
/-- The state behind an op that may be. -/
theorem RefR.new (h : RefR us x A c G gc tn its lo w) (k : Chg (x :: gS G) w w') {G' : Option Addr} {gc' : Nat} {tn' : Int} {its' : List It} (hx : Blk w' x #[.slice A us.length c, .slice G' its'.length gc', .int .u64 tn'] 95)
    (hg : w'.ownsRow lo 109 2 (.slice G' its'.length gc') its'.length (itcells its')) (he : ∀ i ∈ its', i ∈ its ∨ RowO w' i.A i.c i.x.2) (hi : StI us (its'.map It.x)) {F : Int × List Rw} (hF : its'.map It.x = F.2) {V1 V2 : Value} :
    RDoQ us x A G c lo F w (.returned (.tuple #[V1, V2, .int .i64 F.1])) w' :=
  ⟨⟨_, _, rfl⟩, ⟨x :: gS G, k, fun i hi => by
    rcases List.mem_cons.1 hi with rfl | hi
    · exact Or.inl rfl
    · exact Or.inr (gS_mem.1 hi)⟩, G', gc', tn', its', hF, hx, h.s.chg k h.oth, hg, h.lx, fun i hi => (he i hi).elim (fun hm => (h.e i hm).chg k h.oth) id, hi, h.h⟩
theorem own_take {base : Nat} {e : TypeId} {size n i : Nat} {xs : List Value} (h : w.ownsRow base e size (.slice G n gc) n xs) (hi : i ≤ n) : w.ownsRow base e size (.slice G i gc) i (xs.take (i * size)) := by
  have hm : i * size ≤ n * size := Nat.mul_le_mul_right _ hi
  refine ⟨by rw [List.length_take, h.1]; omega, ?_⟩
  rcases h.2 with ⟨h1, h2⟩ | ⟨g, cap, cur, h1, hb, hh, hc, hm', hs, ht⟩
  · cases h1
    left
    have : i = 0 := by omega
    subst this
    exact ⟨rfl, rfl⟩
  · cases h1
    refine Or.inr ⟨g, gc, cur, rfl, hb, hh, by omega, hm', hs, ?_⟩
    rw [← ht, List.take_take, Nat.min_eq_left hm]
theorem it_take (l : List It) (i : Nat) : (itcells l).take (i * 2) = itcells (l.take i) := by
  induction l generalizing i with
  | nil => simp [itcells]
  | cons a l ih =>
    cases i with
    | zero => simp [itcells]
    | succ i =>
      have e : itcells (a :: l) = itC a ++ itcells l := rfl
      rw [e, List.take_succ_cons, show itcells (a :: l.take i) = itC a ++ itcells (l.take i) from rfl, ← ih, Nat.succ_mul, Nat.add_comm, List.take_append, List.take_of_length_le (by simp [itC])]
      simp [itC]
theorem it_drop (l : List It) (i : Nat) : (itcells l).drop (i * 2) = itcells (l.drop i) := by
  induction l generalizing i with
  | nil => simp [itcells]
  | cons a l ih =>
    cases i with
    | zero => simp [itcells]
    | succ i =>
      have e : itcells (a :: l) = itC a ++ itcells l := rfl
      rw [e, List.drop_succ_cons, ← ih, Nat.succ_mul, Nat.add_comm, List.drop_append]
      simp [itC]
theorem it_app (l m : List It) : itcells (l ++ m) = itcells l ++ itcells m := by simp [itcells]
theorem it_one (l : List It) : ∀ u ∈ itcells l, Value.oneCell' u := by
  intro u hu
  obtain ⟨i, _, hu⟩ := List.mem_flatMap.1 hu
  simp [itC] at hu
  rcases hu with rfl | rfl <;> rfl
theorem addr_add (g o j : Nat) : (⟨g, o, none⟩ : Addr).add j = ⟨g, o + j, none⟩ := by
  unfold Addr.add
  split
  · next h0 => rw [h0]; rfl
  · rfl
/-- The rows from the i-th on. -/
theorem RefR.drop_cells {g : Nat} (h : RefR us x A c (some ⟨g, 0, none⟩) gc tn its lo w) (i : Nat) : ∀ j u, (itcells (its.drop i))[j]? = some u → w.cell? ((⟨g, i * 2, none⟩ : Addr).add j) = some u := by
  intro j u hu
  have hc := h.g.cells (g := g) rfl (i * 2 + j) u (by rw [← it_drop, List.getElem?_drop] at hu; exact hu)
  rw [addr_add, Nat.zero_add] at hc
  rw [addr_add]
  exact hc
theorem rowO_own {A' : Option Addr} {c' base : Nat} {row : List V} (h : w.ownsRow base 49 4 (.slice A' row.length c') row.length (rowCells row)) (hw : ∀ v ∈ row, v.wf) (hl : row.length ≤ 1000) : RowO w A' c' row := by
  refine ⟨⟨base, h⟩, fun e => ?_, hw, hl⟩
  rcases h.2 with ⟨h1, _⟩ | ⟨g, cap, cur, h1, _⟩
  · injection h1
  · subst e
    cases h1
/-- A row far below is kept. -/
theorem VRow.low_ {S : List Nat} {B : Option Addr} {row : List V} (h : VRow w B row) (k : Chg S w w') (hS : ∀ i ∈ S, lo ≤ i) (hB : ∀ p, B = some p → p.block < lo) : VRow w' B row :=
  h.keep k.size fun b off e _ hb => k.block b hb (fun hi => by have := hS b hi; have := hB _ e; simp only at this; omega)
theorem putx_chg (w : World) (b : Nat) (cs ds : Array Value) (t : TypeId) : Chg [b] (putBlk w b cs t) (putBlk w b ds t) := by
  have := (Chg.refl [b] (putBlk w b cs t)).put (b := b) (Or.inl (by simp)) ds t
  rwa [put_put'] at this
theorem RefR.turn {cs : Array Value} (h : RefR us x A c G gc tn its lo (putBlk w x cs 95)) (u : Int) : RefR us x A c G gc u its lo (putBlk w x #[.slice A us.length c, .slice G its.length gc, .int .u64 u] 95) := by
  have hc := putx_chg w x cs #[.slice A us.length c, .slice G its.length gc, .int .u64 u] 95
  have ho : Oth (putBlk w x cs 95) [x] := fun i hi => h.oth i (by rw [List.mem_singleton] at hi; rw [hi]; simp)
  have hlt : x < w.heap.size := by have := h.b.lt; rwa [putBlk_size] at this
  exact ⟨putBlk_blk _ _ hlt, h.s.chg hc ho, own_chg h.g hc (fun i hi e => by rw [List.mem_singleton] at hi; subst hi; exact h.xg (gS_own.1 e)), h.lx, fun i hi => (h.e i hi).chg hc ho, h.i, h.h⟩
/-- While rows are spliced: the state's block, the op's block, the rows so far, the rows to come, new rows. -/
structure SpW (S : List Nat) (w : World) (lo x : Nat) (cx : Array Value) (bo : Nat) (co : Array Value) (v : Value) (n : Nat) (xs : List Value) (R : Value) (m : Nat) (ys : List Value) (E : List It) (W : World) : Prop where
  k : Chg (x :: S) w W
  bx : Blk W x cx 95
  bo : Blk W bo co 58
  g : W.ownsRow lo 109 2 v n xs
  gs : ∀ i, v.ownBlock = some i → i ∈ S ∨ w.heap.size ≤ i
  r : ∃ b, W.ownsRow b 109 2 R m ys
  rg : ∀ i, R.ownBlock = some i → v.ownBlock ≠ some i
  e : ∀ i ∈ E, RowO W i.A i.c i.x.2
variable {S : List Nat} {cx co : Array Value} {bo n m : Nat} {v R : Value} {xs ys : List Value} {E : List It} {W : World}
theorem own_typ {base size n : Nat} {e : TypeId} {v : Value} {xs : List Value} (h : W.ownsRow base e size v n xs) {i : Nat} (hi : v.ownBlock = some i) : ∃ cur, W.heap[i]? = some (.cells cur e (0, 0)) := by
  rcases h.2 with ⟨rfl, _⟩ | ⟨g, cap, cur, rfl, _, hh, _⟩
  · cases hi
  · cases hi
    exact ⟨cur, hh⟩
theorem own_vne {base size n b : Nat} {e t : TypeId} {v : Value} {xs : List Value} {cs : Array Value} (h : W.ownsRow base e size v n xs) (hb : Blk W b cs t) (hne : e ≠ t) : v.ownBlock ≠ some b := fun hi => by
  obtain ⟨cur, h1⟩ := own_typ h hi
  unfold Blk at hb
  rw [hb] at h1
  cases h1
  exact hne rfl
theorem SpW.ext (h : SpW S w lo x cx bo co v n xs R m ys E W) {W2 : World} (hb : Below W.heap.size W W2) : SpW S w lo x cx bo co v n xs R m ys E W2 := by
  obtain ⟨b, hr⟩ := h.r
  exact ⟨h.k.andBelow hb, h.bx.ext hb, h.bo.ext hb, own_below h.g hb, h.gs, ⟨b, own_below hr hb⟩, h.rg, fun i hi => (h.e i hi).ext hb⟩
theorem SpW.app (h : SpW S w lo x cx bo co v n xs R m ys E W) {W2 W8 : World} (hb : Below W.heap.size W W2) {g n' cap : Nat} {xs' : List Value} {E' : List It}
    (hown : W8.ownsRow lo 109 2 (.slice (some ⟨g, 0, none⟩) n' cap) n' xs') (hg : W2.grownBy W8 v.ownBlock) (hat : v.ownBlock = some g ∨ g = W2.heap.size) (hE : ∀ i ∈ E', i ∈ E ∨ RowO W2 i.A i.c i.x.2) :
    SpW S w lo x cx bo co (.slice (some ⟨g, 0, none⟩) n' cap) n' xs' R m ys E' W8 := by
  have h2 := h.ext hb
  have hc : Chg v.ownBlock.toList W2 W8 := ⟨hg.os, hg.tape, hg.output, hg.size, fun i hi hn => hg.block i hi (fun e => hn (by rw [← e]; simp))⟩
  have ho : Oth W2 v.ownBlock.toList := by
    intro i hi cs t ht
    obtain ⟨cur, h1⟩ := own_typ h2.g (Option.mem_toList.1 hi)
    rw [h1] at ht
    cases ht
    decide
  obtain ⟨b, hr⟩ := h2.r
  refine ⟨h2.k.trans hc (fun i hi => ?_), h2.bx.chg hc (fun hm => own_vne h2.g h2.bx (by decide) (Option.mem_toList.1 hm)), h2.bo.chg hc (fun hm => own_vne h2.g h2.bo (by decide) (Option.mem_toList.1 hm)), hown, ?_, ⟨b, own_chg hr hc (fun i hi e => h2.rg i e (Option.mem_toList.1 hi))⟩, ?_, fun i hi => ?_⟩
  · rcases h2.gs i (Option.mem_toList.1 hi) with h3 | h3
    · exact Or.inl (List.mem_cons_of_mem _ h3)
    · exact Or.inr h3
  · intro i hi
    cases hi
    rcases hat with h3 | rfl
    · exact h2.gs g h3
    · exact Or.inr h2.k.size
  · intro i hi e
    cases e
    rcases hat with h3 | rfl
    · exact h2.rg g hi h3
    · exact absurd (hr.lt _ hi).2 (Nat.lt_irrefl _)
  · rcases hE i hi with h3 | h3
    · exact (h2.e i h3).chg hc ho
    · exact h3.chg hc ho
theorem SpW.store (h : SpW S w lo x cx bo co v n xs R m ys E (putBlk W x cx 95)) (cx' : Array Value) : SpW S w lo x cx' bo co v n xs R m ys E (putBlk W x cx' 95) := by
  have hc := putx_chg W x cx cx' 95
  have hlt : x < W.heap.size := by have := h.bx.lt; rwa [putBlk_size] at this
  have ho : Oth (putBlk W x cx 95) [x] := by
    intro i hi cs t ht
    rw [List.mem_singleton] at hi
    subst hi
    have e := h.bx
    unfold Blk at e
    rw [e] at ht
    cases ht
    decide
  obtain ⟨b, hr⟩ := h.r
  exact ⟨h.k.trans hc (fun i hi => by rw [List.mem_singleton] at hi; subst hi; exact Or.inl (by simp)), putBlk_blk _ _ hlt, h.bo.chg hc (fun hm => by rw [List.mem_singleton] at hm; exact blk_nt h.bo h.bx (by decide) hm),
    own_chg h.g hc (fun i hi e => by rw [List.mem_singleton] at hi; subst hi; exact own_vne h.g h.bx (by decide) e), h.gs, ⟨b, own_chg hr hc (fun i hi e => by rw [List.mem_singleton] at hi; subst hi; exact own_vne hr h.bx (by decide) e)⟩, h.rg, fun i hi => (h.e i hi).chg hc ho⟩
theorem SpW.done (h : SpW S w lo x cx bo co v n xs R m ys E W) : SpW S w lo x cx bo co v n xs (.slice none 0 0) 0 [] E W :=
  ⟨h.k, h.bx, h.bo, h.g, h.gs, ⟨0, World.ownsRow_nil _ _ _ _⟩, (fun i hi => by cases hi), h.e⟩
def kRowV (row : List V) : Known := .mem (fun v w => ∃ A c, v = .slice A row.length c ∧ RowO w A c row) (fun _ _ _ ⟨A, c, h1, h2⟩ hb => ⟨A, c, h1, h2.ext hb⟩)
def kRwV (t : Int) (row : List V) : Known := .mem (fun v w => ∃ A c, v = .agg #[.int .i64 t, .slice A row.length c] ∧ RowO w A c row) (fun _ _ _ ⟨A, c, h1, h2⟩ hb => ⟨A, c, h1, h2.ext hb⟩)
def kRwS (t : Int) (row : List V) : Known := .mem (fun v w => ∃ A c g, v = .slice (some ⟨g, 0, none⟩) 1 1 ∧ Blk w g #[.int .i64 t, .slice A row.length c] 109 ∧ RowO w A c row) (fun _ _ _ ⟨A, c, g, h1, h0, h2⟩ hb => ⟨A, c, g, h1, h0.ext hb, h2.ext hb⟩)
/-- The reference's copy of a row. -/
theorem copyrow_any {B : Option Addr} {row : List V} {n : Nat} (hn : n = row.length) (rc : Nat) (w : World) (hv : VRow w B row) (hl : row.length ≤ 1000) : Calls Tryz.prog 46 #[.slice B n rc] w fun e w' => Below w.heap.size w w' ∧ ∃ A' c', e = .returned (.slice A' row.length c') ∧ RowO w' A' c' row :=
  by
  subst hn
  exact (copy_any row B rc w hv (by omega)).mono fun _ _ ⟨A', c', e, ho, hb⟩ => ⟨hb, A', c', e, rowO_own ho hv.1 hl⟩
/-- What is appended to nothing. -/
theorem tail_post {b e k : Nat} {v' : Value} {l : List It} (hm : k = l.length) (hown : W.ownsRow b e 2 v' k (itcells l)) (hiff : v' = .slice none 0 0 ↔ k = 0) :
    ∃ RA rq, v' = .slice RA l.length rq ∧ (l.length = 0 → RA = none ∧ rq = 0) ∧ W.ownsRow b e 2 (.slice RA l.length rq) l.length (itcells l) := by
  subst hm
  obtain ⟨RA, rq, rfl⟩ := own_form hown
  refine ⟨RA, rq, rfl, fun h0 => ?_, hown⟩
  have := hiff.2 h0
  injection this with e1 e2 e3
  exact ⟨e1, e3⟩
theorem it_set (l : List It) (i : Nat) (a : It) : itcells (l.set i a) = ((itcells l).set (i * 2) (.int .i64 a.x.1)).set (i * 2 + 1) (.slice a.A a.x.2.length a.c) := by
  induction l generalizing i with
  | nil => simp [itcells]
  | cons b l ih =>
    have e : ∀ (b : It) (l : List It), itcells (b :: l) = .int .i64 b.x.1 :: .slice b.A b.x.2.length b.c :: itcells l := fun _ _ => rfl
    cases i with
    | zero => simp [e]
    | succ i =>
      rw [List.set_cons_succ, e, ih, e, show (i + 1) * 2 = i * 2 + 1 + 1 by omega, show i * 2 + 1 + 1 + 1 = (i * 2 + 1) + 1 + 1 by omega]
      simp
/-- A row of the state is laid anew. -/
theorem RefR.set_ {g i : Nat} (h : RefR us x A c (some ⟨g, 0, none⟩) gc tn its lo w) (hi : i < its.length) : ∃ cur, Blk w g cur 109 ∧ g < w.heap.size ∧ i * 2 + 1 < cur.size ∧
    ∀ a : It, (putBlk w g ((cur.setIfInBounds (i * 2) (.int .i64 a.x.1)).setIfInBounds (i * 2 + 1) (.slice a.A a.x.2.length a.c)) 109).ownsRow lo 109 2 (.slice (some ⟨g, 0, none⟩) its.length gc) its.length (itcells (its.set i a)) := by
  obtain ⟨hl, ⟨h1, _⟩ | ⟨q, cap, cur, h1, hb, hh, hc, hm, hs, ht⟩⟩ := h.g
  · cases h1
  · simp only [Value.slice.injEq, Option.some.injEq, Addr.mk.injEq, and_true, true_and] at h1
    obtain ⟨rfl, rfl⟩ := h1
    have hlt : g < w.heap.size := (Array.getElem?_eq_some_iff.1 hh).1
    refine ⟨cur, hh, hlt, by omega, fun a => ⟨by rw [it_set, List.length_set, List.length_set]; exact hl, Or.inr ⟨g, gc, _, rfl, hb, putBlk_blk _ _ hlt, hc, hm, by simp [hs], ?_⟩⟩⟩
    rw [it_set, Array.toList_setIfInBounds, Array.toList_setIfInBounds, List.take_set, List.take_set, ht]
def SpM (i : Nat) (its : List It) (xr : Rw) (f : Value → List Value → List It → World → Prop) (v : Value) (W : World) : Prop :=
  ∃ g cap it, it.x = xr ∧ v = .slice (some ⟨g, 0, none⟩) (i + 1) cap ∧ f v (itcells (its.take i ++ [it])) [it] W
end Go.Proofs.YtgklopgeimjgiaaGreatDoor

/- VerifySees: rows compared by their key (some$1); rows sorted. -/
namespace Go.Proofs.YtgklopgeimjgiaaGreatDoor
open Go.RowKit
open Go.Sort (SWO)

variable {w : World}
set_option maxRecDepth 100000 in
set_option maxHeartbeats 800000 in
/-- Two rows by their key. -/
theorem somecmp_any {P Q : Option Addr} {l m : List V} {kj : Nat} {a b : V} (c1 c2 kb : Nat) (w : World) (hl : VRow w P l) (hm : VRow w Q m) (ha : l[kj]? = some a) (hb : m[kj]? = some b) (hk : Blk w kb #[.int .i64 kj] 3) :
    Calls Tryz.prog 76 #[.slice P l.length c1, .slice Q m.length c2, .pointer (some ⟨kb, 0, none⟩)] w fun e w' => e = .returned (.int .i64 (if vLess a b then -1 else 1)) ∧ Gw w w' := by
  obtain ⟨hk1, e1⟩ := List.getElem?_eq_some_iff.1 ha
  obtain ⟨hk2, e2⟩ := List.getElem?_eq_some_iff.1 hb
  obtain ⟨ab, ao, a', rfl, hab, ha', _, haw, p0, p1, p2, p3⟩ := hl.at_ hk1
  obtain ⟨bb, bo, b', rfl, hbb, hb', _, hbw, q0, q1, q2, q3⟩ := hm.at_ hk2
  rw [ha, Option.some.injEq] at ha'
  rw [hb, Option.some.injEq] at hb'
  subst ha'; subst hb'
  have HLL := Lib.hid (fun W => vless_gw a b W haw hbw)
  have HA := Lib.hid (And.intro hab (And.intro p0 (And.intro p1 (And.intro p2 p3))))
  have HB := Lib.hid (And.intro hbb (And.intro q0 (And.intro q1 (And.intro q2 q3))))
  have HK := Lib.hid hk
  have hk1' : (kj : Int) < l.length := by omega
  have hk2' : (kj : Int) < m.length := by omega
  obtain ⟨ak, an, ar, at'⟩ := a
  obtain ⟨bk, bn, br, bt'⟩ := b
  unfold V.agg at HLL
  simp only at HLL HA HB
  generalize vLess ⟨ak, an, ar, at'⟩ ⟨bk, bn, br, bt'⟩ = LL at HLL ⊢
  obtain ⟨n1, hn1⟩ : ∃ q, q = l.length := ⟨_, rfl⟩
  obtain ⟨n2, hn2⟩ : ∃ q, q = m.length := ⟨_, rfl⟩
  rw [← hn1] at hk1' ⊢
  rw [← hn2] at hk2' ⊢
  clear hl hm ha hb e1 e2 hab hbb p0 p1 p2 p3 q0 q1 q2 q3 hk haw hbw hk1 hk2 hn1 hn2
  go_enter Tryz.func76, Tryz.ntmps76
  go_upto_region 1 with fail
  refine region_free (Gw) [false, false, false, false, false, false, true, true, true, true, true, true, true, true, true] [6, 7, 8, 9, 10, 11, 12, 13, 14] [.val (.slice (some ⟨ab, ao, none⟩) n1 c1), .val (.int .i64 kj), .val (.pointer (some ⟨ab, ao + kj * 4, none⟩)), .val (.agg #[.int .u8 ak, .int .i64 an, .int .u64 ar, .string at']), .val (.slice (some ⟨bb, bo, none⟩) n2 c2), .val (.int .i64 kj), .val (.pointer (some ⟨bb, bo + kj * 4, none⟩)), .val (.agg #[.int .u8 bk, .int .i64 bn, .int .u64 br, .string bt']), .val (.bool LL)] [8] ((Gw.refl _).drew) (Gw.trans) (fun k _ => KT_bel (fun _ _ h => h.2) k) (by kernel_rfl) (by kernel_rfl) (by kernel_rfl) (by kernel_rfl) (by kernel_rfl) ⟨?_, ?_, ?_, ?_, ?_, ?_, ?_, ?_, ?_, trivial⟩ ?done
  case done =>
    intro x w5 hb5
    simp only [StepGoal, overlay, upd, cond_true, cond_false, List.getD_cons_zero, List.getD_cons_succ, Nat.zero_add, Nat.reduceAdd, Nat.reduceEqDiff, reduceIte]
    cases LL
    · go_wp2_with fail
      go_ret
      exact ⟨rfl, hb5⟩
    · go_wp2_with fail
      go_ret
      exact ⟨rfl, hb5⟩
  all_goals
    intro x w5 hb5
    intro K hK
    have hkb := HK.out.ext hb5.2
    have k0 := hkb.cell 0
    have lk := hkb.lt
    have p0 := (hb5.2.cell (p := ⟨ab, ao + kj * 4, none⟩) HA.out.1).trans HA.out.2.1
    have p1 := (hb5.2.cell (p := ⟨ab, ao + kj * 4 + 1, none⟩) HA.out.1).trans HA.out.2.2.1
    have p2 := (hb5.2.cell (p := ⟨ab, ao + kj * 4 + 2, none⟩) HA.out.1).trans HA.out.2.2.2.1
    have p3 := (hb5.2.cell (p := ⟨ab, ao + kj * 4 + 3, none⟩) HA.out.1).trans HA.out.2.2.2.2
    have q0 := (hb5.2.cell (p := ⟨bb, bo + kj * 4, none⟩) HB.out.1).trans HB.out.2.1
    have q1 := (hb5.2.cell (p := ⟨bb, bo + kj * 4 + 1, none⟩) HB.out.1).trans HB.out.2.2.1
    have q2 := (hb5.2.cell (p := ⟨bb, bo + kj * 4 + 2, none⟩) HB.out.1).trans HB.out.2.2.2.1
    have q3 := (hb5.2.cell (p := ⟨bb, bo + kj * 4 + 3, none⟩) HB.out.1).trans HB.out.2.2.2.2
    have la := Nat.lt_of_lt_of_le HA.out.1 hb5.2.size
    have lb := Nat.lt_of_lt_of_le HB.out.1 hb5.2.size
    simp only [List.getElem?_toArray, List.getElem?_cons_zero] at k0
    clear hkb
    rw [if_pos (by rfl)]; simp only [overlay, upd, cond_true, cond_false, List.getD_cons_zero, List.getD_cons_succ, Nat.reduceEqDiff, reduceIte]
    go_simp
    first
      | exact hK.out _ _ (Gw.refl _) rfl
      | ((with_reducible refine (HLL.out _).mono ?_); rintro e wa ⟨rfl, hba⟩; go_wp2_with fail; exact hK.out _ _ hba rfl)
/-- A row that may be sorted. -/
def SRw (w : World) (kj : Nat) (i : It) : Prop := RowO w i.A i.c i.x.2 ∧ kj < i.x.2.length
theorem lt_less (b : Bool) : decide ((if b then (-1 : Int) else 1) < 0) = b := by cases b <;> decide
def keyAt (kj : Nat) (i : It) : V := i.x.2.getD kj zV
def cmpAt (kj : Nat) (a b : It) : Int := if vLess (keyAt kj a) (keyAt kj b) then -1 else 1
theorem cmpAt_lt (kj : Nat) (a b : It) : decide (cmpAt kj a b < 0) = vLess (keyAt kj a) (keyAt kj b) := lt_less _
def itV (i : It) : Value := .slice i.A i.x.2.length i.c
def SortVP (g n c base kj : Nat) (its : List It) (w : World) (q : Ending) (w' : World) : Prop :=
  q = .returned (.tuple #[]) ∧ Chg [g] w w' ∧ ∃ its' : List It, its'.Perm its ∧ its'.Pairwise (fun a b => vLess (b.x.2.getD kj zV) (a.x.2.getD kj zV) = false) ∧ w'.ownsRow base 26 1 (.slice (some ⟨g, 0, none⟩) n c) n (its'.map itV)
theorem sortV_any (its : List It) (kj kb : Nat) (g n c base : Nat) (w : World) (hi : ∀ i ∈ its, SRw w kj i) (hk : Blk w kb #[.int .i64 kj] 3) (hn : 0 < n) (hl : its.length = n) (hs : n < 1000000) (ho : w.ownsRow base 26 1 (.slice (some ⟨g, 0, none⟩) n c) n (its.map itV)) :
    Calls Tryz.prog 75 #[.slice (some ⟨g, 0, none⟩) n c, .func (.func 76) #[] #[.pointer (some ⟨kb, 0, none⟩)]] w (SortVP g n c base kj its w) := by
  have hne : its ≠ [] := by intro e; subst e; simp at hl; omega
  letI : Inhabited { i : It // SRw w kj i } := ⟨⟨its.head hne, hi _ (List.head_mem hne)⟩⟩
  obtain ⟨d, hd⟩ : ∃ d : Array { i : It // SRw w kj i }, d.toList.map Subtype.val = its := ⟨(its.attach.map fun p => ⟨p.1, hi p.1 p.2⟩).toArray, by
    show List.map _ (List.map _ its.attach) = its
    rw [List.map_map]
    exact List.attach_map_subtype_val its⟩
  have hds : d.size = n := by rw [← hl, ← hd]; simp
  have hx : its.map itV = (d.map fun p => itV p.1).toList := by rw [Array.toList_map, ← hd, List.map_map]; rfl
  have hH0 : Go.Sort.Holds id w g 0 (d.map fun p => itV p.1) := holds_own ho hn hx.symm
  have hH : Go.Sort.Holds (fun p : { i : It // SRw w kj i } => itV p.1) w g 0 d := fun j hj => by
    have := hH0 j (by simpa using hj)
    rw [getElem!_pos (d.map fun p => itV p.1) j (by simpa using hj), Array.getElem_map, ← getElem!_pos d j hj] at this
    exact this
  have hlt : g < w.heap.size := (ho.lt g rfl).2
  have eg : ∀ args w, (callFunc 76 args).run Tryz.prog w = .ok (.enter 76 args) w := enters_of Tryz.func76 (by kernel_rfl) rfl
  have hlt' : ∀ x y : { i : It // SRw w kj i }, ltOf (fun x y : { i : It // SRw w kj i } => cmpAt kj x.1 y.1) x y = vLess (keyAt kj x.1) (keyAt kj y.1) := fun x y => cmpAt_lt kj x.1 y.1
  have hO : SWO (ltOf fun x y : { i : It // SRw w kj i } => cmpAt kj x.1 y.1) := by
    have e : (ltOf fun x y : { i : It // SRw w kj i } => cmpAt kj x.1 y.1) = fun x y => vLess (keyAt kj x.1) (keyAt kj y.1) := by funext x y; exact hlt' x y
    rw [e]
    exact swo_map vLess_swo (fun x : { i : It // SRw w kj i } => keyAt kj x.1)
  have hpm : ∀ (W : World) (dk : Array { i : It // SRw w kj i }), Go.Sort.putRow (fun p : { i : It // SRw w kj i } => itV p.1) W g 0 dk = Go.Sort.putRow id W g 0 (dk.map fun p => itV p.1) := by
    intro W dk
    unfold Go.Sort.putRow
    congr 1
    funext cur
    unfold Go.Sort.putCells
    apply Array.ext_getElem?
    intro i
    simp only [Array.getElem?_mapIdx, Array.size_map, id]
    congr 1
    funext v
    by_cases h : 0 ≤ i ∧ i < 0 + dk.size
    · rw [if_pos h, if_pos h, getElem!_pos (dk.map fun p => itV p.1) (i - 0) (by simp; omega), getElem!_pos dk (i - 0) (by omega), Array.getElem_map]
    · rw [if_neg h, if_neg h]
  have hoth : Oth w [g] := fun i hi cs t ht => by
    rw [List.mem_singleton] at hi
    subst hi
    obtain ⟨cur, h1⟩ := own_typ ho (i := i) rfl
    rw [h1] at ht
    cases ht
    decide
  have hcmp : CmpLays1 Tryz.prog 76 #[.pointer (some ⟨kb, 0, none⟩)] (fun p : { i : It // SRw w kj i } => itV p.1) (fun x y => cmpAt kj x.1 y.1) g 0 d.size w := by
    intro m os dk hdk x y
    have hch : Chg [g] w (sortWorld (fun p : { i : It // SRw w kj i } => itV p.1) w g 0 m dk os) := by
      have h0 := (own_sorted (m := m) (os := os) (F := dk.map fun p => itV p.1) ho hn (by simp; omega)).2
      unfold sortWorld
      rw [hpm]
      exact h0
    have h1 := (x.2.1.chg hch hoth).vrow
    have h2 := (y.2.1.chg hch hoth).vrow
    have h3 := hk.chg hch (fun hm => by rw [List.mem_singleton] at hm; exact own_vne ho hk (by decide) (by rw [hm]; rfl))
    have g1 : x.1.x.2[kj]? = some (keyAt kj x.1) := by show _ = some (List.getD _ _ _); rw [List.getD_eq_getElem?_getD, List.getElem?_eq_getElem x.2.2]; rfl
    have g2 : y.1.x.2[kj]? = some (keyAt kj y.1) := by show _ = some (List.getD _ _ _); rw [List.getD_eq_getElem?_getD, List.getElem?_eq_getElem y.2.2]; rfl
    exact (somecmp_any x.1.c y.1.c kb _ h1 h2 g1 g2 h3).mono fun e w' ⟨h5, h6⟩ => ⟨h5, gw_grow h6⟩
  have hcon := Any.slices_SortFunc Tryz.sortV (fun p : { i : It // SRw w kj i } => itV p.1) (fun x => rfl) (fun x y => cmpAt kj x.1 y.1) hO 76 #[.pointer (some ⟨kb, 0, none⟩)] g 0 c d w eg hcmp hH hlt (by omega)
  change Calls Tryz.prog 75 _ _ _ at hcon
  rw [hds] at hcon
  refine hcon.mono ?_
  rintro q w' ⟨rfl, d', m, os, hp, hso, rfl⟩
  have hp' := perm_of (by rw [hds]; exact hp)
  have hd's : d'.size = n := hp.1.trans hds
  have h2 := own_sorted (m := m) (os := os) (F := d'.map fun p => itV p.1) ho hn (by simp [hd's])
  refine ⟨rfl, ?_, d'.toList.map Subtype.val, by rw [← hd]; exact hp'.map _, ?_, ?_⟩
  · unfold sortWorld
    rw [hpm]
    exact h2.2
  · rw [List.pairwise_map]
    refine (pair_of hd's.symm hso).imp fun {a b} h => ?_
    rw [hlt'] at h
    exact h
  · have h3 := h2.1
    unfold sortWorld
    rw [hpm]
    rw [Array.toList_map] at h3
    rw [List.map_map]
    exact h3
end Go.Proofs.YtgklopgeimjgiaaGreatDoor

/- VerifySees: ranging over a map of rows, at the walk; rel.some, Rows, Of. -/
namespace Go.Proofs.YtgklopgeimjgiaaGreatDoor
open Go.RowKit

section
variable {kt et mt : TypeId} {w w' : World} {M r : Nat} {ks lf : List (Int × V)} {E : Int × V → Value → Prop} {ops : Array Oper} {rest : List Oper} {o : Oper} {a : Act} {Q : Exit → Act → World → Prop}
theorem wpList_rangeG (h : MapG kt w M ks E) (K : KeyT kt) (ht : Tryz.prog.underlying mt = some (.map kt et)) (hg : o.guard = none) (m : Operand) (hop : o.op = Op.range mt m) (hm : a.eval m = .map (some M))
    (hK : ∀ w', MapI kt w' M w.heap.size ks E ks → w.grownBy w' none → w'.heap.size = w.heap.size + 1 → wpList Tryz.prog ops Q rest (a.put o.dst (.pointer (some ⟨w.heap.size, 0, none⟩))) w') : wpList Tryz.prog ops Q (o :: rest) a w := by
  refine wpList_plain hg fun K' hK' => ?_
  obtain ⟨w', hrun, r1, r2, r3⟩ := h.range K ht
  unfold Oper.wp
  simp [execOp, hop, hm, hrun, Result.andThen]
  exact hK' _ _ (hK w' r1 r2 r3)
/-- An entry has come. -/
def NextG (kt : TypeId) (w : World) (M r : Nat) (ks : List (Int × V)) (E : Int × V → Value → Prop) (lf : List (Int × V)) (U v : Value) (w' : World) (lf' : List (Int × V)) : Prop :=
  ∃ p : Int × V, U = plc p.1 p.2 ∧ p ∈ lf ∧ p ∈ ks ∧ okP p ∧ E p v ∧ MapI kt w' M r ks E lf' ∧ (∀ q, q ∈ lf' ↔ q ∈ lf ∧ q ≠ p) ∧ lf'.length + 1 = lf.length ∧ w'.rangeLeft M r < w.rangeLeft M r ∧ Chg [r] w w' ∧ (Instr.entry (.pointer (some ⟨r, 0, none⟩))).run Tryz.prog w' = .ok (.tuple #[U, v]) w'
theorem wpList_nextG (h : MapI kt w M r ks E lf) (K : KeyT kt) (hg : o.guard = none) (it : Operand) (hop : o.op = Op.next it false) (hit : a.eval it = .pointer (some ⟨r, 0, none⟩))
    (hDone : lf = [] → wpList Tryz.prog ops Q rest (a.put o.dst (.tuple #[.bool false])) w)
    (hMore : ∀ U v w' lf', NextG kt w M r ks E lf U v w' lf' → wpList Tryz.prog ops Q rest (a.put o.dst (.tuple #[.bool true, U, v])) w') : wpList Tryz.prog ops Q (o :: rest) a w := by
  refine wpList_plain hg fun K' hK' => ?_
  unfold Oper.wp
  rcases h.next K o.type with ⟨h0, hrun⟩ | ⟨p, v, w', lf', h1, h2, h3, h4, hrun, h5, h6, h11, h7, h8, h9, h10⟩
  · simp [execOp, hop, hit, hrun, Result.andThen]
    exact hK' _ _ (hDone h0)
  · simp [execOp, hop, hit, hrun, Result.andThen]
    exact hK' _ _ (hMore _ v w' lf' ⟨p, rfl, h1, h2, h3, h4, h5, h6, h11, h7, h8, h10⟩)
theorem MapI.no_iter (h : MapI kt w M r ks E lf) : ∀ cs t fr, w.heap[r]? ≠ some (.cells cs t fr) := by
  intro cs t fr e
  obtain ⟨D, left, cnt, hg, _⟩ := h
  obtain ⟨es, clock, since, seen, c0, hb, F, hs, hD, hr', _⟩ := hg
  rw [hr'] at e
  cases e
end
variable {us : List Ta} {r M : Nat} {A : Option Addr} {c : Nat} {tn : Int} {l : List Rw} {w w' : World}
theorem info_Rows : (Tryz.prog.info? 26).map (fun i => (i.zero, i.size, i.bytes)) = some (some (.slice none 0 0), 1, 24) := by kernel_rfl
/-- A row of one's own, and new. -/
def RowF (lo : Nat) (w : World) (A : Option Addr) (c : Nat) (l : List V) : Prop := RowO w A c l ∧ ∀ p, A = some p → lo ≤ p.block
theorem RowF.ext {lo : Nat} {w w' : World} {A : Option Addr} {c : Nat} {l : List V} (h : RowF lo w A c l) (hb : Below w.heap.size w w') : RowF lo w' A c l := ⟨h.1.ext hb, h.2⟩
theorem RowF.low {lo lo' : Nat} {w : World} {A : Option Addr} {c : Nat} {l : List V} (h : RowF lo w A c l) (hl : lo' ≤ lo) : RowF lo' w A c l := ⟨h.1, fun p hp => Nat.le_trans hl (h.2 p hp)⟩
theorem RowF.chg {lo : Nat} {S : List Nat} {w w' : World} {A : Option Addr} {c : Nat} {l : List V} (h : RowF lo w A c l) (k : Chg S w w') (ho : Oth w S) : RowF lo w' A c l := ⟨h.1.chg k ho, h.2⟩
/-- A clone of a row of values that is not empty; it is new. -/
theorem clone_rowF (l : List V) (A : Option Addr) (c : Nat) (w : World) (h : VRow w A l) (hne : l ≠ []) (hl : l.length ≤ 1000) :
    Calls Tryz.prog 43 #[.slice A l.length c] w fun r w' => Below w.heap.size w w' ∧ ∃ A c, r = .returned (.slice A l.length c) ∧ RowF w.heap.size w' A c l := by
  obtain ⟨b, off, rfl, lb, _⟩ := h.2.2 hne
  refine (clone_val l.length (rowCells l) ⟨b, off, none⟩ c w (rowCells_length l) (rowCells_one l) h.cells_ hl).mono ?_
  rintro r w1 ⟨hb, A', c', rfl, ho, hn⟩
  exact ⟨hb, A', c', rfl, ⟨⟨_, ho⟩, hn, h.1, hl⟩, fun p hp => by subst hp; exact (ho.lt p.block rfl).1⟩
/-- In the middle of a range: what is collected of what has come. -/
structure SomeC (us : List Ta) (M R B7 : Nat) (kz : Int) (l : List Rw) (w w0 : World) (A : Option Addr) (n : Nat) (its : List It) (lf : List (Int × V)) (W : World) : Prop where
  b : Below w.heap.size w W
  b0 : Below w0.heap.size w0 W
  k : Blk W B7 #[.int .i64 kz] 3
  rl : w.heap.size ≤ R ∧ w0.heap.size ≤ R
  mi : MapI 101 W M R (l.map (plI us)) (ElR us w0 l) lf
  own : W.ownsRow w0.heap.size 26 1 (.slice A its.length n) its.length (its.map itV)
  w0 : w.heap.size ≤ w0.heap.size
  ro : ∀ i ∈ its, RowF w.heap.size W i.A i.c i.x.2
section
variable {R B7 n : Nat} {kz : Int} {w0 W W' : World} {its : List It} {lf lf' : List (Int × V)}
theorem SomeC.ext (h : SomeC us M R B7 kz l w w0 A n its lf W) (hb : Below W.heap.size W W') : SomeC us M R B7 kz l w w0 A n its lf W' :=
  ⟨bt h.b hb, bt h.b0 hb, h.k.ext hb, h.rl, h.mi.kept (Chg.of_below (S := []) hb) (by simp) (by simp) (fun _ _ _ h => h), own_below h.own hb, h.w0, fun i hi => (h.ro i hi).ext hb⟩
theorem SomeC.step (h : SomeC us M R B7 kz l w w0 A n its lf W) (hc : Chg [R] W W') (hm : MapI 101 W' M R (l.map (plI us)) (ElR us w0 l) lf') : SomeC us M R B7 kz l w w0 A n its lf' W' := by
  have hno := h.mi.no_iter
  have ho : Oth W [R] := fun i hi cs t e => by rw [List.mem_singleton] at hi; subst hi; exact absurd e (hno _ _ _)
  refine ⟨h.b.trans (hc.below h.b.size (fun i hi => by rw [List.mem_singleton] at hi; subst hi; exact h.rl.1)), h.b0.trans (hc.below h.b0.size (fun i hi => by rw [List.mem_singleton] at hi; subst hi; exact h.rl.2)), h.k.chg hc (fun hm => ?_), h.rl, hm, own_chg h.own hc (fun i hi e => ?_), h.w0, fun i hi => (h.ro i hi).chg hc ho⟩
  · rw [List.mem_singleton] at hm
    have := h.k
    rw [hm] at this
    exact hno _ _ _ this
  · rw [List.mem_singleton] at hi
    subst hi
    obtain ⟨cur, h1⟩ := own_typ h.own e
    exact hno _ _ _ h1
theorem SomeC.app (h : SomeC us M R B7 kz l w w0 A n its lf W) {A3 : Option Addr} {n3 : Nat} {it : It} (hown : W'.ownsRow w0.heap.size 26 1 (.slice A3 (its.length + 1) n3) (its.length + 1) (its.map itV ++ [itV it])) (hg : W.grownBy W' (Value.slice A its.length n).ownBlock) (hro : RowF w.heap.size W it.A it.c it.x.2) :
    SomeC us M R B7 kz l w w0 A3 n3 (its ++ [it]) lf W' := by
  have hc : Chg (Value.slice A its.length n).ownBlock.toList W W' := ⟨hg.os, hg.tape, hg.output, hg.size, fun i hi hn => hg.block i hi (fun e => hn (by rw [← e]; simp))⟩
  have hcell : ∀ i ∈ (Value.slice A its.length n).ownBlock.toList, ∃ cur, W.heap[i]? = some (.cells cur 26 (0, 0)) := fun i hi => own_typ h.own (Option.mem_toList.1 hi)
  have ho : Oth W (Value.slice A its.length n).ownBlock.toList := by
    intro i hi cs t ht
    obtain ⟨cur, h1⟩ := hcell i hi
    rw [h1] at ht
    cases ht
    decide
  have hge : ∀ i ∈ (Value.slice A its.length n).ownBlock.toList, w0.heap.size ≤ i := fun i hi => (h.own.lt i (Option.mem_toList.1 hi)).1
  have hM : M ∉ (Value.slice A its.length n).ownBlock.toList := fun hm => by
    obtain ⟨cur, h1⟩ := hcell M hm
    obtain ⟨D, left, cnt, hg', _⟩ := h.mi
    obtain ⟨es, clock, since, seen, c0, hb, _⟩ := hg'
    rw [hb] at h1
    cases h1
  have hR : R ∉ (Value.slice A its.length n).ownBlock.toList := fun hm => by
    obtain ⟨cur, h1⟩ := hcell R hm
    exact h.mi.no_iter _ _ _ h1
  refine ⟨h.b.trans (hc.below h.b.size (fun i hi => Nat.le_trans h.w0 (hge i hi))), h.b0.trans (hc.below h.b0.size hge), h.k.chg hc (fun hm => own_vne h.own h.k (by decide) (Option.mem_toList.1 hm)), h.rl, h.mi.kept hc hM hR (fun _ _ _ h => h), by rw [List.length_append, List.map_append]; exact hown, h.w0, fun i hi => ?_⟩
  rcases List.mem_append.1 hi with h1 | h1
  · exact (h.ro i h1).chg hc ho
  · rw [List.mem_singleton] at h1
    subst h1
    exact hro.chg hc ho
theorem SomeC.app_left (h : SomeC us M R B7 kz l w w0 A n its lf W) (hg : W.grownBy W' (Value.slice A its.length n).ownBlock) : W'.rangeLeft M R = W.rangeLeft M R := by
  have hc : Chg (Value.slice A its.length n).ownBlock.toList W W' := ⟨hg.os, hg.tape, hg.output, hg.size, fun i hi hn => hg.block i hi (fun e => hn (by rw [← e]; simp))⟩
  have hcell : ∀ i ∈ (Value.slice A its.length n).ownBlock.toList, ∃ cur, W.heap[i]? = some (.cells cur 26 (0, 0)) := fun i hi => own_typ h.own (Option.mem_toList.1 hi)
  refine h.mi.left_same hc (fun hm => ?_) (fun hm => ?_)
  · obtain ⟨cur, h1⟩ := hcell M hm
    obtain ⟨D, left, cnt, hg', _⟩ := h.mi
    obtain ⟨es, clock, since, seen, c0, hb, _⟩ := hg'
    rw [hb] at h1
    cases h1
  · obtain ⟨cur, h1⟩ := hcell R hm
    exact h.mi.no_iter _ _ _ h1
end
def SomeL (us : List Ta) (M R B7 : Nat) (kz : Int) (l : List Rw) (P : Rw → Bool) (w w0 : World) (all : Value) (W : World) : Prop :=
  ∃ lf its A n, all = .slice A (List.length its) n ∧ SomeC us M R B7 kz l w w0 A n its lf W ∧ its.length + lf.length ≤ l.length ∧ (its.map It.x).Nodup ∧ ∀ y, y ∈ its.map It.x ↔ y ∈ l ∧ P y = true ∧ plI us y ∉ lf
def SomeP (l : List Rw) (w : World) (q : Ending) (w' : World) : Prop :=
  Below w.heap.size w w' ∧ ∃ A n its, q = .returned (.slice A (List.length its) n) ∧ its.map It.x = l ∧ w'.ownsRow w.heap.size 26 1 (.slice A its.length n) its.length (its.map itV) ∧ ∀ i ∈ its, RowF w.heap.size w' i.A i.c i.x.2
theorem plI_one (hi : StI us l) {y z : Rw} (hy : y ∈ l) (hz : z ∈ l) (e : plI us z = plI us y) : z = y := ris_one hi.ris hz hy (plI_plN.1 e)
theorem some_skip {P : Rw → Bool} {L : List Rw} {lf lf' : List (Int × V)} {y : Rw} (hi : StI us l) (hy : y ∈ l) (hP : P y = false) (hm : ∀ z, z ∈ L ↔ z ∈ l ∧ P z = true ∧ plI us z ∉ lf) (hlf : ∀ q, q ∈ lf' ↔ q ∈ lf ∧ q ≠ plI us y) : ∀ z, z ∈ L ↔ z ∈ l ∧ P z = true ∧ plI us z ∉ lf' := by
  intro z
  rw [hm z]
  constructor
  · rintro ⟨h1, h2, h3⟩
    exact ⟨h1, h2, fun h => h3 ((hlf _).1 h).1⟩
  · rintro ⟨h1, h2, h3⟩
    refine ⟨h1, h2, fun h => h3 ((hlf _).2 ⟨h, fun e => ?_⟩)⟩
    rw [plI_one hi hy h1 e, hP] at h2
    cases h2
theorem some_take {P : Rw → Bool} {L : List Rw} {lf lf' : List (Int × V)} {y : Rw} (hi : StI us l) (hy : y ∈ l) (hP : P y = true) (hp : plI us y ∈ lf) (hn : L.Nodup) (hm : ∀ z, z ∈ L ↔ z ∈ l ∧ P z = true ∧ plI us z ∉ lf) (hlf : ∀ q, q ∈ lf' ↔ q ∈ lf ∧ q ≠ plI us y) :
    (L ++ [y]).Nodup ∧ ∀ z, z ∈ L ++ [y] ↔ z ∈ l ∧ P z = true ∧ plI us z ∉ lf' := by
  constructor
  · rw [List.nodup_append]
    refine ⟨hn, by simp, fun a ha b hb e => ?_⟩
    rw [List.mem_singleton] at hb
    subst hb; subst e
    exact ((hm a).1 ha).2.2 hp
  · intro z
    rw [List.mem_append, List.mem_singleton, hm z]
    constructor
    · rintro (⟨h1, h2, h3⟩ | rfl)
      · exact ⟨h1, h2, fun h => h3 ((hlf _).1 h).1⟩
      · exact ⟨hy, hP, fun h => ((hlf _).1 h).2 rfl⟩
    · rintro ⟨h1, h2, h3⟩
      by_cases e : z = y
      · exact Or.inr e
      · exact Or.inl ⟨h1, h2, fun h => h3 ((hlf _).2 ⟨h, fun e' => e (plI_one hi hy h1 e')⟩)⟩
theorem some_end {P : Rw → Bool} {its : List It} {t : Nat} (hi : StI us l) (hn : (its.map It.x).Nodup) (hm : ∀ z, z ∈ its.map It.x ↔ z ∈ l ∧ P z = true ∧ plI us z ∉ ([] : List (Int × V))) (hq : ∀ x ∈ l, P x = true → x.1 = t) {its' : List It} (hp : its'.Perm its)
    (hs : its'.Pairwise fun a b => vLess (keyN us t b.x.2) (keyN us t a.x.2) = false) : its'.map It.x = l.filter P := by
  refine some_sorted hi hq ?_ (List.pairwise_map.2 hs)
  refine (hp.map It.x).trans ((List.perm_ext_iff_of_nodup hn (List.Pairwise.filter _ (ris_nodup hi.ris))).2 fun z => ?_)
  rw [hm z, List.mem_filter]
  simp
set_option maxRecDepth 100000 in
set_option maxHeartbeats 1600000 in
theorem some_rows (h : RelR us r M A c tn l w) (t : Nat) (ht : t < us.length) (qf : Rw → Bool) (hq : ∀ W : World, Below w.heap.size w W → ∀ y ∈ l, y.1 = t → ∀ B n, RowO W B n y.2 → Calls Tryz.prog 51 #[.slice B y.2.length n] W fun q W' => q = .returned (.bool (qf y)) ∧ Below W.heap.size W W') :
    Calls Tryz.prog 50 #[.pointer (some ⟨r, 0, none⟩), .int .i64 t, .func (.func 51) #[] #[]] w (SomeP (l.filter fun x => decide (x.1 = t) && qf x) w) := by
  obtain ⟨ab, ao, u, hA, hab, hju, hum, _, _, a0, a1, a2, a3, a4⟩ := h.s.trow.at_ ht
  obtain ⟨kz, hkz⟩ : ∃ kz, kz = u.key := ⟨_, rfl⟩
  rw [← hkz] at a2
  have HR := Lib.hid h
  have HQ := Lib.hid hq
  have hb := h.b
  subst hA
  have r0 := hb.cell 0
  have r1 := hb.cell 1
  have lr := hb.lt
  simp only [List.getElem?_toArray, List.getElem?_cons_zero, List.getElem?_cons_succ] at r0 r1
  have i0 : (t : Int) < us.length := by omega
  have i1 : ¬ (t : Int) < 0 := by omega
  have HU := Lib.hid (And.intro hju hkz)
  clear h hq hb hju hum a0 a1 a3 a4 hkz
  go_enter Tryz.func50, Tryz.ntmps50
  go_upto_region 4 with fail
  have hk0 := Blk.new w #[.int .i64 kz] 3
  have hbl : Below w.heap.size w (w.alloc (.cells #[.int .i64 kz] 3)) := (by repeat (first | exact Below.refl _ _ | assumption | refine Below.drew ?_ | refine below_drewN ?_ _ | refine Below.alloc ?_ (by simp <;> omega) _))
  have HR1 := Lib.hid (HR.out.ext hbl)
  have HB1 := Lib.hid hbl
  have HK1 := Lib.hid hk0
  clear r0 r1 lr a2 hbl hk0 hab
  generalize w.alloc (.cells #[.int .i64 kz] 3) = w1 at HR1 HB1 HK1 ⊢
  generalize hB7 : w.heap.size = B7 at HK1 ⊢
  have HB7 := Lib.hid hB7
  clear hB7
  have hb := HR1.out.b
  have r1 := hb.cell 1
  have lr := hb.lt
  simp only [List.getElem?_toArray, List.getElem?_cons_zero, List.getElem?_cons_succ] at r1
  clear hb
  go_wp2_with (first | (at_range; refine wpList_rangeG HR1.out.m keyT_place Tryz.underlying90 rfl _ rfl rfl ?_; intro w2 hmi hgr hs2) | go_in)
  have hb12 : Below w1.heap.size w1 w2 := (Below.refl _ _).grown hgr (Nat.le_refl _) (by simp)
  have HS0 : Hid (SomeL us M w1.heap.size B7 kz l (fun x => decide (x.1 = t) && qf x) w w1 (.slice none 0 0) w2) :=
    ⟨_, [], none, 0, rfl, ⟨bt HB1.out hb12, hb12, HK1.out.ext hb12, ⟨HB1.out.size, Nat.le_refl _⟩, hmi, World.ownsRow_nil _ _ _ _, HB1.out.size, by simp⟩, by simp, by simp, fun y => ⟨fun h => by simp at h, fun ⟨h1, _, h3⟩ => absurd (List.mem_map.2 ⟨y, h1, rfl⟩) h3⟩⟩
  have HFIT : Hid (∀ y ∈ l, (rowS us y.1 y.2 = true ∧ ∀ v ∈ y.2, v.wf)) := HR.out.i.fit
  generalize w1.heap.size = R at HS0 ⊢
  clear hmi hgr hs2 hb12 r1 lr HK1
  go_loopw [6] (fun all wr => Hid (SomeL us M R B7 kz l (fun x => decide (x.1 = t) && qf x) w w1 all wr)) (fun _ wr => wr.rangeLeft M R)
  case atStart => exact HS0.out
  case round =>
    obtain ⟨lf, its, A', n', rfl, hC, hlen, hnd, hmem⟩ := hrel.out
    have HC := Lib.hid hC
    have HND := Lib.hid hnd
    have HMM := Lib.hid hmem
    clear hC hnd hmem hrel HS0
    go_wp2_with (at_next; refine wpList_nextG HC.out.mi keyT_place rfl _ rfl rfl ?_ ?_)
    · intro hlf
      subst hlf
      have hl200 : l.length ≤ 200 := HR.out.i.few
      have hb8 := HC.out.b
      rcases Nat.eq_zero_or_pos its.length with h0 | h0
      · have HSN := Lib.hid (fun W => AnyF.slices_SortFunc_none { Tryz.sortV with } A' n' (.func (.func 76) #[] #[.pointer (some ⟨B7, 0, none⟩)]) W)
        obtain rfl : its = [] := List.eq_nil_of_length_eq_zero h0
        have HF : Hid (SomeP (l.filter fun x => decide (x.1 = t) && qf x) w (.returned (.slice A' ([] : List It).length n')) wr) :=
          ⟨HC.out.b, A', n', [], rfl, some_end (t := t) HR.out.i HND.out HMM.out (fun x _ hx => by simp at hx; exact hx.1) (List.Perm.refl _) List.Pairwise.nil, own_base' HC.out.own HC.out.w0, by simp⟩
        clear h0 hb8 HND HMM hlen
        go_wp2_with fail
        refine (HSN.out _).mono ?_
        rintro q w9 ⟨rfl, rfl⟩
        clear HSN HC
        go_wp2_with fail
        go_ret
        exact HF.out
      · obtain ⟨g, cg, hA', _⟩ := HC.out.own.form h0
        simp only [Value.slice.injEq, true_and] at hA'
        obtain ⟨rfl, rfl⟩ := hA'
        have hfx : ∀ i ∈ its, i.x ∈ l ∧ i.x.1 = t := fun i hi => by
          obtain ⟨h1, h2, _⟩ := (HMM.out i.x).1 (List.mem_map.2 ⟨i, hi, rfl⟩)
          simp at h2
          exact ⟨h1, h2.1⟩
        have hkey : ∀ i ∈ its, ∃ kj : Nat, kz = kj ∧ kj < i.x.2.length := fun i hi => by
          obtain ⟨h1, h2⟩ := hfx i hi
          obtain ⟨u', kj, v, hu', _, hk', hkl, _⟩ := rowS_key (HFIT.out _ h1).1
          rw [h2, HU.out.1, Option.some.injEq] at hu'
          exact ⟨kj, by rw [HU.out.2, hu', hk'], hkl⟩
        obtain ⟨kj, hkj, hkx⟩ := hkey _ (List.getElem_mem h0)
        subst hkj
        have hKN : ∀ row, keyN us t row = row.getD kj zV := fun row => by
          unfold keyN
          rw [HU.out.1]
          simp only
          rw [← HU.out.2, Int.toNat_natCast]
        have HSV := Lib.hid (sortV_any its kj B7 g its.length n' w1.heap.size wr (fun i hi => ⟨(HC.out.ro i hi).1, by
          obtain ⟨k2, e2, h2⟩ := hkey i hi
          have : kj = k2 := by omega
          rw [this]; exact h2⟩) HC.out.k h0 rfl (by omega) HC.out.own)
        have HPOST : Hid (∀ q w9, SortVP g its.length n' w1.heap.size kj its wr q w9 → q = .returned (.tuple #[]) ∧ SomeP (l.filter fun x => decide (x.1 = t) && qf x) w (.returned (.slice (some ⟨g, 0, none⟩) its.length n')) w9) := by
          rintro q w9 ⟨rfl, hc9, its', hpm, hpw, hown9⟩
          refine ⟨rfl, ?_⟩
          have hle := hpm.length_eq
          have hoth : Oth wr [g] := fun i hi cs ty ht => by
            rw [List.mem_singleton] at hi
            subst hi
            obtain ⟨cur, h1⟩ := own_typ HC.out.own (i := i) rfl
            rw [h1] at ht
            cases ht
            decide
          refine ⟨HC.out.b.trans (hc9.below HC.out.b.size (fun i hi => ?_)), some ⟨g, 0, none⟩, n', its', by rw [hle], some_end (t := t) HR.out.i HND.out HMM.out (fun x _ hx => by simp at hx; exact hx.1) hpm (hpw.imp fun {a b} hab => by rw [hKN, hKN]; exact hab), ?_, fun i hi => (HC.out.ro i (hpm.mem_iff.1 hi)).chg hc9 hoth⟩
          · rw [List.mem_singleton] at hi
            subst hi
            exact Nat.le_trans HC.out.w0 (HC.out.own.lt i rfl).1
          · rw [hle]
            exact own_base' hown9 HC.out.w0
        clear hkx h0 hb8 hfx hkey hKN hlen HND HMM
        go_wp2_with fail
        refine HSV.out.mono ?_
        intro q w9 hq9
        obtain ⟨rfl, hf9⟩ := HPOST.out q w9 hq9
        have HF := Lib.hid hf9
        clear hq9 hf9 HPOST HSV HC
        go_wp2_with fail
        go_ret
        exact HF.out
    · rintro U v w3 lf' ⟨p, rfl, hp, hpk, hpo, hE, hmi', hlf', hll, hlt, hc3, hen⟩
      obtain ⟨y, hy, rfl, Ay, cy, rfl, hroy⟩ := hE
      unfold plc plI at hen ⊢
      simp only at hen ⊢
      have HY := Lib.hid hy
      have HP := Lib.hid hp
      have HLF := Lib.hid hlf'
      have HC3 := Lib.hid (HC.out.step hc3 hmi')
      have HLT := Lib.hid hlt
      have HRY := Lib.hid hroy
      have HEN := Lib.hid hen
      clear hy hp hlf' hmi' hlt hroy hpk hpo hc3
      have HRG : Hid (∀ W : World, Below w3.heap.size w3 W → W.rangeLeft M R < wr.rangeLeft M R) := fun W hb => by
        rw [HC3.out.mi.left_same (Chg.of_below (S := []) hb) (by simp) (by simp)]
        exact HLT.out
      have hl200 : l.length ≤ 200 := HR.out.i.few
      by_cases hyt : y.1 = t
      · have q1 : ((y.1 : Int) == t) = true := by rw [beq_iff_eq]; omega
        obtain ⟨b, hqb⟩ : ∃ b, b = qf y := ⟨_, rfl⟩
        have HQY := Lib.hid (fun (W : World) (hW : Below w3.heap.size w3 W) => HQ.out W (bt HC3.out.b hW) y HY.out hyt Ay cy ((HRY.out.ext HC3.out.b0).ext hW))
        rw [← hqb] at HQY
        have HPB : Hid ((fun x : Rw => decide (x.1 = t) && qf x) y = b) := by show _ = _; simp [hyt, hqb]
        clear hyt hqb
        go_wp2_with fail
        refine (HQY.out _ (by repeat (first | exact Below.refl _ _ | assumption | refine Below.drew ?_ | refine below_drewN ?_ _ | refine Below.alloc ?_ (by simp <;> omega) _))).mono ?_
        rintro q w5 ⟨rfl, hb5⟩
        have HB5 : Hid (Below w3.heap.size w3 w5) := bt (by repeat (first | exact Below.refl _ _ | assumption | refine Below.drew ?_ | refine below_drewN ?_ _ | refine Below.alloc ?_ (by simp <;> omega) _)) hb5
        clear hb5
        cases b
        · have HPF := HPB
          go_wp2_with fail
          go_roundw
          case rel => exact ⟨lf', its, A', n', rfl, HC3.out.ext HB5.out, by omega, HND.out, some_skip HR.out.i HY.out HPF.out HMM.out HLF.out⟩
          case measure => exact HRG.out _ HB5.out
        · obtain ⟨hrne, hrl⟩ := row_in (HFIT.out y HY.out).1 HR.out.h
          have HCL := Lib.hid (clone_rowF y.2 Ay cy w5 (((HRY.out.ext HC3.out.b0).ext HB5.out).vrow) hrne (by omega))
          clear hrne hrl
          obtain ⟨j0, hj0, hz0, hz1, hz2⟩ := info_parts info_Rows
          go_wp2_with fail
          refine HCL.out.mono ?_
          rintro q w6 ⟨hb6, A2, c2, rfl, hro6⟩
          have HC6 := Lib.hid ((HC3.out.ext HB5.out).ext hb6)
          have HB6 := Lib.hid (bt HB5.out hb6)
          have HRO6 := Lib.hid hro6
          clear hb6 hro6
          go_wp2_with (at_builtin; refine wpList_append_own _ rfl _ _ 71 rfl w1.heap.size 26 j0 _ 1 24 Tryz.underlying71 hj0 hz0 hz1 hz2 rfl (by decide) (.slice A' its.length n') its.length (its.map itV) (by simp [go_sem]) (HC6.out.own.alloc _) ⟨w6.heap.size, 0, none⟩ 1 1 [.slice A2 y.2.length c2] (by simp [go_sem]) rfl (World.news_of_block (Blk.new w6 #[.slice A2 y.2.length c2] 26)) (by simp [Value.oneCell']) (by simp only [maxLen]; omega) (by omega) (by have := HC6.out.b0.size; simp; omega) ?_)
          intro v' w7 hown7 hg7 _
          obtain ⟨A3, n3, rfl⟩ := own_form hown7
          have HC7 := Lib.hid ((HC6.out.ext (show Below w6.heap.size w6 (w6.alloc (.cells #[.slice A2 y.2.length c2] 26)) from (by repeat (first | exact Below.refl _ _ | assumption | refine Below.drew ?_ | refine below_drewN ?_ _ | refine Below.alloc ?_ (by simp <;> omega) _)))).app (it := ⟨y, A2, c2⟩) hown7 hg7 ((HRO6.out.low (Nat.le_trans HC3.out.b.size HB5.out.size)).ext (by repeat (first | exact Below.refl _ _ | assumption | refine Below.drew ?_ | refine below_drewN ?_ _ | refine Below.alloc ?_ (by simp <;> omega) _))))
          have HR7 : Hid (w7.rangeLeft M R < wr.rangeLeft M R) := by
            have h1 := HRG.out _ (show Below w3.heap.size w3 (w6.alloc (.cells #[.slice A2 y.2.length c2] 26)) from bt HB6.out (by repeat (first | exact Below.refl _ _ | assumption | refine Below.drew ?_ | refine below_drewN ?_ _ | refine Below.alloc ?_ (by simp <;> omega) _)))
            have h2 := HC6.out.ext (show Below w6.heap.size w6 (w6.alloc (.cells #[.slice A2 y.2.length c2] 26)) from (by repeat (first | exact Below.refl _ _ | assumption | refine Below.drew ?_ | refine below_drewN ?_ _ | refine Below.alloc ?_ (by simp <;> omega) _)))
            show _ < _
            rw [h2.app_left hg7]
            exact h1
          have HT := Lib.hid (some_take HR.out.i HY.out HPB.out HP.out HND.out HMM.out HLF.out)
          clear hown7 hg7
          go_wp2_with fail
          go_roundw
          case rel =>
            refine ⟨lf', its ++ [⟨y, A2, c2⟩], A3, n3, by rw [List.length_append]; rfl, HC7.out, by rw [List.length_append]; simp; omega, ?_⟩
            rw [List.map_append]
            exact HT.out
          case measure => exact HR7.out
      · have q1 : ((y.1 : Int) == t) = false := by rw [beq_eq_false_iff_ne]; omega
        have HPF : Hid ((fun x : Rw => decide (x.1 = t) && qf x) y = false) := by show _ = _; simp [hyt]
        clear hyt
        go_wp2_with fail
        exact ⟨⟨lf', its, A', n', rfl, HC3.out.ext (by repeat (first | exact Below.refl _ _ | assumption | refine Below.drew ?_ | refine below_drewN ?_ _ | refine Below.alloc ?_ (by simp <;> omega) _)), by omega, HND.out, some_skip HR.out.i HY.out HPF.out HMM.out HLF.out⟩, HRG.out _ (by repeat (first | exact Below.refl _ _ | assumption | refine Below.drew ?_ | refine below_drewN ?_ _ | refine Below.alloc ?_ (by simp <;> omega) _))⟩
set_option maxRecDepth 100000 in
set_option maxHeartbeats 1600000 in
theorem some_of (b1 b2 b3 : Nat) (h : RelR us r M A c tn l w) (t : Nat) (ht : t < us.length) (qf : Rw → Bool) (hq : ∀ W : World, Below w.heap.size w W → ∀ y ∈ l, y.1 = t → ∀ B n, RowO W B n y.2 → Calls Tryz.prog 74 #[.slice B y.2.length n, .pointer (some ⟨b1, 0, none⟩), .pointer (some ⟨b2, 0, none⟩), .pointer (some ⟨b3, 0, none⟩)] W fun q W' => q = .returned (.bool (qf y)) ∧ Below W.heap.size W W') :
    Calls Tryz.prog 50 #[.pointer (some ⟨r, 0, none⟩), .int .i64 t, .func (.func 74) #[] #[.pointer (some ⟨b1, 0, none⟩), .pointer (some ⟨b2, 0, none⟩), .pointer (some ⟨b3, 0, none⟩)]] w (SomeP (l.filter fun x => decide (x.1 = t) && qf x) w) := by
  obtain ⟨ab, ao, u, hA, hab, hju, hum, _, _, a0, a1, a2, a3, a4⟩ := h.s.trow.at_ ht
  obtain ⟨kz, hkz⟩ : ∃ kz, kz = u.key := ⟨_, rfl⟩
  rw [← hkz] at a2
  have HR := Lib.hid h
  have HQ := Lib.hid hq
  have hb := h.b
  subst hA
  have r0 := hb.cell 0
  have r1 := hb.cell 1
  have lr := hb.lt
  simp only [List.getElem?_toArray, List.getElem?_cons_zero, List.getElem?_cons_succ] at r0 r1
  have i0 : (t : Int) < us.length := by omega
  have i1 : ¬ (t : Int) < 0 := by omega
  have HU := Lib.hid (And.intro hju hkz)
  clear h hq hb hju hum a0 a1 a3 a4 hkz
  go_enter Tryz.func50, Tryz.ntmps50
  go_upto_region 4 with fail
  have hk0 := Blk.new w #[.int .i64 kz] 3
  have hbl : Below w.heap.size w (w.alloc (.cells #[.int .i64 kz] 3)) := (by repeat (first | exact Below.refl _ _ | assumption | refine Below.drew ?_ | refine below_drewN ?_ _ | refine Below.alloc ?_ (by simp <;> omega) _))
  have HR1 := Lib.hid (HR.out.ext hbl)
  have HB1 := Lib.hid hbl
  have HK1 := Lib.hid hk0
  clear r0 r1 lr a2 hbl hk0 hab
  generalize w.alloc (.cells #[.int .i64 kz] 3) = w1 at HR1 HB1 HK1 ⊢
  generalize hB7 : w.heap.size = B7 at HK1 ⊢
  have HB7 := Lib.hid hB7
  clear hB7
  have hb := HR1.out.b
  have r1 := hb.cell 1
  have lr := hb.lt
  simp only [List.getElem?_toArray, List.getElem?_cons_zero, List.getElem?_cons_succ] at r1
  clear hb
  go_wp2_with (first | (at_range; refine wpList_rangeG HR1.out.m keyT_place Tryz.underlying90 rfl _ rfl rfl ?_; intro w2 hmi hgr hs2) | go_in)
  have hb12 : Below w1.heap.size w1 w2 := (Below.refl _ _).grown hgr (Nat.le_refl _) (by simp)
  have HS0 : Hid (SomeL us M w1.heap.size B7 kz l (fun x => decide (x.1 = t) && qf x) w w1 (.slice none 0 0) w2) :=
    ⟨_, [], none, 0, rfl, ⟨bt HB1.out hb12, hb12, HK1.out.ext hb12, ⟨HB1.out.size, Nat.le_refl _⟩, hmi, World.ownsRow_nil _ _ _ _, HB1.out.size, by simp⟩, by simp, by simp, fun y => ⟨fun h => by simp at h, fun ⟨h1, _, h3⟩ => absurd (List.mem_map.2 ⟨y, h1, rfl⟩) h3⟩⟩
  have HFIT : Hid (∀ y ∈ l, (rowS us y.1 y.2 = true ∧ ∀ v ∈ y.2, v.wf)) := HR.out.i.fit
  generalize w1.heap.size = R at HS0 ⊢
  clear hmi hgr hs2 hb12 r1 lr HK1
  go_loopw [6] (fun all wr => Hid (SomeL us M R B7 kz l (fun x => decide (x.1 = t) && qf x) w w1 all wr)) (fun _ wr => wr.rangeLeft M R)
  case atStart => exact HS0.out
  case round =>
    obtain ⟨lf, its, A', n', rfl, hC, hlen, hnd, hmem⟩ := hrel.out
    have HC := Lib.hid hC
    have HND := Lib.hid hnd
    have HMM := Lib.hid hmem
    clear hC hnd hmem hrel HS0
    go_wp2_with (at_next; refine wpList_nextG HC.out.mi keyT_place rfl _ rfl rfl ?_ ?_)
    · intro hlf
      subst hlf
      have hl200 : l.length ≤ 200 := HR.out.i.few
      have hb8 := HC.out.b
      rcases Nat.eq_zero_or_pos its.length with h0 | h0
      · have HSN := Lib.hid (fun W => AnyF.slices_SortFunc_none { Tryz.sortV with } A' n' (.func (.func 76) #[] #[.pointer (some ⟨B7, 0, none⟩)]) W)
        obtain rfl : its = [] := List.eq_nil_of_length_eq_zero h0
        have HF : Hid (SomeP (l.filter fun x => decide (x.1 = t) && qf x) w (.returned (.slice A' ([] : List It).length n')) wr) :=
          ⟨HC.out.b, A', n', [], rfl, some_end (t := t) HR.out.i HND.out HMM.out (fun x _ hx => by simp at hx; exact hx.1) (List.Perm.refl _) List.Pairwise.nil, own_base' HC.out.own HC.out.w0, by simp⟩
        clear h0 hb8 HND HMM hlen
        go_wp2_with fail
        refine (HSN.out _).mono ?_
        rintro q w9 ⟨rfl, rfl⟩
        clear HSN HC
        go_wp2_with fail
        go_ret
        exact HF.out
      · obtain ⟨g, cg, hA', _⟩ := HC.out.own.form h0
        simp only [Value.slice.injEq, true_and] at hA'
        obtain ⟨rfl, rfl⟩ := hA'
        have hfx : ∀ i ∈ its, i.x ∈ l ∧ i.x.1 = t := fun i hi => by
          obtain ⟨h1, h2, _⟩ := (HMM.out i.x).1 (List.mem_map.2 ⟨i, hi, rfl⟩)
          simp at h2
          exact ⟨h1, h2.1⟩
        have hkey : ∀ i ∈ its, ∃ kj : Nat, kz = kj ∧ kj < i.x.2.length := fun i hi => by
          obtain ⟨h1, h2⟩ := hfx i hi
          obtain ⟨u', kj, v, hu', _, hk', hkl, _⟩ := rowS_key (HFIT.out _ h1).1
          rw [h2, HU.out.1, Option.some.injEq] at hu'
          exact ⟨kj, by rw [HU.out.2, hu', hk'], hkl⟩
        obtain ⟨kj, hkj, hkx⟩ := hkey _ (List.getElem_mem h0)
        subst hkj
        have hKN : ∀ row, keyN us t row = row.getD kj zV := fun row => by
          unfold keyN
          rw [HU.out.1]
          simp only
          rw [← HU.out.2, Int.toNat_natCast]
        have HSV := Lib.hid (sortV_any its kj B7 g its.length n' w1.heap.size wr (fun i hi => ⟨(HC.out.ro i hi).1, by
          obtain ⟨k2, e2, h2⟩ := hkey i hi
          have : kj = k2 := by omega
          rw [this]; exact h2⟩) HC.out.k h0 rfl (by omega) HC.out.own)
        have HPOST : Hid (∀ q w9, SortVP g its.length n' w1.heap.size kj its wr q w9 → q = .returned (.tuple #[]) ∧ SomeP (l.filter fun x => decide (x.1 = t) && qf x) w (.returned (.slice (some ⟨g, 0, none⟩) its.length n')) w9) := by
          rintro q w9 ⟨rfl, hc9, its', hpm, hpw, hown9⟩
          refine ⟨rfl, ?_⟩
          have hle := hpm.length_eq
          have hoth : Oth wr [g] := fun i hi cs ty ht => by
            rw [List.mem_singleton] at hi
            subst hi
            obtain ⟨cur, h1⟩ := own_typ HC.out.own (i := i) rfl
            rw [h1] at ht
            cases ht
            decide
          refine ⟨HC.out.b.trans (hc9.below HC.out.b.size (fun i hi => ?_)), some ⟨g, 0, none⟩, n', its', by rw [hle], some_end (t := t) HR.out.i HND.out HMM.out (fun x _ hx => by simp at hx; exact hx.1) hpm (hpw.imp fun {a b} hab => by rw [hKN, hKN]; exact hab), ?_, fun i hi => (HC.out.ro i (hpm.mem_iff.1 hi)).chg hc9 hoth⟩
          · rw [List.mem_singleton] at hi
            subst hi
            exact Nat.le_trans HC.out.w0 (HC.out.own.lt i rfl).1
          · rw [hle]
            exact own_base' hown9 HC.out.w0
        clear hkx h0 hb8 hfx hkey hKN hlen HND HMM
        go_wp2_with fail
        refine HSV.out.mono ?_
        intro q w9 hq9
        obtain ⟨rfl, hf9⟩ := HPOST.out q w9 hq9
        have HF := Lib.hid hf9
        clear hq9 hf9 HPOST HSV HC
        go_wp2_with fail
        go_ret
        exact HF.out
    · rintro U v w3 lf' ⟨p, rfl, hp, hpk, hpo, hE, hmi', hlf', hll, hlt, hc3, hen⟩
      obtain ⟨y, hy, rfl, Ay, cy, rfl, hroy⟩ := hE
      unfold plc plI at hen ⊢
      simp only at hen ⊢
      have HY := Lib.hid hy
      have HP := Lib.hid hp
      have HLF := Lib.hid hlf'
      have HC3 := Lib.hid (HC.out.step hc3 hmi')
      have HLT := Lib.hid hlt
      have HRY := Lib.hid hroy
      have HEN := Lib.hid hen
      clear hy hp hlf' hmi' hlt hroy hpk hpo hc3
      have HRG : Hid (∀ W : World, Below w3.heap.size w3 W → W.rangeLeft M R < wr.rangeLeft M R) := fun W hb => by
        rw [HC3.out.mi.left_same (Chg.of_below (S := []) hb) (by simp) (by simp)]
        exact HLT.out
      have hl200 : l.length ≤ 200 := HR.out.i.few
      by_cases hyt : y.1 = t
      · have q1 : ((y.1 : Int) == t) = true := by rw [beq_iff_eq]; omega
        obtain ⟨b, hqb⟩ : ∃ b, b = qf y := ⟨_, rfl⟩
        have HQY := Lib.hid (fun (W : World) (hW : Below w3.heap.size w3 W) => HQ.out W (bt HC3.out.b hW) y HY.out hyt Ay cy ((HRY.out.ext HC3.out.b0).ext hW))
        rw [← hqb] at HQY
        have HPB : Hid ((fun x : Rw => decide (x.1 = t) && qf x) y = b) := by show _ = _; simp [hyt, hqb]
        clear hyt hqb
        go_wp2_with fail
        refine (HQY.out _ (by repeat (first | exact Below.refl _ _ | assumption | refine Below.drew ?_ | refine below_drewN ?_ _ | refine Below.alloc ?_ (by simp <;> omega) _))).mono ?_
        rintro q w5 ⟨rfl, hb5⟩
        have HB5 : Hid (Below w3.heap.size w3 w5) := bt (by repeat (first | exact Below.refl _ _ | assumption | refine Below.drew ?_ | refine below_drewN ?_ _ | refine Below.alloc ?_ (by simp <;> omega) _)) hb5
        clear hb5
        cases b
        · have HPF := HPB
          go_wp2_with fail
          go_roundw
          case rel => exact ⟨lf', its, A', n', rfl, HC3.out.ext HB5.out, by omega, HND.out, some_skip HR.out.i HY.out HPF.out HMM.out HLF.out⟩
          case measure => exact HRG.out _ HB5.out
        · obtain ⟨hrne, hrl⟩ := row_in (HFIT.out y HY.out).1 HR.out.h
          have HCL := Lib.hid (clone_rowF y.2 Ay cy w5 (((HRY.out.ext HC3.out.b0).ext HB5.out).vrow) hrne (by omega))
          clear hrne hrl
          obtain ⟨j0, hj0, hz0, hz1, hz2⟩ := info_parts info_Rows
          go_wp2_with fail
          refine HCL.out.mono ?_
          rintro q w6 ⟨hb6, A2, c2, rfl, hro6⟩
          have HC6 := Lib.hid ((HC3.out.ext HB5.out).ext hb6)
          have HB6 := Lib.hid (bt HB5.out hb6)
          have HRO6 := Lib.hid hro6
          clear hb6 hro6
          go_wp2_with (at_builtin; refine wpList_append_own _ rfl _ _ 71 rfl w1.heap.size 26 j0 _ 1 24 Tryz.underlying71 hj0 hz0 hz1 hz2 rfl (by decide) (.slice A' its.length n') its.length (its.map itV) (by simp [go_sem]) (HC6.out.own.alloc _) ⟨w6.heap.size, 0, none⟩ 1 1 [.slice A2 y.2.length c2] (by simp [go_sem]) rfl (World.news_of_block (Blk.new w6 #[.slice A2 y.2.length c2] 26)) (by simp [Value.oneCell']) (by simp only [maxLen]; omega) (by omega) (by have := HC6.out.b0.size; simp; omega) ?_)
          intro v' w7 hown7 hg7 _
          obtain ⟨A3, n3, rfl⟩ := own_form hown7
          have HC7 := Lib.hid ((HC6.out.ext (show Below w6.heap.size w6 (w6.alloc (.cells #[.slice A2 y.2.length c2] 26)) from (by repeat (first | exact Below.refl _ _ | assumption | refine Below.drew ?_ | refine below_drewN ?_ _ | refine Below.alloc ?_ (by simp <;> omega) _)))).app (it := ⟨y, A2, c2⟩) hown7 hg7 ((HRO6.out.low (Nat.le_trans HC3.out.b.size HB5.out.size)).ext (by repeat (first | exact Below.refl _ _ | assumption | refine Below.drew ?_ | refine below_drewN ?_ _ | refine Below.alloc ?_ (by simp <;> omega) _))))
          have HR7 : Hid (w7.rangeLeft M R < wr.rangeLeft M R) := by
            have h1 := HRG.out _ (show Below w3.heap.size w3 (w6.alloc (.cells #[.slice A2 y.2.length c2] 26)) from bt HB6.out (by repeat (first | exact Below.refl _ _ | assumption | refine Below.drew ?_ | refine below_drewN ?_ _ | refine Below.alloc ?_ (by simp <;> omega) _)))
            have h2 := HC6.out.ext (show Below w6.heap.size w6 (w6.alloc (.cells #[.slice A2 y.2.length c2] 26)) from (by repeat (first | exact Below.refl _ _ | assumption | refine Below.drew ?_ | refine below_drewN ?_ _ | refine Below.alloc ?_ (by simp <;> omega) _)))
            show _ < _
            rw [h2.app_left hg7]
            exact h1
          have HT := Lib.hid (some_take HR.out.i HY.out HPB.out HP.out HND.out HMM.out HLF.out)
          clear hown7 hg7
          go_wp2_with fail
          go_roundw
          case rel =>
            refine ⟨lf', its ++ [⟨y, A2, c2⟩], A3, n3, by rw [List.length_append]; rfl, HC7.out, by rw [List.length_append]; simp; omega, ?_⟩
            rw [List.map_append]
            exact HT.out
          case measure => exact HR7.out
      · have q1 : ((y.1 : Int) == t) = false := by rw [beq_eq_false_iff_ne]; omega
        have HPF : Hid ((fun x : Rw => decide (x.1 = t) && qf x) y = false) := by show _ = _; simp [hyt]
        clear hyt
        go_wp2_with fail
        exact ⟨⟨lf', its, A', n', rfl, HC3.out.ext (by repeat (first | exact Below.refl _ _ | assumption | refine Below.drew ?_ | refine below_drewN ?_ _ | refine Below.alloc ?_ (by simp <;> omega) _)), by omega, HND.out, some_skip HR.out.i HY.out HPF.out HMM.out HLF.out⟩, HRG.out _ (by repeat (first | exact Below.refl _ _ | assumption | refine Below.drew ?_ | refine below_drewN ?_ _ | refine Below.alloc ?_ (by simp <;> omega) _))⟩
end Go.Proofs.YtgklopgeimjgiaaGreatDoor
