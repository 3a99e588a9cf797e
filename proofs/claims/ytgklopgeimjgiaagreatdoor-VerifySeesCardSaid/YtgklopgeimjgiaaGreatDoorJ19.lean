/- Several texts in one: see each part's head. -/
import Derived.DeepKeys4
import Derived.Maps.OwnSet
import Derived.Test.YtgklopgeimjgiaaGreatDoorJ18
/- VerifySees: all but some blocks is kept (Chg); a schema of one's own (OwS); the map of rows by places (MapR); a state (RelR). -/
namespace Go.Proofs.YtgklopgeimjgiaaGreatDoor
open Go.RowKit

/-- Of the blocks that there were, none but these have turned. -/
structure Chg (S : List Nat) (w w' : World) : Prop where
  os : w'.os = w.os
  tape : w'.tape = w.tape
  output : w'.output = w.output
  size : w.heap.size ≤ w'.heap.size
  block : ∀ i, i < w.heap.size → i ∉ S → w'.heap[i]? = w.heap[i]?
theorem Chg.refl (S : List Nat) (w : World) : Chg S w w := ⟨rfl, rfl, rfl, Nat.le_refl _, fun _ _ _ => rfl⟩
theorem Chg.of_below {S : List Nat} {w w' : World} (h : Below w.heap.size w w') : Chg S w w' := ⟨h.os, h.tape, h.output, h.size, fun i hi _ => h.block i hi⟩
theorem Chg.of_grown {S : List Nat} {w w' : World} {b : Nat} (h : w.grownBy w' (some b)) (hb : b ∈ S) : Chg S w w' :=
  ⟨h.os, h.tape, h.output, h.size, fun i hi hn => h.block i hi (fun e => by cases e; exact hn hb)⟩
theorem Chg.trans {S T : List Nat} {a b c : World} (h : Chg S a b) (k : Chg T b c) (hT : ∀ i ∈ T, i ∈ S ∨ a.heap.size ≤ i) : Chg S a c :=
  ⟨k.os.trans h.os, k.tape.trans h.tape, k.output.trans h.output, Nat.le_trans h.size k.size, fun i hi hn =>
    (k.block i (Nat.lt_of_lt_of_le hi h.size) (fun hm => (hT i hm).elim hn (fun h => by omega))).trans (h.block i hi hn)⟩
theorem Chg.andBelow {S : List Nat} {a b c : World} (h : Chg S a b) (k : Below b.heap.size b c) : Chg S a c := h.trans (Chg.of_below (S := []) k) (by simp)
theorem Chg.below {S : List Nat} {w w' : World} (h : Chg S w w') {B : Nat} (hB : B ≤ w.heap.size) (hS : ∀ i ∈ S, B ≤ i) : Below B w w' :=
  ⟨h.os, h.tape, h.output, h.size, fun i hi => h.block i (by omega) (fun hm => by have := hS i hm; omega)⟩
theorem Chg.weak {S T : List Nat} {w w' : World} (h : Chg S w w') (hT : ∀ i ∈ S, i ∈ T ∨ w.heap.size ≤ i) : Chg T w w' :=
  ⟨h.os, h.tape, h.output, h.size, fun i hi hn => h.block i hi (fun hm => (hT i hm).elim hn (fun h => by omega))⟩
theorem Chg.put {S : List Nat} {a w : World} {b : Nat} (h : Chg S a w) (hb : b ∈ S ∨ a.heap.size ≤ b) (cs : Array Value) (t : TypeId) : Chg S a (putBlk w b cs t) := by
  refine ⟨h.os, h.tape, h.output, by rw [putBlk_size]; exact h.size, fun i hi hn => ?_⟩
  refine Eq.trans ?_ (h.block i hi hn)
  unfold putBlk
  simp only
  rw [Array.getElem?_setIfInBounds_ne (fun e => by subst e; exact hb.elim hn (fun h => by omega))]
theorem Blk.chg {S : List Nat} {w w' : World} {b : Nat} {cs : Array Value} {t : TypeId} (h : Blk w b cs t) (k : Chg S w w') (hn : b ∉ S) : Blk w' b cs t := (k.block b h.lt hn).trans h
theorem own_chg {S : List Nat} {w w' : World} {base : Nat} {e : TypeId} {size n : Nat} {v : Value} {xs : List Value} (h : w.ownsRow base e size v n xs) (k : Chg S w w') (hn : ∀ i ∈ S, v.ownBlock ≠ some i) : w'.ownsRow base e size v n xs := by
  refine ⟨h.1, ?_⟩
  rcases h.2 with h0 | ⟨g, cap, cur, rfl, hbg, hh, h4⟩
  · exact .inl h0
  · have hlt : g < w.heap.size := (Array.getElem?_eq_some_iff.1 hh).1
    exact .inr ⟨g, cap, cur, rfl, hbg, (k.block g hlt (fun hm => hn g hm rfl)).trans hh, h4⟩
/-- The blocks that turn are of other types than tables, columns, values. -/
def Oth (w : World) (S : List Nat) : Prop := ∀ i ∈ S, ∀ cs t, w.heap[i]? = some (.cells cs t (0, 0)) → t ≠ 46 ∧ t ≠ 86 ∧ t ≠ 49
theorem own_oth {S : List Nat} {w : World} {base : Nat} {e : TypeId} {size n : Nat} {v : Value} {xs : List Value} (h : w.ownsRow base e size v n xs) (ho : Oth w S) (he : e = 46 ∨ e = 86 ∨ e = 49) : ∀ i ∈ S, v.ownBlock ≠ some i := by
  intro i hi
  rcases h.2 with ⟨rfl, _⟩ | ⟨g, cap, cur, rfl, hbg, hh, h4⟩
  · simp [Value.ownBlock]
  · intro e1
    have e2 : g = i := by simpa [Value.ownBlock] using e1
    subst e2
    have := ho g hi cur e hh
    rcases he with rfl | rfl | rfl
    · exact this.1 rfl
    · exact this.2.1 rfl
    · exact this.2.2 rfl
/-- A schema of one's own. -/
structure OwS (w : World) (A : Option Addr) (c : Nat) (us : List Ta) : Prop where
  few : us.length ≤ 30
  row : ∃ base, w.ownsRow base 46 5 (.slice A us.length c) us.length (tcells us)
  tab : ∀ t ∈ us, t.wf ∧ (∀ c ∈ t.cs, c.wf) ∧ t.cs.length ≤ 600 ∧ ∃ base, w.ownsRow base 86 3 (.slice t.A t.cs.length t.c) t.cs.length (ccells t.cs)
theorem OwS.trow {w : World} {A : Option Addr} {c : Nat} {us : List Ta} (h : OwS w A c us) : TRow w A c us := by
  obtain ⟨base, h1⟩ := h.row
  refine TRow.of_own (fun t ht => ?_) (by have := h.few; omega) rfl h1
  obtain ⟨h1, h2, h3, base, h5⟩ := h.tab t ht
  exact ⟨h1, CRow.of_own h2 (by omega) rfl h5⟩
theorem OwS.chg {S : List Nat} {w w' : World} {A : Option Addr} {c : Nat} {us : List Ta} (h : OwS w A c us) (k : Chg S w w') (ho : Oth w S) : OwS w' A c us := by
  obtain ⟨base, h1⟩ := h.row
  refine ⟨h.few, ⟨base, own_chg h1 k (own_oth h1 ho (Or.inl rfl))⟩, fun t ht => ?_⟩
  obtain ⟨h1, h2, h3, base, h5⟩ := h.tab t ht
  exact ⟨h1, h2, h3, base, own_chg h5 k (own_oth h5 ho (Or.inr (Or.inl rfl)))⟩
theorem OwS.ext {w w' : World} {A : Option Addr} {c : Nat} {us : List Ta} (h : OwS w A c us) (hb : Below w.heap.size w w') : OwS w' A c us :=
  h.chg (Chg.of_below (S := []) hb) (fun i hi => by simp at hi)
/-- A row of values of one's own. -/
def RowO (w : World) (A : Option Addr) (c : Nat) (l : List V) : Prop := (∃ b, w.ownsRow b 49 4 (.slice A l.length c) l.length (rowCells l)) ∧ (A = none → c = 0) ∧ (∀ v ∈ l, v.wf) ∧ l.length ≤ 1000
theorem RowO.vrow {w : World} {A : Option Addr} {c : Nat} {l : List V} (h : RowO w A c l) : VRow w A l := by
  obtain ⟨⟨b, h1⟩, _, h3, h4⟩ := h
  exact (VRow.of_own h3 (by omega) h1).1
theorem RowO.chg {S : List Nat} {w w' : World} {A : Option Addr} {c : Nat} {l : List V} (h : RowO w A c l) (k : Chg S w w') (ho : Oth w S) : RowO w' A c l := by
  obtain ⟨⟨b, h1⟩, h2⟩ := h
  exact ⟨⟨b, own_chg h1 k (own_oth h1 ho (Or.inr (Or.inr rfl)))⟩, h2⟩
theorem RowO.ext {w w' : World} {A : Option Addr} {c : Nat} {l : List V} (h : RowO w A c l) (hb : Below w.heap.size w w') : RowO w' A c l := by
  obtain ⟨⟨b, h1⟩, h2⟩ := h
  exact ⟨⟨b, own_below h1 hb⟩, h2⟩
/-! Places as keys of maps. -/
/-- A struct of a number and a value. -/
def plc (t : Int) (v : V) : Value := .agg #[.int .i64 t, .int .u8 v.k, .int .i64 v.n, .int .u64 v.r, .string v.t]
def keyP (t : Int) (v : V) : Lit := .string (keyBytes [.int .i64 t, .int .u8 v.k, .int .i64 v.n, .int .u64 v.r, .string v.t.data.toList])
def okT (t : Int) : Prop := -9223372036854775808 ≤ t ∧ t ≤ 9223372036854775807
theorem laid_out : laidOutB Tryz.prog = true := by kernel_rfl
theorem law_place : Maps.Keyed Tryz.prog 101 := Maps.Keyed.of_law (deep_law_laid laid_out (m := 3) (by omega) (of_decide_eq_true (by kernel_rfl)) (by kernel_rfl) (by kernel_rfl))
theorem law_root : Maps.Keyed Tryz.prog 78 := Maps.Keyed.of_law (deep_law_laid laid_out (m := 3) (by omega) (of_decide_eq_true (by kernel_rfl)) (by kernel_rfl) (by kernel_rfl))
theorem cells_V : Tryz.prog.cellsOf 49 = 4 := by kernel_rfl
theorem cells_i : Tryz.prog.cellsOf 3 = 1 := by kernel_rfl
theorem cells_8 : Tryz.prog.cellsOf 5 = 1 := by kernel_rfl
theorem cells_6 : Tryz.prog.cellsOf 2 = 1 := by kernel_rfl
theorem cells_u : Tryz.prog.cellsOf 47 = 1 := by kernel_rfl
theorem cells_s : Tryz.prog.cellsOf 9 = 1 := by kernel_rfl
theorem cells_p : Tryz.prog.cellsOf 101 = 5 := by kernel_rfl
theorem cells_r : Tryz.prog.cellsOf 78 = 5 := by kernel_rfl
theorem ktype_p : Tryz.prog.keyType 101 = true := by kernel_rfl
theorem ktype_r : Tryz.prog.keyType 78 = true := by kernel_rfl
theorem types_n : ∃ n, Tryz.prog.types.size + 1 = n + 3 := ⟨Tryz.prog.types.size - 2, by have h : 2 ≤ Tryz.prog.types.size := of_decide_eq_true (by kernel_rfl); omega⟩
theorem wf_lit {q : IntKind} {k a b : Int} (ha : q.min = a) (hb : q.max = b) (h : a ≤ k ∧ k ≤ b) : (Lit.int q k).wf = true := by simp [Lit.wf, ha, hb, h.1, h.2]
theorem lits_V (n : Nat) (v : V) (hv : v.wf) : Tryz.prog.keyLits (n + 2) 49 [.int .u8 v.k, .int .i64 v.n, .int .u64 v.r, .string v.t] = some [.int .u8 v.k, .int .i64 v.n, .int .u64 v.r, .string v.t.data.toList] := by
  have h1 : (Lit.int .u8 v.k).wf = true := wf_lit (by decide) (by decide) (⟨hv.1, hv.2.1⟩ : 0 ≤ v.k ∧ v.k ≤ 255)
  have h2 : (Lit.int .i64 v.n).wf = true := wf_lit (by decide) (by decide) (⟨hv.2.2.1, hv.2.2.2.1⟩ : -9223372036854775808 ≤ v.n ∧ v.n ≤ 9223372036854775807)
  have h3 : (Lit.int .u64 v.r).wf = true := wf_lit (by decide) (by decide) (⟨hv.2.2.2.2.1, hv.2.2.2.2.2.1⟩ : 0 ≤ v.r ∧ v.r ≤ 18446744073709551615)
  have h4 : v.t.size ≤ maxLen := by have := hv.2.2.2.2.2.2; unfold maxLen; omega
  simp [Program.keyLits, Tryz.underlying49, Tryz.underlying5, Tryz.underlying2, Tryz.underlying47, Tryz.underlying9, cells_V, cells_8, cells_6, cells_u, cells_s, h1, h2, h3, h4]
theorem key_place (t : Int) (v : V) (ht : okT t) (hv : v.wf) : keyOf Tryz.prog 101 (plc t v) = some (keyP t v) := by
  obtain ⟨n, hn⟩ := types_n
  have h1 : (Lit.int .i64 t).wf = true := wf_lit (by decide) (by decide) (ht : -9223372036854775808 ≤ t ∧ t ≤ 9223372036854775807)
  have hl := lits_V n v hv
  unfold keyOf
  rw [hn]
  simp [Tryz.underlying101, ktype_p, plc, Value.formed, cells_p, Value.cells]
  refine ⟨[.int .i64 t, .int .u8 v.k, .int .i64 v.n, .int .u64 v.r, .string v.t.data.toList], ?_, rfl⟩
  have hi : Tryz.prog.keyLits (n + 2) 3 [.int .i64 t] = some [.int .i64 t] := by simp [Program.keyLits, Tryz.underlying3, h1]
  unfold Program.keyLits
  simp [Tryz.underlying101, cells_p, cells_V, cells_i, hl, hi]
theorem key_root (t : Int) (v : V) (ht : okT t) (hv : v.wf) : keyOf Tryz.prog 78 (plc t v) = some (keyP t v) := by
  obtain ⟨n, hn⟩ := types_n
  have h1 : (Lit.int .i64 t).wf = true := wf_lit (by decide) (by decide) (ht : -9223372036854775808 ≤ t ∧ t ≤ 9223372036854775807)
  have hl := lits_V n v hv
  unfold keyOf
  rw [hn]
  simp [Tryz.underlying78, ktype_r, plc, Value.formed, cells_r, Value.cells]
  refine ⟨[.int .i64 t, .int .u8 v.k, .int .i64 v.n, .int .u64 v.r, .string v.t.data.toList], ?_, rfl⟩
  have hi : Tryz.prog.keyLits (n + 2) 3 [.int .i64 t] = some [.int .i64 t] := by simp [Program.keyLits, Tryz.underlying3, h1]
  unfold Program.keyLits
  simp [Tryz.underlying78, cells_r, cells_V, cells_i, hl, hi]
theorem plc_inj {t u : Int} {v x : V} (h : plc t v = plc u x) : t = u ∧ v = x := by
  unfold plc at h
  simp only [Value.agg.injEq, Array.mk.injEq, List.cons.injEq, Value.int.injEq, true_and, Value.string.injEq, and_true] at h
  obtain ⟨h1, h2, h3, h4, h5⟩ := h
  cases v; cases x
  simp only at h2 h3 h4 h5
  subst h2; subst h3; subst h4; subst h5
  exact ⟨h1, rfl⟩
theorem keyP_inj {t u : Int} {v x : V} (ht : okT t) (hv : v.wf) (hu : okT u) (hx : x.wf) (h : keyP t v = keyP u x) : t = u ∧ v = x :=
  plc_inj (law_place.inj (key_place t v ht hv) (by rw [h]; exact key_place u x hu hx))
theorem keyP_lit (t : Int) (v : V) : WideAt.IsKeyLit (keyP t v) := trivial
theorem keyP_self (t : Int) (v : V) : (keyP t v).sameKey (keyP t v) = true := WideAt.sameKey_self (keyP_lit t v)
end Go.Proofs.YtgklopgeimjgiaaGreatDoor

/- VerifySees: what a sort leaves of a row of one's own (own_sorted); roots sorted (sortR_any). -/
namespace Go.Proofs.YtgklopgeimjgiaaGreatDoor
open Go.RowKit
open Go.Sort (SWO)

theorem own_sorted {w : World} {base e sz n c g m : Nat} {xs : List Value} {F : Array Value} {os : Array Obj} (h : w.ownsRow base e sz (.slice (some ⟨g, 0, none⟩) n c) n xs) (hn : 0 < n) (hF : F.size = n * sz) :
    (Go.Sort.grow (Go.Sort.putRow id (Go.Sort.ahead w m) g 0 F) os).ownsRow base e sz (.slice (some ⟨g, 0, none⟩) n c) n F.toList ∧ Chg [g] w (Go.Sort.grow (Go.Sort.putRow id (Go.Sort.ahead w m) g 0 F) os) := by
  obtain ⟨hl, ⟨h1, h1'⟩ | ⟨q, cap, cur, h1, h2, h3, h4, h5, h6, h7⟩⟩ := h
  · omega
  simp only [Value.slice.injEq, Option.some.injEq, Addr.mk.injEq, true_and, and_true] at h1
  obtain ⟨rfl, rfl⟩ := h1
  have hg : g < w.heap.size := (Array.getElem?_eq_some_iff.1 h3).1
  have hsz : n * sz ≤ cur.size := by rw [h6]; exact Nat.mul_le_mul_right _ h4
  have hb : (Go.Sort.grow (Go.Sort.putRow id (Go.Sort.ahead w m) g 0 F) os).heap[g]? = some (.cells (Go.Sort.putCells id 0 F cur) e (0, 0)) := by
    unfold Go.Sort.grow Go.Sort.putRow Go.Sort.mapBlock Go.Sort.ahead
    simp only
    rw [Array.getElem?_append_left (by simpa using hg), Array.getElem?_modify, if_pos rfl, h3]
    rfl
  refine ⟨⟨by rw [Array.length_toList]; exact hF, Or.inr ⟨g, c, _, rfl, h2, hb, h4, h5, by unfold Go.Sort.putCells; simpa using h6, ?_⟩⟩, rfl, rfl, rfl, ?_, ?_⟩
  · apply List.ext_getElem?
    intro i
    rw [List.getElem?_take]
    by_cases hi : i < n * sz
    · rw [if_pos hi, Array.getElem?_toList, Array.getElem?_toList]
      unfold Go.Sort.putCells
      rw [Array.getElem?_mapIdx, Array.getElem?_eq_getElem (by omega), Array.getElem?_eq_getElem (by omega)]
      simp only [Option.map_some, Nat.zero_le, Nat.zero_add, true_and, Nat.sub_zero, id]
      rw [if_pos (by omega), getElem!_pos F i (by omega)]
    · rw [if_neg hi, List.getElem?_eq_none (by rw [Array.length_toList]; omega)]
  · unfold Go.Sort.grow Go.Sort.putRow Go.Sort.mapBlock Go.Sort.ahead
    simp
  · intro i hi hne
    rw [List.mem_singleton] at hne
    unfold Go.Sort.grow Go.Sort.putRow Go.Sort.mapBlock Go.Sort.ahead
    simp only
    rw [Array.getElem?_append_left (by simpa using hi), Array.getElem?_modify, if_neg (fun e => hne e.symm)]
theorem holds_own {w : World} {base e sz n c g : Nat} {xs : List Value} (h : w.ownsRow base e sz (.slice (some ⟨g, 0, none⟩) n c) n xs) (hn : 0 < n) {F : Array Value} (hF : F.toList = xs) : Go.Sort.Holds id w g 0 F := by
  intro j hj
  have hc := h.cells (g := g) rfl j F[j] (by rw [← hF, Array.getElem?_toList]; exact Array.getElem?_eq_getElem hj)
  have ea : (⟨g, 0, none⟩ : Addr).add j = ⟨g, 0 + j, none⟩ := by
    unfold Addr.add; split
    · next h0 => subst h0; rfl
    · rfl
  rw [ea] at hc
  refine ⟨by rw [hc, getElem!_pos F j hj]; rfl, ?_⟩
  obtain ⟨hl, ⟨h1, h1'⟩ | ⟨q, cap, cur, h1, h2, h3, h4, h5, h6, h7⟩⟩ := h
  · omega
  simp only [Value.slice.injEq, Option.some.injEq, Addr.mk.injEq, true_and, and_true] at h1
  obtain ⟨rfl, rfl⟩ := h1
  exact Blk.frozen (h3 : Blk w g cur e) _
theorem flat_list {α : Type} [Inhabited α] (enc : α → List Value) (k : Nat) (hk : ∀ x, (enc x).length = k) (d : Array α) : (Go.Sort.flatK enc k d).toList = d.toList.flatMap enc := by
  have key : ∀ (l : List α), (Go.Sort.flatK enc k l.toArray).toList = l.flatMap enc := by
    intro l
    apply List.ext_getElem?
    intro t
    by_cases ht : t < l.length * k
    · have hk0 : 0 < k := by
        rcases Nat.eq_zero_or_pos k with h | h
        · subst h; omega
        · exact h
      have hq : t / k < l.length := Nat.div_lt_of_lt_mul (by rw [Nat.mul_comm]; exact ht)
      have hr : t % k < k := Nat.mod_lt _ hk0
      have e : t = t / k * k + t % k := by have := Nat.div_add_mod t k; rw [Nat.mul_comm] at this; exact this.symm
      have h1 := flat_get enc k hk l (t / k) (t % k) l[t / k] (List.getElem?_eq_getElem hq) hr
      rw [← e] at h1
      rw [h1, Array.getElem?_toList, Array.getElem?_eq_getElem (by simpa using ht)]
      have h2 := Go.Sort.get_flatK enc k l.toArray t (by simpa using ht)
      rw [getElem!_pos _ _ (by simpa using ht)] at h2
      rw [h2, getElem!_pos l.toArray (t / k) (by simpa using hq), List.getElem_toArray, getElem!_pos _ _ (by rw [hk]; exact hr)]
      exact (List.getElem?_eq_getElem _).symm
    · rw [List.getElem?_eq_none (by simpa using Nat.le_of_not_lt ht), List.getElem?_eq_none (by rw [flat_length enc k hk]; omega)]
  obtain ⟨l⟩ := d
  exact key l
theorem perm_of {α : Type} [Inhabited α] {d d' : Array α} (h : Go.Sort.PermIn 0 d.size d d') : d'.toList.Perm d.toList := by
  obtain ⟨h1, _, h2⟩ := h
  have e1 : d'.extract 0 d.size = d' := by rw [← h1]; exact Array.extract_size
  have e2 : d.extract 0 d.size = d := Array.extract_size
  rwa [e1, e2] at h2
theorem pair_of {α : Type} [Inhabited α] {lt : α → α → Bool} {d : Array α} {n : Nat} (hn : n = d.size) (h : Go.Sort.SortedIn lt 0 n d) : d.toList.Pairwise fun a b => lt b a = false := by
  rw [List.pairwise_iff_getElem]
  intro i j hi hj hij
  have hi' : i < d.size := by simpa using hi
  have hj' : j < d.size := by simpa using hj
  have := h i j (Nat.zero_le _) hij (by omega)
  rw [getElem!_pos d i hi', getElem!_pos d j hj'] at this
  simpa using this
/-- A root that may be sorted. -/
abbrev Rt := { p : Int × V // p.2.wf }
theorem zV_wf : zV.wf := by unfold V.wf zV; decide
instance : Inhabited Rt := ⟨⟨(0, zV), zV_wf⟩⟩
def rtC (p : Int × V) : List Value := [.int .i64 p.1, .int .u8 p.2.k, .int .i64 p.2.n, .int .u64 p.2.r, .string p.2.t]
def rcells (l : List (Int × V)) : List Value := l.flatMap rtC
theorem agg_root (w : World) : (isAgg 78).run Tryz.prog w = .ok true w := by kernel_rfl
theorem size_root (w : World) : (Go.sizeOf 78).run Tryz.prog w = .ok 5 w := by kernel_rfl
def SortP (g n c base : Nat) (rs : List (Int × V)) (w : World) (q : Ending) (w' : World) : Prop :=
  q = .returned (.tuple #[]) ∧ Chg [g] w w' ∧ ∃ rs', rs'.Perm rs ∧ rs'.Pairwise (fun a b => pLI b a = false) ∧ w'.ownsRow base 78 5 (.slice (some ⟨g, 0, none⟩) n c) n (rcells rs')
theorem sortR_any (rs : List (Int × V)) (hw : ∀ p ∈ rs, p.2.wf) (g n c base : Nat) (w : World) (hn : 0 < n) (hl : rs.length = n) (hs : n < 1000000) (ho : w.ownsRow base 78 5 (.slice (some ⟨g, 0, none⟩) n c) n (rcells rs)) :
    Calls Tryz.prog 55 #[.slice (some ⟨g, 0, none⟩) n c, .func (.func 33) #[] #[]] w (SortP g n c base rs w) := by
  obtain ⟨d, hd⟩ : ∃ d : Array Rt, d.toList.map Subtype.val = rs := ⟨(rs.attach.map fun p => ⟨p.1, hw p.1 p.2⟩).toArray, by
    show List.map _ (List.map _ rs.attach) = rs
    rw [List.map_map]
    exact List.attach_map_subtype_val rs⟩
  have hds : d.size = n := by rw [← hl, ← hd]; simp
  have hx : rcells rs = (Go.Sort.flatK (fun p : Rt => rtC p.1) 5 d).toList := by rw [flat_list _ 5 (fun _ => rfl), ← hd]; unfold rcells; rw [List.flatMap_map]
  have hH : Go.Sort.HoldsK (fun p : Rt => rtC p.1) 5 w g 0 d := holds_own ho hn hx.symm
  have hlt : g < w.heap.size := (ho.lt g rfl).2
  have hlt' : ∀ x y : Rt, ltOf (fun x y : Rt => ordF x.1 y.1) x y = pLI x.1 y.1 := fun x y => ordF_less x.1 y.1
  have hO : SWO (ltOf fun x y : Rt => ordF x.1 y.1) := by
    have e : ltOf (fun x y : Rt => ordF x.1 y.1) = fun x y => pLI x.1 y.1 := by funext x y; exact hlt' x y
    rw [e]
    exact swo_map pLI_swo Subtype.val
  have eg : ∀ args w, (callFunc 33 args).run Tryz.prog w = .ok (.enter 33 args) w := enters_of Tryz.func33 (by kernel_rfl) rfl
  have hcmp : CmpLays Tryz.prog 33 #[] (fun p : Rt => rtC p.1) 5 (fun x y : Rt => ordF x.1 y.1) g 0 d.size w := by
    intro m os dk hdk x y
    exact (order_any x.1 y.1 _ x.2 y.2).mono fun e w' ⟨h1, h2⟩ => ⟨h1, gw_grow h2⟩
  have hcon := AnyQ.slices_SortFunc Tryz.sortR 5 agg_root size_root (fun p : Rt => rtC p.1) (fun _ => rfl) (fun x v hv => by
    simp only [rtC, List.mem_cons, List.not_mem_nil, or_false] at hv
    rcases hv with rfl | rfl | rfl | rfl | rfl <;> rfl) (fun x y : Rt => ordF x.1 y.1) hO 33 #[] g 0 c d w eg hcmp hH hlt (by omega)
  change Calls Tryz.prog 55 _ _ _ at hcon
  rw [hds] at hcon
  refine hcon.mono ?_
  rintro q w' ⟨rfl, d', m, os, hp, hso, rfl⟩
  have hp' := perm_of (by rw [hds]; exact hp)
  have hd's : d'.size = n := hp.1.trans hds
  have h2 := own_sorted (m := m) (os := os) (F := Go.Sort.flatK (fun p : Rt => rtC p.1) 5 d') ho hn (by rw [Go.Sort.size_flatK, hd's])
  refine ⟨rfl, h2.2, d'.toList.map Subtype.val, by rw [← hd]; exact hp'.map _, ?_, ?_⟩
  · rw [List.pairwise_map]
    refine (pair_of hd's.symm hso).imp fun {a b} h => ?_
    rw [← hlt']; exact h
  · have h3 := h2.1
    rw [flat_list _ 5 (fun _ => rfl)] at h3
    unfold rcells
    rw [List.flatMap_map]
    exact h3
end Go.Proofs.YtgklopgeimjgiaaGreatDoor
