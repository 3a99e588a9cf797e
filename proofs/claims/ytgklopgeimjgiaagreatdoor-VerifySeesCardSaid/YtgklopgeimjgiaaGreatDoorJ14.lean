/- Several texts in one: see each part's head. -/
import Derived.Test.YtgklopgeimjgiaaGreatDoorJ5
import Derived.Lib.AppendStr
import Derived.Test.YtgklopgeimjgiaaGreatDoorJ9
import Derived.Test.YtgklopgeimjgiaaGreatDoorJ2
import Derived.Test.YtgklopgeimjgiaaGreatDoorJ11
/- A law for a region that draws its order and holds two appends in a row (the first may come anywhere among the others; the second, and what stores its value, come last): each operation is run once. -/
namespace Go.Proofs.YtgklopgeimjgiaaGreatDoor
open Go.RowKit

def Steps2 (P : Program) (ops : Array Oper) (Q : Exit → Act → World → Prop) (mask : List Bool) (L : List Value) (df : List Deferred) (ps : List Known) (dst : Nat → Nat) (a : Nat) (J V0 : World → Prop) (V1 : Value → World → Prop) (T : World → World → Prop) : Nat → List Oper → Prop
  | _, [] => True
  | i, o :: os => (if i = a then ∀ x w, J w → V0 w → StepGoal ps dst w (TurnBody P ops Q mask L df (fun v w' => T w w' ∧ V1 v w') w (dst i) o) (depsOf o) x
      else ∀ x w, J w → StepGoal ps dst w (StepBody P ops Q mask L df (ps.getD i kAny) w (dst i) o) (depsOf o) x) ∧ Steps2 P ops Q mask L df ps dst a J V0 V1 T (i + 1) os
theorem Steps2.at_ {P : Program} {ops : Array Oper} {Q : Exit → Act → World → Prop} {mask : List Bool} {L : List Value} {df : List Deferred} {ps : List Known} {dst : Nat → Nat} {a : Nat} {J V0 : World → Prop} {V1 : Value → World → Prop} {T : World → World → Prop} :
    ∀ (os : List Oper) (n i : Nat) (o : Oper), Steps2 P ops Q mask L df ps dst a J V0 V1 T n os → os[i]? = some o → (if n + i = a then ∀ x w, J w → V0 w → StepGoal ps dst w (TurnBody P ops Q mask L df (fun v w' => T w w' ∧ V1 v w') w (dst (n + i)) o) (depsOf o) x
      else ∀ x w, J w → StepGoal ps dst w (StepBody P ops Q mask L df (ps.getD (n + i) kAny) w (dst (n + i)) o) (depsOf o) x)
  | [], _, _, _, _, h => by simp at h
  | o' :: os, n, 0, o, hs, h => by
    simp only [List.getElem?_cons_zero, Option.some.injEq] at h
    subst h
    exact hs.1
  | o' :: os, n, i + 1, o, hs, h => by
    have := Steps2.at_ os (n + 1) i o hs.2 (by simpa using h)
    rw [show n + 1 + i = n + (i + 1) by omega] at this
    exact this
end Go.Proofs.YtgklopgeimjgiaaGreatDoor

/- schema.Put. -/
namespace Go.Proofs.YtgklopgeimjgiaaGreatDoor
open Go.RowKit

def obl (v : Value) (W : World) : Prop := ∀ g, v.ownBlock = some g → g < W.heap.size
theorem obl_own {w : World} {base : Nat} {e : TypeId} {size n : Nat} {v : Value} {xs : List Value} (h : w.ownsRow base e size v n xs) : obl v w := by
  intro g hg
  rcases h.2 with ⟨rfl, _⟩ | ⟨g', cap, cur, rfl, _, hh, _⟩
  · cases hg
  · simp only [Value.ownBlock, Option.some.injEq] at hg
    subst hg
    rcases Nat.lt_or_ge g' w.heap.size with h' | h'
    · exact h'
    · rw [Array.getElem?_eq_none h'] at hh; cases hh
end Go.Proofs.YtgklopgeimjgiaaGreatDoor

/- schema.Get's two closures: the next byte, the next name. -/
namespace Go.Proofs.YtgklopgeimjgiaaGreatDoor
open Go.RowKit

/-- What a reading step does to memory: the rest and the mark 'bad' turn, all else stays. -/
structure Rds (rb bb : Nat) (w w' : World) (s : ByteArray) (bd : Bool) : Prop where
  os : w'.os = w.os
  tape : w'.tape = w.tape
  output : w'.output = w.output
  size : w.heap.size ≤ w'.heap.size
  block : ∀ c, c < w.heap.size → c ≠ rb → c ≠ bb → w'.heap[c]? = w.heap[c]?
  r : Blk w' rb #[.string s] 9
  b : Blk w' bb #[.bool bd] 4
theorem Rds.blk {rb bb : Nat} {w w' : World} {s : ByteArray} {bd : Bool} (h : Rds rb bb w w' s bd) {x : Nat} {cs : Array Value} {t : TypeId} (hx : Blk w x cs t) (h1 : x ≠ rb) (h2 : x ≠ bb) : Blk w' x cs t := (h.block x hx.lt h1 h2).trans hx
theorem Rds.own {rb bb : Nat} {w w' : World} {s s0 : ByteArray} {bd bd0 : Bool} (h : Rds rb bb w w' s bd) (hr : Blk w rb #[.string s0] 9) (hb : Blk w bb #[.bool bd0] 4) {base : Nat} {e : TypeId} {size n : Nat} {v : Value} {xs : List Value}
    (ho : w.ownsRow base e size v n xs) (h1 : e ≠ 9) (h2 : e ≠ 4) : w'.ownsRow base e size v n xs := by
  have n1 := own_ne ho hr h1
  have n2 := own_ne ho hb h2
  refine ⟨ho.1, ?_⟩
  rcases ho.2 with h0 | ⟨g, cap, cur, hv, hbg, hh, h4⟩
  · exact .inl h0
  · subst hv
    have hlt : g < w.heap.size := by
      rcases Nat.lt_or_ge g w.heap.size with h' | h'
      · exact h'
      · rw [Array.getElem?_eq_none h'] at hh; cases hh
    refine .inr ⟨g, cap, cur, rfl, hbg, (h.block g hlt ?_ ?_).trans hh, h4⟩
    · intro e; apply n1; rw [e]; rfl
    · intro e; apply n2; rw [e]; rfl
theorem Rds.below {rb bb : Nat} {w w' : World} {s : ByteArray} {bd : Bool} (h : Rds rb bb w w' s bd) {B : Nat} (h0 : B ≤ w.heap.size) (h1 : B ≤ rb) (h2 : B ≤ bb) : Below B w w' :=
  ⟨h.os, h.tape, h.output, h.size, fun c hc => h.block c (by omega) (by omega) (by omega)⟩
theorem Rds.of_below {rb bb : Nat} {w w' : World} {s : ByteArray} {bd : Bool} (hb : Below w.heap.size w w') (h1 : Blk w rb #[.string s] 9) (h2 : Blk w bb #[.bool bd] 4) : Rds rb bb w w' s bd :=
  ⟨hb.os, hb.tape, hb.output, hb.size, fun c hc _ _ => hb.block c hc, h1.ext hb, h2.ext hb⟩
theorem Rds.trans {rb bb : Nat} {w w1 w2 : World} {s1 s2 : ByteArray} {b1 b2 : Bool} (h : Rds rb bb w w1 s1 b1) (k : Rds rb bb w1 w2 s2 b2) : Rds rb bb w w2 s2 b2 :=
  ⟨k.os.trans h.os, k.tape.trans h.tape, k.output.trans h.output, Nat.le_trans h.size k.size, fun c hc h1 h2 => (k.block c (Nat.lt_of_lt_of_le hc h.size) h1 h2).trans (h.block c hc h1 h2), k.r, k.b⟩
end Go.Proofs.YtgklopgeimjgiaaGreatDoor

/- What a reader of schemas knows while it reads; rows of tables of its own. Plain laws for schema.Get and the reference's Get. -/
namespace Go.Proofs.YtgklopgeimjgiaaGreatDoor
open Go.RowKit

def ccells (l : List Co) : List Value := l.flatMap fun c => [Value.string c.nm, .int .u8 c.k, .bool c.nl]
def tcells (l : List Ta) : List Value := l.flatMap fun t => [Value.string t.nm, .slice t.A t.cs.length t.c, .int .i64 t.key, .int .i64 t.ref, .int .i64 t.par]
theorem flat_get {α : Type} (f : α → List Value) (m : Nat) (hf : ∀ x, (f x).length = m) : ∀ (l : List α) (i q : Nat) (x : α), l[i]? = some x → q < m → (l.flatMap f)[i * m + q]? = (f x)[q]?
  | [], i, q, x, h, _ => by simp at h
  | y :: l, 0, q, x, h, hq => by
    have e : y = x := by simpa using h
    subst e
    rw [List.flatMap_cons, Nat.zero_mul, Nat.zero_add, List.getElem?_append_left (by rw [hf]; exact hq)]
  | y :: l, i + 1, q, x, h, hq => by
    rw [List.flatMap_cons, List.getElem?_append_right (by rw [hf, Nat.succ_mul]; omega), hf]
    have := flat_get f m hf l i q x (by simpa using h) hq
    rw [← this]
    congr 1
    rw [Nat.succ_mul]
    omega
theorem addr_addS (g i : Nat) : (⟨g, 0, none⟩ : Addr).add i = ⟨g, 0 + i, none⟩ := by
  unfold Addr.add
  split
  · next h0 => subst h0; rfl
  · simp
theorem flat_length {α : Type} (f : α → List Value) (m : Nat) (hf : ∀ x, (f x).length = m) (l : List α) : (l.flatMap f).length = l.length * m := by
  induction l with
  | nil => simp
  | cons x l ih => rw [List.flatMap_cons, List.length_append, hf, ih, List.length_cons, Nat.succ_mul]; omega
theorem CRow.of_own {w : World} {base n c : Nat} {e : TypeId} {A : Option Addr} {l : List Co} (hw : ∀ c ∈ l, c.wf) (hlen : l.length ≤ 5864062014805) (hn : n = l.length)
    (h : w.ownsRow base e 3 (.slice A n c) n (ccells l)) : CRow w A l := by
  refine ⟨hw, hlen, fun hl => ?_⟩
  have hpos : 0 < n := by rw [hn]; exact List.length_pos_iff.2 hl
  obtain ⟨g, cap, hv, _, hlt⟩ := h.form hpos
  have hA : A = some ⟨g, 0, none⟩ := by injection hv
  subst hA
  refine ⟨g, 0, rfl, hlt, fun i v hi => ?_⟩
  have hc := h.cells (g := g) rfl
  have k := fun q hq u hu => hc (i * 3 + q) u ((flat_get (fun c : Co => [Value.string c.nm, .int .u8 c.k, .bool c.nl]) 3 (fun _ => rfl) l i q v hi hq).trans hu)
  have k0 := k 0 (by omega) _ rfl
  have k1 := k 1 (by omega) _ rfl
  have k2 := k 2 (by omega) _ rfl
  rw [addr_addS] at k0 k1 k2
  exact ⟨k0, k1, k2⟩
theorem TRow.of_own {w : World} {base n c : Nat} {e : TypeId} {A : Option Addr} {l : List Ta} (hw : ∀ t ∈ l, t.wf ∧ CRow w t.A t.cs) (hlen : l.length ≤ 2199023255552) (hn : n = l.length)
    (h : w.ownsRow base e 5 (.slice A n c) n (tcells l)) : TRow w A c l := by
  refine ⟨hw, hlen, ?_, fun hl => ?_⟩
  · rcases h.2 with ⟨h1, _⟩ | ⟨g, cap, cur, h1, _, _, h2, _⟩
    · injection h1 with _ h2 _
      rw [← hn, h2]
      exact Nat.zero_le _
    · injection h1 with _ _ h3
      rw [h3, ← hn]
      exact h2
  · have hpos : 0 < n := by rw [hn]; exact List.length_pos_iff.2 hl
    obtain ⟨g, cap, hv, _, hlt⟩ := h.form hpos
    have hA : A = some ⟨g, 0, none⟩ := by injection hv
    subst hA
    refine ⟨g, 0, rfl, hlt, fun i v hi => ?_⟩
    have hc := h.cells (g := g) rfl
    have k := fun q hq u hu => hc (i * 5 + q) u ((flat_get (fun t : Ta => [Value.string t.nm, .slice t.A t.cs.length t.c, .int .i64 t.key, .int .i64 t.ref, .int .i64 t.par]) 5 (fun _ => rfl) l i q v hi hq).trans hu)
    have k0 := k 0 (by omega) _ rfl
    have k1 := k 1 (by omega) _ rfl
    have k2 := k 2 (by omega) _ rfl
    have k3 := k 3 (by omega) _ rfl
    have k4 := k 4 (by omega) _ rfl
    rw [addr_addS] at k0 k1 k2 k3 k4
    exact ⟨k0, k1, k2, k3, k4⟩
/-- A table of the reader's own, its columns' row ahead of block B. -/
def TOk (B : Nat) (t : Ta) (w : World) : Prop := t.wf ∧ (∀ c ∈ t.cs, c.wf) ∧ t.cs.length ≤ 60000 ∧ (∀ g, (Value.slice t.A t.cs.length t.c).ownBlock = some g → g < B) ∧ ∃ base, w.ownsRow base 86 3 (.slice t.A t.cs.length t.c) t.cs.length (ccells t.cs)
theorem own_low {w w' : World} {B base : Nat} {e : TypeId} {size n : Nat} {v : Value} {xs : List Value} (h : w.ownsRow base e size v n xs) (hb : Below B w w') (hv : ∀ g, v.ownBlock = some g → g < B) : w'.ownsRow base e size v n xs := by
  refine ⟨h.1, ?_⟩
  rcases h.2 with h0 | ⟨g, cap, cur, rfl, hbg, hh, h4⟩
  · exact .inl h0
  · exact .inr ⟨g, cap, cur, rfl, hbg, (hb.block g (hv g rfl)).trans hh, h4⟩
theorem blk_low {w w' : World} {B x : Nat} {cs : Array Value} {t : TypeId} (h : Blk w x cs t) (hb : Below B w w') (hx : x < B) : Blk w' x cs t := (hb.block x hx).trans h
theorem TOk.low {B : Nat} {t : Ta} {w w' : World} (h : TOk B t w) (hb : Below B w w') : TOk B t w' := by
  obtain ⟨h1, h2, h3, h4, base, h5⟩ := h
  exact ⟨h1, h2, h3, h4, base, own_low h5 hb h4⟩
theorem TOk.rd {B rb bb : Nat} {t : Ta} {w w' : World} {s s0 : ByteArray} {bd bd0 : Bool} (h : TOk B t w) (k : Rds rb bb w w' s bd) (hr : Blk w rb #[.string s0] 9) (hb : Blk w bb #[.bool bd0] 4) : TOk B t w' := by
  obtain ⟨h1, h2, h3, h4, base, h5⟩ := h
  exact ⟨h1, h2, h3, h4, base, k.own hr hb h5 (by decide) (by decide)⟩
theorem TOk.mono {B B' : Nat} {t : Ta} {w : World} (h : TOk B t w) (hB : B ≤ B') : TOk B' t w := by
  obtain ⟨h1, h2, h3, h4, h5⟩ := h
  exact ⟨h1, h2, h3, fun g hg => Nat.lt_of_lt_of_le (h4 g hg) hB, h5⟩
theorem TOk.crow {B : Nat} {t : Ta} {w : World} (h : TOk B t w) : t.wf ∧ CRow w t.A t.cs := by
  obtain ⟨h1, h2, h3, _, base, h5⟩ := h
  exact ⟨h1, CRow.of_own h2 (by omega) rfl h5⟩
/-- What lies in memory ahead of block B: the answer's place r0, the schema read so far at sb. -/
def GI (w0 : World) (r0 sb B : Nat) (A : Option Addr) (c : Nat) (T : List Ta) (w : World) : Prop :=
  (w0.heap.size ≤ r0 ∧ w0.heap.size ≤ sb ∧ r0 < B ∧ sb < B ∧ r0 ≠ sb ∧ T.length ≤ 255) ∧ Blk w r0 #[.slice none 0 0] 24 ∧ Blk w sb #[.slice A T.length c] 24 ∧ w.ownsRow w0.heap.size 46 5 (.slice A T.length c) T.length (tcells T) ∧ (∀ g, (Value.slice A T.length c).ownBlock = some g → g < B) ∧ (∀ t ∈ T, TOk B t w) ∧ Below w0.heap.size w0 w
theorem GI.low {w0 : World} {r0 sb B : Nat} {A : Option Addr} {c : Nat} {T : List Ta} {w w' : World} (h : GI w0 r0 sb B A c T w) (hb : Below B w w') : GI w0 r0 sb B A c T w' := by
  obtain ⟨h0, h1, h2, h3, h4, h5, h6⟩ := h
  exact ⟨h0, blk_low h1 hb h0.2.2.1, blk_low h2 hb h0.2.2.2.1, own_low h3 hb h4, h4, fun t ht => (h5 t ht).low hb, h6.trans (hb.mono (by omega))⟩
theorem blk_ne {w : World} {x y : Nat} {cs ds : Array Value} {t u : TypeId} (h : Blk w x cs t) (k : Blk w y ds u) (hne : t ≠ u) : x ≠ y := by
  intro e
  subst e
  unfold Blk at h k
  rw [h] at k
  simp only [Option.some.injEq, Obj.cells.injEq] at k
  exact hne k.2.1
theorem GI.rd {w0 : World} {r0 sb B rb bb : Nat} {A : Option Addr} {c : Nat} {T : List Ta} {w w' : World} {s s0 : ByteArray} {bd bd0 : Bool} (h : GI w0 r0 sb B A c T w) (k : Rds rb bb w w' s bd) (hr : Blk w rb #[.string s0] 9) (hb : Blk w bb #[.bool bd0] 4)
    (hr0 : w0.heap.size ≤ rb) (hb0 : w0.heap.size ≤ bb) : GI w0 r0 sb B A c T w' := by
  obtain ⟨h0, h1, h2, h3, h4, h5, h6⟩ := h
  exact ⟨h0, k.blk h1 (blk_ne h1 hr (by decide)) (blk_ne h1 hb (by decide)), k.blk h2 (blk_ne h2 hr (by decide)) (blk_ne h2 hb (by decide)), k.own hr hb h3 (by decide) (by decide), h4, fun t ht => (h5 t ht).rd k hr hb, h6.trans (k.below h6.size hr0 hb0)⟩
theorem GI.mono {w0 : World} {r0 sb B B' : Nat} {A : Option Addr} {c : Nat} {T : List Ta} {w : World} (h : GI w0 r0 sb B A c T w) (hB : B ≤ B') : GI w0 r0 sb B' A c T w := by
  obtain ⟨h0, h1, h2, h3, h4, h5, h6⟩ := h
  exact ⟨by omega, h1, h2, h3, fun g hg => Nat.lt_of_lt_of_le (h4 g hg) hB, fun t ht => (h5 t ht).mono hB, h6⟩
theorem GI.trow {w0 : World} {r0 sb B : Nat} {A : Option Addr} {c : Nat} {T : List Ta} {w : World} (h : GI w0 r0 sb B A c T w) : TRow w A c T :=
  TRow.of_own (fun t ht => (h.2.2.2.2.2.1 t ht).crow) (by have := h.1.2.2.2.2.2; omega) rfl h.2.2.2.1

/-! Plain laws. -/
theorem tab_d {t u : Ta} (h : t.d = u.d) : t.nm = u.nm ∧ t.cs = u.cs ∧ t.key = u.key ∧ t.ref = u.ref ∧ t.par = u.par := by
  unfold Ta.d at h
  simpa using h
theorem map_d_take {s t : List Ta} (h : s.map Ta.d = t.map Ta.d) (k : Nat) : (s.take k).map Ta.d = (t.take k).map Ta.d := by rw [List.map_take, List.map_take, h]
theorem map_d_get {s t : List Ta} (h : s.map Ta.d = t.map Ta.d) {k : Nat} {x : Ta} (hk : s[k]? = some x) : ∃ y, t[k]? = some y ∧ x.d = y.d := by
  have h1 : (t.map Ta.d)[k]? = some x.d := by rw [← h, List.getElem?_map, hk]; rfl
  rw [List.getElem?_map] at h1
  cases hy : t[k]? with
  | none => rw [hy] at h1; cases h1
  | some y => rw [hy] at h1; exact ⟨y, rfl, (Option.some.inj h1).symm⟩
theorem depI_d {ds : List Int} {t u : Ta} (h : t.d = u.d) : depI ds t = depI ds u := by
  obtain ⟨_, _, _, h4, h5⟩ := tab_d h
  unfold depI rootB
  rw [h4, h5]
theorem deps_d : ∀ {s t : List Ta}, s.map Ta.d = t.map Ta.d → deps s = deps t := by
  have hf : ∀ (s t : List Ta) (ds : List Int), s.map Ta.d = t.map Ta.d → s.foldl (fun ds t => ds ++ [depI ds t]) ds = t.foldl (fun ds t => ds ++ [depI ds t]) ds := by
    intro s
    induction s with
    | nil => intro t ds h; cases t with
      | nil => rfl
      | cons y t => cases h
    | cons x s ih => intro t ds h; cases t with
      | nil => cases h
      | cons y t =>
        injection h with h1 h2
        rw [List.foldl_cons, List.foldl_cons, depI_d h1]
        exact ih t _ h2
  intro s t h
  exact hf s t [] h
theorem tabB_d {a a' : List Ta} {ds : List Int} {t u : Ta} (ha : a.map Ta.d = a'.map Ta.d) (h : t.d = u.d) : tabB a ds t = tabB a' ds u := by
  have hl : a.length = a'.length := by have := congrArg List.length ha; simpa using this
  obtain ⟨h1, h2, h3, h4, h5⟩ := tab_d h
  have hk : kinB a t = kinB a' u := by
    unfold kinB
    rw [h5]
    cases hx : a[u.par.toNat]? with
    | none =>
      have : a'[u.par.toNat]? = none := by rw [List.getElem?_eq_none_iff] at hx ⊢; omega
      rw [this]
    | some x =>
      obtain ⟨y, hy, hd⟩ := map_d_get ha hx
      obtain ⟨_, e2, e3, _, _⟩ := tab_d hd
      rw [hy]
      simp only
      rw [e2, e3, h2, h4]
  unfold tabB
  rw [depI_d h]
  have hc : colsB t = colsB u := by unfold colsB; rw [h2, h3]
  have hb : belB a t = belB a' u := by unfold belB rootB relB; rw [hk, hl, h2, h3, h4, h5]
  rw [hc, hb]
theorem schB_d {s t : List Ta} (h : s.map Ta.d = t.map Ta.d) : schB s = schB t := by
  have hl : s.length = t.length := by have := congrArg List.length h; simpa using this
  have hn : s.map (·.nm) = t.map (·.nm) := by
    have e : ∀ l : List Ta, l.map (·.nm) = (l.map Ta.d).map (·.1) := fun l => by rw [List.map_map]; rfl
    rw [e, e, h]
  have hp : preB s s.length = preB t t.length := by
    unfold preB
    rw [hl]
    apply List.all_congr rfl
    intro i
    cases hx : s[i]? with
    | none =>
      have : t[i]? = none := by rw [List.getElem?_eq_none_iff] at hx ⊢; omega
      rw [this]
    | some x =>
      obtain ⟨y, hy, hd⟩ := map_d_get h hx
      rw [hy]
      simp only
      rw [deps_d (map_d_take h i)]
      exact tabB_d (map_d_take h i) hd
  unfold schB
  rw [hl, hn, ← hl, hp, hl]
end Go.Proofs.YtgklopgeimjgiaaGreatDoor

/- schema.Get: which schema bytes are. -/
namespace Go.Proofs.YtgklopgeimjgiaaGreatDoor
open Go.RowKit

theorem info_col : (Tryz.prog.info? 86).map (fun i => (i.zero, i.size, i.bytes)) = some (some (.agg #[.string ⟨#[]⟩, .int .u8 0, .bool false]), 3, 24) := by kernel_rfl
theorem info_tab : (Tryz.prog.info? 46).map (fun i => (i.zero, i.size, i.bytes)) = some (some (.agg #[.string ⟨#[]⟩, .slice none 0 0, .int .i64 0, .int .i64 0, .int .i64 0]), 5, 64) := by kernel_rfl
theorem own_below_put {w : World} {b : Nat} {cs : Array Value} {t : TypeId} {base : Nat} {e : TypeId} {size n : Nat} {v : Value} {xs : List Value} (h : w.ownsRow base e size v n xs) (hb : Blk w b cs t) (hne : e ≠ t) (ds : Array Value) : (putBlk w b ds t).ownsRow base e size v n xs := by
  have e1 := putBlk_self hb
  have h' : (putBlk w b cs t).ownsRow base e size v n xs := by rw [e1]; exact h
  exact own_put h' hb.lt hne ds
theorem cells_blk5 {w : World} {b : Nat} {a0 a1 a2 a3 a4 : Value} {t : TypeId} (h : Blk w b #[a0, a1, a2, a3, a4] t) : ∀ j u, [a0, a1, a2, a3, a4][j]? = some u → w.cell? ((⟨b, 0, none⟩ : Addr).add j) = some u := by
  intro j u hu
  match j with
  | 0 => exact (h.cell 0).trans (by simpa using hu)
  | 1 => exact (h.cell 1).trans (by simpa using hu)
  | 2 => exact (h.cell 2).trans (by simpa using hu)
  | 3 => exact (h.cell 3).trans (by simpa using hu)
  | 4 => exact (h.cell 4).trans (by simpa using hu)
  | j + 5 => simp at hu
theorem GI.trow_put {w0 : World} {r0 sb B x : Nat} {A : Option Addr} {c : Nat} {T : List Ta} {w : World} {cs : Array Value} (h : GI w0 r0 sb B A c T w) (hx : Blk w x cs 24) (ds : Array Value) : TRow (putBlk w x ds 24) A c T :=
  TRow.of_own (fun t ht => by
    obtain ⟨h1, h2, h3, _, base, h5⟩ := h.2.2.2.2.2.1 t ht
    exact ⟨h1, CRow.of_own h2 (by omega) rfl (own_below_put h5 hx (by decide) ds)⟩) (by have := h.1.2.2.2.2.2; omega) rfl (own_below_put h.2.2.2.1 hx (by decide) ds)
end Go.Proofs.YtgklopgeimjgiaaGreatDoor
