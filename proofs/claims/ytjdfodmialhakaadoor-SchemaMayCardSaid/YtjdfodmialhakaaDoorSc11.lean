/- What a reader of schemas knows while it reads; rows of tables of its own. Plain laws for schema.Get and the reference's Get. -/
import Derived.Test.YtjdfodmialhakaaDoorSc10
namespace Go.Proofs.YtjdfodmialhakaaDoor
open Go.RowKit

def ccells (l : List Co) : List Value := l.flatMap fun c => [Value.string c.nm, .int .u8 c.k, .bool c.nl]
def tcells (l : List Ta) : List Value := l.flatMap fun t => [Value.string t.nm, .slice t.A t.cs.length t.c, .int .i64 t.key, .int .i64 t.ref, .int .i64 t.par]
theorem flat_get {α : Type} (f : α → List Value) (m : Nat) (hf : ∀ x, (f x).length = m) : ∀ (l : List α) (i q : Nat) (x : α), l[i]? = some x → q < m → (l.flatMap f)[i * m + q]? = (f x)[q]?
  | [], i, q, x, h, _ => by simp at h
  | y :: l, 0, q, x, h, hq => by
    have e : y = x := by simpa using h
    subst e
    rw [List.flatMap_cons, Nat.zero_mul, Nat.zero_add, List.getElem?_append_left (by rw [hf]; exact hq)]
  | y :: l, i + 1, q, x, h, hq => by
    rw [List.flatMap_cons, List.getElem?_append_right (by rw [hf, Nat.succ_mul]; omega), hf]
    have := flat_get f m hf l i q x (by simpa using h) hq
    rw [← this]
    congr 1
    rw [Nat.succ_mul]
    omega
theorem addr_add (g i : Nat) : (⟨g, 0, none⟩ : Addr).add i = ⟨g, 0 + i, none⟩ := by
  unfold Addr.add
  split
  · next h0 => subst h0; rfl
  · simp
theorem flat_length {α : Type} (f : α → List Value) (m : Nat) (hf : ∀ x, (f x).length = m) (l : List α) : (l.flatMap f).length = l.length * m := by
  induction l with
  | nil => simp
  | cons x l ih => rw [List.flatMap_cons, List.length_append, hf, ih, List.length_cons, Nat.succ_mul]; omega
theorem CRow.of_own {w : World} {base n c : Nat} {e : TypeId} {A : Option Addr} {l : List Co} (hw : ∀ c ∈ l, c.wf) (hlen : l.length ≤ 5864062014805) (hn : n = l.length)
    (h : w.ownsRow base e 3 (.slice A n c) n (ccells l)) : CRow w A l := by
  refine ⟨hw, hlen, fun hl => ?_⟩
  have hpos : 0 < n := by rw [hn]; exact List.length_pos_iff.2 hl
  obtain ⟨g, cap, hv, _, hlt⟩ := h.form hpos
  have hA : A = some ⟨g, 0, none⟩ := by injection hv
  subst hA
  refine ⟨g, 0, rfl, hlt, fun i v hi => ?_⟩
  have hc := h.cells (g := g) rfl
  have k := fun q hq u hu => hc (i * 3 + q) u ((flat_get (fun c : Co => [Value.string c.nm, .int .u8 c.k, .bool c.nl]) 3 (fun _ => rfl) l i q v hi hq).trans hu)
  have k0 := k 0 (by omega) _ rfl
  have k1 := k 1 (by omega) _ rfl
  have k2 := k 2 (by omega) _ rfl
  rw [addr_add] at k0 k1 k2
  exact ⟨k0, k1, k2⟩
theorem TRow.of_own {w : World} {base n c : Nat} {e : TypeId} {A : Option Addr} {l : List Ta} (hw : ∀ t ∈ l, t.wf ∧ CRow w t.A t.cs) (hlen : l.length ≤ 2199023255552) (hn : n = l.length)
    (h : w.ownsRow base e 5 (.slice A n c) n (tcells l)) : TRow w A c l := by
  refine ⟨hw, hlen, ?_, fun hl => ?_⟩
  · rcases h.2 with ⟨h1, _⟩ | ⟨g, cap, cur, h1, _, _, h2, _⟩
    · injection h1 with _ h2 _
      rw [← hn, h2]
      exact Nat.zero_le _
    · injection h1 with _ _ h3
      rw [h3, ← hn]
      exact h2
  · have hpos : 0 < n := by rw [hn]; exact List.length_pos_iff.2 hl
    obtain ⟨g, cap, hv, _, hlt⟩ := h.form hpos
    have hA : A = some ⟨g, 0, none⟩ := by injection hv
    subst hA
    refine ⟨g, 0, rfl, hlt, fun i v hi => ?_⟩
    have hc := h.cells (g := g) rfl
    have k := fun q hq u hu => hc (i * 5 + q) u ((flat_get (fun t : Ta => [Value.string t.nm, .slice t.A t.cs.length t.c, .int .i64 t.key, .int .i64 t.ref, .int .i64 t.par]) 5 (fun _ => rfl) l i q v hi hq).trans hu)
    have k0 := k 0 (by omega) _ rfl
    have k1 := k 1 (by omega) _ rfl
    have k2 := k 2 (by omega) _ rfl
    have k3 := k 3 (by omega) _ rfl
    have k4 := k 4 (by omega) _ rfl
    rw [addr_add] at k0 k1 k2 k3 k4
    exact ⟨k0, k1, k2, k3, k4⟩
/-- A table of the reader's own, its columns' row ahead of block B. -/
def TOk (B : Nat) (t : Ta) (w : World) : Prop := t.wf ∧ (∀ c ∈ t.cs, c.wf) ∧ t.cs.length ≤ 60000 ∧ (∀ g, (Value.slice t.A t.cs.length t.c).ownBlock = some g → g < B) ∧ ∃ base, w.ownsRow base 180 3 (.slice t.A t.cs.length t.c) t.cs.length (ccells t.cs)
theorem own_low {w w' : World} {B base : Nat} {e : TypeId} {size n : Nat} {v : Value} {xs : List Value} (h : w.ownsRow base e size v n xs) (hb : Below B w w') (hv : ∀ g, v.ownBlock = some g → g < B) : w'.ownsRow base e size v n xs := by
  refine ⟨h.1, ?_⟩
  rcases h.2 with h0 | ⟨g, cap, cur, rfl, hbg, hh, h4⟩
  · exact .inl h0
  · exact .inr ⟨g, cap, cur, rfl, hbg, (hb.block g (hv g rfl)).trans hh, h4⟩
theorem blk_low {w w' : World} {B x : Nat} {cs : Array Value} {t : TypeId} (h : Blk w x cs t) (hb : Below B w w') (hx : x < B) : Blk w' x cs t := (hb.block x hx).trans h
theorem TOk.low {B : Nat} {t : Ta} {w w' : World} (h : TOk B t w) (hb : Below B w w') : TOk B t w' := by
  obtain ⟨h1, h2, h3, h4, base, h5⟩ := h
  exact ⟨h1, h2, h3, h4, base, own_low h5 hb h4⟩
theorem TOk.rd {B rb bb : Nat} {t : Ta} {w w' : World} {s s0 : ByteArray} {bd bd0 : Bool} (h : TOk B t w) (k : Rds rb bb w w' s bd) (hr : Blk w rb #[.string s0] 9) (hb : Blk w bb #[.bool bd0] 4) : TOk B t w' := by
  obtain ⟨h1, h2, h3, h4, base, h5⟩ := h
  exact ⟨h1, h2, h3, h4, base, k.own hr hb h5 (by decide) (by decide)⟩
theorem TOk.mono {B B' : Nat} {t : Ta} {w : World} (h : TOk B t w) (hB : B ≤ B') : TOk B' t w := by
  obtain ⟨h1, h2, h3, h4, h5⟩ := h
  exact ⟨h1, h2, h3, fun g hg => Nat.lt_of_lt_of_le (h4 g hg) hB, h5⟩
theorem TOk.crow {B : Nat} {t : Ta} {w : World} (h : TOk B t w) : t.wf ∧ CRow w t.A t.cs := by
  obtain ⟨h1, h2, h3, _, base, h5⟩ := h
  exact ⟨h1, CRow.of_own h2 (by omega) rfl h5⟩
/-- What lies in memory ahead of block B: the answer's place r0, the schema read so far at sb. -/
def GI (w0 : World) (r0 sb B : Nat) (A : Option Addr) (c : Nat) (T : List Ta) (w : World) : Prop :=
  (w0.heap.size ≤ r0 ∧ w0.heap.size ≤ sb ∧ r0 < B ∧ sb < B ∧ r0 ≠ sb ∧ T.length ≤ 255) ∧ Blk w r0 #[.slice none 0 0] 103 ∧ Blk w sb #[.slice A T.length c] 103 ∧ w.ownsRow w0.heap.size 116 5 (.slice A T.length c) T.length (tcells T) ∧ (∀ g, (Value.slice A T.length c).ownBlock = some g → g < B) ∧ (∀ t ∈ T, TOk B t w) ∧ Below w0.heap.size w0 w
theorem GI.low {w0 : World} {r0 sb B : Nat} {A : Option Addr} {c : Nat} {T : List Ta} {w w' : World} (h : GI w0 r0 sb B A c T w) (hb : Below B w w') : GI w0 r0 sb B A c T w' := by
  obtain ⟨h0, h1, h2, h3, h4, h5, h6⟩ := h
  exact ⟨h0, blk_low h1 hb h0.2.2.1, blk_low h2 hb h0.2.2.2.1, own_low h3 hb h4, h4, fun t ht => (h5 t ht).low hb, h6.trans (hb.mono (by omega))⟩
theorem blk_ne {w : World} {x y : Nat} {cs ds : Array Value} {t u : TypeId} (h : Blk w x cs t) (k : Blk w y ds u) (hne : t ≠ u) : x ≠ y := by
  intro e
  subst e
  unfold Blk at h k
  rw [h] at k
  simp only [Option.some.injEq, Obj.cells.injEq] at k
  exact hne k.2.1
theorem GI.rd {w0 : World} {r0 sb B rb bb : Nat} {A : Option Addr} {c : Nat} {T : List Ta} {w w' : World} {s s0 : ByteArray} {bd bd0 : Bool} (h : GI w0 r0 sb B A c T w) (k : Rds rb bb w w' s bd) (hr : Blk w rb #[.string s0] 9) (hb : Blk w bb #[.bool bd0] 4)
    (hr0 : w0.heap.size ≤ rb) (hb0 : w0.heap.size ≤ bb) : GI w0 r0 sb B A c T w' := by
  obtain ⟨h0, h1, h2, h3, h4, h5, h6⟩ := h
  exact ⟨h0, k.blk h1 (blk_ne h1 hr (by decide)) (blk_ne h1 hb (by decide)), k.blk h2 (blk_ne h2 hr (by decide)) (blk_ne h2 hb (by decide)), k.own hr hb h3 (by decide) (by decide), h4, fun t ht => (h5 t ht).rd k hr hb, h6.trans (k.below h6.size hr0 hb0)⟩
theorem GI.mono {w0 : World} {r0 sb B B' : Nat} {A : Option Addr} {c : Nat} {T : List Ta} {w : World} (h : GI w0 r0 sb B A c T w) (hB : B ≤ B') : GI w0 r0 sb B' A c T w := by
  obtain ⟨h0, h1, h2, h3, h4, h5, h6⟩ := h
  exact ⟨by omega, h1, h2, h3, fun g hg => Nat.lt_of_lt_of_le (h4 g hg) hB, fun t ht => (h5 t ht).mono hB, h6⟩
theorem GI.trow {w0 : World} {r0 sb B : Nat} {A : Option Addr} {c : Nat} {T : List Ta} {w : World} (h : GI w0 r0 sb B A c T w) : TRow w A c T :=
  TRow.of_own (fun t ht => (h.2.2.2.2.2.1 t ht).crow) (by have := h.1.2.2.2.2.2; omega) rfl h.2.2.2.1

/-! Plain laws. -/
theorem tab_d {t u : Ta} (h : t.d = u.d) : t.nm = u.nm ∧ t.cs = u.cs ∧ t.key = u.key ∧ t.ref = u.ref ∧ t.par = u.par := by
  unfold Ta.d at h
  simpa using h
theorem tabL_d {t u : Ta} (h : t.d = u.d) : tabL t = tabL u := by
  obtain ⟨h1, h2, h3, h4, h5⟩ := tab_d h
  unfold tabL
  rw [h1, h2, h3, h4, h5]
theorem map_d_take {s t : List Ta} (h : s.map Ta.d = t.map Ta.d) (k : Nat) : (s.take k).map Ta.d = (t.take k).map Ta.d := by rw [List.map_take, List.map_take, h]
theorem map_d_get {s t : List Ta} (h : s.map Ta.d = t.map Ta.d) {k : Nat} {x : Ta} (hk : s[k]? = some x) : ∃ y, t[k]? = some y ∧ x.d = y.d := by
  have h1 : (t.map Ta.d)[k]? = some x.d := by rw [← h, List.getElem?_map, hk]; rfl
  rw [List.getElem?_map] at h1
  cases hy : t[k]? with
  | none => rw [hy] at h1; cases h1
  | some y => rw [hy] at h1; exact ⟨y, rfl, (Option.some.inj h1).symm⟩
theorem putS_d : ∀ {s t : List Ta}, s.map Ta.d = t.map Ta.d → putS s = putS t := by
  intro s t h
  have hl : s.length = t.length := by have := congrArg List.length h; simpa using this
  have hf : ∀ (s t : List Ta), s.map Ta.d = t.map Ta.d → s.flatMap tabL = t.flatMap tabL := by
    intro s
    induction s with
    | nil => intro t h; cases t with
      | nil => rfl
      | cons y t => cases h
    | cons x s ih => intro t h; cases t with
      | nil => cases h
      | cons y t =>
        injection h with h1 h2
        rw [List.flatMap_cons, List.flatMap_cons, tabL_d h1, ih t h2]
  unfold putS
  rw [hl, hf s t h]
theorem depI_d {ds : List Int} {t u : Ta} (h : t.d = u.d) : depI ds t = depI ds u := by
  obtain ⟨_, _, _, h4, h5⟩ := tab_d h
  unfold depI rootB
  rw [h4, h5]
theorem deps_d : ∀ {s t : List Ta}, s.map Ta.d = t.map Ta.d → deps s = deps t := by
  have hf : ∀ (s t : List Ta) (ds : List Int), s.map Ta.d = t.map Ta.d → s.foldl (fun ds t => ds ++ [depI ds t]) ds = t.foldl (fun ds t => ds ++ [depI ds t]) ds := by
    intro s
    induction s with
    | nil => intro t ds h; cases t with
      | nil => rfl
      | cons y t => cases h
    | cons x s ih => intro t ds h; cases t with
      | nil => cases h
      | cons y t =>
        injection h with h1 h2
        rw [List.foldl_cons, List.foldl_cons, depI_d h1]
        exact ih t _ h2
  intro s t h
  exact hf s t [] h
theorem tabB_d {a a' : List Ta} {ds : List Int} {t u : Ta} (ha : a.map Ta.d = a'.map Ta.d) (h : t.d = u.d) : tabB a ds t = tabB a' ds u := by
  have hl : a.length = a'.length := by have := congrArg List.length ha; simpa using this
  obtain ⟨h1, h2, h3, h4, h5⟩ := tab_d h
  have hk : kinB a t = kinB a' u := by
    unfold kinB
    rw [h5]
    cases hx : a[u.par.toNat]? with
    | none =>
      have : a'[u.par.toNat]? = none := by rw [List.getElem?_eq_none_iff] at hx ⊢; omega
      rw [this]
    | some x =>
      obtain ⟨y, hy, hd⟩ := map_d_get ha hx
      obtain ⟨_, e2, e3, _, _⟩ := tab_d hd
      rw [hy]
      simp only
      rw [e2, e3, h2, h4]
  unfold tabB
  rw [depI_d h]
  have hc : colsB t = colsB u := by unfold colsB; rw [h2, h3]
  have hb : belB a t = belB a' u := by unfold belB rootB relB; rw [hk, hl, h2, h3, h4, h5]
  rw [hc, hb]
theorem schB_d {s t : List Ta} (h : s.map Ta.d = t.map Ta.d) : schB s = schB t := by
  have hl : s.length = t.length := by have := congrArg List.length h; simpa using this
  have hn : s.map (·.nm) = t.map (·.nm) := by
    have e : ∀ l : List Ta, l.map (·.nm) = (l.map Ta.d).map (·.1) := fun l => by rw [List.map_map]; rfl
    rw [e, e, h]
  have hp : preB s s.length = preB t t.length := by
    unfold preB
    rw [hl]
    apply List.all_congr rfl
    intro i
    cases hx : s[i]? with
    | none =>
      have : t[i]? = none := by rw [List.getElem?_eq_none_iff] at hx ⊢; omega
      rw [this]
    | some x =>
      obtain ⟨y, hy, hd⟩ := map_d_get h hx
      rw [hy]
      simp only
      rw [deps_d (map_d_take h i)]
      exact tabB_d (map_d_take h i) hd
  unfold schB
  rw [hl, hn, ← hl, hp, hl]
def OneF (s : ByteArray) (bd : Bool) (v : Int) (s' : ByteArray) (bd' : Bool) : Prop := ∀ c tail, s.data.toList = c :: tail → v = (c.toNat : Int) ∧ s'.data.toList = tail ∧ bd' = bd
def WordF (s : ByteArray) (bd : Bool) (t s' : ByteArray) (bd' : Bool) : Prop := ∀ nm tail, nameB nm = true → s.data.toList = txL nm ++ tail → t = nm ∧ s'.data.toList = tail ∧ bd' = bd
/-- What is known at the outer loop's head: where the bytes are a schema's, T is its beginning, m tables are to come, and the rest is theirs. -/
def GO (b s : ByteArray) (bd : Bool) (T : List Ta) (m : Int) : Prop := ∀ s0, schB s0 = true → putS s0 = b.data.toList → bd = false ∧ ∃ pre rest, s0 = pre ++ rest ∧ pre.map Ta.d = T.map Ta.d ∧ m = rest.length ∧ s.data.toList = rest.flatMap tabL
def GN (b s : ByteArray) (bd : Bool) (T : List Ta) (m : Int) (nm : ByteArray) (Cs : List Co) (n : Int) : Prop := ∀ s0, schB s0 = true → putS s0 = b.data.toList → bd = false ∧ ∃ pre t rest cs', s0 = pre ++ t :: rest ∧ pre.map Ta.d = T.map Ta.d ∧ m = rest.length + 1 ∧ t.nm = nm ∧ t.cs = Cs ++ cs' ∧ n = cs'.length ∧
  s.data.toList = cs'.flatMap colL ++ (UInt8.ofNat t.key.toNat :: UInt8.ofNat (t.ref + 1).toNat :: UInt8.ofNat (t.par + 1).toNat :: rest.flatMap tabL)
theorem go_start {b s : ByteArray} {v : Int} {bd : Bool} (h : OneF b false v s bd) : GO b s bd [] v := by
  intro s0 hv hp
  obtain ⟨h1, h2, h3⟩ := h _ _ (by rw [← hp]; rfl)
  refine ⟨h3, [], s0, rfl, rfl, ?_, h2⟩
  have := (sch_parts hv).1
  rw [h1, byteN (by omega)]
theorem mid_tab {s0 pre rest : List Ta} {t : Ta} (hv : schB s0 = true) (e : s0 = pre ++ t :: rest) : nameB t.nm = true ∧ colsB t = true ∧ (-1 ≤ t.ref ∧ t.ref < 8) ∧ (-1 ≤ t.par ∧ t.par < 12) ∧ (0 ≤ t.key ∧ t.key < 8) :=
  sch_tab hv (k := pre.length) (by rw [e, List.getElem?_append_right (Nat.le_refl _), Nat.sub_self]; rfl)
theorem go_enter_tab {b s s1 s2 : ByteArray} {bd b1 b2 : Bool} {T : List Ta} {m v : Int} {nm : ByteArray} (h : GO b s bd T m) (hm : 0 < m) (hw : WordF s bd nm s1 b1) (ho : OneF s1 b1 v s2 b2) : GN b s2 b2 T m nm [] v := by
  intro s0 hv hp
  obtain ⟨h1, pre, rest, e, hd, hl, hs⟩ := h s0 hv hp
  cases rest with
  | nil => simp at hl; omega
  | cons t rest =>
    obtain ⟨q1, q2, _, _, _⟩ := mid_tab hv e
    rw [List.flatMap_cons] at hs
    unfold tabL at hs
    rw [List.append_assoc] at hs
    obtain ⟨g1, g2, g3⟩ := hw _ _ q1 hs
    rw [List.cons_append] at g2
    obtain ⟨k1, k2, k3⟩ := ho _ _ g2
    refine ⟨by rw [k3, g3, h1], pre, t, rest, t.cs, e, hd, by simpa using hl, g1.symm, rfl, ?_, ?_⟩
    · have := (cols_parts q2).1
      rw [k1, byteN (by omega)]
    · rw [k2, List.append_assoc]
      rfl
theorem go_col {b s s1 s2 s3 : ByteArray} {bd b1 b2 b3 : Bool} {T : List Ta} {m n v u : Int} {nm cn : ByteArray} {Cs : List Co} (h : GN b s bd T m nm Cs n) (hn : 0 < n) (hw : WordF s bd cn s1 b1) (ho : OneF s1 b1 v s2 b2) (hq : OneF s2 b2 u s3 b3) :
    GN b s3 b3 T m nm (Cs ++ [⟨cn, v, decide (u = 1)⟩]) (n - 1) := by
  intro s0 hv hp
  obtain ⟨h1, pre, t, rest, cs', e, hd, hl, hnm, hcs, hn', hs⟩ := h s0 hv hp
  cases cs' with
  | nil => simp at hn'; omega
  | cons c cs' =>
    obtain ⟨_, q2, _, _, _⟩ := mid_tab hv e
    obtain ⟨_, ha, hnn, _, _⟩ := cols_parts q2
    have hcm : c ∈ t.cs := by rw [hcs]; simp
    have hck := of_decide_eq_true (List.all_eq_true.1 ha c hcm)
    have hcn : nameB c.nm = true := by
      unfold namedB at hnn
      exact List.all_eq_true.1 (Bool.and_eq_true_iff.1 hnn).1 c.nm (List.mem_map.2 ⟨c, hcm, rfl⟩)
    rw [List.flatMap_cons] at hs
    unfold colL at hs
    rw [List.append_assoc, List.append_assoc] at hs
    obtain ⟨g1, g2, g3⟩ := hw _ _ hcn hs
    obtain ⟨k1, k2, k3⟩ := ho _ _ g2
    obtain ⟨j1, j2, j3⟩ := hq _ _ k2
    refine ⟨by rw [j3, k3, g3, h1], pre, t, rest, cs', e, hd, hl, hnm, ?_, by rw [hn']; simp, by rw [j2]; rfl⟩
    rw [hcs, List.append_assoc]
    congr 1
    have e1 : (⟨cn, v, decide (u = 1)⟩ : Co) = c := by
      obtain ⟨cnm, ck, cnl⟩ := c
      simp only at g1 k1 j1 hck
      subst g1
      rw [byteI (by omega) (by omega)] at k1
      subst k1
      cases cnl
      · simp only [Bool.false_eq_true, if_false] at j1
        subst j1
        rfl
      · simp only [if_true] at j1
        subst j1
        rfl
    rw [e1]
    rfl
theorem go_leave_tab {b s s1 s2 s3 : ByteArray} {bd b1 b2 b3 : Bool} {T : List Ta} {m n v1 v2 v3 : Int} {nm : ByteArray} {Cs : List Co} (h : GN b s bd T m nm Cs n) (hx : n ≤ 0 ∨ bd = true) (h1 : OneF s bd v1 s1 b1) (h2 : OneF s1 b1 v2 s2 b2) (h3 : OneF s2 b2 v3 s3 b3) (A : Option Addr) (c : Nat) :
    GO b s3 b3 (T ++ [⟨nm, Cs, v1, v2 - 1, v3 - 1, A, c⟩]) (m - 1) := by
  intro s0 hv hp
  obtain ⟨hb, pre, t, rest, cs', e, hd, hl, hnm, hcs, hn', hs⟩ := h s0 hv hp
  have hc0 : cs' = [] := by
    rcases hx with hx | hx
    · exact List.eq_nil_of_length_eq_zero (by omega)
    · rw [hb] at hx; cases hx
  subst hc0
  obtain ⟨_, q2, ⟨r0, r1⟩, ⟨p0, p1⟩, ⟨k0, k1⟩⟩ := mid_tab hv e
  rw [List.flatMap_nil, List.nil_append] at hs
  obtain ⟨a1, a2, a3⟩ := h1 _ _ hs
  obtain ⟨c1, c2, c3⟩ := h2 _ _ a2
  obtain ⟨d1, d2, d3⟩ := h3 _ _ c2
  rw [byteI (by omega) (by omega)] at a1 c1 d1
  refine ⟨by rw [d3, c3, a3, hb], pre ++ [t], rest, by rw [e]; simp, ?_, by omega, d2⟩
  rw [List.map_append, List.map_append, hd]
  congr 1
  simp only [List.map_cons, List.map_nil, Ta.d]
  rw [List.append_nil] at hcs
  rw [hnm, hcs, a1, c1, d1]
  rw [show t.ref + 1 - 1 = t.ref by omega, show t.par + 1 - 1 = t.par by omega]
theorem go_end {b s : ByteArray} {bd : Bool} {T : List Ta} {m : Int} (h : GO b s bd T m) (hx : m ≤ 0 ∨ bd = true) {s0 : List Ta} (hv : schB s0 = true) (hp : putS s0 = b.data.toList) : bd = false ∧ s0.map Ta.d = T.map Ta.d ∧ s.data.toList = [] := by
  obtain ⟨h1, pre, rest, e, hd, hl, hs⟩ := h s0 hv hp
  have h0 : rest = [] := by
    rcases hx with hx | hx
    · exact List.eq_nil_of_length_eq_zero (by omega)
    · rw [h1] at hx; cases hx
  subst h0
  refine ⟨h1, ?_, hs⟩
  rw [e, List.append_nil]
  exact hd
end Go.Proofs.YtjdfodmialhakaaDoor
