/- Several texts in one: see each part's head. -/
import Derived.Test.YtkfhfegogmlchaaDoorJ8
import Derived.Test.YtkfhfegogmlchaaDoorJ18
import Derived.Test.YtkfhfegogmlchaaDoorJ13
/- The buffer, in general: clones of rows; a transaction's size. -/
namespace Go.Proofs.YtkfhfegogmlchaaDoor
open Go.RowKit

theorem addr_add (b o j : Nat) : (⟨b, o, none⟩ : Addr).add j = ⟨b, o + j, none⟩ := by
  unfold Addr.add
  split
  · next h => subst h; rfl
  · rfl
theorem own_base {w : World} {base base' e size n : Nat} {v : Value} {xs : List Value} (h : w.ownsRow base e size v n xs) (hb : base' ≤ base) : w.ownsRow base' e size v n xs := by
  obtain ⟨h1, h2 | ⟨g, cap, cur, h3, h4, h5⟩⟩ := h
  · exact ⟨h1, Or.inl h2⟩
  · exact ⟨h1, Or.inr ⟨g, cap, cur, h3, Nat.le_trans hb h4, h5⟩⟩
theorem NRow.news {k : IntKind} {w : World} {b o : Nat} {l : List Int} (h : NRow k w (some ⟨b, o, none⟩) l) : ∀ j u, (l.map (Value.int k))[j]? = some u → w.cell? ((⟨b, o, none⟩ : Addr).add j) = some u := by
  intro j u hu
  rw [List.getElem?_map] at hu
  obtain ⟨v, hv, rfl⟩ := Option.map_eq_some_iff.1 hu
  obtain ⟨b', o', e, _, hc⟩ := h.2 (by intro e; simp [e] at hv)
  simp only [Option.some.injEq, Addr.mk.injEq, and_true] at e
  obtain ⟨rfl, rfl⟩ := e
  rw [addr_add]
  exact hc j v hv
theorem one_ints (k : IntKind) (l : List Int) : ∀ u ∈ l.map (Value.int k), u.oneCell' = true := by
  intro u hu
  obtain ⟨v, _, rfl⟩ := List.mem_map.1 hu
  rfl
/-- A clone of a row of numbers. -/
def CloneN (k : IntKind) (e : TypeId) (l : List Int) (w : World) (r : Ending) (w' : World) : Prop :=
  Below w.heap.size w w' ∧ ∃ g c, r = .returned (.slice (some ⟨g, 0, none⟩) l.length c) ∧ w.heap.size ≤ g ∧ w'.ownsRow w.heap.size e 1 (.slice (some ⟨g, 0, none⟩) l.length c) l.length (l.map (Value.int k))
set_option maxRecDepth 100000 in
theorem cloneN_int (l : List Int) (A : Option Addr) (c : Nat) (w : World) (h : NRow .i64 w A l) (hne : l ≠ []) (hl : l.length ≤ 1000) :
    Calls Tryd.prog 33 #[.slice A l.length c] w (CloneN .i64 3 l w) := by
  obtain ⟨b, o, rfl, lb, _⟩ := h.2 hne
  have hpos : 0 < l.length := List.length_pos_iff.2 hne
  have hnews := h.news
  obtain ⟨i3, hi3, hy0, hy1, hy2⟩ := info_parts info_i64
  have HN := Lib.hid hnews
  have HO := Lib.hid (one_ints .i64 l)
  have HL := Lib.hid (show (l.map (Value.int .i64)).length = l.length * 1 by simp)
  obtain ⟨xs, hxs⟩ : ∃ xs, xs = l.map (Value.int .i64) := ⟨_, rfl⟩
  have HQ := Lib.hid (show ∀ r w', (Below w.heap.size w w' ∧ ∃ g c, r = .returned (.slice (some ⟨g, 0, none⟩) l.length c) ∧ w.heap.size ≤ g ∧ w'.ownsRow w.heap.size 3 1 (.slice (some ⟨g, 0, none⟩) l.length c) l.length xs) → CloneN .i64 3 l w r w' from fun r w' hq => by rw [hxs] at hq; exact hq)
  rw [← hxs] at HN HO HL
  generalize CloneN .i64 3 l w = RP at HQ ⊢
  clear hnews h hxs hne
  generalize l.length = n at *
  have he : ∀ W : World, (binOp .eql 37 (.slice (some ⟨b, o, none⟩) n c) (.slice none 0 0)).run Tryd.prog W = .ok (.bool false) W := fun _ => rfl
  go_enter Tryd.func33, Tryd.ntmps33
  go_wp2_with (at_builtin; refine wpList_append_grows _ rfl _ _ 37 rfl 3 i3 _ 1 8 Tryd.underlying37 hi3 hy0 hy1 hy2 rfl (by decide) (some ⟨w.heap.size, 0, none⟩) 0 0 [] rfl (fun h => by cases h) rfl (fun _ _ j u hu => by simp at hu) ⟨b, o, none⟩ n c xs rfl HL.out ?k1 HO.out (by omega) (by simp only [maxLen]; omega) (by omega) ?_)
  case k1 =>
    intro j u hu
    have h1 := HN.out j u hu
    rw [addr_add] at h1 ⊢
    exact (((Below.refl w.heap.size w).alloc (Nat.le_refl _) _).cell (p := ⟨b, o + j, none⟩) lb).trans h1
  intro v' w2 hown hg
  obtain ⟨g, cap, hv, hg1, _⟩ := hown.form (by omega)
  subst hv
  have HOW := Lib.hid hown
  have hb2 : Below w.heap.size w w2 := ((Below.refl w.heap.size w).alloc (Nat.le_refl _) _).grown hg (by simp) (by simp)
  clear hown hg
  go_wp2_with fail
  exact HQ.out _ _ ⟨hb2, g, _, rfl, by omega, own_base (by simpa using HOW.out) (Nat.le_succ _)⟩
set_option maxRecDepth 100000 in
theorem cloneN_uint (l : List Int) (A : Option Addr) (c : Nat) (w : World) (h : NRow .u64 w A l) (hne : l ≠ []) (hl : l.length ≤ 1000) :
    Calls Tryd.prog 34 #[.slice A l.length c] w (CloneN .u64 29 l w) := by
  obtain ⟨b, o, rfl, lb, _⟩ := h.2 hne
  have hpos : 0 < l.length := List.length_pos_iff.2 hne
  have hnews := h.news
  obtain ⟨i3, hi3, hy0, hy1, hy2⟩ := info_parts info_u64
  have HN := Lib.hid hnews
  have HO := Lib.hid (one_ints .u64 l)
  have HL := Lib.hid (show (l.map (Value.int .u64)).length = l.length * 1 by simp)
  obtain ⟨xs, hxs⟩ : ∃ xs, xs = l.map (Value.int .u64) := ⟨_, rfl⟩
  have HQ := Lib.hid (show ∀ r w', (Below w.heap.size w w' ∧ ∃ g c, r = .returned (.slice (some ⟨g, 0, none⟩) l.length c) ∧ w.heap.size ≤ g ∧ w'.ownsRow w.heap.size 29 1 (.slice (some ⟨g, 0, none⟩) l.length c) l.length xs) → CloneN .u64 29 l w r w' from fun r w' hq => by rw [hxs] at hq; exact hq)
  rw [← hxs] at HN HO HL
  generalize CloneN .u64 29 l w = RP at HQ ⊢
  clear hnews h hxs hne
  generalize l.length = n at *
  have he : ∀ W : World, (binOp .eql 30 (.slice (some ⟨b, o, none⟩) n c) (.slice none 0 0)).run Tryd.prog W = .ok (.bool false) W := fun _ => rfl
  go_enter Tryd.func34, Tryd.ntmps34
  go_wp2_with (at_builtin; refine wpList_append_grows _ rfl _ _ 30 rfl 29 i3 _ 1 8 Tryd.underlying30 hi3 hy0 hy1 hy2 rfl (by decide) (some ⟨w.heap.size, 0, none⟩) 0 0 [] rfl (fun h => by cases h) rfl (fun _ _ j u hu => by simp at hu) ⟨b, o, none⟩ n c xs rfl HL.out ?k1 HO.out (by omega) (by simp only [maxLen]; omega) (by omega) ?_)
  case k1 =>
    intro j u hu
    have h1 := HN.out j u hu
    rw [addr_add] at h1 ⊢
    exact (((Below.refl w.heap.size w).alloc (Nat.le_refl _) _).cell (p := ⟨b, o + j, none⟩) lb).trans h1
  intro v' w2 hown hg
  obtain ⟨g, cap, hv, hg1, _⟩ := hown.form (by omega)
  subst hv
  have HOW := Lib.hid hown
  have hb2 : Below w.heap.size w w2 := ((Below.refl w.heap.size w).alloc (Nat.le_refl _) _).grown hg (by simp) (by simp)
  clear hown hg
  go_wp2_with fail
  exact HQ.out _ _ ⟨hb2, g, _, rfl, by omega, own_base (by simpa using HOW.out) (Nat.le_succ _)⟩
/-- A clone of a row. -/
def CloneR (l : List V) (w : World) (r : Ending) (w' : World) : Prop :=
  Below w.heap.size w w' ∧ ∃ A c, r = .returned (.slice A l.length c) ∧ w'.ownsRow w.heap.size 97 4 (.slice A l.length c) l.length (rowCells l) ∧ (A = none → c = 0)
set_option maxRecDepth 100000 in
theorem cloneR_val (l : List V) (A : Option Addr) (c : Nat) (w : World) (h : VRow w A l) (hl : l.length ≤ 1000) (hz : A = none → c = 0) :
    Calls Tryd.prog 32 #[.slice A l.length c] w (CloneR l w) := by
  have HQ := Lib.hid (show ∀ r w', (Below w.heap.size w w' ∧ ∃ A c, r = .returned (.slice A l.length c) ∧ w'.ownsRow w.heap.size 97 4 (.slice A l.length c) l.length (rowCells l) ∧ (A = none → c = 0)) → CloneR l w r w' from fun _ _ h => h)
  generalize CloneR l w = RP at HQ ⊢
  cases A with
  | none =>
    obtain rfl := hz rfl
    have hl0 : l = [] := by
      cases l with
      | nil => rfl
      | cons v l => obtain ⟨b, off, e, _⟩ := h.2.2 (by simp); cases e
    subst hl0
    clear h hz
    have he : ∀ W : World, (binOp .eql 55 (.slice none 0 0) (.slice none 0 0)).run Tryd.prog W = .ok (.bool true) W := fun _ => rfl
    go_enter Tryd.func32, Tryd.ntmps32
    go_wp2_with fail
    exact HQ.out _ _ ⟨Below.refl _ _, none, 0, rfl, World.ownsRow_nil _ _ _ _, fun _ => rfl⟩
  | some a =>
    obtain ⟨i3, hi3, hy0, hy1, hy2⟩ := info_parts info_V1
    have hnews : ∀ W, Below w.heap.size w W → ∀ j u, (rowCells l)[j]? = some u → W.cell? (a.add j) = some u := by
      intro W hW j u hu
      have hne : l ≠ [] := by intro e; subst e; simp [rowCells] at hu
      obtain ⟨b, off, e, lb, _⟩ := h.2.2 hne
      obtain rfl := Option.some.inj e
      have h1 := VRow.cells_ h j u hu
      rw [addr_add] at h1 ⊢
      exact (hW.cell (p := ⟨b, off + j, none⟩) lb).trans h1
    have HN := Lib.hid hnews
    have HO := Lib.hid (rowCells_one l)
    have HL := Lib.hid (rowCells_length l)
    have HOW := Lib.hid (show (w.alloc (.cells #[] 97)).ownsRow w.heap.size 97 4 (.slice (some ⟨w.heap.size, 0, none⟩) 0 0) 0 [] from World.ownsRow_made w #[] 0 (Nat.le_refl _) (by decide) rfl)
    obtain ⟨xs, hxs⟩ : ∃ xs, xs = rowCells l := ⟨_, rfl⟩
    rw [← hxs] at HN HO HL HQ
    clear hnews h hxs hz
    generalize l.length = n at *
    have he : ∀ W : World, (binOp .eql 55 (.slice (some a) n c) (.slice none 0 0)).run Tryd.prog W = .ok (.bool false) W := fun _ => rfl
    go_enter Tryd.func32, Tryd.ntmps32
    go_wp2_with (at_builtin; refine wpList_append_own _ rfl _ _ 55 rfl w.heap.size 97 i3 _ 4 40 Tryd.underlying55 hi3 hy0 hy1 hy2 rfl (by decide) (.slice (some ⟨w.heap.size, 0, none⟩) 0 0) 0 [] rfl HOW.out a n c xs rfl HL.out (HN.out _ (by repeat (first | exact Below.refl _ _ | assumption | refine Below.drew ?_ | refine below_drewN ?_ _ | refine Below.alloc ?_ (by simp <;> omega) _))) HO.out (by simp only [maxLen]; omega) (by omega) (by simp) ?_)
    intro v' w2 hown hg hf
    have hb2 : Below w.heap.size w w2 := ((Below.refl w.heap.size w).alloc (Nat.le_refl _) _).grown hg (by simp) (by simp [Value.ownBlock])
    obtain ⟨A', c', rfl, hc'⟩ : ∃ A' c', v' = .slice A' n c' ∧ (A' = none → c' = 0) := by
      rcases hown.2 with ⟨rfl, rfl⟩ | ⟨g, cap, cur, rfl, _⟩
      · exact ⟨none, 0, rfl, fun _ => rfl⟩
      · exact ⟨_, _, rfl, fun h => by cases h⟩
    have HF := Lib.hid (HQ.out _ _ ⟨hb2, A', c', rfl, hown, hc'⟩)
    clear hown hg hf hb2 HQ
    go_wp2_with fail
    exact HF.out
theorem sum_take_le {l : List Int} (h : ∀ v ∈ l, 0 ≤ v ∧ v ≤ 4096) (hl : l.length ≤ 40) (k : Nat) : 0 ≤ (l.take k).sum ∧ (l.take k).sum ≤ 4096 * 40 := by
  have key : ∀ m : List Int, (∀ v ∈ m, 0 ≤ v ∧ v ≤ 4096) → 0 ≤ m.sum ∧ m.sum ≤ 4096 * (m.length : Int) := by
    intro m
    induction m with
    | nil => intro _; simp
    | cons v m ih =>
      intro hm
      have h1 := hm v (by simp)
      have h2 := ih (fun u hu => hm u (by simp [hu]))
      rw [List.sum_cons, List.length_cons]
      omega
  have h1 := key (l.take k) (fun v hv => h v (List.mem_of_mem_take hv))
  have h2 : (l.take k).length ≤ l.length := List.length_take_le' k l
  omega
set_option maxRecDepth 100000 in
theorem size_cnt (X E : Nat) (n k tx : Int) (nv mv sv : Value) (C : Option Addr) (cc : Nat) (l : List Int) (w : World) (hx : Blk w X #[.int .u64 n, .pointer (some ⟨E, 0, none⟩), nv, mv] 94) (he : Blk w E #[.int .u8 k, .int .u64 tx, .slice C l.length cc, sv] 50)
    (hc : NRow .i64 w C l) (hb : ∀ v ∈ l, 0 ≤ v ∧ v ≤ 4096) (hl : l.length ≤ 40) :
    Calls Tryd.prog 31 #[.pointer (some ⟨X, 0, none⟩)] w fun r w' => r = .returned (.int .i64 l.sum) ∧ w = w' := by
  have HC := Lib.hid hc
  have HS := Lib.hid (sum_take_le hb hl)
  have x1 := hx.cell 1
  have e2 := he.cell 2
  have lX := hx.lt
  have lE := he.lt
  simp only [List.getElem?_toArray, List.getElem?_cons_zero, List.getElem?_cons_succ] at x1 e2
  clear hx he hc hb
  go_enter Tryd.func31, Tryd.ntmps31
  go_wp2_with fail
  go_loopw [2, 13] (fun s i wr => ∃ j : Nat, j ≤ l.length ∧ i = .int .i64 j ∧ s = .int .i64 (l.take j).sum ∧ wr = w) (fun _ i _ => l.length - (intOf i).toNat)
  case atStart => exact ⟨0, by omega, rfl, by simp, rfl⟩
  case round =>
    obtain ⟨j, hj, rfl, rfl, rfl⟩ := hrel
    by_cases hlt : j < l.length
    · obtain ⟨b, off, v, rfl, lb, hv, _, hcell⟩ := HC.out.at_ hlt
      have hsum := sum_at hv
      have h1 := HS.out (j + 1)
      rw [hsum] at h1
      have HSUM := Lib.hid hsum
      clear hsum hv
      generalize (l.take j).sum = q at h1 HSUM ⊢
      have hw : IntKind.i64.wrap (q + v) = q + v := IntWalk.i64_in _ (by omega)
      go_wp2_with fail
      go_roundw
      case rel => exact ⟨j + 1, by omega, by go_num, by rw [HSUM.out], trivial⟩
      case measure => simp [intOf]; omega
    · have hjl : j = l.length := by omega
      have HJ := Lib.hid hjl
      clear hjl
      go_wp2_with fail
      go_ret
      refine ⟨?_, rfl⟩
      rw [HJ.out, List.take_length]
      rfl
end Go.Proofs.YtkfhfegogmlchaaDoor

/- The buffer, in general: where it lies; room. -/
namespace Go.Proofs.YtkfhfegogmlchaaDoor
open Go.RowKit

/-- A transaction's end: where it lies, its counts and places. -/
structure Fi where
  E : Nat
  gc : Nat
  cc : Nat
  cnt : List Int
  gs : Nat
  sc : Nat
  sq : List Int
def FiR (n : Int) (f : Fi) (w : World) : Prop := Blk w f.E #[.int .u8 2, .int .u64 n, .slice (some ⟨f.gc, 0, none⟩) f.cnt.length f.cc, .slice (some ⟨f.gs, 0, none⟩) f.sq.length f.sc] 50 ∧
  (∃ b, w.ownsRow b 3 1 (.slice (some ⟨f.gc, 0, none⟩) f.cnt.length f.cc) f.cnt.length (f.cnt.map (Value.int .i64))) ∧ (∃ b, w.ownsRow b 29 1 (.slice (some ⟨f.gs, 0, none⟩) f.sq.length f.sc) f.sq.length (f.sq.map (Value.int .u64))) ∧ (∀ v ∈ f.cnt, 0 ≤ v ∧ v ≤ 4096) ∧ f.cnt.length ≤ 40
def endV : Option Fi → Value
  | none => .pointer none
  | some f => .pointer (some ⟨f.E, 0, none⟩)
/-- A row of values of the buffer's own. -/
def RowR (w : World) (A : Option Addr) (c : Nat) (l : List V) : Prop := (∃ b, w.ownsRow b 97 4 (.slice A l.length c) l.length (rowCells l)) ∧ (A = none → c = 0) ∧ (∀ v ∈ l, v.wf) ∧ l.length ≤ 1000
theorem RowR.ext {w w' : World} {A : Option Addr} {c : Nat} {l : List V} (h : RowR w A c l) (hb : Below w.heap.size w w') : RowR w' A c l := by
  obtain ⟨⟨b, h1⟩, h2⟩ := h
  exact ⟨⟨b, own_below h1 hb⟩, h2⟩
theorem RowR.vrow {w : World} {A : Option Addr} {c : Nat} {l : List V} (h : RowR w A c l) : VRow w A l := by
  obtain ⟨⟨b, h1⟩, _, h3, h4⟩ := h
  exact (VRow.of_own h3 (by omega) h1).1
/-- A value that is an event. -/
def EvV (w : World) (v : Value) (e : Ev) : Prop := ∃ A c A2 c2, v = .agg #[.int .u64 e.tx, .int .i64 e.tot, .int .i64 e.nth, .int .u8 e.k, .int .i64 e.tb, .slice A e.bf.length c, .slice A2 e.af.length c2] ∧ RowR w A c e.bf ∧ RowR w A2 c2 e.af
theorem EvV.ext {w w' : World} {v : Value} {e : Ev} (h : EvV w v e) (hb : Below w.heap.size w w') : EvV w' v e := by
  obtain ⟨A, c, A2, c2, h1, h2, h3⟩ := h
  exact ⟨A, c, A2, c2, h1, h2.ext hb, h3.ext hb⟩
/-- A known transaction: its blocks, its number, its end, how many events of each table it has, its events. -/
structure Tb where
  X : Nat
  N : Nat
  M : Nat
  n : Int
  fin : Option Fi
  nth : List Int
  es : List (Ev × Value)
def Tb.ev (t : Tb) : List (Int × Value) := t.es.map fun p => (p.1.tot, p.2)
theorem Tb.ev_len (t : Tb) : t.ev.length = t.es.length := by simp [Tb.ev]
def mapD (ev : List (Int × Value)) : DataW Value := ev.foldl (fun D x => D.put (.int .i64 x.1) (.held x.2)) (.map [])
def MapL (w : World) (M : Nat) (ev : List (Int × Value)) : Prop := w.ownsMap Tryd.prog 3 RV M ev.length (mapD ev) ∧ (ev.map (·.1)).Nodup
structure TxR (lo nt : Nat) (t : Tb) (w : World) : Prop where
  lx : lo ≤ t.X
  ln : lo ≤ t.N
  lm : lo ≤ t.M
  x : Blk w t.X #[.int .u64 t.n, endV t.fin, .slice (some ⟨t.N, 0, none⟩) nt nt, .map (some t.M)] 94
  f : ∀ f, t.fin = some f → FiR t.n f w
  n : Blk w t.N (t.nth.map (Value.int .i64)).toArray 3
  l : t.nth.length = nt
  m : MapL w t.M t.ev
  e : ∀ p ∈ t.es, EvV w p.2 p.1
theorem FiR.ext {n : Int} {f : Fi} {w w' : World} (h : FiR n f w) (hb : Below w.heap.size w w') : FiR n f w' := by
  obtain ⟨h1, ⟨b1, h2⟩, ⟨b2, h3⟩, h4⟩ := h
  exact ⟨h1.ext hb, ⟨b1, own_below h2 hb⟩, ⟨b2, own_below h3 hb⟩, h4⟩
theorem TxR.ext {lo nt : Nat} {t : Tb} {w w' : World} (h : TxR lo nt t w) (hb : Below w.heap.size w w') : TxR lo nt t w' :=
  ⟨h.lx, h.ln, h.lm, h.x.ext hb, fun f hf => (h.f f hf).ext hb, h.n.ext hb, h.l, ⟨own_map_below h.m.1 hb, h.m.2⟩, fun p hp => (h.e p hp).ext hb⟩
/-- A slice of pointers. -/
def PtrL (lo : Nat) (w : World) (v : Value) (ps : List Nat) : Prop :=
  ∃ A c, v = .slice A ps.length c ∧ (ps ≠ [] → ∃ g off, A = some ⟨g, off, none⟩ ∧ lo ≤ g ∧ g < w.heap.size ∧ ∀ i p, ps[i]? = some p → w.cell? ⟨g, off + i, none⟩ = some (.pointer (some ⟨p, 0, none⟩))) ∧
    (w.ownsRow lo 90 1 v ps.length (ps.map fun p => .pointer (some ⟨p, 0, none⟩)) ∨ (c = ps.length ∧ ∀ a, A = some a → ∃ cs f, w.heap[a.block]? = some (.cells cs 90 f)))
theorem PtrL.ext {lo : Nat} {w w' : World} {v : Value} {ps : List Nat} (h : PtrL lo w v ps) (hb : Below w.heap.size w w') : PtrL lo w' v ps := by
  obtain ⟨A, c, rfl, h1, h2⟩ := h
  refine ⟨A, c, rfl, fun hne => ?_, ?_⟩
  · obtain ⟨g, off, rfl, hl, hg, hc⟩ := h1 hne
    exact ⟨g, off, rfl, hl, Nat.lt_of_lt_of_le hg hb.size, fun i p hi => (hb.cell (p := ⟨g, off + i, none⟩) hg).trans (hc i p hi)⟩
  · rcases h2 with h2 | h2
    · exact Or.inl (own_below h2 hb)
    · refine Or.inr ⟨h2.1, fun a ha => ?_⟩
      obtain ⟨cs, f, h3⟩ := h2.2 a ha
      exact ⟨cs, f, (hb.block _ (Array.getElem?_eq_some_iff.1 h3).1).trans h3⟩
/-- The buffer. -/
structure BuR (B nt : Nat) (bd nx : Int) (has : Bool) (fa : Int) (l : List Tb) (w : World) : Prop where
  b : ∃ v, Blk w B #[.int .i64 nt, .int .i64 bd, .int .u64 nx, .bool has, v, .int .i64 fa] 85 ∧ PtrL B w v (l.map (·.X))
  t : ∀ t ∈ l, TxR B nt t w
theorem BuR.ext {B nt : Nat} {bd nx : Int} {has : Bool} {fa : Int} {l : List Tb} {w w' : World} (h : BuR B nt bd nx has fa l w) (hb : Below w.heap.size w w') : BuR B nt bd nx has fa l w' := by
  obtain ⟨v, h1, h2⟩ := h.b
  exact ⟨⟨v, h1.ext hb, h2.ext hb⟩, fun t ht => (h.t t ht).ext hb⟩
def sumF : Option Fi → Int
  | none => 0
  | some f => f.cnt.sum
/-- The transaction of this number, if it has room. -/
def roomL (bd n : Int) : Int → List Tb → Option Nat
  | _, [] => none
  | s, t :: ts => if t.fin.isNone then none else if bd < s + sumF t.fin then none else if t.n = n then some t.X else roomL bd n (s + sumF t.fin) ts
theorem sumF_le {lo nt : Nat} {t : Tb} {w : World} (h : TxR lo nt t w) : 0 ≤ sumF t.fin ∧ sumF t.fin ≤ 163840 := by
  cases hf : t.fin with
  | none => simp [sumF]
  | some f =>
    obtain ⟨_, _, _, h1, h2⟩ := h.f f hf
    have := sum_take_le h1 h2 f.cnt.length
    rw [List.take_length] at this
    simp only [sumF]
    omega
theorem TxR.size {lo nt : Nat} {t : Tb} {w : World} (h : TxR lo nt t w) {f : Fi} (hf : t.fin = some f) : Calls Tryd.prog 31 #[.pointer (some ⟨t.X, 0, none⟩)] w fun r w' => r = .returned (.int .i64 f.cnt.sum) ∧ w = w' := by
  have hx := h.x
  rw [hf] at hx
  obtain ⟨h1, ⟨b, h2⟩, _, h4, h5⟩ := h.f f hf
  exact size_cnt t.X f.E t.n 2 t.n _ _ _ (some ⟨f.gc, 0, none⟩) f.cc f.cnt w hx h1 (NRow.of_own (by omega) h2).1 h4 h5
theorem sumF_take {l : List Tb} {k : Nat} {t : Tb} (h : l[k]? = some t) : ((l.take (k + 1)).map fun t => sumF t.fin).sum = ((l.take k).map fun t => sumF t.fin).sum + sumF t.fin := by
  obtain ⟨hj, e⟩ := List.getElem?_eq_some_iff.1 h
  rw [List.take_succ_eq_append_getElem hj, e, List.map_append, List.sum_append]
  simp
theorem sumF_all {lo nt : Nat} {l : List Tb} {w : World} (h : ∀ t ∈ l, TxR lo nt t w) (hl : l.length ≤ 40) (k : Nat) : 0 ≤ ((l.take k).map fun t => sumF t.fin).sum ∧ ((l.take k).map fun t => sumF t.fin).sum ≤ 163840 * 40 := by
  have key : ∀ m : List Tb, (∀ t ∈ m, t ∈ l) → 0 ≤ (m.map fun t => sumF t.fin).sum ∧ (m.map fun t => sumF t.fin).sum ≤ 163840 * (m.length : Int) := by
    intro m
    induction m with
    | nil => intro _; simp
    | cons v m ih =>
      intro hm
      have h1 := sumF_le (h v (hm v (by simp)))
      have h2 := ih (fun u hu => hm u (by simp [hu]))
      rw [List.map_cons, List.sum_cons, List.length_cons]
      omega
  have h1 := key (l.take k) (fun v hv => List.mem_of_mem_take hv)
  have h2 : (l.take k).length ≤ l.length := List.length_take_le' k l
  omega
set_option maxRecDepth 100000 in
theorem room_any (B nt : Nat) (bd nx fa n : Int) (has : Bool) (l : List Tb) (w : World) (h : BuR B nt bd nx has fa l w) (hl : l.length ≤ 40) :
    Calls Tryd.prog 39 #[.pointer (some ⟨B, 0, none⟩), .int .u64 n] w fun r w' => r = .returned (.pointer ((roomL bd n 0 l).map fun X => ⟨X, 0, none⟩)) ∧ w = w' := by
  have HS := Lib.hid (sumF_all h.t hl)
  have HT := Lib.hid h.t
  obtain ⟨v, hb, A, c, rfl, hp, _⟩ := h.b
  have HP := Lib.hid hp
  have b1 := hb.cell 1
  have b4 := hb.cell 4
  have lB := hb.lt
  simp only [List.getElem?_toArray, List.getElem?_cons_zero, List.getElem?_cons_succ, List.length_map] at b1 b4
  clear h hp hb
  generalize hR : roomL bd n 0 l = R
  have HR := Lib.hid hR
  clear hR
  go_enter Tryd.func39, Tryd.ntmps39
  go_wp2_with fail
  go_loopw [5, 13] (fun s i wr => ∃ j : Nat, j ≤ l.length ∧ i = .int .i64 j ∧ s = .int .i64 ((l.take j).map fun t => sumF t.fin).sum ∧ wr = w ∧ Hid (roomL bd n ((l.take j).map fun t => sumF t.fin).sum (l.drop j) = R)) (fun _ i _ => l.length - (intOf i).toNat)
  case atStart => exact ⟨0, by omega, rfl, by simp, rfl, HR.out⟩
  case round =>
    obtain ⟨j, hj, rfl, rfl, rfl, HJ⟩ := hrel
    by_cases hlt : j < l.length
    · have hv := List.getElem?_eq_getElem hlt
      have hdr : l.drop j = l[j] :: l.drop (j + 1) := List.drop_eq_getElem_cons hlt
      have hsum := sumF_take hv
      have hS1 := HS.out (j + 1)
      rw [hsum] at hS1
      have ht := HT.out l[j] (List.getElem_mem hlt)
      obtain ⟨g, off, rfl, _, lg, hcell⟩ := HP.out (by intro e; rw [List.map_eq_nil_iff] at e; subst e; simp at hlt)
      have hp := hcell j l[j].X (by rw [List.getElem?_map, hv]; rfl)
      generalize l[j] = t at hv hdr hsum hS1 ht hp
      have HJ2 := Lib.hid (show roomL bd n (((l.take j).map fun t => sumF t.fin).sum) (t :: l.drop (j + 1)) = R by rw [← hdr]; exact HJ.out)
      have HSUM := Lib.hid hsum
      clear hdr hsum HJ hv hcell HP
      generalize ((l.take j).map fun t => sumF t.fin).sum = q at hS1 HJ2 HSUM ⊢
      cases hf : t.fin with
      | none =>
        have hx := ht.x
        rw [hf] at hx
        have x1 := hx.cell 1
        have lx := hx.lt
        have HRN := Lib.hid (show R = none by rw [← HJ2.out, roomL, if_pos (by rw [hf]; rfl)])
        simp only [List.getElem?_toArray, List.getElem?_cons_zero, List.getElem?_cons_succ, endV] at x1
        clear ht hx hf HJ2
        go_wp2_with fail
        go_ret
        exact ⟨by rw [HRN.out]; rfl, rfl⟩
      | some f =>
        have HSZ := Lib.hid (ht.size hf)
        have hx := ht.x
        rw [hf] at hx hS1 HSUM
        have x0 := hx.cell 0
        have x1 := hx.cell 1
        have lx := hx.lt
        have HJ3 := Lib.hid (show (if bd < q + f.cnt.sum then none else if t.n = n then some t.X else roomL bd n (q + f.cnt.sum) (l.drop (j + 1))) = R by
          have h := HJ2.out
          rw [roomL, hf, if_neg (by simp)] at h
          exact h)
        simp only [List.getElem?_toArray, List.getElem?_cons_zero, List.getElem?_cons_succ, endV] at x0 x1
        rw [show sumF (some f) = f.cnt.sum from rfl] at hS1 HSUM
        clear ht hx hf HJ2
        generalize f.cnt.sum = fs at HSZ hS1 HSUM HJ3
        have hw : IntKind.i64.wrap (q + fs) = q + fs := IntWalk.i64_in _ (by omega)
        go_wp2_with fail
        refine HSZ.out.mono ?_
        rintro r w1 ⟨rfl, rfl⟩
        by_cases hb : bd < q + fs
        · have HRN := Lib.hid (show R = none by rw [← HJ3.out, if_pos hb])
          go_wp2_with fail
          go_ret
          exact ⟨by rw [HRN.out]; rfl, rfl⟩
        · by_cases hn : t.n = n
          · have HRN := Lib.hid (show R = some t.X by rw [← HJ3.out, if_neg hb, if_pos hn])
            rw [hn] at x0
            clear HJ3 hn
            go_wp2_with fail
            go_ret
            exact ⟨by rw [HRN.out]; rfl, rfl⟩
          · have HRN := Lib.hid (show roomL bd n (q + fs) (l.drop (j + 1)) = R by rw [← HJ3.out, if_neg hb, if_neg hn])
            have hn1 : (t.n == n) = false := by simpa using hn
            clear HJ3
            go_wp2_with fail
            go_roundw
            case rel => exact ⟨j + 1, by omega, by go_num, by rw [HSUM.out], trivial, by rw [HSUM.out]; exact HRN.out⟩
            case measure => simp [intOf]; omega
    · have HRN := Lib.hid (show R = none by rw [← HJ.out, List.drop_of_length_le (by omega)]; rfl)
      clear HJ
      go_wp2_with fail
      go_ret
      exact ⟨by rw [HRN.out]; rfl, rfl⟩
end Go.Proofs.YtkfhfegogmlchaaDoor
