/- Several texts in one: see each part's head. -/
import Derived.Test.YtkfhfegogmlchaaDoorJ20
import Derived.Test.YtkfhfegogmlchaaDoorJ18
/- The buffer, in general: a transaction begins. -/
namespace Go.Proofs.YtkfhfegogmlchaaDoor
open Go.RowKit

/-- An append to the buffer's list. -/
theorem wp_append_ptr {o : Oper} {a : Act} {w : World} {K : Act → World → Prop} {Q : Exit → Act → World → Prop} (hgd : o.guard = none) (s x : Operand)
    (ho : o.op = .call { callee := .builtin .append, args := #[s, x], argTypes := #[83, 83] })
    (lo : Nat) (v : Value) (ps : List Nat) (hs : a.eval s = v) (hP : PtrL lo w v ps) (h X : Nat) (hx : a.eval x = .slice (some ⟨h, 0, none⟩) 1 1) (hh : Blk w h #[.pointer (some ⟨X, 0, none⟩)] 90) (hl : ps.length ≤ 1000) (hlo : lo ≤ w.heap.size)
    (hK : ∀ v' w' row, PtrL lo w' v' (ps ++ [X]) → w.grownBy w' row → (∀ g, row = some g → lo ≤ g ∧ ∃ cs f, w.heap[g]? = some (.cells cs 90 f)) → K (a.put o.dst v') w') : Oper.wp Tryd.prog o a w K Q := by
  obtain ⟨i1, hi1, hx0, hx1, hx2⟩ := info_parts info_ptx
  have hcur : ∀ w' v' , w'.ownsRow lo 90 1 v' (ps.length + 1) ((ps.map fun p => Value.pointer (some ⟨p, 0, none⟩)) ++ [.pointer (some ⟨X, 0, none⟩)]) → PtrL lo w' v' (ps ++ [X]) := by
    intro w' v' hown
    obtain ⟨g, cap, rfl, hg1, hg2⟩ := hown.form (by omega)
    have hlt := hown.lt _ rfl
    refine ⟨some ⟨g, 0, none⟩, cap, by simp, fun _ => ⟨g, 0, rfl, hlt.1, hlt.2, fun i p hi => ?_⟩, Or.inl (by simpa using hown)⟩
    have := hown.cells (g := g) rfl i (.pointer (some ⟨p, 0, none⟩)) (by
      have e : ((ps.map fun p => Value.pointer (some ⟨p, 0, none⟩)) ++ [.pointer (some ⟨X, 0, none⟩)]) = (ps ++ [X]).map fun p => Value.pointer (some ⟨p, 0, none⟩) := by simp
      rw [e, List.getElem?_map, hi]
      rfl)
    rw [addr_add] at this
    exact this
  obtain ⟨A, c, rfl, h1, h2⟩ := hP
  rcases h2 with h2 | ⟨rfl, h2⟩
  · refine wp_append_own w s x 83 ho lo 90 i1 _ 1 8 Tryd.underlying83 hi1 hx0 hx1 hx2 rfl (by decide) _ _ _ hs h2 ⟨h, 0, none⟩ 1 1 [.pointer (some ⟨X, 0, none⟩)] hx rfl (cells_blk1 hh) (by simp [Value.oneCell']) (by simp only [maxLen]; omega) (by omega) hlo ?_
    intro v' w' hown hg _
    refine hK v' w' _ (hcur w' v' hown) hg (fun g hgr => ?_)
    rcases h2.2 with ⟨e, _⟩ | ⟨g', cap, cur, e, hb, hh', _⟩
    · rw [e] at hgr; cases hgr
    · rw [e] at hgr
      obtain rfl : g' = g := by simpa [Value.ownBlock] using hgr
      exact ⟨hb, cur, _, hh'⟩
  · refine wp_append_grows hgd s x 83 ho 90 i1 _ 1 8 Tryd.underlying83 hi1 hx0 hx1 hx2 rfl (by decide) A ps.length ps.length (ps.map fun p => .pointer (some ⟨p, 0, none⟩)) hs (fun hn => ?_) (by simp) (fun b hb j u hu => ?_) ⟨h, 0, none⟩ 1 1 [.pointer (some ⟨X, 0, none⟩)] hx rfl (cells_blk1 hh) (by simp [Value.oneCell']) (by omega) (by simp only [maxLen]; omega) (by omega) ?_
    · cases ps with
      | nil => exact ⟨rfl, rfl⟩
      | cons p ps => obtain ⟨g, off, e, _⟩ := h1 (by simp); rw [hn] at e; cases e
    · have hne : ps ≠ [] := by intro e; subst e; simp at hu
      obtain ⟨g, off, e, _, _, hc⟩ := h1 hne
      rw [hb] at e
      obtain rfl := Option.some.inj e
      rw [List.getElem?_map] at hu
      obtain ⟨p, hp, rfl⟩ := Option.map_eq_some_iff.1 hu
      rw [addr_add]
      exact hc j p hp
    · intro v' w' hown hg
      exact hK v' w' none (hcur w' v' (own_base hown hlo)) hg (fun g hgr => by cases hgr)
/-- What last gives. -/
def LastQ (_ : World) (l : List Tb) (q : Value) : Prop := (q = .pointer none ∧ l = []) ∨ ∃ l' t, l = l' ++ [t] ∧ q = .pointer (some ⟨t.X, 0, none⟩)
theorem last_any (B nt : Nat) (bd nx fa : Int) (has : Bool) (l : List Tb) (w : World) (h : BuR B nt bd nx has fa l w) (hl : l.length ≤ 40) :
    Calls Tryd.prog 54 #[.pointer (some ⟨B, 0, none⟩)] w fun r w' => Below w.heap.size w w' ∧ ∃ q, r = .returned q ∧ LastQ w l q := by
  rcases List.eq_nil_or_concat l with rfl | ⟨l', t, rfl⟩
  · obtain ⟨v, hb, A, c, rfl, _⟩ := h.b
    refine (last_none B c A nt bd nx fa has w hb).mono ?_
    rintro r w' ⟨rfl, rfl⟩
    exact ⟨Below.refl _ _, _, rfl, Or.inl ⟨rfl, rfl⟩⟩
  · rw [List.concat_eq_append] at h hl ⊢
    refine (last_some B nt bd nx fa has l' t w h (by simp at hl; omega)).mono ?_
    rintro r w' ⟨rfl, hb⟩
    exact ⟨hb, _, rfl, Or.inr ⟨l', t, rfl, rfl⟩⟩
theorem madeN (n : Nat) : madeCells (Value.int .i64 0).cells (n * 1) = Array.replicate n (Value.int .i64 0) := by
  apply Array.ext
  · simp [madeCells]
  · intro i h1 h2
    simp [madeCells, Value.cells, Nat.mod_one]
theorem madeN_run (n : Nat) (hn : n ≤ 40) (W : World) : (Instr.makeSlice 37 (.int .i64 n) (.int .i64 n)).run Tryd.prog W = .ok (.slice (some ⟨W.heap.size, 0, none⟩) n n) (W.alloc (.cells (Array.replicate n (Value.int .i64 0)) 3)) := by
  obtain ⟨i3, hi3, hy0, hy1, hy2⟩ := info_parts info_i64
  refine (run_makeSlice W 37 3 i3 _ Tryd.underlying37 hi3 hy0 .i64 .i64 n n (by omega) (by omega) (by rw [hy1]; omega) (by rw [hy2]; omega) (by omega)).trans ?_
  rw [hy1, show (n : Int).toNat = n by omega, madeN]
/-- A new transaction: its blocks behind lo. -/
def NewT (lo nt : Nat) (tx : Int) (X N M : Nat) (w : World) : Prop := (lo ≤ X ∧ lo ≤ N ∧ lo ≤ M) ∧ Blk w X #[.int .u64 tx, .pointer none, .slice (some ⟨N, 0, none⟩) nt nt, .map (some M)] 94 ∧ Blk w N (Array.replicate nt (Value.int .i64 0)) 3 ∧ MapE w M
theorem NewT.ext {lo nt : Nat} {tx : Int} {X N M : Nat} {w w' : World} (h : NewT lo nt tx X N M w) (hb : Below w.heap.size w w') : NewT lo nt tx X N M w' := ⟨h.1, h.2.1.ext hb, h.2.2.1.ext hb, h.2.2.2.ext hb⟩
theorem NewT.txr {lo lo' nt : Nat} {tx : Int} {X N M : Nat} {w : World} (h : NewT lo nt tx X N M w) (hl : lo' ≤ lo) : TxR lo' nt ⟨X, N, M, tx, none, List.replicate nt 0, []⟩ w :=
  ⟨Nat.le_trans hl h.1.1, Nat.le_trans hl h.1.2.1, Nat.le_trans hl h.1.2.2, h.2.1, (fun _ hf => by cases hf), by simpa using h.2.2.1, by simp, ⟨h.2.2.2, List.nodup_nil⟩, (fun _ hp => by cases hp)⟩
def wSl (lo nt : Nat) : Known := .mem (fun v w => ∃ N, v = .slice (some ⟨N, 0, none⟩) nt nt ∧ lo ≤ N ∧ Blk w N (Array.replicate nt (Value.int .i64 0)) 3) (fun _ _ _ ⟨N, h, l, h1⟩ hb => ⟨N, h, l, h1.ext hb⟩)
def wTx (lo nt : Nat) (tx : Int) : Known := .mem (fun v w => ∃ N M, v = .agg #[.int .u64 tx, .pointer none, .slice (some ⟨N, 0, none⟩) nt nt, .map (some M)] ∧ (lo ≤ N ∧ lo ≤ M) ∧ Blk w N (Array.replicate nt (Value.int .i64 0)) 3 ∧ MapE w M) (fun _ _ _ ⟨N, M, h, l, h1, h2⟩ hb => ⟨N, M, h, l, h1.ext hb, h2.ext hb⟩)
def wTxP (lo nt : Nat) (tx : Int) : Known := .mem (fun v w => ∃ X N M, v = .pointer (some ⟨X, 0, none⟩) ∧ NewT lo nt tx X N M w) (fun _ _ _ ⟨X, N, M, h, h0⟩ hb => ⟨X, N, M, h, h0.ext hb⟩)
def wTxS (lo nt : Nat) (tx : Int) : Known := .mem (fun v w => ∃ h X N M, v = .slice (some ⟨h, 0, none⟩) 1 1 ∧ Blk w h #[.pointer (some ⟨X, 0, none⟩)] 90 ∧ NewT lo nt tx X N M w) (fun _ _ _ ⟨g, X, N, M, h, hg, h0⟩ hb => ⟨g, X, N, M, h, hg.ext hb, h0.ext hb⟩)
def BegOk (nx tx : Int) (has : Bool) (l : List Tb) : Prop := (l = [] → has = true → nx = tx) ∧ ∀ l' t, l = l' ++ [t] → (∃ f, t.fin = some f) ∧ IntKind.u64.wrap (t.n + 1) = tx ∧ tx ≠ 0
end Go.Proofs.YtkfhfegogmlchaaDoor

/- The buffer, in general: a transaction's end. -/
namespace Go.Proofs.YtkfhfegogmlchaaDoor
open Go.RowKit

/-- What is turned is far from this transaction. -/
theorem TxR.far {lo nt : Nat} {t : Tb} {w w' : World} {g : Nat} (h : TxR lo nt t w) (hg : w.grownBy w' (some g)) (ho : ∀ cs T f, w.heap[g]? = some (.cells cs T f) → T ≠ 50 ∧ T ≠ 29 ∧ T ≠ 97 ∧ (T = 94 → t.X ≠ g) ∧ (T = 3 → ∀ b ∈ t.ints, b ≠ g)) (hm : ∀ es c, w.heap[g]? = some (.map es c) → t.M ≠ g) : TxR lo nt t w' := by
  have keep : ∀ b, b < w.heap.size → b ≠ g → w'.heap[b]? = w.heap[b]? := fun b hb hne => hg.block b hb (fun e => hne (Option.some.inj e))
  have row : ∀ {base e size n : Nat} {v : Value} {xs : List Value}, w.ownsRow base e size v n xs → (∀ b, v.ownBlock = some b → b ≠ g) → w'.ownsRow base e size v n xs := fun {base e size n v xs} h1 h2 =>
    own_grown h1 hg (Or.inr (fun e => h2 g e rfl))
  have typ : ∀ {base e size n : Nat} {v : Value} {xs : List Value}, w.ownsRow base e size v n xs → (∀ cs T f, w.heap[g]? = some (.cells cs T f) → T = e → v.ownBlock ≠ some g) → ∀ b, v.ownBlock = some b → b ≠ g := fun {base e size n v xs} h1 h2 b hb hbg => by
    subst hbg
    rcases h1.2 with ⟨rfl, _⟩ | ⟨g', cap, cur, rfl, _, hh, _⟩
    · cases hb
    · have hb0 := hb
      obtain rfl : g' = b := by simpa [Value.ownBlock] using hb
      exact h2 _ _ _ hh rfl hb0
  refine ⟨h.lx, h.ln, h.lm, ?_, fun f hf => ?_, ?_, h.l, ⟨?_, h.m.2⟩, fun p hp => ?_⟩
  · exact (keep _ h.x.lt (fun e => by have hx := h.x; rw [e] at hx; exact (ho _ _ _ hx).2.2.2.1 rfl e)).trans h.x
  · obtain ⟨h1, ⟨b1, h2⟩, ⟨b2, h3⟩, h4⟩ := h.f f hf
    refine ⟨(keep _ h1.lt (fun e => ?_)).trans h1, ⟨b1, row h2 (typ h2 fun cs T f' hc e eb => ?_)⟩, ⟨b2, row h3 (typ h3 fun cs T f hc e => absurd e (ho cs T f hc).2.1)⟩, h4⟩
    · subst e
      exact (ho _ _ _ h1).1 rfl
    · have eb' : f.gc = g := by simpa [Value.ownBlock] using eb
      exact (ho cs T f' hc).2.2.2.2 e _ (by simp [Tb.ints, hf]) eb'
  · exact (keep _ h.n.lt (fun e => by have hx := h.n; rw [e] at hx; exact (ho _ _ _ hx).2.2.2.2 rfl _ (by simp [Tb.ints]) e)).trans h.n
  · obtain ⟨es, clock, hb, r⟩ := h.m.1
    exact ⟨es, clock, (keep _ h.m.1.lt (fun e => by rw [e] at hb; exact hm _ _ hb e)).trans hb, r⟩
  · obtain ⟨A, c, A2, c2, h1, ⟨⟨b1, h2⟩, h2'⟩, ⟨⟨b2, h3⟩, h3'⟩⟩ := h.e p hp
    exact ⟨A, c, A2, c2, h1, ⟨⟨b1, row h2 (typ h2 fun cs T f hc e => absurd e (ho cs T f hc).2.2.1)⟩, h2'⟩, ⟨⟨b2, row h3 (typ h3 fun cs T f hc e => absurd e (ho cs T f hc).2.2.1)⟩, h3'⟩⟩
/-- .. of a block that is told. -/
theorem TxR.farB {lo nt : Nat} {t : Tb} {w w' : World} {g : Nat} {cs : Array Value} {T : TypeId} (h : TxR lo nt t w) (hg : w.grownBy w' (some g)) (hb : Blk w g cs T) (h1 : T ≠ 50) (h2 : T ≠ 29) (h3 : T ≠ 97) (h4 : T = 94 → t.X ≠ g) (h5 : T = 3 → ∀ b ∈ t.ints, b ≠ g) : TxR lo nt t w' := by
  unfold Blk at hb
  refine h.far hg (fun cs' T' f hc => ?_) (fun es c hc => ?_)
  · rw [hb] at hc
    simp only [Option.some.injEq, Obj.cells.injEq] at hc
    obtain ⟨_, rfl, _⟩ := hc
    exact ⟨h1, h2, h3, h4, h5⟩
  · rw [hb] at hc
    cases hc
theorem Dis.fin {lo nt : Nat} {t : Tb} {l : List Tb} {w : World} {f : Fi} (h : Dis (l ++ [t])) (hl : ∀ u ∈ l ++ [t], TxR lo nt u w) (hn : t.fin = none) (hs : w.heap.size ≤ f.gc) : Dis (l ++ [{ t with fin := some f }]) := by
  obtain ⟨d1, d2, d3⟩ := h
  have e : t.ints = [t.N] := by unfold Tb.ints; rw [hn]
  have e2 : ({ t with fin := some f } : Tb).ints = [t.N, f.gc] := rfl
  refine ⟨by simpa using d1, by simpa using d2, ?_⟩
  rw [List.flatMap_append, List.nodup_append] at d3 ⊢
  have hN : t.N ≠ f.gc := by have := (hl t (by simp)).lts.2.1; omega
  refine ⟨d3.1, by simpa [e2] using hN, fun a ha b hb => ?_⟩
  have hb' : b = t.N ∨ b = f.gc := by simpa [e2] using hb
  rcases hb' with rfl | rfl
  · exact d3.2.2 a ha _ (by simp [e])
  · obtain ⟨u, hu, hau⟩ := List.mem_flatMap.1 ha
    have := (hl u (by simp [hu])).lts.2.2.2 a hau
    omega
def wCl (lo : Nat) (k : IntKind) (e : TypeId) (l : List Int) : Known := .mem (fun v w => ∃ g c, v = .slice (some ⟨g, 0, none⟩) l.length c ∧ lo ≤ g ∧ w.ownsRow lo e 1 (.slice (some ⟨g, 0, none⟩) l.length c) l.length (l.map (Value.int k))) (fun _ _ _ ⟨g, c, h, l, h1⟩ hb => ⟨g, c, h, l, own_below h1 hb⟩)
/-- A mark's counts and places. -/
structure CntOk (cnt sq : List Int) (w : World) (C S : Option Addr) : Prop where
  c : NRow .i64 w C cnt
  s : NRow .u64 w S sq
  cn : cnt ≠ []
  sn : sq ≠ []
  cl : cnt.length ≤ 40
  sl : sq.length ≤ 40
  cb : ∀ v ∈ cnt, 0 ≤ v ∧ v ≤ 4096
end Go.Proofs.YtkfhfegogmlchaaDoor

/- Several texts in one: see each part's head. -/
/- BufferNil: Mark, at the states of the chapter's example. -/
namespace Go.Proofs.YtkfhfegogmlchaaDoor
open Go.RowKit

theorem nrow_one {w : World} {b : Nat} {q : IntKind} {v : Int} (h : w.cell? ⟨b, 0, none⟩ = some (.int q v)) : NRow q w (some ⟨b, 0, none⟩) [v] := by
  refine ⟨by simp, fun _ => ⟨b, 0, rfl, cell_lt h, fun i u hi => ?_⟩⟩
  match i, hi with
  | 0, hi =>
    have : u = v := by simpa using hi.symm
    subst this
    exact h
  | i + 1, hi => simp at hi
set_option maxRecDepth 100000 in
set_option maxHeartbeats 800000 in
theorem mark1_begin (p q B sb : Nat) (A : Option Addr) (nx s : Int) (w : World) (hp : Blk w p #[.int .u8 1, .int .u64 nx, .slice none 0 0, .slice (some ⟨sb, 0, none⟩) 1 1] 50) (hq : Blk w q #[.pointer (some ⟨B, 0, none⟩)] 42)
    (hb : Blk w B #[.int .i64 1, .int .i64 2, .int .u64 nx, .bool true, .slice A 0 0, .int .i64 0] 85) (hn : 0 ≤ nx ∧ nx ≤ 100) (hs : 0 ≤ s ∧ s ≤ 100) :
    Calls Tryd.prog 40 #[.pointer (some ⟨p, 0, none⟩), .pointer (some ⟨q, 0, none⟩)] w (BegunP nx B w) := by
  have HCM := Lib.hid (fun (W : World) (hW : Below w.heap.size w W) => (show Calls Tryd.prog 41 #[.agg #[.int .u8 1, .int .u64 nx, .slice none 0 0, .slice (some ⟨sb, 0, none⟩) 1 1]] W fun e w' => e = .returned (.int .i64 0) ∧ Below W.heap.size W w' from
    ckmark_any ⟨1, nx, [], [s]⟩ none (some ⟨sb, 0, none⟩) 0 1 W ⟨by simp, by simp; omega, by simp, by simp; omega⟩ (NRow.nil _ _ _) (by simp)))
  have HBG := Lib.hid (fun (W : World) (hW : Below w.heap.size w W) => begin_ok B A none (some ⟨sb, 0, none⟩) 0 0 1 1 nx W (hb.ext hW))
  have HP := Lib.hid hp
  have HQ := Lib.hid hq
  have HB := Lib.hid hb
  have hBl := hb.lt
  clear hp hq hb
  go_enter Tryd.func40, Tryd.ntmps40
  go_upto_region 1 with fail
  refine region_grow [false, false, false, false, true, true, true, true, true, true, true, true, true, true, true, true, true, false, false, false, false, false, false, false, false, false, false, false, false, false] [4, 5, 6, 7, 8, 9, 10, 11, 12, 13, 14, 15, 16] [.val (.agg #[.int .u8 1, .int .u64 nx, .slice none 0 0, .slice (some ⟨sb, 0, none⟩) 1 1]), .val (.int .i64 0), .val (.bool false), .val (.bool false), .val (.pointer (some ⟨p, 3, none⟩)), .val (.slice (some ⟨sb, 0, none⟩) 1 1), .val (.int .i64 1), .val (.pointer (some ⟨B, 0, none⟩)), .val (.pointer (some ⟨B, 0, none⟩)), .val (.pointer (some ⟨B, 0, none⟩)), .val (.int .i64 1), .val (.bool false), .val (.bool false)] [12] (by kernel_rfl) (by kernel_rfl) (by kernel_rfl) (by kernel_rfl) (by kernel_rfl) ⟨?_, ?_, ?_, ?_, ?_, ?_, ?_, ?_, ?_, ?_, ?_, ?_, ?_, trivial⟩ ?done
  case done =>
    intro x w5 hb5
    simp only [StepGoal, overlay, upd, cond_true, cond_false, List.getD_cons_zero, List.getD_cons_succ, Nat.zero_add, Nat.reduceAdd, Nat.reduceEqDiff, reduceIte]
    have HP := Lib.hid (HP.out.ext hb5)
    have HQ := Lib.hid (HQ.out.ext hb5)
    have HC := Lib.hid hb5
    clear hb5
    have p0 := HP.out.cell 0
    have p1 := HP.out.cell 1
    have p2 := HP.out.cell 2
    have p3 := HP.out.cell 3
    have q0 := HQ.out.cell 0
    have lP := HP.out.lt
    have lQ := HQ.out.lt
    simp only [List.getElem?_toArray, List.getElem?_cons_zero, List.getElem?_cons_succ] at p0 p1 p2 p3 q0
    go_wp2_with fail
    refine (HBG.out w5 HC.out).mono ?_
    rintro r w6 ⟨hbel, g, cg, base, X, N, M, rfl, h1, h2⟩
    go_wp2_with fail
    go_ret2
    exact ⟨(HC.out.mono (Nat.le_of_lt hBl)).trans hbel, g, cg, base, X, N, M, rfl, h1, h2⟩
  all_goals
    intro x w5 hb5
    intro K hK
    have hP := HP.out.ext hb5
    have hQ := HQ.out.ext hb5
    have hB := HB.out.ext hb5
    have p0 := hP.cell 0
    have p1 := hP.cell 1
    have p2 := hP.cell 2
    have p3 := hP.cell 3
    have q0 := hQ.cell 0
    have b0 := hB.cell 0
    have lP := hP.lt
    have lQ := hQ.lt
    have lB := hB.lt
    simp only [List.getElem?_toArray, List.getElem?_cons_zero, List.getElem?_cons_succ] at p0 p1 p2 p3 q0 b0
    rw [if_pos (by rfl)]; simp only [overlay, upd, cond_true, cond_false, List.getD_cons_zero, List.getD_cons_succ, Nat.reduceEqDiff, reduceIte]
    go_simp
    first
      | exact hK.out _ _ (Below.refl _ _) rfl
      | ((with_reducible refine (HCM.out _ hb5).mono ?_); rintro e wa ⟨rfl, hba⟩; go_wp2_with fail; exact hK.out _ _ hba rfl)
set_option maxRecDepth 100000 in
set_option maxHeartbeats 800000 in
theorem mark1_end (p q B g cg base X N M cb sb : Nat) (nx k s : Int) (w : World) (hp : Blk w p #[.int .u8 2, .int .u64 nx, .slice (some ⟨cb, 0, none⟩) 1 1, .slice (some ⟨sb, 0, none⟩) 1 1] 50) (hq : Blk w q #[.pointer (some ⟨B, 0, none⟩)] 42)
    (hbg : Bg nx 0 B g cg base X w) (ht : TxI B nx X N M w) (hc : w.cell? ⟨cb, 0, none⟩ = some (.int .i64 k)) (hs : w.cell? ⟨sb, 0, none⟩ = some (.int .u64 s)) (hn : 0 ≤ nx ∧ nx ≤ 100) (hk : 0 ≤ k ∧ k ≤ 100) (hs0 : 0 ≤ s ∧ s ≤ 100) :
    Calls Tryd.prog 40 #[.pointer (some ⟨p, 0, none⟩), .pointer (some ⟨q, 0, none⟩)] w (FinP nx k B w) := by
  have hmk : mkB ⟨2, nx, [k], [s]⟩ = true := by unfold mkB cntB; simp; omega
  have HCM := Lib.hid (fun (W : World) (hW : Below w.heap.size w W) => (show Calls Tryd.prog 41 #[.agg #[.int .u8 2, .int .u64 nx, .slice (some ⟨cb, 0, none⟩) 1 1, .slice (some ⟨sb, 0, none⟩) 1 1]] W fun e w' => e = .returned (.int .i64 0) ∧ Below W.heap.size W w' from by
    have h := ckmark_any ⟨2, nx, [k], [s]⟩ (some ⟨cb, 0, none⟩) (some ⟨sb, 0, none⟩) 1 1 W ⟨by simp, by simp; omega, by simp; omega, by simp; omega⟩ ((nrow_one hc).ext hW) (by simp)
    rw [okE_t' hmk] at h
    exact h))
  have HFN := Lib.hid (fun (W : World) (hW : Below w.heap.size w W) => finish_any B g cg base X N M cb 1 sb 1 nx k s W ⟨hbg.1.ext hW, own_below hbg.2 hW⟩ (ht.ext hW) ((hW.cell (p := ⟨cb, 0, none⟩) (cell_lt hc)).trans hc) ((hW.cell (p := ⟨sb, 0, none⟩) (cell_lt hs)).trans hs) hk)
  have HP := Lib.hid hp
  have HQ := Lib.hid hq
  have HB := Lib.hid hbg.1
  have hBl := hbg.1.lt
  clear hp hq hbg ht hc hs hmk
  go_enter Tryd.func40, Tryd.ntmps40
  go_upto_region 1 with fail
  refine region_grow [false, false, false, false, true, true, true, true, true, true, true, true, true, true, true, true, true, false, false, false, false, false, false, false, false, false, false, false, false, false] [4, 5, 6, 7, 8, 9, 10, 11, 12, 13, 14, 15, 16] [.val (.agg #[.int .u8 2, .int .u64 nx, .slice (some ⟨cb, 0, none⟩) 1 1, .slice (some ⟨sb, 0, none⟩) 1 1]), .val (.int .i64 0), .val (.bool false), .val (.bool false), .val (.pointer (some ⟨p, 3, none⟩)), .val (.slice (some ⟨sb, 0, none⟩) 1 1), .val (.int .i64 1), .val (.pointer (some ⟨B, 0, none⟩)), .val (.pointer (some ⟨B, 0, none⟩)), .val (.pointer (some ⟨B, 0, none⟩)), .val (.int .i64 1), .val (.bool false), .val (.bool false)] [12] (by kernel_rfl) (by kernel_rfl) (by kernel_rfl) (by kernel_rfl) (by kernel_rfl) ⟨?_, ?_, ?_, ?_, ?_, ?_, ?_, ?_, ?_, ?_, ?_, ?_, ?_, trivial⟩ ?done
  case done =>
    intro x w5 hb5
    simp only [StepGoal, overlay, upd, cond_true, cond_false, List.getD_cons_zero, List.getD_cons_succ, Nat.zero_add, Nat.reduceAdd, Nat.reduceEqDiff, reduceIte]
    have HP := Lib.hid (HP.out.ext hb5)
    have HQ := Lib.hid (HQ.out.ext hb5)
    have HC := Lib.hid hb5
    clear hb5
    have p0 := HP.out.cell 0
    have p1 := HP.out.cell 1
    have p2 := HP.out.cell 2
    have p3 := HP.out.cell 3
    have q0 := HQ.out.cell 0
    have lP := HP.out.lt
    have lQ := HQ.out.lt
    simp only [List.getElem?_toArray, List.getElem?_cons_zero, List.getElem?_cons_succ] at p0 p1 p2 p3 q0
    go_wp2_with fail
    refine (HFN.out w5 HC.out).mono ?_
    rintro r w6 ⟨hbel, g2, cg2, base2, X2, N2, M2, h1, h⟩
    have HBL := Lib.hid ((HC.out.mono (Nat.le_of_lt hBl)).trans hbel)
    rcases h with ⟨hk2, rfl, h2⟩ | ⟨hk2, rfl, h2⟩
    · go_wp2_with fail
      go_ret2
      exact ⟨HBL.out, g2, cg2, base2, X2, N2, M2, h1, Or.inl ⟨hk2, rfl, h2⟩⟩
    · go_wp2_with fail
      go_ret2
      exact ⟨HBL.out, g2, cg2, base2, X2, N2, M2, h1, Or.inr ⟨hk2, rfl, h2⟩⟩
  all_goals
    intro x w5 hb5
    intro K hK
    have hP := HP.out.ext hb5
    have hQ := HQ.out.ext hb5
    have hB := HB.out.ext hb5
    have p0 := hP.cell 0
    have p1 := hP.cell 1
    have p2 := hP.cell 2
    have p3 := hP.cell 3
    have q0 := hQ.cell 0
    have b0 := hB.cell 0
    have lP := hP.lt
    have lQ := hQ.lt
    have lB := hB.lt
    simp only [List.getElem?_toArray, List.getElem?_cons_zero, List.getElem?_cons_succ] at p0 p1 p2 p3 q0 b0
    rw [if_pos (by rfl)]; simp only [overlay, upd, cond_true, cond_false, List.getD_cons_zero, List.getD_cons_succ, Nat.reduceEqDiff, reduceIte]
    go_simp
    first
      | exact hK.out _ _ (Below.refl _ _) rfl
      | ((with_reducible refine (HCM.out _ hb5).mono ?_); rintro e wa ⟨rfl, hba⟩; go_wp2_with fail; exact hK.out _ _ hba rfl)
/-- taken, of a buffer that is not stuck, where what is done answers OK. -/
def OkA (Q : Bool → World → Prop) (r : Ending) (w' : World) : Prop := ∃ is, r = .returned (.tuple #[.bool is, .int .i64 0]) ∧ Q is w'
set_option maxRecDepth 100000 in
theorem taken_mark (B n c p q : Nat) (A : Option Addr) (nx : Int) (Q : Bool → World → Prop) (w : World) (hb : Blk w B #[.int .i64 1, .int .i64 2, .int .u64 nx, .bool true, .slice A n c, .int .i64 0] 85)
    (hd : Calls Tryd.prog 40 #[.pointer (some ⟨p, 0, none⟩), .pointer (some ⟨q, 0, none⟩)] w (OkA Q)) :
    Calls Tryd.prog 36 #[.pointer (some ⟨B, 0, none⟩), .func (.func 22) #[.pointer (some ⟨B, 0, none⟩)] #[], .func (.func 40) #[] #[.pointer (some ⟨p, 0, none⟩), .pointer (some ⟨q, 0, none⟩)]] w (OkA Q) := by
  have HF := Lib.hid (fault_ok B n c A 1 2 nx 0 true w hb)
  have HD := Lib.hid hd
  clear hb hd
  go_enter Tryd.func36, Tryd.ntmps36
  go_wp2_with fail
  refine HF.out.mono ?_
  rintro r w1 ⟨rfl, rfl⟩
  go_wp2_with fail
  refine HD.out.mono ?_
  rintro r w2 ⟨is, rfl, hq⟩
  have HQ := Lib.hid hq
  clear hq
  go_wp2_with fail
  go_ret2
  exact ⟨is, rfl, HQ.out⟩
set_option maxRecDepth 100000 in
theorem taken_event (B n c p q : Nat) (A : Option Addr) (nx : Int) (Q : Bool → World → Prop) (w : World) (hb : Blk w B #[.int .i64 1, .int .i64 2, .int .u64 nx, .bool true, .slice A n c, .int .i64 0] 85)
    (hd : Calls Tryd.prog 37 #[.pointer (some ⟨p, 0, none⟩), .pointer (some ⟨q, 0, none⟩)] w (OkA Q)) :
    Calls Tryd.prog 36 #[.pointer (some ⟨B, 0, none⟩), .func (.func 22) #[.pointer (some ⟨B, 0, none⟩)] #[], .func (.func 37) #[] #[.pointer (some ⟨p, 0, none⟩), .pointer (some ⟨q, 0, none⟩)]] w (OkA Q) := by
  have HF := Lib.hid (fault_ok B n c A 1 2 nx 0 true w hb)
  have HD := Lib.hid hd
  clear hb hd
  go_enter Tryd.func36, Tryd.ntmps36
  go_wp2_with fail
  refine HF.out.mono ?_
  rintro r w1 ⟨rfl, rfl⟩
  go_wp2_with fail
  refine HD.out.mono ?_
  rintro r w2 ⟨is, rfl, hq⟩
  have HQ := Lib.hid hq
  clear hq
  go_wp2_with fail
  go_ret2
  exact ⟨is, rfl, HQ.out⟩
/-- taken, where what is done answers ErrBig: the buffer sticks. -/
def BigA (Q : World → Prop) (r : Ending) (w' : World) : Prop := r = .returned (.tuple #[.bool false, .int .i64 231]) ∧ Q w'
set_option maxRecDepth 100000 in
theorem taken_big (B n c p q : Nat) (A : Option Addr) (nx : Int) (Q : World → Prop) (w : World) (hb : Blk w B #[.int .i64 1, .int .i64 2, .int .u64 nx, .bool true, .slice A n c, .int .i64 0] 85)
    (hQ : ∀ W, Q W → ∃ (A' : Option Addr) (n' c' : Nat), Blk W B #[.int .i64 1, .int .i64 2, .int .u64 nx, .bool true, .slice A' n' c', .int .i64 0] 85)
    (hd : Calls Tryd.prog 40 #[.pointer (some ⟨p, 0, none⟩), .pointer (some ⟨q, 0, none⟩)] w (BigA Q)) :
    Calls Tryd.prog 36 #[.pointer (some ⟨B, 0, none⟩), .func (.func 22) #[.pointer (some ⟨B, 0, none⟩)] #[], .func (.func 40) #[] #[.pointer (some ⟨p, 0, none⟩), .pointer (some ⟨q, 0, none⟩)]] w
      fun r w' => r = .returned (.tuple #[.bool false, .int .i64 231]) ∧ ∃ W A' n' c', Q W ∧ Blk W B #[.int .i64 1, .int .i64 2, .int .u64 nx, .bool true, .slice A' n' c', .int .i64 0] 85 ∧ w' = putBlk W B #[.int .i64 1, .int .i64 2, .int .u64 nx, .bool true, .slice A' n' c', .int .i64 231] 85 := by
  have HF := Lib.hid (fault_ok B n c A 1 2 nx 0 true w hb)
  have HD := Lib.hid hd
  have HQ := Lib.hid hQ
  clear hb hd hQ
  go_enter Tryd.func36, Tryd.ntmps36
  go_wp2_with fail
  refine HF.out.mono ?_
  rintro r w1 ⟨rfl, rfl⟩
  go_wp2_with fail
  refine HD.out.mono ?_
  rintro r w2 ⟨rfl, hq⟩
  obtain ⟨A2, n2, c2, hb2⟩ := HQ.out w2 hq
  have HB2 := Lib.hid hb2
  have HQ2 := Lib.hid hq
  clear hq HQ HF HD
  have e1 : putBlk w2 B #[.int .i64 1, .int .i64 2, .int .u64 nx, .bool true, .slice A2 n2 c2, .int .i64 0] 85 = w2 := putBlk_self hb2
  have lt := hb2.lt
  obtain ⟨pc, pf, pS⟩ := putBlk_facts (w := w2) 85 lt
  clear hb2
  have HE := Lib.hid e1
  rw [← e1]
  clear e1
  go_wp2_with fail
  go_ret2
  exact ⟨rfl, w2, A2, n2, c2, HQ2.out, HB2.out, rfl⟩
end Go.Proofs.YtkfhfegogmlchaaDoor

/- BufferNil: Mark and Event, at the states of the chapter's example. -/
namespace Go.Proofs.YtkfhfegogmlchaaDoor
open Go.RowKit

set_option maxRecDepth 100000 in
theorem mark_begin (B sb : Nat) (A : Option Addr) (nx s : Int) (w : World) (hb : Blk w B #[.int .i64 1, .int .i64 2, .int .u64 nx, .bool true, .slice A 0 0, .int .i64 0] 85) (hn : 0 ≤ nx ∧ nx ≤ 100) (hs : 0 ≤ s ∧ s ≤ 100) :
    Calls Tryd.prog 20 #[.pointer (some ⟨B, 0, none⟩), .agg #[.int .u8 1, .int .u64 nx, .slice none 0 0, .slice (some ⟨sb, 0, none⟩) 1 1]] w (BegunP nx B w) := by
  have hC : Below w.heap.size w ((w.alloc (.cells #[.pointer (some ⟨B, 0, none⟩)] 42)).alloc (.cells #[.int .u8 1, .int .u64 nx, .slice none 0 0, .slice (some ⟨sb, 0, none⟩) 1 1] 50)) := (by repeat (first | exact Below.refl _ _ | assumption | refine Below.drew ?_ | refine below_drewN ?_ _ | refine Below.alloc ?_ (by simp <;> omega) _))
  have hq : Blk ((w.alloc (.cells #[.pointer (some ⟨B, 0, none⟩)] 42)).alloc (.cells #[.int .u8 1, .int .u64 nx, .slice none 0 0, .slice (some ⟨sb, 0, none⟩) 1 1] 50)) w.heap.size #[.pointer (some ⟨B, 0, none⟩)] 42 := (Blk.new w _ _).old _
  have hp : Blk ((w.alloc (.cells #[.pointer (some ⟨B, 0, none⟩)] 42)).alloc (.cells #[.int .u8 1, .int .u64 nx, .slice none 0 0, .slice (some ⟨sb, 0, none⟩) 1 1] 50)) (w.heap.size + 1) #[.int .u8 1, .int .u64 nx, .slice none 0 0, .slice (some ⟨sb, 0, none⟩) 1 1] 50 := (by repeat (first | exact Blk.at (by simp) | assumption | refine Blk.drew ?_ | refine Blk.old ?_ _))
  have HTK := Lib.hid (taken_mark B 0 0 (w.heap.size + 1) w.heap.size A nx (fun is W => BegunP nx B w (.returned (.tuple #[.bool is, .int .i64 0])) W) _ (hb.ext hC) ((mark1_begin (w.heap.size + 1) w.heap.size B sb A nx s _ hp hq (hb.ext hC) hn hs).mono (by
    rintro r w1 ⟨hbel, g, cg, base, X, N, M, rfl, h1, h2⟩
    exact ⟨true, rfl, (hC.mono (Nat.le_of_lt hb.lt)).trans hbel, g, cg, base, X, N, M, rfl, h1, h2⟩)))
  clear hC hq hp hb
  go_enter Tryd.func20, Tryd.ntmps20
  go_wp2_with fail
  refine HTK.out.mono ?_
  rintro r w2 ⟨is, rfl, hq⟩
  have HQ := Lib.hid hq
  clear hq HTK
  go_wp2_with fail
  go_ret2
  exact HQ.out
set_option maxRecDepth 100000 in
theorem mark_end (B g cg base X N M cb sb : Nat) (nx k s : Int) (w : World) (hbg : Bg nx 0 B g cg base X w) (ht : TxI B nx X N M w) (hc : w.cell? ⟨cb, 0, none⟩ = some (.int .i64 k)) (hs : w.cell? ⟨sb, 0, none⟩ = some (.int .u64 s)) (hn : 0 ≤ nx ∧ nx ≤ 100) (hk : 0 ≤ k ∧ k ≤ 2) (hs0 : 0 ≤ s ∧ s ≤ 100) :
    Calls Tryd.prog 20 #[.pointer (some ⟨B, 0, none⟩), .agg #[.int .u8 2, .int .u64 nx, .slice (some ⟨cb, 0, none⟩) 1 1, .slice (some ⟨sb, 0, none⟩) 1 1]] w
      fun r w' => r = .returned (.tuple #[.bool true, .int .i64 0]) ∧ Below B w w' ∧ ∃ g cg base X N M E, Bg nx 0 B g cg base X w' ∧ TxE B nx k X N M E w' := by
  have hC : Below w.heap.size w ((w.alloc (.cells #[.pointer (some ⟨B, 0, none⟩)] 42)).alloc (.cells #[.int .u8 2, .int .u64 nx, .slice (some ⟨cb, 0, none⟩) 1 1, .slice (some ⟨sb, 0, none⟩) 1 1] 50)) := (by repeat (first | exact Below.refl _ _ | assumption | refine Below.drew ?_ | refine below_drewN ?_ _ | refine Below.alloc ?_ (by simp <;> omega) _))
  have hq : Blk ((w.alloc (.cells #[.pointer (some ⟨B, 0, none⟩)] 42)).alloc (.cells #[.int .u8 2, .int .u64 nx, .slice (some ⟨cb, 0, none⟩) 1 1, .slice (some ⟨sb, 0, none⟩) 1 1] 50)) w.heap.size #[.pointer (some ⟨B, 0, none⟩)] 42 := (Blk.new w _ _).old _
  have hp : Blk ((w.alloc (.cells #[.pointer (some ⟨B, 0, none⟩)] 42)).alloc (.cells #[.int .u8 2, .int .u64 nx, .slice (some ⟨cb, 0, none⟩) 1 1, .slice (some ⟨sb, 0, none⟩) 1 1] 50)) (w.heap.size + 1) #[.int .u8 2, .int .u64 nx, .slice (some ⟨cb, 0, none⟩) 1 1, .slice (some ⟨sb, 0, none⟩) 1 1] 50 := (by repeat (first | exact Blk.at (by simp) | assumption | refine Blk.drew ?_ | refine Blk.old ?_ _))
  have HTK := Lib.hid (taken_mark B 1 cg (w.heap.size + 1) w.heap.size (some ⟨g, 0, none⟩) nx (fun is W => is = true ∧ Below B w W ∧ ∃ g cg base X N M E, Bg nx 0 B g cg base X W ∧ TxE B nx k X N M E W) _ (hbg.1.ext hC)
    ((mark1_end (w.heap.size + 1) w.heap.size B g cg base X N M cb sb nx k s _ hp hq ⟨hbg.1.ext hC, own_below hbg.2 hC⟩ (ht.ext hC) ((hC.cell (p := ⟨cb, 0, none⟩) (cell_lt hc)).trans hc) ((hC.cell (p := ⟨sb, 0, none⟩) (cell_lt hs)).trans hs) hn ⟨hk.1, by omega⟩ hs0).mono (by
      rintro r w1 ⟨hbel, g, cg, base, X, N, M, h1, ⟨_, rfl, E, h2⟩ | ⟨h3, _⟩⟩
      · exact ⟨true, rfl, rfl, (hC.mono (Nat.le_of_lt hbg.1.lt)).trans hbel, g, cg, base, X, N, M, E, h1, h2⟩
      · omega)))
  clear hC hq hp hbg ht hc hs
  go_enter Tryd.func20, Tryd.ntmps20
  go_wp2_with fail
  refine HTK.out.mono ?_
  rintro r w2 ⟨is, rfl, rfl, hq⟩
  have HQ := Lib.hid hq
  clear hq HTK
  go_wp2_with fail
  go_ret2
  exact ⟨rfl, HQ.out⟩
set_option maxRecDepth 100000 in
theorem mark_big (B g cg base X N M cb sb : Nat) (nx k s : Int) (w : World) (hbg : Bg nx 0 B g cg base X w) (ht : TxI B nx X N M w) (hc : w.cell? ⟨cb, 0, none⟩ = some (.int .i64 k)) (hs : w.cell? ⟨sb, 0, none⟩ = some (.int .u64 s)) (hn : 0 ≤ nx ∧ nx ≤ 100) (hk : 2 < k ∧ k ≤ 100) (hs0 : 0 ≤ s ∧ s ≤ 100) :
    Calls Tryd.prog 20 #[.pointer (some ⟨B, 0, none⟩), .agg #[.int .u8 2, .int .u64 nx, .slice (some ⟨cb, 0, none⟩) 1 1, .slice (some ⟨sb, 0, none⟩) 1 1]] w
      fun r w' => r = .returned (.tuple #[.bool false, .int .i64 231]) ∧ Below B w w' ∧ ∃ g cg base X N M, Bg nx 231 B g cg base X w' ∧ TxI B nx X N M w' := by
  have hC : Below w.heap.size w ((w.alloc (.cells #[.pointer (some ⟨B, 0, none⟩)] 42)).alloc (.cells #[.int .u8 2, .int .u64 nx, .slice (some ⟨cb, 0, none⟩) 1 1, .slice (some ⟨sb, 0, none⟩) 1 1] 50)) := (by repeat (first | exact Below.refl _ _ | assumption | refine Below.drew ?_ | refine below_drewN ?_ _ | refine Below.alloc ?_ (by simp <;> omega) _))
  have hq : Blk ((w.alloc (.cells #[.pointer (some ⟨B, 0, none⟩)] 42)).alloc (.cells #[.int .u8 2, .int .u64 nx, .slice (some ⟨cb, 0, none⟩) 1 1, .slice (some ⟨sb, 0, none⟩) 1 1] 50)) w.heap.size #[.pointer (some ⟨B, 0, none⟩)] 42 := (Blk.new w _ _).old _
  have hp : Blk ((w.alloc (.cells #[.pointer (some ⟨B, 0, none⟩)] 42)).alloc (.cells #[.int .u8 2, .int .u64 nx, .slice (some ⟨cb, 0, none⟩) 1 1, .slice (some ⟨sb, 0, none⟩) 1 1] 50)) (w.heap.size + 1) #[.int .u8 2, .int .u64 nx, .slice (some ⟨cb, 0, none⟩) 1 1, .slice (some ⟨sb, 0, none⟩) 1 1] 50 := (by repeat (first | exact Blk.at (by simp) | assumption | refine Blk.drew ?_ | refine Blk.old ?_ _))
  have HTK := Lib.hid (taken_big B 1 cg (w.heap.size + 1) w.heap.size (some ⟨g, 0, none⟩) nx (fun W => Below B w W ∧ ∃ g cg base X N M, Bg nx 0 B g cg base X W ∧ TxI B nx X N M W) _ (hbg.1.ext hC) (fun W ⟨_, g, cg, base, X, N, M, h, _⟩ => ⟨_, _, _, h.1⟩)
    ((mark1_end (w.heap.size + 1) w.heap.size B g cg base X N M cb sb nx k s _ hp hq ⟨hbg.1.ext hC, own_below hbg.2 hC⟩ (ht.ext hC) ((hC.cell (p := ⟨cb, 0, none⟩) (cell_lt hc)).trans hc) ((hC.cell (p := ⟨sb, 0, none⟩) (cell_lt hs)).trans hs) hn ⟨by omega, hk.2⟩ hs0).mono (by
      rintro r w1 ⟨hbel, g, cg, base, X, N, M, h1, ⟨h3, _⟩ | ⟨_, rfl, h2⟩⟩
      · omega
      · exact ⟨rfl, (hC.mono (Nat.le_of_lt hbg.1.lt)).trans hbel, g, cg, base, X, N, M, h1, h2⟩)))
  clear hC hq hp hbg ht hc hs
  go_enter Tryd.func20, Tryd.ntmps20
  go_wp2_with fail
  refine HTK.out.mono ?_
  rintro r w2 ⟨rfl, W, A', n', c', ⟨hbel, g, cg, base, X, N, M, hbg, hlow, hX, hN, hM⟩, hB, rfl⟩
  have hB2 := hbg.1
  unfold Blk at hB hB2
  rw [hB2] at hB
  simp only [Option.some.injEq, Obj.cells.injEq, Array.mk.injEq, List.cons.injEq, Value.slice.injEq, and_true, true_and] at hB
  obtain ⟨rfl, rfl, rfl⟩ := hB
  have hlt := hbg.1.lt
  have nX := blk_ne' hX hbg.1 (by decide)
  have nN := blk_ne' hN hbg.1 (by decide)
  have e1 : putBlk W B #[.int .i64 1, .int .i64 2, .int .u64 nx, .bool true, .slice (some ⟨g, 0, none⟩) 1 cg, .int .i64 0] 85 = W := putBlk_self hbg.1
  have hO := hbg.2
  rw [← e1] at hX hN hM hO hbel
  have hM2 : MapE (putBlk W B #[.int .i64 1, .int .i64 2, .int .u64 nx, .bool true, .slice (some ⟨g, 0, none⟩) 1 cg, .int .i64 231] 85) M := map_put hM hlt _
  have HFIN : Hid (Below B w (putBlk W B #[.int .i64 1, .int .i64 2, .int .u64 nx, .bool true, .slice (some ⟨g, 0, none⟩) 1 cg, .int .i64 231] 85) ∧ ∃ g' cg' base X N M, Bg nx 231 B g' cg' base X (putBlk W B #[.int .i64 1, .int .i64 2, .int .u64 nx, .bool true, .slice (some ⟨g, 0, none⟩) 1 cg, .int .i64 231] 85) ∧ TxI B nx X N M (putBlk W B #[.int .i64 1, .int .i64 2, .int .u64 nx, .bool true, .slice (some ⟨g, 0, none⟩) 1 cg, .int .i64 231] 85)) :=
    ⟨putBlk_belows hbel (Nat.le_refl B) _, g, cg, base, X, N, M, ⟨putBlk_blk _ _ hlt, own_put hO hlt (by decide) _⟩, hlow, putBlk_old hX nX _, putBlk_old hN nN _, hM2⟩
  clear hX hN hM hO hbel hM2 e1 nX nN hlt hB2 hbg HTK
  generalize putBlk W B #[.int .i64 1, .int .i64 2, .int .u64 nx, .bool true, .slice (some ⟨g, 0, none⟩) 1 cg, .int .i64 231] 85 = w3 at HFIN ⊢
  go_wp2_with fail
  go_ret2
  exact ⟨rfl, HFIN.out⟩
end Go.Proofs.YtkfhfegogmlchaaDoor
