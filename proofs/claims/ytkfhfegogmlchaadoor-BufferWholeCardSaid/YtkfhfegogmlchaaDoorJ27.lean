/- Several texts in one: see each part's head. -/
import Derived.Test.YtkfhfegogmlchaaDoorJ26
import Derived.Test.YtkfhfegogmlchaaDoorJ24
/- What a buffer does with the next record of a topic: the plain law. -/
namespace Go.Proofs.YtkfhfegogmlchaaDoor

theorem nodup_at2 {α : Type} {l : List α} (h : l.Nodup) {i j : Nat} {a : α} (hi : l[i]? = some a) (hj : l[j]? = some a) : i = j := by
  obtain ⟨h1, e1⟩ := List.getElem?_eq_some_iff.1 hi
  obtain ⟨h2, e2⟩ := List.getElem?_eq_some_iff.1 hj
  have hp := List.pairwise_iff_getElem.1 h
  rcases Nat.lt_trichotomy i j with hlt | heq | hlt
  · exact absurd (e1.trans e2.symm) (hp i j h1 h2 hlt)
  · exact heq
  · exact absurd (e2.trans e1.symm) (hp j i h2 h1 hlt)
/-- Transactions that a buffer of bound n can hold, one by one. -/
structure PlanR (nt n : Nat) (first : Int) (ls : List (List Ch)) : Prop where
  hp : ∀ l ∈ ls, ∀ c ∈ l, 0 ≤ c.tb ∧ c.tb < nt
  n1 : 1 ≤ nt
  n12 : nt ≤ 12
  most : ∀ l ∈ ls, l.length ≤ n
  l200 : ∀ l ∈ ls, l.length ≤ 200
  bd : n ≤ 40
  len : ls.length ≤ 40
  f : 0 ≤ first ∧ first ≤ 4294967295
structure BW (nt n : Nat) (first : Int) (ls : List (List Ch)) (s : Bs) (l : List Tb) (nx : Int) (has : Bool) : Prop where
  rel : BufRel nt first ls s l
  inv : BsInv nt n (tabsOf ls) s
  nx0 : has = false → s.a0 = 0
  nx1 : has = true → nx = first + (s.done : Nat)
theorem BW.start (nt n : Nat) (first : Int) (ls : List (List Ch)) : BW nt n first ls ⟨0, 0, fun _ => 0⟩ [] 0 false := ⟨BufRel.start nt first ls, BsInv.start nt n _, fun _ => rfl, fun h => by cases h⟩
theorem BW.len {nt n : Nat} {first : Int} {ls : List (List Ch)} {s : Bs} {l : List Tb} {nx : Int} {has : Bool} (h : BW nt n first ls s l nx has) : l.length = (s.a0 + 1) / 2 - s.done ∧ l.length ≤ 16 := by
  have h1 := h.rel.len
  have h2 := h.inv.ahead
  exact ⟨h1, by omega⟩
theorem BW.begOk {nt n q : Nat} {first : Int} {ls : List (List Ch)} {s : Bs} {l : List Tb} {nx : Int} {has : Bool} (h : BW nt n first ls s l nx has) (hP : PlanR nt n first ls) (hq : s.a0 = 2 * q) (hl : q < ls.length) : BegOk nx (first + (q : Nat)) has l := by
  have hlen := h.len.1
  have hlo := h.inv.lo
  have hf := hP.f
  have hl40 := hP.len
  refine ⟨fun e hh => ?_, fun l' t e => ?_⟩
  · rw [e] at hlen
    simp only [List.length_nil] at hlen
    rw [h.nx1 hh]
    omega
  · have hl' : l'.length + 1 = q - s.done := by
      rw [e] at hlen
      simp only [List.length_append, List.length_cons, List.length_nil] at hlen
      omega
    obtain ⟨lc, h1, h2⟩ := h.rel.at_ l'.length t (by rw [e]; simp)
    obtain ⟨f, e1, _⟩ := h2.f0 (by omega)
    refine ⟨⟨f, e1⟩, ?_, by omega⟩
    rw [h2.n]
    rw [IntWalk.u64_in _ (by omega)]
    omega
theorem BW.beg {nt n q : Nat} {first : Int} {ls : List (List Ch)} {s : Bs} {l : List Tb} {nx : Int} {has : Bool} (h : BW nt n first ls s l nx has) (hq : s.a0 = 2 * q) (hl : q < ls.length) (hr : l.length < 16) (X N M : Nat) :
    BW nt n first ls { s with a0 := s.a0 + 1 } (l ++ [⟨X, N, M, first + (q : Nat), none, List.replicate nt 0, []⟩]) (if has then nx else first + (q : Nat)) true ∧ comeB nt n (tabsOf ls) s 0 { s with a0 := s.a0 + 1 } := by
  have hlen := h.len.1
  have h1 : s.a0 < 2 * (tabsOf ls).length := by rw [tabs_length]; omega
  have h2 : s.a0 % 2 = 1 ∨ s.a0 / 2 - s.done < 16 := by right; omega
  refine ⟨⟨h.rel.begin_ h.inv hq hl X N M, h.inv.mark h1 h2, (fun e => by cases e), fun _ => ?_⟩, Or.inr (Or.inl ⟨rfl, h1, h2, rfl⟩)⟩
  cases hh : has with
  | true => rw [if_pos rfl]; exact h.nx1 hh
  | false =>
    have h3 := h.nx0 hh
    have h4 := h.inv.lo
    rw [if_neg (by simp)]
    show first + (q : Int) = first + ((s.done : Nat) : Int)
    omega
theorem BW.begNo {nt n q : Nat} {first : Int} {ls : List (List Ch)} {s : Bs} {l : List Tb} {nx : Int} {has : Bool} (h : BW nt n first ls s l nx has) (hq : s.a0 = 2 * q) (hr : 16 ≤ l.length) : comeB nt n (tabsOf ls) s 0 s := by
  have hlen := h.len.1
  refine Or.inl ⟨rfl, fun hf => ?_⟩
  rcases hf with ⟨_, h1⟩ | ⟨k, h1, _⟩
  · omega
  · omega
theorem BW.finOk {nt n q : Nat} {first : Int} {ls : List (List Ch)} {s : Bs} {l : List Tb} {nx : Int} {has : Bool} {lc : List Ch} (h : BW nt n first ls s l nx has) (hP : PlanR nt n first ls) (hq : s.a0 = 2 * q + 1) (hl : ls[q]? = some lc) :
    ∃ l' t, l = l' ++ [t] ∧ t.fin = none ∧ t.n = first + (q : Nat) ∧ l'.length ≤ 16 ∧ (cntsOf nt lc).sum ≤ (n : Int) := by
  have hlen := h.len
  have hlo := h.inv.lo
  have hne : l ≠ [] := by
    intro e
    rw [e] at hlen
    simp only [List.length_nil] at hlen
    omega
  obtain ⟨l', t, e⟩ : ∃ l' t, l = l' ++ [t] := ⟨l.dropLast, l.getLast hne, (List.dropLast_concat_getLast hne).symm⟩
  have hl' : l'.length + 1 = l.length := by rw [e]; simp
  obtain ⟨lc', h1, h2⟩ := h.rel.at_ l'.length t (by rw [e]; simp)
  refine ⟨l', t, e, h2.f1 (by omega), ?_, by omega, ?_⟩
  · rw [h2.n, show s.done + l'.length = q by omega]
  · rw [cnts_sum (hP.hp lc (List.mem_of_getElem? hl))]
    have := hP.most lc (List.mem_of_getElem? hl)
    omega
theorem BW.fin {nt n q : Nat} {first : Int} {ls : List (List Ch)} {s : Bs} {l' : List Tb} {t : Tb} {nx : Int} {has : Bool} {lc : List Ch} (h : BW nt n first ls s (l' ++ [t]) nx has) (hq : s.a0 = 2 * q + 1) (hl : ls[q]? = some lc) (f : Fi) (hf : f.cnt = cntsOf nt lc) (hf2 : f.sq.length = nt) :
    BW nt n first ls { s with a0 := s.a0 + 1 } (l' ++ [{ t with fin := some f }]) nx has ∧ comeB nt n (tabsOf ls) s 0 { s with a0 := s.a0 + 1 } := by
  have hlt := (List.getElem?_eq_some_iff.1 hl).1
  have h1 : s.a0 < 2 * (tabsOf ls).length := by rw [tabs_length]; omega
  have h2 : s.a0 % 2 = 1 ∨ s.a0 / 2 - s.done < 16 := by left; omega
  exact ⟨⟨h.rel.finish_ h.inv hq hl f hf hf2, h.inv.mark h1 h2, (fun e => by have := h.nx0 e; omega), h.nx1⟩, Or.inr (Or.inl ⟨rfl, h1, h2, rfl⟩)⟩
/-- No record is left of the marks. -/
theorem BW.markEnd {nt n : Nat} {ls : List (List Ch)} {s : Bs} (hd : s.done < ls.length) (ha : 2 * ls.length ≤ s.a0) : comeB nt n (tabsOf ls) s 0 s :=
  Or.inl ⟨rfl, fun hf => by
    rcases hf with ⟨_, h1⟩ | ⟨k, h1, _⟩
    · omega
    · omega⟩
theorem BW.evEnd {nt n k : Nat} {ls : List (List Ch)} {s : Bs} (hd : s.done < ls.length) (ha : preT (tabsOf ls) ls.length k ≤ s.a k) : comeB nt n (tabsOf ls) s (k + 1) s :=
  Or.inl ⟨rfl, fun hf => by
    rcases hf with ⟨h1, _⟩ | ⟨k', h1, _, _, h2⟩
    · omega
    · obtain rfl : k = k' := by omega
      have := preT_mono (T := tabsOf ls) (k := k) (show s.done + 1 ≤ ls.length by omega)
      omega⟩
/-- The next record of a table's topic. -/
structure RecAt (ls : List (List Ch)) (s : Bs) (k i j : Nat) (lc : List Ch) (c : Ch) : Prop where
  rl : ls[i]? = some lc
  rc : lc[j]? = some c
  rk : c.tb = k
  ra : s.a k = preT (tabsOf ls) i k + cntT (lc.take j) (k : Int)
theorem RecAt.lt {ls : List (List Ch)} {s : Bs} {k i j : Nat} {lc : List Ch} {c : Ch} {nt : Nat} (h : RecAt ls s k i j lc c) (hp : ∀ l ∈ ls, ∀ c ∈ l, 0 ≤ c.tb ∧ c.tb < nt) : s.a k < preT (tabsOf ls) (i + 1) k ∧ preT (tabsOf ls) i k ≤ s.a k ∧ cntT (lc.take j) (k : Int) < cntT lc (k : Int) := by
  have h1 := cntT_lt h.rc
  rw [h.rk] at h1
  rw [preT_succ, tabs_count h.rl (fun c hc => (hp lc (List.mem_of_getElem? h.rl) c hc).1), h.ra]
  omega
theorem BW.evIn {nt n k i j : Nat} {first : Int} {ls : List (List Ch)} {s : Bs} {l : List Tb} {nx : Int} {has : Bool} {lc : List Ch} {c : Ch} (h : BW nt n first ls s l nx has) (hP : PlanR nt n first ls) (hr : RecAt ls s k i j lc c) (hk : k < nt) : s.done ≤ i := by
  have h1 := hr.lt hP.hp
  have h2 := h.inv.pre k hk
  rcases Nat.lt_or_ge i s.done with h3 | h3
  · have := preT_mono (T := tabsOf ls) (k := k) (show i + 1 ≤ s.done from h3)
    omega
  · exact h3
theorem BW.takeOk {nt n k i j : Nat} {first : Int} {ls : List (List Ch)} {s : Bs} {l : List Tb} {nx : Int} {has : Bool} {lc : List Ch} {c : Ch} (h : BW nt n first ls s l nx has) (hP : PlanR nt n first ls) (hr : RecAt ls s k i j lc c) (hk : k < nt) :
    TakeOk n k (first + (i : Nat)) j (cntT (lc.take j) (k : Int)) l := by
  intro X hX
  obtain ⟨l1, t, l2, e1, e2, e3, e4, e5⟩ := room_rel hP.hp n i l s.done 0 h.rel.at_ X hX
  have hpl := hP.hp lc (List.mem_of_getElem? hr.rl)
  obtain ⟨lc', h1, h2⟩ := h.rel.at_ l1.length t (by rw [e1]; simp)
  rw [e3] at h1 h2
  rw [hr.rl] at h1
  obtain rfl := Option.some.inj h1
  obtain ⟨f, hf, _, _⟩ := h2.f0 e4
  obtain ⟨_, b2, b3, b4⟩ := fin_sum h2 hpl hf
  obtain ⟨g1, g2, g3⟩ := hr.lt hP.hp
  have ha := hr.ra
  have hjl := (List.getElem?_eq_some_iff.1 hr.rc).1
  refine ⟨l1, t, l2, f, (cntT lc (k : Int) : Int), e1, e2, hf, fun hm => ?_, ?_, ?_, by omega, by omega, by omega, ?_, ?_⟩
  · obtain ⟨x, hx, e⟩ := List.mem_map.1 hm
    obtain ⟨p, hp, rfl⟩ := List.mem_map.1 hx
    obtain ⟨m, c', q1, q2, q3⟩ := h2.es p hp
    have e' : p.1.tot = (j : Int) := e
    rw [q2] at e'
    have hmj : m = j := by
      have : ((m : Nat) : Int) = (j : Int) := e'
      omega
    subst hmj
    rw [hr.rc] at q1
    obtain rfl := Option.some.inj q1
    rw [hr.rk, Int.toNat_natCast] at q3
    omega
  · rw [h2.nth k hk]
    congr 1
    omega
  · rw [b2]
    exact cntsOf_at lc hk
  · rw [b4]
    omega
  · have hle : t.es.length ≤ lc.length := by
      rw [h2.len, ← cnt_total hpl]
      exact sumN_le nt (fun x _ => Nat.min_le_left _ _)
    have := hP.l200 lc (List.mem_of_getElem? hr.rl)
    omega
theorem BW.evNx {nt n k i j : Nat} {first : Int} {ls : List (List Ch)} {s : Bs} {l : List Tb} {nx : Int} {has : Bool} {lc : List Ch} {c : Ch} (h : BW nt n first ls s l nx has) (hP : PlanR nt n first ls) (hr : RecAt ls s k i j lc c) (hk : k < nt) : has = true → ¬ first + ((i : Nat) : Int) < nx := by
  intro e
  have h1 := h.nx1 e
  have h2 := h.evIn hP hr hk
  omega
theorem BW.evNo {nt n k i j : Nat} {first : Int} {ls : List (List Ch)} {s : Bs} {l : List Tb} {nx : Int} {has : Bool} {lc : List Ch} {c : Ch} (h : BW nt n first ls s l nx has) (hP : PlanR nt n first ls) (hr : RecAt ls s k i j lc c) (hk : k < nt) (hn : roomL n (first + (i : Nat)) 0 l = none) : comeB nt n (tabsOf ls) s (k + 1) s := by
  refine Or.inl ⟨rfl, fun hf => ?_⟩
  rcases hf with ⟨h1, _⟩ | ⟨k', h1, _, h2, h3⟩
  · omega
  · obtain rfl : k = k' := by omega
    obtain ⟨g1, g2, _⟩ := hr.lt hP.hp
    have hid : i = s.done := preT_at g2 g1 (h.inv.pre k hk) h3
    rw [hid] at hn
    have hl := hr.rl
    rw [hid] at hl
    exact room_first h.rel hP.hp hl n (hP.most lc (List.mem_of_getElem? hl)) h2 hn
theorem BW.ev {nt n k i j : Nat} {first : Int} {ls : List (List Ch)} {s : Bs} {l1 l2 : List Tb} {t : Tb} {nx : Int} {has : Bool} {lc : List Ch} {c : Ch} (h : BW nt n first ls s (l1 ++ t :: l2) nx has) (hd : Dis (l1 ++ t :: l2)) (hP : PlanR nt n first ls) (hr : RecAt ls s k i j lc c) (hk : k < nt) (hn : roomL n (first + (i : Nat)) 0 (l1 ++ t :: l2) = some t.X) (v : Value) :
    BW nt n first ls (s.takeK k) (l1 ++ { t with nth := t.nth.set k (cntT (lc.take j) (k : Int) + 1), es := t.es ++ [(evAt (first + (i : Nat)) lc j c, v)] } :: l2) nx has ∧ comeB nt n (tabsOf ls) s (k + 1) (s.takeK k) := by
  obtain ⟨m1, u, m2, e1, e2, e3, e4, e5⟩ := room_rel hP.hp n i _ s.done 0 h.rel.at_ t.X hn
  have hlen : l1.length = m1.length := by
    have hnd := hd.1
    have hx1 : ((l1 ++ t :: l2).map (·.X))[l1.length]? = some t.X := by simp
    have hx2 : ((l1 ++ t :: l2).map (·.X))[m1.length]? = some t.X := by rw [e1, ← e2]; simp
    exact nodup_at2 hnd hx1 hx2
  obtain ⟨lc', h1, h2⟩ := h.rel.at_ l1.length t (by simp)
  have hi : s.done + l1.length = i := by omega
  rw [hi] at h1 h2
  obtain ⟨g1, g2, g3⟩ := hr.lt hP.hp
  have hil := (List.getElem?_eq_some_iff.1 hr.rl).1
  have hsz : szT (tabsOf ls) (i + 1) - szT (tabsOf ls) s.done ≤ n := by omega
  exact ⟨⟨h.rel.event_ hP.hp h2.n hr.rl hr.rc hr.rk hr.ra v, h.inv.event hk g1 (h.evIn hP hr hk) e4 hsz, h.nx0, h.nx1⟩,
    Or.inr (Or.inr ⟨i, k, rfl, hk, g2, g1, by rw [tabs_length]; exact hil, h.evIn hP hr hk, e4, hsz, rfl⟩)⟩
end Go.Proofs.YtkfhfegogmlchaaDoor

/- Frames: blocks of a type stay. -/
namespace Go.Proofs.YtkfhfegogmlchaaDoor
open Go.RowKit

/-- Blocks of the types in S stay. -/
def FrS (S : TypeId → Prop) (w w' : World) : Prop := ∀ (g : Nat) (cs : Array Value) (T : TypeId) f, S T → w.heap[g]? = some (.cells cs T f) → w'.heap[g]? = some (.cells cs T f)
theorem FrS.refl (S : TypeId → Prop) (w : World) : FrS S w w := fun _ _ _ _ _ h => h
theorem FrS.trans {S : TypeId → Prop} {a b c : World} (h : FrS S a b) (k : FrS S b c) : FrS S a c := fun g cs T f hS hh => k g cs T f hS (h g cs T f hS hh)
theorem FrS.of_below {S : TypeId → Prop} {w w' : World} (h : Below w.heap.size w w') : FrS S w w' := fun g cs T f _ hh => by
  have hlt : g < w.heap.size := by
    rcases Nat.lt_or_ge g w.heap.size with h' | h'
    · exact h'
    · rw [Array.getElem?_eq_none h'] at hh; cases hh
  exact (h.block g hlt).trans hh
theorem FrS.put {S : TypeId → Prop} {w : World} {b : Nat} {cs : Array Value} {t : TypeId} (lt : b < w.heap.size) (hS : ¬ S t) (ds : Array Value) : FrS S (putBlk w b cs t) (putBlk w b ds t) := fun g cs' T f hT hh => by
  by_cases e : g = b
  · subst e
    have hb := putBlk_blk (w := w) cs t lt
    unfold Blk at hb
    rw [hb] at hh
    simp only [Option.some.injEq, Obj.cells.injEq] at hh
    obtain ⟨_, rfl, _⟩ := hh
    exact absurd hT hS
  · unfold putBlk at hh ⊢
    simp only at hh ⊢
    rw [Array.getElem?_setIfInBounds_ne (fun h => e h.symm)] at hh ⊢
    exact hh
theorem FrS.grown {S : TypeId → Prop} {w w' : World} {row : Option Nat} (hg : w.grownBy w' row) (hr : ∀ (g : Nat), row = some g → ∀ (cs : Array Value) (T : TypeId) f, w.heap[g]? = some (.cells cs T f) → ¬ S T) : FrS S w w' := fun g cs T f hS hh => by
  have hlt : g < w.heap.size := by
    rcases Nat.lt_or_ge g w.heap.size with h' | h'
    · exact h'
    · rw [Array.getElem?_eq_none h'] at hh; cases hh
  exact (hg.block g hlt (fun e => hr g e.symm cs T f hh hS)).trans hh
theorem FrS.blk {S : TypeId → Prop} {w w' : World} {b : Nat} {cs : Array Value} {t : TypeId} (h : FrS S w w') (hb : Blk w b cs t) (hS : S t) : Blk w' b cs t := h b cs t (0, 0) hS hb
theorem FrS.own {S : TypeId → Prop} {w w' : World} {lo e sz n : Nat} {v : Value} {xs : List Value} (h : FrS S w w') (ho : w.ownsRow lo e sz v n xs) (hS : S e) : w'.ownsRow lo e sz v n xs := by
  refine ⟨ho.1, ?_⟩
  rcases ho.2 with h0 | ⟨g, cap, cur, e1, e2, e3, e4⟩
  · exact Or.inl h0
  · exact Or.inr ⟨g, cap, cur, e1, e2, h g _ _ _ hS e3, e4⟩
/-- Blocks ahead of B, and those of topics, stay. -/
structure BelF (B : Nat) (w w' : World) : Prop where
  b : Below B w w'
  f : FrS (fun t => t = 39) w w'
theorem BelF.size {B : Nat} {w w' : World} (h : BelF B w w') : w.heap.size ≤ w'.heap.size := h.b.size
theorem BelF.of {B : Nat} {w w' : World} (h : Below w.heap.size w w') (hl : B ≤ w.heap.size) : BelF B w w' := ⟨h.mono hl, FrS.of_below h⟩
theorem BelF.trans {B : Nat} {a b c : World} (h : BelF B a b) (k : BelF B b c) : BelF B a c := ⟨h.b.trans k.b, h.f.trans k.f⟩
theorem BelF.transB {B : Nat} {a b c : World} (h : BelF B a b) (k : Below b.heap.size b c) (hl : B ≤ b.heap.size) : BelF B a c := h.trans (BelF.of k hl)
theorem BelF.puts {B b : Nat} {a w : World} {cs : Array Value} {t : TypeId} (h : BelF B a (putBlk w b cs t)) (hb : B ≤ b) (lt : b < w.heap.size) (hne : t ≠ 39) (ds : Array Value) : BelF B a (putBlk w b ds t) :=
  ⟨putBlk_belows h.b hb ds, h.f.trans (FrS.put (S := fun t => t = 39) (t := t) lt (fun e => hne e) ds)⟩
theorem BelF.grown {B : Nat} {a w w' : World} {row : Option Nat} (h : BelF B a w) (hg : w.grownBy w' row) (hB : B ≤ w.heap.size) (hr : ∀ k, row = some k → B ≤ k) (hn : ∀ g, row = some g → NoT w g 39) : BelF B a w' :=
  ⟨h.b.grown hg hB hr, h.f.trans (FrS.grown hg (fun g e cs T f hh hT => hn g e cs T f hh hT))⟩
end Go.Proofs.YtkfhfegogmlchaaDoor
