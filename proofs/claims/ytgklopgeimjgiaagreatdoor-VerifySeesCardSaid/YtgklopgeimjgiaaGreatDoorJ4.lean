/- Several texts in one: see each part's head. -/
import Derived.Test.YtgklopgeimjgiaaGreatDoorJ3
import Derived.Sort.Statements
import Derived.Lib.Bytealg
import Derived.StillTailTactics
import Derived.LoopN
import Derived.Deep.QuietTactic
import Derived.BigQuiet
import Derived.Lib.ValidLaws
import Derived.Lib.TrimUEq
import Derived.Lib.MapLaws
import Derived.Shelf.Unicode.DecodeLastEight
import Derived.Test.YtgklopgeimjgiaaGreatDoorJ2
import Derived.Test.YtgklopgeimjgiaaGreatDoorJ1
import Derived.RegionTactic
import Derived.ChangeAlike
/- VerifySees, the plain law: which gaps there are between a state's documents and others (gapsP). -/
namespace Go.Proofs.YtgklopgeimjgiaaGreatDoor

theorem flat_one {α β : Type} {g : α → List β} {x : α} : ∀ {rs : List α}, rs.Nodup → x ∈ rs → (∀ z ∈ rs, z ≠ x → g z = []) → rs.flatMap g = g x
  | [], _, h, _ => absurd h (by simp)
  | a :: rs, hn, hx, hz => by
    rw [List.nodup_cons] at hn
    rw [List.flatMap_cons]
    by_cases e : x = a
    · subst e
      rw [show rs.flatMap g = [] from List.flatMap_eq_nil_iff.2 fun z h => hz z (List.mem_cons_of_mem _ h) fun e => hn.1 (e ▸ h)]
      exact List.append_nil _
    · rw [hz a (List.mem_cons_self ..) (fun h => e h.symm), List.nil_append]
      exact flat_one hn.2 ((List.mem_cons.1 hx).resolve_left e) fun z h => hz z (List.mem_cons_of_mem _ h)
section
variable {D R : Type} [DecidableEq R] (rt : D → R) (sm : D → D → Bool)
/-- The gaps of one root: its kind (1: want, 2: more, 3: other), and the root. -/
def gapAt (have_ told : List D) (x : R) : List (Int × R) :=
  (match told.filter (fun d => rt d = x), have_.filter (fun d => rt d = x) with
    | [], _ => [(1, x)]
    | _ :: _, [] => [(2, x)]
    | t :: _, d :: _ => if sm d t then [] else [(3, x)] : List (Int × R))
  ++ List.replicate ((told.filter fun d => rt d = x).length - 1) (2, x)
def gapsP (have_ told : List D) (rs : List R) : List (Int × R) := rs.flatMap (gapAt rt sm have_ told)
variable {rt sm}
theorem filt_one {d : D} : ∀ {l : List D}, (l.map rt).Nodup → d ∈ l → l.filter (fun e => rt e = rt d) = [d]
  | [], _, h => absurd h (by simp)
  | a :: l, hn, h => by
    rw [List.map_cons, List.nodup_cons] at hn
    rw [List.filter_cons]
    by_cases e : rt a = rt d
    · rw [if_pos (by simpa using e)]
      have h1 : d = a := by
        rcases List.mem_cons.1 h with h | h
        · exact h
        · exact absurd (List.mem_map.2 ⟨d, h, e.symm⟩) hn.1
      subst h1
      rw [List.filter_eq_nil_iff.2 fun x hx hh => hn.1 (List.mem_map.2 ⟨x, hx, by simpa using hh⟩)]
    · rw [if_neg (by simpa using e)]
      exact filt_one hn.2 ((List.mem_cons.1 h).resolve_left fun e2 => e (e2 ▸ rfl))
theorem gap_same {hv told : List D} {d : D} (hh : hv.filter (fun e => rt e = rt d) = [d]) (ht : told.filter (fun e => rt e = rt d) = [d]) (hs : sm d d = true) : gapAt rt sm hv told (rt d) = [] := by
  unfold gapAt; rw [hh, ht]; simp [hs]
variable {hv : List D} (hn : (hv.map rt).Nodup) (hs : ∀ d ∈ hv, sm d d = true) {rs : List R} (hr : rs.Nodup)
include hn hs
/-- Where a state's documents are told, there is no gap. -/
theorem gaps_none (hm : ∀ x, x ∈ rs ↔ x ∈ (hv ++ hv).map rt) : gapsP rt sm hv hv rs = [] := by
  refine List.flatMap_eq_nil_iff.2 fun x hx => ?_
  obtain ⟨d, hd, rfl⟩ := List.mem_map.1 ((hm x).1 hx)
  have hd2 : d ∈ hv := by simpa using hd
  exact gap_same (filt_one hn hd2) (filt_one hn hd2) (hs d hd2)
variable {k : Nat} (hk : k < hv.length)
omit hs in
theorem filt_out (x : R) : (hv.take k ++ hv.drop (k + 1)).filter (fun e => rt e = x) = if rt hv[k] = x then [] else hv.filter (fun e => rt e = x) := by
  have e : hv = hv.take k ++ (hv[k] :: hv.drop (k + 1)) := by rw [← List.drop_eq_getElem_cons hk, List.take_append_drop]
  have e2 : hv.filter (fun e => rt e = x) = (hv.take k).filter (fun e => rt e = x) ++ ((if rt hv[k] = x then [hv[k]] else []) ++ (hv.drop (k + 1)).filter (fun e => rt e = x)) := by
    conv => lhs; rw [e]
    rw [List.filter_append, List.filter_cons]
    by_cases h : rt hv[k] = x
    · rw [if_pos (by simpa using h), if_pos h]; rfl
    · rw [if_neg (by simpa using h), if_neg h]; rfl
  rw [List.filter_append]
  by_cases h : rt hv[k] = x
  · subst h
    rw [if_pos rfl]
    rw [filt_one hn (List.getElem_mem hk), if_pos rfl] at e2
    have e3 := congrArg List.length e2
    simp only [List.length_append, List.length_cons, List.length_nil] at e3
    have h1 : ((hv.take k).filter (fun e => rt e = rt hv[k])).length = 0 := by omega
    have h2 : ((hv.drop (k + 1)).filter (fun e => rt e = rt hv[k])).length = 0 := by omega
    rw [List.eq_nil_of_length_eq_zero h1, List.eq_nil_of_length_eq_zero h2]; rfl
  · rw [if_neg h] at e2 ⊢; rw [e2]; rfl
omit [DecidableEq R] hn hs in
theorem root_in {told : List D} (hm : ∀ x, x ∈ rs ↔ x ∈ (hv ++ told).map rt) : rt hv[k] ∈ rs :=
  (hm _).2 (List.mem_map.2 ⟨hv[k], List.mem_append_left _ (List.getElem_mem hk), rfl⟩)
/-- Whatever is told otherwise of one root alone: its own gaps, and no others. -/
theorem gaps_at {told : List D} (hr : rs.Nodup) (hm : ∀ x, x ∈ rs ↔ x ∈ (hv ++ told).map rt) (ho : ∀ x, rt hv[k] ≠ x → told.filter (fun e => rt e = x) = hv.filter (fun e => rt e = x)) :
    gapsP rt sm hv told rs = gapAt rt sm hv told (rt hv[k]) := by
  refine flat_one hr (root_in hk hm) fun z hz hne => ?_
  have h1 := ho z (fun e => hne e.symm)
  obtain ⟨d, hd, rfl⟩ := List.mem_map.1 ((hm z).1 hz)
  have hd2 : d ∈ hv := by
    rcases List.mem_append.1 hd with hd | hd
    · exact hd
    · have h2 : d ∈ told.filter (fun e => rt e = rt d) := List.mem_filter.2 ⟨hd, by simp⟩
      rw [h1] at h2; exact (List.mem_filter.1 h2).1
  exact gap_same (filt_one hn hd2) (h1.trans (filt_one hn hd2)) (hs d hd2)
theorem gaps_want (hr : rs.Nodup) (hm : ∀ x, x ∈ rs ↔ x ∈ (hv ++ (hv.take k ++ hv.drop (k + 1))).map rt) :
    gapsP rt sm hv (hv.take k ++ hv.drop (k + 1)) rs = [(1, rt hv[k])] := by
  rw [gaps_at hn hs hk hr hm (fun x hx => by rw [filt_out hn hk, if_neg hx])]
  unfold gapAt; rw [filt_out hn hk, if_pos rfl]; simp
theorem gaps_more (hr : rs.Nodup) (hm : ∀ x, x ∈ rs ↔ x ∈ (hv ++ (hv ++ [hv[k]])).map rt) :
    gapsP rt sm hv (hv ++ [hv[k]]) rs = [(2, rt hv[k])] := by
  rw [gaps_at hn hs hk hr hm (fun x hx => by rw [List.filter_append, List.filter_cons, if_neg (by simpa using hx)]; simp)]
  unfold gapAt
  rw [List.filter_append, filt_one hn (List.getElem_mem hk), List.filter_cons, if_pos (by simp)]
  simp [hs _ (List.getElem_mem hk)]
theorem gaps_other {d : D} (hr : rs.Nodup) (hd : rt d = rt hv[k]) (hdn : sm hv[k] d = false) (hm : ∀ x, x ∈ rs ↔ x ∈ (hv ++ (hv.take k ++ hv.drop (k + 1) ++ [d])).map rt) :
    gapsP rt sm hv (hv.take k ++ hv.drop (k + 1) ++ [d]) rs = [(3, rt hv[k])] := by
  rw [gaps_at hn hs hk hr hm (fun x hx => by rw [List.filter_append, filt_out hn hk, if_neg hx, List.filter_cons, if_neg (by simpa [hd] using hx)]; simp)]
  unfold gapAt
  rw [List.filter_append, filt_out hn hk, if_pos rfl, filt_one hn (List.getElem_mem hk), List.filter_cons, if_pos (by simpa using hd)]
  simp [hdn]
end
end Go.Proofs.YtgklopgeimjgiaaGreatDoor

/- VerifySees, the plain law: which of two values stands ahead (vLess): a strict weak order, and a total one of values that may be. -/
namespace Go.Proofs.YtgklopgeimjgiaaGreatDoor
open Go.Sort (SWO)

theorem swo_on {α : Type} (f : α → Int) : SWO (fun a b => decide (f a < f b)) where
  irrefl := by intro x; simp
  trans := by intro x y z h1 h2; simp at *; omega
  ntrans := by intro x y z h1 h2; simp at *; omega
/-- By the one, then by the other. -/
def lexL {α : Type} (p q : α → α → Bool) (a b : α) : Bool := p a b || (!p b a && q a b)
theorem swo_lex {α : Type} {p q : α → α → Bool} (hp : SWO p) (hq : SWO q) : SWO (lexL p q) where
  irrefl := by intro x; simp [lexL, hp.irrefl, hq.irrefl]
  trans := by
    intro x y z h1 h2
    have t1 := hp.trans x y z
    have t2 := hp.ntrans x y z
    have t3 := hp.trans z y x
    have t4 := hp.ntrans z y x
    have t5 := hp.trans y z x
    have t6 := hp.trans z x y
    have q1 := hq.trans x y z
    have t7 := hp.trans x z y
    have t8 := hp.trans y x z
    have u1 := hp.ntrans y x z
    have u2 := hp.ntrans x z y
    have u3 := hp.ntrans z x y
    have u4 := hp.ntrans y z x
    unfold lexL at *
    cases a : p x y <;> cases b : p y x <;> cases c : p y z <;> cases d : p z y <;> cases e : p x z <;> cases f : p z x <;> simp_all
  ntrans := by
    intro x y z h1 h2
    have t1 := hp.trans x y z
    have t2 := hp.ntrans x y z
    have t3 := hp.trans z y x
    have t4 := hp.ntrans z y x
    have t5 := hp.ntrans y z x
    have t6 := hp.ntrans z x y
    have q1 := hq.ntrans x y z
    have t7 := hp.ntrans x z y
    have t8 := hp.ntrans y x z
    unfold lexL at *
    cases a : p x y <;> cases b : p y x <;> cases c : p y z <;> cases d : p z y <;> cases e : p x z <;> cases f : p z x <;> simp_all
theorem cmpB_neg : ∀ a b : List UInt8, Lib.compareBytes b a = - Lib.compareBytes a b
  | [], [] => rfl
  | [], _ :: _ => rfl
  | _ :: _, [] => rfl
  | a :: xs, b :: ys => by
    have ih := cmpB_neg xs ys
    simp only [Lib.compareBytes]
    by_cases h1 : a < b
    · have h2 : ¬ b < a := by rw [UInt8.lt_iff_toNat_lt] at *; omega
      rw [if_neg h2, if_pos h1, if_pos h1]; rfl
    · by_cases h2 : b < a
      · rw [if_pos h2, if_neg h1, if_pos h2]
      · rw [if_neg h2, if_neg h1, if_neg h1, if_neg h2, ih]
theorem cmpB_zero : ∀ a b : List UInt8, Lib.compareBytes a b = 0 → a = b
  | [], [], _ => rfl
  | [], _ :: _, h => by simp [Lib.compareBytes] at h
  | _ :: _, [], h => by simp [Lib.compareBytes] at h
  | a :: xs, b :: ys, h => by
    simp only [Lib.compareBytes] at h
    by_cases h1 : a < b
    · rw [if_pos h1] at h; omega
    · by_cases h2 : b < a
      · rw [if_neg h1, if_pos h2] at h; omega
      · rw [if_neg h1, if_neg h2] at h
        have e : a = b := by rw [UInt8.lt_iff_toNat_lt] at h1 h2; exact UInt8.toNat_inj.1 (by omega)
        rw [e, cmpB_zero xs ys h]
theorem cmpB_self (a : List UInt8) : Lib.compareBytes a a = 0 := by have := cmpB_neg a a; omega
theorem cmpB_trans : ∀ a b c : List UInt8, Lib.compareBytes a b < 0 → Lib.compareBytes b c ≤ 0 → Lib.compareBytes a c < 0
  | [], [], _, h, _ => by simp [Lib.compareBytes] at h
  | [], _ :: _, [], _, h => by simp [Lib.compareBytes] at h
  | [], _ :: _, _ :: _, _, _ => by simp [Lib.compareBytes]
  | _ :: _, [], _, h, _ => by simp [Lib.compareBytes] at h
  | _ :: _, _ :: _, [], _, h => by simp [Lib.compareBytes] at h
  | a :: xs, b :: ys, c :: zs, h1, h2 => by
    have ih := cmpB_trans xs ys zs
    simp only [Lib.compareBytes, UInt8.lt_iff_toNat_lt] at *
    by_cases e1 : a.toNat < b.toNat
    · by_cases e2 : b.toNat < c.toNat
      · rw [if_pos (by omega)]; omega
      · by_cases e3 : c.toNat < b.toNat
        · rw [if_neg e2, if_pos e3] at h2; omega
        · rw [if_pos (by omega)]; omega
    · by_cases e4 : b.toNat < a.toNat
      · rw [if_neg e1, if_pos e4] at h1; omega
      · rw [if_neg e1, if_neg e4] at h1
        by_cases e2 : b.toNat < c.toNat
        · rw [if_pos (by omega)]; omega
        · by_cases e3 : c.toNat < b.toNat
          · rw [if_neg e2, if_pos e3] at h2; omega
          · rw [if_neg e2, if_neg e3] at h2
            rw [if_neg (by omega), if_neg (by omega)]
            exact ih h1 h2
theorem swo_bytes {α : Type} (f : α → List UInt8) : SWO (fun a b => decide (Lib.compareBytes (f a) (f b) < 0)) where
  irrefl := by intro x; simp [cmpB_self]
  trans := by
    intro x y z h1 h2
    simp only [decide_eq_true_eq] at *
    exact cmpB_trans _ _ _ h1 (by omega)
  ntrans := by
    intro x y z h1 h2
    simp only [decide_eq_false_iff_not] at *
    have a1 := cmpB_neg (f x) (f y)
    have a2 := cmpB_neg (f y) (f z)
    have a3 := cmpB_neg (f x) (f z)
    intro h3
    have h4 := cmpB_trans _ _ (f y) h3 (by omega)
    omega
/-- A number with a point, xs they rise. -/
def keyZ (r : Int) : Int := if canonZ r < 9223372036854775808 then canonZ r + 9223372036854775808 else 18446744073709551615 - canonZ r
/-- Is a value ahead of another one? -/
def vLess : V → V → Bool :=
  lexL (fun a b => decide (a.k < b.k)) (lexL (fun a b => decide (a.n < b.n)) (lexL (fun a b => decide (keyZ a.r < keyZ b.r)) (fun a b => decide (Lib.compareBytes a.t.data.toList b.t.data.toList < 0))))
theorem vLess_swo : SWO vLess := by
  have h4 := swo_bytes fun a : V => a.t.data.toList
  have h3 := swo_lex (swo_on fun a : V => keyZ a.r) h4
  have h2 := swo_lex (swo_on V.n) h3
  have h1 := swo_lex (swo_on V.k) h2
  unfold vLess
  exact h1
theorem lex_eq {α : Type} {p q : α → α → Bool} {a b : α} (h1 : lexL p q a b = false) (h2 : lexL p q b a = false) : p a b = false ∧ p b a = false ∧ q a b = false ∧ q b a = false := by
  unfold lexL at *
  cases e1 : p a b <;> cases e2 : p b a <;> simp_all
/-- Two values that may be, of which none is ahead, are one. -/
theorem vLess_eq {a b : V} (h1 : vLess a b = false) (h2 : vLess b a = false) (ha : a.r = canonZ a.r) (hb : b.r = canonZ b.r) (wa : a.wf) (wb : b.wf) : a = b := by
  unfold vLess at h1 h2
  obtain ⟨k1, k2, h1, h2⟩ := lex_eq h1 h2
  obtain ⟨n1, n2, h1, h2⟩ := lex_eq h1 h2
  obtain ⟨r1, r2, h1, h2⟩ := lex_eq h1 h2
  simp only [decide_eq_false_iff_not, Int.not_lt] at k1 k2 n1 n2 r1 r2 h1 h2
  have ek : a.k = b.k := by omega
  have en : a.n = b.n := by omega
  have er : a.r = b.r := by
    have e : keyZ a.r = keyZ b.r := by omega
    unfold keyZ at e
    rw [← ha, ← hb] at e
    have w1 := wa.2.2.2.2
    have w2 := wb.2.2.2.2
    by_cases c1 : a.r < 9223372036854775808 <;> by_cases c2 : b.r < 9223372036854775808 <;> simp only [c1, c2, if_true, if_false] at e <;> omega
  have et : a.t = b.t := by
    have e0 := cmpB_neg a.t.data.toList b.t.data.toList
    have e := cmpB_zero a.t.data.toList b.t.data.toList (by omega)
    exact ByteArray.ext (Array.toList_inj.1 e)
  cases a; cases b; simp only at ek en er et; subst ek en er et; rfl
end Go.Proofs.YtgklopgeimjgiaaGreatDoor

/- Several texts in one: see each part's head. -/
/- The contract of the reference's GetRow: the same row as the code's. -/
namespace Go.Proofs.YtgklopgeimjgiaaGreatDoor
open Go.RowKit

end Go.Proofs.YtgklopgeimjgiaaGreatDoor

/- The contract of code.Get: which value any bytes begin with, or why with none. -/
namespace Go.Proofs.YtgklopgeimjgiaaGreatDoor
open Go.RowKit

theorem EBlk.drew {w : World} {b : Nat} {n : Int} (h : EBlk w b n) : EBlk w.drew b n := h
theorem VBlk.drew {w : World} {b : Nat} {v : V} (h : VBlk w b v) : VBlk w.drew b v := h
end Go.Proofs.YtgklopgeimjgiaaGreatDoor

/- Several texts in one: see each part's head. -/
/- Numbers of two and eight bytes, as the event's package and its reference write and read them. -/
namespace Go.Proofs.YtgklopgeimjgiaaGreatDoor
open Go.RowKit

end Go.Proofs.YtgklopgeimjgiaaGreatDoor

/- Events as data: rows of rows, event.rows. -/
namespace Go.Proofs.YtgklopgeimjgiaaGreatDoor
open Go.RowKit

/-- A block that lies in memory, not frozen. -/
def Blk (w : World) (b : Nat) (cs : Array Value) (t : TypeId) : Prop := w.heap[b]? = some (.cells cs t (0, 0))
theorem Blk.lt {w : World} {b : Nat} {cs : Array Value} {t : TypeId} (h : Blk w b cs t) : b < w.heap.size := by
  rcases Nat.lt_or_ge b w.heap.size with h' | h'
  · exact h'
  · unfold Blk at h; rw [Array.getElem?_eq_none h'] at h; cases h
theorem Blk.ext {w w' : World} {b : Nat} {cs : Array Value} {t : TypeId} (h : Blk w b cs t) (hb : Below w.heap.size w w') : Blk w' b cs t := (hb.block b h.lt).trans h
theorem Blk.cell {w : World} {b : Nat} {cs : Array Value} {t : TypeId} (h : Blk w b cs t) (i : Nat) : w.cell? ⟨b, i, none⟩ = cs[i]? := cell_of_row w b i _ _ (0, 0) h
theorem Blk.new (w : World) (cs : Array Value) (t : TypeId) : Blk (w.alloc (.cells cs t)) w.heap.size cs t := heap_alloc_new w _
theorem Blk.at {w : World} {cs : Array Value} {t : TypeId} {b : Nat} (h : w.heap.size = b) : Blk (w.alloc (.cells cs t)) b cs t := by subst h; exact Blk.new _ _ _
theorem Blk.old {w : World} {b : Nat} {cs : Array Value} {t : TypeId} (h : Blk w b cs t) (o : Obj) : Blk (w.alloc o) b cs t := h.ext ((Below.refl _ _).alloc (Nat.le_refl _) _)
theorem Blk.drew {w : World} {b : Nat} {cs : Array Value} {t : TypeId} (h : Blk w b cs t) : Blk w.drew b cs t := h
theorem Blk.frozen {w : World} {b : Nat} {cs : Array Value} {t : TypeId} (h : Blk w b cs t) (i : Nat) : w.frozen? ⟨b, i, none⟩ = false := by
  unfold Blk at h
  simp [World.frozen?, h]

structure Ev where
  tx : Int
  tot : Int
  nth : Int
  k : Int
  tb : Int
  bf : List V
  af : List V
def Ev.wf (e : Ev) : Prop := (0 ≤ e.tx ∧ e.tx ≤ 18446744073709551615) ∧ (-9223372036854775808 ≤ e.tot ∧ e.tot ≤ 9223372036854775807) ∧ (-9223372036854775808 ≤ e.nth ∧ e.nth ≤ 9223372036854775807) ∧ (0 ≤ e.k ∧ e.k ≤ 255) ∧ (-9223372036854775808 ≤ e.tb ∧ e.tb ≤ 9223372036854775807)

end Go.Proofs.YtgklopgeimjgiaaGreatDoor
