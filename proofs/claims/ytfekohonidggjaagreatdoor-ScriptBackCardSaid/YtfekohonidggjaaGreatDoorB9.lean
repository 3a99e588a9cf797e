/- Texts joined by a tool: contracts and walks of this claim. -/
import Derived.Test.YtfekohonidggjaaGreatDoorB1
import Derived.Lib.Join
namespace Go.Proofs.YtfekohonidggjaaGreatDoor
open Go.RowKit
def spW (b : UInt8) : List UInt8 → List (List UInt8)
 | [] => [[]]
 | c :: r => if c = b then [] :: spW b r else match spW b r with
  | [] => [[c]]
  | w :: ws => (c :: w) :: ws
def jnW (b : UInt8) : List (List UInt8) → List UInt8
 | [] => []
 | [w] => w
 | w :: u :: ws => w ++ b :: jnW b (u :: ws)
theorem join_jn (b : UInt8) : ∀ ws, Lib.join ws [b] = jnW b ws
 | [] => rfl
 | [w] => Lib.join_one w [b]
 | w :: u :: ws => by
  have ih := join_jn b (u :: ws)
  rw [Lib.join_cons] at ih ⊢
  rw [jnW, ← ih]
  simp [Lib.joinTail]
theorem spW_ne (b : UInt8) : ∀ l, spW b l ≠ []
 | [] => by simp [spW]
 | c :: r => by
  simp only [spW]
  split
  · simp
  · split <;> simp
theorem spW_free (b : UInt8) : ∀ l, ∀ w ∈ spW b l, b ∉ w
 | [], w, h => by
  simp only [spW, List.mem_singleton] at h
  subst h
  simp
 | c :: r, w, h => by
  have ih := spW_free b r
  simp only [spW] at h
  split at h
  · rcases List.mem_cons.1 h with rfl | h
    · simp
    · exact ih w h
  · next hc =>
    split at h
    · next e => exact absurd e (spW_ne b r)
    · next u us e =>
      rcases List.mem_cons.1 h with rfl | h
      · have := ih u (by rw [e]; simp)
        simp only [List.mem_cons, not_or]
        exact ⟨fun x => hc x.symm, this⟩
      · exact ih w (by rw [e]; simp [h])
theorem jn_sp (b : UInt8) : ∀ l, jnW b (spW b l) = l
 | [] => rfl
 | c :: r => by
  have ih := jn_sp b r
  simp only [spW]
  split
  · next hc =>
    cases e : spW b r with
    | nil => exact absurd e (spW_ne b r)
    | cons u us => rw [jnW, ← e, ih, hc]; rfl
  · split
    · next e => exact absurd e (spW_ne b r)
    · next u us e =>
      rw [e] at ih
      cases us with
      | nil => rw [jnW] at ih ⊢; rw [ih]
      | cons v vs => rw [jnW] at ih ⊢; rw [List.cons_append, ih]
theorem sp_app (b : UInt8) : ∀ (w l : List UInt8), b ∉ w → spW b (w ++ b :: l) = w :: spW b l
 | [], l, _ => by simp [spW]
 | c :: w, l, h => by
  simp only [List.mem_cons, not_or] at h
  have ih := sp_app b w l h.2
  rw [List.cons_append, spW, if_neg (fun e => h.1 e.symm), ih]
theorem sp_one (b : UInt8) : ∀ (w : List UInt8), b ∉ w → spW b w = [w]
 | [], _ => rfl
 | c :: w, h => by
  simp only [List.mem_cons, not_or] at h
  rw [spW, if_neg (fun e => h.1 e.symm), sp_one b w h.2]
theorem sp_jn (b : UInt8) : ∀ ws, ws ≠ [] → (∀ w ∈ ws, b ∉ w) → spW b (jnW b ws) = ws
 | [], h, _ => absurd rfl h
 | [w], _, h => by rw [jnW]; exact sp_one b w (h w (by simp))
 | w :: u :: ws, _, h => by
  rw [jnW, sp_app b w _ (h w (by simp)), sp_jn b (u :: ws) (by simp) (fun x hx => h x (by simp [hx]))]
def wordsF (l : List UInt8) : Option (List (List UInt8)) := if [] ∈ spW 32 l then none else some (spW 32 l)
def wordB (w : List UInt8) : Prop := w ≠ [] ∧ (32 : UInt8) ∉ w
theorem wordsF_some {l : List UInt8} {ws : List (List UInt8)} : wordsF l = some ws ↔ (ws ≠ [] ∧ (∀ w ∈ ws, wordB w) ∧ jnW 32 ws = l) := by
 unfold wordsF
 constructor
 · intro h
   split at h
   · cases h
   · next hn =>
     injection h with h
     subst h
     exact ⟨spW_ne _ _, fun w hw => ⟨fun e => hn (e ▸ hw), spW_free _ _ w hw⟩, jn_sp _ _⟩
 · rintro ⟨h1, h2, rfl⟩
   rw [sp_jn 32 ws h1 (fun w hw => (h2 w hw).2)]
   rw [if_neg (fun h => (h2 _ h).1 rfl)]
theorem wordsF_jn {ws : List (List UInt8)} (h1 : ws ≠ []) (h2 : ∀ w ∈ ws, wordB w) : wordsF (jnW 32 ws) = some ws := wordsF_some.2 ⟨h1, h2, rfl⟩
structure Ac where
 d : Int
 k : Int
 tb : Int
 row : List V
 n : Int
 m : Int
 q : Int
 nm : ByteArray
def i64B (v : Int) : Prop := -9223372036854775808 ≤ v ∧ v ≤ 9223372036854775807
def Ac.wf (a : Ac) : Prop := (0 ≤ a.d ∧ a.d ≤ 255) ∧ (0 ≤ a.k ∧ a.k ≤ 255) ∧ i64B a.tb ∧ (∀ v ∈ a.row, v.wf) ∧ i64B a.n ∧ i64B a.m ∧ i64B a.q ∧ a.nm.size ≤ 140737488355328
def Ac0 : Ac := ⟨0, 0, 0, [], 0, 0, 0, bsO []⟩
def formL : List (Int × List UInt8 × Nat × Bool) := [(1, [98, 101, 103, 105, 110], 0, false), (3, [99, 111, 109, 109, 105, 116], 0, false), (4, [97, 98, 111, 114, 116], 0, false), (5, [115, 116, 101, 112], 0, false), (6, [102, 101, 116, 99, 104], 3, false), (7, [112, 117, 98, 108, 105, 115, 104], 0, false), (8, [116, 101, 108, 108], 0, false), (9, [114, 101, 116, 97, 105, 110], 1, false), (10, [102, 108, 117, 115, 104], 0, false), (11, [99, 111, 109, 112, 97, 99, 116], 0, false), (12, [102, 117, 115, 101], 2, false), (13, [99, 114, 97, 115, 104], 3, false), (14, [102, 108, 105, 112], 3, true), (15, [114, 111, 111, 109], 2, false), (16, [111, 112, 101, 110], 1, false)]
def formOf (d : Int) : Option (List UInt8 × Nat × Bool) := (formL.find? (·.1 == d)).map (·.2)
def formAt (w : List UInt8) : Option (Int × Nat × Bool) := (formL.find? (·.2.1 == w)).map fun x => (x.1, x.2.2)
def tOp1 : List UInt8 := [105, 110, 115, 101, 114, 116]
def tOp2 : List UInt8 := [117, 112, 100, 97, 116, 101]
def tOp3 : List UInt8 := [100, 101, 108, 101, 116, 101]
def opW (k : Int) : List UInt8 := if k = 1 then tOp1 else if k = 2 then tOp2 else tOp3
def opAt (w : List UInt8) : Option Int := if w = tOp1 then some 1 else if w = tOp2 then some 2 else if w = tOp3 then some 3 else none
def fileC (c : UInt8) : Bool := decide ((97 ≤ c.toNat ∧ c.toNat ≤ 122) ∨ (48 ≤ c.toNat ∧ c.toNat ≤ 57) ∨ c.toNat = 46 ∨ c.toNat = 45)
def fileB (l : List UInt8) : Bool := l.all fileC && (decide (1 ≤ l.length) && decide (l.length ≤ 64))
def numsW (c : Nat) (a : Ac) : List (List UInt8) := ([Lib.itoa a.n, Lib.itoa a.m, Lib.itoa a.q]).take c
def tailW (c : Nat) (f : Bool) (a : Ac) : List (List UInt8) := if f then [Lib.itoa a.n, a.nm.data.toList, Lib.itoa a.m, Lib.itoa a.q] else numsW c a
def zeroB (c : Nat) (a : Ac) : Bool := ([a.n, a.m, a.q].drop c).all (· == 0)
def opB (a : Ac) : Bool := decide (1 ≤ a.k ∧ a.k ≤ 3) && (decide (a.row.length ≤ 8) && (decide (a.n = 0 ∧ a.m = 0 ∧ a.q = 0) && (decide (a.nm.size = 0) && a.row.all mayB)))
def noOpB (a : Ac) : Bool := decide (a.k = 0 ∧ a.tb = 0 ∧ a.row.length = 0)
def nmB (f : Bool) (a : Ac) : Bool := if f then fileB a.nm.data.toList else decide (a.nm.size = 0)
def actW (a : Ac) : Option (List (List UInt8)) :=
 if a.d = 2 then (if opB a then some (opW a.k :: Lib.itoa a.tb :: a.row.map valW) else none)
 else match formOf a.d with
  | none => none
  | some (w, c, f) => if noOpB a && (zeroB c a && nmB f a) then some (w :: tailW c f a) else none
def actT (a : Ac) : Option (List UInt8) := (actW a).map (jnW 32)
def numsR : Nat → List (List UInt8) → Option (Int × Int × Int)
 | 0, [] => some (0, 0, 0)
 | 1, [x] => match longZ x with
  | some u => some (u, 0, 0)
  | none => none
 | 2, [x, y] => match longZ x, longZ y with
  | some u, some v => some (u, v, 0)
  | _, _ => none
 | 3, [x, y, z] => match longZ x, longZ y, longZ z with
  | some u, some v, some t => some (u, v, t)
  | _, _, _ => none
 | _, _ => none
def rowR : List (List UInt8) → Option (List V)
 | [] => some []
 | w :: ws => match readV w, rowR ws with
  | some v, some l => some (v :: l)
  | _, _ => none
def opR (k : Int) : List (List UInt8) → Option Ac
 | [] => none
 | t :: vs => match longZ t with
  | none => none
  | some tb => if vs.length ≤ 8 then match rowR vs with
   | some row => some ⟨2, k, tb, row, 0, 0, 0, bsO []⟩
   | none => none
   else none
def formR (d : Int) (c : Nat) (f : Bool) (l : List (List UInt8)) : Option Ac :=
 if f then match l with
  | [x, nm, y, z] => if fileB nm then match numsR 3 [x, y, z] with
   | some (u, v, t) => some ⟨d, 0, 0, [], u, v, t, bsO nm⟩
   | none => none
   else none
  | _ => none
 else match numsR c l with
  | some (u, v, t) => some ⟨d, 0, 0, [], u, v, t, bsO []⟩
  | none => none
def wordsR : List (List UInt8) → Option Ac
 | [] => none
 | w :: l => match opAt w with
  | some k => opR k l
  | none => match formAt w with
   | some (d, c, f) => formR d c f l
   | none => none
def readA (l : List UInt8) : Option Ac := match wordsF l with
 | some ws => wordsR ws
 | none => none
theorem rowR_some : ∀ {ws : List (List UInt8)} (_ : ∀ w ∈ ws, w.length ≤ 140737488355328) {l : List V}, rowR ws = some l ↔ ((∀ v ∈ l, v.wf ∧ mayB v = true) ∧ l.map valW = ws)
 | [], _, l => by
  constructor
  · intro h; simp only [rowR, Option.some.injEq] at h; subst h; simp
  · rintro ⟨_, h⟩
    cases l with
    | nil => rfl
    | cons => simp at h
 | w :: ws, hw, l => by
  have ih := fun l => rowR_some (ws := ws) (fun w h => hw w (by simp [h])) (l := l)
  have h0 := fun v => readV_some (hw w (by simp)) (v := v)
  constructor
  · intro h
    simp only [rowR] at h
    split at h
    · next v l' e1 e2 =>
      injection h with h
      subst h
      have h1 := (h0 v).1 e1
      have h2 := (ih l').1 e2
      refine ⟨fun u hu => ?_, by rw [List.map_cons, h1.2.2, h2.2]⟩
      rcases List.mem_cons.1 hu with rfl | hu
      · exact ⟨h1.1, h1.2.1⟩
      · exact h2.1 u hu
    · cases h
  · rintro ⟨h1, h2⟩
    cases l with
    | nil => simp at h2
    | cons v l =>
     rw [List.map_cons, List.cons.injEq] at h2
     have e1 := (h0 v).2 ⟨(h1 v (by simp)).1, (h1 v (by simp)).2, h2.1⟩
     have e2 := (ih l).2 ⟨fun u hu => h1 u (by simp [hu]), h2.2⟩
     simp only [rowR, e1, e2]
theorem opAt_some {w : List UInt8} {k : Int} : opAt w = some k ↔ ((1 ≤ k ∧ k ≤ 3) ∧ opW k = w) := by
 unfold opAt opW
 constructor
 · intro h
   split at h
   · next e => injection h with h; subst h; exact ⟨by omega, by simp [e]⟩
   · split at h
     · next e => injection h with h; subst h; exact ⟨by omega, by simp [e]⟩
     · split at h
       · next e => injection h with h; subst h; exact ⟨by omega, by simp [e]⟩
       · cases h
 · rintro ⟨⟨h1, h2⟩, rfl⟩
   have : k = 1 ∨ k = 2 ∨ k = 3 := by omega
   rcases this with rfl | rfl | rfl <;> decide
theorem formAt_of {d : Int} {w : List UInt8} {c : Nat} {f : Bool} (h : formOf d = some (w, c, f)) : formAt w = some (d, c, f) ∧ opAt w = none ∧ (0 ≤ d ∧ d ≤ 255) ∧ d ≠ 2 ∧ (f = true → c = 3) ∧ c ≤ 3 ∧ wordB w := by
 obtain ⟨x, hx, e⟩ := Option.map_eq_some_iff.1 h
 have hm := List.mem_of_find?_eq_some hx
 have hd := List.find?_some hx
 simp only [beq_iff_eq] at hd
 obtain ⟨d', w', c', f'⟩ := x
 simp only at hd
 subst hd
 injection e with e1 e2
 injection e2 with e2 e3
 subst e1; subst e2; subst e3
 have key : ∀ y ∈ formL, formAt y.2.1 = some (y.1, y.2.2) ∧ opAt y.2.1 = none ∧ (0 ≤ y.1 ∧ y.1 ≤ 255) ∧ y.1 ≠ 2 ∧ (y.2.2.2 = true → y.2.2.1 = 3) ∧ y.2.2.1 ≤ 3 ∧ (y.2.1 ≠ [] ∧ (32 : UInt8) ∉ y.2.1) := by decide
 exact key _ hm
theorem formOf_at {d : Int} {w : List UInt8} {c : Nat} {f : Bool} (h : formAt w = some (d, c, f)) : formOf d = some (w, c, f) := by
 obtain ⟨x, hx, e⟩ := Option.map_eq_some_iff.1 h
 have hm := List.mem_of_find?_eq_some hx
 have hd := List.find?_some hx
 simp only [beq_iff_eq] at hd
 obtain ⟨d', w', c', f'⟩ := x
 simp only at hd
 subst hd
 injection e with e1 e2
 injection e2 with e2 e3
 subst e1; subst e2; subst e3
 have key : ∀ y ∈ formL, formOf y.1 = some (y.2.1, y.2.2) := by decide
 exact key _ hm
theorem wordB_itoa (v : Int) : wordB (Lib.itoa v) := ⟨itoa_ne v, fun h => by have := itoa_mem v _ h; revert this; decide⟩
theorem wordB_valW {v : V} (hv : v.wf ∧ mayB v = true) : wordB (valW v) := by
 obtain ⟨hw, h⟩ := hv
 have hx : ∀ l, (32 : UInt8) ∉ hexL l := fun l h => by have := hexL_mem l _ h; revert this; decide
 have hy : ∀ k n, (32 : UInt8) ∉ hexN k n := fun k n h => by have := hexN_mem k n _ h; revert this; decide
 unfold valW
 rcases mayA_kind hw h with e | e | e | e | e | e <;> rw [e]
 · rw [if_pos rfl]; exact ⟨by decide, by decide⟩
 · rw [if_neg (by decide), if_pos rfl]
   by_cases h1 : v.n = 1
   · rw [if_pos h1]; exact ⟨by decide, by decide⟩
   · rw [if_neg h1]; exact ⟨by decide, by decide⟩
 · exact wordB_itoa v.n
 · refine ⟨by simp, ?_⟩
   simp [hy]
 · refine ⟨by simp, ?_⟩
   simp [hx]
 · refine ⟨by simp, ?_⟩
   simp [hx]
theorem wordB_file {l : List UInt8} (h : fileB l = true) : wordB l := by
 unfold fileB at h
 simp only [Bool.and_eq_true, List.all_eq_true, decide_eq_true_eq] at h
 refine ⟨fun e => by rw [e] at h; simp at h, fun hm => ?_⟩
 have := h.1 _ hm
 revert this
 decide
theorem wordB_op (k : Int) : wordB (opW k) := by
 unfold opW
 repeat' split
 all_goals exact ⟨by decide, by decide⟩
theorem numsR_some {c : Nat} (hc : c ≤ 3) {l : List (List UInt8)} {u v t : Int} : numsR c l = some (u, v, t) ↔ (i64B u ∧ i64B v ∧ i64B t ∧ ([u, v, t].drop c).all (· == 0) = true ∧ ([Lib.itoa u, Lib.itoa v, Lib.itoa t]).take c = l) := by
 have hz : i64B 0 := ⟨by decide, by decide⟩
 have hL : ∀ {x : List UInt8} {u : Int}, longZ x = some u ↔ (i64B u ∧ Lib.itoa u = x) := longZ_some
 match c, hc with
 | 0, _ =>
  constructor
  · intro h
    cases l with
    | nil => simp only [numsR, Option.some.injEq, Prod.mk.injEq] at h; obtain ⟨rfl, rfl, rfl⟩ := h; exact ⟨hz, hz, hz, rfl, rfl⟩
    | cons => simp [numsR] at h
  · rintro ⟨_, _, _, h, h2⟩
    simp at h h2
    obtain ⟨rfl, rfl, rfl⟩ := h
    subst h2
    rfl
 | 1, _ =>
  constructor
  · intro h
    match l, h with
    | [x], h =>
     simp only [numsR] at h
     split at h
     · next u' e =>
       simp only [Option.some.injEq, Prod.mk.injEq] at h
       obtain ⟨rfl, rfl, rfl⟩ := h
       obtain ⟨h1, h2⟩ := hL.1 e
       exact ⟨h1, hz, hz, rfl, by simp [h2]⟩
     · cases h
  · rintro ⟨h1, _, _, h, h2⟩
    simp at h h2
    obtain ⟨rfl, rfl⟩ := h
    subst h2
    simp only [numsR, hL.2 ⟨h1, rfl⟩]
 | 2, _ =>
  constructor
  · intro h
    match l, h with
    | [x, y], h =>
     simp only [numsR] at h
     split at h
     · next u' v' e e' =>
       simp only [Option.some.injEq, Prod.mk.injEq] at h
       obtain ⟨rfl, rfl, rfl⟩ := h
       obtain ⟨h1, h2⟩ := hL.1 e
       obtain ⟨h3, h4⟩ := hL.1 e'
       exact ⟨h1, h3, hz, rfl, by simp [h2, h4]⟩
     · cases h
  · rintro ⟨h1, h3, _, h, h2⟩
    simp at h h2
    subst h
    subst h2
    simp only [numsR, hL.2 ⟨h1, rfl⟩, hL.2 ⟨h3, rfl⟩]
 | 3, _ =>
  constructor
  · intro h
    match l, h with
    | [x, y, z], h =>
     simp only [numsR] at h
     split at h
     · next u' v' t' e e' e'' =>
       simp only [Option.some.injEq, Prod.mk.injEq] at h
       obtain ⟨rfl, rfl, rfl⟩ := h
       obtain ⟨h1, h2⟩ := hL.1 e
       obtain ⟨h3, h4⟩ := hL.1 e'
       obtain ⟨h5, h6⟩ := hL.1 e''
       exact ⟨h1, h3, h5, rfl, by simp [h2, h4, h6]⟩
     · cases h
  · rintro ⟨h1, h3, h5, h, h2⟩
    simp at h2
    subst h2
    simp only [numsR, hL.2 ⟨h1, rfl⟩, hL.2 ⟨h3, rfl⟩, hL.2 ⟨h5, rfl⟩]
theorem formR_some {d : Int} {c : Nat} {f : Bool} {l : List (List UInt8)} (hd : 0 ≤ d ∧ d ≤ 255) (hf : f = true → c = 3) (hc : c ≤ 3) (hl : ∀ w ∈ l, w.length ≤ 140737488355328) {a : Ac} :
 formR d c f l = some a ↔ (a.wf ∧ a.d = d ∧ (noOpB a && (zeroB c a && nmB f a)) = true ∧ tailW c f a = l) := by
 have hz : i64B 0 := ⟨by decide, by decide⟩
 have n0 : (bsO []).size = 0 := rfl
 obtain ⟨ad, ak, atb, arow, an, am, aq, anm⟩ := a
 cases f with
 | false =>
  unfold formR
  simp only [Bool.false_eq_true, if_false]
  constructor
  · intro h
    split at h
    · next u v t e =>
      injection h with h
      injection h with h1 h2 h3 h4 h5 h6 h7 h8
      subst h1; subst h2; subst h3; subst h4; subst h5; subst h6; subst h7; subst h8
      obtain ⟨k1, k2, k3, k4, k5⟩ := (numsR_some hc).1 e
      refine ⟨⟨hd, by simp, hz, by simp, k1, k2, k3, by simp [n0]⟩, rfl, ?_, ?_⟩
      · simp [noOpB, nmB, zeroB, n0]; simpa using k4
      · simpa [tailW, numsW] using k5
    · cases h
  · rintro ⟨⟨_, _, _, _, k1, k2, k3, _⟩, rfl, h, h2⟩
    simp only [noOpB, nmB, zeroB, Bool.and_eq_true, decide_eq_true_eq, Bool.false_eq_true, if_false] at h
    obtain ⟨⟨rfl, rfl, hr⟩, h3, h4⟩ := h
    obtain rfl : arow = [] := List.eq_nil_of_length_eq_zero hr
    obtain rfl : anm = bsO [] := mk_t h4
    have e := (numsR_some hc (l := l)).2 ⟨k1, k2, k3, h3, by simpa [tailW, numsW] using h2⟩
    simp only [e]
 | true =>
  obtain rfl := hf rfl
  unfold formR
  simp only [if_true]
  constructor
  · intro h
    split at h
    · next x nm y z =>
      split at h
      · next hfile =>
        split at h
        · next u v t e =>
          injection h with h
          injection h with h1 h2 h3 h4 h5 h6 h7 h8
          subst h1; subst h2; subst h3; subst h4; subst h5; subst h6; subst h7; subst h8
          obtain ⟨k1, k2, k3, k4, k5⟩ := (numsR_some hc).1 e
          have hnm := hl nm (by simp)
          refine ⟨⟨hd, by simp, hz, by simp, k1, k2, k3, by rw [bsO_size]; exact hnm⟩, rfl, ?_, ?_⟩
          · simp [noOpB, nmB, zeroB, bsO_data, hfile]
          · simp at k5
            simp [tailW, bsO_data, k5]
        · cases h
      · cases h
    · cases h
  · rintro ⟨⟨_, _, _, _, k1, k2, k3, _⟩, rfl, h, h2⟩
    simp only [noOpB, nmB, zeroB, Bool.and_eq_true, decide_eq_true_eq, if_true] at h
    obtain ⟨⟨rfl, rfl, hr⟩, h3, h4⟩ := h
    obtain rfl : arow = [] := List.eq_nil_of_length_eq_zero hr
    simp only [tailW, if_true] at h2
    subst h2
    have e := (numsR_some hc (l := [Lib.itoa an, Lib.itoa am, Lib.itoa aq])).2 ⟨k1, k2, k3, h3, rfl⟩
    simp only [h4, if_true, e, bsO_of]
theorem wordsR_some {ws : List (List UInt8)} (hl : ∀ w ∈ ws, w.length ≤ 140737488355328) {a : Ac} : wordsR ws = some a ↔ (a.wf ∧ actW a = some ws) := by
 have hz : i64B 0 := ⟨by decide, by decide⟩
 have n0 : (bsO []).size = 0 := rfl
 constructor
 · intro h
   cases ws with
   | nil => simp [wordsR] at h
   | cons w l =>
    simp only [wordsR] at h
    split at h
    · next k hk =>
      obtain ⟨hk1, rfl⟩ := opAt_some.1 hk
      cases l with
      | nil => simp [opR] at h
      | cons t vs =>
       simp only [opR] at h
       split at h
       · cases h
       · next tb ht =>
         obtain ⟨h1, rfl⟩ := longZ_some.1 ht
         split at h
         · next h8 =>
           split at h
           · next row hr =>
             injection h with h
             subst h
             obtain ⟨h2, rfl⟩ := (rowR_some (fun w hw => hl w (by simp [hw]))).1 hr
             refine ⟨⟨by simp, by simp only; omega, h1, fun v hv => (h2 v hv).1, hz, hz, hz, by simp [n0]⟩, ?_⟩
             have : opB ⟨2, k, tb, row, 0, 0, 0, bsO []⟩ = true := by
              simp only [List.length_map] at h8
              simp [opB, n0, hk1, h8]
              exact fun v hv => (h2 v hv).2
             simp [actW, this]
           · cases h
         · cases h
    · next hk =>
      split at h
      · next d c f hf =>
        have h0 := formOf_at hf
        obtain ⟨_, _, h2, h3, h4, h5, _⟩ := formAt_of h0
        obtain ⟨k1, rfl, k3, rfl⟩ := (formR_some h2 h4 h5 (fun w hw => hl w (by simp [hw]))).1 h
        refine ⟨k1, ?_⟩
        simp only [actW, if_neg h3, h0, k3, if_true]
      · cases h
 · rintro ⟨hw, h⟩
   unfold actW at h
   split at h
   · next hd =>
     split at h
     · next hb =>
       injection h with h
       subst h
       obtain ⟨ad, ak, atb, arow, an, am, aq, anm⟩ := a
       simp only at hd
       subst hd
       simp only [opB, Bool.and_eq_true, decide_eq_true_eq, List.all_eq_true] at hb
       obtain ⟨hk, h8, ⟨rfl, rfl, rfl⟩, hn, hm⟩ := hb
       obtain rfl : anm = bsO [] := mk_t hn
       obtain ⟨_, _, h1, h2, _⟩ := hw
       have e1 := opAt_some.2 ⟨hk, rfl⟩
       have e2 := (rowR_some (ws := arow.map valW) (fun w hw => hl w (by simp only [List.mem_cons]; exact Or.inr (Or.inr hw)))).2 ⟨fun v hv => ⟨h2 v hv, hm v hv⟩, rfl⟩
       simp only [wordsR, e1, opR, longZ_itoa h1, List.length_map, h8, if_true, e2]
     · cases h
   · next hd =>
     split at h
     · cases h
     · next w c f hf =>
       split at h
       · next hb =>
         injection h with h
         subst h
         obtain ⟨h1, h2, h3, _, h4, h5, _⟩ := formAt_of hf
         have := (formR_some (l := tailW c f a) h3 h4 h5 (fun w hw => hl w (by simp [hw]))).2 ⟨hw, rfl, hb, rfl⟩
         simp only [wordsR, h2, h1, this]
       · cases h
theorem actW_words {a : Ac} {ws : List (List UInt8)} (hw : a.wf) (h : actW a = some ws) : ws ≠ [] ∧ ∀ w ∈ ws, wordB w := by
 unfold actW at h
 split at h
 · split at h
   · next hb =>
     injection h with h
     subst h
     simp only [opB, Bool.and_eq_true, decide_eq_true_eq, List.all_eq_true] at hb
     refine ⟨by simp, fun w hw' => ?_⟩
     rcases List.mem_cons.1 hw' with rfl | hw'
     · exact wordB_op _
     · rcases List.mem_cons.1 hw' with rfl | hw'
       · exact wordB_itoa _
       · obtain ⟨v, hv, rfl⟩ := List.mem_map.1 hw'
         exact wordB_valW ⟨hw.2.2.2.1 v hv, hb.2.2.2.2 v hv⟩
   · cases h
 · split at h
   · cases h
   · next w c f hf =>
     obtain ⟨_, _, _, _, _, _, hwb⟩ := formAt_of hf
     split at h
     · next hb =>
       injection h with h
       subst h
       refine ⟨by simp, fun u hu => ?_⟩
       rcases List.mem_cons.1 hu with rfl | hu
       · exact hwb
       · cases f with
         | false =>
          have : u ∈ [Lib.itoa a.n, Lib.itoa a.m, Lib.itoa a.q] := List.mem_of_mem_take hu
          simp only [List.mem_cons, List.not_mem_nil, or_false] at this
          rcases this with rfl | rfl | rfl <;> exact wordB_itoa _
         | true =>
          simp only [nmB, Bool.and_eq_true, if_true] at hb
          simp only [tailW, if_true, List.mem_cons, List.not_mem_nil, or_false] at hu
          rcases hu with rfl | rfl | rfl | rfl
          · exact wordB_itoa _
          · exact wordB_file hb.2.2
          · exact wordB_itoa _
          · exact wordB_itoa _
     · cases h
theorem jn_len (b : UInt8) : ∀ (ws : List (List UInt8)), ∀ w ∈ ws, w.length ≤ (jnW b ws).length
 | [w], u, h => by simp only [List.mem_singleton] at h; subst h; exact Nat.le_refl _
 | w :: x :: ws, u, h => by
  rw [jnW, List.length_append, List.length_cons]
  rcases List.mem_cons.1 h with rfl | h
  · omega
  · have := jn_len b (x :: ws) u h
    omega
theorem readA_some {l : List UInt8} (hl : l.length ≤ 140737488355328) {a : Ac} : readA l = some a ↔ (a.wf ∧ actT a = some l) := by
 unfold readA actT
 constructor
 · intro h
   split at h
   · next ws hws =>
     obtain ⟨h1, h2, rfl⟩ := wordsF_some.1 hws
     obtain ⟨h3, h4⟩ := (wordsR_some (fun w hw => Nat.le_trans (jn_len 32 ws w hw) hl)).1 h
     exact ⟨h3, by rw [h4]; rfl⟩
   · cases h
 · rintro ⟨hw, h⟩
   obtain ⟨ws, h1, rfl⟩ := Option.map_eq_some_iff.1 h
   obtain ⟨h2, h3⟩ := actW_words hw h1
   rw [wordsF_jn h2 h3]
   exact (wordsR_some (fun w hw => Nat.le_trans (jn_len 32 ws w hw) hl)).2 ⟨hw, h1⟩
end Go.Proofs.YtfekohonidggjaaGreatDoor
