/- Texts joined by a tool: contracts and walks of this claim. -/
import Derived.Test.YtfekohonidggjaaGreatDoorB9
import Derived.Test.YtfekohonidggjaaGreatDoorB6
namespace Go.Proofs.YtfekohonidggjaaGreatDoor
open Go.RowKit
def kindL : List (Int × Bool × List UInt8) := [(1, false, [98, 111, 111, 108]), (1, true, [98, 111, 111, 108, 63]), (2, false, [105, 110, 116]), (2, true, [105, 110, 116, 63]), (3, false, [114, 101, 97, 108]), (3, true, [114, 101, 97, 108, 63]), (4, false, [98, 121, 116, 101, 115]), (4, true, [98, 121, 116, 101, 115, 63]), (5, false, [115, 116, 114, 105, 110, 103]), (5, true, [115, 116, 114, 105, 110, 103, 63])]
def tTable : List UInt8 := [116, 97, 98, 108, 101]
def tSeg : List UInt8 := [115, 101, 103]
def tBound : List UInt8 := [98, 111, 117, 110, 100]
def tRooms : List UInt8 := [114, 111, 111, 109, 115]
def kindW (k : Int) (nl : Bool) : List UInt8 := ((kindL.find? fun x => x.1 == k && x.2.1 == nl).map (·.2.2)).getD []
def kindAt (w : List UInt8) : Option (Int × Bool) := (kindL.find? (·.2.2 == w)).map fun x => (x.1, x.2.1)
def colW (c : Co) : List UInt8 := c.nm.data.toList ++ 58 :: kindW c.k c.nl
def cutC : List UInt8 → Option (List UInt8 × List UInt8)
 | [] => none
 | c :: r => if c = 58 then some ([], r) else (cutC r).map fun x => (c :: x.1, x.2)
def colR (w : List UInt8) : Option Co := match cutC w with
 | some (a, b) => (kindAt b).map fun x => ⟨bsO a, x.1, x.2⟩
 | none => none
def colsR : List (List UInt8) → Option (List Co)
 | [] => some []
 | w :: ws => match colR w, colsR ws with
  | some c, some l => some (c :: l)
  | _, _ => none
def tabW (t : Ta) : List (List UInt8) := tTable :: t.nm.data.toList :: Lib.itoa t.key :: Lib.itoa t.ref :: Lib.itoa t.par :: t.cs.map colW
def tabT (t : Ta) : List UInt8 := jnW 32 (tabW t)
def tabR : List (List UInt8) → Option Ta
 | t :: nm :: x :: y :: z :: cs => if t = tTable then match longZ x, longZ y, longZ z, colsR cs with
  | some k, some r, some p, some l => some ⟨bsO nm, l, k, r, p, none, 0⟩
  | _, _, _, _ => none
  else none
 | _ => none
def readT (l : List UInt8) : Option Ta := match wordsF l with
 | some ws => tabR ws
 | none => none
def colOk (c : Co) : Prop := c.wf ∧ (1 ≤ c.k ∧ c.k ≤ 5) ∧ (58 : UInt8) ∉ c.nm.data.toList
def Ta.z (t : Ta) : Ta := ⟨t.nm, t.cs, t.key, t.ref, t.par, none, 0⟩
def tabOk (t : Ta) : Prop := t.wf ∧ (∀ c ∈ t.cs, colOk c)
theorem cutC_some : ∀ {w a b : List UInt8}, cutC w = some (a, b) ↔ (w = a ++ 58 :: b ∧ (58 : UInt8) ∉ a)
 | [], a, b => by simp [cutC]
 | c :: r, a, b => by
  constructor
  · intro h
    simp only [cutC] at h
    split at h
    · next hc =>
      injection h with h
      injection h with h1 h2
      subst h1; subst h2
      exact ⟨by simp [hc], by simp⟩
    · next hc =>
      obtain ⟨x, hx, e⟩ := Option.map_eq_some_iff.1 h
      injection e with e1 e2
      subst e1; subst e2
      obtain ⟨h1, h2⟩ := cutC_some.1 (show cutC r = some (x.1, x.2) from hx)
      refine ⟨by rw [h1]; rfl, ?_⟩
      simp only [List.mem_cons, not_or]
      exact ⟨fun e => hc e.symm, h2⟩
  · rintro ⟨h1, h2⟩
    cases a with
    | nil =>
     simp only [List.nil_append, List.cons.injEq] at h1
     simp [cutC, h1.1, h1.2]
    | cons d a =>
     simp only [List.cons_append, List.cons.injEq] at h1
     simp only [List.mem_cons, not_or] at h2
     have hc : ¬ c = 58 := by rw [h1.1]; exact fun e => h2.1 e.symm
     simp only [cutC, if_neg hc]
     rw [cutC_some.2 ⟨h1.2, h2.2⟩, h1.1]
     rfl
theorem kindW_len : ∀ x ∈ kindL, x.2.2.length ≤ 7 ∧ (32 : UInt8) ∉ x.2.2 ∧ (10 : UInt8) ∉ x.2.2 ∧ x.2.2 ≠ [] := by decide
theorem kindW_mem {k : Int} (h : 1 ≤ k ∧ k ≤ 5) (nl : Bool) : (k, nl, kindW k nl) ∈ kindL := by
 have : k = 1 ∨ k = 2 ∨ k = 3 ∨ k = 4 ∨ k = 5 := by omega
 rcases this with rfl | rfl | rfl | rfl | rfl <;> cases nl <;> decide
theorem kindAt_some {w : List UInt8} {k : Int} {nl : Bool} : kindAt w = some (k, nl) ↔ ((1 ≤ k ∧ k ≤ 5) ∧ kindW k nl = w) := by
 constructor
 · intro h
   obtain ⟨x, hx, e⟩ := Option.map_eq_some_iff.1 h
   have hm := List.mem_of_find?_eq_some hx
   have hd := List.find?_some hx
   simp only [beq_iff_eq] at hd
   obtain ⟨k', n', w'⟩ := x
   simp only at hd
   subst hd
   injection e with e1 e2
   subst e1; subst e2
   have key : ∀ y ∈ kindL, (1 ≤ y.1 ∧ y.1 ≤ 5) ∧ kindW y.1 y.2.1 = y.2.2 := by decide
   exact key _ hm
 · rintro ⟨h, rfl⟩
   have key : ∀ y ∈ kindL, kindAt y.2.2 = some (y.1, y.2.1) := by decide
   exact key _ (kindW_mem h nl)
theorem colR_some {w : List UInt8} (hw : w.length ≤ 140737488355328) {c : Co} : colR w = some c ↔ (colOk c ∧ colW c = w) := by
 unfold colR
 constructor
 · intro h
   split at h
   · next a b e =>
     obtain ⟨h1, h2⟩ := cutC_some.1 e
     obtain ⟨⟨k, nl⟩, hk, rfl⟩ := Option.map_eq_some_iff.1 h
     obtain ⟨h3, h4⟩ := kindAt_some.1 hk
     rw [h1] at hw
     simp only [List.length_append, List.length_cons] at hw
     refine ⟨⟨⟨by rw [bsO_size]; omega, by simp only; omega⟩, h3, by rw [bsO_data]; exact h2⟩, ?_⟩
     simp only [colW, bsO_data, h4, h1]
   · cases h
 · rintro ⟨⟨h1, h2, h3⟩, rfl⟩
   have e := (cutC_some (w := colW c) (b := kindW c.k c.nl)).2 ⟨rfl, h3⟩
   rw [e]
   simp only [kindAt_some.2 ⟨h2, rfl⟩, Option.map_some, bsO_of]
theorem colsR_some : ∀ {ws : List (List UInt8)} (_ : ∀ w ∈ ws, w.length ≤ 140737488355328) {l : List Co}, colsR ws = some l ↔ ((∀ c ∈ l, colOk c) ∧ l.map colW = ws)
 | [], _, l => by
  constructor
  · intro h; simp only [colsR, Option.some.injEq] at h; subst h; simp
  · rintro ⟨_, h⟩
    cases l with
    | nil => rfl
    | cons => simp at h
 | w :: ws, hw, l => by
  have ih := fun l => colsR_some (ws := ws) (fun w h => hw w (by simp [h])) (l := l)
  have h0 := fun v => colR_some (hw w (by simp)) (c := v)
  constructor
  · intro h
    simp only [colsR] at h
    split at h
    · next v l' e1 e2 =>
      injection h with h
      subst h
      have h1 := (h0 v).1 e1
      have h2 := (ih l').1 e2
      refine ⟨fun u hu => ?_, by rw [List.map_cons, h1.2, h2.2]⟩
      rcases List.mem_cons.1 hu with rfl | hu
      · exact h1.1
      · exact h2.1 u hu
    · cases h
  · rintro ⟨h1, h2⟩
    cases l with
    | nil => simp at h2
    | cons v l =>
     rw [List.map_cons, List.cons.injEq] at h2
     have e1 := (h0 v).2 ⟨h1 v (by simp), h2.1⟩
     have e2 := (ih l).2 ⟨fun u hu => h1 u (by simp [hu]), h2.2⟩
     simp only [colsR, e1, e2]
theorem tabR_some {ws : List (List UInt8)} (hw : ∀ w ∈ ws, w.length ≤ 140737488355328) {t : Ta} : tabR ws = some t ↔ (t = t.z ∧ tabOk t ∧ tabW t = ws) := by
 constructor
 · intro h
   unfold tabR at h
   split at h
   · next a nm x y z cs =>
     split at h
     · next ha =>
       split at h
       · next k r p l e1 e2 e3 e4 =>
         injection h with h
         subst h
         obtain ⟨h1, rfl⟩ := longZ_some.1 e1
         obtain ⟨h2, rfl⟩ := longZ_some.1 e2
         obtain ⟨h3, rfl⟩ := longZ_some.1 e3
         obtain ⟨h4, rfl⟩ := (colsR_some (fun w h => hw w (by simp [h]))).1 e4
         refine ⟨rfl, ⟨⟨by rw [bsO_size]; exact hw nm (by simp), h1, h2, h3⟩, h4⟩, ?_⟩
         simp [tabW, bsO_data, ha]
       · cases h
     · cases h
   · cases h
 · rintro ⟨h1, ⟨⟨h2, h3, h4, h5⟩, h6⟩, rfl⟩
   have e4 := (colsR_some (ws := t.cs.map colW) (fun w h => hw w (by simp only [tabW, List.mem_cons]; exact Or.inr (Or.inr (Or.inr (Or.inr (Or.inr h))))))).2 ⟨h6, rfl⟩
   simp only [tabW, tabR, if_true, longZ_itoa h3, longZ_itoa h4, longZ_itoa h5, e4, bsO_of]
   rw [h1]
   rfl
theorem readT_some {l : List UInt8} (hl : l.length ≤ 140737488355328) {t : Ta} : readT l = some t ↔ (t = t.z ∧ tabOk t ∧ (∀ w ∈ tabW t, wordB w) ∧ tabT t = l) := by
 unfold readT tabT
 constructor
 · intro h
   split at h
   · next ws hws =>
     obtain ⟨_, h2, rfl⟩ := wordsF_some.1 hws
     obtain ⟨h3, h4, rfl⟩ := (tabR_some (fun w hw => Nat.le_trans (jn_len 32 ws w hw) hl)).1 h
     exact ⟨h3, h4, h2, rfl⟩
   · cases h
 · rintro ⟨h1, h2, h3, rfl⟩
   rw [wordsF_jn (by simp [tabW]) h3]
   exact (tabR_some (fun w hw => Nat.le_trans (jn_len 32 _ w hw) hl)).2 ⟨h1, h2, rfl⟩
structure Ls where
 seg : Int
 bd : Int
 r0 : Int
 r1 : Int
 r2 : Int
 ts : List Ta
 l : List Ac
 n : Nat
 acts : Bool
def Ls0 : Ls := ⟨0, 0, 0, 0, 0, [], [], 0, false⟩
def segB (v : Int) : Bool := decide (1 ≤ v ∧ v ≤ 65536)
def bdB (v : Int) : Bool := decide (1 ≤ v ∧ v ≤ 4096)
def rmB (v : Int) : Bool := decide (0 ≤ v ∧ v ≤ 16777216)
def headF (st : Ls) (w : List UInt8) : Option Ls := match wordsF w with
 | none => none
 | some ws => match st.n, ws with
  | 0, [a, x] => if a = tSeg then match longZ x with
   | some v => if segB v then some { st with seg := v, n := 1 } else none
   | none => none
   else none
  | 1, [a, x] => if a = tBound then match longZ x with
   | some v => if bdB v then some { st with bd := v, n := 2 } else none
   | none => none
   else none
  | 2, [a, x, y, z] => if a = tRooms then match longZ x, longZ y, longZ z with
   | some u, some v, some t => if rmB u && (rmB v && rmB t) then some { st with r0 := u, r1 := v, r2 := t, n := 3 } else none
   | _, _, _ => none
   else none
  | _, _ => none
def bodyF (st : Ls) (w : List UInt8) : Option Ls :=
 match (if st.acts then none else readT w) with
 | some t => if schB (st.ts ++ [t]) then some { st with ts := st.ts ++ [t], n := st.n + 1 } else none
 | none => if st.ts.length = 0 then none else match readA w with
  | some a => some { st with l := st.l ++ [a], n := st.n + 1, acts := true }
  | none => none
def lineF (st : Ls) (w : List UInt8) : Option Ls := if st.n < 3 then headF st w else bodyF st w
inductive Rs where
 | ok (st : Ls)
 | bad (n : Nat)
def goP : Ls → List (List UInt8) → Rs
 | st, [] => .bad (st.n + 1)
 | st, [w] => if w = [] ∧ st.ts.length ≠ 0 then .ok st else .bad (st.n + 1)
 | st, w :: u :: ws => match lineF st w with
  | some st' => goP st' (u :: ws)
  | none => .bad (st.n + 1)
def headLs (st : Ls) : List (List UInt8) := [jnW 32 [tSeg, Lib.itoa st.seg], jnW 32 [tBound, Lib.itoa st.bd], jnW 32 [tRooms, Lib.itoa st.r0, Lib.itoa st.r1, Lib.itoa st.r2]]
def linesF (st : Ls) : List (List UInt8) := (headLs st).take st.n ++ (st.ts.map tabT ++ st.l.map fun a => (actT a).getD [])
def textF (ls : List (List UInt8)) : List UInt8 := ls.flatMap (· ++ [10])
structure Ls.ok (st : Ls) : Prop where
 h0 : st.n = 0 ∨ segB st.seg = true
 h1 : st.n ≤ 1 ∨ bdB st.bd = true
 h2 : st.n ≤ 2 ∨ (rmB st.r0 && (rmB st.r1 && rmB st.r2)) = true
 ts : st.ts = [] ∨ (schB st.ts = true ∧ 3 ≤ st.n)
 tz : ∀ t ∈ st.ts, t = t.z ∧ tabOk t ∧ (∀ w ∈ tabW t, wordB w)
 l : ∀ a ∈ st.l, a.wf ∧ (actT a).isSome = true
 la : st.acts = false → st.l = []
 lt : st.l ≠ [] → st.ts ≠ []
 hn : (linesF st).length = st.n
theorem Ls0_ok : Ls0.ok := by
 constructor <;> simp [Ls0, linesF]
theorem int_i64 {a b v : Int} (h : a ≤ v ∧ v ≤ b) (h1 : -9223372036854775808 ≤ a) (h2 : b ≤ 9223372036854775807) : -9223372036854775808 ≤ v ∧ v ≤ 9223372036854775807 := by omega
theorem bodyF_some {st st' : Ls} {w : List UInt8} (h : bodyF st w = some st') : (∃ t, st.acts = false ∧ readT w = some t ∧ schB (st.ts ++ [t]) = true ∧ st' = { st with ts := st.ts ++ [t], n := st.n + 1 }) ∨ (∃ a, st.ts.length ≠ 0 ∧ readA w = some a ∧ st' = { st with l := st.l ++ [a], n := st.n + 1, acts := true }) := by
 unfold bodyF at h
 split at h
 · next t ht =>
   split at h
   · next hb =>
     injection h with h
     left
     split at ht
     · cases ht
     · next ha => exact ⟨t, by simpa using ha, ht, hb, h.symm⟩
   · cases h
 · split at h
   · cases h
   · next h0 =>
     split at h
     · next a ha => injection h with h; exact Or.inr ⟨a, h0, ha, h.symm⟩
     · cases h
theorem headF_some {st st' : Ls} {w : List UInt8} (h : headF st w = some st') :
 (st.n = 0 ∧ ∃ v, segB v = true ∧ w = jnW 32 [tSeg, Lib.itoa v] ∧ st' = { st with seg := v, n := 1 }) ∨
 (st.n = 1 ∧ ∃ v, bdB v = true ∧ w = jnW 32 [tBound, Lib.itoa v] ∧ st' = { st with bd := v, n := 2 }) ∨
 (st.n = 2 ∧ ∃ u v t, (rmB u && (rmB v && rmB t)) = true ∧ w = jnW 32 [tRooms, Lib.itoa u, Lib.itoa v, Lib.itoa t] ∧ st' = { st with r0 := u, r1 := v, r2 := t, n := 3 }) := by
 unfold headF at h
 split at h
 · cases h
 · next ws hws =>
   obtain ⟨_, _, rfl⟩ := wordsF_some.1 hws
   split at h
   · next a x hn =>
     split at h
     · next ha =>
       subst ha
       split at h
       · next v hv =>
         obtain ⟨_, rfl⟩ := longZ_some.1 hv
         split at h
         · next hb => injection h with h; exact Or.inl ⟨by assumption, v, hb, rfl, h.symm⟩
         · cases h
       · cases h
     · cases h
   · next a x hn =>
     split at h
     · next ha =>
       subst ha
       split at h
       · next v hv =>
         obtain ⟨_, rfl⟩ := longZ_some.1 hv
         split at h
         · next hb => injection h with h; exact Or.inr (Or.inl ⟨by assumption, v, hb, rfl, h.symm⟩)
         · cases h
       · cases h
     · cases h
   · next a x y z hn =>
     split at h
     · next ha =>
       subst ha
       split at h
       · next u v t h1 h2 h3 =>
         obtain ⟨_, rfl⟩ := longZ_some.1 h1
         obtain ⟨_, rfl⟩ := longZ_some.1 h2
         obtain ⟨_, rfl⟩ := longZ_some.1 h3
         split at h
         · next hb => injection h with h; exact Or.inr (Or.inr ⟨by assumption, u, v, t, hb, rfl, h.symm⟩)
         · cases h
       · cases h
     · cases h
   · cases h
theorem lineF_ok {st st' : Ls} {w : List UInt8} (hw : w.length ≤ 140737488355328) (ho : st.ok) (h : lineF st w = some st') : st'.ok ∧ linesF st' = linesF st ++ [w] ∧ st'.n = st.n + 1 := by
 unfold lineF at h
 split at h
 · next hn =>
   have e0 : st.ts = [] := by
    rcases ho.ts with h | h
    · exact h
    · omega
   have el : st.l = [] := Classical.byContradiction fun hl => ho.lt hl e0
   rcases headF_some h with ⟨h0, v, hb, rfl, rfl⟩ | ⟨h0, v, hb, rfl, rfl⟩ | ⟨h0, u, v, t, hb, rfl, rfl⟩
   · refine ⟨⟨Or.inr hb, Or.inl (by simp), Or.inl (by simp), Or.inl e0, ho.tz, ho.l, ho.la, ho.lt, by simp [linesF, headLs, e0, el]⟩, by simp [linesF, headLs, e0, el, h0], by simp [h0]⟩
   · refine ⟨⟨Or.inr (ho.h0.resolve_left (by omega)), Or.inr hb, Or.inl (by simp), Or.inl e0, ho.tz, ho.l, ho.la, ho.lt, by simp [linesF, headLs, e0, el]⟩, by simp [linesF, headLs, e0, el, h0], by simp [h0]⟩
   · refine ⟨⟨Or.inr (ho.h0.resolve_left (by omega)), Or.inr (ho.h1.resolve_left (by omega)), Or.inr hb, Or.inl e0, ho.tz, ho.l, ho.la, ho.lt, by simp [linesF, headLs, e0, el]⟩, by simp [linesF, headLs, e0, el, h0], by simp [h0]⟩
 · next hn =>
   have h3 : 3 ≤ st.n := by omega
   have ht : ∀ n, 3 ≤ n → (headLs st).take n = headLs st := fun n h => List.take_of_length_le (by simp [headLs]; omega)
   rcases bodyF_some h with ⟨t, ha, hr, hb, rfl⟩ | ⟨a, h0, hr, rfl⟩
   · obtain ⟨k1, k2, k3, k4⟩ := (readT_some hw).1 hr
     have el := ho.la ha
     have hlines : linesF { st with ts := st.ts ++ [t], n := st.n + 1 } = linesF st ++ [w] := by
      show (headLs st).take (st.n + 1) ++ ((st.ts ++ [t]).map tabT ++ st.l.map _) = (headLs st).take st.n ++ (st.ts.map tabT ++ st.l.map _) ++ [w]
      rw [ht _ h3, ht _ (by omega), el]
      simp [k4]
     refine ⟨⟨Or.inr (ho.h0.resolve_left (by omega)), Or.inr (ho.h1.resolve_left (by omega)), Or.inr (ho.h2.resolve_left (by omega)), Or.inr ⟨hb, by simp only; omega⟩, ?_, ho.l, ho.la, fun _ => by simp, ?_⟩, hlines, rfl⟩
     · intro u hu
       rcases List.mem_append.1 hu with hu | hu
       · exact ho.tz u hu
       · simp only [List.mem_singleton] at hu; subst hu; exact ⟨k1, k2, k3⟩
     · rw [hlines, List.length_append, ho.hn]; rfl
   · obtain ⟨k1, k2⟩ := (readA_some hw).1 hr
     have hlines : linesF { st with l := st.l ++ [a], n := st.n + 1, acts := true } = linesF st ++ [w] := by
      show (headLs st).take (st.n + 1) ++ (st.ts.map tabT ++ (st.l ++ [a]).map _) = (headLs st).take st.n ++ (st.ts.map tabT ++ st.l.map _) ++ [w]
      rw [ht _ h3, ht _ (by omega)]
      simp [k2]
     refine ⟨⟨Or.inr (ho.h0.resolve_left (by omega)), Or.inr (ho.h1.resolve_left (by omega)), Or.inr (ho.h2.resolve_left (by omega)), ?_, ho.tz, ?_, fun h => (by simp at h), fun _ e => h0 (by simp only at e; rw [e]; rfl), ?_⟩, hlines, rfl⟩
     · rcases ho.ts with h | h
       · exact absurd (by rw [h]; rfl) h0
       · exact Or.inr ⟨h.1, by simp only; omega⟩
     · intro u hu
       rcases List.mem_append.1 hu with hu | hu
       · exact ho.l u hu
       · simp only [List.mem_singleton] at hu; subst hu; exact ⟨k1, by rw [k2]; rfl⟩
     · rw [hlines, List.length_append, ho.hn]; rfl
theorem goP_ok : ∀ (ps : List (List UInt8)) (st st' : Ls), (∀ w ∈ ps, w.length ≤ 140737488355328) → st.ok → goP st ps = .ok st' → st'.ok ∧ ps = (linesF st').drop (linesF st).length ++ [[]] ∧ linesF st <+: linesF st' ∧ st'.ts.length ≠ 0
 | [], st, st', _, _, h => by simp [goP] at h
 | [w], st, st', _, ho, h => by
  simp only [goP] at h
  split at h
  · next hc =>
    injection h with h
    subst h
    exact ⟨ho, by simp [hc.1], List.prefix_refl _, hc.2⟩
  · cases h
 | w :: u :: ws, st, st', hl, ho, h => by
  simp only [goP] at h
  split at h
  · next st1 h1 =>
    obtain ⟨k1, k2, _⟩ := lineF_ok (hl w (by simp)) ho h1
    obtain ⟨k4, k5, k6, k7⟩ := goP_ok (u :: ws) st1 st' (fun x hx => hl x (by simp [hx])) k1 h
    refine ⟨k4, ?_, ?_, k7⟩
    · rw [k5]
      obtain ⟨r, hr⟩ := k6
      rw [← hr, k2]
      simp
    · obtain ⟨r, hr⟩ := k6
      rw [k2] at hr
      exact ⟨[w] ++ r, by rw [← hr]; simp⟩
  · cases h
theorem text_jn : ∀ ls : List (List UInt8), jnW 10 (ls ++ [[]]) = textF ls
 | [] => rfl
 | [w] => by simp [jnW, textF]
 | w :: u :: ws => by
  have ih := text_jn (u :: ws)
  rw [List.cons_append, List.cons_append] at *
  rw [jnW, ih]
  simp [textF]
theorem read_write {text : List UInt8} (hl : text.length ≤ 140737488355328) {st : Ls} (h : goP Ls0 (spW 10 text) = .ok st) : st.ok ∧ textF (linesF st) = text ∧ st.ts.length ≠ 0 := by
 obtain ⟨h1, h2, _, h4⟩ := goP_ok (spW 10 text) Ls0 st (fun w hw => Nat.le_trans (by have := jn_len 10 _ w hw; rwa [jn_sp] at this) hl) Ls0_ok h
 refine ⟨h1, ?_, h4⟩
 have e : (linesF Ls0).length = 0 := rfl
 rw [e, List.drop_zero] at h2
 rw [← text_jn, ← h2, jn_sp]
theorem noB_itoa (v : Int) : (10 : UInt8) ∉ Lib.itoa v := fun h => by have := itoa_mem v _ h; revert this; decide
theorem noB_jn : ∀ (ws : List (List UInt8)), (∀ w ∈ ws, (10 : UInt8) ∉ w) → (10 : UInt8) ∉ jnW 32 ws
 | [], _ => by simp [jnW]
 | [w], h => by rw [jnW]; exact h w (by simp)
 | w :: u :: ws, h => by
  have ih := noB_jn (u :: ws) (fun x hx => h x (by simp [hx]))
  have h0 := h w (by simp)
  rw [jnW]
  simp only [List.mem_append, List.mem_cons, not_or]
  exact ⟨h0, by decide, ih⟩
theorem noB_valW {v : V} (hv : v.wf ∧ mayB v = true) : (10 : UInt8) ∉ valW v := by
 obtain ⟨hw, h⟩ := hv
 have hx : ∀ l, (10 : UInt8) ∉ hexL l := fun l h => by have := hexL_mem l _ h; revert this; decide
 have hy : ∀ k n, (10 : UInt8) ∉ hexN k n := fun k n h => by have := hexN_mem k n _ h; revert this; decide
 unfold valW
 rcases mayA_kind hw h with e | e | e | e | e | e <;> rw [e]
 · rw [if_pos rfl]; decide
 · rw [if_neg (by decide), if_pos rfl]
   by_cases h1 : v.n = 1
   · rw [if_pos h1]; decide
   · rw [if_neg h1]; decide
 · exact noB_itoa v.n
 · simp [hy]
 · simp [hx]
 · simp [hx]
theorem noB_act {a : Ac} {ws : List (List UInt8)} (hw : a.wf) (h : actW a = some ws) : ∀ w ∈ ws, (10 : UInt8) ∉ w := by
 unfold actW at h
 split at h
 · split at h
   · next hb =>
     injection h with h
     subst h
     simp only [opB, Bool.and_eq_true, decide_eq_true_eq, List.all_eq_true] at hb
     intro w hw'
     rcases List.mem_cons.1 hw' with rfl | hw'
     · unfold opW
       repeat' split
       all_goals decide
     · rcases List.mem_cons.1 hw' with rfl | hw'
       · exact noB_itoa _
       · obtain ⟨v, hv, rfl⟩ := List.mem_map.1 hw'
         exact noB_valW ⟨hw.2.2.2.1 v hv, hb.2.2.2.2 v hv⟩
   · cases h
 · split at h
   · cases h
   · next w c f hf =>
     obtain ⟨x, hx, e⟩ := Option.map_eq_some_iff.1 hf
     have hm := List.mem_of_find?_eq_some hx
     have key : ∀ y ∈ formL, (10 : UInt8) ∉ y.2.1 := by decide
     have hwb : (10 : UInt8) ∉ w := by have := key _ hm; rw [e] at this; exact this
     split at h
     · next hb =>
       injection h with h
       subst h
       intro u hu
       rcases List.mem_cons.1 hu with rfl | hu
       · exact hwb
       · cases f with
         | false =>
          have : u ∈ [Lib.itoa a.n, Lib.itoa a.m, Lib.itoa a.q] := List.mem_of_mem_take hu
          simp only [List.mem_cons, List.not_mem_nil, or_false] at this
          rcases this with rfl | rfl | rfl <;> exact noB_itoa _
         | true =>
          simp only [nmB, Bool.and_eq_true, if_true] at hb
          simp only [tailW, if_true, List.mem_cons, List.not_mem_nil, or_false] at hu
          rcases hu with rfl | rfl | rfl | rfl
          · exact noB_itoa _
          · intro hm
            have := hb.2.2
            unfold fileB at this
            simp only [Bool.and_eq_true, List.all_eq_true] at this
            have := this.1 _ hm
            revert this
            decide
          · exact noB_itoa _
          · exact noB_itoa _
     · cases h
theorem name_mem {s : ByteArray} (h : nameB s = true) : s.data.toList ≠ [] ∧ ∀ b ∈ s.data.toList, (97 ≤ b.toNat ∧ b.toNat ≤ 122) ∨ (48 ≤ b.toNat ∧ b.toNat ≤ 57) := by
 unfold nameB chars at h
 simp only [Bool.and_eq_true, List.all_eq_true, decide_eq_true_eq] at h
 refine ⟨fun e => ?_, fun b hb => ?_⟩
 · have : s.data.toList.length = s.size := by simp
   rw [e] at this
   simp at this
   omega
 · have := h.1 b hb
   unfold chB at this
   simp only [decide_eq_true_eq] at this
   omega
theorem name_free {s : ByteArray} (h : nameB s = true) {c : UInt8} (hc : ¬ ((97 ≤ c.toNat ∧ c.toNat ≤ 122) ∨ (48 ≤ c.toNat ∧ c.toNat ≤ 57))) : c ∉ s.data.toList := fun hm => hc ((name_mem h).2 c hm)
theorem sch_tabs {ts : List Ta} (h : schB ts = true) : ∀ t ∈ ts, nameB t.nm = true ∧ colsB t = true := by
 intro t ht
 unfold schB at h
 simp only [Bool.and_eq_true] at h
 obtain ⟨i, hi, e⟩ := List.getElem_of_mem ht
 have hx := pre_at h.2.1 hi (by rw [List.getElem?_eq_getElem hi, e])
 unfold tabB at hx
 simp only [Bool.and_eq_true] at hx
 have hn := h.2.2
 unfold namedB at hn
 simp only [Bool.and_eq_true, List.all_eq_true] at hn
 exact ⟨hn.1 _ (List.mem_map.2 ⟨t, ht, rfl⟩), hx.1⟩
theorem cols_names {t : Ta} (h : colsB t = true) : ∀ c ∈ t.cs, nameB c.nm = true ∧ (1 ≤ c.k ∧ c.k ≤ 5) := by
 intro c hc
 unfold colsB at h
 simp only [Bool.and_eq_true, List.all_eq_true, decide_eq_true_eq] at h
 have h1 := h.2.1 c hc
 have h2 := h.2.2.1
 unfold namedB at h2
 simp only [Bool.and_eq_true, List.all_eq_true] at h2
 refine ⟨h2.1 _ (List.mem_map.2 ⟨c, hc, rfl⟩), ?_⟩
 unfold colK at h1
 simpa using h1
theorem tabW_clean {t : Ta} (hn : nameB t.nm = true) (hc : colsB t = true) : (∀ w ∈ tabW t, wordB w) ∧ ∀ w ∈ tabW t, (10 : UInt8) ∉ w := by
 have hcol : ∀ c ∈ t.cs, wordB (colW c) ∧ (10 : UInt8) ∉ colW c := by
  intro c hm
  obtain ⟨h1, h2⟩ := cols_names hc c hm
  obtain ⟨_, k2, k3, _⟩ := kindW_len _ (kindW_mem h2 c.nl)
  refine ⟨⟨by simp [colW], ?_⟩, ?_⟩
  · simp only [colW, List.mem_append, List.mem_cons, not_or]
    exact ⟨name_free h1 (by decide), by decide, k2⟩
  · simp only [colW, List.mem_append, List.mem_cons, not_or]
    exact ⟨name_free h1 (by decide), by decide, k3⟩
 constructor
 · intro w hw
   simp only [tabW, List.mem_cons, List.mem_map] at hw
   rcases hw with rfl | rfl | rfl | rfl | rfl | ⟨c, h, rfl⟩
   · exact ⟨by decide, by decide⟩
   · exact ⟨(name_mem hn).1, name_free hn (by decide)⟩
   · exact wordB_itoa _
   · exact wordB_itoa _
   · exact wordB_itoa _
   · exact (hcol c h).1
 · intro w hw
   simp only [tabW, List.mem_cons, List.mem_map] at hw
   rcases hw with rfl | rfl | rfl | rfl | rfl | ⟨c, h, rfl⟩
   · decide
   · exact name_free hn (by decide)
   · exact noB_itoa _
   · exact noB_itoa _
   · exact noB_itoa _
   · exact (hcol c h).2
theorem schB_take {ts : List Ta} (h : schB ts = true) {k : Nat} (h1 : 1 ≤ k) (h2 : k ≤ ts.length) : schB (ts.take k) = true := by
 unfold schB at h ⊢
 simp only [Bool.and_eq_true, decide_eq_true_eq] at h ⊢
 have hl : (ts.take k).length = k := by simp; omega
 rw [hl]
 refine ⟨by omega, ?_, ?_⟩
 · have := pre_mono h.2.1 h2
   unfold preB at this ⊢
   rw [List.all_eq_true] at this ⊢
   intro i hi
   have hik := List.mem_range.1 hi
   have hx := this i hi
   rw [List.getElem?_take_of_lt hik, List.take_take, Nat.min_eq_left (by omega)]
   exact hx
 · have hn := h.2.2
   unfold namedB at hn ⊢
   simp only [Bool.and_eq_true, List.all_eq_true, decide_eq_true_eq] at hn ⊢
   rw [List.map_take]
   exact ⟨fun s hs => hn.1 s (List.mem_of_mem_take hs), hn.2.sublist (List.take_sublist _ _)⟩
structure Cf where
 seg : Int
 bd : Int
 r0 : Int
 r1 : Int
 r2 : Int
 ts : List Ta
def confB (c : Cf) : Bool := (rmB c.r0 && (rmB c.r1 && rmB c.r2)) && (schB c.ts && (segB c.seg && bdB c.bd))
def Cf.st (c : Cf) (l : List Ac) : Ls := ⟨c.seg, c.bd, c.r0, c.r1, c.r2, c.ts.map Ta.z, l, 3 + c.ts.length + l.length, true⟩
theorem goP_cons {st st1 : Ls} {w : List UInt8} (h : lineF st w = some st1) (ps : List (List UInt8)) (hp : ps ≠ []) : goP st (w :: ps) = goP st1 ps := by
 cases ps with
 | nil => exact absurd rfl hp
 | cons u ws => simp only [goP, h]
def mid (c : Cf) (ts : List Ta) (l : List Ac) : Ls := ⟨c.seg, c.bd, c.r0, c.r1, c.r2, ts, l, 3 + ts.length + l.length, decide (l ≠ [])⟩
theorem word_tag {w : List UInt8} (h : w = tSeg ∨ w = tBound ∨ w = tRooms) : wordB w := by rcases h with rfl | rfl | rfl <;> exact ⟨by decide, by decide⟩
theorem head_run {c : Cf} (h : confB c = true) (ps : List (List UInt8)) (hp : ps ≠ []) : goP Ls0 (headLs (mid c [] []) ++ ps) = goP (mid c [] []) ps := by
 unfold confB at h
 simp only [Bool.and_eq_true] at h
 obtain ⟨⟨h1, h2, h3⟩, _, h4, h5⟩ := h
 have b : ∀ {a b v : Int}, decide (a ≤ v ∧ v ≤ b) = true → -9223372036854775808 ≤ a → b ≤ 9223372036854775807 → longZ (Lib.itoa v) = some v := fun h h1 h2 => longZ_itoa (int_i64 (of_decide_eq_true h) h1 h2)
 have e1 := b h4 (by decide) (by decide)
 have e2 := b h5 (by decide) (by decide)
 have e3 := b h1 (by decide) (by decide)
 have e4 := b h2 (by decide) (by decide)
 have e5 := b h3 (by decide) (by decide)
 have w1 : wordsF (jnW 32 [tSeg, Lib.itoa c.seg]) = some [tSeg, Lib.itoa c.seg] := wordsF_jn (by simp) (fun w hw => by
  simp only [List.mem_cons, List.not_mem_nil, or_false] at hw
  rcases hw with rfl | rfl
  · exact word_tag (Or.inl rfl)
  · exact wordB_itoa _)
 have w2 : wordsF (jnW 32 [tBound, Lib.itoa c.bd]) = some [tBound, Lib.itoa c.bd] := wordsF_jn (by simp) (fun w hw => by
  simp only [List.mem_cons, List.not_mem_nil, or_false] at hw
  rcases hw with rfl | rfl
  · exact word_tag (Or.inr (Or.inl rfl))
  · exact wordB_itoa _)
 have w3 : wordsF (jnW 32 [tRooms, Lib.itoa c.r0, Lib.itoa c.r1, Lib.itoa c.r2]) = some [tRooms, Lib.itoa c.r0, Lib.itoa c.r1, Lib.itoa c.r2] := wordsF_jn (by simp) (fun w hw => by
  simp only [List.mem_cons, List.not_mem_nil, or_false] at hw
  rcases hw with rfl | rfl | rfl | rfl
  · exact word_tag (Or.inr (Or.inr rfl))
  · exact wordB_itoa _
  · exact wordB_itoa _
  · exact wordB_itoa _)
 show goP Ls0 (jnW 32 [tSeg, Lib.itoa c.seg] :: jnW 32 [tBound, Lib.itoa c.bd] :: jnW 32 [tRooms, Lib.itoa c.r0, Lib.itoa c.r1, Lib.itoa c.r2] :: ps) = _
 rw [goP_cons (st1 := ⟨c.seg, 0, 0, 0, 0, [], [], 1, false⟩) (by simp [lineF, headF, Ls0, w1, e1, h4]) _ (by simp),
  goP_cons (st1 := ⟨c.seg, c.bd, 0, 0, 0, [], [], 2, false⟩) (by simp [lineF, headF, w2, e2, h5]) _ (by simp),
  goP_cons (st1 := mid c [] []) (by simp [lineF, headF, w3, e3, e4, e5, h1, h2, h3, mid]) _ hp]
theorem schB_z (ts : List Ta) : schB (ts.map Ta.z) = schB ts := by
 have hd : ∀ t : Ta, (t.z).d = t.d := fun _ => rfl
 have key : ∀ (l : List Ta) (ds : List Int), (l.map Ta.z).foldl (fun ds t => ds ++ [depI ds t]) ds = l.foldl (fun ds t => ds ++ [depI ds t]) ds := by
  intro l
  induction l with
  | nil => intro ds; rfl
  | cons t l ih => intro ds; exact ih _
 have kd : ∀ l : List Ta, deps (l.map Ta.z) = deps l := fun l => key l []
 have kt : ∀ (a : List Ta) (ds : List Int) (t : Ta), tabB (a.map Ta.z) ds t.z = tabB a ds t := by
  intro a ds t
  have kin : kinB (a.map Ta.z) t.z = kinB a t := by
   unfold kinB
   show (match (a.map Ta.z)[t.par.toNat]? with | some p => decide (kAt p.cs p.key = kAt t.cs t.ref) | none => false) = _
   rw [List.getElem?_map]
   cases a[t.par.toNat]? <;> rfl
  unfold tabB belB
  rw [kin, List.length_map]
  rfl
 unfold schB
 rw [List.length_map]
 have kp : preB (ts.map Ta.z) ts.length = preB ts ts.length := by
  unfold preB
  congr 1
  funext i
  rw [List.getElem?_map]
  cases h : ts[i]? with
  | none => rfl
  | some t =>
   show tabB ((ts.map Ta.z).take i) (deps ((ts.map Ta.z).take i)) t.z = _
   rw [← List.map_take, kd, kt]
 rw [kp, List.map_map]
 rfl
theorem tabs_run {c : Cf} (h : schB c.ts = true) (hw : ∀ t ∈ c.ts, t.wf ∧ ∀ x ∈ t.cs, x.wf) (hl : ∀ t ∈ c.ts, (tabT t).length ≤ 140737488355328) (ps : List (List UInt8)) (hp : ps ≠ []) : ∀ (more done : List Ta), done ++ more = c.ts → goP (mid c (done.map Ta.z) []) (more.map tabT ++ ps) = goP (mid c (c.ts.map Ta.z) []) ps
 | [], done, e => by rw [List.append_nil] at e; rw [e]; rfl
 | t :: more, done, e => by
  have hm : t ∈ c.ts := by rw [← e]; simp
  obtain ⟨hn, hc⟩ := sch_tabs h t hm
  have hr : readT (tabT t) = some t.z := (readT_some (hl t hm)).2 ⟨rfl, ⟨(hw t hm).1, fun x hx => ⟨(hw t hm).2 x hx, (cols_names hc x hx).2, name_free (cols_names hc x hx).1 (by decide)⟩⟩, (tabW_clean hn hc).1, rfl⟩
  have hs : schB (done.map Ta.z ++ [t.z]) = true := by
   have := schB_take h (k := done.length + 1) (by omega) (by rw [← e]; simp)
   rw [← e, List.take_append, List.take_of_length_le (by omega)] at this
   simp only [Nat.add_sub_cancel_left, List.take_succ_cons, List.take_zero] at this
   rw [← schB_z] at this
   simpa using this
  rw [List.map_cons, List.cons_append, goP_cons (st1 := mid c ((done ++ [t]).map Ta.z) []) ?_ _ (by cases more <;> simp [hp])]
  · exact tabs_run h hw hl ps hp more (done ++ [t]) (by rw [← e]; simp)
  · have h3 : ¬ 3 + done.length < 3 := by omega
    simp [lineF, mid, h3, bodyF, hr, hs]
    omega
theorem acts_run {c : Cf} (h1 : c.ts.length ≠ 0) {l : List Ac} (hw : ∀ a ∈ l, a.wf) (hl : ∀ a ∈ l, ∃ s, actT a = some s ∧ s.length ≤ 140737488355328 ∧ readT s = none) : ∀ (more done : List Ac), done ++ more = l → goP (mid c (c.ts.map Ta.z) done) (more.map (fun a => (actT a).getD []) ++ [[]]) = .ok (mid c (c.ts.map Ta.z) l)
 | [], done, e => by
  rw [List.append_nil] at e
  subst e
  simp [goP, mid, h1]
 | a :: more, done, e => by
  have hm : a ∈ l := by rw [← e]; simp
  obtain ⟨s, e1, e2, e3⟩ := hl a hm
  have hr := (readA_some e2).2 ⟨hw a hm, e1⟩
  rw [List.map_cons, List.cons_append, goP_cons (st1 := mid c (c.ts.map Ta.z) (done ++ [a])) ?_ _ (by cases more <;> simp)]
  · exact acts_run h1 hw hl more (done ++ [a]) (by rw [← e]; simp)
  · have h3 : ¬ 3 + c.ts.length + done.length < 3 := by
     have : 0 < c.ts.length := Nat.pos_of_ne_zero h1
     omega
    simp [lineF, mid, h3, e1, bodyF, hr, e3, h1]
    omega
theorem readT_tag {l : List UInt8} {t : Ta} (h : readT l = some t) : ∃ ws, wordsF l = some (tTable :: ws) := by
 unfold readT at h
 split at h
 · next ws hws =>
   unfold tabR at h
   split at h
   · next a nm x y z cs =>
     split at h
     · next ha => subst ha; exact ⟨_, hws⟩
     · cases h
   · cases h
 · cases h
theorem tag_not {ws : List (List UInt8)} {l : List UInt8} (h : wordsF l = some (tTable :: ws)) : readA l = none := by
 unfold readA
 rw [h]
 simp only [wordsR]
 have h1 : opAt tTable = none := by decide
 have h2 : formAt tTable = none := by decide
 rw [h1]
 simp only [h2]
theorem act_not {a : Ac} {s : List UInt8} (hs : s.length ≤ 140737488355328) (hw : a.wf) (h : actT a = some s) : readT s = none := by
 cases e : readT s with
 | none => rfl
 | some t =>
  obtain ⟨ws, h1⟩ := readT_tag e
  have := tag_not h1
  rw [(readA_some hs).2 ⟨hw, h⟩] at this
  cases this
theorem write_lines {c : Cf} {l : List Ac} (h : schB c.ts = true) (hw : ∀ a ∈ l, a.wf) : ∀ w ∈ linesF (c.st l), (10 : UInt8) ∉ w := by
 intro w hm
 rcases List.mem_append.1 hm with hm | hm
 · have := List.mem_of_mem_take hm
   simp only [headLs, List.mem_cons, List.not_mem_nil, or_false] at this
   have tg : (10 : UInt8) ∉ tSeg ∧ (10 : UInt8) ∉ tBound ∧ (10 : UInt8) ∉ tRooms := by decide
   rcases this with rfl | rfl | rfl
   · refine noB_jn _ (fun x hx => ?_)
     simp only [List.mem_cons, List.not_mem_nil, or_false] at hx
     rcases hx with rfl | rfl
     · exact tg.1
     · exact noB_itoa _
   · refine noB_jn _ (fun x hx => ?_)
     simp only [List.mem_cons, List.not_mem_nil, or_false] at hx
     rcases hx with rfl | rfl
     · exact tg.2.1
     · exact noB_itoa _
   · refine noB_jn _ (fun x hx => ?_)
     simp only [List.mem_cons, List.not_mem_nil, or_false] at hx
     rcases hx with rfl | rfl | rfl | rfl
     · exact tg.2.2
     · exact noB_itoa _
     · exact noB_itoa _
     · exact noB_itoa _
 · rcases List.mem_append.1 hm with hm | hm
   · obtain ⟨t, ht, rfl⟩ := List.mem_map.1 hm
     obtain ⟨u, hu, rfl⟩ := List.mem_map.1 ht
     obtain ⟨h1, h2⟩ := sch_tabs h u hu
     exact noB_jn _ (tabW_clean h1 h2).2
   · obtain ⟨a, ha, rfl⟩ := List.mem_map.1 hm
     unfold actT
     cases e : actW a with
     | none => simp
     | some ws => exact noB_jn _ (noB_act (hw a ha) e)
theorem write_read {c : Cf} {l : List Ac} (h : confB c = true) (hw : ∀ t ∈ c.ts, t.wf ∧ ∀ x ∈ t.cs, x.wf) (ha : ∀ a ∈ l, a.wf ∧ (actT a).isSome = true) (hz : (textF (linesF (c.st l))).length ≤ 140737488355328) :
 goP Ls0 (spW 10 (textF (linesF (c.st l)))) = .ok (mid c (c.ts.map Ta.z) l) := by
 have hs : schB c.ts = true := by
  unfold confB at h
  simp only [Bool.and_eq_true] at h
  exact h.2.1
 have hlen : ∀ w ∈ linesF (c.st l), w.length ≤ 140737488355328 := by
  intro w hm
  have : w.length ≤ (textF (linesF (c.st l))).length := by
   rw [← text_jn]
   exact jn_len 10 _ w (by simp [hm])
  omega
 have h1 : c.ts.length ≠ 0 := by
  unfold schB at hs
  simp only [Bool.and_eq_true, decide_eq_true_eq] at hs
  omega
 rw [← text_jn, sp_jn 10 _ (by simp) (fun w hm => by
  rcases List.mem_append.1 hm with hm | hm
  · exact write_lines hs (fun a h => (ha a h).1) w hm
  · simp only [List.mem_singleton] at hm; subst hm; simp)]
 have e : linesF (c.st l) = headLs (mid c [] []) ++ (c.ts.map tabT ++ l.map fun a => (actT a).getD []) := by
  show (headLs (c.st l)).take (3 + c.ts.length + l.length) ++ ((c.ts.map Ta.z).map tabT ++ _) = _
  rw [List.take_of_length_le (by simp [headLs]; omega), List.map_map]
  rfl
 rw [e] at hlen ⊢
 rw [List.append_assoc, head_run h _ (by simp), List.append_assoc]
 rw [show mid c [] [] = mid c (([] : List Ta).map Ta.z) [] from rfl, tabs_run hs hw (fun t ht => hlen _ (by simp only [List.mem_append, List.mem_map]; exact Or.inr (Or.inl ⟨t, ht, rfl⟩))) _ (by simp) c.ts [] rfl]
 refine acts_run h1 (fun a h => (ha a h).1) (fun a hm => ?_) l [] rfl
 obtain ⟨s, hsm⟩ := Option.isSome_iff_exists.1 (ha a hm).2
 have hl := hlen _ (show (actT a).getD [] ∈ _ by simp only [List.mem_append, List.mem_map]; exact Or.inr (Or.inr ⟨a, hm, rfl⟩))
 rw [hsm] at hl
 exact ⟨s, hsm, hl, act_not hl (ha a hm).1 hsm⟩
end Go.Proofs.YtfekohonidggjaaGreatDoor
