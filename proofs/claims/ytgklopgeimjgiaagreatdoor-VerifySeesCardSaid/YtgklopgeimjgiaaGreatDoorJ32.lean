/- Several texts in one: see each part's head. -/
import Derived.Lib.SliceRun
import Derived.Test.YtgklopgeimjgiaaGreatDoorJ31
/- VerifySees: slices.CompactFunc at roots: plain (adjL), clear at structs. -/
namespace Go.Proofs.YtgklopgeimjgiaaGreatDoor
open Go.RowKit

section
variable {α : Type} (eq : α → α → Bool)
/-- Those that differ from the one right ahead. -/
def adjF (p : α) : List α → List α
  | [] => []
  | b :: r => if eq b p then adjF b r else b :: adjF b r
def adjL : List α → List α
  | [] => []
  | a :: r => a :: adjF eq a r
theorem adjF_app (b : α) : ∀ (p : α) (l : List α), adjF eq p (l ++ [b]) = adjF eq p l ++ (if eq b (l.getLast?.getD p) then [] else [b])
  | p, [] => by cases h : eq b p <;> simp [adjF, h]
  | p, a :: r => by
    have e : (a :: r).getLast?.getD p = r.getLast?.getD a := by
      cases r with
      | nil => rfl
      | cons x y => rw [List.getLast?_cons_cons]; cases h : (x :: y).getLast? with
        | none => simp at h
        | some v => rfl
    rw [e, List.cons_append, adjF, adjF_app b a r, adjF]
    by_cases h : eq a p = true
    · rw [if_pos h, if_pos h]
    · rw [if_neg h, if_neg h, List.cons_append]
theorem adjL_take {l : List α} {m : Nat} {a b : α} (ha : l[m]? = some a) (hb : l[m + 1]? = some b) : adjL eq (l.take (m + 2)) = adjL eq (l.take (m + 1)) ++ (if eq b a then [] else [b]) := by
  have e1 : l.take (m + 2) = l.take (m + 1) ++ [b] := by rw [List.take_add_one, hb]; rfl
  rw [e1]
  cases l with
  | nil => simp at ha
  | cons x r =>
    rw [List.take_succ_cons, List.cons_append, adjL, adjL, adjF_app, List.cons_append]
    have e2 : (r.take m).getLast?.getD x = a := by
      cases m with
      | zero => simpa using ha
      | succ m =>
        rw [List.getElem?_cons_succ] at ha
        rw [List.take_add_one, ha]
        simp
    rw [e2]
theorem adjL_one {l : List α} (h : l ≠ []) : adjL eq (l.take 1) = l.take 1 := by
  cases l with
  | nil => exact absurd rfl h
  | cons x r => simp [adjL, adjF]
/-- As far as none is like the one ahead, all stay. -/
theorem adjL_all {l : List α} : ∀ {k : Nat}, (∀ j a b, j + 1 < k → l[j]? = some a → l[j + 1]? = some b → eq b a = false) → k ≤ l.length → adjL eq (l.take k) = l.take k
  | 0, _, _ => by simp [adjL]
  | 1, _, h => adjL_one eq (by rintro rfl; simp at h)
  | k + 2, hj, h => by
    have ha := List.getElem?_eq_getElem (l := l) (i := k) (by omega)
    have hb := List.getElem?_eq_getElem (l := l) (i := k + 1) (by omega)
    have e : l.take (k + 2) = l.take (k + 1) ++ [l[k + 1]] := by rw [List.take_add_one, hb]; rfl
    rw [adjL_take eq ha hb, adjL_all (fun j a b h1 h2 h3 => hj j a b (by omega) h2 h3) (by omega), hj k _ _ (by omega) ha hb, e]
    rfl
end
variable {w : World} {g c n kk base : Nat} {rs : List (Int × V)}
theorem rcells_len (l : List (Int × V)) : (rcells l).length = l.length * 5 := flat_length rtC 5 (fun _ => rfl) l
theorem flat_take : ∀ (l : List (Int × V)) (k : Nat), (rcells l).take (k * 5) = rcells (l.take k)
  | [], k => by simp [rcells]
  | a :: l, 0 => by simp [rcells]
  | a :: l, k + 1 => by
    have e : rcells (a :: l) = rtC a ++ rcells l := rfl
    rw [e, List.take_succ_cons, show rcells (a :: l.take k) = rtC a ++ rcells (l.take k) from rfl, ← flat_take l k, Nat.succ_mul, Nat.add_comm, List.take_append, List.take_of_length_le (by simp [rtC])]
    simp [rtC]
/-- clear of a row's tail: the head stands. -/
theorem clear_own (h : w.ownsRow base 78 5 (.slice (some ⟨g, 0, none⟩) n c) n (rcells rs)) (hn : rs.length = n) (hk : kk < n) (cc : Nat) :
    ∃ w', (∀ ty, (Builtin.clear_ #[76] ty #[.slice (some ⟨g, kk * 5, none⟩) (n - kk) cc]).run Tryz.prog w = .ok (.tuple #[]) w') ∧ Chg [g] w w' ∧ w'.ownsRow base 78 5 (.slice (some ⟨g, 0, none⟩) kk c) kk (rcells (rs.take kk)) := by
  obtain ⟨hl, ⟨h1, _⟩ | ⟨q, cap, cur, h1, hb, hh, hc, hm, hs, ht⟩⟩ := h
  · cases h1
  simp only [Value.slice.injEq, Option.some.injEq, Addr.mk.injEq, and_true, true_and] at h1
  obtain ⟨rfl, rfl⟩ := h1
  have hz : ∀ u ∈ (Builtin.zeroCells #[.int .i64 0, .int .u8 0, .int .i64 0, .int .u64 0, .string ⟨#[]⟩] (n - kk)).toList, Value.oneCell' u = true := by
    intro u hu
    unfold Builtin.zeroCells at hu
    simp at hu
    obtain ⟨i, hi, rfl⟩ := hu
    have : i % 5 = 0 ∨ i % 5 = 1 ∨ i % 5 = 2 ∨ i % 5 = 3 ∨ i % 5 = 4 := by omega
    rcases this with e | e | e | e | e <;> simp [e, Value.oneCell']
  have hzl : (Builtin.zeroCells #[.int .i64 0, .int .u8 0, .int .i64 0, .int .u64 0, .string ⟨#[]⟩] (n - kk)).toList.length = (n - kk) * 5 := by
    unfold Builtin.zeroCells
    simp
  have hst := run_storeCells_at Tryz.prog g (kk * 5) 78 (Builtin.zeroCells #[.int .i64 0, .int .u8 0, .int .i64 0, .int .u64 0, .string ⟨#[]⟩] (n - kk)).toList 0 cur w hh (by rw [hzl, hs]; omega) hz
  obtain ⟨m, hm2⟩ : ∃ m, n - kk = m + 1 := ⟨n - kk - 1, by omega⟩
  obtain ⟨Z, hZ⟩ : ∃ Z, Z = (Builtin.zeroCells #[.int .i64 0, .int .u8 0, .int .i64 0, .int .u64 0, .string ⟨#[]⟩] (n - kk)).toList := ⟨_, rfl⟩
  rw [← hZ] at hst hz hzl
  refine ⟨w.setRow g (cur.toList.take (kk * 5) ++ Z ++ cur.toList.drop (kk * 5 + Z.length)).toArray, fun ty => ?_, ⟨rfl, rfl, rfl, by unfold World.setRow; simp, fun i _ hi => setRow_other w g i _ (fun e => hi (by simp [e]))⟩, ?_⟩
  · rw [hm2] at hZ ⊢
    rw [Nat.add_zero] at hst
    simp [Builtin.clear_, run_underlying Tryz.underlying76]
    have hc5 : (Value.agg #[Value.int IntKind.i64 0, Value.int IntKind.u8 0, Value.int IntKind.i64 0, Value.int IntKind.u64 0, Value.string ⟨#[]⟩]).cells = #[.int .i64 0, .int .u8 0, .int .i64 0, .int .u64 0, .string ⟨#[]⟩] := rfl
    rw [hc5, ← hZ, hst, List.append_assoc]
    rfl
  · have hk5 : kk * 5 + (n - kk) * 5 = n * 5 := by omega
    refine ⟨by rw [rcells_len, List.length_take]; omega, Or.inr ⟨g, c, _, rfl, hb, setRow_heap w g cur _ _ _ hh, by omega, hm, ?_, ?_⟩⟩
    · simp only [List.size_toArray, List.length_append, List.length_take, List.length_drop, Array.length_toList, hzl]
      omega
    · rw [List.append_assoc, List.take_append_of_le_length (by simp; omega), List.take_take, Nat.min_self]
      have e := congrArg (List.take (kk * 5)) ht
      rw [List.take_take, Nat.min_eq_left (by omega)] at e
      rw [e]
      exact flat_take rs kk
theorem rc_set : ∀ (l : List (Int × V)) (i : Nat) (p : Int × V), rcells (l.set i p) = (((((rcells l).set (i * 5) (.int .i64 p.1)).set (i * 5 + 1) (.int .u8 p.2.k)).set (i * 5 + 2) (.int .i64 p.2.n)).set (i * 5 + 3) (.int .u64 p.2.r)).set (i * 5 + 4) (.string p.2.t)
  | [], i, p => by simp [rcells]
  | b :: l, 0, p => by simp [rcells, rtC]
  | b :: l, i + 1, p => by
    have e : ∀ (b : Int × V) (l : List (Int × V)), rcells (b :: l) = .int .i64 b.1 :: .int .u8 b.2.k :: .int .i64 b.2.n :: .int .u64 b.2.r :: .string b.2.t :: rcells l := fun _ _ => rfl
    rw [List.set_cons_succ, e, rc_set l i p, e]
    have h0 : (i + 1) * 5 = i * 5 + 1 + 1 + 1 + 1 + 1 := by omega
    have h1 : (i + 1) * 5 + 1 = (i * 5 + 1) + 1 + 1 + 1 + 1 + 1 := by omega
    have h2 : (i + 1) * 5 + 2 = (i * 5 + 2) + 1 + 1 + 1 + 1 + 1 := by omega
    have h3 : (i + 1) * 5 + 3 = (i * 5 + 3) + 1 + 1 + 1 + 1 + 1 := by omega
    have h4 : (i + 1) * 5 + 4 = (i * 5 + 4) + 1 + 1 + 1 + 1 + 1 := by omega
    rw [h1, h2, h3, h4, h0]
    simp only [List.set_cons_succ]
/-- A root's cells laid anew. -/
def set5 (cs : Array Value) (o : Nat) (p : Int × V) : Array Value := ((((cs.setIfInBounds o (.int .i64 p.1)).setIfInBounds (o + 1) (.int .u8 p.2.k)).setIfInBounds (o + 2) (.int .i64 p.2.n)).setIfInBounds (o + 3) (.int .u64 p.2.r)).setIfInBounds (o + 4) (.string p.2.t)
theorem rown_set {L : List (Int × V)} {k : Nat} (h : w.ownsRow base 78 5 (.slice (some ⟨g, 0, none⟩) n c) n (rcells L)) (hk : k < n) : ∃ cur, Blk w g cur 78 ∧ k * 5 + 4 < cur.size ∧
    ∀ p, (putBlk w g (set5 cur (k * 5) p) 78).ownsRow base 78 5 (.slice (some ⟨g, 0, none⟩) n c) n (rcells (L.set k p)) := by
  obtain ⟨hl, ⟨h1, _⟩ | ⟨q, cap, cur, h1, hb, hh, hc, hm, hs, ht⟩⟩ := h
  · cases h1
  · simp only [Value.slice.injEq, Option.some.injEq, Addr.mk.injEq, and_true, true_and] at h1
    obtain ⟨rfl, rfl⟩ := h1
    have hlt : g < w.heap.size := (Array.getElem?_eq_some_iff.1 hh).1
    refine ⟨cur, hh, by omega, fun p => ⟨by rw [rc_set]; simp [hl], Or.inr ⟨g, c, _, rfl, hb, putBlk_blk _ _ hlt, hc, hm, by simp [set5, hs], ?_⟩⟩⟩
    rw [rc_set]
    unfold set5
    simp only [Array.toList_setIfInBounds, List.take_set, ht]
end Go.Proofs.YtgklopgeimjgiaaGreatDoor
