/- Several texts in one: see each part's head. -/
import Derived.Maps.OwnSet
import Derived.Test.YtkfhfegogmlchaaDoorJ19
import Derived.BigQuiet
/- The buffer, in general: its maps; Ready, Len, Next. -/
namespace Go.Proofs.YtkfhfegogmlchaaDoor
open Go.RowKit

theorem mapD_snoc (ev : List (Int × Value)) (x : Int × Value) : mapD (ev ++ [x]) = (mapD ev).put (.int .i64 x.1) (.held x.2) := by simp [mapD]
theorem snoc_ind {α : Type} {p : List α → Prop} (h0 : p []) (h1 : ∀ l x, p l → p (l ++ [x])) : ∀ l, p l := by
  intro l
  have key : ∀ r : List α, p r.reverse := by
    intro r
    induction r with
    | nil => exact h0
    | cons x r ih => rw [List.reverse_cons]; exact h1 _ _ ih
  have := key l.reverse
  rwa [List.reverse_reverse] at this
theorem isKey (k : Int) : WideAt.IsKeyLit (.int .i64 k) := trivial
theorem mapD_tidy : ∀ ev, Maps.Tidy (mapD ev) := snoc_ind ⟨[], rfl, List.Pairwise.nil⟩ (fun l x h => by rw [mapD_snoc]; exact h.put (isKey _) _)
theorem mapD_has (k : Int) : ∀ ev : List (Int × Value), Maps.has (mapD ev) (.int .i64 k) = decide (k ∈ ev.map (·.1)) := snoc_ind rfl (fun l x h => by
  rw [mapD_snoc]
  by_cases e : x.1 = k
  · subst e
    rw [Maps.has_put_same (mapD_tidy l).isMap (isKey _)]
    simp
  · rw [Maps.has_put_other (by simpa using fun h' : k = x.1 => e h'.symm), h]
    simp [Ne.symm e])
theorem mapD_size : ∀ ev : List (Int × Value), (ev.map (·.1)).Nodup → Maps.size (mapD ev) = ev.length := snoc_ind (fun _ => rfl) (fun l x h hn => by
  rw [List.map_append, List.nodup_append] at hn
  have hx : x.1 ∉ l.map (·.1) := fun hm => hn.2.2 _ hm x.1 (by simp) rfl
  rw [mapD_snoc, Maps.size_put (mapD_tidy l), mapD_has, decide_eq_false hx, h hn.1]
  simp)
theorem mapD_at (k : Int) (v : Value) (z : DataW Value) : ∀ ev : List (Int × Value), (ev.map (·.1)).Nodup → (k, v) ∈ ev → (mapD ev).atKey (.int .i64 k) z = .held v := snoc_ind (fun _ h => by cases h) (fun l x h hn hm => by
  rw [List.map_append, List.nodup_append] at hn
  rw [mapD_snoc]
  rcases List.mem_append.1 hm with hm | hm
  · have hne : k ≠ x.1 := fun e => hn.2.2 k (List.mem_map.2 ⟨(k, v), hm, rfl⟩) x.1 (by simp) e
    rw [Maps.atKey_put_other (by simpa using hne)]
    exact h hn.1 hm
  · obtain rfl : (k, v) = x := by simpa using hm
    exact Maps.atKey_put_same (mapD_tidy l).isMap (isKey _) _ _)
theorem MapL.len {w : World} {M : Nat} {ev : List (Int × Value)} (h : MapL w M ev) (ty : TypeId) : (Builtin.len_ #[92] ty #[.map (some M)]).run Tryd.prog w = .ok (.int .i64 ev.length) w := by
  have := World.ownsMap.len h.1 Tryd.underlying92 ty
  rw [mapD_size _ h.2] at this
  exact this
theorem keyI (k : Int) (h : -9223372036854775808 ≤ k ∧ k ≤ 9223372036854775807) : keyOf Tryd.prog 3 (.int .i64 k) = some (.int .i64 k) :=
  Go.Maps.keyOf_int_mk Tryd.underlying3 (by simp only [Lit.wf, IntKind.min, IntKind.max, IntKind.signed, IntKind.bits, Bool.and_eq_true, decide_eq_true_eq, if_true]; omega)
def readyL : List Tb → Bool
  | [] => false
  | t :: _ => match t.fin with
    | none => false
    | some f => decide ((t.es.length : Int) = f.cnt.sum)
set_option maxRecDepth 100000 in
set_option maxHeartbeats 1600000 in
theorem ready_any (B nt : Nat) (bd nx fa : Int) (has : Bool) (l : List Tb) (w : World) (h : BuR B nt bd nx has fa l w) :
    Calls Tryd.prog 11 #[.pointer (some ⟨B, 0, none⟩)] w fun r w' => r = .returned (.bool (readyL l)) ∧ Below w.heap.size w w' := by
  obtain ⟨v, hb, A, c, rfl, hp, _⟩ := h.b
  cases l with
  | nil =>
    have HB := Lib.hid (show Blk w B #[.int .i64 nt, .int .i64 bd, .int .u64 nx, .bool has, .slice A 0 c, .int .i64 fa] 85 from hb)
    clear h hb hp
    go_enter Tryd.func11, Tryd.ntmps11
    go_upto_region 1 with fail
    refine region_grow [false, false, true, true, true, true, true, true, true, true, true, true, true, true, true, true, true, true, true, true, true, true, true, true, true, true, true, true, true, true, true, true, true, true, true, true, true, true, true, true, true, true, true, true, true] [3, 4, 5, 6, 7, 8, 9, 10, 11, 12, 13, 14, 15, 16, 17, 18, 19, 20, 21, 22, 23, 24, 25, 26, 27, 28, 29, 30, 31, 32, 33, 34, 35, 36, 37, 38, 39, 40, 41, 42, 43, 44, 2] [.val (.pointer (some ⟨B, 0, none⟩)), .val (.bool true), .val (.bool true), .val (.pointer (some ⟨B, 0, none⟩)), .val (.pointer (some ⟨B, 0, none⟩)), .val (.pointer (some ⟨B, 4, none⟩)), .val (.slice A 0 c), .val (.int .i64 0), .val (.bool false), .val (.bool false), .val (.bool false), .val undef, .val undef, .val undef, .val undef, .val undef, .val undef, .val undef, .val undef, .val undef, .val undef, .val (.bool false), .val (.bool false), .val undef, .val undef, .val undef, .val undef, .val undef, .val undef, .val undef, .val undef, .val undef, .val undef, .val undef, .val undef, .val undef, .val undef, .val undef, .val undef, .val undef, .val undef, .val (.bool false), .val (.bool false)] [42] (by kernel_rfl) (by kernel_rfl) (by kernel_rfl) (by kernel_rfl) (by kernel_rfl) ⟨?_, ?_, ?_, ?_, ?_, ?_, ?_, ?_, ?_, ?_, ?_, ?_, ?_, ?_, ?_, ?_, ?_, ?_, ?_, ?_, ?_, ?_, ?_, ?_, ?_, ?_, ?_, ?_, ?_, ?_, ?_, ?_, ?_, ?_, ?_, ?_, ?_, ?_, ?_, ?_, ?_, ?_, ?_, trivial⟩ ?done
    case done =>
      intro x5 w5 hb5
      simp only [StepGoal, overlay, upd, cond_true, cond_false, List.getD_cons_zero, List.getD_cons_succ, Nat.zero_add, Nat.reduceAdd, Nat.reduceEqDiff, reduceIte]
      go_wp2_with fail
      go_ret
      exact ⟨rfl, hb5⟩
    all_goals
      intro x5 w5 hb5
      intro K hK
      have hB := HB.out.ext hb5
      have b4 := hB.cell 4
      have lB := hB.lt
      simp only [List.getElem?_toArray, List.getElem?_cons_zero, List.getElem?_cons_succ] at b4
      clear hB
      first
        | (rw [if_neg (by exact Bool.false_ne_true)]; exact hK.out _ _ (Below.refl _ _) rfl)
        | (rw [if_pos (by rfl)]; simp only [overlay, upd, cond_true, cond_false, List.getD_cons_zero, List.getD_cons_succ, Nat.reduceEqDiff, reduceIte]
           go_simp
           exact hK.out _ _ (Below.refl _ _) rfl)
  | cons t ts =>
    have ht := h.t t (by simp)
    obtain ⟨g, off, rfl, _, lg, hcell⟩ := hp (by simp)
    have hg0 := hcell 0 t.X (by simp)
    have HG := Lib.hid (show w.cell? ⟨g, off, none⟩ = some (.pointer (some ⟨t.X, 0, none⟩)) from hg0)
    have hx := ht.x
    obtain ⟨n, hn, hn1⟩ : ∃ n, n = (t :: ts).length ∧ 0 < n := ⟨_, rfl, by simp⟩
    rw [List.length_map, ← hn] at hb
    have hn2 : (0 : Int) < n := by omega
    have HB := Lib.hid hb
    cases hf : t.fin with
    | none =>
      rw [hf] at hx
      have HX := Lib.hid (show Blk w t.X #[.int .u64 t.n, .pointer none, .slice (some ⟨t.N, 0, none⟩) nt nt, .map (some t.M)] 94 from hx)
      have hr : readyL (t :: ts) = false := by simp [readyL, hf]
      rw [hr]
      clear h hb hp hcell hg0 ht hf hx hr hn
      generalize t.X = X at HG HX
      generalize t.n = tn at HX
      generalize t.N = N at HX
      generalize t.M = M at HX
      go_enter Tryd.func11, Tryd.ntmps11
      go_upto_region 1 with fail
      refine region_grow [false, false, true, true, true, true, true, true, true, true, true, true, true, true, true, true, true, true, true, true, true, true, true, true, true, true, true, true, true, true, true, true, true, true, true, true, true, true, true, true, true, true, true, true, true] [3, 4, 5, 6, 7, 8, 9, 10, 11, 12, 13, 14, 15, 16, 17, 18, 19, 20, 21, 22, 23, 24, 25, 26, 27, 28, 29, 30, 31, 32, 33, 34, 35, 36, 37, 38, 39, 40, 41, 42, 43, 44, 2] [.val (.pointer (some ⟨B, 0, none⟩)), .val (.bool true), .val (.bool true), .val (.pointer (some ⟨B, 0, none⟩)), .val (.pointer (some ⟨B, 0, none⟩)), .val (.pointer (some ⟨B, 4, none⟩)), .val (.slice (some ⟨g, off, none⟩) n c), .val (.int .i64 n), .val (.bool true), .val (.bool true), .val (.bool true), .val (.pointer (some ⟨B, 0, none⟩)), .val (.pointer (some ⟨B, 0, none⟩)), .val (.pointer (some ⟨B, 4, none⟩)), .val (.slice (some ⟨g, off, none⟩) n c), .val (.pointer (some ⟨g, off, none⟩)), .val (.pointer (some ⟨X, 0, none⟩)), .val (.pointer (some ⟨X, 0, none⟩)), .val (.pointer (some ⟨X, 1, none⟩)), .val (.pointer none), .val (.bool false), .val (.bool false), .val (.bool false), .val undef, .val undef, .val undef, .val undef, .val undef, .val undef, .val undef, .val undef, .val undef, .val undef, .val undef, .val undef, .val undef, .val undef, .val undef, .val undef, .val undef, .val undef, .val (.bool false), .val (.bool false)] [42] (by kernel_rfl) (by kernel_rfl) (by kernel_rfl) (by kernel_rfl) (by kernel_rfl) ⟨?_, ?_, ?_, ?_, ?_, ?_, ?_, ?_, ?_, ?_, ?_, ?_, ?_, ?_, ?_, ?_, ?_, ?_, ?_, ?_, ?_, ?_, ?_, ?_, ?_, ?_, ?_, ?_, ?_, ?_, ?_, ?_, ?_, ?_, ?_, ?_, ?_, ?_, ?_, ?_, ?_, ?_, ?_, trivial⟩ ?done
      case done =>
        intro x5 w5 hb5
        simp only [StepGoal, overlay, upd, cond_true, cond_false, List.getD_cons_zero, List.getD_cons_succ, Nat.zero_add, Nat.reduceAdd, Nat.reduceEqDiff, reduceIte]
        go_wp2_with fail
        go_ret
        exact ⟨rfl, hb5⟩
      all_goals
        intro x5 w5 hb5
        intro K hK
        have hB := HB.out.ext hb5
        have b4 := hB.cell 4
        have lB := hB.lt
        simp only [List.getElem?_toArray, List.getElem?_cons_zero, List.getElem?_cons_succ] at b4
        clear hB
        have hX := HX.out.ext hb5
        have x1 := hX.cell 1
        have x3 := hX.cell 3
        have lX := hX.lt
        have g0 := (hb5.cell (p := ⟨g, off, none⟩) lg).trans HG.out
        have lg5 := Nat.lt_of_lt_of_le lg hb5.size
        simp only [List.getElem?_toArray, List.getElem?_cons_zero, List.getElem?_cons_succ] at x1 x3
        clear hX
        first
          | (rw [if_neg (by exact Bool.false_ne_true)]; exact hK.out _ _ (Below.refl _ _) rfl)
          | (rw [if_pos (by rfl)]; simp only [overlay, upd, cond_true, cond_false, List.getD_cons_zero, List.getD_cons_succ, Nat.reduceEqDiff, reduceIte]
             go_simp
             exact hK.out _ _ (Below.refl _ _) rfl)
    | some f =>
      rw [hf] at hx
      have HX := Lib.hid (show Blk w t.X #[.int .u64 t.n, .pointer (some ⟨f.E, 0, none⟩), .slice (some ⟨t.N, 0, none⟩) nt nt, .map (some t.M)] 94 from hx)
      have HSZ := Lib.hid (fun (W : World) (hW : Below w.heap.size w W) => (ht.ext hW).size hf)
      have HLN := Lib.hid (fun (W : World) (hW : Below w.heap.size w W) => (ht.ext hW).m.len)
      rw [Tb.ev_len] at HLN
      have hr : readyL (t :: ts) = decide ((t.es.length : Int) = f.cnt.sum) := by simp [readyL, hf]
      rw [hr]
      clear h hb hp hcell hg0 ht hf hx hr hn
      generalize t.X = X at HG HX HSZ
      generalize t.n = tn at HX
      generalize t.N = N at HX
      generalize t.M = M at HX HLN
      generalize f.E = E at HX
      generalize t.es.length = m at HLN ⊢
      generalize f.cnt.sum = q at HSZ ⊢
      by_cases e : (m : Int) = q
      · rw [← e] at HSZ ⊢
        rw [decide_eq_true rfl]
        clear e q
        go_enter Tryd.func11, Tryd.ntmps11
        go_upto_region 1 with fail
        refine region_grow [false, false, true, true, true, true, true, true, true, true, true, true, true, true, true, true, true, true, true, true, true, true, true, true, true, true, true, true, true, true, true, true, true, true, true, true, true, true, true, true, true, true, true, true, true] [3, 4, 5, 6, 7, 8, 9, 10, 11, 12, 13, 14, 15, 16, 17, 18, 19, 20, 21, 22, 23, 24, 25, 26, 27, 28, 29, 30, 31, 32, 33, 34, 35, 36, 37, 38, 39, 40, 41, 42, 43, 44, 2] [.val (.pointer (some ⟨B, 0, none⟩)), .val (.bool true), .val (.bool true), .val (.pointer (some ⟨B, 0, none⟩)), .val (.pointer (some ⟨B, 0, none⟩)), .val (.pointer (some ⟨B, 4, none⟩)), .val (.slice (some ⟨g, off, none⟩) n c), .val (.int .i64 n), .val (.bool true), .val (.bool true), .val (.bool true), .val (.pointer (some ⟨B, 0, none⟩)), .val (.pointer (some ⟨B, 0, none⟩)), .val (.pointer (some ⟨B, 4, none⟩)), .val (.slice (some ⟨g, off, none⟩) n c), .val (.pointer (some ⟨g, off, none⟩)), .val (.pointer (some ⟨X, 0, none⟩)), .val (.pointer (some ⟨X, 0, none⟩)), .val (.pointer (some ⟨X, 1, none⟩)), .val (.pointer (some ⟨E, 0, none⟩)), .val (.bool true), .val (.bool true), .val (.bool true), .val (.pointer (some ⟨B, 0, none⟩)), .val (.pointer (some ⟨B, 0, none⟩)), .val (.pointer (some ⟨B, 4, none⟩)), .val (.slice (some ⟨g, off, none⟩) n c), .val (.pointer (some ⟨g, off, none⟩)), .val (.pointer (some ⟨X, 0, none⟩)), .val (.pointer (some ⟨X, 0, none⟩)), .val (.pointer (some ⟨X, 3, none⟩)), .val (.map (some M)), .val (.int .i64 m), .val (.pointer (some ⟨B, 0, none⟩)), .val (.pointer (some ⟨B, 0, none⟩)), .val (.pointer (some ⟨B, 4, none⟩)), .val (.slice (some ⟨g, off, none⟩) n c), .val (.pointer (some ⟨g, off, none⟩)), .val (.pointer (some ⟨X, 0, none⟩)), .val (.int .i64 m), .val (.bool true), .val (.bool true), .val (.bool true)] [42] (by kernel_rfl) (by kernel_rfl) (by kernel_rfl) (by kernel_rfl) (by kernel_rfl) ⟨?_, ?_, ?_, ?_, ?_, ?_, ?_, ?_, ?_, ?_, ?_, ?_, ?_, ?_, ?_, ?_, ?_, ?_, ?_, ?_, ?_, ?_, ?_, ?_, ?_, ?_, ?_, ?_, ?_, ?_, ?_, ?_, ?_, ?_, ?_, ?_, ?_, ?_, ?_, ?_, ?_, ?_, ?_, trivial⟩ ?done
        case done =>
          intro x5 w5 hb5
          simp only [StepGoal, overlay, upd, cond_true, cond_false, List.getD_cons_zero, List.getD_cons_succ, Nat.zero_add, Nat.reduceAdd, Nat.reduceEqDiff, reduceIte]
          go_wp2_with fail
          go_ret
          exact ⟨rfl, hb5⟩
        all_goals
          intro x5 w5 hb5
          intro K hK
          have hB := HB.out.ext hb5
          have b4 := hB.cell 4
          have lB := hB.lt
          simp only [List.getElem?_toArray, List.getElem?_cons_zero, List.getElem?_cons_succ] at b4
          clear hB
          have hX := HX.out.ext hb5
          have x1 := hX.cell 1
          have x3 := hX.cell 3
          have lX := hX.lt
          have g0 := (hb5.cell (p := ⟨g, off, none⟩) lg).trans HG.out
          have lg5 := Nat.lt_of_lt_of_le lg hb5.size
          simp only [List.getElem?_toArray, List.getElem?_cons_zero, List.getElem?_cons_succ] at x1 x3
          clear hX
          have hlen := HLN.out _ hb5
          rw [if_pos (by rfl)]; simp only [overlay, upd, cond_true, cond_false, List.getD_cons_zero, List.getD_cons_succ, Nat.reduceEqDiff, reduceIte]
          go_simp
          first
            | exact hK.out _ _ (Below.refl _ _) rfl
            | ((with_reducible refine (HSZ.out _ hb5).mono ?_); rintro e wa ⟨rfl, rfl⟩; go_wp2_with fail; exact hK.out _ _ (Below.refl _ _) rfl)
      · rw [decide_eq_false e]
        have e1 : ((m : Int) == q) = false := by simpa using e
        go_enter Tryd.func11, Tryd.ntmps11
        go_upto_region 1 with fail
        refine region_grow [false, false, true, true, true, true, true, true, true, true, true, true, true, true, true, true, true, true, true, true, true, true, true, true, true, true, true, true, true, true, true, true, true, true, true, true, true, true, true, true, true, true, true, true, true] [3, 4, 5, 6, 7, 8, 9, 10, 11, 12, 13, 14, 15, 16, 17, 18, 19, 20, 21, 22, 23, 24, 25, 26, 27, 28, 29, 30, 31, 32, 33, 34, 35, 36, 37, 38, 39, 40, 41, 42, 43, 44, 2] [.val (.pointer (some ⟨B, 0, none⟩)), .val (.bool true), .val (.bool true), .val (.pointer (some ⟨B, 0, none⟩)), .val (.pointer (some ⟨B, 0, none⟩)), .val (.pointer (some ⟨B, 4, none⟩)), .val (.slice (some ⟨g, off, none⟩) n c), .val (.int .i64 n), .val (.bool true), .val (.bool true), .val (.bool true), .val (.pointer (some ⟨B, 0, none⟩)), .val (.pointer (some ⟨B, 0, none⟩)), .val (.pointer (some ⟨B, 4, none⟩)), .val (.slice (some ⟨g, off, none⟩) n c), .val (.pointer (some ⟨g, off, none⟩)), .val (.pointer (some ⟨X, 0, none⟩)), .val (.pointer (some ⟨X, 0, none⟩)), .val (.pointer (some ⟨X, 1, none⟩)), .val (.pointer (some ⟨E, 0, none⟩)), .val (.bool true), .val (.bool true), .val (.bool true), .val (.pointer (some ⟨B, 0, none⟩)), .val (.pointer (some ⟨B, 0, none⟩)), .val (.pointer (some ⟨B, 4, none⟩)), .val (.slice (some ⟨g, off, none⟩) n c), .val (.pointer (some ⟨g, off, none⟩)), .val (.pointer (some ⟨X, 0, none⟩)), .val (.pointer (some ⟨X, 0, none⟩)), .val (.pointer (some ⟨X, 3, none⟩)), .val (.map (some M)), .val (.int .i64 m), .val (.pointer (some ⟨B, 0, none⟩)), .val (.pointer (some ⟨B, 0, none⟩)), .val (.pointer (some ⟨B, 4, none⟩)), .val (.slice (some ⟨g, off, none⟩) n c), .val (.pointer (some ⟨g, off, none⟩)), .val (.pointer (some ⟨X, 0, none⟩)), .val (.int .i64 q), .val (.bool false), .val (.bool false), .val (.bool false)] [42] (by kernel_rfl) (by kernel_rfl) (by kernel_rfl) (by kernel_rfl) (by kernel_rfl) ⟨?_, ?_, ?_, ?_, ?_, ?_, ?_, ?_, ?_, ?_, ?_, ?_, ?_, ?_, ?_, ?_, ?_, ?_, ?_, ?_, ?_, ?_, ?_, ?_, ?_, ?_, ?_, ?_, ?_, ?_, ?_, ?_, ?_, ?_, ?_, ?_, ?_, ?_, ?_, ?_, ?_, ?_, ?_, trivial⟩ ?done
        case done =>
          intro x5 w5 hb5
          simp only [StepGoal, overlay, upd, cond_true, cond_false, List.getD_cons_zero, List.getD_cons_succ, Nat.zero_add, Nat.reduceAdd, Nat.reduceEqDiff, reduceIte]
          go_wp2_with fail
          go_ret
          exact ⟨rfl, hb5⟩
        all_goals
          intro x5 w5 hb5
          intro K hK
          have hB := HB.out.ext hb5
          have b4 := hB.cell 4
          have lB := hB.lt
          simp only [List.getElem?_toArray, List.getElem?_cons_zero, List.getElem?_cons_succ] at b4
          clear hB
          have hX := HX.out.ext hb5
          have x1 := hX.cell 1
          have x3 := hX.cell 3
          have lX := hX.lt
          have g0 := (hb5.cell (p := ⟨g, off, none⟩) lg).trans HG.out
          have lg5 := Nat.lt_of_lt_of_le lg hb5.size
          simp only [List.getElem?_toArray, List.getElem?_cons_zero, List.getElem?_cons_succ] at x1 x3
          clear hX
          have hlen := HLN.out _ hb5
          rw [if_pos (by rfl)]; simp only [overlay, upd, cond_true, cond_false, List.getD_cons_zero, List.getD_cons_succ, Nat.reduceEqDiff, reduceIte]
          go_simp
          first
            | exact hK.out _ _ (Below.refl _ _) rfl
            | ((with_reducible refine (HSZ.out _ hb5).mono ?_); rintro e wa ⟨rfl, rfl⟩; go_wp2_with fail; exact hK.out _ _ (Below.refl _ _) rfl)
end Go.Proofs.YtkfhfegogmlchaaDoor

/- The buffer, in general: Len, last. -/
namespace Go.Proofs.YtkfhfegogmlchaaDoor
open Go.RowKit

def lenL (l : List Tb) : Nat := (l.map fun t => t.es.length).sum
theorem lenL_take {l : List Tb} {k : Nat} {t : Tb} (h : l[k]? = some t) : lenL (l.take (k + 1)) = lenL (l.take k) + t.es.length := by
  obtain ⟨hj, e⟩ := List.getElem?_eq_some_iff.1 h
  unfold lenL
  rw [List.take_succ_eq_append_getElem hj, e, List.map_append, List.sum_append]
  simp
theorem lenL_le {l : List Tb} {m : Nat} (h : ∀ t ∈ l, t.es.length ≤ m) : lenL l ≤ m * l.length := by
  unfold lenL
  induction l with
  | nil => simp
  | cons t l ih =>
    have h1 := h t (by simp)
    have h2 := ih (fun u hu => h u (by simp [hu]))
    rw [List.map_cons, List.sum_cons, List.length_cons, Nat.mul_add]
    omega
set_option maxRecDepth 100000 in
theorem len_any (B nt : Nat) (bd nx fa : Int) (has : Bool) (l : List Tb) (w : World) (h : BuR B nt bd nx has fa l w) (hl : l.length ≤ 40) (he : ∀ t ∈ l, t.es.length ≤ 4096) :
    Calls Tryd.prog 10 #[.pointer (some ⟨B, 0, none⟩)] w fun r w' => r = .returned (.int .i64 (lenL l)) ∧ w = w' := by
  have HLE := Lib.hid (fun k => (lenL_le (l := l.take k) (m := 4096) (fun t ht => he t (List.mem_of_mem_take ht)) : lenL (l.take k) ≤ 4096 * (l.take k).length))
  have HT := Lib.hid h.t
  obtain ⟨v, hb, A, c, rfl, hp, _⟩ := h.b
  have HP := Lib.hid hp
  have b4 := hb.cell 4
  have lB := hb.lt
  simp only [List.getElem?_toArray, List.getElem?_cons_zero, List.getElem?_cons_succ, List.length_map] at b4
  clear h hp hb he
  go_enter Tryd.func10, Tryd.ntmps10
  go_wp2_with fail
  go_loopw [2, 12] (fun s i wr => ∃ j : Nat, j ≤ l.length ∧ i = .int .i64 j ∧ s = .int .i64 (lenL (l.take j)) ∧ wr = w) (fun _ i _ => l.length - (intOf i).toNat)
  case atStart => exact ⟨0, by omega, rfl, by simp [lenL], rfl⟩
  case round =>
    obtain ⟨j, hj, rfl, rfl, rfl⟩ := hrel
    by_cases hlt : j < l.length
    · have hv := List.getElem?_eq_getElem hlt
      have hsum := lenL_take hv
      have hle := HLE.out (j + 1)
      rw [hsum, List.length_take] at hle
      have ht := HT.out l[j] (List.getElem_mem hlt)
      obtain ⟨g, off, rfl, _, lg, hcell⟩ := HP.out (by intro e; rw [List.map_eq_nil_iff] at e; subst e; simp at hlt)
      have hp := hcell j l[j].X (by rw [List.getElem?_map, hv]; rfl)
      generalize l[j] = t at hv hsum hle ht hp
      have HSUM := Lib.hid hsum
      have x3 := ht.x.cell 3
      have lx := ht.x.lt
      have hlen : ∀ ty, (Builtin.len_ #[92] ty #[.map (some t.M)]).run Tryd.prog wr = .ok (.int .i64 t.es.length) wr := fun ty => by rw [← t.ev_len]; exact ht.m.len ty
      simp only [List.getElem?_toArray, List.getElem?_cons_zero, List.getElem?_cons_succ] at x3
      clear hsum hv hcell HP ht
      generalize lenL (l.take j) = q at hle HSUM ⊢
      have hw : IntKind.i64.wrap ((q : Int) + t.es.length) = (q : Int) + t.es.length := IntWalk.i64_in _ (by omega)
      go_wp2_with fail
      go_roundw
      case rel => exact ⟨j + 1, by omega, by go_num, by rw [HSUM.out]; simp, trivial⟩
      case measure => simp [intOf]; omega
    · have hjl : j = l.length := by omega
      have HJ := Lib.hid hjl
      clear hjl
      go_wp2_with fail
      go_ret
      refine ⟨?_, rfl⟩
      rw [HJ.out, List.take_length]
      rfl
set_option maxRecDepth 100000 in
theorem last_some (B nt : Nat) (bd nx fa : Int) (has : Bool) (l : List Tb) (t : Tb) (w : World) (h : BuR B nt bd nx has fa (l ++ [t]) w) (hl : l.length ≤ 40) :
    Calls Tryd.prog 54 #[.pointer (some ⟨B, 0, none⟩)] w fun r w' => r = .returned (.pointer (some ⟨t.X, 0, none⟩)) ∧ Below w.heap.size w w' := by
  obtain ⟨v, hb, A, c, rfl, hp, _⟩ := h.b
  obtain ⟨g, off, rfl, _, lg, hcell⟩ := hp (by simp)
  have hp := hcell l.length t.X (by simp)
  obtain ⟨n, hn⟩ : ∃ n, n = l.length + 1 := ⟨_, rfl⟩
  have b4 := hb.cell 4
  have lB := hb.lt
  simp only [List.getElem?_toArray, List.getElem?_cons_zero, List.getElem?_cons_succ, List.length_map, List.length_append] at b4
  generalize l.length = m at *
  clear h hcell hb hn
  have hne : ((m : Int) + 1 == 0) = false := by simp; omega
  have hw : IntKind.i64.wrap ((m : Int) + 1 - 1) = m := by rw [show (m : Int) + 1 - 1 = m by omega]; exact IntWalk.i64_in _ (by omega)
  have hm0 : (0 : Int) ≤ m := by omega
  have hm1 : (m : Int) < (m : Int) + 1 := by omega
  have hmt : (m : Int).toNat = m := by omega
  go_enter Tryd.func54, Tryd.ntmps54
  go_upto_region 3 with fail
  go_quiet (fail)
  go_wp2_with fail
  go_ret
  exact ⟨rfl, below_drewN (Below.refl _ _) _⟩
end Go.Proofs.YtkfhfegogmlchaaDoor

/- The buffer, in general: what stores leave of it. -/
namespace Go.Proofs.YtkfhfegogmlchaaDoor
open Go.RowKit

/-- What is turned is a block of none of these types. -/
def OffR (w : World) (row : Option Nat) : Prop := ∀ g, row = some g → ∃ cs T f, w.heap[g]? = some (.cells cs T f) ∧ T ≠ 94 ∧ T ≠ 50 ∧ T ≠ 3 ∧ T ≠ 29 ∧ T ≠ 97
theorem off_blk {w w' : World} {row : Option Nat} {b : Nat} {cs : Array Value} {t : TypeId} (h : Blk w b cs t) (hg : w.grownBy w' row) (ho : ∀ g, row = some g → ∃ cs T f, w.heap[g]? = some (.cells cs T f) ∧ T ≠ t) : Blk w' b cs t := by
  unfold Blk at h ⊢
  rw [hg.block b (Array.getElem?_eq_some_iff.1 h).1 (fun e => by
    obtain ⟨cs', T, f, h1, h2⟩ := ho b e.symm
    rw [h] at h1
    simp only [Option.some.injEq, Obj.cells.injEq] at h1
    exact h2 h1.2.1.symm)]
  exact h
theorem off_own {w w' : World} {row : Option Nat} {base e size n : Nat} {v : Value} {xs : List Value} (h : w.ownsRow base e size v n xs) (hg : w.grownBy w' row) (ho : ∀ g, row = some g → ∃ cs T f, w.heap[g]? = some (.cells cs T f) ∧ T ≠ e) : w'.ownsRow base e size v n xs := by
  rcases h.2 with ⟨rfl, _⟩ | ⟨g, cap, cur, rfl, _, hh, _⟩
  · cases row with
    | none => exact own_grown h hg (Or.inl rfl)
    | some g => exact own_grown h hg (Or.inr (by simp [Value.ownBlock]))
  · refine own_grown h hg (Or.inr fun e' => ?_)
    obtain ⟨cs', T, f, h1, h2⟩ := ho g e'.symm
    rw [hh] at h1
    simp only [Option.some.injEq, Obj.cells.injEq] at h1
    exact h2 h1.2.1.symm
theorem off_map {w w' : World} {row : Option Nat} {M n : Nat} {D : DataW Value} (h : w.ownsMap Tryd.prog 3 RV M n D) (hg : w.grownBy w' row) (ho : ∀ g, row = some g → ∃ cs T f, w.heap[g]? = some (.cells cs T f)) : w'.ownsMap Tryd.prog 3 RV M n D := by
  obtain ⟨es, clock, hb, r⟩ := h
  refine ⟨es, clock, ?_, r⟩
  rw [hg.block M (Array.getElem?_eq_some_iff.1 hb).1 (fun e => by
    obtain ⟨cs', T, f, h1⟩ := ho M e.symm
    rw [hb] at h1
    cases h1)]
  exact hb
theorem TxR.off {lo nt : Nat} {t : Tb} {w w' : World} {row : Option Nat} (h : TxR lo nt t w) (hg : w.grownBy w' row) (ho : OffR w row) : TxR lo nt t w' := by
  refine ⟨h.lx, h.ln, h.lm, off_blk h.x hg (fun g e => by obtain ⟨cs, T, f, h1, h2, _⟩ := ho g e; exact ⟨cs, T, f, h1, h2⟩), fun f hf => ?_, off_blk h.n hg (fun g e => by obtain ⟨cs, T, f, h1, _, _, h2, _⟩ := ho g e; exact ⟨cs, T, f, h1, h2⟩), h.l, ⟨off_map h.m.1 hg (fun g e => by obtain ⟨cs, T, f, h1, _⟩ := ho g e; exact ⟨cs, T, f, h1⟩), h.m.2⟩, fun p hp => ?_⟩
  · obtain ⟨h1, ⟨b1, h2⟩, ⟨b2, h3⟩, h4⟩ := h.f f hf
    exact ⟨off_blk h1 hg (fun g e => by obtain ⟨cs, T, f, h1, _, h2, _⟩ := ho g e; exact ⟨cs, T, f, h1, h2⟩), ⟨b1, off_own h2 hg (fun g e => by obtain ⟨cs, T, f, h1, _, _, h2, _⟩ := ho g e; exact ⟨cs, T, f, h1, h2⟩)⟩, ⟨b2, off_own h3 hg (fun g e => by obtain ⟨cs, T, f, h1, _, _, _, h2, _⟩ := ho g e; exact ⟨cs, T, f, h1, h2⟩)⟩, h4⟩
  · obtain ⟨A, c, A2, c2, h1, ⟨⟨b1, h2⟩, h2'⟩, ⟨⟨b2, h3⟩, h3'⟩⟩ := h.e p hp
    exact ⟨A, c, A2, c2, h1, ⟨⟨b1, off_own h2 hg (fun g e => by obtain ⟨cs, T, f, h1, _, _, _, _, h2⟩ := ho g e; exact ⟨cs, T, f, h1, h2⟩)⟩, h2'⟩, ⟨⟨b2, off_own h3 hg (fun g e => by obtain ⟨cs, T, f, h1, _, _, _, _, h2⟩ := ho g e; exact ⟨cs, T, f, h1, h2⟩)⟩, h3'⟩⟩
theorem PtrL.off {lo : Nat} {w w' : World} {row : Option Nat} {v : Value} {ps : List Nat} (h : PtrL lo w v ps) (hg : w.grownBy w' row) (ho : ∀ g, row = some g → ∃ cs T f, w.heap[g]? = some (.cells cs T f) ∧ T ≠ 90) : PtrL lo w' v ps := by
  obtain ⟨A, c, rfl, h1, h2⟩ := h
  have key : ∀ (b : Nat) (cs : Array Value) (f : Nat × Nat), w.heap[b]? = some (.cells cs 90 f) → w'.heap[b]? = some (.cells cs 90 f) := fun b cs f hb => by
    rw [hg.block b (Array.getElem?_eq_some_iff.1 hb).1 (fun e => by
      obtain ⟨cs', T, f', h3, h4⟩ := ho b e.symm
      rw [hb] at h3
      simp only [Option.some.injEq, Obj.cells.injEq] at h3
      exact h4 h3.2.1.symm)]
    exact hb
  refine ⟨A, c, rfl, fun hne => ?_, ?_⟩
  · obtain ⟨g, off, rfl, hl, hlt, hc⟩ := h1 hne
    have hgb : ∃ cs f, w.heap[g]? = some (.cells cs 90 f) := by
      rcases h2 with h2 | h2
      · rcases h2.2 with ⟨e, _⟩ | ⟨g', cap, cur, e, _, hh, _⟩
        · cases e
        · simp only [Value.slice.injEq, Option.some.injEq, Addr.mk.injEq] at e
          obtain ⟨⟨rfl, _⟩, _⟩ := e
          exact ⟨cur, _, hh⟩
      · exact h2.2 _ rfl
    obtain ⟨cs, f, hh⟩ := hgb
    refine ⟨g, off, rfl, hl, Nat.lt_of_lt_of_le hlt hg.size, fun i p hi => ?_⟩
    rw [← hc i p hi]
    exact World.cell?_of_block ((key g cs f hh).trans hh.symm)
  · rcases h2 with h2 | h2
    · exact Or.inl (off_own h2 hg ho)
    · refine Or.inr ⟨h2.1, fun a ha => ?_⟩
      obtain ⟨cs, f, h3⟩ := h2.2 a ha
      exact ⟨cs, f, key _ _ _ h3⟩
theorem put_grown (w : World) (b : Nat) (cs ds : Array Value) (t : TypeId) : (putBlk w b cs t).grownBy (putBlk w b ds t) (some b) := by
  refine ⟨rfl, rfl, rfl, by simp [putBlk], fun k hk hne => ?_⟩
  unfold putBlk
  simp only
  rw [Array.getElem?_setIfInBounds_ne (fun e => hne (by rw [e])), Array.getElem?_setIfInBounds_ne (fun e => hne (by rw [e]))]
theorem put_off {w : World} {b : Nat} (cs : Array Value) (t : TypeId) (h : b < w.heap.size) (h1 : t ≠ 94) (h2 : t ≠ 50) (h3 : t ≠ 3) (h4 : t ≠ 29) (h5 : t ≠ 97) : OffR (putBlk w b cs t) (some b) := by
  intro g e
  obtain rfl := Option.some.inj e
  exact ⟨cs, t, _, putBlk_blk cs t h, h1, h2, h3, h4, h5⟩
def Tb.ints (t : Tb) : List Nat := t.N :: (match t.fin with | none => [] | some f => [f.gc])
/-- All transactions' blocks are far from one another's. -/
def Dis (l : List Tb) : Prop := (l.map (·.X)).Nodup ∧ (l.map (·.M)).Nodup ∧ (l.flatMap Tb.ints).Nodup
theorem TxR.lts {lo nt : Nat} {t : Tb} {w : World} (h : TxR lo nt t w) : t.X < w.heap.size ∧ t.N < w.heap.size ∧ t.M < w.heap.size ∧ ∀ b ∈ t.ints, b < w.heap.size := by
  have h1 := h.n.lt
  refine ⟨h.x.lt, h1, h.m.1.lt, fun b hb => ?_⟩
  unfold Tb.ints at hb
  rcases List.mem_cons.1 hb with rfl | hb
  · exact h1
  · cases hf : t.fin with
    | none => rw [hf] at hb; cases hb
    | some f =>
      rw [hf] at hb
      obtain rfl : b = f.gc := by simpa using hb
      obtain ⟨_, ⟨b1, h2⟩, _⟩ := h.f f hf
      exact (h2.lt _ rfl).2
theorem Dis.tail {t : Tb} {l : List Tb} (h : Dis (t :: l)) : Dis l := by
  obtain ⟨h1, h2, h3⟩ := h
  rw [List.flatMap_cons, List.nodup_append] at h3
  exact ⟨(List.nodup_cons.1 h1).2, (List.nodup_cons.1 h2).2, h3.2.1⟩
/-- A new one behind. -/
theorem Dis.snoc {lo nt s : Nat} {t : Tb} {l : List Tb} {w : World} (h : Dis l) (hl : ∀ u ∈ l, TxR lo nt u w) (hs : w.heap.size ≤ s) (h1 : s ≤ t.X) (h2 : s ≤ t.N) (h3 : s ≤ t.M) (h4 : t.fin = none) : Dis (l ++ [t]) := by
  obtain ⟨d1, d2, d3⟩ := h
  have e : t.ints = [t.N] := by unfold Tb.ints; rw [h4]
  refine ⟨?_, ?_, ?_⟩
  · rw [List.map_append, List.nodup_append]
    refine ⟨d1, by simp, fun a ha b hb => ?_⟩
    obtain ⟨u, hu, rfl⟩ := List.mem_map.1 ha
    obtain rfl : b = t.X := by simpa using hb
    have := (hl u hu).lts.1
    omega
  · rw [List.map_append, List.nodup_append]
    refine ⟨d2, by simp, fun a ha b hb => ?_⟩
    obtain ⟨u, hu, rfl⟩ := List.mem_map.1 ha
    obtain rfl : b = t.M := by simpa using hb
    have := (hl u hu).lts.2.2.1
    omega
  · rw [List.flatMap_append, List.nodup_append]
    refine ⟨d3, by simp [e], fun a ha b hb => ?_⟩
    obtain ⟨u, hu, hau⟩ := List.mem_flatMap.1 ha
    obtain rfl : b = t.N := by simpa [e] using hb
    have := (hl u hu).lts.2.2.2 a hau
    omega
end Go.Proofs.YtkfhfegogmlchaaDoor
