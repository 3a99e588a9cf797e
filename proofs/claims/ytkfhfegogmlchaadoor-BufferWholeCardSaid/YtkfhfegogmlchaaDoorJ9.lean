/- Several texts in one: see each part's head. -/
import Derived.RegionTactic
import Derived.ChangeAlike
import Derived.Test.YtkfhfegogmlchaaDoorJ8
/- Several texts in one: see each part's head. -/
/- Numbers of two and eight bytes, as the event's package and its reference write and read them. -/
namespace Go.Proofs.YtkfhfegogmlchaaDoor
open Go.RowKit

theorem conv2 (w : World) (a b : Int) (k : Nat) :
    (convert 27 9 (.slice (some ⟨w.heap.size, 0, none⟩) 2 k)).run Tryd.prog (w.alloc (.cells #[.int .u8 a, .int .u8 b] 5)) =
      .ok (.string (strOfNums [a, b])) (w.alloc (.cells #[.int .u8 a, .int .u8 b] 5)) :=
  conv_new w [a, b] 2 k rfl
theorem num2_eq (v : Nat) (hv : v < 65536) : numL 2 v = [(v : Int) % 256, (v : Int) / 256].map fun n => UInt8.ofNat n.toNat := by
  simp only [numL, List.map_cons, List.map_nil, List.cons.injEq, and_true]
  refine ⟨?_, ?_⟩ <;> congr 1 <;> omega
theorem strOf2 (v : Int) (h0 : 0 ≤ v) (h1 : v < 65536) : strOfNums [v % 256, v / 256] = ⟨(numL 2 v.toNat).toArray⟩ := by
  obtain ⟨n, rfl⟩ := Int.eq_ofNat_of_zero_le h0
  rw [Int.toNat_natCast, num2_eq n (by omega)]
  rfl
set_option maxRecDepth 100000 in
theorem wput2 (v : Int) (h0 : 0 ≤ v) (h1 : v < 65536) (w : World) :
    Calls Tryd.prog 71 #[.int .u64 v, .int .i64 2] w fun e w' => e = .returned (.tuple #[.string ⟨(numL 2 v.toNat).toArray⟩, .int .i64 0]) ∧ Below w.heap.size w w' := by
  have hmk : ∀ w : World, (Instr.makeSlice 27 (.int .i64 2) (.int .i64 2)).run Tryd.prog w = .ok (.slice (some ⟨w.heap.size, 0, none⟩) 2 2) (w.alloc (.cells #[.int .u8 0, .int .u8 0] 5)) := fun _ => by kernel_rfl
  have hcv := conv2
  have hq : v / 65536 = 0 := by omega
  generalize hM : numL 2 v.toNat = M
  have HM := Lib.hid hM
  clear hM
  go_enter Tryd.func71, Tryd.ntmps71
  go_wp2
  refine wp_loop_rounds 3 ?_
  iterate 3 (rw [rounds_succ]; go_wp2)
  go_ret2
  refine ⟨ret_tup2 ?_ rfl, (Below.refl _ _).alloc (Nat.le_refl _) _⟩
  rw [← HM.out]
  exact congrArg Value.string (strOf2 v h0 h1)
set_option maxRecDepth 100000 in
theorem evput8 (v : Int) (h0 : 0 ≤ v) (h1 : v ≤ 18446744073709551615) (w : World) :
    Calls Tryd.prog 58 #[.int .u64 v, .int .i64 8] w fun e w' => e = .returned (.string ⟨(numL 8 v.toNat).toArray⟩) ∧ Below w.heap.size w w' := by
  have HC := Lib.hid (wput8 v h0 h1)
  generalize numL 8 v.toNat = M at HC ⊢
  go_enter Tryd.func58, Tryd.ntmps58
  go_wp2_with (go_at_call 71; refine (HC.out _).mono ?_; rintro e w1 ⟨rfl, hb1⟩)
  go_ret
  exact ⟨rfl, hb1⟩
set_option maxRecDepth 100000 in
theorem evput2 (v : Int) (h0 : 0 ≤ v) (h1 : v < 65536) (w : World) :
    Calls Tryd.prog 59 #[.int .i64 v, .int .i64 2] w fun e w' => e = .returned (.string ⟨(numL 2 v.toNat).toArray⟩) ∧ Below w.heap.size w w' := by
  have HC := Lib.hid (wput2 v h0 h1)
  generalize numL 2 v.toNat = M at HC ⊢
  go_enter Tryd.func59, Tryd.ntmps59
  go_wp2_with (go_at_call 71; refine (HC.out _).mono ?_; rintro e w1 ⟨rfl, hb1⟩)
  go_ret
  exact ⟨rfl, hb1⟩
theorem or2 (a b : UInt8) : bits .or .u64 (bits .or .u64 0 (IntKind.u64.wrap (IntKind.u64.wrap (a.toNat : Int)))) (IntKind.u64.wrap (IntKind.u64.wrap (b.toNat : Int) * 256)) = ((valL [a, b] : Nat) : Int) := by
  have ha := a.toNat_lt
  have hb := b.toNat_lt
  rw [or_first _ (by omega)]
  rw [show (256 : Int) = ((256 : Nat) : Int) from rfl, or_step _ _ 8 256 rfl (by omega) (by omega) (by omega)]
  simp only [valL]
  omega
theorem list2 (s : ByteArray) (h : s.size = 2) : s.data.toList = [s[0]'(by omega), s[1]'(by omega)] := by
  obtain ⟨⟨l⟩⟩ := s
  simp only [ByteArray.size] at h
  match l, h with
  | [a, b], _ => rfl
set_option maxRecDepth 100000 in
theorem wget2 (s : ByteArray) (h : s.size = 2) (w : World) :
    Calls Tryd.prog 61 #[.string s] w fun e w' => e = .returned (.tuple #[.int .u64 (valL s.data.toList), .int .i64 0]) ∧ w = w' := by
  have h1 : 2 ≤ s.size := by omega
  have h2 : s.size ≤ 2 := by omega
  have HS := Lib.hid h
  clear h
  generalize hM : valL s.data.toList = M
  have HM := Lib.hid hM
  clear hM
  go_enter Tryd.func61, Tryd.ntmps61
  go_wp2
  refine wp_loop_rounds 3 ?_
  iterate 3 (rw [rounds_succ]; go_wp2)
  go_ret2
  refine ⟨ret_tup2 ?_ rfl, rfl⟩
  rw [← HM.out, list2 s HS.out]
  exact congrArg (Value.int .u64) (or2 _ _)
theorem evget8 (s : ByteArray) (h : s.size = 8) (w : World) :
    Calls Tryd.prog 49 #[.string s] w fun e w' => e = .returned (.int .u64 (valL s.data.toList)) ∧ w = w' := by
  have HC := Lib.hid (wget8 s h)
  clear h
  generalize valL s.data.toList = M at HC ⊢
  go_enter Tryd.func49, Tryd.ntmps49
  go_wp2_with (go_at_call 61; refine (HC.out _).mono ?_; rintro e w1 ⟨rfl, rfl⟩)
  go_ret
  exact ⟨rfl, rfl⟩
theorem evget2 (s : ByteArray) (h : s.size = 2) (w : World) :
    Calls Tryd.prog 50 #[.string s] w fun e w' => e = .returned (.int .i64 (valL s.data.toList)) ∧ w = w' := by
  have HC := Lib.hid (wget2 s h)
  have hv := valL_lt s.data.toList
  rw [show s.data.toList.length = 2 by simpa using h] at hv
  clear h
  generalize valL s.data.toList = M at HC hv ⊢
  have hv' : (M : Int) < 65536 := by omega
  have hv0 : (0 : Int) ≤ M := by omega
  clear hv
  go_enter Tryd.func50, Tryd.ntmps50
  go_wp2_with (go_at_call 61; refine (HC.out _).mono ?_; rintro e w1 ⟨rfl, rfl⟩)
  go_ret
  exact ⟨rfl, rfl⟩
end Go.Proofs.YtkfhfegogmlchaaDoor

/- Events as data: rows of rows, event.rows. -/
namespace Go.Proofs.YtkfhfegogmlchaaDoor
open Go.RowKit

/-- A block that lies in memory, not frozen. -/
def Blk (w : World) (b : Nat) (cs : Array Value) (t : TypeId) : Prop := w.heap[b]? = some (.cells cs t (0, 0))
theorem Blk.lt {w : World} {b : Nat} {cs : Array Value} {t : TypeId} (h : Blk w b cs t) : b < w.heap.size := by
  rcases Nat.lt_or_ge b w.heap.size with h' | h'
  · exact h'
  · unfold Blk at h; rw [Array.getElem?_eq_none h'] at h; cases h
theorem Blk.ext {w w' : World} {b : Nat} {cs : Array Value} {t : TypeId} (h : Blk w b cs t) (hb : Below w.heap.size w w') : Blk w' b cs t := (hb.block b h.lt).trans h
theorem Blk.cell {w : World} {b : Nat} {cs : Array Value} {t : TypeId} (h : Blk w b cs t) (i : Nat) : w.cell? ⟨b, i, none⟩ = cs[i]? := cell_of_row w b i _ _ (0, 0) h
theorem Blk.new (w : World) (cs : Array Value) (t : TypeId) : Blk (w.alloc (.cells cs t)) w.heap.size cs t := heap_alloc_new w _
theorem Blk.at {w : World} {cs : Array Value} {t : TypeId} {b : Nat} (h : w.heap.size = b) : Blk (w.alloc (.cells cs t)) b cs t := by subst h; exact Blk.new _ _ _
theorem Blk.old {w : World} {b : Nat} {cs : Array Value} {t : TypeId} (h : Blk w b cs t) (o : Obj) : Blk (w.alloc o) b cs t := h.ext ((Below.refl _ _).alloc (Nat.le_refl _) _)
theorem Blk.drew {w : World} {b : Nat} {cs : Array Value} {t : TypeId} (h : Blk w b cs t) : Blk w.drew b cs t := h
theorem Blk.frozen {w : World} {b : Nat} {cs : Array Value} {t : TypeId} (h : Blk w b cs t) (i : Nat) : w.frozen? ⟨b, i, none⟩ = false := by
  unfold Blk at h
  simp [World.frozen?, h]

structure Ev where
  tx : Int
  tot : Int
  nth : Int
  k : Int
  tb : Int
  bf : List V
  af : List V
def Ev.wf (e : Ev) : Prop := (0 ≤ e.tx ∧ e.tx ≤ 18446744073709551615) ∧ (-9223372036854775808 ≤ e.tot ∧ e.tot ≤ 9223372036854775807) ∧ (-9223372036854775808 ≤ e.nth ∧ e.nth ≤ 9223372036854775807) ∧ (0 ≤ e.k ∧ e.k ≤ 255) ∧ (-9223372036854775808 ≤ e.tb ∧ e.tb ≤ 9223372036854775807)
/-- An event's seven cells, its rows at A and B. -/
def evCells (e : Ev) (A B : Value) : Array Value := #[.int .u64 e.tx, .int .i64 e.tot, .int .i64 e.nth, .int .u8 e.k, .int .i64 e.tb, A, B]

/-- What event.rows gives. -/
def RowsPost (k : Int) (A B : Value) (w : World) (e : Ending) (w' : World) : Prop :=
  Below w.heap.size w w' ∧
  if k = 1 ∨ k = 4 then ∃ b d, e = .returned (.tuple #[.slice (some ⟨b, 0, none⟩) 1 1, .slice (some ⟨d, 0, none⟩) 1 1]) ∧ Blk w' b #[B] 55 ∧ Blk w' d #[A] 55
  else if k = 3 then ∃ b d, e = .returned (.tuple #[.slice (some ⟨b, 0, none⟩) 1 1, .slice (some ⟨d, 0, none⟩) 1 1]) ∧ Blk w' b #[A] 55 ∧ Blk w' d #[B] 55
  else ∃ b, e = .returned (.tuple #[.slice (some ⟨b, 0, none⟩) 2 2, .slice none 0 0]) ∧ Blk w' b #[A, B] 55
set_option maxRecDepth 100000 in
set_option maxHeartbeats 400000 in
theorem rows_any (e : Ev) (A B : Option Addr) (n c m d : Nat) (w : World) :
    Calls Tryd.prog 52 #[.agg (evCells e (.slice A n c) (.slice B m d))] w (RowsPost e.k (.slice A n c) (.slice B m d) w) := by
  obtain ⟨tx, tot, nth, k, tb, bf, af⟩ := e
  simp only [evCells]
  by_cases h1 : k = 1 ∨ k = 4
  · rcases h1 with rfl | rfl
    all_goals
      go_enter Tryd.func52, Tryd.ntmps52
      go_wp2
      go_region
      all_goals
        go_wp2
        go_ret2
        unfold RowsPost
        rw [if_pos (by decide)]
        refine ⟨(by repeat (first | exact Below.refl _ _ | assumption | refine Below.drew ?_ | refine below_drewN ?_ _ | refine Below.alloc ?_ (by simp <;> omega) _)), ?_⟩
        exact ⟨_, _, rfl, (by repeat (first | exact Blk.at (by simp) | assumption | refine Blk.drew ?_ | refine Blk.old ?_ _)), (by repeat (first | exact Blk.at (by simp) | assumption | refine Blk.drew ?_ | refine Blk.old ?_ _))⟩
  · by_cases h3 : k = 3
    · subst h3
      clear h1
      go_enter Tryd.func52, Tryd.ntmps52
      go_wp2
      go_region
      all_goals
        go_wp2
        go_ret2
        unfold RowsPost
        rw [if_neg (by decide), if_pos rfl]
        refine ⟨(by repeat (first | exact Below.refl _ _ | assumption | refine Below.drew ?_ | refine below_drewN ?_ _ | refine Below.alloc ?_ (by simp <;> omega) _)), ?_⟩
        exact ⟨_, _, rfl, (by repeat (first | exact Blk.at (by simp) | assumption | refine Blk.drew ?_ | refine Blk.old ?_ _)), (by repeat (first | exact Blk.at (by simp) | assumption | refine Blk.drew ?_ | refine Blk.old ?_ _))⟩
    · have g1 : (k == 1) = false := by rw [beq_eq_false_iff_ne]; omega
      have g3 : (k == 3) = false := by rw [beq_eq_false_iff_ne]; exact h3
      have g4 : (k == 4) = false := by rw [beq_eq_false_iff_ne]; omega
      have H1 := Lib.hid h1
      have H3 := Lib.hid h3
      clear h1 h3
      go_enter Tryd.func52, Tryd.ntmps52
      go_wp2
      go_ret2
      unfold RowsPost
      rw [if_neg H1.out, if_neg H3.out]
      exact ⟨(by repeat (first | exact Below.refl _ _ | assumption | refine Below.drew ?_ | refine below_drewN ?_ _ | refine Below.alloc ?_ (by simp <;> omega) _)), _, rfl, (by repeat (first | exact Blk.at (by simp) | assumption | refine Blk.drew ?_ | refine Blk.old ?_ _))⟩
end Go.Proofs.YtkfhfegogmlchaaDoor

/- event.Check: which events may be. -/
namespace Go.Proofs.YtkfhfegogmlchaaDoor
open Go.RowKit

theorem Blk.c0 {w : World} {b : Nat} {x : Value} {t : TypeId} (h : Blk w b #[x] t) : w.cell? ⟨b, 0, none⟩ = some x := h.cell 0
theorem Blk.d0 {w : World} {b : Nat} {x y : Value} {t : TypeId} (h : Blk w b #[x, y] t) : w.cell? ⟨b, 0, none⟩ = some x := h.cell 0
theorem Blk.d1 {w : World} {b : Nat} {x y : Value} {t : TypeId} (h : Blk w b #[x, y] t) : w.cell? ⟨b, 1, none⟩ = some y := h.cell 1
theorem rows_ins (e : Ev) (A B : Option Addr) (n c m d : Nat) (w : World) (h : e.k = 1 ∨ e.k = 4) :
    Calls Tryd.prog 52 #[.agg (evCells e (.slice A n c) (.slice B m d))] w fun r w' => ∃ b g, r = .returned (.tuple #[.slice (some ⟨b, 0, none⟩) 1 1, .slice (some ⟨g, 0, none⟩) 1 1]) ∧ Blk w' b #[.slice B m d] 55 ∧ Blk w' g #[.slice A n c] 55 ∧ Below w.heap.size w w' :=
  (rows_any e A B n c m d w).mono fun r w' hp => by
    unfold RowsPost at hp
    rw [if_pos h] at hp
    obtain ⟨hb, b, g, h1, h2, h3⟩ := hp
    exact ⟨b, g, h1, h2, h3, hb⟩
theorem rows_del (e : Ev) (A B : Option Addr) (n c m d : Nat) (w : World) (h : e.k = 3) :
    Calls Tryd.prog 52 #[.agg (evCells e (.slice A n c) (.slice B m d))] w fun r w' => ∃ b g, r = .returned (.tuple #[.slice (some ⟨b, 0, none⟩) 1 1, .slice (some ⟨g, 0, none⟩) 1 1]) ∧ Blk w' b #[.slice A n c] 55 ∧ Blk w' g #[.slice B m d] 55 ∧ Below w.heap.size w w' :=
  (rows_any e A B n c m d w).mono fun r w' hp => by
    unfold RowsPost at hp
    rw [if_neg (by omega), if_pos h] at hp
    obtain ⟨hb, b, g, h1, h2, h3⟩ := hp
    exact ⟨b, g, h1, h2, h3, hb⟩
theorem rows_upd (e : Ev) (A B : Option Addr) (n c m d : Nat) (w : World) (h : ¬ (e.k = 1 ∨ e.k = 4)) (h3 : ¬ e.k = 3) :
    Calls Tryd.prog 52 #[.agg (evCells e (.slice A n c) (.slice B m d))] w fun r w' => ∃ b, r = .returned (.tuple #[.slice (some ⟨b, 0, none⟩) 2 2, .slice none 0 0]) ∧ Blk w' b #[.slice A n c, .slice B m d] 55 ∧ Below w.heap.size w w' :=
  (rows_any e A B n c m d w).mono fun r w' hp => by
    unfold RowsPost at hp
    rw [if_neg h, if_neg h3] at hp
    obtain ⟨hb, b, h1, h2⟩ := hp
    exact ⟨b, h1, h2, hb⟩
/-- The numbers of an event that may be. -/
def evG (e : Ev) : Bool := decide (1 ≤ e.k ∧ e.k ≤ 4 ∧ 0 ≤ e.tb ∧ e.tb < 12 ∧ 0 ≤ e.tot ∧ e.tot < 200 ∧ 0 ≤ e.nth ∧ e.nth ≤ e.tot)
/-- Its rows. -/
def evR (e : Ev) : Bool := if e.k = 1 ∨ e.k = 4 then rowB e.af && decide (e.bf.length = 0) else if e.k = 3 then rowB e.bf && decide (e.af.length = 0) else rowB e.bf && rowB e.af
def evB (e : Ev) : Bool := evG e && evR e
set_option maxRecDepth 100000 in
set_option maxHeartbeats 400000 in
theorem evcheck_no (e : Ev) (A B : Value) (w : World) (h : evG e = false) :
    Calls Tryd.prog 38 #[.agg (evCells e A B)] w fun r w' => r = .returned (.int .i64 2) ∧ Below w.heap.size w w' := by
  obtain ⟨tx, tot, nth, k, tb, bf, af⟩ := e
  have h' := of_decide_eq_false h
  simp only at h'
  clear h
  simp only [evCells]
  by_cases c1 : k < 1
  · clear h'
    go_enter Tryd.func38, Tryd.ntmps38
    go_wp2
    go_ret
    exact ⟨rfl, (by repeat (first | exact Below.refl _ _ | assumption | refine Below.drew ?_ | refine below_drewN ?_ _ | refine Below.alloc ?_ (by simp <;> omega) _))⟩
  · by_cases c2 : 4 < k
    · clear h'
      go_enter Tryd.func38, Tryd.ntmps38
      go_wp2
      go_ret
      exact ⟨rfl, (by repeat (first | exact Below.refl _ _ | assumption | refine Below.drew ?_ | refine below_drewN ?_ _ | refine Below.alloc ?_ (by simp <;> omega) _))⟩
    · by_cases c3 : tb < 0
      · clear h'
        go_enter Tryd.func38, Tryd.ntmps38
        go_wp2
        go_ret
        exact ⟨rfl, (by repeat (first | exact Below.refl _ _ | assumption | refine Below.drew ?_ | refine below_drewN ?_ _ | refine Below.alloc ?_ (by simp <;> omega) _))⟩
      · by_cases c4 : 12 ≤ tb
        · clear h'
          go_enter Tryd.func38, Tryd.ntmps38
          go_wp2
          go_ret
          exact ⟨rfl, (by repeat (first | exact Below.refl _ _ | assumption | refine Below.drew ?_ | refine below_drewN ?_ _ | refine Below.alloc ?_ (by simp <;> omega) _))⟩
        · by_cases c5 : tot < 0
          · clear h'
            go_enter Tryd.func38, Tryd.ntmps38
            go_wp2
            go_ret
            exact ⟨rfl, (by repeat (first | exact Below.refl _ _ | assumption | refine Below.drew ?_ | refine below_drewN ?_ _ | refine Below.alloc ?_ (by simp <;> omega) _))⟩
          · by_cases c6 : 200 ≤ tot
            · clear h'
              go_enter Tryd.func38, Tryd.ntmps38
              go_wp2
              go_ret
              exact ⟨rfl, (by repeat (first | exact Below.refl _ _ | assumption | refine Below.drew ?_ | refine below_drewN ?_ _ | refine Below.alloc ?_ (by simp <;> omega) _))⟩
            · by_cases c7 : nth < 0
              · clear h'
                go_enter Tryd.func38, Tryd.ntmps38
                go_wp2
                go_ret
                exact ⟨rfl, (by repeat (first | exact Below.refl _ _ | assumption | refine Below.drew ?_ | refine below_drewN ?_ _ | refine Below.alloc ?_ (by simp <;> omega) _))⟩
              · have c8 : tot < nth := by omega
                clear h'
                go_enter Tryd.func38, Tryd.ntmps38
                go_wp2
                go_ret
                exact ⟨rfl, (by repeat (first | exact Below.refl _ _ | assumption | refine Below.drew ?_ | refine below_drewN ?_ _ | refine Below.alloc ?_ (by simp <;> omega) _))⟩
set_option maxRecDepth 100000 in
set_option maxHeartbeats 400000 in
/-- One row that must be (l), one that must not (m). -/
theorem evcheck_one (e : Ev) (A B L M : Option Addr) (n c p d n' c' p' d' : Nat) (l m : List V) (w : World) (hT : Tabs w) (hl : VRow w L l) (hn : n' = l.length) (hm : p' = m.length)
    (hR : ∀ W, Calls Tryd.prog 52 #[.agg (evCells e (.slice A n c) (.slice B p d))] W fun r w' => ∃ b g, r = .returned (.tuple #[.slice (some ⟨b, 0, none⟩) 1 1, .slice (some ⟨g, 0, none⟩) 1 1]) ∧ Blk w' b #[.slice L n' c'] 55 ∧ Blk w' g #[.slice M p' d'] 55 ∧ Below W.heap.size W w')
    (h : evG e = true) (hml : m.length ≤ 35184372088832) :
    Calls Tryd.prog 38 #[.agg (evCells e (.slice A n c) (.slice B p d))] w fun r w' => r = .returned (.int .i64 (okE (rowB l && decide (m.length = 0)))) ∧ Below w.heap.size w w' := by
  obtain ⟨tx, tot, nth, k, tb, bf, af⟩ := e
  obtain ⟨c1, c2, c3, c4, c5, c6, c7, c8⟩ := of_decide_eq_true h
  simp only at c1 c2 c3 c4 c5 c6 c7 c8
  subst hn hm
  simp only [evCells] at hR ⊢
  have HR := Lib.hid hR
  have HT := Lib.hid hT
  have HL := Lib.hid hl
  clear hR hT hl h
  cases hr : rowB l
  · have HB := Lib.hid hr
    clear hr
    go_enter Tryd.func38, Tryd.ntmps38
    go_wp2_with fail
    refine (HR.out _).mono ?_
    rintro r w1 ⟨b, g, rfl, hb, hg, hB1⟩
    have hC : Below w.heap.size w w1 := bt (by repeat (first | exact Below.refl _ _ | assumption | refine Below.drew ?_ | refine below_drewN ?_ _ | refine Below.alloc ?_ (by simp <;> omega) _)) hB1
    have HBb := Lib.hid hb
    have HBg := Lib.hid hg
    have cb := hb.c0
    clear hb hg hB1
    go_wp2_with fail
    refine wp_loop_rounds 2 ?_
    rw [rounds_succ]
    go_wp2_with fail
    refine (vrow_not l L c' _ (HL.out.ext hC) (HT.out.ext hC) HB.out).mono ?_
    rintro r w2 ⟨rfl, hB2⟩
    go_wp2_with fail
    go_ret
    exact ⟨rfl, bt hC hB2⟩
  · have HB := Lib.hid hr
    clear hr
    by_cases hz : m.length = 0
    · have HZ := Lib.hid hz
      have hz' : (m.length : Int) ≤ 0 := by omega
      rw [decide_eq_true hz]
      clear hz
      go_enter Tryd.func38, Tryd.ntmps38
      go_wp2_with fail
      refine (HR.out _).mono ?_
      rintro r w1 ⟨b, g, rfl, hb, hg, hB1⟩
      have hC : Below w.heap.size w w1 := bt (by repeat (first | exact Below.refl _ _ | assumption | refine Below.drew ?_ | refine below_drewN ?_ _ | refine Below.alloc ?_ (by simp <;> omega) _)) hB1
      have HBb := Lib.hid hb
      have HBg := Lib.hid hg
      have cb := hb.c0
      clear hb hg hB1
      go_wp2_with fail
      refine wp_loop_rounds 2 ?_
      rw [rounds_succ]
      go_wp2_with fail
      refine (vrow_yes l L c' _ (HL.out.ext hC) (HT.out.ext hC) HB.out).mono ?_
      rintro r w2 ⟨rfl, hB2⟩
      have cg := (HBg.out.ext hB2).c0
      have hC2 := bt hC hB2
      clear hB2 cb
      go_wp2_with fail
      rw [rounds_succ]
      go_wp2_with fail
      refine wp_loop_rounds 2 ?_
      rw [rounds_succ]
      go_wp2_with fail
      rw [rounds_succ]
      go_wp2_with fail
      go_ret
      exact ⟨rfl, hC2⟩
    · have hz' : 0 < (m.length : Int) := by omega
      rw [decide_eq_false hz]
      clear hz
      go_enter Tryd.func38, Tryd.ntmps38
      go_wp2_with fail
      refine (HR.out _).mono ?_
      rintro r w1 ⟨b, g, rfl, hb, hg, hB1⟩
      have hC : Below w.heap.size w w1 := bt (by repeat (first | exact Below.refl _ _ | assumption | refine Below.drew ?_ | refine below_drewN ?_ _ | refine Below.alloc ?_ (by simp <;> omega) _)) hB1
      have HBb := Lib.hid hb
      have HBg := Lib.hid hg
      have cb := hb.c0
      clear hb hg hB1
      go_wp2_with fail
      refine wp_loop_rounds 2 ?_
      rw [rounds_succ]
      go_wp2_with fail
      refine (vrow_yes l L c' _ (HL.out.ext hC) (HT.out.ext hC) HB.out).mono ?_
      rintro r w2 ⟨rfl, hB2⟩
      have cg := (HBg.out.ext hB2).c0
      have hC2 := bt hC hB2
      clear hB2 cb
      go_wp2_with fail
      rw [rounds_succ]
      go_wp2_with fail
      refine wp_loop_rounds 2 ?_
      rw [rounds_succ]
      go_wp2_with fail
      go_ret
      exact ⟨rfl, hC2⟩
set_option maxRecDepth 100000 in
set_option maxHeartbeats 400000 in
/-- Both rows must be. -/
theorem evcheck_two (e : Ev) (A B : Option Addr) (c d : Nat) (l m : List V) (w : World) (hT : Tabs w) (hl : VRow w A l) (hm : VRow w B m)
    (hR : ∀ W, Calls Tryd.prog 52 #[.agg (evCells e (.slice A l.length c) (.slice B m.length d))] W fun r w' => ∃ b, r = .returned (.tuple #[.slice (some ⟨b, 0, none⟩) 2 2, .slice none 0 0]) ∧ Blk w' b #[.slice A l.length c, .slice B m.length d] 55 ∧ Below W.heap.size W w')
    (h : evG e = true) :
    Calls Tryd.prog 38 #[.agg (evCells e (.slice A l.length c) (.slice B m.length d))] w fun r w' => r = .returned (.int .i64 (okE (rowB l && rowB m))) ∧ Below w.heap.size w w' := by
  obtain ⟨tx, tot, nth, k, tb, bf, af⟩ := e
  obtain ⟨c1, c2, c3, c4, c5, c6, c7, c8⟩ := of_decide_eq_true h
  simp only at c1 c2 c3 c4 c5 c6 c7 c8
  simp only [evCells] at hR ⊢
  have HR := Lib.hid hR
  have HT := Lib.hid hT
  have HL := Lib.hid hl
  have HM := Lib.hid hm
  clear hR hT hl h hm
  cases hr : rowB l
  · have HB := Lib.hid hr
    clear hr
    go_enter Tryd.func38, Tryd.ntmps38
    go_wp2_with fail
    refine (HR.out _).mono ?_
    rintro r w1 ⟨b, rfl, hb, hB1⟩
    have hC : Below w.heap.size w w1 := bt (by repeat (first | exact Below.refl _ _ | assumption | refine Below.drew ?_ | refine below_drewN ?_ _ | refine Below.alloc ?_ (by simp <;> omega) _)) hB1
    have cb := hb.d0
    clear hb hB1
    go_wp2_with fail
    refine wp_loop_rounds 3 ?_
    rw [rounds_succ]
    go_wp2_with fail
    refine (vrow_not l A c _ (HL.out.ext hC) (HT.out.ext hC) HB.out).mono ?_
    rintro r w2 ⟨rfl, hB2⟩
    go_wp2_with fail
    go_ret
    exact ⟨rfl, bt hC hB2⟩
  · have HB := Lib.hid hr
    clear hr
    cases hr : rowB m
    · have HB' := Lib.hid hr
      clear hr
      go_enter Tryd.func38, Tryd.ntmps38
      go_wp2_with fail
      refine (HR.out _).mono ?_
      rintro r w1 ⟨b, rfl, hb, hB1⟩
      have hC : Below w.heap.size w w1 := bt (by repeat (first | exact Below.refl _ _ | assumption | refine Below.drew ?_ | refine below_drewN ?_ _ | refine Below.alloc ?_ (by simp <;> omega) _)) hB1
      have HBb := Lib.hid hb
      have cb := hb.d0
      clear hb hB1
      go_wp2_with fail
      refine wp_loop_rounds 3 ?_
      rw [rounds_succ]
      go_wp2_with fail
      refine (vrow_yes l A c _ (HL.out.ext hC) (HT.out.ext hC) HB.out).mono ?_
      rintro r w2 ⟨rfl, hB2⟩
      have cg := (HBb.out.ext hB2).d1
      have hC2 := bt hC hB2
      clear hB2 cb
      go_wp2_with fail
      rw [rounds_succ]
      go_wp2_with fail
      refine (vrow_not m B d _ (HM.out.ext hC2) (HT.out.ext hC2) HB'.out).mono ?_
      rintro r w3 ⟨rfl, hB3⟩
      go_wp2_with fail
      go_ret
      exact ⟨rfl, bt hC2 hB3⟩
    · have HB' := Lib.hid hr
      clear hr
      go_enter Tryd.func38, Tryd.ntmps38
      go_wp2_with fail
      refine (HR.out _).mono ?_
      rintro r w1 ⟨b, rfl, hb, hB1⟩
      have hC : Below w.heap.size w w1 := bt (by repeat (first | exact Below.refl _ _ | assumption | refine Below.drew ?_ | refine below_drewN ?_ _ | refine Below.alloc ?_ (by simp <;> omega) _)) hB1
      have HBb := Lib.hid hb
      have cb := hb.d0
      clear hb hB1
      go_wp2_with fail
      refine wp_loop_rounds 3 ?_
      rw [rounds_succ]
      go_wp2_with fail
      refine (vrow_yes l A c _ (HL.out.ext hC) (HT.out.ext hC) HB.out).mono ?_
      rintro r w2 ⟨rfl, hB2⟩
      have cg := (HBb.out.ext hB2).d1
      have hC2 := bt hC hB2
      clear hB2 cb
      go_wp2_with fail
      rw [rounds_succ]
      go_wp2_with fail
      refine (vrow_yes m B d _ (HM.out.ext hC2) (HT.out.ext hC2) HB'.out).mono ?_
      rintro r w3 ⟨rfl, hB3⟩
      have hC3 := bt hC2 hB3
      clear hB3 cg
      go_wp2_with fail
      rw [rounds_succ]
      go_wp2_with fail
      refine wp_loop_rounds 1 ?_
      rw [rounds_succ]
      go_wp2_with fail
      go_ret
      exact ⟨rfl, hC3⟩
theorem evcheck_any (e : Ev) (A B : Option Addr) (c d : Nat) (w : World) (hT : Tabs w) (hl : VRow w A e.bf) (hm : VRow w B e.af) :
    Calls Tryd.prog 38 #[.agg (evCells e (.slice A e.bf.length c) (.slice B e.af.length d))] w fun r w' => r = .returned (.int .i64 (okE (evB e))) ∧ Below w.heap.size w w' := by
  unfold evB
  cases hg : evG e
  · exact evcheck_no e _ _ w hg
  · rw [Bool.true_and]
    unfold evR
    by_cases h1 : e.k = 1 ∨ e.k = 4
    · rw [if_pos h1]
      exact evcheck_one e A B B A _ c _ d _ d _ c e.af e.bf w hT hm rfl rfl (fun W => rows_ins e A B _ c _ d W h1) hg hl.2.1
    · rw [if_neg h1]
      by_cases h3 : e.k = 3
      · rw [if_pos h3]
        exact evcheck_one e A B A B _ c _ d _ c _ d e.bf e.af w hT hl rfl rfl (fun W => rows_del e A B _ c _ d W h3) hg hm.2.1
      · rw [if_neg h3]
        exact evcheck_two e A B c d e.bf e.af w hT hl hm (fun W => rows_upd e A B _ c _ d W h1 h3) hg
end Go.Proofs.YtkfhfegogmlchaaDoor
