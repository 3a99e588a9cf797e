/- Several texts in one: see each part's head. -/
import Derived.Test.YtjdfodmialhakaaDoorGets
import Derived.RegionTactic
import Derived.ChangeAlike
/- Numbers of two and eight bytes, as the event's package and its reference write and read them. -/
namespace Go.Proofs.YtjdfodmialhakaaDoor
open Go.RowKit

theorem conv2 (w : World) (a b : Int) (k : Nat) :
    (convert 125 9 (.slice (some ⟨w.heap.size, 0, none⟩) 2 k)).run Tryd.prog (w.alloc (.cells #[.int .u8 a, .int .u8 b] 5)) =
      .ok (.string (strOfNums [a, b])) (w.alloc (.cells #[.int .u8 a, .int .u8 b] 5)) :=
  conv_new w [a, b] 2 k rfl
theorem num2_eq (v : Nat) (hv : v < 65536) : numL 2 v = [(v : Int) % 256, (v : Int) / 256].map fun n => UInt8.ofNat n.toNat := by
  simp only [numL, List.map_cons, List.map_nil, List.cons.injEq, and_true]
  refine ⟨?_, ?_⟩ <;> congr 1 <;> omega
theorem strOf2 (v : Int) (h0 : 0 ≤ v) (h1 : v < 65536) : strOfNums [v % 256, v / 256] = ⟨(numL 2 v.toNat).toArray⟩ := by
  obtain ⟨n, rfl⟩ := Int.eq_ofNat_of_zero_le h0
  rw [Int.toNat_natCast, num2_eq n (by omega)]
  rfl
set_option maxRecDepth 100000 in
theorem wput2 (v : Int) (h0 : 0 ≤ v) (h1 : v < 65536) (w : World) :
    Calls Tryd.prog 155 #[.int .u64 v, .int .i64 2] w fun e w' => e = .returned (.tuple #[.string ⟨(numL 2 v.toNat).toArray⟩, .int .i64 0]) ∧ Below w.heap.size w w' := by
  have hmk : ∀ w : World, (Instr.makeSlice 125 (.int .i64 2) (.int .i64 2)).run Tryd.prog w = .ok (.slice (some ⟨w.heap.size, 0, none⟩) 2 2) (w.alloc (.cells #[.int .u8 0, .int .u8 0] 5)) := fun _ => by kernel_rfl
  have hcv := conv2
  have hq : v / 65536 = 0 := by omega
  generalize hM : numL 2 v.toNat = M
  have HM := Lib.hid hM
  clear hM
  go_enter Tryd.func155, Tryd.ntmps155
  go_wp2
  refine wp_loop_rounds 3 ?_
  iterate 3 (rw [rounds_succ]; go_wp2)
  go_ret2
  refine ⟨ret_tup2 ?_ rfl, (Below.refl _ _).alloc (Nat.le_refl _) _⟩
  rw [← HM.out]
  exact congrArg Value.string (strOf2 v h0 h1)
set_option maxRecDepth 100000 in
theorem evput8 (v : Int) (h0 : 0 ≤ v) (h1 : v ≤ 18446744073709551615) (w : World) :
    Calls Tryd.prog 129 #[.int .u64 v, .int .i64 8] w fun e w' => e = .returned (.string ⟨(numL 8 v.toNat).toArray⟩) ∧ Below w.heap.size w w' := by
  have HC := Lib.hid (wput8 v h0 h1)
  generalize numL 8 v.toNat = M at HC ⊢
  go_enter Tryd.func129, Tryd.ntmps129
  go_wp2_with (go_at_call 155; refine (HC.out _).mono ?_; rintro e w1 ⟨rfl, hb1⟩)
  go_ret
  exact ⟨rfl, hb1⟩
set_option maxRecDepth 100000 in
theorem evput2 (v : Int) (h0 : 0 ≤ v) (h1 : v < 65536) (w : World) :
    Calls Tryd.prog 130 #[.int .i64 v, .int .i64 2] w fun e w' => e = .returned (.string ⟨(numL 2 v.toNat).toArray⟩) ∧ Below w.heap.size w w' := by
  have HC := Lib.hid (wput2 v h0 h1)
  generalize numL 2 v.toNat = M at HC ⊢
  go_enter Tryd.func130, Tryd.ntmps130
  go_wp2_with (go_at_call 155; refine (HC.out _).mono ?_; rintro e w1 ⟨rfl, hb1⟩)
  go_ret
  exact ⟨rfl, hb1⟩
theorem or2 (a b : UInt8) : bits .or .u64 (bits .or .u64 0 (IntKind.u64.wrap (IntKind.u64.wrap (a.toNat : Int)))) (IntKind.u64.wrap (IntKind.u64.wrap (b.toNat : Int) * 256)) = ((valL [a, b] : Nat) : Int) := by
  have ha := a.toNat_lt
  have hb := b.toNat_lt
  rw [or_first _ (by omega)]
  rw [show (256 : Int) = ((256 : Nat) : Int) from rfl, or_step _ _ 8 256 rfl (by omega) (by omega) (by omega)]
  simp only [valL]
  omega
theorem list2 (s : ByteArray) (h : s.size = 2) : s.data.toList = [s[0]'(by omega), s[1]'(by omega)] := by
  obtain ⟨⟨l⟩⟩ := s
  simp only [ByteArray.size] at h
  match l, h with
  | [a, b], _ => rfl
set_option maxRecDepth 100000 in
theorem wget2 (s : ByteArray) (h : s.size = 2) (w : World) :
    Calls Tryd.prog 169 #[.string s] w fun e w' => e = .returned (.tuple #[.int .u64 (valL s.data.toList), .int .i64 0]) ∧ w = w' := by
  have h1 : 2 ≤ s.size := by omega
  have h2 : s.size ≤ 2 := by omega
  have HS := Lib.hid h
  clear h
  generalize hM : valL s.data.toList = M
  have HM := Lib.hid hM
  clear hM
  go_enter Tryd.func169, Tryd.ntmps169
  go_wp2
  refine wp_loop_rounds 3 ?_
  iterate 3 (rw [rounds_succ]; go_wp2)
  go_ret2
  refine ⟨ret_tup2 ?_ rfl, rfl⟩
  rw [← HM.out, list2 s HS.out]
  exact congrArg (Value.int .u64) (or2 _ _)
set_option maxRecDepth 100000 in
theorem refvalue2 (s : ByteArray) (h1 : 2 ≤ s.size) (h2 : s.size ≤ 2) (w : World) :
    Calls Tryd.prog 136 #[.string s] w fun e w' => e = .returned (.int .u64 (valL s.data.toList)) ∧ w = w' := by
  have hl8 := list2 s (Nat.le_antisymm h2 h1)
  have b0 := (s[0]'(by omega)).toNat_lt
  have b1 := (s[1]'(by omega)).toNat_lt
  have hs8 : (s.size : Int) - 1 = 1 := by omega
  generalize hM : valL s.data.toList = M
  have HM := Lib.hid hM
  have HL := Lib.hid hl8
  clear hM hl8
  go_enter Tryd.func136, Tryd.ntmps136
  go_wp2
  refine wp_loop_rounds 3 ?_
  iterate 3 (rw [rounds_succ]; go_wp2)
  go_ret
  refine ⟨ret_int ?_, rfl⟩
  rw [← HM.out, HL.out]
  simp only [valL]
  omega
theorem evget8 (s : ByteArray) (h : s.size = 8) (w : World) :
    Calls Tryd.prog 134 #[.string s] w fun e w' => e = .returned (.int .u64 (valL s.data.toList)) ∧ w = w' := by
  have HC := Lib.hid (wget8 s h)
  clear h
  generalize valL s.data.toList = M at HC ⊢
  go_enter Tryd.func134, Tryd.ntmps134
  go_wp2_with (go_at_call 169; refine (HC.out _).mono ?_; rintro e w1 ⟨rfl, rfl⟩)
  go_ret
  exact ⟨rfl, rfl⟩
theorem evget2 (s : ByteArray) (h : s.size = 2) (w : World) :
    Calls Tryd.prog 135 #[.string s] w fun e w' => e = .returned (.int .i64 (valL s.data.toList)) ∧ w = w' := by
  have HC := Lib.hid (wget2 s h)
  have hv := valL_lt s.data.toList
  rw [show s.data.toList.length = 2 by simpa using h] at hv
  clear h
  generalize valL s.data.toList = M at HC hv ⊢
  have hv' : (M : Int) < 65536 := by omega
  have hv0 : (0 : Int) ≤ M := by omega
  clear hv
  go_enter Tryd.func135, Tryd.ntmps135
  go_wp2_with (go_at_call 169; refine (HC.out _).mono ?_; rintro e w1 ⟨rfl, rfl⟩)
  go_ret
  exact ⟨rfl, rfl⟩
end Go.Proofs.YtjdfodmialhakaaDoor

/- Events as data: rows of rows, event.rows. -/
namespace Go.Proofs.YtjdfodmialhakaaDoor
open Go.RowKit

/-- A block that lies in memory, not frozen. -/
def Blk (w : World) (b : Nat) (cs : Array Value) (t : TypeId) : Prop := w.heap[b]? = some (.cells cs t (0, 0))
theorem Blk.lt {w : World} {b : Nat} {cs : Array Value} {t : TypeId} (h : Blk w b cs t) : b < w.heap.size := by
  rcases Nat.lt_or_ge b w.heap.size with h' | h'
  · exact h'
  · unfold Blk at h; rw [Array.getElem?_eq_none h'] at h; cases h
theorem Blk.ext {w w' : World} {b : Nat} {cs : Array Value} {t : TypeId} (h : Blk w b cs t) (hb : Below w.heap.size w w') : Blk w' b cs t := (hb.block b h.lt).trans h
theorem Blk.cell {w : World} {b : Nat} {cs : Array Value} {t : TypeId} (h : Blk w b cs t) (i : Nat) : w.cell? ⟨b, i, none⟩ = cs[i]? := cell_of_row w b i _ _ (0, 0) h
theorem Blk.new (w : World) (cs : Array Value) (t : TypeId) : Blk (w.alloc (.cells cs t)) w.heap.size cs t := heap_alloc_new w _
theorem Blk.at {w : World} {cs : Array Value} {t : TypeId} {b : Nat} (h : w.heap.size = b) : Blk (w.alloc (.cells cs t)) b cs t := by subst h; exact Blk.new _ _ _
theorem Blk.old {w : World} {b : Nat} {cs : Array Value} {t : TypeId} (h : Blk w b cs t) (o : Obj) : Blk (w.alloc o) b cs t := h.ext ((Below.refl _ _).alloc (Nat.le_refl _) _)
theorem Blk.drew {w : World} {b : Nat} {cs : Array Value} {t : TypeId} (h : Blk w b cs t) : Blk w.drew b cs t := h
theorem Blk.frozen {w : World} {b : Nat} {cs : Array Value} {t : TypeId} (h : Blk w b cs t) (i : Nat) : w.frozen? ⟨b, i, none⟩ = false := by
  unfold Blk at h
  simp [World.frozen?, h]

structure Ev where
  tx : Int
  tot : Int
  nth : Int
  k : Int
  tb : Int
  bf : List V
  af : List V
def Ev.wf (e : Ev) : Prop := (0 ≤ e.tx ∧ e.tx ≤ 18446744073709551615) ∧ (-9223372036854775808 ≤ e.tot ∧ e.tot ≤ 9223372036854775807) ∧ (-9223372036854775808 ≤ e.nth ∧ e.nth ≤ 9223372036854775807) ∧ (0 ≤ e.k ∧ e.k ≤ 255) ∧ (-9223372036854775808 ≤ e.tb ∧ e.tb ≤ 9223372036854775807)
/-- An event's seven cells, its rows at A and B. -/
def evCells (e : Ev) (A B : Value) : Array Value := #[.int .u64 e.tx, .int .i64 e.tot, .int .i64 e.nth, .int .u8 e.k, .int .i64 e.tb, A, B]

/-- What event.rows gives. -/
def RowsPost (k : Int) (A B : Value) (w : World) (e : Ending) (w' : World) : Prop :=
  Below w.heap.size w w' ∧
  if k = 1 ∨ k = 4 then ∃ b d, e = .returned (.tuple #[.slice (some ⟨b, 0, none⟩) 1 1, .slice (some ⟨d, 0, none⟩) 1 1]) ∧ Blk w' b #[B] 25 ∧ Blk w' d #[A] 25
  else if k = 3 then ∃ b d, e = .returned (.tuple #[.slice (some ⟨b, 0, none⟩) 1 1, .slice (some ⟨d, 0, none⟩) 1 1]) ∧ Blk w' b #[A] 25 ∧ Blk w' d #[B] 25
  else ∃ b, e = .returned (.tuple #[.slice (some ⟨b, 0, none⟩) 2 2, .slice none 0 0]) ∧ Blk w' b #[A, B] 25
set_option maxRecDepth 100000 in
set_option maxHeartbeats 400000 in
theorem rows_any (e : Ev) (A B : Option Addr) (n c m d : Nat) (w : World) :
    Calls Tryd.prog 128 #[.agg (evCells e (.slice A n c) (.slice B m d))] w (RowsPost e.k (.slice A n c) (.slice B m d) w) := by
  obtain ⟨tx, tot, nth, k, tb, bf, af⟩ := e
  simp only [evCells]
  by_cases h1 : k = 1 ∨ k = 4
  · rcases h1 with rfl | rfl
    all_goals
      go_enter Tryd.func128, Tryd.ntmps128
      go_wp2
      go_region
      all_goals
        go_wp2
        go_ret2
        unfold RowsPost
        rw [if_pos (by decide)]
        refine ⟨(by repeat (first | exact Below.refl _ _ | assumption | refine Below.drew ?_ | refine below_drewN ?_ _ | refine Below.alloc ?_ (by simp <;> omega) _)), ?_⟩
        exact ⟨_, _, rfl, (by repeat (first | exact Blk.at (by simp) | assumption | refine Blk.drew ?_ | refine Blk.old ?_ _)), (by repeat (first | exact Blk.at (by simp) | assumption | refine Blk.drew ?_ | refine Blk.old ?_ _))⟩
  · by_cases h3 : k = 3
    · subst h3
      clear h1
      go_enter Tryd.func128, Tryd.ntmps128
      go_wp2
      go_region
      all_goals
        go_wp2
        go_ret2
        unfold RowsPost
        rw [if_neg (by decide), if_pos rfl]
        refine ⟨(by repeat (first | exact Below.refl _ _ | assumption | refine Below.drew ?_ | refine below_drewN ?_ _ | refine Below.alloc ?_ (by simp <;> omega) _)), ?_⟩
        exact ⟨_, _, rfl, (by repeat (first | exact Blk.at (by simp) | assumption | refine Blk.drew ?_ | refine Blk.old ?_ _)), (by repeat (first | exact Blk.at (by simp) | assumption | refine Blk.drew ?_ | refine Blk.old ?_ _))⟩
    · have g1 : (k == 1) = false := by rw [beq_eq_false_iff_ne]; omega
      have g3 : (k == 3) = false := by rw [beq_eq_false_iff_ne]; exact h3
      have g4 : (k == 4) = false := by rw [beq_eq_false_iff_ne]; omega
      have H1 := Lib.hid h1
      have H3 := Lib.hid h3
      clear h1 h3
      go_enter Tryd.func128, Tryd.ntmps128
      go_wp2
      go_ret2
      unfold RowsPost
      rw [if_neg H1.out, if_neg H3.out]
      exact ⟨(by repeat (first | exact Below.refl _ _ | assumption | refine Below.drew ?_ | refine below_drewN ?_ _ | refine Below.alloc ?_ (by simp <;> omega) _)), _, rfl, (by repeat (first | exact Blk.at (by simp) | assumption | refine Blk.drew ?_ | refine Blk.old ?_ _))⟩
end Go.Proofs.YtjdfodmialhakaaDoor
