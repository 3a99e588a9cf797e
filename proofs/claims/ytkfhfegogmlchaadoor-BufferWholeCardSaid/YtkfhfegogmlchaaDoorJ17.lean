/- Several texts in one: see each part's head. -/
import Derived.Deep.RegionLawGrows
import Derived.Laws.MakeOwn
import Derived.ArgAppend
import Derived.Test.YtkfhfegogmlchaaDoorJ14
import Derived.Test.YtkfhfegogmlchaaDoorJ15
import Derived.Test.YtkfhfegogmlchaaDoorJ16
/- Several texts in one: see each part's head. -/
/- BufferNil: the beginning of a transaction is taken. -/
namespace Go.Proofs.YtkfhfegogmlchaaDoor
open Go.RowKit

/-- How an event in the map reads: as itself. -/
def RV (v : Value) : Option (DataW Value × List MemPlace) := some (.held v, [])
def MapE (w : World) (M : Nat) : Prop := w.ownsMap Tryd.prog 3 RV M 0 (.map [])
theorem MapE.ext {w w' : World} {M : Nat} (h : MapE w M) (hb : Below w.heap.size w w') : MapE w' M := own_map_below h hb
def TxB (nx : Int) (N M : Nat) : Array Value := #[.int .u64 nx, .pointer none, .slice (some ⟨N, 0, none⟩) 1 1, .map (some M)]
def kSl (B : Nat) : Known := .mem (fun v w => ∃ N, v = .slice (some ⟨N, 0, none⟩) 1 1 ∧ B ≤ N ∧ Blk w N #[.int .i64 0] 3) (fun _ _ _ ⟨N, h, l, h1⟩ hb => ⟨N, h, l, h1.ext hb⟩)
def kMap (B : Nat) : Known := .mem (fun v w => ∃ M, v = .map (some M) ∧ B ≤ M ∧ MapE w M) (fun _ _ _ ⟨M, h, l, h1⟩ hb => ⟨M, h, l, h1.ext hb⟩)
/-- A transaction's block, its row and its map, all behind block B. -/
def TxI (B : Nat) (nx : Int) (X N M : Nat) (w : World) : Prop := (B ≤ X ∧ B ≤ N ∧ B ≤ M) ∧ Blk w X (TxB nx N M) 94 ∧ Blk w N #[.int .i64 0] 3 ∧ MapE w M
theorem TxI.ext {B : Nat} {nx : Int} {X N M : Nat} {w w' : World} (h : TxI B nx X N M w) (hb : Below w.heap.size w w') : TxI B nx X N M w' := ⟨h.1, h.2.1.ext hb, h.2.2.1.ext hb, h.2.2.2.ext hb⟩
def kTx (B : Nat) (nx : Int) : Known := .mem (fun v w => ∃ N M, v = .agg (TxB nx N M) ∧ (B ≤ N ∧ B ≤ M) ∧ Blk w N #[.int .i64 0] 3 ∧ MapE w M) (fun _ _ _ ⟨N, M, h, l, h1, h2⟩ hb => ⟨N, M, h, l, h1.ext hb, h2.ext hb⟩)
def kTxP (B : Nat) (nx : Int) : Known := .mem (fun v w => ∃ X N M, v = .pointer (some ⟨X, 0, none⟩) ∧ TxI B nx X N M w) (fun _ _ _ ⟨X, N, M, h, h0⟩ hb => ⟨X, N, M, h, h0.ext hb⟩)
def kTxS (B : Nat) (nx : Int) : Known := .mem (fun v w => ∃ h X N M, v = .slice (some ⟨h, 0, none⟩) 1 1 ∧ Blk w h #[.pointer (some ⟨X, 0, none⟩)] 90 ∧ TxI B nx X N M w) (fun _ _ _ ⟨g, X, N, M, h, hg, h0⟩ hb => ⟨g, X, N, M, h, hg.ext hb, h0.ext hb⟩)
def kTxA (B : Nat) (nx : Int) : Known := .mem (fun v w => ∃ g cg base X N M, v = .slice (some ⟨g, 0, none⟩) 1 cg ∧ w.ownsRow base 90 1 (.slice (some ⟨g, 0, none⟩) 1 cg) 1 [.pointer (some ⟨X, 0, none⟩)] ∧ TxI B nx X N M w) (fun _ _ _ ⟨g, cg, base, X, N, M, h, hg, h0⟩ hb => ⟨g, cg, base, X, N, M, h, own_below hg hb, h0.ext hb⟩)
theorem info_ptx : (Tryd.prog.info? 90).map (fun i => (i.zero, i.size, i.bytes)) = some (some (.pointer none), 1, 8) := by kernel_rfl
theorem made1 : madeCells (Value.int .i64 0).cells 1 = #[.int .i64 0] := by
  apply Array.ext
  · simp [madeCells]
  · intro i h1 h2
    have : i = 0 := by simp at h2; omega
    subst this
    simp [madeCells, Value.cells]
theorem wp_append_grows {P : Program} {o : Oper} {a : Act} {w : World} {K : Act → World → Prop} {Q : Exit → Act → World → Prop}
    (hg : o.guard = none) (s x : Operand) (t : TypeId) (hop : o.op = Op.call { callee := Callee.builtin Builtin.append, args := #[s, x], argTypes := #[t, t] })
    (e : TypeId) (i : TypeInfo) (z : Value) (size bytes : Nat) (h1 : P.underlying t = some (.slice e)) (h2 : P.info? e = some i) (h3 : i.zero = some z) (h4 : i.size = size) (h5 : i.bytes = bytes) (h6 : z.cells.size = size) (h7 : 0 < size)
    (ao : Option Addr) (n cap : Nat) (olds : List Value) (hs : a.eval s = .slice ao n cap) (hnone : ao = none → n = 0 ∧ cap = 0) (hlo : olds.length = n * size) (holds : ∀ b, ao = some b → ∀ j u, olds[j]? = some u → w.cell? (b.add j) = some u)
    (ad : Addr) (m c : Nat) (news : List Value) (hx : a.eval x = .slice (some ad) m c) (hn : news.length = m * size) (hc : ∀ j u, news[j]? = some u → w.cell? (ad.add j) = some u) (h1c : ∀ u ∈ news, u.oneCell' = true)
    (hfull : cap < n + m) (b1 : n + m ≤ maxLen) (b2 : (n + m) * bytes ≤ 140737488355328)
    (hK : ∀ v' w', w'.ownsRow w.heap.size e size v' (n + m) (olds ++ news) → w.grownBy w' none → K (a.put o.dst v') w') : Oper.wp P o a w K Q := by
  have h := step_append_grows (ops := #[]) (Q := Q) (E := True) hg s x t hop e i z size bytes h1 h2 h3 h4 h5 h6 h7 ao n cap olds hs hnone hlo holds ad m c news hx hn hc h1c hfull b1 b2 hK
  rwa [if_pos (by simp [Region.wanted, hg])] at h
theorem blk_ne' {w : World} {x y : Nat} {cs ds : Array Value} {t u : TypeId} (h : Blk w x cs t) (k : Blk w y ds u) (hne : t ≠ u) : x ≠ y := by
  intro e
  subst e
  unfold Blk at h k
  rw [h] at k
  simp only [Option.some.injEq, Obj.cells.injEq] at k
  exact hne k.2.1
theorem map_put {w : World} {b M n : Nat} {cs : Array Value} {t : TypeId} {D : DataW Value} (h : (putBlk w b cs t).ownsMap Tryd.prog 3 RV M n D) (hb : b < w.heap.size) (ds : Array Value) : (putBlk w b ds t).ownsMap Tryd.prog 3 RV M n D := by
  obtain ⟨es, clock, hh, F, hs, hD⟩ := h
  have hne : M ≠ b := by
    intro e
    subst e
    have := putBlk_blk (w := w) cs t hb
    unfold Blk at this
    rw [this] at hh
    cases hh
  refine ⟨es, clock, ?_, F, hs, hD⟩
  unfold putBlk at hh ⊢
  simp only at hh ⊢
  rw [Array.getElem?_setIfInBounds_ne (Ne.symm hne)] at hh ⊢
  exact hh
/-- The buffer at B: its list, with one transaction. -/
def Bg (nx fa : Int) (B g cg base X : Nat) (w : World) : Prop := Blk w B #[.int .i64 1, .int .i64 2, .int .u64 nx, .bool true, .slice (some ⟨g, 0, none⟩) 1 cg, .int .i64 fa] 85 ∧ w.ownsRow base 90 1 (.slice (some ⟨g, 0, none⟩) 1 cg) 1 [.pointer (some ⟨X, 0, none⟩)]
def BegunP (nx : Int) (B : Nat) (w : World) (r : Ending) (w' : World) : Prop :=
  Below B w w' ∧ ∃ g cg base X N M, r = .returned (.tuple #[.bool true, .int .i64 0]) ∧ Bg nx 0 B g cg base X w' ∧ TxI B nx X N M w'
set_option maxRecDepth 100000 in
set_option maxHeartbeats 1600000 in
theorem begin_ok (B : Nat) (A C S : Option Addr) (n1 c1 n2 c2 : Nat) (nx : Int) (w : World) (hb : Blk w B #[.int .i64 1, .int .i64 2, .int .u64 nx, .bool true, .slice A 0 0, .int .i64 0] 85) :
    Calls Tryd.prog 42 #[.pointer (some ⟨B, 0, none⟩), .agg #[.int .u8 1, .int .u64 nx, .slice C n1 c1, .slice S n2 c2]] w (BegunP nx B w) := by
  obtain ⟨i1, hi1, hx0, hx1, hx2⟩ := info_parts info_ptx
  obtain ⟨i3, hi3, hy0, hy1, hy2⟩ := info_parts info_i64
  have hmm := @run_makeMap Tryd.prog
  have hms : ∀ W : World, (Instr.makeSlice 37 (.int .i64 1) (.int .i64 1)).run Tryd.prog W = .ok (.slice (some ⟨W.heap.size, 0, none⟩) 1 1) (W.alloc (.cells #[.int .i64 0] 3)) := fun W =>
    (run_makeSlice W 37 3 i3 _ Tryd.underlying37 hi3 hy0 .i64 .i64 1 1 (by decide) (by decide) (by rw [hy1]; decide) (by rw [hy2]; decide) (by decide)).trans (by rw [hy1, show (Int.toNat 1 * 1) = 1 from rfl, made1]; rfl)
  go_enter Tryd.func42, Tryd.ntmps42
  go_upto_region 1 with fail
  have h1 : Blk (w.alloc (.cells #[.int .u8 1, .int .u64 nx, .slice C n1 c1, .slice S n2 c2] 50)) w.heap.size #[.int .u8 1, .int .u64 nx, .slice C n1 c1, .slice S n2 c2] 50 := Blk.new w _ _
  have hC : Below w.heap.size w (w.alloc (.cells #[.int .u8 1, .int .u64 nx, .slice C n1 c1, .slice S n2 c2] 50)) := (by repeat (first | exact Below.refl _ _ | assumption | refine Below.drew ?_ | refine below_drewN ?_ _ | refine Below.alloc ?_ (by simp <;> omega) _))
  have HB := Lib.hid (hb.ext hC)
  have HMB := Lib.hid h1
  have HC := Lib.hid hC
  have hBl := hb.lt
  clear h1 hC hb
  generalize w.alloc (.cells #[.int .u8 1, .int .u64 nx, .slice C n1 c1, .slice S n2 c2] 50) = W0 at HB HMB HC ⊢
  have hBw := hBl
  generalize w.heap.size = mb at HMB hBl ⊢
  go_wp2_with fail
  refine (last_none B 0 A 1 2 nx 0 true W0 HB.out).mono ?_
  rintro r w1 ⟨rfl, rfl⟩
  go_upto_region 2 with fail
  go_cut [9] (fun v wx => v = .bool false ∧ Hid (Below W0.heap.size W0 wx))
  case first =>
    refine region_grow [false, false, false, false, false, false, false, false, false, true, true, true, true, true, true, true, true, true, true, true, true, true, true, true, true, true, true, true, true, true, true, true, true, true, false, false, false, false, false, false, false, false, false, false, false, false, false, false, false, false, false, false, false, false, false, false, false, false, false, false, false, false, false, false, false, false, false, false, false, false, false, false, false, false, false, false, false, false, false, false, false, false, false, false, false, false, false, false, false, false, false, false] [10, 11, 12, 13, 14, 15, 16, 17, 18, 19, 20, 21, 22, 23, 24, 25, 26, 27, 28, 29, 30, 31, 32, 33, 9] [.val (.pointer none), .val (.bool false), .val (.bool false), .val undef, .val undef, .val undef, .val undef, .val undef, .val undef, .val undef, .val undef, .val undef, .val undef, .val undef, .val undef, .val undef, .val undef, .val undef, .val undef, .val undef, .val undef, .val undef, .val undef, .val (.bool false), .val (.bool false)] [24] (by kernel_rfl) (by kernel_rfl) (by kernel_rfl) (by kernel_rfl) (by kernel_rfl) ⟨?_, ?_, ?_, ?_, ?_, ?_, ?_, ?_, ?_, ?_, ?_, ?_, ?_, ?_, ?_, ?_, ?_, ?_, ?_, ?_, ?_, ?_, ?_, ?_, ?_, trivial⟩ ?done
    case done =>
      intro x w5 hb5
      simp only [StepGoal, overlay, upd, cond_true, cond_false, List.getD_cons_zero, List.getD_cons_succ, Nat.zero_add, Nat.reduceAdd, Nat.reduceEqDiff, reduceIte]
      go_wp2_with fail
      go_meet
      exact ⟨rfl, hb5⟩
    all_goals
      intro x w5 hb5
      intro K hK
      have hB := HB.out.ext hb5
      have hM := HMB.out.ext hb5
      have b0 := hB.cell 0
      have b1 := hB.cell 1
      have b2 := hB.cell 2
      have b3 := hB.cell 3
      have b4 := hB.cell 4
      have m1 := hM.cell 1
      have lB := hB.lt
      have lM := hM.lt
      simp only [List.getElem?_toArray, List.getElem?_cons_zero, List.getElem?_cons_succ] at b0 b1 b2 b3 b4 m1
      first
        | (rw [if_neg (by exact Bool.false_ne_true)]; exact hK.out _ _ (Below.refl _ _) rfl)
        | (rw [if_pos (by rfl)]; simp only [overlay, upd, cond_true, cond_false, List.getD_cons_zero, List.getD_cons_succ, Nat.reduceEqDiff, reduceIte]
           go_simp
           first
             | exact hK.out _ _ (Below.refl _ _) rfl
             | exact hK.out _ _ (by repeat (first | exact Below.refl _ _ | assumption | refine Below.drew ?_ | refine below_drewN ?_ _ | refine Below.alloc ?_ (by simp <;> omega) _)) ⟨_, rfl, Blk.new _ _ _⟩)
  case rest =>
    obtain ⟨rfl, HW1⟩ := hcut
    rename World => w1
    have HB := Lib.hid (HB.out.ext HW1.out)
    have HMB := Lib.hid (HMB.out.ext HW1.out)
    have HC := Lib.hid (bt HC.out HW1.out)
    clear HW1
    go_upto_region 4 with fail
    go_cut [34] (fun v wx => v = .bool false ∧ Hid (Below w1.heap.size w1 wx))
    case first =>
      refine region_grow [false, false, false, false, false, false, false, false, false, false, false, false, false, false, false, false, false, false, false, false, false, false, false, false, false, false, false, false, false, false, false, false, false, false, true, true, true, true, true, true, true, true, true, true, true, true, true, true, true, true, true, true, false, false, false, false, false, false, false, false, false, false, false, false, false, false, false, false, false, false, false, false, false, false, false, false, false, false, false, false, false, false, false, false, false, false, false, false, false, false, false, false] [35, 36, 37, 38, 39, 40, 41, 42, 43, 44, 45, 46, 47, 48, 49, 50, 51, 34] [.val (.pointer none), .val (.bool true), .val (.bool true), .val (.pointer (some ⟨B, 0, none⟩)), .val (.pointer (some ⟨B, 0, none⟩)), .val (.pointer (some ⟨B, 3, none⟩)), .val (.bool true), .val (.bool true), .val (.bool true), .val (.pointer (some ⟨mb, 1, none⟩)), .val (.int .u64 nx), .val (.pointer (some ⟨B, 0, none⟩)), .val (.pointer (some ⟨B, 0, none⟩)), .val (.pointer (some ⟨B, 2, none⟩)), .val (.int .u64 nx), .val (.bool false), .val (.bool false), .val (.bool false)] [17] (by kernel_rfl) (by kernel_rfl) (by kernel_rfl) (by kernel_rfl) (by kernel_rfl) ⟨?_, ?_, ?_, ?_, ?_, ?_, ?_, ?_, ?_, ?_, ?_, ?_, ?_, ?_, ?_, ?_, ?_, ?_, trivial⟩ ?done
      case done =>
        intro x w5 hb5
        simp only [StepGoal, overlay, upd, cond_true, cond_false, List.getD_cons_zero, List.getD_cons_succ, Nat.zero_add, Nat.reduceAdd, Nat.reduceEqDiff, reduceIte]
        go_wp2_with fail
        go_meet
        exact ⟨rfl, hb5⟩
      all_goals
        intro x w5 hb5
        intro K hK
        have hB := HB.out.ext hb5
        have hM := HMB.out.ext hb5
        have b0 := hB.cell 0
        have b1 := hB.cell 1
        have b2 := hB.cell 2
        have b3 := hB.cell 3
        have b4 := hB.cell 4
        have m1 := hM.cell 1
        have lB := hB.lt
        have lM := hM.lt
        simp only [List.getElem?_toArray, List.getElem?_cons_zero, List.getElem?_cons_succ] at b0 b1 b2 b3 b4 m1
        first
          | (rw [if_neg (by exact Bool.false_ne_true)]; exact hK.out _ _ (Below.refl _ _) rfl)
          | (rw [if_pos (by rfl)]; simp only [overlay, upd, cond_true, cond_false, List.getD_cons_zero, List.getD_cons_succ, Nat.reduceEqDiff, reduceIte]
             go_simp
             first
               | exact hK.out _ _ (Below.refl _ _) rfl
               | exact hK.out _ _ (by repeat (first | exact Below.refl _ _ | assumption | refine Below.drew ?_ | refine below_drewN ?_ _ | refine Below.alloc ?_ (by simp <;> omega) _)) ⟨_, rfl, Blk.new _ _ _⟩)
    case rest =>
      obtain ⟨rfl, HW1⟩ := hcut
      rename World => w2
      have HB := Lib.hid (HB.out.ext HW1.out)
      have HMB := Lib.hid (HMB.out.ext HW1.out)
      have HC := Lib.hid (bt HC.out HW1.out)
      clear HW1
      have hB := HB.out
      have b3 := hB.cell 3
      have b4 := hB.cell 4
      have lB := hB.lt
      simp only [List.getElem?_toArray, List.getElem?_cons_zero, List.getElem?_cons_succ] at b3 b4
      clear hB
      go_upto_region 10 with fail
      clear b3 b4 lB
      refine region_last 19 _ [false, false, false, false, false, false, false, false, false, false, false, false, false, false, false, false, false, false, false, false, false, false, false, false, false, false, false, false, false, false, false, false, false, false, false, false, false, false, false, false, false, false, false, false, false, false, false, false, false, false, false, false, false, false, false, false, false, false, false, false, false, false, false, false, false, false, false, false, false, false, false, false, false, true, true, true, true, true, true, true, true, true, true, true, true, true, true, true, true, true, true, true] [73, 74, 75, 76, 77, 78, 79, 80, 81, 82, 83, 84, 85, 86, 87, 88, 89, 90, 91] [.val (.pointer (some ⟨B, 0, none⟩)), .val (.pointer (some ⟨B, 0, none⟩)), .val (.pointer (some ⟨B, 0, none⟩)), .val (.pointer (some ⟨B, 4, none⟩)), .val (.slice A 0 0), .val (.pointer (some ⟨mb, 1, none⟩)), .val (.int .u64 nx), .val (.pointer (some ⟨B, 0, none⟩)), .val (.pointer (some ⟨B, 0, none⟩)), .val (.pointer (some ⟨B, 0, none⟩)), .val (.int .i64 1), kSl B, kMap B, kTx B nx, kTxP B nx, kTxS B nx, kTxA B nx, .val (.pointer (some ⟨B, 0, none⟩)), .val (.pointer (some ⟨B, 4, none⟩))] [16, 18] (by kernel_rfl) (by kernel_rfl) rfl (by kernel_rfl) (by kernel_rfl) (by kernel_rfl) (by kernel_rfl) (by kernel_rfl) ⟨?_, ?_, ?_, ?_, ?_, ?_, ?_, ?_, ?_, ?_, ?_, ?_, ?_, ?_, ?_, ?_, ?_, ?_, ?_, trivial⟩ ?done
      case done =>
        intro x w5 hb5
        simp only [StepGoal, List.getD_cons_zero, List.getD_cons_succ]
        rintro v ⟨g, cg, base, X, N, M, rfl, hown, hlow, hX, hN, hMp⟩ K hK
        have hBk := HB.out.ext hb5
        have hBel : Below B w w5 := (bt HC.out hb5).mono (Nat.le_of_lt hBw)
        have nX := blk_ne' hX hBk (by decide)
        have nN := blk_ne' hN hBk (by decide)
        clear hb5
        obtain ⟨w6, rfl, lt⟩ := blk_put hBk
        have HO := Lib.hid (own_put hown lt (by decide) #[.int .i64 1, .int .i64 2, .int .u64 nx, .bool true, .slice (some ⟨g, 0, none⟩) 1 cg, .int .i64 0])
        have HX := Lib.hid (putBlk_old hX nX #[.int .i64 1, .int .i64 2, .int .u64 nx, .bool true, .slice (some ⟨g, 0, none⟩) 1 cg, .int .i64 0])
        have HN := Lib.hid (putBlk_old hN nN #[.int .i64 1, .int .i64 2, .int .u64 nx, .bool true, .slice (some ⟨g, 0, none⟩) 1 cg, .int .i64 0])
        have HMM := Lib.hid (map_put hMp lt #[.int .i64 1, .int .i64 2, .int .u64 nx, .bool true, .slice (some ⟨g, 0, none⟩) 1 cg, .int .i64 0])
        have HBB := Lib.hid (putBlk_belows hBel (Nat.le_refl B) #[.int .i64 1, .int .i64 2, .int .u64 nx, .bool true, .slice (some ⟨g, 0, none⟩) 1 cg, .int .i64 0])
        obtain ⟨pc, pf, pS⟩ := putBlk_facts (w := w6) 85 lt
        clear hown hX hN hMp hBel hBk nX nN
        rw [if_pos (by rfl)]; simp only [overlay, upd, cond_true, cond_false, Nat.reduceEqDiff, reduceIte]
        go_simp
        refine hK.out _ _ ?_
        go_wp2_with fail
        go_ret2
        exact ⟨HBB.out, g, cg, base, X, N, M, rfl, ⟨putBlk_blk _ _ lt, HO.out⟩, hlow, HX.out, HN.out, HMM.out⟩
      case refine_12 =>
        intro x w5 hb5
        have hB5 : B ≤ w5.heap.size := by have h1 := hb5.size; have h2 := HC.out.size; omega
        intro K hK
        rw [if_pos (by rfl)]; simp only [overlay, upd, cond_true, cond_false, List.getD_cons_zero, List.getD_cons_succ, Nat.reduceEqDiff, reduceIte]
        go_simp
        exact hK.out _ _ (by repeat (first | exact Below.refl _ _ | assumption | refine Below.drew ?_ | refine below_drewN ?_ _ | refine Below.alloc ?_ (by simp <;> omega) _)) ⟨_, rfl, hB5, Blk.new _ _ _⟩
      case refine_14 =>
        intro x w5 hb5
        rintro _ ⟨N, rfl, lN, hN⟩
        rintro _ ⟨M, rfl, lM, hMp⟩
        intro K hK
        rw [if_pos (by rfl)]; simp only [overlay, upd, cond_true, cond_false, List.getD_cons_zero, List.getD_cons_succ, Nat.reduceEqDiff, reduceIte]
        go_simp
        exact hK.out _ _ (Below.refl _ _) ⟨N, M, rfl, ⟨lN, lM⟩, hN, hMp⟩
      case refine_15 =>
        intro x w5 hb5
        have hB5 : B ≤ w5.heap.size := by have h1 := hb5.size; have h2 := HC.out.size; omega
        rintro _ ⟨N, M, rfl, ⟨lN, lM⟩, hN, hMp⟩
        unfold TxB
        intro K hK
        rw [if_pos (by rfl)]; simp only [overlay, upd, cond_true, cond_false, List.getD_cons_zero, List.getD_cons_succ, Nat.reduceEqDiff, reduceIte]
        go_simp
        exact hK.out _ _ (by repeat (first | exact Below.refl _ _ | assumption | refine Below.drew ?_ | refine below_drewN ?_ _ | refine Below.alloc ?_ (by simp <;> omega) _)) ⟨_, N, M, rfl, ⟨hB5, lN, lM⟩, Blk.new _ _ _, hN.ext (by repeat (first | exact Below.refl _ _ | assumption | refine Below.drew ?_ | refine below_drewN ?_ _ | refine Below.alloc ?_ (by simp <;> omega) _)), hMp.ext (by repeat (first | exact Below.refl _ _ | assumption | refine Below.drew ?_ | refine below_drewN ?_ _ | refine Below.alloc ?_ (by simp <;> omega) _))⟩
      case refine_16 =>
        intro x w5 hb5
        rintro _ ⟨X, N, M, rfl, hT⟩
        intro K hK
        rw [if_pos (by rfl)]; simp only [overlay, upd, cond_true, cond_false, List.getD_cons_zero, List.getD_cons_succ, Nat.reduceEqDiff, reduceIte]
        go_simp
        exact hK.out _ _ (by repeat (first | exact Below.refl _ _ | assumption | refine Below.drew ?_ | refine below_drewN ?_ _ | refine Below.alloc ?_ (by simp <;> omega) _)) ⟨_, X, N, M, rfl, Blk.new _ _ _, hT.ext (by repeat (first | exact Below.refl _ _ | assumption | refine Below.drew ?_ | refine below_drewN ?_ _ | refine Below.alloc ?_ (by simp <;> omega) _))⟩
      case refine_17 =>
        intro x w5 hb5
        rintro _ ⟨h, X, N, M, rfl, hh, hT⟩
        intro K hK
        rw [if_pos (by rfl)]; simp only [overlay, upd, cond_true, cond_false, List.getD_cons_zero, List.getD_cons_succ, Nat.reduceEqDiff, reduceIte]
        refine wp_append_grows (by rfl) (.tmp 77) (.tmp 88) 83 (by rfl) 90 i1 _ 1 8 Tryd.underlying83 hi1 hx0 hx1 hx2 rfl (by decide) A 0 0 [] (by rfl) (fun _ => ⟨rfl, rfl⟩) rfl (fun _ _ j u hu => by simp at hu) ⟨h, 0, none⟩ 1 1 [.pointer (some ⟨X, 0, none⟩)] (by rfl) rfl (cells_blk1 hh) (by simp [Value.oneCell']) (by omega) (by simp only [maxLen]; omega) (by omega) ?_
        intro v' w6 hown hg
        have hbel : Below w5.heap.size w5 w6 := (Below.refl _ _).grown hg (Nat.le_refl _) (by simp)
        obtain ⟨g, cap, hv, _, _⟩ := hown.form (by omega)
        subst hv
        simp only [List.nil_append, Nat.zero_add] at hown
        exact hK.out _ _ hbel ⟨g, _, _, X, N, M, rfl, hown, hT.ext hbel⟩
      case refine_13 =>
        intro x w5 hb5
        have hB5 : B ≤ w5.heap.size := by have h1 := hb5.size; have h2 := HC.out.size; omega
        intro K hK
        rw [if_pos (by rfl)]
        simp only [overlay, cond_true, cond_false]
        go_simp
        exact hK.out _ _ (by repeat (first | exact Below.refl _ _ | assumption | refine Below.drew ?_ | refine below_drewN ?_ _ | refine Below.alloc ?_ (by simp <;> omega) _)) ⟨_, rfl, hB5, World.ownsMap_made _ _ _ _⟩
      case refine_18 =>
        intro x w5 hb5 _ _ _ _ _ _ _ _ _ _ _ _ K hK
        rw [if_pos (by rfl)]; simp only [overlay, upd, cond_true, cond_false, List.getD_cons_zero, List.getD_cons_succ, Nat.reduceEqDiff, reduceIte]
        go_simp
        exact hK.out _ _ (Below.refl _ _) rfl
      case refine_19 =>
        intro x w5 hb5 _ _ _ _ _ _ _ _ _ _ _ _ K hK
        rw [if_pos (by rfl)]; simp only [overlay, upd, cond_true, cond_false, List.getD_cons_zero, List.getD_cons_succ, Nat.reduceEqDiff, reduceIte]
        go_simp
        exact hK.out _ _ (Below.refl _ _) rfl
      all_goals
        intro x w5 hb5
        intro K hK
        have hB := HB.out.ext hb5
        have hM := HMB.out.ext hb5
        have b0 := hB.cell 0
        have b1 := hB.cell 1
        have b2 := hB.cell 2
        have b3 := hB.cell 3
        have b4 := hB.cell 4
        have m1 := hM.cell 1
        have lB := hB.lt
        have lM := hM.lt
        simp only [List.getElem?_toArray, List.getElem?_cons_zero, List.getElem?_cons_succ] at b0 b1 b2 b3 b4 m1
        first
          | (rw [if_neg (by exact Bool.false_ne_true)]; exact hK.out _ _ (Below.refl _ _) rfl)
          | (rw [if_pos (by rfl)]; simp only [overlay, upd, cond_true, cond_false, List.getD_cons_zero, List.getD_cons_succ, Nat.reduceEqDiff, reduceIte]
             go_simp
             first
               | exact hK.out _ _ (Below.refl _ _) rfl
               | exact hK.out _ _ (by repeat (first | exact Below.refl _ _ | assumption | refine Below.drew ?_ | refine below_drewN ?_ _ | refine Below.alloc ?_ (by simp <;> omega) _)) ⟨_, rfl, Blk.new _ _ _⟩)
end Go.Proofs.YtkfhfegogmlchaaDoor

/- BufferNil: slices.Clone of one number. -/
namespace Go.Proofs.YtkfhfegogmlchaaDoor
open Go.RowKit

def CloneP (v : Value) (t : TypeId) (w : World) (r : Ending) (w' : World) : Prop :=
  Below w.heap.size w w' ∧ ∃ g cg base, r = .returned (.slice (some ⟨g, 0, none⟩) 1 cg) ∧ w'.ownsRow base t 1 (.slice (some ⟨g, 0, none⟩) 1 cg) 1 [v]
set_option maxRecDepth 100000 in
theorem clone_int (b o c : Nat) (v : Int) (w : World) (h : w.cell? ⟨b, o, none⟩ = some (.int .i64 v)) :
    Calls Tryd.prog 33 #[.slice (some ⟨b, o, none⟩) 1 c] w (CloneP (.int .i64 v) 3 w) := by
  obtain ⟨i3, hi3, hy0, hy1, hy2⟩ := info_parts info_i64
  have lb := cell_lt h
  have he : ∀ W : World, (binOp .eql 37 (.slice (some ⟨b, o, none⟩) 1 c) (.slice none 0 0)).run Tryd.prog W = .ok (.bool false) W := fun _ => rfl
  go_enter Tryd.func33, Tryd.ntmps33
  go_wp2_with (at_builtin; refine wpList_append_grows _ rfl _ _ 37 rfl 3 i3 _ 1 8 Tryd.underlying37 hi3 hy0 hy1 hy2 rfl (by decide) (some ⟨w.heap.size, 0, none⟩) 0 0 [] rfl (fun h => by cases h) rfl (fun _ _ j u hu => by simp at hu) ⟨b, o, none⟩ 1 c [.int .i64 v] rfl rfl ?k1 (by simp [Value.oneCell']) (by omega) (by simp only [maxLen]; omega) (by omega) ?_)
  case k1 =>
    intro j u hu
    match j, hu with
    | 0, hu =>
      have : u = .int .i64 v := by simpa using hu.symm
      subst this
      exact (((Below.refl w.heap.size w).alloc (Nat.le_refl _) _).cell (p := ⟨b, o, none⟩) lb).trans h
    | j + 1, hu => simp at hu
  intro v' w2 hown hg
  obtain ⟨g, cap, hv, _, _⟩ := hown.form (by omega)
  subst hv
  have HO := Lib.hid hown
  have hb2 : Below w.heap.size w w2 := ((Below.refl w.heap.size w).alloc (Nat.le_refl _) _).grown hg (by simp) (by simp)
  clear hown hg
  go_wp2_with fail
  go_ret
  exact ⟨hb2, g, _, _, rfl, HO.out⟩
set_option maxRecDepth 100000 in
theorem clone_uint (b o c : Nat) (v : Int) (w : World) (h : w.cell? ⟨b, o, none⟩ = some (.int .u64 v)) :
    Calls Tryd.prog 34 #[.slice (some ⟨b, o, none⟩) 1 c] w (CloneP (.int .u64 v) 29 w) := by
  obtain ⟨i3, hi3, hy0, hy1, hy2⟩ := info_parts info_u64
  have lb := cell_lt h
  have he : ∀ W : World, (binOp .eql 30 (.slice (some ⟨b, o, none⟩) 1 c) (.slice none 0 0)).run Tryd.prog W = .ok (.bool false) W := fun _ => rfl
  go_enter Tryd.func34, Tryd.ntmps34
  go_wp2_with (at_builtin; refine wpList_append_grows _ rfl _ _ 30 rfl 29 i3 _ 1 8 Tryd.underlying30 hi3 hy0 hy1 hy2 rfl (by decide) (some ⟨w.heap.size, 0, none⟩) 0 0 [] rfl (fun h => by cases h) rfl (fun _ _ j u hu => by simp at hu) ⟨b, o, none⟩ 1 c [.int .u64 v] rfl rfl ?k1 (by simp [Value.oneCell']) (by omega) (by simp only [maxLen]; omega) (by omega) ?_)
  case k1 =>
    intro j u hu
    match j, hu with
    | 0, hu =>
      have : u = .int .u64 v := by simpa using hu.symm
      subst this
      exact (((Below.refl w.heap.size w).alloc (Nat.le_refl _) _).cell (p := ⟨b, o, none⟩) lb).trans h
    | j + 1, hu => simp at hu
  intro v' w2 hown hg
  obtain ⟨g, cap, hv, _, _⟩ := hown.form (by omega)
  subst hv
  have HO := Lib.hid hown
  have hb2 : Below w.heap.size w w2 := ((Below.refl w.heap.size w).alloc (Nat.le_refl _) _).grown hg (by simp) (by simp)
  clear hown hg
  go_wp2_with fail
  go_ret
  exact ⟨hb2, g, _, _, rfl, HO.out⟩
theorem info_V1 : (Tryd.prog.info? 97).map (fun i => (i.zero, i.size, i.bytes)) = some (some (.agg #[.int .u8 0, .int .i64 0, .int .u64 0, .string ⟨#[]⟩]), 4, 40) := by kernel_rfl
set_option maxRecDepth 100000 in
theorem clone_none (w : World) : Calls Tryd.prog 32 #[.slice none 0 0] w fun r w' => r = .returned (.slice none 0 0) ∧ w = w' := by
  have he : ∀ W : World, (binOp .eql 55 (.slice none 0 0) (.slice none 0 0)).run Tryd.prog W = .ok (.bool true) W := fun _ => rfl
  go_enter Tryd.func32, Tryd.ntmps32
  go_wp2_with fail
  go_ret
  exact ⟨rfl, rfl⟩
def CloneV (w : World) (r : Ending) (w' : World) : Prop :=
  Below w.heap.size w w' ∧ ∃ g cg base, r = .returned (.slice (some ⟨g, 0, none⟩) 1 cg) ∧ w'.ownsRow base 97 4 (.slice (some ⟨g, 0, none⟩) 1 cg) 1 [.int .u8 0, .int .i64 0, .int .u64 0, .string ⟨#[]⟩]
set_option maxRecDepth 100000 in
theorem clone_val (b c : Nat) (w : World) (h : ∀ j u, [Value.int .u8 0, .int .i64 0, .int .u64 0, .string ⟨#[]⟩][j]? = some u → w.cell? ((⟨b, 0, none⟩ : Addr).add j) = some u) :
    Calls Tryd.prog 32 #[.slice (some ⟨b, 0, none⟩) 1 c] w (CloneV w) := by
  obtain ⟨i3, hi3, hy0, hy1, hy2⟩ := info_parts info_V1
  have lb : b < w.heap.size := cell_lt (h 0 _ rfl)
  have he : ∀ W : World, (binOp .eql 55 (.slice (some ⟨b, 0, none⟩) 1 c) (.slice none 0 0)).run Tryd.prog W = .ok (.bool false) W := fun _ => rfl
  have HH := Lib.hid h
  clear h
  go_enter Tryd.func32, Tryd.ntmps32
  go_wp2_with (at_builtin; refine wpList_append_grows _ rfl _ _ 55 rfl 97 i3 _ 4 40 Tryd.underlying55 hi3 hy0 hy1 hy2 rfl (by decide) (some ⟨w.heap.size, 0, none⟩) 0 0 [] rfl (fun h => by cases h) rfl (fun _ _ j u hu => by simp at hu) ⟨b, 0, none⟩ 1 c [.int .u8 0, .int .i64 0, .int .u64 0, .string ⟨#[]⟩] rfl rfl ?k1 (by simp [Value.oneCell']) (by omega) (by simp only [maxLen]; omega) (by omega) ?_)
  case k1 =>
    intro j u hu
    have ea : ((⟨b, 0, none⟩ : Addr).add j).block = b := by unfold Addr.add; split <;> rfl
    exact (((Below.refl w.heap.size w).alloc (Nat.le_refl _) _).cell (p := (⟨b, 0, none⟩ : Addr).add j) (by rw [ea]; exact lb)).trans (HH.out j u hu)
  intro v' w2 hown hg
  obtain ⟨g, cap, hv, _, _⟩ := hown.form (by omega)
  subst hv
  have HO := Lib.hid hown
  have hb2 : Below w.heap.size w w2 := ((Below.refl w.heap.size w).alloc (Nat.le_refl _) _).grown hg (by simp) (by simp)
  clear hown hg
  go_wp2_with fail
  go_ret
  exact ⟨hb2, g, _, _, rfl, HO.out⟩
end Go.Proofs.YtkfhfegogmlchaaDoor
