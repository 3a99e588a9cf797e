/- Several texts in one: see each part's head. -/
import Derived.Deep.DeepCutAuto
import Derived.Laws.Concat
import Derived.Test.YtkfhfegogmlchaaDoorJ9
import Derived.Test.YtkfhfegogmlchaaDoorJ10
import Derived.Laws.OwnMore
/- event.Put: which bytes an event has. -/
namespace Go.Proofs.YtkfhfegogmlchaaDoor
open Go.RowKit

theorem conv_at (xs : List Int) (W : World) (b n k : Nat) (hn : xs.length = n) (h : ∀ i (_ : i < n), W.cell? ⟨b, 0 + i, none⟩ = some (.int .u8 (xs.getD i 0))) :
    (convert 27 9 (.slice (some ⟨b, 0, none⟩) n k)).run Tryd.prog W = .ok (.string (strOfNums xs)) W :=
  run_convert_bytes_arg _ 27 5 Tryd.underlying27 Tryd.underlying5 b 0 n k xs hn h 9 Tryd.underlying9
theorem conv2_at (a c : Int) (W : World) (b k : Nat) (h0 : W.cell? ⟨b, 0, none⟩ = some (.int .u8 a)) (h1 : W.cell? ⟨b, 1, none⟩ = some (.int .u8 c)) :
    (convert 27 9 (.slice (some ⟨b, 0, none⟩) 2 k)).run Tryd.prog W = .ok (.string (strOfNums [a, c])) W :=
  conv_at [a, c] W b 2 k rfl (fun i hi => by
    match i, hi with
    | 0, _ => exact h0
    | 1, _ => exact h1)
theorem run_cat (a b : ByteArray) (h : a.size + b.size ≤ 1000000) (W : World) : (Op.stringOp .add a b).run Tryd.prog W = .ok (.string (a ++ b)) W := run_string_add_sum W a b (by omega)
/-- The head of an event's bytes. -/
def evH (e : Ev) : List UInt8 := numL 8 e.tx.toNat ++ numL 2 e.tot.toNat ++ numL 2 e.nth.toNat ++ [UInt8.ofNat e.tb.toNat, UInt8.ofNat e.k.toNat]
/-- The rows that an event has. -/
def evRows (e : Ev) : List (List V) := if e.k = 1 ∨ e.k = 4 then [e.af] else if e.k = 3 then [e.bf] else [e.bf, e.af]
def evL (e : Ev) : List UInt8 := evH e ++ (evRows e).flatMap putRowL
def evPutR (e : Ev) : Value := .tuple #[.string ⟨(if evB e then evL e else []).toArray⟩, .int .i64 (okE (evB e))]
theorem numL_size (n v : Nat) : (ByteArray.mk (numL n v).toArray).size = n := by simp [ByteArray.size, numL_length]
theorem blk7 {w : World} {b : Nat} {a0 a1 a2 a3 a4 a5 a6 : Value} {t : TypeId} (h : Blk w b #[a0, a1, a2, a3, a4, a5, a6] t) :
    w.cell? ⟨b, 0, none⟩ = some a0 ∧ w.cell? ⟨b, 1, none⟩ = some a1 ∧ w.cell? ⟨b, 2, none⟩ = some a2 ∧ w.cell? ⟨b, 3, none⟩ = some a3 ∧ w.cell? ⟨b, 4, none⟩ = some a4 ∧ w.cell? ⟨b, 5, none⟩ = some a5 ∧ w.cell? ⟨b, 6, none⟩ = some a6 :=
  ⟨h.cell 0, h.cell 1, h.cell 2, h.cell 3, h.cell 4, h.cell 5, h.cell 6⟩
theorem evS {w : World} {b : Nat} {a0 a1 a2 a3 a4 a5 a6 : Value} {t : TypeId} (h : Blk w b #[a0, a1, a2, a3, a4, a5, a6] t) :
    Blk w b #[a0, a1, a2, a3, a4, a5, a6] t ∧ w.cell? ⟨b, 0, none⟩ = some a0 ∧ w.cell? ⟨b, 1, none⟩ = some a1 ∧ w.cell? ⟨b, 2, none⟩ = some a2 ∧ w.cell? ⟨b, 3, none⟩ = some a3 ∧ w.cell? ⟨b, 4, none⟩ = some a4 :=
  ⟨h, h.cell 0, h.cell 1, h.cell 2, h.cell 3, h.cell 4⟩
theorem head_bytes {N8 N2 N2' : ByteArray} {tx tot nth tb k : Int} (h1 : 0 ≤ tb ∧ tb < 256) (e8 : N8 = ⟨(numL 8 tx.toNat).toArray⟩) (e2 : N2 = ⟨(numL 2 tot.toNat).toArray⟩) (e2' : N2' = ⟨(numL 2 nth.toNat).toArray⟩) :
    (N8 ++ N2 ++ N2' ++ strOfNums [IntKind.u8.wrap tb, k]).data.toList = numL 8 tx.toNat ++ numL 2 tot.toNat ++ numL 2 nth.toNat ++ [UInt8.ofNat tb.toNat, UInt8.ofNat k.toNat] := by
  have e : IntKind.u8.wrap tb = tb := by simp [IntKind.wrap, IntKind.bits, IntKind.signed]; omega
  rw [e, e8, e2, e2']
  simp [ByteArray.data_append, strOfNums]
set_option maxRecDepth 100000 in
set_option maxHeartbeats 400000 in
theorem evput_one (e : Ev) (A B L : Option Addr) (n c p d c' : Nat) (l : List V) (w : World) (hT : Tabs w) (hl : VRow w L l)
    (hR : ∀ W, Calls Tryd.prog 52 #[.agg (evCells e (.slice A n c) (.slice B p d))] W fun r w' => ∃ b g, r = .returned (.tuple #[.slice (some ⟨b, 0, none⟩) 1 1, .slice (some ⟨g, 0, none⟩) 1 1]) ∧ Blk w' b #[.slice L l.length c'] 55 ∧ Below W.heap.size W w')
    (hC : ∀ W, Below w.heap.size w W → Calls Tryd.prog 38 #[.agg (evCells e (.slice A n c) (.slice B p d))] W fun r w' => r = .returned (.int .i64 0) ∧ Below W.heap.size W w')
    (h : evG e = true) (hw : e.wf) (hr : rowB l = true) :
    Calls Tryd.prog 48 #[.agg (evCells e (.slice A n c) (.slice B p d))] w fun r w' => r = .returned (.tuple #[.string ⟨(evH e ++ putRowL l).toArray⟩, .int .i64 0]) ∧ Below w.heap.size w w' := by
  obtain ⟨tx, tot, nth, k, tb, bf, af⟩ := e
  obtain ⟨c1, c2, c3, c4, c5, c6, c7, c8⟩ := of_decide_eq_true h
  obtain ⟨⟨d1, d2⟩, _⟩ := hw
  simp only at c1 c2 c3 c4 c5 c6 c7 c8 d1 d2
  have H8 := Lib.hid (evput8 tx d1 d2)
  have H2 := Lib.hid (evput2 tot (by omega) (by omega))
  have H2' := Lib.hid (evput2 nth (by omega) (by omega))
  have s8 := numL_size 8 tx.toNat
  have s2 := numL_size 2 tot.toNat
  have s2' := numL_size 2 nth.toNat
  generalize hH : evH _ = Hd
  have HH := Lib.hid hH
  clear hH
  unfold evH at HH
  simp only [evCells] at hR hC ⊢
  obtain ⟨N8, hN8⟩ : ∃ q : ByteArray, q = ⟨(numL 8 tx.toNat).toArray⟩ := ⟨_, rfl⟩
  obtain ⟨N2, hN2⟩ : ∃ q : ByteArray, q = ⟨(numL 2 tot.toNat).toArray⟩ := ⟨_, rfl⟩
  obtain ⟨N2', hN2'⟩ : ∃ q : ByteArray, q = ⟨(numL 2 nth.toNat).toArray⟩ := ⟨_, rfl⟩
  rw [← hN8] at H8 s8
  rw [← hN2] at H2 s2
  rw [← hN2'] at H2' s2'
  have z8 : N8.size ≤ 8 := Nat.le_of_eq s8
  have z2 : N2.size ≤ 2 := Nat.le_of_eq s2
  have z2' : N2'.size ≤ 2 := Nat.le_of_eq s2'
  have HN8 := Lib.hid hN8
  have HN2 := Lib.hid hN2
  have HN2' := Lib.hid hN2'
  have HR := Lib.hid hR
  have HC := Lib.hid hC
  have HT := Lib.hid hT
  have HL := Lib.hid hl
  have HB := Lib.hid hr
  have hcv := conv2_at (IntKind.u8.wrap tb) k
  have hk1 := run_cat N8 N2 (by omega)
  have hk2 := run_cat (N8 ++ N2) N2' (by rw [ByteArray.size_append]; omega)
  have hk3 := run_cat (N8 ++ N2 ++ N2') (strOfNums [IntKind.u8.wrap tb, k]) (by rw [ByteArray.size_append, ByteArray.size_append, strOfNums_size]; simp; omega)
  clear hR hT hl h hr hC hN8 hN2 hN2' s8 s2 s2'
  go_enter Tryd.func48, Tryd.ntmps48
  go_wp2_with fail
  refine (HC.out _ (by repeat (first | exact Below.refl _ _ | assumption | refine Below.drew ?_ | refine below_drewN ?_ _ | refine Below.alloc ?_ (by simp <;> omega) _))).mono ?_
  rintro r w1 ⟨rfl, hB1⟩
  have hBk : Blk w1 w.heap.size #[.int .u64 tx, .int .i64 tot, .int .i64 nth, .int .u8 k, .int .i64 tb, .slice A n c, .slice B p d] 59 := (Blk.new w _ _).ext hB1
  have hBw : Below w.heap.size w w1 := bt (by repeat (first | exact Below.refl _ _ | assumption | refine Below.drew ?_ | refine below_drewN ?_ _ | refine Below.alloc ?_ (by simp <;> omega) _)) hB1
  obtain ⟨_, x0, x1, x2, x3, x4⟩ := evS hBk
  clear hB1
  go_upto_region 4 with fail
  go_cut [5] (fun s wx => s = .string (N8 ++ N2 ++ N2' ++ strOfNums [IntKind.u8.wrap tb, k]) ∧ Below w1.heap.size w1 wx)
  case first =>
    refine region_grow [false, false, false, false, false, true, false, false, false, false, false, false, false, false, false, false, false, true, true, true, true, true, true, true, true, true, true, true, true, true, true, true, true, true, true, true, true, true, false, false, false, false, false, false, false, false, false, false, false, false, false, false, false, false, false, false, false, false, false] [17, 18, 19, 20, 21, 22, 23, 24, 25, 26, 27, 28, 29, 30, 31, 32, 33, 34, 35, 36, 37, 5] [.val (.pointer (some ⟨w.heap.size, 0, none⟩)), .val (.int .u64 tx), .val (.string N8), .val (.pointer (some ⟨w.heap.size, 1, none⟩)), .val (.int .i64 tot), .val (.string N2), .val (.string (N8 ++ N2)), .val (.pointer (some ⟨w.heap.size, 2, none⟩)), .val (.int .i64 nth), .val (.string N2'), .val (.string (N8 ++ N2 ++ N2')), .val (.pointer (some ⟨w.heap.size, 3, none⟩)), .val (.pointer (some ⟨w.heap.size, 4, none⟩)), .val (.int .i64 tb), .val (.int .u8 (IntKind.u8.wrap tb)), .val (.pointer (some ⟨w.heap.size, 3, none⟩)), .val (.pointer (some ⟨w.heap.size, 3, none⟩)), .val (.int .u8 k), .new (fun g => .slice (some ⟨g, 0, none⟩) 2 2) #[.int .u8 (IntKind.u8.wrap tb), .int .u8 k] 5, .val (.string (strOfNums [IntKind.u8.wrap tb, k])), .val (.string (N8 ++ N2 ++ N2' ++ strOfNums [IntKind.u8.wrap tb, k])), .val (.string (N8 ++ N2 ++ N2' ++ strOfNums [IntKind.u8.wrap tb, k]))] [21] (by kernel_rfl) (by kernel_rfl) (by kernel_rfl) (by kernel_rfl) (by kernel_rfl) ⟨?_, ?_, ?_, ?_, ?_, ?_, ?_, ?_, ?_, ?_, ?_, ?_, ?_, ?_, ?_, ?_, ?_, ?_, ?_, ?_, ?_, ?_, trivial⟩ ?done
    case done =>
      intro x w2 hb2
      simp only [StepGoal, overlay, upd, cond_true, cond_false, List.getD_cons_zero, List.getD_cons_succ, Nat.zero_add, Nat.reduceAdd, Nat.reduceEqDiff, reduceIte]
      go_wp2_with fail
      go_meet
      exact ⟨rfl, hb2⟩
    all_goals
      intro x w2 hb2
      (try (intro bq hq; have q0 := hq.cell 0; have q1 := hq.cell 1; simp at q0 q1))
      intro K hK
      obtain ⟨_, y0, y1, y2, y3, y4⟩ := evS (hBk.ext hb2)
      rw [if_pos (by rfl)]; simp only [overlay, upd, cond_true, cond_false, List.getD_cons_zero, List.getD_cons_succ, Nat.reduceEqDiff, reduceIte]
      go_simp
      first
        | exact hK.out _ _ (Below.refl _ _) rfl
        | exact hK.out _ _ (by repeat (first | exact Below.refl _ _ | assumption | refine Below.drew ?_ | refine below_drewN ?_ _ | refine Below.alloc ?_ (by simp <;> omega) _)) ⟨_, rfl, Blk.new _ _ _⟩
        | ((with_reducible refine (H8.out _).mono ?_); rintro e wa ⟨rfl, hba⟩; go_wp2_with fail; exact hK.out _ _ hba rfl)
        | ((with_reducible refine (H2.out _).mono ?_); rintro e wa ⟨rfl, hba⟩; go_wp2_with fail; exact hK.out _ _ hba rfl)
        | ((with_reducible refine (H2'.out _).mono ?_); rintro e wa ⟨rfl, hba⟩; go_wp2_with fail; exact hK.out _ _ hba rfl)
  case rest =>
    obtain ⟨rfl, hB2⟩ := hcut
    have hBk2 := hBk.ext hB2
    have hC2 := bt hBw hB2
    obtain ⟨y0, y1, y2, y3, y4, y5, y6⟩ := blk7 hBk2
    have hHz : (N8 ++ N2 ++ N2' ++ strOfNums [IntKind.u8.wrap tb, k]).size ≤ 14 := by rw [ByteArray.size_append, ByteArray.size_append, ByteArray.size_append, strOfNums_size]; simp; omega
    have hHd := head_bytes (tx := tx) (tot := tot) (nth := nth) (tb := tb) (k := k) ⟨c3, by omega⟩ HN8.out HN2.out HN2'.out
    rw [HH.out] at hHd
    have HHd := Lib.hid hHd
    generalize N8 ++ N2 ++ N2' ++ strOfNums [IntKind.u8.wrap tb, k] = HD at hHz HHd
    clear hB2 hBw x0 x1 x2 x3 x4 hBk hBk2 hHd hk1 hk2 hk3 hcv
    go_wp2_with fail
    refine (HR.out _).mono ?_
    rintro r w2 ⟨b, g, rfl, hb, hB2⟩
    have hC3 := bt hC2 hB2
    have cb := hb.c0
    clear hb hB2 hC2 y0 y1 y2 y3 y4 y5 y6
    have hPz : (ByteArray.mk (putRowL l).toArray).size ≤ 825 := by simpa [ByteArray.size] using putRowL_length HB.out
    have HPo := Lib.hid (putrow_ok l L c' _ (HL.out.ext hC3) (HT.out.ext hC3) HB.out)
    obtain ⟨Pb, hPb⟩ : ∃ q : ByteArray, q = ⟨(putRowL l).toArray⟩ := ⟨_, rfl⟩
    rw [← hPb] at hPz HPo
    have HPb := Lib.hid hPb
    clear hPb
    go_wp2_with fail
    refine wp_loop_rounds 2 ?_
    rw [rounds_succ]
    go_wp2_with fail
    refine HPo.out.mono ?_
    rintro r w3 ⟨rfl, hB3⟩
    have hC4 := bt hC3 hB3
    clear hB3 cb hC3 HPo
    go_wp2_with fail
    rw [rounds_succ]
    go_wp2_with fail
    go_ret2
    refine ⟨ret_tup2 (congrArg Value.string (ba_of ?_)) rfl, hC4⟩
    rw [ByteArray.data_append, HPb.out]
    simp [HHd.out]
set_option maxRecDepth 100000 in
set_option maxHeartbeats 400000 in
theorem evput_two (e : Ev) (A B : Option Addr) (c d : Nat) (l m : List V) (w : World) (hT : Tabs w) (hl : VRow w A l) (hlm : VRow w B m)
    (hR : ∀ W, Calls Tryd.prog 52 #[.agg (evCells e (.slice A l.length c) (.slice B m.length d))] W fun r w' => ∃ b, r = .returned (.tuple #[.slice (some ⟨b, 0, none⟩) 2 2, .slice none 0 0]) ∧ Blk w' b #[.slice A l.length c, .slice B m.length d] 55 ∧ Below W.heap.size W w')
    (hC : ∀ W, Below w.heap.size w W → Calls Tryd.prog 38 #[.agg (evCells e (.slice A l.length c) (.slice B m.length d))] W fun r w' => r = .returned (.int .i64 0) ∧ Below W.heap.size W w')
    (h : evG e = true) (hw : e.wf) (hr : rowB l = true) (hrm : rowB m = true) :
    Calls Tryd.prog 48 #[.agg (evCells e (.slice A l.length c) (.slice B m.length d))] w fun r w' => r = .returned (.tuple #[.string ⟨(evH e ++ putRowL l ++ putRowL m).toArray⟩, .int .i64 0]) ∧ Below w.heap.size w w' := by
  obtain ⟨tx, tot, nth, k, tb, bf, af⟩ := e
  obtain ⟨c1, c2, c3, c4, c5, c6, c7, c8⟩ := of_decide_eq_true h
  obtain ⟨⟨d1, d2⟩, _⟩ := hw
  simp only at c1 c2 c3 c4 c5 c6 c7 c8 d1 d2
  have H8 := Lib.hid (evput8 tx d1 d2)
  have H2 := Lib.hid (evput2 tot (by omega) (by omega))
  have H2' := Lib.hid (evput2 nth (by omega) (by omega))
  have s8 := numL_size 8 tx.toNat
  have s2 := numL_size 2 tot.toNat
  have s2' := numL_size 2 nth.toNat
  generalize hH : evH _ = Hd
  have HH := Lib.hid hH
  clear hH
  unfold evH at HH
  simp only [evCells] at hR hC ⊢
  obtain ⟨N8, hN8⟩ : ∃ q : ByteArray, q = ⟨(numL 8 tx.toNat).toArray⟩ := ⟨_, rfl⟩
  obtain ⟨N2, hN2⟩ : ∃ q : ByteArray, q = ⟨(numL 2 tot.toNat).toArray⟩ := ⟨_, rfl⟩
  obtain ⟨N2', hN2'⟩ : ∃ q : ByteArray, q = ⟨(numL 2 nth.toNat).toArray⟩ := ⟨_, rfl⟩
  rw [← hN8] at H8 s8
  rw [← hN2] at H2 s2
  rw [← hN2'] at H2' s2'
  have z8 : N8.size ≤ 8 := Nat.le_of_eq s8
  have z2 : N2.size ≤ 2 := Nat.le_of_eq s2
  have z2' : N2'.size ≤ 2 := Nat.le_of_eq s2'
  have HN8 := Lib.hid hN8
  have HN2 := Lib.hid hN2
  have HN2' := Lib.hid hN2'
  have HR := Lib.hid hR
  have HC := Lib.hid hC
  have HT := Lib.hid hT
  have HL := Lib.hid hl
  have HB := Lib.hid hr
  have HLm := Lib.hid hlm
  have HBm := Lib.hid hrm
  have hcv := conv2_at (IntKind.u8.wrap tb) k
  have hk1 := run_cat N8 N2 (by omega)
  have hk2 := run_cat (N8 ++ N2) N2' (by rw [ByteArray.size_append]; omega)
  have hk3 := run_cat (N8 ++ N2 ++ N2') (strOfNums [IntKind.u8.wrap tb, k]) (by rw [ByteArray.size_append, ByteArray.size_append, strOfNums_size]; simp; omega)
  clear hR hT hl h hr hC hlm hrm hN8 hN2 hN2' s8 s2 s2'
  go_enter Tryd.func48, Tryd.ntmps48
  go_wp2_with fail
  refine (HC.out _ (by repeat (first | exact Below.refl _ _ | assumption | refine Below.drew ?_ | refine below_drewN ?_ _ | refine Below.alloc ?_ (by simp <;> omega) _))).mono ?_
  rintro r w1 ⟨rfl, hB1⟩
  have hBk : Blk w1 w.heap.size #[.int .u64 tx, .int .i64 tot, .int .i64 nth, .int .u8 k, .int .i64 tb, .slice A l.length c, .slice B m.length d] 59 := (Blk.new w _ _).ext hB1
  have hBw : Below w.heap.size w w1 := bt (by repeat (first | exact Below.refl _ _ | assumption | refine Below.drew ?_ | refine below_drewN ?_ _ | refine Below.alloc ?_ (by simp <;> omega) _)) hB1
  obtain ⟨_, x0, x1, x2, x3, x4⟩ := evS hBk
  clear hB1
  go_upto_region 4 with fail
  go_cut [5] (fun s wx => s = .string (N8 ++ N2 ++ N2' ++ strOfNums [IntKind.u8.wrap tb, k]) ∧ Below w1.heap.size w1 wx)
  case first =>
    refine region_grow [false, false, false, false, false, true, false, false, false, false, false, false, false, false, false, false, false, true, true, true, true, true, true, true, true, true, true, true, true, true, true, true, true, true, true, true, true, true, false, false, false, false, false, false, false, false, false, false, false, false, false, false, false, false, false, false, false, false, false] [17, 18, 19, 20, 21, 22, 23, 24, 25, 26, 27, 28, 29, 30, 31, 32, 33, 34, 35, 36, 37, 5] [.val (.pointer (some ⟨w.heap.size, 0, none⟩)), .val (.int .u64 tx), .val (.string N8), .val (.pointer (some ⟨w.heap.size, 1, none⟩)), .val (.int .i64 tot), .val (.string N2), .val (.string (N8 ++ N2)), .val (.pointer (some ⟨w.heap.size, 2, none⟩)), .val (.int .i64 nth), .val (.string N2'), .val (.string (N8 ++ N2 ++ N2')), .val (.pointer (some ⟨w.heap.size, 3, none⟩)), .val (.pointer (some ⟨w.heap.size, 4, none⟩)), .val (.int .i64 tb), .val (.int .u8 (IntKind.u8.wrap tb)), .val (.pointer (some ⟨w.heap.size, 3, none⟩)), .val (.pointer (some ⟨w.heap.size, 3, none⟩)), .val (.int .u8 k), .new (fun g => .slice (some ⟨g, 0, none⟩) 2 2) #[.int .u8 (IntKind.u8.wrap tb), .int .u8 k] 5, .val (.string (strOfNums [IntKind.u8.wrap tb, k])), .val (.string (N8 ++ N2 ++ N2' ++ strOfNums [IntKind.u8.wrap tb, k])), .val (.string (N8 ++ N2 ++ N2' ++ strOfNums [IntKind.u8.wrap tb, k]))] [21] (by kernel_rfl) (by kernel_rfl) (by kernel_rfl) (by kernel_rfl) (by kernel_rfl) ⟨?_, ?_, ?_, ?_, ?_, ?_, ?_, ?_, ?_, ?_, ?_, ?_, ?_, ?_, ?_, ?_, ?_, ?_, ?_, ?_, ?_, ?_, trivial⟩ ?done
    case done =>
      intro x w2 hb2
      simp only [StepGoal, overlay, upd, cond_true, cond_false, List.getD_cons_zero, List.getD_cons_succ, Nat.zero_add, Nat.reduceAdd, Nat.reduceEqDiff, reduceIte]
      go_wp2_with fail
      go_meet
      exact ⟨rfl, hb2⟩
    all_goals
      intro x w2 hb2
      (try (intro bq hq; have q0 := hq.cell 0; have q1 := hq.cell 1; simp at q0 q1))
      intro K hK
      obtain ⟨_, y0, y1, y2, y3, y4⟩ := evS (hBk.ext hb2)
      rw [if_pos (by rfl)]; simp only [overlay, upd, cond_true, cond_false, List.getD_cons_zero, List.getD_cons_succ, Nat.reduceEqDiff, reduceIte]
      go_simp
      first
        | exact hK.out _ _ (Below.refl _ _) rfl
        | exact hK.out _ _ (by repeat (first | exact Below.refl _ _ | assumption | refine Below.drew ?_ | refine below_drewN ?_ _ | refine Below.alloc ?_ (by simp <;> omega) _)) ⟨_, rfl, Blk.new _ _ _⟩
        | ((with_reducible refine (H8.out _).mono ?_); rintro e wa ⟨rfl, hba⟩; go_wp2_with fail; exact hK.out _ _ hba rfl)
        | ((with_reducible refine (H2.out _).mono ?_); rintro e wa ⟨rfl, hba⟩; go_wp2_with fail; exact hK.out _ _ hba rfl)
        | ((with_reducible refine (H2'.out _).mono ?_); rintro e wa ⟨rfl, hba⟩; go_wp2_with fail; exact hK.out _ _ hba rfl)
  case rest =>
    obtain ⟨rfl, hB2⟩ := hcut
    have hBk2 := hBk.ext hB2
    have hC2 := bt hBw hB2
    obtain ⟨y0, y1, y2, y3, y4, y5, y6⟩ := blk7 hBk2
    have hHz : (N8 ++ N2 ++ N2' ++ strOfNums [IntKind.u8.wrap tb, k]).size ≤ 14 := by rw [ByteArray.size_append, ByteArray.size_append, ByteArray.size_append, strOfNums_size]; simp; omega
    have hHd := head_bytes (tx := tx) (tot := tot) (nth := nth) (tb := tb) (k := k) ⟨c3, by omega⟩ HN8.out HN2.out HN2'.out
    rw [HH.out] at hHd
    have HHd := Lib.hid hHd
    generalize N8 ++ N2 ++ N2' ++ strOfNums [IntKind.u8.wrap tb, k] = HD at hHz HHd
    clear hB2 hBw x0 x1 x2 x3 x4 hBk hBk2 hHd hk1 hk2 hk3 hcv
    go_wp2_with fail
    refine (HR.out _).mono ?_
    rintro r w2 ⟨b, rfl, hb, hB2⟩
    have hC3 := bt hC2 hB2
    have cb := hb.d0
    have HBb := Lib.hid hb
    clear hb hB2 hC2 y0 y1 y2 y3 y4 y5 y6
    have hPz : (ByteArray.mk (putRowL l).toArray).size ≤ 825 := by simpa [ByteArray.size] using putRowL_length HB.out
    have HPo := Lib.hid (putrow_ok l A c _ (HL.out.ext hC3) (HT.out.ext hC3) HB.out)
    obtain ⟨Pb, hPb⟩ : ∃ q : ByteArray, q = ⟨(putRowL l).toArray⟩ := ⟨_, rfl⟩
    rw [← hPb] at hPz HPo
    have HPb := Lib.hid hPb
    clear hPb
    go_wp2_with fail
    refine wp_loop_rounds 3 ?_
    rw [rounds_succ]
    go_wp2_with fail
    refine HPo.out.mono ?_
    rintro r w3 ⟨rfl, hB3⟩
    have hC4 := bt hC3 hB3
    have cb2 := (HBb.out.ext hB3).d1
    clear hB3 cb hC3 HPo
    have hPzm : (ByteArray.mk (putRowL m).toArray).size ≤ 825 := by simpa [ByteArray.size] using putRowL_length HBm.out
    have HPom := Lib.hid (putrow_ok m B d _ (HLm.out.ext hC4) (HT.out.ext hC4) HBm.out)
    obtain ⟨Pm, hPm⟩ : ∃ q : ByteArray, q = ⟨(putRowL m).toArray⟩ := ⟨_, rfl⟩
    rw [← hPm] at hPzm HPom
    have HPm := Lib.hid hPm
    clear hPm
    have hz2 : (HD ++ Pb).size ≤ 839 := by rw [ByteArray.size_append]; omega
    go_wp2_with fail
    rw [rounds_succ]
    go_wp2_with fail
    refine HPom.out.mono ?_
    rintro r w4 ⟨rfl, hB4⟩
    have hC5 := bt hC4 hB4
    clear hB4 cb2 hC4 HPom
    go_wp2_with fail
    rw [rounds_succ]
    go_wp2_with fail
    go_ret2
    refine ⟨ret_tup2 (congrArg Value.string (ba_of ?_)) rfl, hC5⟩
    rw [ByteArray.data_append, ByteArray.data_append, HPb.out, HPm.out]
    simp [HHd.out]
set_option maxRecDepth 100000 in
theorem evput_no (e : Ev) (A B : Value) (w : World)
    (hC : ∀ W, Below w.heap.size w W → Calls Tryd.prog 38 #[.agg (evCells e A B)] W fun r w' => r = .returned (.int .i64 2) ∧ Below W.heap.size W w') :
    Calls Tryd.prog 48 #[.agg (evCells e A B)] w fun r w' => r = .returned (.tuple #[.string ⟨#[]⟩, .int .i64 2]) ∧ Below w.heap.size w w' := by
  obtain ⟨tx, tot, nth, k, tb, bf, af⟩ := e
  simp only [evCells] at hC ⊢
  have HC := Lib.hid hC
  clear hC
  go_enter Tryd.func48, Tryd.ntmps48
  go_wp2_with fail
  refine (HC.out _ (by repeat (first | exact Below.refl _ _ | assumption | refine Below.drew ?_ | refine below_drewN ?_ _ | refine Below.alloc ?_ (by simp <;> omega) _))).mono ?_
  rintro r w1 ⟨rfl, hB1⟩
  have hC1 : Below w.heap.size w w1 := bt (by repeat (first | exact Below.refl _ _ | assumption | refine Below.drew ?_ | refine below_drewN ?_ _ | refine Below.alloc ?_ (by simp <;> omega) _)) hB1
  clear hB1
  go_wp2_with fail
  go_ret2
  exact ⟨rfl, hC1⟩
theorem evput_any (e : Ev) (A B : Option Addr) (c d : Nat) (w : World) (hT : Tabs w) (hw : e.wf) (hl : VRow w A e.bf) (hm : VRow w B e.af) :
    Calls Tryd.prog 48 #[.agg (evCells e (.slice A e.bf.length c) (.slice B e.af.length d))] w fun r w' => r = .returned (evPutR e) ∧ Below w.heap.size w w' := by
  have hC := fun W (hW : Below w.heap.size w W) => evcheck_any e A B c d W (hT.ext hW) (hl.ext hW) (hm.ext hW)
  unfold evPutR
  cases hb : evB e
  · rw [hb] at hC
    exact evput_no e _ _ w hC
  · rw [hb] at hC
    have hg : evG e = true := by unfold evB at hb; exact (Bool.and_eq_true_iff.1 hb).1
    have hr : evR e = true := by unfold evB at hb; exact (Bool.and_eq_true_iff.1 hb).2
    rw [if_pos rfl]
    unfold evL evRows
    unfold evR at hr
    by_cases h1 : e.k = 1 ∨ e.k = 4
    · rw [if_pos h1] at hr ⊢
      have hr := (Bool.and_eq_true_iff.1 hr).1
      refine (evput_one e A B B _ c _ d d e.af w hT hm (fun W => (rows_ins e A B _ c _ d W h1).mono fun r w' ⟨b, g, x1, x2, _, x4⟩ => ⟨b, g, x1, x2, x4⟩) hC hg hw hr).mono fun r w' ⟨x1, x2⟩ => ⟨?_, x2⟩
      rw [x1]; simp [okE]
    · rw [if_neg h1] at hr ⊢
      by_cases h3 : e.k = 3
      · rw [if_pos h3] at hr ⊢
        have hr := (Bool.and_eq_true_iff.1 hr).1
        refine (evput_one e A B A _ c _ d c e.bf w hT hl (fun W => (rows_del e A B _ c _ d W h3).mono fun r w' ⟨b, g, x1, x2, _, x4⟩ => ⟨b, g, x1, x2, x4⟩) hC hg hw hr).mono fun r w' ⟨x1, x2⟩ => ⟨?_, x2⟩
        rw [x1]; simp [okE]
      · rw [if_neg h3] at hr ⊢
        obtain ⟨hr1, hr2⟩ := Bool.and_eq_true_iff.1 hr
        refine (evput_two e A B c d e.bf e.af w hT hl hm (fun W => rows_upd e A B _ c _ d W h1 h3) hC hg hw hr1 hr2).mono fun r w' ⟨x1, x2⟩ => ⟨?_, x2⟩
        rw [x1]; simp [okE]
end Go.Proofs.YtkfhfegogmlchaaDoor

/- A block of memory told whole and turned: putBlk; rows of the call's own beside it. -/
namespace Go.Proofs.YtkfhfegogmlchaaDoor
open Go.RowKit

/-- A world with one block's cells told. -/
def putBlk (w : World) (b : Nat) (cs : Array Value) (t : TypeId) : World := { w with heap := w.heap.setIfInBounds b (.cells cs t (0, 0)) }
theorem putBlk_self {w : World} {b : Nat} {cs : Array Value} {t : TypeId} (h : Blk w b cs t) : putBlk w b cs t = w := by
  have : w.heap.setIfInBounds b (.cells cs t (0, 0)) = w.heap := by
    apply Array.ext_getElem?
    intro i
    rw [Array.getElem?_setIfInBounds]
    split
    · next e =>
      subst e
      split
      · exact h.symm
      · next hn => exact absurd h.lt hn
    · rfl
  unfold putBlk
  rw [this]
theorem putBlk_size (w : World) (b : Nat) (cs : Array Value) (t : TypeId) : (putBlk w b cs t).heap.size = w.heap.size := by simp [putBlk]
theorem putBlk_blk {w : World} {b : Nat} (cs : Array Value) (t : TypeId) (h : b < w.heap.size) : Blk (putBlk w b cs t) b cs t := by
  unfold Blk putBlk
  simp [h]
theorem putBlk_ne {w : World} {b c : Nat} {cs cs' : Array Value} {t t' : TypeId} (h : Blk w c cs' t') (hne : c ≠ b) : Blk (putBlk w b cs t) c cs' t' := by
  unfold Blk putBlk at *
  simp only
  rw [Array.getElem?_setIfInBounds_ne (Ne.symm hne)]
  exact h
theorem putBlk_below {w a : World} {B b : Nat} (cs : Array Value) (t : TypeId) (h : Below B a w) (hb : B ≤ b) : Below B a (putBlk w b cs t) := by
  refine ⟨h.os, h.tape, h.output, by rw [putBlk_size]; exact h.size, fun c hc => ?_⟩
  refine Eq.trans ?_ (h.block c hc)
  unfold putBlk
  simp only
  rw [Array.getElem?_setIfInBounds_ne (by omega)]
theorem putBlk_set {w : World} {b : Nat} (cs : Array Value) (t : TypeId) (h : b < w.heap.size) (i : Nat) (v : Value) : (putBlk w b cs t).setCell ⟨b, i, none⟩ v = putBlk w b (cs.setIfInBounds i v) t := by
  unfold putBlk World.setCell
  simp only [World.mk.injEq, and_true]
  apply Array.ext_getElem?
  intro j
  rw [Array.getElem?_modify, Array.getElem?_setIfInBounds, Array.getElem?_setIfInBounds]
  by_cases e : b = j
  · subst e
    simp [h]
  · simp [e]
theorem putBlk_facts {w : World} {b : Nat} (t : TypeId) (h : b < w.heap.size) :
    (∀ cs i, (putBlk w b cs t).cell? ⟨b, i, none⟩ = cs[i]?) ∧ (∀ cs i, (putBlk w b cs t).frozen? ⟨b, i, none⟩ = false) ∧ ∀ cs i v, (putBlk w b cs t).setCell ⟨b, i, none⟩ v = putBlk w b (cs.setIfInBounds i v) t :=
  ⟨fun cs i => (putBlk_blk cs t h).cell i, fun cs i => (putBlk_blk cs t h).frozen i, fun cs i v => putBlk_set cs t h i v⟩
theorem blk_put {w : World} {b : Nat} {cs : Array Value} {t : TypeId} (h : Blk w b cs t) : ∃ w3, w = putBlk w3 b cs t ∧ b < w3.heap.size := ⟨w, (putBlk_self h).symm, h.lt⟩
theorem putBlk_old {w : World} {b c : Nat} {cs cs' : Array Value} {t t' : TypeId} (h : Blk (putBlk w b cs t) c cs' t') (hne : c ≠ b) (ds : Array Value) : Blk (putBlk w b ds t) c cs' t' := by
  unfold Blk putBlk at *
  simp only at *
  rw [Array.getElem?_setIfInBounds_ne (Ne.symm hne)] at h ⊢
  exact h
theorem putBlk_belows {w a : World} {B b : Nat} {cs : Array Value} {t : TypeId} (h : Below B a (putBlk w b cs t)) (hb : B ≤ b) (ds : Array Value) : Below B a (putBlk w b ds t) := by
  have := putBlk_below (b := b) ds t h hb
  have e : putBlk (putBlk w b cs t) b ds t = putBlk w b ds t := by unfold putBlk; simp
  rwa [e] at this
theorem own_below {w w' : World} {base : Nat} {e : TypeId} {size n : Nat} {v : Value} {xs : List Value} (h : w.ownsRow base e size v n xs) (hb : Below w.heap.size w w') : w'.ownsRow base e size v n xs := by
  refine ⟨h.1, ?_⟩
  rcases h.2 with h0 | ⟨g, cap, cur, rfl, hbg, hh, h1, h2, h3, h4⟩
  · exact .inl h0
  · have hlt : g < w.heap.size := by
      rcases Nat.lt_or_ge g w.heap.size with hlt | hge
      · exact hlt
      · rw [Array.getElem?_eq_none hge] at hh; cases hh
    exact .inr ⟨g, cap, cur, rfl, hbg, (hb.block g hlt).trans hh, h1, h2, h3, h4⟩
theorem own_far {w : World} {b1 b2 : Nat} {e1 e2 : TypeId} {s1 s2 n1 n2 : Nat} {v1 v2 : Value} {x1 x2 : List Value} (h1 : w.ownsRow b1 e1 s1 v1 n1 x1) (h2 : w.ownsRow b2 e2 s2 v2 n2 x2) (hne : e1 ≠ e2) : v2.ownBlock = none ∨ v1.ownBlock ≠ v2.ownBlock := by
  rcases h2.2 with ⟨rfl, _⟩ | ⟨g, cap, cur, rfl, _, hh, _⟩
  · exact .inl rfl
  · exact .inr (own_ne h1 hh hne)
theorem own_first {w : World} {base : Nat} {e : TypeId} {n c : Nat} {A : Option Addr} {x : Value} {xs : List Value} (h : w.ownsRow base e 1 (.slice A n c) n (x :: xs)) :
    ∃ g, A = some ⟨g, 0, none⟩ ∧ w.cell? ⟨g, 0, none⟩ = some x ∧ ∀ y ys, xs = y :: ys → w.cell? ⟨g, 1, none⟩ = some y := by
  have hn : 0 < n := by have := h.1; simp at this; omega
  obtain ⟨g, cap, hv, _, _⟩ := h.form hn
  have hA : A = some ⟨g, 0, none⟩ := by injection hv
  subst hA
  have hc := h.cells (g := g) rfl
  refine ⟨g, rfl, hc 0 x rfl, fun y ys hy => ?_⟩
  subst hy
  exact hc 1 y rfl
theorem Blk.grown {w w' : World} {b : Nat} {cs : Array Value} {t : TypeId} {base : Nat} {e : TypeId} {sz n : Nat} {v : Value} {xs : List Value} (h : Blk w b cs t) (ho : w.ownsRow base e sz v n xs) (hne : e ≠ t) (hg : w.grownBy w' v.ownBlock) : Blk w' b cs t :=
  (hg.block b h.lt (own_ne ho h hne).symm).trans h
theorem own_form {w : World} {base : Nat} {e : TypeId} {size n : Nat} {v : Value} {xs : List Value} (h : w.ownsRow base e size v n xs) : ∃ A c, v = .slice A n c := by
  rcases h.2 with ⟨rfl, rfl⟩ | ⟨g, cap, cur, rfl, _⟩
  · exact ⟨none, 0, rfl⟩
  · exact ⟨_, _, rfl⟩
theorem cells_new1 (w : World) (a : Value) (t : TypeId) : ∀ j u, [a][j]? = some u → (w.alloc (.cells #[a] t)).cell? ((⟨w.heap.size, 0, none⟩ : Addr).add j) = some u := by
  intro j u h
  match j with
  | 0 => exact ((Blk.new w #[a] t).cell 0).trans (by simpa using h)
  | j + 1 => simp at h
theorem ne_empty {rb : ByteArray} (h : ¬ rb.size = 0) : rb.toList.isEmpty = false ∧ rb.data.toList ≠ [] := by
  have h1 : rb.data.toList ≠ [] := by
    intro h'
    apply h
    have := congrArg List.length h'
    simpa using this
  have := str_ne rb.data.toList h1
  rw [Array.toArray_toList] at this
  exact ⟨this.1, h1⟩
theorem slice_at (s : ByteArray) (i j : Nat) : (s.extract i j).data.toList = (s.data.toList.drop i).take (j - i) := by
  simp [ByteArray.data_extract]
theorem drop_str (s : ByteArray) (n : Nat) : (s.extract n s.size).data.toList = s.data.toList.drop n := by
  rw [slice_at, List.take_of_length_le (by simp)]
theorem byte_at (s : ByteArray) (i : Nat) (h : i < s.size) : s[i] = s.data.toList.getD i 0 := by
  rw [List.getD_eq_getElem?_getD, Array.getElem?_toList, Array.getElem?_eq_getElem h]
  rfl
theorem cell_lt {w : World} {g i : Nat} {v : Value} (h : w.cell? ⟨g, i, none⟩ = some v) : g < w.heap.size := by
  rcases Nat.lt_or_ge g w.heap.size with h' | h'
  · exact h'
  · simp [World.cell?, Array.getElem?_eq_none h'] at h
theorem putBlk_cell_ne {w : World} {b g : Nat} (h : g ≠ b) (cs ds : Array Value) (t : TypeId) (i : Nat) : (putBlk w b ds t).cell? ⟨g, i, none⟩ = (putBlk w b cs t).cell? ⟨g, i, none⟩ := by
  unfold putBlk World.cell?
  simp only
  rw [Array.getElem?_setIfInBounds_ne (Ne.symm h), Array.getElem?_setIfInBounds_ne (Ne.symm h)]
theorem own_blk_far {w : World} {base : Nat} {e : TypeId} {size n c g b : Nat} {xs : List Value} {cs : Array Value} {t : TypeId} (h : w.ownsRow base e size (.slice (some ⟨g, 0, none⟩) n c) n xs) (hb : Blk w b cs t) (hne : e ≠ t) : g ≠ b := by
  intro e
  exact own_ne h hb hne (by rw [e]; rfl)
def strLen : Value → Nat
  | .string b => b.size
  | _ => 0
theorem own_put {w : World} {b : Nat} {cs : Array Value} {t : TypeId} {base : Nat} {e : TypeId} {size n : Nat} {v : Value} {xs : List Value} (h3 : (putBlk w b cs t).ownsRow base e size v n xs) (hb : b < w.heap.size) (hne : e ≠ t) (ds : Array Value) : (putBlk w b ds t).ownsRow base e size v n xs := by
  have hfar := own_ne h3 (putBlk_blk cs t hb) hne
  refine ⟨h3.1, ?_⟩
  rcases h3.2 with h0 | ⟨g, cap, cur, hv, hbg, hh, h4⟩
  · exact .inl h0
  · refine .inr ⟨g, cap, cur, hv, hbg, ?_, h4⟩
    have hgb : b ≠ g := by
      intro e
      apply hfar
      rw [hv, e]
      rfl
    unfold putBlk at hh ⊢
    simp only at hh ⊢
    rw [Array.getElem?_setIfInBounds_ne hgb] at hh ⊢
    exact hh
end Go.Proofs.YtkfhfegogmlchaaDoor
