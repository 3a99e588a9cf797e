/- event.PutMark: which bytes a mark has. -/
import Derived.Test.YtjdfodmialhakaaDoorMk1
import Derived.Test.YtjdfodmialhakaaDoorEv4
namespace Go.Proofs.YtjdfodmialhakaaDoor
open Go.RowKit

theorem conv1_at (a : Int) (W : World) (b k : Nat) (h0 : W.cell? ⟨b, 0, none⟩ = some (.int .u8 a)) :
    (convert 125 9 (.slice (some ⟨b, 0, none⟩) 1 k)).run Tryd.prog W = .ok (.string (strOfNums [a])) W :=
  conv_at [a] W b 1 k rfl (fun i hi => by
    match i, hi with
    | 0, _ => exact h0)
def mkH (m : Mk) : List UInt8 := [UInt8.ofNat m.k.toNat] ++ numL 8 m.tx.toNat ++ [UInt8.ofNat m.sq.length]
def num8L (l : List Int) : List UInt8 := l.flatMap fun v => numL 8 v.toNat
def num2L (l : List Int) : List UInt8 := l.flatMap fun v => numL 2 v.toNat
/-- A mark's bytes. -/
def mkL (m : Mk) : List UInt8 := mkH m ++ num8L m.sq ++ num2L m.cs
def mkPutR (m : Mk) : Value := .tuple #[.string ⟨(if mkB m then mkL m else []).toArray⟩, .int .i64 (okE (mkB m))]
theorem num8_step {H : List UInt8} {l : List Int} {j : Nat} {v : Int} {b : ByteArray} (h : b.data.toList = H ++ num8L (l.take j)) (hj : l[j]? = some v) : (b ++ ⟨(numL 8 v.toNat).toArray⟩ : ByteArray).data.toList = H ++ num8L (l.take (j + 1)) := by
  obtain ⟨hlt, e⟩ := List.getElem?_eq_some_iff.1 hj
  rw [List.take_succ_eq_append_getElem hlt, ByteArray.data_append, e]
  simp [h, num8L]
theorem num2_step {H : List UInt8} {l : List Int} {j : Nat} {v : Int} {b : ByteArray} (h : b.data.toList = H ++ num2L (l.take j)) (hj : l[j]? = some v) : (b ++ ⟨(numL 2 v.toNat).toArray⟩ : ByteArray).data.toList = H ++ num2L (l.take (j + 1)) := by
  obtain ⟨hlt, e⟩ := List.getElem?_eq_some_iff.1 hj
  rw [List.take_succ_eq_append_getElem hlt, ByteArray.data_append, e]
  simp [h, num2L]
theorem mkhead_bytes {N8 : ByteArray} {k tx n : Int} {L : Nat} (e8 : N8 = ⟨(numL 8 tx.toNat).toArray⟩) (hn : n = L) (hL : L < 256) :
    (strOfNums [k] ++ N8 ++ strOfNums [IntKind.u8.wrap n]).data.toList = [UInt8.ofNat k.toNat] ++ numL 8 tx.toNat ++ [UInt8.ofNat L] := by
  have e : IntKind.u8.wrap n = n := by simp [IntKind.wrap, IntKind.bits, IntKind.signed]; omega
  rw [e, e8, hn]
  simp [ByteArray.data_append, strOfNums]
theorem mk4 {w : World} {b : Nat} {a0 a1 a2 a3 : Value} {t : TypeId} (h : Blk w b #[a0, a1, a2, a3] t) :
    Blk w b #[a0, a1, a2, a3] t ∧ w.cell? ⟨b, 0, none⟩ = some a0 ∧ w.cell? ⟨b, 1, none⟩ = some a1 ∧ w.cell? ⟨b, 2, none⟩ = some a2 ∧ w.cell? ⟨b, 3, none⟩ = some a3 :=
  ⟨h, h.cell 0, h.cell 1, h.cell 2, h.cell 3⟩
theorem cnt_le {l : List Int} (h : cntB l = true) {v : Int} (hv : v ∈ l) : 0 ≤ v ∧ v ≤ 200 := by
  obtain ⟨h1, h2⟩ := Bool.and_eq_true_iff.1 h
  have h1' : ∀ v ∈ l, 0 ≤ v := fun x hx => of_decide_eq_true (List.all_eq_true.1 h1 x hx)
  have h2 := of_decide_eq_true h2
  refine ⟨h1' v hv, ?_⟩
  obtain ⟨j, hj⟩ := List.mem_iff_getElem?.1 hv
  have e : l.sum = (l.take (j + 1)).sum + (l.drop (j + 1)).sum := by rw [← List.sum_append, List.take_append_drop]
  have := sum_nonneg (l := l.drop (j + 1)) (fun x hx => h1' x (List.mem_of_mem_drop hx))
  have := sum_nonneg (l := l.take j) (fun x hx => h1' x (List.mem_of_mem_take hx))
  rw [sum_at hj] at e
  omega
theorem mkB_parts {m : Mk} (h : mkB m = true) : 1 ≤ m.sq.length ∧ m.sq.length ≤ 12 ∧ m.cs.length ≤ 12 ∧ ∀ v ∈ m.cs, 0 ≤ v ∧ v ≤ 200 := by
  unfold mkB at h
  obtain ⟨h1, h2⟩ := Bool.and_eq_true_iff.1 h
  obtain ⟨h1, h1'⟩ := of_decide_eq_true h1
  refine ⟨h1, h1', ?_⟩
  by_cases hk : m.k = 1
  · rw [if_pos hk] at h2
    have h2 := of_decide_eq_true h2
    refine ⟨by omega, fun v hv => ?_⟩
    rw [List.length_eq_zero_iff.1 h2] at hv
    cases hv
  · rw [if_neg hk] at h2
    by_cases hk2 : m.k = 2
    · rw [if_pos hk2] at h2
      obtain ⟨h3, h4⟩ := Bool.and_eq_true_iff.1 h2
      have h3 := of_decide_eq_true h3
      exact ⟨by omega, fun v hv => cnt_le h4 hv⟩
    · rw [if_neg hk2] at h2; cases h2
set_option maxRecDepth 100000 in
set_option maxHeartbeats 400000 in
theorem putmark_yes (m : Mk) (C S : Option Addr) (c d : Nat) (w : World) (hw : m.wf) (hc : NRow .i64 w C m.cs) (hs : NRow .u64 w S m.sq) (hm : mkB m = true) :
    Calls Tryd.prog 65 #[.agg (mkCells m (.slice C m.cs.length c) (.slice S m.sq.length d))] w fun e w' => e = .returned (.tuple #[.string ⟨(mkL m).toArray⟩, .int .i64 0]) ∧ Below w.heap.size w w' := by
  obtain ⟨p1, p2, p3, p4⟩ := mkB_parts hm
  have HK := Lib.hid (fun (W : World) (hW : Below w.heap.size w W) => (ckmark_any m C S c d W hw (hc.ext hW) hs.1))
  rw [okE_t' hm] at HK
  obtain ⟨k, tx, cs, sq⟩ := m
  obtain ⟨_, ⟨d1, d2⟩, _, hsw⟩ := hw
  simp only [mkCells] at hc hs hsw p1 p2 p3 p4 d1 d2 HK ⊢
  have H8 := Lib.hid evput8
  have H2 := Lib.hid evput2
  have H8x := Lib.hid (evput8 tx d1 d2)
  have s8 := numL_size 8 tx.toNat
  obtain ⟨N8, hN8⟩ : ∃ q : ByteArray, q = ⟨(numL 8 tx.toNat).toArray⟩ := ⟨_, rfl⟩
  rw [← hN8] at H8x s8
  have HN8 := Lib.hid hN8
  have z8 : N8.size ≤ 8 := Nat.le_of_eq s8
  generalize hM : mkL _ = Mb
  have HM := Lib.hid hM
  clear hM
  unfold mkL mkH at HM
  simp only at HM
  have HC := Lib.hid hc
  have HS := Lib.hid hs
  have HSW := Lib.hid hsw
  have HP4 := Lib.hid p4
  have hcv := conv1_at k
  have hcv2 := conv1_at (IntKind.u8.wrap (sq.length : Int))
  have hk1 := run_cat (strOfNums [k]) N8 (by rw [strOfNums_size]; simp; omega)
  have hk2 := run_cat (strOfNums [k] ++ N8) (strOfNums [IntKind.u8.wrap (sq.length : Int)]) (by rw [ByteArray.size_append, strOfNums_size, strOfNums_size]; simp; omega)
  clear hc hs hsw p4 hm hN8 s8
  go_enter Tryd.func65, Tryd.ntmps65
  go_wp2_with fail
  refine (HK.out _ (by repeat (first | exact Below.refl _ _ | assumption | refine Below.drew ?_ | refine below_drewN ?_ _ | refine Below.alloc ?_ (by simp <;> omega) _))).mono ?_
  rintro r w1 ⟨rfl, hB1⟩
  have hBk : Blk w1 w.heap.size #[.int .u8 k, .int .u64 tx, .slice C cs.length c, .slice S sq.length d] 48 := (Blk.new w _ _).ext hB1
  have hBw : Below w.heap.size w w1 := bt (by repeat (first | exact Below.refl _ _ | assumption | refine Below.drew ?_ | refine below_drewN ?_ _ | refine Below.alloc ?_ (by simp <;> omega) _)) hB1
  obtain ⟨_, x0, x1, x2, x3⟩ := mk4 hBk
  clear hB1
  go_upto_region 4 with fail
  go_cut [5] (fun s wx => s = .string (strOfNums [k] ++ N8 ++ strOfNums [IntKind.u8.wrap (sq.length : Int)]) ∧ Below w1.heap.size w1 wx)
  case first =>
    refine region_grow [false, false, false, false, false, true, false, false, false, false, false, false, false, false, false, true, true, true, true, true, true, true, true, true, true, true, true, true, true, true, false, false, false, false, false, false, false, false, false, false, false, false, false, false, false, false, false, false, false, false, false, false, false, false, false] [15, 16, 17, 18, 19, 20, 21, 22, 23, 24, 25, 26, 27, 28, 29, 5] [.val (.pointer (some ⟨w.heap.size, 0, none⟩)), .val (.int .u8 k), .new (fun g => .slice (some ⟨g, 0, none⟩) 1 1) #[.int .u8 k] 5, .val (.string (strOfNums [k])), .val (.pointer (some ⟨w.heap.size, 1, none⟩)), .val (.int .u64 tx), .val (.string N8), .val (.string (strOfNums [k] ++ N8)), .val (.pointer (some ⟨w.heap.size, 3, none⟩)), .val (.slice S sq.length d), .val (.int .i64 sq.length), .val (.int .u8 (IntKind.u8.wrap (sq.length : Int))), .new (fun g => .slice (some ⟨g, 0, none⟩) 1 1) #[.int .u8 (IntKind.u8.wrap (sq.length : Int))] 5, .val (.string (strOfNums [IntKind.u8.wrap (sq.length : Int)])), .val (.string (strOfNums [k] ++ N8 ++ strOfNums [IntKind.u8.wrap (sq.length : Int)])), .val (.string (strOfNums [k] ++ N8 ++ strOfNums [IntKind.u8.wrap (sq.length : Int)]))] [15] (by kernel_rfl) (by kernel_rfl) (by kernel_rfl) (by kernel_rfl) (by kernel_rfl) ⟨?_, ?_, ?_, ?_, ?_, ?_, ?_, ?_, ?_, ?_, ?_, ?_, ?_, ?_, ?_, ?_, trivial⟩ ?done
    case done =>
      intro x w2 hb2
      simp only [StepGoal, overlay, upd, cond_true, cond_false, List.getD_cons_zero, List.getD_cons_succ, Nat.zero_add, Nat.reduceAdd, Nat.reduceEqDiff, reduceIte]
      go_wp2_with fail
      go_meet
      exact ⟨rfl, hb2⟩
    all_goals
      intro x w2 hb2
      (try (intro bq hq; have q0 := hq.cell 0; simp at q0))
      (try (intro bq2 hq2; have q02 := hq2.cell 0; simp at q02))
      intro K hK
      obtain ⟨_, y0, y1, y2, y3⟩ := mk4 (hBk.ext hb2)
      rw [if_pos (by rfl)]; simp only [overlay, upd, cond_true, cond_false, List.getD_cons_zero, List.getD_cons_succ, Nat.reduceEqDiff, reduceIte]
      go_simp
      first
        | exact hK.out _ _ (Below.refl _ _) rfl
        | exact hK.out _ _ (by repeat (first | exact Below.refl _ _ | assumption | refine Below.drew ?_ | refine below_drewN ?_ _ | refine Below.alloc ?_ (by simp <;> omega) _)) ⟨_, rfl, Blk.new _ _ _⟩
        | ((with_reducible refine (H8x.out _).mono ?_); rintro e wa ⟨rfl, hba⟩; go_wp2_with fail; exact hK.out _ _ hba rfl)
  case rest =>
    obtain ⟨rfl, hB2⟩ := hcut
    have hBk2 := hBk.ext hB2
    have hC2 := bt hBw hB2
    obtain ⟨_, y0, y1, y2, y3⟩ := mk4 hBk2
    have hHz : (strOfNums [k] ++ N8 ++ strOfNums [IntKind.u8.wrap (sq.length : Int)]).size ≤ 10 := by rw [ByteArray.size_append, ByteArray.size_append, strOfNums_size, strOfNums_size]; simp; omega
    have hHd := mkhead_bytes (k := k) (tx := tx) (n := sq.length) HN8.out rfl (by omega)
    have HHd := Lib.hid hHd
    generalize strOfNums [k] ++ N8 ++ strOfNums [IntKind.u8.wrap (sq.length : Int)] = HD at hHz HHd
    obtain ⟨Hd, hHdd⟩ : ∃ q, q = [UInt8.ofNat k.toNat] ++ numL 8 tx.toNat ++ [UInt8.ofNat sq.length] := ⟨_, rfl⟩
    rw [← hHdd] at HHd HM
    have HB2 := Lib.hid hBk2
    clear hB2 hBw x0 x1 x2 x3 hBk hBk2 hHd hk1 hk2 hcv hcv2 hHdd
    go_wp2_with fail
    go_loopw [5, 33] (fun s i wr => ∃ (j : Nat) (rb : ByteArray), j ≤ sq.length ∧ i = .int .i64 j ∧ s = .string rb ∧ rb.size ≤ 10 + 8 * j ∧ Hid (rb.data.toList = Hd ++ num8L (sq.take j)) ∧ Hid (Blk wr w.heap.size #[.int .u8 k, .int .u64 tx, .slice C cs.length c, .slice S sq.length d] 48) ∧ Below w.heap.size w wr) (fun _ i _ => sq.length - (intOf i).toNat)
    case atStart => exact ⟨0, HD, by omega, rfl, rfl, by omega, (by show _ = _; rw [HHd.out]; simp [num8L]), HB2, hC2⟩
    case round =>
      obtain ⟨j, rb, hj, rfl, rfl, hz, HR, HBB, hbw⟩ := hrel
      by_cases hlt : j < sq.length
      · obtain ⟨b, off, v, rfl, hb, hlk, hmem, c0⟩ := (HS.out.ext hbw).at_ hlt
        obtain ⟨v0, v1⟩ := HSW.out v hmem
        have HL := Lib.hid hlk
        have HCC := Lib.hid (H8.out v v0 v1)
        have hn8 := numL_size 8 v.toNat
        have HST := Lib.hid (num8_step HR.out hlk)
        generalize (ByteArray.mk (numL 8 v.toNat).toArray) = NV at HCC hn8 HST
        have hn8' : NV.size ≤ 8 := Nat.le_of_eq hn8
        clear hlk hmem hn8
        go_wp2_with fail
        refine (HCC.out _).mono ?_
        rintro e w2 ⟨rfl, hb2⟩
        have HB3 := Lib.hid (HBB.out.ext hb2)
        have hbw2 := bt hbw hb2
        clear hb2 HCC
        go_wp2_with fail
        go_roundw
        case rel => exact ⟨j + 1, rb ++ NV, by omega, by go_num, rfl, by rw [ByteArray.size_append]; omega, HST, HB3, hbw2⟩
        case measure => simp [intOf]; omega
      · have hj' : j = sq.length := by omega
        have HJ := Lib.hid hj'
        obtain ⟨_, y0, y1, y2, y3⟩ := mk4 HBB.out
        have HR2 : Hid (rb.data.toList = Hd ++ num8L sq) := by show _ = _; rw [HR.out, HJ.out, List.take_length]
        clear hj' HR
        go_wp2_with fail
        go_loopw [5, 45] (fun s i wr => ∃ (j : Nat) (rb : ByteArray), j ≤ cs.length ∧ i = .int .i64 j ∧ s = .string rb ∧ rb.size ≤ 106 + 2 * j ∧ Hid (rb.data.toList = Hd ++ num8L sq ++ num2L (cs.take j)) ∧ Below w.heap.size w wr) (fun _ i _ => cs.length - (intOf i).toNat)
        case atStart => exact ⟨0, rb, by omega, rfl, rfl, by omega, (by show _ = _; rw [HR2.out]; simp [num2L]), hbw⟩
        case round =>
          obtain ⟨j2, rc, hj2, rfl, rfl, hz2, HR3, hbw3⟩ := hrel
          by_cases hlt2 : j2 < cs.length
          · obtain ⟨b, off, v, rfl, hb, hlk, hmem, c0⟩ := (HC.out.ext hbw3).at_ hlt2
            obtain ⟨v0, v1⟩ := HP4.out v hmem
            have HL := Lib.hid hlk
            have HCC := Lib.hid (H2.out v v0 (by omega))
            have hn8 := numL_size 2 v.toNat
            have HST := Lib.hid (num2_step HR3.out hlk)
            generalize (ByteArray.mk (numL 2 v.toNat).toArray) = NV at HCC hn8 HST
            have hn8' : NV.size ≤ 2 := Nat.le_of_eq hn8
            clear hlk hmem hn8
            go_wp2_with fail
            refine (HCC.out _).mono ?_
            rintro e w2 ⟨rfl, hb2⟩
            have hbw2 := bt hbw3 hb2
            clear hb2 HCC
            go_wp2_with fail
            go_roundw
            case rel => exact ⟨j2 + 1, rc ++ NV, by omega, by go_num, rfl, by rw [ByteArray.size_append]; omega, HST, hbw2⟩
            case measure => simp [intOf]; omega
          · have hj3 : j2 = cs.length := by omega
            have HJ3 := Lib.hid hj3
            clear hj3
            go_wp2_with fail
            go_ret2
            refine ⟨ret_tup2 (congrArg Value.string (ba_of ?_)) rfl, hbw3⟩
            rw [← HM.out, HR3.out, HJ3.out, List.take_length]
theorem putmark_any (m : Mk) (C S : Option Addr) (c d : Nat) (w : World) (hw : m.wf) (hc : NRow .i64 w C m.cs) (hs : NRow .u64 w S m.sq) :
    Calls Tryd.prog 65 #[.agg (mkCells m (.slice C m.cs.length c) (.slice S m.sq.length d))] w fun e w' => e = .returned (mkPutR m) ∧ Below w.heap.size w w' := by
  cases hm : mkB m with
  | true =>
    have := putmark_yes m C S c d w hw hc hs hm
    unfold mkPutR
    rw [hm]
    exact this
  | false =>
    have HK := Lib.hid (fun (W : World) (hW : Below w.heap.size w W) => (ckmark_any m C S c d W hw (hc.ext hW) hs.1))
    rw [okE_f' hm] at HK
    unfold mkPutR
    rw [hm]
    clear hm hw hc hs
    obtain ⟨k, tx, cs, sq⟩ := m
    simp only [mkCells] at HK ⊢
    rw [if_neg (by decide), okE_f' rfl]
    go_enter Tryd.func65, Tryd.ntmps65
    go_wp2_with fail
    refine (HK.out _ (by repeat (first | exact Below.refl _ _ | assumption | refine Below.drew ?_ | refine below_drewN ?_ _ | refine Below.alloc ?_ (by simp <;> omega) _))).mono ?_
    rintro r w1 ⟨rfl, hB1⟩
    have hC1 : Below w.heap.size w w1 := bt (by repeat (first | exact Below.refl _ _ | assumption | refine Below.drew ?_ | refine below_drewN ?_ _ | refine Below.alloc ?_ (by simp <;> omega) _)) hB1
    clear hB1
    go_wp2_with fail
    go_ret2
    exact ⟨rfl, hC1⟩
end Go.Proofs.YtjdfodmialhakaaDoor
