/- The reference's side of marks: MayMark, PutMark, CopyMark, SameMark. -/
import Derived.Test.YtjdfodmialhakaaDoorMk3
import Derived.Test.YtjdfodmialhakaaDoorPutBlk
import Derived.Test.YtjdfodmialhakaaDoorEr1
namespace Go.Proofs.YtjdfodmialhakaaDoor
open Go.RowKit

set_option maxRecDepth 100000 in
set_option maxHeartbeats 400000 in
theorem maymark_any (m : Mk) (C S : Option Addr) (c d : Nat) (w : World) (hw : m.wf) (hc : NRow .i64 w C m.cs) (hs : m.sq.length ≤ 17592186044416) :
    Calls Tryd.prog 67 #[.agg (mkCells m (.slice C m.cs.length c) (.slice S m.sq.length d))] w fun e w' => e = .returned (.bool (mkB m)) ∧ Below w.heap.size w w' := by
  obtain ⟨k, tx, cs, sq⟩ := m
  obtain ⟨_, _, hcw, _⟩ := hw
  generalize hM : mkB ⟨k, tx, cs, sq⟩ = M
  have HM := Lib.hid hM
  clear hM
  simp only [mkCells] at hc hs hcw ⊢
  have hcl := hc.1
  by_cases hq1 : sq.length < 1
  · have hf : M = false := by rw [← HM.out]; exact ckmark_len (by simp only; omega)
    clear HM hc hcw
    subst hf
    (go_enter Tryd.func67, Tryd.ntmps67; go_wp2; go_ret; exact ⟨rfl, (by repeat (first | exact Below.refl _ _ | assumption | refine Below.drew ?_ | refine below_drewN ?_ _ | refine Below.alloc ?_ (by simp <;> omega) _))⟩)
  · by_cases hq2 : 12 < sq.length
    · have hf : M = false := by rw [← HM.out]; exact ckmark_len (by simp only; omega)
      clear HM hc hcw
      subst hf
      (go_enter Tryd.func67, Tryd.ntmps67; go_wp2; go_ret; exact ⟨rfl, (by repeat (first | exact Below.refl _ _ | assumption | refine Below.drew ?_ | refine below_drewN ?_ _ | refine Below.alloc ?_ (by simp <;> omega) _))⟩)
    · by_cases k1 : k = 1
      · subst k1
        have hf : M = ((cs.length : Int) == 0) := by
          rw [← HM.out]
          unfold mkB
          rw [decide_eq_true (by simp only; omega), if_pos rfl, Bool.true_and, Bool.eq_iff_iff]
          simp only [decide_eq_true_eq, beq_iff_eq]
          omega
        clear HM hc hcw
        subst hf
        (go_enter Tryd.func67, Tryd.ntmps67; go_wp2; go_ret; exact ⟨rfl, (by repeat (first | exact Below.refl _ _ | assumption | refine Below.drew ?_ | refine below_drewN ?_ _ | refine Below.alloc ?_ (by simp <;> omega) _))⟩)
      · have k1' : (k == 1) = false := beq_eq_false_iff_ne.2 k1
        by_cases k2 : k = 2
        · subst k2
          clear k1 k1'
          by_cases hz : cs.length = sq.length
          · have hz1 : ((cs.length : Int) != (sq.length : Int)) = false := by simp [hz]
            have hz12 : cs.length ≤ 12 := by omega
            have HZ := Lib.hid hz
            clear hz
            have HC := Lib.hid hc
            have HCW := Lib.hid hcw
            clear hc hcw
            have HMB : Hid (M = cntB cs) := by
              show _ = _
              rw [← HM.out]
              unfold mkB
              rw [decide_eq_true (by simp only; omega), if_neg (show ¬ (2 : Int) = 1 by decide), if_pos rfl, decide_eq_true HZ.out]
              simp
            clear HM
            go_enter Tryd.func67, Tryd.ntmps67
            go_wp2
            go_loop [3, 4] (fun s i => ∃ (j : Nat) (t : Int), j ≤ cs.length ∧ i = .int .i64 j ∧ s = .int .i64 t ∧ 0 ≤ t ∧ t ≤ 200 * j ∧ Hid (t = (cs.take j).sum) ∧ Hid ((cs.take j).all (fun n => decide (0 ≤ n)) = true)) (fun _ i => cs.length - (intOf i).toNat)
            case atStart => exact ⟨0, 0, by omega, rfl, rfl, by omega, by omega, (by simp : _ = _), (by simp : _ = _)⟩
            case round =>
              obtain ⟨j, t, hj, rfl, rfl, ht0, ht1, HS, HN⟩ := hrel
              by_cases hlt : j < cs.length
              · obtain ⟨b, off, v, rfl, hb, hlk, hmem, c0⟩ := HC.out.at_ hlt
                obtain ⟨v0, v1⟩ := HCW.out v hmem
                have HL := Lib.hid hlk
                clear hlk hmem
                by_cases hv0 : v < 0
                · have hf : M = false := by rw [HMB.out]; exact cnt_neg HL.out hv0
                  clear HMB
                  subst hf
                  go_wp2
                  go_ret
                  exact ⟨rfl, (by repeat (first | exact Below.refl _ _ | assumption | refine Below.drew ?_ | refine below_drewN ?_ _ | refine Below.alloc ?_ (by simp <;> omega) _))⟩
                · by_cases hv1 : 200 < v
                  · have hf : M = false := by rw [HMB.out]; exact cnt_big HL.out (by rw [← HS.out]; omega)
                    clear HMB
                    subst hf
                    go_wp2
                    go_ret
                    exact ⟨rfl, (by repeat (first | exact Below.refl _ _ | assumption | refine Below.drew ?_ | refine below_drewN ?_ _ | refine Below.alloc ?_ (by simp <;> omega) _))⟩
                  · go_wp2
                    go_round
                    case rel => exact ⟨j + 1, t + v, by omega, by go_num, by go_num, by omega, by omega, (by show _ = _; rw [sum_at HL.out, HS.out]), nn_step HN.out HL.out (by omega)⟩
                    case measure => simp [intOf]; omega
              · have hf : M = decide (t ≤ 200) := by
                  rw [HMB.out]
                  have e : j = cs.length := by omega
                  have h1 := HN.out
                  have h2 := HS.out
                  rw [e, List.take_length] at h1 h2
                  unfold cntB
                  rw [h1, h2, Bool.true_and]
                clear HMB
                subst hf
                go_wp2
                go_ret
                exact ⟨rfl, (by repeat (first | exact Below.refl _ _ | assumption | refine Below.drew ?_ | refine below_drewN ?_ _ | refine Below.alloc ?_ (by simp <;> omega) _))⟩
          · have hf : M = false := by rw [← HM.out]; unfold mkB; simp [hz]
            have hz1 : ((cs.length : Int) != (sq.length : Int)) = true := by rw [bne_iff_ne]; omega
            clear HM hc hz hcw
            subst hf
            (go_enter Tryd.func67, Tryd.ntmps67; go_wp2; go_ret; exact ⟨rfl, (by repeat (first | exact Below.refl _ _ | assumption | refine Below.drew ?_ | refine below_drewN ?_ _ | refine Below.alloc ?_ (by simp <;> omega) _))⟩)
        · have k2' : (k != 2) = true := by rw [bne_iff_ne]; exact k2
          have hf : M = false := by rw [← HM.out]; unfold mkB; simp [k1, k2]
          clear HM hc k1 k2 hcw
          subst hf
          (go_enter Tryd.func67, Tryd.ntmps67; go_wp2; go_ret; exact ⟨rfl, (by repeat (first | exact Below.refl _ _ | assumption | refine Below.drew ?_ | refine below_drewN ?_ _ | refine Below.alloc ?_ (by simp <;> omega) _))⟩)
set_option maxRecDepth 100000 in
set_option maxHeartbeats 400000 in
theorem refputmark (m : Mk) (C S : Option Addr) (c d : Nat) (w : World) (hw : m.wf) (hc : NRow .i64 w C m.cs) (hs : NRow .u64 w S m.sq) (hm : mkB m = true) :
    Calls Tryd.prog 68 #[.agg (mkCells m (.slice C m.cs.length c) (.slice S m.sq.length d))] w fun e w' => e = .returned (.string ⟨(mkL m).toArray⟩) ∧ Below w.heap.size w w' := by
  obtain ⟨p1, p2, p3, p4⟩ := mkB_parts hm
  obtain ⟨k, tx, cs, sq⟩ := m
  obtain ⟨_, ⟨d1, d2⟩, _, hsw⟩ := hw
  simp only [mkCells] at hc hs hsw p1 p2 p3 p4 d1 d2 ⊢
  have H8 := Lib.hid refnum8
  have H2 := Lib.hid refnum2
  have H8x := Lib.hid (refnum8 tx d1 d2)
  have s8 := numL_size 8 tx.toNat
  obtain ⟨N8, hN8⟩ : ∃ q : ByteArray, q = ⟨(numL 8 tx.toNat).toArray⟩ := ⟨_, rfl⟩
  rw [← hN8] at H8x s8
  have HN8 := Lib.hid hN8
  have z8 : N8.size ≤ 8 := Nat.le_of_eq s8
  generalize hM : mkL _ = Mb
  have HM := Lib.hid hM
  clear hM
  unfold mkL mkH at HM
  simp only at HM
  have HC := Lib.hid hc
  have HS := Lib.hid hs
  have HSW := Lib.hid hsw
  have HP4 := Lib.hid p4
  have hcv := conv1_at k
  have hcv2 := conv1_at (IntKind.u8.wrap (sq.length : Int))
  have hk1 := run_cat (strOfNums [k]) N8 (by rw [strOfNums_size]; simp; omega)
  have hk2 := run_cat (strOfNums [k] ++ N8) (strOfNums [IntKind.u8.wrap (sq.length : Int)]) (by rw [ByteArray.size_append, strOfNums_size, strOfNums_size]; simp; omega)
  clear hc hs hsw p4 hm hN8 s8
  go_enter Tryd.func68, Tryd.ntmps68
  go_upto_region 1 with fail
  have hBk := Blk.new w #[.int .u8 k, .int .u64 tx, .slice C cs.length c, .slice S sq.length d] 48
  have hBw : Below w.heap.size w (w.alloc (.cells #[.int .u8 k, .int .u64 tx, .slice C cs.length c, .slice S sq.length d] 48)) := (by repeat (first | exact Below.refl _ _ | assumption | refine Below.drew ?_ | refine below_drewN ?_ _ | refine Below.alloc ?_ (by simp <;> omega) _))
  generalize w.alloc (.cells #[.int .u8 k, .int .u64 tx, .slice C cs.length c, .slice S sq.length d] 48) = w1 at hBk hBw ⊢
  go_cut [3] (fun s wx => s = .string (strOfNums [k] ++ N8 ++ strOfNums [IntKind.u8.wrap (sq.length : Int)]) ∧ Below w1.heap.size w1 wx)
  case first =>
    refine region_grow [false, false, false, true, false, false, true, true, true, true, true, true, true, true, true, true, true, true, true, true, true, false, false, false, false, false, false, false, false, false, false, false, false, false, false, false, false, false, false, false, false, false, false, false, false, false, false, false, false, false, false, false, false] [6, 7, 8, 9, 10, 11, 12, 13, 14, 15, 16, 17, 18, 19, 20, 3] [.val (.pointer (some ⟨w.heap.size, 0, none⟩)), .val (.int .u8 k), .new (fun g => .slice (some ⟨g, 0, none⟩) 1 1) #[.int .u8 k] 5, .val (.string (strOfNums [k])), .val (.pointer (some ⟨w.heap.size, 1, none⟩)), .val (.int .u64 tx), .val (.string N8), .val (.string (strOfNums [k] ++ N8)), .val (.pointer (some ⟨w.heap.size, 3, none⟩)), .val (.slice S sq.length d), .val (.int .i64 sq.length), .val (.int .u8 (IntKind.u8.wrap (sq.length : Int))), .new (fun g => .slice (some ⟨g, 0, none⟩) 1 1) #[.int .u8 (IntKind.u8.wrap (sq.length : Int))] 5, .val (.string (strOfNums [IntKind.u8.wrap (sq.length : Int)])), .val (.string (strOfNums [k] ++ N8 ++ strOfNums [IntKind.u8.wrap (sq.length : Int)])), .val (.string (strOfNums [k] ++ N8 ++ strOfNums [IntKind.u8.wrap (sq.length : Int)]))] [15] (by kernel_rfl) (by kernel_rfl) (by kernel_rfl) (by kernel_rfl) (by kernel_rfl) ⟨?_, ?_, ?_, ?_, ?_, ?_, ?_, ?_, ?_, ?_, ?_, ?_, ?_, ?_, ?_, ?_, trivial⟩ ?done
    case done =>
      intro x w2 hb2
      simp only [StepGoal, overlay, upd, cond_true, cond_false, List.getD_cons_zero, List.getD_cons_succ, Nat.zero_add, Nat.reduceAdd, Nat.reduceEqDiff, reduceIte]
      go_wp2_with fail
      go_meet
      exact ⟨rfl, hb2⟩
    all_goals
      intro x w2 hb2
      (try (intro bq hq; have q0 := hq.cell 0; simp at q0))
      (try (intro bq2 hq2; have q02 := hq2.cell 0; simp at q02))
      intro K hK
      obtain ⟨_, y0, y1, y2, y3⟩ := mk4 (hBk.ext hb2)
      rw [if_pos (by rfl)]; simp only [overlay, upd, cond_true, cond_false, List.getD_cons_zero, List.getD_cons_succ, Nat.reduceEqDiff, reduceIte]
      go_simp
      first
        | exact hK.out _ _ (Below.refl _ _) rfl
        | exact hK.out _ _ (by repeat (first | exact Below.refl _ _ | assumption | refine Below.drew ?_ | refine below_drewN ?_ _ | refine Below.alloc ?_ (by simp <;> omega) _)) ⟨_, rfl, Blk.new _ _ _⟩
        | ((with_reducible refine (H8x.out _).mono ?_); rintro e wa ⟨rfl, hba⟩; go_wp2_with fail; exact hK.out _ _ hba rfl)
  case rest =>
    obtain ⟨rfl, hB2⟩ := hcut
    have hC2 := bt hBw hB2
    have HB2 := Lib.hid (hBk.ext hB2)
    have hHz : (strOfNums [k] ++ N8 ++ strOfNums [IntKind.u8.wrap (sq.length : Int)]).size ≤ 10 := by rw [ByteArray.size_append, ByteArray.size_append, strOfNums_size, strOfNums_size]; simp; omega
    have hHd := mkhead_bytes (k := k) (tx := tx) (n := sq.length) HN8.out rfl (by omega)
    have HHd := Lib.hid hHd
    generalize strOfNums [k] ++ N8 ++ strOfNums [IntKind.u8.wrap (sq.length : Int)] = HD at hHz HHd
    obtain ⟨Hd, hHdd⟩ : ∃ q, q = [UInt8.ofNat k.toNat] ++ numL 8 tx.toNat ++ [UInt8.ofNat sq.length] := ⟨_, rfl⟩
    rw [← hHdd] at HHd HM
    clear hB2 hBw hBk hHd hk1 hk2 hcv hcv2 hHdd
    go_wp2_with fail
    go_loopw [3, 4] (fun s i wr => ∃ (j : Nat) (rb : ByteArray), j ≤ sq.length ∧ i = .int .i64 j ∧ s = .string rb ∧ rb.size ≤ 10 + 8 * j ∧ Hid (rb.data.toList = Hd ++ num8L (sq.take j)) ∧ Hid (Blk wr w.heap.size #[.int .u8 k, .int .u64 tx, .slice C cs.length c, .slice S sq.length d] 48) ∧ Below w.heap.size w wr) (fun _ i _ => sq.length - (intOf i).toNat)
    case atStart => exact ⟨0, HD, by omega, rfl, rfl, by omega, (by show _ = _; rw [HHd.out]; simp [num8L]), HB2, hC2⟩
    case round =>
      obtain ⟨j, rb, hj, rfl, rfl, hz, HR, HBB, hbw⟩ := hrel
      obtain ⟨_, y0, y1, y2, y3⟩ := mk4 HBB.out
      by_cases hlt : j < sq.length
      · obtain ⟨b, off, v, rfl, hb, hlk, hmem, c0⟩ := (HS.out.ext hbw).at_ hlt
        obtain ⟨v0, v1⟩ := HSW.out v hmem
        have HL := Lib.hid hlk
        have HCC := Lib.hid (H8.out v v0 v1)
        have hn8 := numL_size 8 v.toNat
        have HST := Lib.hid (num8_step HR.out hlk)
        generalize (ByteArray.mk (numL 8 v.toNat).toArray) = NV at HCC hn8 HST
        have hn8' : NV.size ≤ 8 := Nat.le_of_eq hn8
        clear hlk hmem hn8
        go_wp2_with fail
        refine (HCC.out _).mono ?_
        rintro e w2 ⟨rfl, hb2⟩
        have HB3 := Lib.hid (HBB.out.ext hb2)
        have hbw2 := bt hbw hb2
        clear hb2 HCC y0 y1 y2 y3
        go_wp2_with fail
        go_roundw
        case rel => exact ⟨j + 1, rb ++ NV, by omega, by go_num, rfl, by rw [ByteArray.size_append]; omega, HST, HB3, hbw2⟩
        case measure => simp [intOf]; omega
      · have hj' : j = sq.length := by omega
        have HJ := Lib.hid hj'
        have HR2 : Hid (rb.data.toList = Hd ++ num8L sq) := by show _ = _; rw [HR.out, HJ.out, List.take_length]
        clear hj' HR
        go_wp2_with fail
        clear y0 y1 y2 y3
        go_loopw [3, 5] (fun s i wr => ∃ (j : Nat) (rb : ByteArray), j ≤ cs.length ∧ i = .int .i64 j ∧ s = .string rb ∧ rb.size ≤ 106 + 2 * j ∧ Hid (rb.data.toList = Hd ++ num8L sq ++ num2L (cs.take j)) ∧ Hid (Blk wr w.heap.size #[.int .u8 k, .int .u64 tx, .slice C cs.length c, .slice S sq.length d] 48) ∧ Below w.heap.size w wr) (fun _ i _ => cs.length - (intOf i).toNat)
        case atStart => exact ⟨0, rb, by omega, rfl, rfl, by omega, (by show _ = _; rw [HR2.out]; simp [num2L]), HBB, hbw⟩
        case round =>
          clear HBB hbw
          obtain ⟨j2, rc, hj2, rfl, rfl, hz2, HR3, HBB, hbw3⟩ := hrel
          obtain ⟨_, y0, y1, y2, y3⟩ := mk4 HBB.out
          by_cases hlt2 : j2 < cs.length
          · obtain ⟨b, off, v, rfl, hb, hlk, hmem, c0⟩ := (HC.out.ext hbw3).at_ hlt2
            obtain ⟨v0, v1⟩ := HP4.out v hmem
            have HL := Lib.hid hlk
            have hu := u64_of v v0 (by omega)
            have HCC := Lib.hid (H2.out v v0 (by omega))
            have hn8 := numL_size 2 v.toNat
            have HST := Lib.hid (num2_step HR3.out hlk)
            generalize (ByteArray.mk (numL 2 v.toNat).toArray) = NV at HCC hn8 HST
            have hn8' : NV.size ≤ 2 := Nat.le_of_eq hn8
            clear hlk hmem hn8
            go_wp2_with fail
            refine (HCC.out _).mono ?_
            rintro e w2 ⟨rfl, hb2⟩
            have HB3 := Lib.hid (HBB.out.ext hb2)
            have hbw2 := bt hbw3 hb2
            clear hb2 HCC y0 y1 y2 y3 hu
            go_wp2_with fail
            go_roundw
            case rel => exact ⟨j2 + 1, rc ++ NV, by omega, by go_num, rfl, by rw [ByteArray.size_append]; omega, HST, HB3, hbw2⟩
            case measure => simp [intOf]; omega
          · have hj3 : j2 = cs.length := by omega
            have HJ3 := Lib.hid hj3
            clear hj3
            go_wp2_with fail
            go_ret
            refine ⟨ret_str (ba_of ?_), hbw3⟩
            rw [← HM.out, HR3.out, HJ3.out, List.take_length]
theorem run_append_nil (P : Program) (w : World) (base : Nat) (t ty e : TypeId) (i : TypeInfo) (size : Nat) (ht : P.underlying t = some (.slice e)) (hi : P.info? e = some i)
    (v : Value) (n : Nat) (xs : List Value) (hown : w.ownsRow base e size v n xs) (c : Nat) : (Builtin.append_ #[t, t] ty #[v, .slice none 0 c]).run P w = .ok v w := by
  rcases hown.2 with ⟨rfl, rfl⟩ | ⟨g, cap, cur, rfl, _, _, hnc, _⟩
  · simp [Builtin.append_, run_underlying ht, sizeOf, typeInfo, hi, Builtin.lenOf, Builtin.firstCells]
  · simp [Builtin.append_, run_underlying ht, sizeOf, typeInfo, hi, Builtin.lenOf, Builtin.firstCells, hnc, storeCells]
/-- append of a slice that may be nil. -/
theorem wpList_append_opt {P : Program} (w : World) {ops : Array Oper} {rest : List Oper} {o : Oper} {a : Act} {Q : Exit → Act → World → Prop} (hgd : o.guard = none) (s x : Operand) (t : TypeId)
    (ho : o.op = .call { callee := .builtin .append, args := #[s, x], argTypes := #[t, t] })
    (base : Nat) (e : TypeId) (i : TypeInfo) (z : Value) (size bytes : Nat) (ht : P.underlying t = some (.slice e)) (hi : P.info? e = some i) (hz : i.zero = some z)
    (hsize : i.size = size) (hby : i.bytes = bytes) (hzs : z.cells.size = size) (hsz : 0 < size)
    (v : Value) (n : Nat) (xs : List Value) (hs : a.eval s = v) (hown : w.ownsRow base e size v n xs)
    (A : Option Addr) (m c : Nat) (news : List Value) (hx : a.eval x = .slice A m c) (hl : news.length = m * size) (hn0 : A = none → m = 0) (hnews : ∀ ad, A = some ad → ∀ j u, news[j]? = some u → w.cell? (ad.add j) = some u) (h1 : ∀ u ∈ news, u.oneCell' = true)
    (h63 : n + m ≤ maxLen) (hbytes : (n + m) * bytes ≤ 140737488355328) (hbase : base ≤ w.heap.size)
    (h : ∀ v' w', w'.ownsRow base e size v' (n + m) (xs ++ news) → w.grownBy w' v.ownBlock → wpList P ops Q rest (a.put o.dst v') w') : wpList P ops Q (o :: rest) a w := by
  cases A with
  | some ad => exact wpList_append_own w hgd s x t ho base e i z size bytes ht hi hz hsize hby hzs hsz v n xs hs hown ad m c news hx hl (hnews ad rfl) h1 h63 hbytes hbase (fun v' w' h2 h3 _ => h v' w' h2 h3)
  | none =>
    have hm := hn0 rfl
    subst hm
    have hn : news = [] := List.eq_nil_of_length_eq_zero (by simpa using hl)
    subst hn
    refine wpList_plain hgd fun K hK => ?_
    have hrun := run_append_nil P w base t o.type e i size ht hi v n xs hown c
    unfold Oper.wp execOp
    simp only [ho, resolve, invoke, builtin, Sem.run_bind, Sem.run_pure, Result.andThen_ok, List.map_toArray, List.map_cons, List.map_nil, hs, hx, hrun]
    exact hK _ _ (h v w (by simpa using hown) (World.grownBy.refl w _))
theorem NRow.none_ {k : IntKind} {w : World} {l : List Int} (h : NRow k w none l) : l.length = 0 := by
  rcases l with _ | ⟨v, l⟩
  · rfl
  · obtain ⟨b, off, h, _⟩ := h.2 (by simp)
    cases h
theorem NRow.cells_ {k : IntKind} {w : World} {A : Option Addr} {l : List Int} (h : NRow k w A l) : ∀ ad, A = some ad → ∀ j u, (l.map (Value.int k))[j]? = some u → w.cell? (ad.add j) = some u := by
  rintro ad rfl j u hu
  rw [List.getElem?_map] at hu
  cases hj : l[j]? with
  | none => rw [hj] at hu; cases hu
  | some v =>
    rw [hj] at hu
    simp only [Option.map_some, Option.some.injEq] at hu
    subst hu
    have hne : l ≠ [] := by rintro rfl; simp at hj
    obtain ⟨b, off, e, _, hc⟩ := h.2 hne
    injection e with e
    subst e
    have ea : (⟨b, off, none⟩ : Addr).add j = ⟨b, off + j, none⟩ := by
      unfold Addr.add; split
      · next h0 => subst h0; rfl
      · rfl
    rw [ea]
    exact hc j v hj
theorem nums_one (k : IntKind) (l : List Int) : ∀ u ∈ l.map (Value.int k), u.oneCell' = true := by
  intro u hu
  obtain ⟨v, _, rfl⟩ := List.mem_map.1 hu
  rfl
def MCopyPost (m : Mk) (w : World) (r : Ending) (w' : World) : Prop :=
  ∃ C c S d, r = .returned (.agg (mkCells m (.slice C m.cs.length c) (.slice S m.sq.length d))) ∧ NRow .i64 w' C m.cs ∧ NRow .u64 w' S m.sq ∧ Below w.heap.size w w'
set_option maxRecDepth 100000 in
set_option maxHeartbeats 400000 in
theorem copymark_any (m : Mk) (C S : Option Addr) (c d : Nat) (w : World) (hc : NRow .i64 w C m.cs) (hs : NRow .u64 w S m.sq) :
    Calls Tryd.prog 63 #[.agg (mkCells m (.slice C m.cs.length c) (.slice S m.sq.length d))] w (MCopyPost m w) := by
  obtain ⟨k, tx, cs, sq⟩ := m
  simp only [mkCells] at hc hs ⊢
  have l1 := hc.1
  have l2 := hs.1
  have HC := Lib.hid hc
  have HS := Lib.hid hs
  obtain ⟨i0, hi0, hz0, hz1, hz2⟩ := info_parts info_u64
  obtain ⟨i3, hi3, hy0, hy1, hy2⟩ := info_parts info_i64
  clear hc hs
  go_enter Tryd.func63, Tryd.ntmps63
  go_upto_region 1 with fail
  have hP : Blk ((w.alloc (.cells #[.int .u8 k, .int .u64 tx, .slice C cs.length c, .slice S sq.length d] 48)).alloc (.cells #[.int .u8 0, .int .u64 0, .slice none 0 0, .slice none 0 0] 48)) w.heap.size #[.int .u8 k, .int .u64 tx, .slice C cs.length c, .slice S sq.length d] 48 := (by repeat (first | exact Blk.at (by simp) | assumption | refine Blk.drew ?_ | refine Blk.old ?_ _))
  have hR : Blk ((w.alloc (.cells #[.int .u8 k, .int .u64 tx, .slice C cs.length c, .slice S sq.length d] 48)).alloc (.cells #[.int .u8 0, .int .u64 0, .slice none 0 0, .slice none 0 0] 48)) (w.heap.size + 1) #[.int .u8 0, .int .u64 0, .slice none 0 0, .slice none 0 0] 48 := (by repeat (first | exact Blk.at (by simp) | assumption | refine Blk.drew ?_ | refine Blk.old ?_ _))
  have hB : Below w.heap.size w ((w.alloc (.cells #[.int .u8 k, .int .u64 tx, .slice C cs.length c, .slice S sq.length d] 48)).alloc (.cells #[.int .u8 0, .int .u64 0, .slice none 0 0, .slice none 0 0] 48)) := (by repeat (first | exact Below.refl _ _ | assumption | refine Below.drew ?_ | refine below_drewN ?_ _ | refine Below.alloc ?_ (by simp <;> omega) _))
  generalize (w.alloc (.cells #[.int .u8 k, .int .u64 tx, .slice C cs.length c, .slice S sq.length d] 48)).alloc (.cells #[.int .u8 0, .int .u64 0, .slice none 0 0, .slice none 0 0] 48) = W at hP hR hB ⊢
  obtain ⟨_, y0, y1, y2, y3⟩ := mk4 hP
  have hsz := hB.size
  go_wp2_with (at_builtin; refine wpList_append_opt _ rfl _ _ 45 rfl w.heap.size 3 i3 _ 1 8 Tryd.underlying45 hi3 hy0 hy1 hy2 rfl (by decide) (.slice none 0 0) 0 [] rfl (World.ownsRow_nil _ _ _ _) C cs.length c (cs.map (Value.int .i64)) rfl (by simp) (fun e => NRow.none_ (e ▸ HC.out)) ((HC.out.ext hB).cells_) (nums_one _ _) (by simp only [maxLen]; omega) (by omega) hsz ?_)
  intro v1 w1 ho1 hg1
  have hB1 : Below W.heap.size W w1 := (Below.refl _ _).grown hg1 (Nat.le_refl _) (by simp [Value.ownBlock])
  obtain ⟨C', c', rfl⟩ := own_form ho1
  have hP1 := hP.ext hB1
  have hR1 := hR.ext hB1
  have hC1 := bt hB hB1
  clear hg1 hB1 y0 y1 y2 y3 hP hR hsz
  (try rw [Nat.zero_add] at ho1)
  (try simp only [Nat.zero_add])
  obtain ⟨w3, rfl, lt⟩ := blk_put hP1
  obtain ⟨pc, pf, pS⟩ := putBlk_facts (w := w3) 48 lt
  have HO1 := Lib.hid (own_put ho1 lt (by decide) #[.int .u8 k, .int .u64 tx, .slice C' cs.length c', .slice S sq.length d])
  have hC2 := putBlk_belows hC1 (Nat.le_refl _) #[.int .u8 k, .int .u64 tx, .slice C' cs.length c', .slice S sq.length d]
  have HR2 := Lib.hid (putBlk_old hR1 (by omega) #[.int .u8 k, .int .u64 tx, .slice C' cs.length c', .slice S sq.length d])
  have HP2 := Lib.hid (putBlk_blk #[.int .u8 k, .int .u64 tx, .slice C' cs.length c', .slice S sq.length d] 48 lt)
  clear ho1 hC1 hR1 hP1
  have hsz := hC2.size
  go_wp2_with (at_builtin; refine wpList_append_opt _ rfl _ _ 46 rfl w.heap.size 22 i0 _ 1 8 Tryd.underlying46 hi0 hz0 hz1 hz2 rfl (by decide) (.slice none 0 0) 0 [] rfl (World.ownsRow_nil _ _ _ _) S sq.length d (sq.map (Value.int .u64)) rfl (by simp) (fun e => NRow.none_ (e ▸ HS.out)) ((HS.out.ext hC2).cells_) (nums_one _ _) (by simp only [maxLen]; omega) (by omega) hsz ?_)
  intro v2 w4 ho2 hg2
  have hB2 := (Below.refl (putBlk w3 w.heap.size #[.int .u8 k, .int .u64 tx, .slice C' cs.length c', .slice S sq.length d] 48).heap.size _).grown hg2 (Nat.le_refl _) (by simp [Value.ownBlock])
  obtain ⟨S', d', rfl⟩ := own_form ho2
  have hP3 := HP2.out.ext hB2
  have hR3 := HR2.out.ext hB2
  have hC3 := bt hC2 hB2
  have ho1 := own_below HO1.out hB2
  clear hg2 hB2 hC2 HP2 HR2 HO1 pc pf pS lt hsz
  (try rw [Nat.zero_add] at ho2)
  (try simp only [Nat.zero_add])
  obtain ⟨w5, rfl, lt⟩ := blk_put hP3
  obtain ⟨pc, pf, pS⟩ := putBlk_facts (w := w5) 48 lt
  have HO1 := Lib.hid (own_put ho1 lt (by decide) #[.int .u8 k, .int .u64 tx, .slice C' cs.length c', .slice S' sq.length d'])
  have HO2 := Lib.hid (own_put ho2 lt (by decide) #[.int .u8 k, .int .u64 tx, .slice C' cs.length c', .slice S' sq.length d'])
  have HC4 := Lib.hid (putBlk_belows hC3 (Nat.le_refl _) #[.int .u8 k, .int .u64 tx, .slice C' cs.length c', .slice S' sq.length d'])
  have HR4 := Lib.hid (putBlk_old hR3 (by omega) #[.int .u8 k, .int .u64 tx, .slice C' cs.length c', .slice S' sq.length d'])
  have HP4 := Lib.hid (putBlk_blk #[.int .u8 k, .int .u64 tx, .slice C' cs.length c', .slice S' sq.length d'] 48 lt)
  clear ho1 ho2 hC3 hR3 hP3
  go_upto_region 3 with fail
  generalize putBlk w5 w.heap.size #[.int .u8 k, .int .u64 tx, .slice C' cs.length c', .slice S' sq.length d'] 48 = W2 at HO1 HO2 HC4 HR4 HP4 ⊢
  clear pc pf pS lt
  obtain ⟨_, y0, y1, y2, y3⟩ := mk4 HP4.out
  have hRR := HR4.out
  clear HR4 HP4
  obtain ⟨w6, rfl, lt⟩ := blk_put hRR
  obtain ⟨pc, pf, pS⟩ := putBlk_facts (w := w6) 48 lt
  clear hRR
  go_wp2_with fail
  refine bodyPost_ret (v := .agg (mkCells ⟨k, tx, cs, sq⟩ (.slice C' cs.length c') (.slice S' sq.length d'))) (by simp [results, Tryd.results63, go_sem, mkCells, pc]) rfl ?_
  exact ⟨C', c', S', d', rfl, (NRow.of_own l1 (own_put HO1.out lt (by decide) _)).1, (NRow.of_own l2 (own_put HO2.out lt (by decide) _)).1, putBlk_belows HC4.out (by omega) _⟩
set_option maxRecDepth 100000 in
set_option maxHeartbeats 400000 in
/-- SameMark of one mark, twice. -/
theorem samemark_self (m : Mk) (C S C2 S2 : Option Addr) (c d c2 d2 : Nat) (w : World) (hc : NRow .i64 w C m.cs) (hs : NRow .u64 w S m.sq) (hc2 : NRow .i64 w C2 m.cs) (hs2 : NRow .u64 w S2 m.sq) :
    Calls Tryd.prog 66 #[.agg (mkCells m (.slice C m.cs.length c) (.slice S m.sq.length d)), .agg (mkCells m (.slice C2 m.cs.length c2) (.slice S2 m.sq.length d2))] w fun r w' => r = .returned (.bool true) ∧ Below w.heap.size w w' := by
  obtain ⟨k, tx, cs, sq⟩ := m
  simp only [mkCells] at hc hs hc2 hs2 ⊢
  have l1 := hc.1
  have l2 := hs.1
  have HC := Lib.hid hc
  have HS := Lib.hid hs
  have HC2 := Lib.hid hc2
  have HS2 := Lib.hid hs2
  have hq1 : ((cs.length : Int) != (cs.length : Int)) = false := by simp
  have hq2 : ((sq.length : Int) != (sq.length : Int)) = false := by simp
  clear hc hs hc2 hs2
  go_enter Tryd.func66, Tryd.ntmps66
  go_wp2_with fail
  have hP : Blk ((w.alloc (.cells #[.int .u8 k, .int .u64 tx, .slice C cs.length c, .slice S sq.length d] 48)).alloc (.cells #[.int .u8 k, .int .u64 tx, .slice C2 cs.length c2, .slice S2 sq.length d2] 48)) w.heap.size #[.int .u8 k, .int .u64 tx, .slice C cs.length c, .slice S sq.length d] 48 := (by repeat (first | exact Blk.at (by simp) | assumption | refine Blk.drew ?_ | refine Blk.old ?_ _))
  have hR : Blk ((w.alloc (.cells #[.int .u8 k, .int .u64 tx, .slice C cs.length c, .slice S sq.length d] 48)).alloc (.cells #[.int .u8 k, .int .u64 tx, .slice C2 cs.length c2, .slice S2 sq.length d2] 48)) (w.heap.size + 1) #[.int .u8 k, .int .u64 tx, .slice C2 cs.length c2, .slice S2 sq.length d2] 48 := (by repeat (first | exact Blk.at (by simp) | assumption | refine Blk.drew ?_ | refine Blk.old ?_ _))
  have hB : Below w.heap.size w ((w.alloc (.cells #[.int .u8 k, .int .u64 tx, .slice C cs.length c, .slice S sq.length d] 48)).alloc (.cells #[.int .u8 k, .int .u64 tx, .slice C2 cs.length c2, .slice S2 sq.length d2] 48)) := (by repeat (first | exact Below.refl _ _ | assumption | refine Below.drew ?_ | refine below_drewN ?_ _ | refine Below.alloc ?_ (by simp <;> omega) _))
  generalize (w.alloc (.cells #[.int .u8 k, .int .u64 tx, .slice C cs.length c, .slice S sq.length d] 48)).alloc (.cells #[.int .u8 k, .int .u64 tx, .slice C2 cs.length c2, .slice S2 sq.length d2] 48) = W at hP hR hB ⊢
  have HP := Lib.hid hP
  have HR := Lib.hid hR
  clear hP hR
  go_loopw [5] (fun i wr => ∃ j : Nat, j ≤ cs.length ∧ i = .int .i64 j ∧ Hid (Below W.heap.size W wr)) (fun i _ => cs.length - (intOf i).toNat)
  case atStart => exact ⟨0, by omega, rfl, Below.refl _ _⟩
  case round =>
    obtain ⟨j, hj, rfl, HB⟩ := hrel
    obtain ⟨_, y0, y1, y2, y3⟩ := mk4 (HP.out.ext HB.out)
    obtain ⟨_, u0, u1, u2, u3⟩ := mk4 (HR.out.ext HB.out)
    by_cases hlt : j < cs.length
    · obtain ⟨b, off, v, rfl, hb, hlk, hmem, c0⟩ := (HC.out.ext (bt hB HB.out)).at_ hlt
      obtain ⟨b', off', v', rfl, hb', hlk', hmem', c0'⟩ := (HC2.out.ext (bt hB HB.out)).at_ hlt
      obtain rfl : v = v' := Option.some.inj (hlk.symm.trans hlk')
      have hvv : (v != v) = false := by simp
      have g0 : (0 : Int) ≤ j := by omega
      have g1 : (j : Int) < cs.length := by omega
      clear hlk hlk' hmem hmem'
      go_wp2_with fail
      go_quiet (fail)
      go_wp2_with fail
      go_roundw
      case rel => exact ⟨j + 1, by omega, by go_num, (by repeat (first | exact HB.out | refine Below.drew ?_ | refine below_drewN ?_ _))⟩
      case measure => simp [intOf]; omega
    · go_wp2_with fail
      clear y0 y1 y2 y3 u0 u1 u2 u3
      go_loopw [6] (fun i wr => ∃ j : Nat, j ≤ sq.length ∧ i = .int .i64 j ∧ Hid (Below W.heap.size W wr)) (fun i _ => sq.length - (intOf i).toNat)
      case atStart => exact ⟨0, by omega, rfl, HB⟩
      case round =>
        clear HB
        obtain ⟨i, hi, rfl, HB⟩ := hrel
        obtain ⟨_, y0, y1, y2, y3⟩ := mk4 (HP.out.ext HB.out)
        obtain ⟨_, u0, u1, u2, u3⟩ := mk4 (HR.out.ext HB.out)
        by_cases hlt2 : i < sq.length
        · obtain ⟨b, off, v, rfl, hb, hlk, hmem, c0⟩ := (HS.out.ext (bt hB HB.out)).at_ hlt2
          obtain ⟨b', off', v', rfl, hb', hlk', hmem', c0'⟩ := (HS2.out.ext (bt hB HB.out)).at_ hlt2
          obtain rfl : v = v' := Option.some.inj (hlk.symm.trans hlk')
          have hvv : (v != v) = false := by simp
          have g0 : (0 : Int) ≤ i := by omega
          have g1 : (i : Int) < sq.length := by omega
          clear hlk hlk' hmem hmem'
          go_wp2_with fail
          go_quiet (fail)
          go_wp2_with fail
          go_roundw
          case rel => exact ⟨i + 1, by omega, by go_num, (by repeat (first | exact HB.out | refine Below.drew ?_ | refine below_drewN ?_ _))⟩
          case measure => simp [intOf]; omega
        · go_wp2_with fail
          go_ret
          exact ⟨rfl, bt hB HB.out⟩
end Go.Proofs.YtjdfodmialhakaaDoor
