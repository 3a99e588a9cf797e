/- Several texts in one: see each part's head. -/
import Derived.Test.YtkfhfegogmlchaaDoorJ17
/- BufferNil: the end of a transaction. -/
namespace Go.Proofs.YtkfhfegogmlchaaDoor
open Go.RowKit

theorem TailB.nil {P : Program} {ops : Array Oper} {Q : Exit → Act → World → Prop} {a : Act} {w : World} (h : Q .normal a w) : TailB P ops Q [] a w := h
def kCl (v : Value) (t : TypeId) : Known := .mem (fun u w => ∃ g cg base, u = .slice (some ⟨g, 0, none⟩) 1 cg ∧ w.ownsRow base t 1 (.slice (some ⟨g, 0, none⟩) 1 cg) 1 [v]) (fun _ _ _ ⟨g, cg, base, h, h1⟩ hb => ⟨g, cg, base, h, own_below h1 hb⟩)
/-- A transaction that has its end, block E: its counts [k]. -/
def TxE (B : Nat) (nx k : Int) (X N M E : Nat) (w : World) : Prop := (B ≤ X ∧ B ≤ N ∧ B ≤ M) ∧ Blk w X #[.int .u64 nx, .pointer (some ⟨E, 0, none⟩), .slice (some ⟨N, 0, none⟩) 1 1, .map (some M)] 94 ∧ Blk w N #[.int .i64 0] 3 ∧ MapE w M ∧
  ∃ cb cc b1 sb sc b2 s, Blk w E #[.int .u8 2, .int .u64 nx, .slice (some ⟨cb, 0, none⟩) 1 cc, .slice (some ⟨sb, 0, none⟩) 1 sc] 50 ∧ w.ownsRow b1 3 1 (.slice (some ⟨cb, 0, none⟩) 1 cc) 1 [.int .i64 k] ∧ w.ownsRow b2 29 1 (.slice (some ⟨sb, 0, none⟩) 1 sc) 1 [.int .u64 s]
def FinP (nx k : Int) (B : Nat) (w : World) (r : Ending) (w' : World) : Prop :=
  Below B w w' ∧ ∃ g cg base X N M, Bg nx 0 B g cg base X w' ∧ ((k ≤ 2 ∧ r = .returned (.tuple #[.bool true, .int .i64 0]) ∧ ∃ E, TxE B nx k X N M E w') ∨ (2 < k ∧ r = .returned (.tuple #[.bool false, .int .i64 231]) ∧ TxI B nx X N M w'))
set_option maxRecDepth 100000 in
set_option maxHeartbeats 3200000 in
theorem finish_any (B g cg base X N M cb c1 sb c2 : Nat) (nx k s : Int) (w : World) (hbg : Bg nx 0 B g cg base X w) (ht : TxI B nx X N M w) (hc : w.cell? ⟨cb, 0, none⟩ = some (.int .i64 k)) (hs : w.cell? ⟨sb, 0, none⟩ = some (.int .u64 s)) (hk : 0 ≤ k ∧ k ≤ 100) :
    Calls Tryd.prog 43 #[.pointer (some ⟨B, 0, none⟩), .agg #[.int .u8 2, .int .u64 nx, .slice (some ⟨cb, 0, none⟩) 1 c1, .slice (some ⟨sb, 0, none⟩) 1 c2]] w (FinP nx k B w) := by
  obtain ⟨hb, ho⟩ := hbg
  obtain ⟨hlow, hx, hn, hm⟩ := ht
  unfold TxB at hx
  go_enter Tryd.func43, Tryd.ntmps43
  go_upto_region 1 with fail
  have h1 : Blk (w.alloc (.cells #[.int .u8 2, .int .u64 nx, .slice (some ⟨cb, 0, none⟩) 1 c1, .slice (some ⟨sb, 0, none⟩) 1 c2] 50)) w.heap.size #[.int .u8 2, .int .u64 nx, .slice (some ⟨cb, 0, none⟩) 1 c1, .slice (some ⟨sb, 0, none⟩) 1 c2] 50 := Blk.new w _ _
  have hC : Below w.heap.size w (w.alloc (.cells #[.int .u8 2, .int .u64 nx, .slice (some ⟨cb, 0, none⟩) 1 c1, .slice (some ⟨sb, 0, none⟩) 1 c2] 50)) := (by repeat (first | exact Below.refl _ _ | assumption | refine Below.drew ?_ | refine below_drewN ?_ _ | refine Below.alloc ?_ (by simp <;> omega) _))
  have HC := Lib.hid hC
  have HB := Lib.hid (hb.ext hC)
  have HO := Lib.hid (own_below ho hC)
  have HX := Lib.hid (hx.ext hC)
  have HN := Lib.hid (hn.ext hC)
  have HM := Lib.hid (hm.ext hC)
  have HMB := Lib.hid h1
  have HCB := Lib.hid ((hC.cell (p := ⟨cb, 0, none⟩) (cell_lt hc)).trans hc)
  have HSB := Lib.hid ((hC.cell (p := ⟨sb, 0, none⟩) (cell_lt hs)).trans hs)
  have hBw := hb.lt
  have hmw : w.heap.size ≤ w.heap.size := Nat.le_refl _
  clear h1 hC hb ho hx hn hm hc hs
  generalize w.alloc (.cells #[.int .u8 2, .int .u64 nx, .slice (some ⟨cb, 0, none⟩) 1 c1, .slice (some ⟨sb, 0, none⟩) 1 c2] 50) = W0 at HB HO HX HN HM HMB HCB HSB HC ⊢
  generalize hmb : w.heap.size = mb at HMB ⊢
  have hmB : B ≤ mb := by omega
  clear hmb hmw
  have hgx := HO.out.cells (g := g) rfl 0 _ rfl
  have ea : (⟨g, 0, none⟩ : Addr).add 0 = ⟨g, 0, none⟩ := rfl
  rw [ea] at hgx
  go_wp2_with fail
  refine (last_one B cg g X 1 2 nx 0 true W0 HB.out hgx).mono ?_
  rintro r w1 ⟨rfl, q, rfl⟩
  have hd : Below W0.heap.size W0 (W0.drewN q) := below_drewN (Below.refl _ _) q
  have HB := Lib.hid (HB.out.ext hd)
  have HO := Lib.hid (own_below HO.out hd)
  have HX := Lib.hid (HX.out.ext hd)
  have HN := Lib.hid (HN.out.ext hd)
  have HM := Lib.hid (HM.out.ext hd)
  have HMB := Lib.hid (HMB.out.ext hd)
  have HCB := Lib.hid ((hd.cell (p := ⟨cb, 0, none⟩) (cell_lt HCB.out)).trans HCB.out)
  have HSB := Lib.hid ((hd.cell (p := ⟨sb, 0, none⟩) (cell_lt HSB.out)).trans HSB.out)
  have HC := Lib.hid (bt HC.out hd)
  clear hd hgx ea
  generalize W0.drewN q = w1 at HB HO HX HN HM HMB HCB HSB HC ⊢
  go_upto_region 2 with fail
  go_cut [26] (fun v wx => v = .bool false ∧ Hid (Below w1.heap.size w1 wx))
  case first =>
    refine region_grow [false, false, false, false, false, false, false, false, false, true, true, true, true, true, true, true, true, true, true, true, true, true, true, true, true, true, true, false, false, false, false, false, false, false, false, false, false, false, false, false, false, false, false, false, false, false, false, false, false, false, false, false, false, false, false, false] [9, 10, 11, 12, 13, 14, 15, 16, 17, 18, 19, 20, 21, 22, 23, 24, 25, 26] [.val (.pointer (some ⟨X, 0, none⟩)), .val (.bool false), .val (.bool false), .val (.pointer (some ⟨X, 0, none⟩)), .val (.pointer (some ⟨X, 0, none⟩)), .val (.pointer (some ⟨X, 1, none⟩)), .val (.pointer none), .val (.bool false), .val (.bool false), .val (.bool false), .val (.pointer (some ⟨X, 0, none⟩)), .val (.pointer (some ⟨X, 0, none⟩)), .val (.pointer (some ⟨X, 0, none⟩)), .val (.int .u64 nx), .val (.pointer (some ⟨mb, 1, none⟩)), .val (.int .u64 nx), .val (.bool false), .val (.bool false)] [17] (by kernel_rfl) (by kernel_rfl) (by kernel_rfl) (by kernel_rfl) (by kernel_rfl) ⟨?_, ?_, ?_, ?_, ?_, ?_, ?_, ?_, ?_, ?_, ?_, ?_, ?_, ?_, ?_, ?_, ?_, ?_, trivial⟩ ?done
    case done =>
      intro x w5 hb5
      simp only [StepGoal, overlay, upd, cond_true, cond_false, List.getD_cons_zero, List.getD_cons_succ, Nat.zero_add, Nat.reduceAdd, Nat.reduceEqDiff, reduceIte]
      go_wp2_with fail
      go_meet
      exact ⟨rfl, hb5⟩
    all_goals
      intro x w5 hb5
      intro K hK
      have hB := HB.out.ext hb5
      have hM := HMB.out.ext hb5
      have hX := HX.out.ext hb5
      have b1 := hB.cell 1
      have b4 := hB.cell 4
      have m1 := hM.cell 1
      have m2 := hM.cell 2
      have m3 := hM.cell 3
      have x0 := hX.cell 0
      have x1 := hX.cell 1
      have lB := hB.lt
      have lM := hM.lt
      have lX := hX.lt
      simp only [List.getElem?_toArray, List.getElem?_cons_zero, List.getElem?_cons_succ] at b1 b4 m1 m2 m3 x0 x1
      first
        | (rw [if_neg (by exact Bool.false_ne_true)]; exact hK.out _ _ (Below.refl _ _) rfl)
        | (rw [if_pos (by rfl)]; simp only [overlay, upd, cond_true, cond_false, List.getD_cons_zero, List.getD_cons_succ, Nat.reduceEqDiff, reduceIte]
           go_simp
           first
             | exact hK.out _ _ (Below.refl _ _) rfl
             | fail)
  case rest =>
    obtain ⟨rfl, HW⟩ := hcut
    rename World => w2
    have HB := Lib.hid (HB.out.ext HW.out)
    have HO := Lib.hid (own_below HO.out HW.out)
    have HX := Lib.hid (HX.out.ext HW.out)
    have HN := Lib.hid (HN.out.ext HW.out)
    have HM := Lib.hid (HM.out.ext HW.out)
    have HMB := Lib.hid (HMB.out.ext HW.out)
    have HCB := Lib.hid ((HW.out.cell (p := ⟨cb, 0, none⟩) (cell_lt HCB.out)).trans HCB.out)
    have HSB := Lib.hid ((HW.out.cell (p := ⟨sb, 0, none⟩) (cell_lt HSB.out)).trans HSB.out)
    have HC := Lib.hid (bt HC.out HW.out)
    clear HW
    go_upto_region 4 with fail
    go_cut [] (fun wx => ∃ cb' cc b1 sb' sc b2, Hid (Blk wx mb #[.int .u8 2, .int .u64 nx, .slice (some ⟨cb', 0, none⟩) 1 cc, .slice (some ⟨sb', 0, none⟩) 1 sc] 50) ∧ Hid (wx.ownsRow b1 3 1 (.slice (some ⟨cb', 0, none⟩) 1 cc) 1 [.int .i64 k]) ∧ Hid (wx.ownsRow b2 29 1 (.slice (some ⟨sb', 0, none⟩) 1 sc) 1 [.int .u64 s]) ∧ Hid (Blk wx B #[.int .i64 1, .int .i64 2, .int .u64 nx, .bool true, .slice (some ⟨g, 0, none⟩) 1 cg, .int .i64 0] 85) ∧ Hid (wx.ownsRow base 90 1 (.slice (some ⟨g, 0, none⟩) 1 cg) 1 [.pointer (some ⟨X, 0, none⟩)]) ∧ Hid (Blk wx X #[.int .u64 nx, .pointer none, .slice (some ⟨N, 0, none⟩) 1 1, .map (some M)] 94) ∧ Hid (Blk wx N #[.int .i64 0] 3) ∧ Hid (MapE wx M) ∧ Hid (Below B w wx))
    case first =>
      have HC1 := Lib.hid (fun (W : World) (hW : Below w2.heap.size w2 W) => clone_int cb 0 c1 k W ((hW.cell (p := ⟨cb, 0, none⟩) (cell_lt HCB.out)).trans HCB.out))
      have HC2 := Lib.hid (fun (W : World) (hW : Below w2.heap.size w2 W) => clone_uint sb 0 c2 s W ((hW.cell (p := ⟨sb, 0, none⟩) (cell_lt HSB.out)).trans HSB.out))
      refine region_tail 7 [false, false, false, false, false, false, false, false, false, false, false, false, false, false, false, false, false, false, false, false, false, false, false, false, false, false, false, true, true, true, true, true, true, true, false, false, false, false, false, false, false, false, false, false, false, false, false, false, false, false, false, false, false, false, false, false] [27, 28, 29, 30, 31, 32, 33] [.val (.pointer (some ⟨mb, 2, none⟩)), .val (.slice (some ⟨cb, 0, none⟩) 1 c1), kCl (.int .i64 k) 3, .val (.pointer (some ⟨mb, 3, none⟩)), .val (.slice (some ⟨sb, 0, none⟩) 1 c2), kCl (.int .u64 s) 29, .val (.pointer (some ⟨mb, 2, none⟩))] [2, 5, 6] (by kernel_rfl) (by decide) (by kernel_rfl) (by kernel_rfl) (by kernel_rfl) (by kernel_rfl) (by kernel_rfl) (by kernel_rfl) ⟨?_, ?_, ?_, ?_, ?_, ?_, ?_, trivial⟩ ?done
      case done =>
        intro x w5 hb5
        simp only [StepGoal, List.getD_cons_zero, List.getD_cons_succ]
        rintro _ ⟨cb', cc, b1, rfl, ho1⟩ _ ⟨sb', sc, b2, rfl, ho2⟩
        have hMk := HMB.out.ext hb5
        have hBel : Below B w w5 := (bt HC.out hb5).mono (Nat.le_of_lt hBw)
        have hB5 := HB.out.ext hb5
        have hO5 := own_below HO.out hb5
        have hX5 := HX.out.ext hb5
        have hN5 := HN.out.ext hb5
        have hM5 := HM.out.ext hb5
        have n1 := blk_ne' hB5 hMk (by decide)
        have n2 := blk_ne' hX5 hMk (by decide)
        have n3 := blk_ne' hN5 hMk (by decide)
        clear hb5 HC1 HC2 HB HO HX HN HM HMB HCB HSB HC
        obtain ⟨w6, rfl, lt⟩ := blk_put hMk
        have HF1 := Lib.hid (own_put ho1 lt (by decide) #[.int .u8 2, .int .u64 nx, .slice (some ⟨cb', 0, none⟩) 1 cc, .slice (some ⟨sb', 0, none⟩) 1 sc])
        have HF2 := Lib.hid (own_put ho2 lt (by decide) #[.int .u8 2, .int .u64 nx, .slice (some ⟨cb', 0, none⟩) 1 cc, .slice (some ⟨sb', 0, none⟩) 1 sc])
        have HFB := Lib.hid (putBlk_old hB5 n1 #[.int .u8 2, .int .u64 nx, .slice (some ⟨cb', 0, none⟩) 1 cc, .slice (some ⟨sb', 0, none⟩) 1 sc])
        have HFO := Lib.hid (own_put hO5 lt (by decide) #[.int .u8 2, .int .u64 nx, .slice (some ⟨cb', 0, none⟩) 1 cc, .slice (some ⟨sb', 0, none⟩) 1 sc])
        have HFX := Lib.hid (putBlk_old hX5 n2 #[.int .u8 2, .int .u64 nx, .slice (some ⟨cb', 0, none⟩) 1 cc, .slice (some ⟨sb', 0, none⟩) 1 sc])
        have HFN := Lib.hid (putBlk_old hN5 n3 #[.int .u8 2, .int .u64 nx, .slice (some ⟨cb', 0, none⟩) 1 cc, .slice (some ⟨sb', 0, none⟩) 1 sc])
        have HFM : Hid (MapE (putBlk w6 mb #[.int .u8 2, .int .u64 nx, .slice (some ⟨cb', 0, none⟩) 1 cc, .slice (some ⟨sb', 0, none⟩) 1 sc] 50) M) := map_put hM5 lt _
        have HFC := Lib.hid (putBlk_belows hBel hmB #[.int .u8 2, .int .u64 nx, .slice (some ⟨cb', 0, none⟩) 1 cc, .slice (some ⟨sb', 0, none⟩) 1 sc])
        obtain ⟨pc, pf, pS⟩ := putBlk_facts (w := w6) 50 lt
        clear ho1 ho2 hMk hBel hB5 hO5 hX5 hN5 hM5 n1 n2 n3
        intro K1 hK1
        rw [if_pos (by rfl)]; simp only [overlay, upd, cond_true, cond_false, Nat.reduceEqDiff, reduceIte]
        go_simp
        refine hK1.out _ _ ?_
        intro K2 hK2
        rw [if_pos (by rfl)]
        go_simp
        refine hK2.out _ _ ?_
        intro K3 hK3
        rw [if_pos (by rfl)]
        go_simp
        refine hK3.out _ _ (TailB.nil ?_)
        go_wp2_with fail
        go_meet
        exact ⟨cb', cc, b1, sb', sc, b2, putBlk_blk _ _ lt, HF1, HF2, HFB, HFO, HFX, HFN, HFM, HFC⟩
      case refine_3 =>
        intro x w5 hb5
        intro K hK
        have hB := HB.out.ext hb5
        have hM := HMB.out.ext hb5
        have hX := HX.out.ext hb5
        have b1 := hB.cell 1
        have b4 := hB.cell 4
        have m1 := hM.cell 1
        have m2 := hM.cell 2
        have m3 := hM.cell 3
        have x0 := hX.cell 0
        have x1 := hX.cell 1
        have lB := hB.lt
        have lM := hM.lt
        have lX := hX.lt
        simp only [List.getElem?_toArray, List.getElem?_cons_zero, List.getElem?_cons_succ] at b1 b4 m1 m2 m3 x0 x1
        first
          | (rw [if_neg (by exact Bool.false_ne_true)]; exact hK.out _ _ (Below.refl _ _) rfl)
          | (rw [if_pos (by rfl)]; simp only [overlay, upd, cond_true, cond_false, List.getD_cons_zero, List.getD_cons_succ, Nat.reduceEqDiff, reduceIte]
             go_simp
             first
               | exact hK.out _ _ (Below.refl _ _) rfl
               | ((with_reducible refine (HC1.out _ hb5).mono ?_); rintro e wa ⟨hba, hcl⟩; obtain ⟨g1, cg1, bs1, rfl, ho1⟩ := hcl; go_wp2_with fail; exact hK.out _ _ hba ⟨g1, cg1, bs1, rfl, ho1⟩))
      case refine_6 =>
        intro x w5 hb5
        rintro _ ⟨g0, cg0, bs0, rfl, ho0⟩
        intro K hK
        rw [if_pos (by rfl)]; simp only [overlay, upd, cond_true, cond_false, List.getD_cons_zero, List.getD_cons_succ, Nat.reduceEqDiff, reduceIte]
        go_simp
        (with_reducible refine (HC2.out _ hb5).mono ?_)
        rintro e wa ⟨hba, hcl⟩
        obtain ⟨g1, cg1, bs1, rfl, ho1⟩ := hcl
        go_wp2_with fail
        exact hK.out _ _ hba ⟨g1, cg1, bs1, rfl, ho1⟩
      case refine_7 =>
        intro x w5 hb5 _ _ _ _ K hK
        rw [if_pos (by rfl)]; simp only [overlay, upd, cond_true, cond_false, List.getD_cons_zero, List.getD_cons_succ, Nat.reduceEqDiff, reduceIte]
        go_simp
        exact hK.out _ _ (Below.refl _ _) rfl
      all_goals
        intro x w5 hb5
        intro K hK
        have hB := HB.out.ext hb5
        have hM := HMB.out.ext hb5
        have hX := HX.out.ext hb5
        have b1 := hB.cell 1
        have b4 := hB.cell 4
        have m1 := hM.cell 1
        have m2 := hM.cell 2
        have m3 := hM.cell 3
        have x0 := hX.cell 0
        have x1 := hX.cell 1
        have lB := hB.lt
        have lM := hM.lt
        have lX := hX.lt
        simp only [List.getElem?_toArray, List.getElem?_cons_zero, List.getElem?_cons_succ] at b1 b4 m1 m2 m3 x0 x1
        first
          | (rw [if_neg (by exact Bool.false_ne_true)]; exact hK.out _ _ (Below.refl _ _) rfl)
          | (rw [if_pos (by rfl)]; simp only [overlay, upd, cond_true, cond_false, List.getD_cons_zero, List.getD_cons_succ, Nat.reduceEqDiff, reduceIte]
             go_simp
             first
               | exact hK.out _ _ (Below.refl _ _) rfl
               | fail)
    case rest =>
      obtain ⟨cb', cc, b1, sb', sc, b2, HMK, HO1, HO2, HB, HO, HX, HN, HM, HC⟩ := hcut
      rename World => w3
      have hX3 := HX.out
      have n1 := blk_ne' HMK.out hX3 (by decide)
      have n2 := blk_ne' HB.out hX3 (by decide)
      have n3 := blk_ne' HN.out hX3 (by decide)
      clear HX
      obtain ⟨w6, rfl, lt⟩ := blk_put hX3
      have HFK := Lib.hid (putBlk_old HMK.out n1 #[.int .u64 nx, .pointer (some ⟨mb, 0, none⟩), .slice (some ⟨N, 0, none⟩) 1 1, .map (some M)])
      have HF1 := Lib.hid (own_put HO1.out lt (by decide) #[.int .u64 nx, .pointer (some ⟨mb, 0, none⟩), .slice (some ⟨N, 0, none⟩) 1 1, .map (some M)])
      have HF2 := Lib.hid (own_put HO2.out lt (by decide) #[.int .u64 nx, .pointer (some ⟨mb, 0, none⟩), .slice (some ⟨N, 0, none⟩) 1 1, .map (some M)])
      have HFB := Lib.hid (putBlk_old HB.out n2 #[.int .u64 nx, .pointer (some ⟨mb, 0, none⟩), .slice (some ⟨N, 0, none⟩) 1 1, .map (some M)])
      have HFO := Lib.hid (own_put HO.out lt (by decide) #[.int .u64 nx, .pointer (some ⟨mb, 0, none⟩), .slice (some ⟨N, 0, none⟩) 1 1, .map (some M)])
      have HFN := Lib.hid (putBlk_old HN.out n3 #[.int .u64 nx, .pointer (some ⟨mb, 0, none⟩), .slice (some ⟨N, 0, none⟩) 1 1, .map (some M)])
      have HFM : Hid (MapE (putBlk w6 X #[.int .u64 nx, .pointer (some ⟨mb, 0, none⟩), .slice (some ⟨N, 0, none⟩) 1 1, .map (some M)] 94) M) := map_put HM.out lt _
      have HFC := Lib.hid (putBlk_belows HC.out hlow.1 #[.int .u64 nx, .pointer (some ⟨mb, 0, none⟩), .slice (some ⟨N, 0, none⟩) 1 1, .map (some M)])
      have HFX := Lib.hid (putBlk_blk (w := w6) #[.int .u64 nx, .pointer (some ⟨mb, 0, none⟩), .slice (some ⟨N, 0, none⟩) 1 1, .map (some M)] 94 lt)
      obtain ⟨pc, pf, pS⟩ := putBlk_facts (w := w6) 94 lt
      clear HMK HO1 HO2 HB HO HN HM HC hX3 n1 n2 n3
      go_upto_region 6 with fail
      generalize putBlk w6 X #[.int .u64 nx, .pointer (some ⟨mb, 0, none⟩), .slice (some ⟨N, 0, none⟩) 1 1, .map (some M)] 94 = w4 at HFK HF1 HF2 HFB HFO HFN HFM HFC HFX ⊢
      clear pc pf pS lt
      have hcb := HF1.out.cells (g := cb') rfl 0 _ rfl
      have ea : (⟨cb', 0, none⟩ : Addr).add 0 = ⟨cb', 0, none⟩ := rfl
      rw [ea] at hcb
      have HCB := Lib.hid hcb
      have HSZ := Lib.hid (fun (W : World) (hW : Below w4.heap.size w4 W) => size_one X mb cb' cc nx nx 2 k (.slice (some ⟨N, 0, none⟩) 1 1) (.map (some M)) (.slice (some ⟨sb', 0, none⟩) 1 sc) W (HFX.out.ext hW) (HFK.out.ext hW) ((hW.cell (p := ⟨cb', 0, none⟩) (cell_lt HCB.out)).trans HCB.out) hk.1 hk.2)
      clear hcb ea
      by_cases hk2 : k ≤ 2
      · have hk3 : ¬ 2 < k := by omega
        refine region_grow [false, false, false, false, false, false, false, false, false, false, false, false, false, false, false, false, false, false, false, false, false, false, false, false, false, false, false, false, false, false, false, false, false, false, false, false, false, false, true, true, true, true, true, true, true, true, true, true, true, true, true, true, true, false, false, false] [38, 39, 40, 41, 42, 43, 44, 45, 46, 47, 48, 49, 50, 51, 52] [.val (.pointer (some ⟨B, 0, none⟩)), .val (.pointer (some ⟨B, 0, none⟩)), .val (.pointer (some ⟨B, 4, none⟩)), .val (.slice (some ⟨g, 0, none⟩) 1 cg), .val (.int .i64 1), .val (.bool true), .val (.bool true), .val (.pointer (some ⟨X, 0, none⟩)), .val (.int .i64 k), .val (.pointer (some ⟨B, 0, none⟩)), .val (.pointer (some ⟨B, 0, none⟩)), .val (.pointer (some ⟨B, 1, none⟩)), .val (.int .i64 2), .val (.bool false), .val (.bool false)] [14] (by kernel_rfl) (by kernel_rfl) (by kernel_rfl) (by kernel_rfl) (by kernel_rfl) ⟨?_, ?_, ?_, ?_, ?_, ?_, ?_, ?_, ?_, ?_, ?_, ?_, ?_, ?_, ?_, trivial⟩ ?done
        case done =>
          intro x w5 hb5
          simp only [StepGoal, overlay, upd, cond_true, cond_false, List.getD_cons_zero, List.getD_cons_succ, Nat.zero_add, Nat.reduceAdd, Nat.reduceEqDiff, reduceIte]
          go_wp2_with fail
          go_ret2
          exact ⟨HFC.out.trans (hb5.mono (by have := HFC.out.size; omega)), g, cg, base, X, N, M, ⟨HFB.out.ext hb5, own_below HFO.out hb5⟩, Or.inl ⟨hk2, rfl, mb, hlow, HFX.out.ext hb5, HFN.out.ext hb5, HFM.out.ext hb5, cb', cc, b1, sb', sc, b2, s, HFK.out.ext hb5, own_below HF1.out hb5, own_below HF2.out hb5⟩⟩
        all_goals
          intro x w5 hb5
          intro K hK
          have hB := HFB.out.ext hb5
          have b1 := hB.cell 1
          have b4 := hB.cell 4
          have lB := hB.lt
          simp only [List.getElem?_toArray, List.getElem?_cons_zero, List.getElem?_cons_succ] at b1 b4
          rw [if_pos (by rfl)]; simp only [overlay, upd, cond_true, cond_false, List.getD_cons_zero, List.getD_cons_succ, Nat.reduceEqDiff, reduceIte]
          go_simp
          first
            | exact hK.out _ _ (Below.refl _ _) rfl
            | ((with_reducible refine (HSZ.out _ hb5).mono ?_); rintro e wa ⟨rfl, rfl⟩; go_wp2_with fail; exact hK.out _ _ (Below.refl _ _) rfl)
      · have hk3 : 2 < k := by omega
        refine region_grow [false, false, false, false, false, false, false, false, false, false, false, false, false, false, false, false, false, false, false, false, false, false, false, false, false, false, false, false, false, false, false, false, false, false, false, false, false, false, true, true, true, true, true, true, true, true, true, true, true, true, true, true, true, false, false, false] [38, 39, 40, 41, 42, 43, 44, 45, 46, 47, 48, 49, 50, 51, 52] [.val (.pointer (some ⟨B, 0, none⟩)), .val (.pointer (some ⟨B, 0, none⟩)), .val (.pointer (some ⟨B, 4, none⟩)), .val (.slice (some ⟨g, 0, none⟩) 1 cg), .val (.int .i64 1), .val (.bool true), .val (.bool true), .val (.pointer (some ⟨X, 0, none⟩)), .val (.int .i64 k), .val (.pointer (some ⟨B, 0, none⟩)), .val (.pointer (some ⟨B, 0, none⟩)), .val (.pointer (some ⟨B, 1, none⟩)), .val (.int .i64 2), .val (.bool true), .val (.bool true)] [14] (by kernel_rfl) (by kernel_rfl) (by kernel_rfl) (by kernel_rfl) (by kernel_rfl) ⟨?_, ?_, ?_, ?_, ?_, ?_, ?_, ?_, ?_, ?_, ?_, ?_, ?_, ?_, ?_, trivial⟩ ?done
        case done =>
          intro x w5 hb5
          simp only [StepGoal, overlay, upd, cond_true, cond_false, List.getD_cons_zero, List.getD_cons_succ, Nat.zero_add, Nat.reduceAdd, Nat.reduceEqDiff, reduceIte]
          have hX5 := HFX.out.ext hb5
          have hB5 := HFB.out.ext hb5
          have hN5 := HFN.out.ext hb5
          have n2 := blk_ne' hB5 hX5 (by decide)
          have n3 := blk_ne' hN5 hX5 (by decide)
          have hO5 := own_below HFO.out hb5
          have hM5 := HFM.out.ext hb5
          have hC5 : Below B w w5 := HFC.out.trans (hb5.mono (by have := HFC.out.size; omega))
          clear hb5 HFX HFB HFN HFO HFM HFC HFK HF1 HF2 HSZ HCB
          obtain ⟨w6, rfl, lt⟩ := blk_put hX5
          have HFB := Lib.hid (putBlk_old hB5 n2 #[.int .u64 nx, .pointer none, .slice (some ⟨N, 0, none⟩) 1 1, .map (some M)])
          have HFO := Lib.hid (own_put hO5 lt (by decide) #[.int .u64 nx, .pointer none, .slice (some ⟨N, 0, none⟩) 1 1, .map (some M)])
          have HFN := Lib.hid (putBlk_old hN5 n3 #[.int .u64 nx, .pointer none, .slice (some ⟨N, 0, none⟩) 1 1, .map (some M)])
          have HFM : Hid (MapE (putBlk w6 X #[.int .u64 nx, .pointer none, .slice (some ⟨N, 0, none⟩) 1 1, .map (some M)] 94) M) := map_put hM5 lt _
          have HFC := Lib.hid (putBlk_belows hC5 hlow.1 #[.int .u64 nx, .pointer none, .slice (some ⟨N, 0, none⟩) 1 1, .map (some M)])
          obtain ⟨pc, pf, pS⟩ := putBlk_facts (w := w6) 94 lt
          clear hX5 hB5 hN5 hO5 hM5 hC5 n2 n3
          go_wp2_with fail
          go_ret2
          exact ⟨HFC.out, g, cg, base, X, N, M, ⟨HFB.out, HFO.out⟩, Or.inr ⟨hk3, rfl, hlow, putBlk_blk _ _ lt, HFN.out, HFM.out⟩⟩
        all_goals
          intro x w5 hb5
          intro K hK
          have hB := HFB.out.ext hb5
          have b1 := hB.cell 1
          have b4 := hB.cell 4
          have lB := hB.lt
          simp only [List.getElem?_toArray, List.getElem?_cons_zero, List.getElem?_cons_succ] at b1 b4
          rw [if_pos (by rfl)]; simp only [overlay, upd, cond_true, cond_false, List.getD_cons_zero, List.getD_cons_succ, Nat.reduceEqDiff, reduceIte]
          go_simp
          first
            | exact hK.out _ _ (Below.refl _ _) rfl
            | ((with_reducible refine (HSZ.out _ hb5).mono ?_); rintro e wa ⟨rfl, rfl⟩; go_wp2_with fail; exact hK.out _ _ (Below.refl _ _) rfl)
end Go.Proofs.YtkfhfegogmlchaaDoor
