/- Several texts in one: see each part's head. -/
import Derived.Test.YtkfhfegogmlchaaDoorJ23
/- Several texts in one: see each part's head. -/
/- BufferNil: Event, where the transaction is known. -/
namespace Go.Proofs.YtkfhfegogmlchaaDoor
open Go.RowKit

theorem TxE.ext {B : Nat} {nx k : Int} {X N M E : Nat} {w w' : World} (h : TxE B nx k X N M E w) (hb : Below w.heap.size w w') : TxE B nx k X N M E w' := by
  obtain ⟨h0, h1, h2, h3, cb, cc, b1, sb, sc, b2, s, h4, h5, h6⟩ := h
  exact ⟨h0, h1.ext hb, h2.ext hb, h3.ext hb, cb, cc, b1, sb, sc, b2, s, h4.ext hb, own_below h5 hb, own_below h6 hb⟩
set_option maxRecDepth 100000 in
theorem event_full (B g cg base X N M E h : Nat) (w : World) (hT : Tabs w) (hbg : Bg 5 0 B g cg base X w) (ht : TxE B 5 1 X N M E w) (hh : Blk w h #[.int .u8 0, .int .i64 0, .int .u64 0, .string ⟨#[]⟩] 97) :
    Calls Tryd.prog 18 #[.pointer (some ⟨B, 0, none⟩), .agg #[.int .u64 5, .int .i64 0, .int .i64 0, .int .u8 1, .int .i64 0, .slice none 0 0, .slice (some ⟨h, 0, none⟩) 1 1]] w fun r w' => r = .returned (.tuple #[.bool true, .int .i64 0]) ∧ Below B w w' ∧ TxV B w' := by
  have hC : Below w.heap.size w ((w.alloc (.cells #[.pointer (some ⟨B, 0, none⟩)] 42)).alloc (.cells #[.int .u64 5, .int .i64 0, .int .i64 0, .int .u8 1, .int .i64 0, .slice none 0 0, .slice (some ⟨h, 0, none⟩) 1 1] 59)) := (by repeat (first | exact Below.refl _ _ | assumption | refine Below.drew ?_ | refine below_drewN ?_ _ | refine Below.alloc ?_ (by simp <;> omega) _))
  have hq : Blk ((w.alloc (.cells #[.pointer (some ⟨B, 0, none⟩)] 42)).alloc (.cells #[.int .u64 5, .int .i64 0, .int .i64 0, .int .u8 1, .int .i64 0, .slice none 0 0, .slice (some ⟨h, 0, none⟩) 1 1] 59)) w.heap.size #[.pointer (some ⟨B, 0, none⟩)] 42 := (Blk.new w _ _).old _
  have hp : Blk ((w.alloc (.cells #[.pointer (some ⟨B, 0, none⟩)] 42)).alloc (.cells #[.int .u64 5, .int .i64 0, .int .i64 0, .int .u8 1, .int .i64 0, .slice none 0 0, .slice (some ⟨h, 0, none⟩) 1 1] 59)) (w.heap.size + 1) #[.int .u64 5, .int .i64 0, .int .i64 0, .int .u8 1, .int .i64 0, .slice none 0 0, .slice (some ⟨h, 0, none⟩) 1 1] 59 := (by repeat (first | exact Blk.at (by simp) | assumption | refine Blk.drew ?_ | refine Blk.old ?_ _))
  have hBl := hbg.1.lt
  have HTK := Lib.hid (taken_event B 1 cg (w.heap.size + 1) w.heap.size (some ⟨g, 0, none⟩) 5 (fun is W => is = true ∧ Below B w W ∧ TxV B W) _ (hbg.1.ext hC)
    ((event1_full (w.heap.size + 1) w.heap.size B g cg base X N M E h _ (hT.ext hC) (by omega) hp hq ⟨hbg.1.ext hC, own_below hbg.2 hC⟩ (ht.ext hC) (hh.ext hC)).mono (by
      rintro r w1 ⟨rfl, hbel, hv⟩
      exact ⟨true, rfl, rfl, (hC.mono (Nat.le_of_lt hBl)).trans hbel, hv⟩)))
  clear hC hq hp hbg hh hT ht
  go_enter Tryd.func18, Tryd.ntmps18
  go_wp2_with fail
  refine HTK.out.mono ?_
  rintro r w2 ⟨is, rfl, rfl, hq⟩
  have HQ := Lib.hid hq
  clear hq HTK
  go_wp2_with fail
  go_ret2
  exact ⟨rfl, HQ.out⟩
end Go.Proofs.YtkfhfegogmlchaaDoor

/- BufferNil: Ready, Peek, Drop, where the next transaction is whole. -/
namespace Go.Proofs.YtkfhfegogmlchaaDoor
open Go.RowKit

/-- A known transaction with its end and its one event, named in full. -/
def Full (B g cg base X N M E cb cc b1 sb sc b2 : Nat) (s : Int) (g6 cg6 b6 : Nat) (w : World) : Prop := StT B g cg base X N M E cb cc b1 sb sc b2 s w ∧ MapV w M (EVv g6 cg6) ∧ w.ownsRow b6 97 4 (.slice (some ⟨g6, 0, none⟩) 1 cg6) 1 [.int .u8 0, .int .i64 0, .int .u64 0, .string ⟨#[]⟩]
variable {B g cg base X N M E cb cc b1 sb sc b2 : Nat} {s : Int} {g6 cg6 b6 : Nat} {w w' : World}
theorem Full.ext (h : Full B g cg base X N M E cb cc b1 sb sc b2 s g6 cg6 b6 w) (hb : Below w.heap.size w w') : Full B g cg base X N M E cb cc b1 sb sc b2 s g6 cg6 b6 w' := ⟨h.1.ext hb, h.2.1.ext hb, own_below h.2.2 hb⟩
set_option maxRecDepth 100000 in
set_option maxHeartbeats 1600000 in
theorem ready_full (h : Full B g cg base X N M E cb cc b1 sb sc b2 s g6 cg6 b6 w) :
    Calls Tryd.prog 11 #[.pointer (some ⟨B, 0, none⟩)] w fun r w' => r = .returned (.bool true) ∧ Below w.heap.size w w' := by
  obtain ⟨hS, hM, _⟩ := h
  have HS := Lib.hid hS
  have HM := Lib.hid hM
  have HSZ := Lib.hid (fun (W : World) (hW : Below w.heap.size w W) => (hS.ext hW).size)
  clear hS hM
  go_enter Tryd.func11, Tryd.ntmps11
  go_upto_region 1 with fail
  refine region_grow [false, false, true, true, true, true, true, true, true, true, true, true, true, true, true, true, true, true, true, true, true, true, true, true, true, true, true, true, true, true, true, true, true, true, true, true, true, true, true, true, true, true, true, true, true] [3, 4, 5, 6, 7, 8, 9, 10, 11, 12, 13, 14, 15, 16, 17, 18, 19, 20, 21, 22, 23, 24, 25, 26, 27, 28, 29, 30, 31, 32, 33, 34, 35, 36, 37, 38, 39, 40, 41, 42, 43, 44, 2] [.val (.pointer (some ⟨B, 0, none⟩)), .val (.bool true), .val (.bool true), .val (.pointer (some ⟨B, 0, none⟩)), .val (.pointer (some ⟨B, 0, none⟩)), .val (.pointer (some ⟨B, 4, none⟩)), .val (.slice (some ⟨g, 0, none⟩) 1 cg), .val (.int .i64 1), .val (.bool true), .val (.bool true), .val (.bool true), .val (.pointer (some ⟨B, 0, none⟩)), .val (.pointer (some ⟨B, 0, none⟩)), .val (.pointer (some ⟨B, 4, none⟩)), .val (.slice (some ⟨g, 0, none⟩) 1 cg), .val (.pointer (some ⟨g, 0, none⟩)), .val (.pointer (some ⟨X, 0, none⟩)), .val (.pointer (some ⟨X, 0, none⟩)), .val (.pointer (some ⟨X, 1, none⟩)), .val (.pointer (some ⟨E, 0, none⟩)), .val (.bool true), .val (.bool true), .val (.bool true), .val (.pointer (some ⟨B, 0, none⟩)), .val (.pointer (some ⟨B, 0, none⟩)), .val (.pointer (some ⟨B, 4, none⟩)), .val (.slice (some ⟨g, 0, none⟩) 1 cg), .val (.pointer (some ⟨g, 0, none⟩)), .val (.pointer (some ⟨X, 0, none⟩)), .val (.pointer (some ⟨X, 0, none⟩)), .val (.pointer (some ⟨X, 3, none⟩)), .val (.map (some M)), .val (.int .i64 1), .val (.pointer (some ⟨B, 0, none⟩)), .val (.pointer (some ⟨B, 0, none⟩)), .val (.pointer (some ⟨B, 4, none⟩)), .val (.slice (some ⟨g, 0, none⟩) 1 cg), .val (.pointer (some ⟨g, 0, none⟩)), .val (.pointer (some ⟨X, 0, none⟩)), .val (.int .i64 1), .val (.bool true), .val (.bool true), .val (.bool true)] [42] (by kernel_rfl) (by kernel_rfl) (by kernel_rfl) (by kernel_rfl) (by kernel_rfl) ⟨?_, ?_, ?_, ?_, ?_, ?_, ?_, ?_, ?_, ?_, ?_, ?_, ?_, ?_, ?_, ?_, ?_, ?_, ?_, ?_, ?_, ?_, ?_, ?_, ?_, ?_, ?_, ?_, ?_, ?_, ?_, ?_, ?_, ?_, ?_, ?_, ?_, ?_, ?_, ?_, ?_, ?_, ?_, trivial⟩ ?done
  case done =>
    intro x w5 hb5
    simp only [StepGoal, overlay, upd, cond_true, cond_false, List.getD_cons_zero, List.getD_cons_succ, Nat.zero_add, Nat.reduceAdd, Nat.reduceEqDiff, reduceIte]
    go_wp2_with fail
    go_ret
    exact ⟨rfl, hb5⟩
  all_goals
    intro x w5 hb5
    intro K hK
    have hS := HS.out.ext hb5
    have hB := hS.buf
    have hX := hS.tx
    have b4 := hB.cell 4
    have x1 := hX.cell 1
    have x3 := hX.cell 3
    have c0 := hS.row
    have lB := hB.lt
    have lX := hX.lt
    have lG := cell_lt c0
    have hlen : ∀ ty, (Builtin.len_ #[92] ty #[.map (some M)]).run Tryd.prog w5 = .ok (.int .i64 1) w5 := fun ty => map_len1 (HM.out.ext hb5) ty
    simp only [List.getElem?_toArray, List.getElem?_cons_zero, List.getElem?_cons_succ] at b4 x1 x3
    clear hS hB hX
    rw [if_pos (by rfl)]; simp only [overlay, upd, cond_true, cond_false, List.getD_cons_zero, List.getD_cons_succ, Nat.reduceEqDiff, reduceIte]
    go_simp
    first
      | exact hK.out _ _ (Below.refl _ _) rfl
      | ((with_reducible refine (HSZ.out _ hb5).mono ?_); rintro e wa ⟨rfl, rfl⟩; go_wp2_with fail; exact hK.out _ _ (Below.refl _ _) rfl)
theorem cells_new (w : World) (cs : Array Value) (t : TypeId) : ∀ j u, cs.toList[j]? = some u → (w.alloc (.cells cs t)).cell? ((⟨w.heap.size, 0, none⟩ : Addr).add j) = some u := by
  intro j u hu
  have h := (Blk.new w cs t).cell j
  rw [Array.getElem?_toList] at hu
  rw [hu] at h
  cases j with
  | zero => exact h
  | succ j => simpa [Addr.add] using h
theorem info_E1 : (Tryd.prog.info? 59).map (fun i => (i.zero, i.size, i.bytes)) = some (some (.agg #[.int .u64 0, .int .i64 0, .int .i64 0, .int .u8 0, .int .i64 0, .slice none 0 0, .slice none 0 0]), 7, 88) := by kernel_rfl
def PeekP (w : World) (r : Ending) (w' : World) : Prop := (∃ C c S d v2, r = .returned (.tuple #[.agg #[.int .u8 2, .int .u64 5, .slice C 1 c, .slice S 1 d], v2, .int .i64 0])) ∧ Below w.heap.size w w'
set_option maxRecDepth 100000 in
set_option maxHeartbeats 3200000 in
theorem peek_full (h : Full B g cg base X N M E cb cc b1 sb sc b2 s g6 cg6 b6 w) :
    Calls Tryd.prog 12 #[.pointer (some ⟨B, 0, none⟩)] w (PeekP w) := by
  obtain ⟨i3, hi3, hy0, hy1, hy2⟩ := info_parts info_E1
  go_enter Tryd.func12, Tryd.ntmps12
  go_upto_region 1 with fail
  have h1 : Blk (w.alloc (.cells #[.int .u8 0, .int .u64 0, .slice none 0 0, .slice none 0 0] 50)) w.heap.size #[.int .u8 0, .int .u64 0, .slice none 0 0, .slice none 0 0] 50 := Blk.new w _ _
  have hC : Below w.heap.size w (w.alloc (.cells #[.int .u8 0, .int .u64 0, .slice none 0 0, .slice none 0 0] 50)) := (by repeat (first | exact Below.refl _ _ | assumption | refine Below.drew ?_ | refine below_drewN ?_ _ | refine Below.alloc ?_ (by simp <;> omega) _))
  have HF := Lib.hid (h.ext hC)
  have HMB := Lib.hid h1
  have HC := Lib.hid hC
  clear h1 hC h
  generalize w.alloc (.cells #[.int .u8 0, .int .u64 0, .slice none 0 0, .slice none 0 0] 50) = W0 at HF HMB HC ⊢
  generalize hmb : w.heap.size = mb at HMB ⊢
  have HMBE := Lib.hid hmb
  clear hmb
  go_wp2_with fail
  refine (fault_ok B 1 cg (some ⟨g, 0, none⟩) 1 2 5 0 true W0 HF.out.1.buf).mono ?_
  rintro r w1 ⟨rfl, rfl⟩
  go_wp2_with fail
  refine (ready_full HF.out).mono ?_
  rintro r w1 ⟨rfl, hb⟩
  have HF := Lib.hid (HF.out.ext hb)
  have HMB := Lib.hid (HMB.out.ext hb)
  have HC := Lib.hid (bt HC.out hb)
  clear hb
  have b4 := HF.out.1.buf.cell 4
  have lB := HF.out.1.buf.lt
  have c0 := HF.out.1.row
  have lG := cell_lt c0
  have x3 := HF.out.1.tx.cell 3
  have lX := HF.out.1.tx.lt
  simp only [List.getElem?_toArray, List.getElem?_cons_zero, List.getElem?_cons_succ] at b4 x3
  go_wp2_with fail
  refine (HF.out.1.size).mono ?_
  rintro r w2 ⟨rfl, rfl⟩
  have hlk := map_look1 HF.out.2.1
  unfold EVv at hlk
  go_wp2_with fail
  refine wp_loop_rounds 2 ?_
  rw [rounds_succ]
  go_upto_region 11 with fail
  have hE : Blk (w1.alloc (.cells #[.int .u64 5, .int .i64 0, .int .i64 0, .int .u8 1, .int .i64 0, .slice none 0 0, .slice (some ⟨g6, 0, none⟩) 1 cg6] 59)) w1.heap.size #[.int .u64 5, .int .i64 0, .int .i64 0, .int .u8 1, .int .i64 0, .slice none 0 0, .slice (some ⟨g6, 0, none⟩) 1 cg6] 59 := Blk.new _ _ _
  have hCE : Below w1.heap.size w1 (w1.alloc (.cells #[.int .u64 5, .int .i64 0, .int .i64 0, .int .u8 1, .int .i64 0, .slice none 0 0, .slice (some ⟨g6, 0, none⟩) 1 cg6] 59)) := (by repeat (first | exact Below.refl _ _ | assumption | refine Below.drew ?_ | refine below_drewN ?_ _ | refine Below.alloc ?_ (by simp <;> omega) _))
  have hpw : w.heap.size ≤ w1.heap.size := HC.out.size
  have HP := Lib.hid hE
  have HF := Lib.hid (HF.out.ext hCE)
  have HMB := Lib.hid (HMB.out.ext hCE)
  have HC := Lib.hid (bt HC.out hCE)
  clear hE hCE b4 lB c0 lG x3 lX hlk
  generalize w1.alloc (.cells #[.int .u64 5, .int .i64 0, .int .i64 0, .int .u8 1, .int .i64 0, .slice none 0 0, .slice (some ⟨g6, 0, none⟩) 1 cg6] 59) = W1 at HP HF HMB HC ⊢
  generalize w1.heap.size = p at HP hpw ⊢
  have HC1 := Lib.hid (fun (W : World) (hW : Below W1.heap.size W1 W) => clone_none W)
  have HC2 := Lib.hid (fun (W : World) (hW : Below W1.heap.size W1 W) => clone_val g6 cg6 W (fun j u hu => (own_below HF.out.2.2 hW).cells (g := g6) rfl j u hu))
  refine region_tail 10 [false, false, false, false, false, false, false, false, false, false, false, false, false, false, false, false, false, false, false, false, false, false, false, false, false, false, false, false, false, false, false, false, false, false, false, false, true, true, true, true, true, true, true, true, true, true, false, false, false, false, false, false, false, false, false, false, false, false, false, false, false, false, false, false, false, false, false, false, false] [36, 37, 38, 39, 40, 41, 42, 43, 44, 45] [.val (.pointer (some ⟨p, 3, none⟩)), .val (.pointer (some ⟨p, 5, none⟩)), .val (.slice none 0 0), .val (.slice none 0 0), .val (.pointer (some ⟨p, 3, none⟩)), .val (.pointer (some ⟨p, 6, none⟩)), .val (.slice (some ⟨g6, 0, none⟩) 1 cg6), kClv, .val (.pointer (some ⟨p, 3, none⟩)), .val (.pointer (some ⟨p, 5, none⟩))] [3, 7, 9] (by kernel_rfl) (by decide) (by kernel_rfl) (by kernel_rfl) (by kernel_rfl) (by kernel_rfl) (by kernel_rfl) (by kernel_rfl) ⟨?_, ?_, ?_, ?_, ?_, ?_, ?_, ?_, ?_, ?_, trivial⟩ ?done
  case done =>
    intro x w5 hb5
    simp only [StepGoal, List.getD_cons_zero, List.getD_cons_succ]
    rintro _ ⟨g7, cg7, b7, rfl, ho7⟩
    have hPk := HP.out.ext hb5
    have hF5 := HF.out.ext hb5
    have hM5 := HMB.out.ext hb5
    have hC5 : Below w.heap.size w w5 := bt HC.out hb5
    have n1 := blk_ne' hM5 hPk (by decide)
    clear hb5 HC1 HC2 HF HMB HC HP ho7
    obtain ⟨w6, rfl, lt⟩ := blk_put hPk
    have HF : Hid (Full B g cg base X N M E cb cc b1 sb sc b2 s g6 cg6 b6 (putBlk w6 p #[.int .u64 5, .int .i64 0, .int .i64 0, .int .u8 1, .int .i64 0, .slice none 0 0, .slice (some ⟨g7, 0, none⟩) 1 cg7] 59)) := ⟨hF5.1.put lt (by decide) _, map_put hF5.2.1 lt _, own_put hF5.2.2 lt (by decide) _⟩
    have HMB := Lib.hid (putBlk_old hM5 n1 #[.int .u64 5, .int .i64 0, .int .i64 0, .int .u8 1, .int .i64 0, .slice none 0 0, .slice (some ⟨g7, 0, none⟩) 1 cg7])
    have HC := Lib.hid (putBlk_belows hC5 hpw #[.int .u64 5, .int .i64 0, .int .i64 0, .int .u8 1, .int .i64 0, .slice none 0 0, .slice (some ⟨g7, 0, none⟩) 1 cg7])
    obtain ⟨pc, pf, pS⟩ := putBlk_facts (w := w6) 59 lt
    clear hPk hF5 hM5 hC5 n1
    intro K1 hK1
    rw [if_pos (by rfl)]; simp only [overlay, upd, cond_true, cond_false, Nat.reduceEqDiff, reduceIte]
    go_simp
    refine hK1.out _ _ ?_
    intro K2 hK2
    rw [if_pos (by rfl)]
    go_simp
    refine hK2.out _ _ ?_
    intro K3 hK3
    rw [if_pos (by rfl)]
    go_simp
    refine hK3.out _ _ ?_
    intro K4 hK4
    rw [if_pos (by rfl)]
    go_simp
    refine hK4.out _ _ (TailB.nil ?_)
    go_wp2_with (at_builtin; refine wpList_append_grows _ rfl _ _ 51 rfl 59 i3 _ 7 88 Tryd.underlying51 hi3 hy0 hy1 hy2 rfl (by decide) none 0 0 [] rfl (fun _ => ⟨rfl, rfl⟩) rfl (fun b h => by cases h) ⟨_, 0, none⟩ 1 1 [.int .u64 5, .int .i64 0, .int .i64 0, .int .u8 1, .int .i64 0, .slice none 0 0, .slice (some ⟨g7, 0, none⟩) 1 cg7] rfl rfl ?k1 (by simp [Value.oneCell']) (by omega) (by simp only [maxLen]; omega) (by omega) ?_)
    case k1 => exact cells_new _ _ _
    intro v' w2 hown hg
    have hA : Below (putBlk w6 p #[.int .u64 5, .int .i64 0, .int .i64 0, .int .u8 1, .int .i64 0, .slice none 0 0, .slice (some ⟨g7, 0, none⟩) 1 cg7] 59).heap.size (putBlk w6 p #[.int .u64 5, .int .i64 0, .int .i64 0, .int .u8 1, .int .i64 0, .slice none 0 0, .slice (some ⟨g7, 0, none⟩) 1 cg7] 59) w2 := ((Below.refl _ _).alloc (Nat.le_refl _) _).grown hg (by simp) (by simp)
    clear hown hg
    have hF := HF.out.ext hA
    have hM := HMB.out.ext hA
    have hC := bt HC.out hA
    clear hA HF HMB HC pc pf pS lt
    obtain ⟨w8, rfl, lt⟩ := blk_put hM
    obtain ⟨pc, pf, pS⟩ := putBlk_facts (w := w8) 50 lt
    have HO1 := Lib.hid (own_put hF.1.2.2.2.1 lt (by decide) #[.int .u8 2, .int .u64 5, .slice (some ⟨cb, 0, none⟩) 1 cc, .slice (some ⟨sb, 0, none⟩) 1 sc])
    have HO2 := Lib.hid (own_put hF.1.2.2.2.2 lt (by decide) #[.int .u8 2, .int .u64 5, .slice (some ⟨cb, 0, none⟩) 1 cc, .slice (some ⟨sb, 0, none⟩) 1 sc])
    have HC := Lib.hid (putBlk_belows hC (by rw [HMBE.out]; exact Nat.le_refl _) #[.int .u8 2, .int .u64 5, .slice (some ⟨cb, 0, none⟩) 1 cc, .slice (some ⟨sb, 0, none⟩) 1 sc])
    have x1 := hF.1.tx.cell 1
    have lX := hF.1.tx.lt
    have e0 := hF.1.mk.cell 0
    have e1 := hF.1.mk.cell 1
    have e2 := hF.1.mk.cell 2
    have e3 := hF.1.mk.cell 3
    have lE := hF.1.mk.lt
    simp only [List.getElem?_toArray, List.getElem?_cons_zero, List.getElem?_cons_succ] at x1 e0 e1 e2 e3
    clear hF hM hC
    go_wp2_with fail
    rw [rounds_succ]
    go_upto_region 15 with fail
    clear x1 e0 e1 e2 e3
    have HMB := Lib.hid (putBlk_blk (w := w8) #[.int .u8 2, .int .u64 5, .slice (some ⟨cb, 0, none⟩) 1 cc, .slice (some ⟨sb, 0, none⟩) 1 sc] 50 lt)
    clear pc pf pS
    generalize putBlk w8 mb #[.int .u8 2, .int .u64 5, .slice (some ⟨cb, 0, none⟩) 1 cc, .slice (some ⟨sb, 0, none⟩) 1 sc] 50 = W3 at HO1 HO2 HC HMB ⊢
    have HC1 := Lib.hid (fun (W : World) (hW : Below W3.heap.size W3 W) => clone_int cb 0 cc 1 W ((own_below HO1.out hW).cells (g := cb) rfl 0 _ rfl))
    have HC2 := Lib.hid (fun (W : World) (hW : Below W3.heap.size W3 W) => clone_uint sb 0 sc s W ((own_below HO2.out hW).cells (g := sb) rfl 0 _ rfl))
    refine region_tail 7 [false, false, false, false, false, false, false, false, false, false, false, false, false, false, false, false, false, false, false, false, false, false, false, false, false, false, false, false, false, false, false, false, false, false, false, false, false, false, false, false, false, false, false, false, false, false, false, false, false, false, false, false, false, false, false, false, false, false, false, true, true, true, true, true, true, true, false, false, false] [59, 60, 61, 62, 63, 64, 65] [.val (.pointer (some ⟨mb, 2, none⟩)), .val (.slice (some ⟨cb, 0, none⟩) 1 cc), kCl (.int .i64 1) 3, .val (.pointer (some ⟨mb, 3, none⟩)), .val (.slice (some ⟨sb, 0, none⟩) 1 sc), kCl (.int .u64 s) 29, .val (.pointer (some ⟨mb, 2, none⟩))] [2, 5, 6] (by kernel_rfl) (by decide) (by kernel_rfl) (by kernel_rfl) (by kernel_rfl) (by kernel_rfl) (by kernel_rfl) (by kernel_rfl) ⟨?_, ?_, ?_, ?_, ?_, ?_, ?_, trivial⟩ ?done
    case done =>
      intro x w9 hb9
      simp only [StepGoal, List.getD_cons_zero, List.getD_cons_succ]
      rintro _ ⟨cb', cc', b1', rfl, ho1⟩ _ ⟨sb', sc', b2', rfl, ho2⟩
      have hMk := HMB.out.ext hb9
      have hC9 : Below w.heap.size w w9 := bt HC.out hb9
      clear hb9 HC1 HC2 HO1 HO2 HMB HC ho1 ho2
      obtain ⟨wa, rfl, lta⟩ := blk_put hMk
      have HC := Lib.hid (putBlk_belows hC9 (by rw [HMBE.out]; exact Nat.le_refl _) #[.int .u8 2, .int .u64 5, .slice (some ⟨cb', 0, none⟩) 1 cc', .slice (some ⟨sb', 0, none⟩) 1 sc'])
      obtain ⟨pc, pf, pS⟩ := putBlk_facts (w := wa) 50 lta
      clear hMk hC9
      intro K1 hK1
      rw [if_pos (by rfl)]; simp only [overlay, upd, cond_true, cond_false, Nat.reduceEqDiff, reduceIte]
      go_simp
      refine hK1.out _ _ ?_
      intro K2 hK2
      rw [if_pos (by rfl)]
      go_simp
      refine hK2.out _ _ ?_
      intro K3 hK3
      rw [if_pos (by rfl)]
      go_simp
      refine hK3.out _ _ (TailB.nil ?_)
      go_wp2_with fail
      refine bodyPost_ret (v := .tuple #[.agg #[.int .u8 2, .int .u64 5, .slice (some ⟨cb', 0, none⟩) 1 cc', .slice (some ⟨sb', 0, none⟩) 1 sc'], v', .int .i64 0]) (by simp [results, Tryd.results12, go_sem, pc]) rfl ?_
      exact ⟨⟨_, _, _, _, _, rfl⟩, HC.out⟩
    case refine_3 =>
      intro x w9 hb9 K hK
      rw [if_pos (by rfl)]; simp only [overlay, upd, cond_true, cond_false, List.getD_cons_zero, List.getD_cons_succ, Nat.reduceEqDiff, reduceIte]
      go_simp
      (with_reducible refine (HC1.out _ hb9).mono ?_)
      rintro e wa ⟨hba, hcl⟩
      obtain ⟨g1, cg1, bs1, rfl, ho1⟩ := hcl
      go_wp2_with fail
      exact hK.out _ _ hba ⟨g1, cg1, bs1, rfl, ho1⟩
    case refine_6 =>
      intro x w9 hb9
      rintro _ ⟨g0, cg0, bs0, rfl, ho0⟩
      intro K hK
      rw [if_pos (by rfl)]; simp only [overlay, upd, cond_true, cond_false, List.getD_cons_zero, List.getD_cons_succ, Nat.reduceEqDiff, reduceIte]
      go_simp
      (with_reducible refine (HC2.out _ hb9).mono ?_)
      rintro e wa ⟨hba, hcl⟩
      obtain ⟨g1, cg1, bs1, rfl, ho1⟩ := hcl
      go_wp2_with fail
      exact hK.out _ _ hba ⟨g1, cg1, bs1, rfl, ho1⟩
    case refine_7 =>
      intro x w9 hb9 _ _ K hK
      rw [if_pos (by rfl)]; simp only [overlay, upd, cond_true, cond_false, List.getD_cons_zero, List.getD_cons_succ, Nat.reduceEqDiff, reduceIte]
      go_simp
      exact hK.out _ _ (Below.refl _ _) rfl
    all_goals
      intro x w5 hb5
      intro K hK
      have hM := HMB.out.ext hb5
      have m2 := hM.cell 2
      have m3 := hM.cell 3
      have lM := hM.lt
      simp only [List.getElem?_toArray, List.getElem?_cons_zero, List.getElem?_cons_succ] at m2 m3
      clear hM
      rw [if_pos (by rfl)]; simp only [overlay, upd, cond_true, cond_false, List.getD_cons_zero, List.getD_cons_succ, Nat.reduceEqDiff, reduceIte]
      go_simp
      exact hK.out _ _ (Below.refl _ _) rfl
  case refine_4 =>
    intro x w5 hb5 K hK
    rw [if_pos (by rfl)]; simp only [overlay, upd, cond_true, cond_false, List.getD_cons_zero, List.getD_cons_succ, Nat.reduceEqDiff, reduceIte]
    go_simp
    (with_reducible refine (HC1.out _ hb5).mono ?_)
    rintro e wa ⟨rfl, rfl⟩
    go_wp2_with fail
    exact hK.out _ _ (Below.refl _ _) rfl
  case refine_8 =>
    intro x w5 hb5 K hK
    rw [if_pos (by rfl)]; simp only [overlay, upd, cond_true, cond_false, List.getD_cons_zero, List.getD_cons_succ, Nat.reduceEqDiff, reduceIte]
    go_simp
    (with_reducible refine (HC2.out _ hb5).mono ?_)
    rintro e wa ⟨hba, hcl⟩
    obtain ⟨g1, cg1, bs1, rfl, ho1⟩ := hcl
    go_wp2_with fail
    exact hK.out _ _ hba ⟨g1, cg1, bs1, rfl, ho1⟩
  all_goals
    intro x w5 hb5
    intro K hK
    have hP := HP.out.ext hb5
    have p5 := hP.cell 5
    have p6 := hP.cell 6
    have lP := hP.lt
    simp only [List.getElem?_toArray, List.getElem?_cons_zero, List.getElem?_cons_succ] at p5 p6
    clear hP
    rw [if_pos (by rfl)]; simp only [overlay, upd, cond_true, cond_false, List.getD_cons_zero, List.getD_cons_succ, Nat.reduceEqDiff, reduceIte]
    go_simp
    exact hK.out _ _ (Below.refl _ _) rfl
def DropP (B : Nat) (w : World) (r : Ending) (w' : World) : Prop := r = .returned (.int .i64 0) ∧ Below B w w' ∧ ∃ A, Blk w' B #[.int .i64 1, .int .i64 2, .int .u64 6, .bool true, .slice A 0 0, .int .i64 0] 85
set_option maxRecDepth 100000 in
set_option maxHeartbeats 1600000 in
theorem drop_full (h : Full B g cg base X N M E cb cc b1 sb sc b2 s g6 cg6 b6 w) :
    Calls Tryd.prog 13 #[.pointer (some ⟨B, 0, none⟩)] w (DropP B w) := by
  have HPK := Lib.hid (peek_full h)
  have HF := Lib.hid h
  have hBw := h.1.buf.lt
  have hcg : (1 : Int) ≤ cg := by
    obtain ⟨_, _, h1, _⟩ := own_blk h.1.1.2
    omega
  clear h
  go_enter Tryd.func13, Tryd.ntmps13
  go_wp2_with fail
  refine HPK.out.mono ?_
  rintro r w1 ⟨⟨C, c, S, d, v2, rfl⟩, hb⟩
  have HF := Lib.hid (HF.out.ext hb)
  have HC := Lib.hid hb
  clear hb HPK
  go_upto_region 4 with fail
  have hCA : Below w1.heap.size w1 (w1.alloc (.cells #[.int .u8 2, .int .u64 5, .slice C 1 c, .slice S 1 d] 50)) := (by repeat (first | exact Below.refl _ _ | assumption | refine Below.drew ?_ | refine below_drewN ?_ _ | refine Below.alloc ?_ (by simp <;> omega) _))
  have HB := Lib.hid (HF.out.1.buf.ext hCA)
  have HC : Hid (Below w.heap.size w (w1.alloc (.cells #[.int .u8 2, .int .u64 5, .slice C 1 c, .slice S 1 d] 50))) := bt HC.out hCA
  clear hCA HF
  generalize w1.alloc (.cells #[.int .u8 2, .int .u64 5, .slice C 1 c, .slice S 1 d] 50) = W1 at HB HC ⊢
  refine region_last 18 _ [false, false, false, false, false, false, false, false, false, false, false, false, false, false, false, true, true, true, true, true, true, true, true, true, true, true, true, true, true, true, true, true, true, false, false, false, false, false, false, false, false, false, false, false, false, false, false, false, false, false, false, false, false, false, false, false, false, false, false, false, false, false, false, false, false, false, false, false, false, false, false, false, false, false, false] [15, 16, 17, 18, 19, 20, 21, 22, 23, 24, 25, 26, 27, 28, 29, 30, 31, 32] [.val (.pointer (some ⟨B, 0, none⟩)), .val (.pointer (some ⟨B, 0, none⟩)), .val (.pointer (some ⟨B, 0, none⟩)), .val (.pointer (some ⟨B, 4, none⟩)), .val (.slice (some ⟨g, 0, none⟩) 1 cg), .val (.pointer (some ⟨B, 0, none⟩)), .val (.pointer (some ⟨B, 0, none⟩)), .val (.pointer (some ⟨B, 4, none⟩)), .val (.slice (some ⟨g, 0, none⟩) 1 cg), .val (.int .i64 1), .val (.pointer (some ⟨B, 0, none⟩)), .val (.pointer (some ⟨B, 0, none⟩)), .val (.pointer (some ⟨B, 4, none⟩)), .val (.slice (some ⟨g, 0, none⟩) 1 cg), .val (.int .i64 1), .val (.slice (some ⟨g, 0, none⟩) 0 0), .val (.pointer (some ⟨B, 0, none⟩)), .val (.pointer (some ⟨B, 4, none⟩))] [15, 17] (by kernel_rfl) (by kernel_rfl) rfl (by kernel_rfl) (by kernel_rfl) (by kernel_rfl) (by kernel_rfl) (by kernel_rfl) ⟨?_, ?_, ?_, ?_, ?_, ?_, ?_, ?_, ?_, ?_, ?_, ?_, ?_, ?_, ?_, ?_, ?_, ?_, trivial⟩ ?done
  case done =>
    intro x w5 hb5
    simp only [StepGoal, List.getD_cons_zero, List.getD_cons_succ]
    have hB := HB.out.ext hb5
    have hC : Below B w w5 := (bt HC.out hb5).mono (Nat.le_of_lt hBw)
    clear hb5 HB HC
    obtain ⟨w6, rfl, lt⟩ := blk_put hB
    have HC := Lib.hid (putBlk_belows hC (Nat.le_refl B) #[.int .i64 1, .int .i64 2, .int .u64 6, .bool true, .slice (some ⟨g, 0, none⟩) 0 0, .int .i64 0])
    obtain ⟨pc, pf, pS⟩ := putBlk_facts (w := w6) 85 lt
    clear hB hC
    intro K hK
    rw [if_pos (by rfl)]; simp only [overlay, upd, cond_true, cond_false, Nat.reduceEqDiff, reduceIte]
    go_simp
    refine hK.out _ _ ?_
    go_upto_region 6 with fail
    have HB := Lib.hid (putBlk_blk (w := w6) #[.int .i64 1, .int .i64 2, .int .u64 6, .bool true, .slice (some ⟨g, 0, none⟩) 0 0, .int .i64 0] 85 lt)
    clear pc pf pS lt
    generalize putBlk w6 B #[.int .i64 1, .int .i64 2, .int .u64 6, .bool true, .slice (some ⟨g, 0, none⟩) 0 0, .int .i64 0] 85 = W2 at HB HC ⊢
    generalize (some ⟨g, 0, none⟩ : Option Addr) = A at HB ⊢
    refine region_grow [false, false, false, false, false, false, false, false, false, false, false, false, false, false, false, false, false, false, false, false, false, false, false, false, false, false, false, false, false, false, false, false, false, false, false, false, false, false, false, false, true, true, true, true, true, true, true, true, true, true, true, true, true, true, true, true, true, true, true, true, true, true, true, true, true, true, true, true, true, true, true, true, false, false, false] [40, 41, 42, 43, 44, 45, 46, 47, 48, 49, 50, 51, 52, 53, 54, 55, 56, 57, 58, 59, 60, 61, 62, 63, 64, 65, 66, 67, 68, 69, 70, 71] [.val (.pointer (some ⟨B, 0, none⟩)), .val (.pointer (some ⟨B, 0, none⟩)), .val (.pointer (some ⟨B, 4, none⟩)), .val (.slice A 0 0), .val (.int .i64 0), .val (.bool false), .val (.bool false), .val undef, .val undef, .val undef, .val undef, .val undef, .val undef, .val undef, .val undef, .val undef, .val undef, .val (.bool false), .val (.bool false), .val undef, .val undef, .val undef, .val undef, .val undef, .val undef, .val undef, .val undef, .val undef, .val undef, .val undef, .val undef, .val (.bool false)] [31] (by kernel_rfl) (by kernel_rfl) (by kernel_rfl) (by kernel_rfl) (by kernel_rfl) ⟨?_, ?_, ?_, ?_, ?_, ?_, ?_, ?_, ?_, ?_, ?_, ?_, ?_, ?_, ?_, ?_, ?_, ?_, ?_, ?_, ?_, ?_, ?_, ?_, ?_, ?_, ?_, ?_, ?_, ?_, ?_, ?_, trivial⟩ ?done
    case done =>
      intro x w5 hb5
      simp only [StepGoal, overlay, upd, cond_true, cond_false, List.getD_cons_zero, List.getD_cons_succ, Nat.zero_add, Nat.reduceAdd, Nat.reduceEqDiff, reduceIte]
      go_wp2_with fail
      go_ret
      exact ⟨rfl, HC.out.trans (hb5.mono (Nat.le_of_lt HB.out.lt)), A, HB.out.ext hb5⟩
    all_goals
      intro x w5 hb5
      intro K hK
      have hB := HB.out.ext hb5
      have b4 := hB.cell 4
      have lB := hB.lt
      simp only [List.getElem?_toArray, List.getElem?_cons_zero, List.getElem?_cons_succ] at b4
      clear hB
      first
        | (rw [if_neg (by exact Bool.false_ne_true)]; exact hK.out _ _ (Below.refl _ _) rfl)
        | (rw [if_pos (by rfl)]; simp only [overlay, upd, cond_true, cond_false, List.getD_cons_zero, List.getD_cons_succ, Nat.reduceEqDiff, reduceIte]
           go_simp
           exact hK.out _ _ (Below.refl _ _) rfl)
  all_goals
    intro x w5 hb5
    intro K hK
    have hB := HB.out.ext hb5
    have b4 := hB.cell 4
    have lB := hB.lt
    simp only [List.getElem?_toArray, List.getElem?_cons_zero, List.getElem?_cons_succ] at b4
    clear hB
    rw [if_pos (by rfl)]; simp only [overlay, upd, cond_true, cond_false, List.getD_cons_zero, List.getD_cons_succ, Nat.reduceEqDiff, reduceIte]
    go_simp
    exact hK.out _ _ (Below.refl _ _) rfl
end Go.Proofs.YtkfhfegogmlchaaDoor
