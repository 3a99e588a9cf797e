/- Several texts in one: see each part's head. -/
import Derived.Test.YtjdfodmialhakaaDoorBf5
/- BufferNil: Mark, at the states of the chapter's example. -/
namespace Go.Proofs.YtjdfodmialhakaaDoor
open Go.RowKit

theorem nrow_one {w : World} {b : Nat} {q : IntKind} {v : Int} (h : w.cell? ⟨b, 0, none⟩ = some (.int q v)) : NRow q w (some ⟨b, 0, none⟩) [v] := by
  refine ⟨by simp, fun _ => ⟨b, 0, rfl, cell_lt h, fun i u hi => ?_⟩⟩
  match i, hi with
  | 0, hi =>
    have : u = v := by simpa using hi.symm
    subst this
    exact h
  | i + 1, hi => simp at hi
set_option maxRecDepth 100000 in
set_option maxHeartbeats 800000 in
theorem mark1_begin (p q B sb : Nat) (A : Option Addr) (nx s : Int) (w : World) (hp : Blk w p #[.int .u8 1, .int .u64 nx, .slice none 0 0, .slice (some ⟨sb, 0, none⟩) 1 1] 48) (hq : Blk w q #[.pointer (some ⟨B, 0, none⟩)] 57)
    (hb : Blk w B #[.int .i64 1, .int .i64 2, .int .u64 nx, .bool true, .slice A 0 0, .int .i64 0] 146) (hn : 0 ≤ nx ∧ nx ≤ 100) (hs : 0 ≤ s ∧ s ≤ 100) :
    Calls Tryd.prog 110 #[.pointer (some ⟨p, 0, none⟩), .pointer (some ⟨q, 0, none⟩)] w (BegunP nx B w) := by
  have HCM := Lib.hid (fun (W : World) (hW : Below w.heap.size w W) => (show Calls Tryd.prog 64 #[.agg #[.int .u8 1, .int .u64 nx, .slice none 0 0, .slice (some ⟨sb, 0, none⟩) 1 1]] W fun e w' => e = .returned (.int .i64 0) ∧ Below W.heap.size W w' from
    ckmark_any ⟨1, nx, [], [s]⟩ none (some ⟨sb, 0, none⟩) 0 1 W ⟨by simp, by simp; omega, by simp, by simp; omega⟩ (NRow.nil _ _ _) (by simp)))
  have HBG := Lib.hid (fun (W : World) (hW : Below w.heap.size w W) => begin_ok B A none (some ⟨sb, 0, none⟩) 0 0 1 1 nx W (hb.ext hW))
  have HP := Lib.hid hp
  have HQ := Lib.hid hq
  have HB := Lib.hid hb
  have hBl := hb.lt
  clear hp hq hb
  go_enter Tryd.func110, Tryd.ntmps110
  go_upto_region 1 with fail
  refine region_grow [false, false, false, false, true, true, true, true, true, true, true, true, true, true, true, true, true, false, false, false, false, false, false, false, false, false, false, false, false, false] [4, 5, 6, 7, 8, 9, 10, 11, 12, 13, 14, 15, 16] [.val (.agg #[.int .u8 1, .int .u64 nx, .slice none 0 0, .slice (some ⟨sb, 0, none⟩) 1 1]), .val (.int .i64 0), .val (.bool false), .val (.bool false), .val (.pointer (some ⟨p, 3, none⟩)), .val (.slice (some ⟨sb, 0, none⟩) 1 1), .val (.int .i64 1), .val (.pointer (some ⟨B, 0, none⟩)), .val (.pointer (some ⟨B, 0, none⟩)), .val (.pointer (some ⟨B, 0, none⟩)), .val (.int .i64 1), .val (.bool false), .val (.bool false)] [12] (by kernel_rfl) (by kernel_rfl) (by kernel_rfl) (by kernel_rfl) (by kernel_rfl) ⟨?_, ?_, ?_, ?_, ?_, ?_, ?_, ?_, ?_, ?_, ?_, ?_, ?_, trivial⟩ ?done
  case done =>
    intro x w5 hb5
    simp only [StepGoal, overlay, upd, cond_true, cond_false, List.getD_cons_zero, List.getD_cons_succ, Nat.zero_add, Nat.reduceAdd, Nat.reduceEqDiff, reduceIte]
    have HP := Lib.hid (HP.out.ext hb5)
    have HQ := Lib.hid (HQ.out.ext hb5)
    have HC := Lib.hid hb5
    clear hb5
    have p0 := HP.out.cell 0
    have p1 := HP.out.cell 1
    have p2 := HP.out.cell 2
    have p3 := HP.out.cell 3
    have q0 := HQ.out.cell 0
    have lP := HP.out.lt
    have lQ := HQ.out.lt
    simp only [List.getElem?_toArray, List.getElem?_cons_zero, List.getElem?_cons_succ] at p0 p1 p2 p3 q0
    go_wp2_with fail
    refine (HBG.out w5 HC.out).mono ?_
    rintro r w6 ⟨hbel, g, cg, base, X, N, M, rfl, h1, h2⟩
    go_wp2_with fail
    go_ret2
    exact ⟨(HC.out.mono (Nat.le_of_lt hBl)).trans hbel, g, cg, base, X, N, M, rfl, h1, h2⟩
  all_goals
    intro x w5 hb5
    intro K hK
    have hP := HP.out.ext hb5
    have hQ := HQ.out.ext hb5
    have hB := HB.out.ext hb5
    have p0 := hP.cell 0
    have p1 := hP.cell 1
    have p2 := hP.cell 2
    have p3 := hP.cell 3
    have q0 := hQ.cell 0
    have b0 := hB.cell 0
    have lP := hP.lt
    have lQ := hQ.lt
    have lB := hB.lt
    simp only [List.getElem?_toArray, List.getElem?_cons_zero, List.getElem?_cons_succ] at p0 p1 p2 p3 q0 b0
    rw [if_pos (by rfl)]; simp only [overlay, upd, cond_true, cond_false, List.getD_cons_zero, List.getD_cons_succ, Nat.reduceEqDiff, reduceIte]
    go_simp
    first
      | exact hK.out _ _ (Below.refl _ _) rfl
      | ((with_reducible refine (HCM.out _ hb5).mono ?_); rintro e wa ⟨rfl, hba⟩; go_wp2_with fail; exact hK.out _ _ hba rfl)
set_option maxRecDepth 100000 in
set_option maxHeartbeats 800000 in
theorem mark1_end (p q B g cg base X N M cb sb : Nat) (nx k s : Int) (w : World) (hp : Blk w p #[.int .u8 2, .int .u64 nx, .slice (some ⟨cb, 0, none⟩) 1 1, .slice (some ⟨sb, 0, none⟩) 1 1] 48) (hq : Blk w q #[.pointer (some ⟨B, 0, none⟩)] 57)
    (hbg : Bg nx 0 B g cg base X w) (ht : TxI B nx X N M w) (hc : w.cell? ⟨cb, 0, none⟩ = some (.int .i64 k)) (hs : w.cell? ⟨sb, 0, none⟩ = some (.int .u64 s)) (hn : 0 ≤ nx ∧ nx ≤ 100) (hk : 0 ≤ k ∧ k ≤ 100) (hs0 : 0 ≤ s ∧ s ≤ 100) :
    Calls Tryd.prog 110 #[.pointer (some ⟨p, 0, none⟩), .pointer (some ⟨q, 0, none⟩)] w (FinP nx k B w) := by
  have hmk : mkB ⟨2, nx, [k], [s]⟩ = true := by unfold mkB cntB; simp; omega
  have HCM := Lib.hid (fun (W : World) (hW : Below w.heap.size w W) => (show Calls Tryd.prog 64 #[.agg #[.int .u8 2, .int .u64 nx, .slice (some ⟨cb, 0, none⟩) 1 1, .slice (some ⟨sb, 0, none⟩) 1 1]] W fun e w' => e = .returned (.int .i64 0) ∧ Below W.heap.size W w' from by
    have h := ckmark_any ⟨2, nx, [k], [s]⟩ (some ⟨cb, 0, none⟩) (some ⟨sb, 0, none⟩) 1 1 W ⟨by simp, by simp; omega, by simp; omega, by simp; omega⟩ ((nrow_one hc).ext hW) (by simp)
    rw [okE_t' hmk] at h
    exact h))
  have HFN := Lib.hid (fun (W : World) (hW : Below w.heap.size w W) => finish_any B g cg base X N M cb 1 sb 1 nx k s W ⟨hbg.1.ext hW, own_below hbg.2 hW⟩ (ht.ext hW) ((hW.cell (p := ⟨cb, 0, none⟩) (cell_lt hc)).trans hc) ((hW.cell (p := ⟨sb, 0, none⟩) (cell_lt hs)).trans hs) hk)
  have HP := Lib.hid hp
  have HQ := Lib.hid hq
  have HB := Lib.hid hbg.1
  have hBl := hbg.1.lt
  clear hp hq hbg ht hc hs hmk
  go_enter Tryd.func110, Tryd.ntmps110
  go_upto_region 1 with fail
  refine region_grow [false, false, false, false, true, true, true, true, true, true, true, true, true, true, true, true, true, false, false, false, false, false, false, false, false, false, false, false, false, false] [4, 5, 6, 7, 8, 9, 10, 11, 12, 13, 14, 15, 16] [.val (.agg #[.int .u8 2, .int .u64 nx, .slice (some ⟨cb, 0, none⟩) 1 1, .slice (some ⟨sb, 0, none⟩) 1 1]), .val (.int .i64 0), .val (.bool false), .val (.bool false), .val (.pointer (some ⟨p, 3, none⟩)), .val (.slice (some ⟨sb, 0, none⟩) 1 1), .val (.int .i64 1), .val (.pointer (some ⟨B, 0, none⟩)), .val (.pointer (some ⟨B, 0, none⟩)), .val (.pointer (some ⟨B, 0, none⟩)), .val (.int .i64 1), .val (.bool false), .val (.bool false)] [12] (by kernel_rfl) (by kernel_rfl) (by kernel_rfl) (by kernel_rfl) (by kernel_rfl) ⟨?_, ?_, ?_, ?_, ?_, ?_, ?_, ?_, ?_, ?_, ?_, ?_, ?_, trivial⟩ ?done
  case done =>
    intro x w5 hb5
    simp only [StepGoal, overlay, upd, cond_true, cond_false, List.getD_cons_zero, List.getD_cons_succ, Nat.zero_add, Nat.reduceAdd, Nat.reduceEqDiff, reduceIte]
    have HP := Lib.hid (HP.out.ext hb5)
    have HQ := Lib.hid (HQ.out.ext hb5)
    have HC := Lib.hid hb5
    clear hb5
    have p0 := HP.out.cell 0
    have p1 := HP.out.cell 1
    have p2 := HP.out.cell 2
    have p3 := HP.out.cell 3
    have q0 := HQ.out.cell 0
    have lP := HP.out.lt
    have lQ := HQ.out.lt
    simp only [List.getElem?_toArray, List.getElem?_cons_zero, List.getElem?_cons_succ] at p0 p1 p2 p3 q0
    go_wp2_with fail
    refine (HFN.out w5 HC.out).mono ?_
    rintro r w6 ⟨hbel, g2, cg2, base2, X2, N2, M2, h1, h⟩
    have HBL := Lib.hid ((HC.out.mono (Nat.le_of_lt hBl)).trans hbel)
    rcases h with ⟨hk2, rfl, h2⟩ | ⟨hk2, rfl, h2⟩
    · go_wp2_with fail
      go_ret2
      exact ⟨HBL.out, g2, cg2, base2, X2, N2, M2, h1, Or.inl ⟨hk2, rfl, h2⟩⟩
    · go_wp2_with fail
      go_ret2
      exact ⟨HBL.out, g2, cg2, base2, X2, N2, M2, h1, Or.inr ⟨hk2, rfl, h2⟩⟩
  all_goals
    intro x w5 hb5
    intro K hK
    have hP := HP.out.ext hb5
    have hQ := HQ.out.ext hb5
    have hB := HB.out.ext hb5
    have p0 := hP.cell 0
    have p1 := hP.cell 1
    have p2 := hP.cell 2
    have p3 := hP.cell 3
    have q0 := hQ.cell 0
    have b0 := hB.cell 0
    have lP := hP.lt
    have lQ := hQ.lt
    have lB := hB.lt
    simp only [List.getElem?_toArray, List.getElem?_cons_zero, List.getElem?_cons_succ] at p0 p1 p2 p3 q0 b0
    rw [if_pos (by rfl)]; simp only [overlay, upd, cond_true, cond_false, List.getD_cons_zero, List.getD_cons_succ, Nat.reduceEqDiff, reduceIte]
    go_simp
    first
      | exact hK.out _ _ (Below.refl _ _) rfl
      | ((with_reducible refine (HCM.out _ hb5).mono ?_); rintro e wa ⟨rfl, hba⟩; go_wp2_with fail; exact hK.out _ _ hba rfl)
/-- taken, of a buffer that is not stuck, where what is done answers OK. -/
def OkA (Q : Bool → World → Prop) (r : Ending) (w' : World) : Prop := ∃ is, r = .returned (.tuple #[.bool is, .int .i64 0]) ∧ Q is w'
set_option maxRecDepth 100000 in
theorem taken_mark (B n c p q : Nat) (A : Option Addr) (nx : Int) (Q : Bool → World → Prop) (w : World) (hb : Blk w B #[.int .i64 1, .int .i64 2, .int .u64 nx, .bool true, .slice A n c, .int .i64 0] 146)
    (hd : Calls Tryd.prog 110 #[.pointer (some ⟨p, 0, none⟩), .pointer (some ⟨q, 0, none⟩)] w (OkA Q)) :
    Calls Tryd.prog 109 #[.pointer (some ⟨B, 0, none⟩), .func (.func 40) #[.pointer (some ⟨B, 0, none⟩)] #[], .func (.func 110) #[] #[.pointer (some ⟨p, 0, none⟩), .pointer (some ⟨q, 0, none⟩)]] w (OkA Q) := by
  have HF := Lib.hid (fault_ok B n c A 1 2 nx 0 true w hb)
  have HD := Lib.hid hd
  clear hb hd
  go_enter Tryd.func109, Tryd.ntmps109
  go_wp2_with fail
  refine HF.out.mono ?_
  rintro r w1 ⟨rfl, rfl⟩
  go_wp2_with fail
  refine HD.out.mono ?_
  rintro r w2 ⟨is, rfl, hq⟩
  have HQ := Lib.hid hq
  clear hq
  go_wp2_with fail
  go_ret2
  exact ⟨is, rfl, HQ.out⟩
set_option maxRecDepth 100000 in
theorem taken_event (B n c p q : Nat) (A : Option Addr) (nx : Int) (Q : Bool → World → Prop) (w : World) (hb : Blk w B #[.int .i64 1, .int .i64 2, .int .u64 nx, .bool true, .slice A n c, .int .i64 0] 146)
    (hd : Calls Tryd.prog 113 #[.pointer (some ⟨p, 0, none⟩), .pointer (some ⟨q, 0, none⟩)] w (OkA Q)) :
    Calls Tryd.prog 109 #[.pointer (some ⟨B, 0, none⟩), .func (.func 40) #[.pointer (some ⟨B, 0, none⟩)] #[], .func (.func 113) #[] #[.pointer (some ⟨p, 0, none⟩), .pointer (some ⟨q, 0, none⟩)]] w (OkA Q) := by
  have HF := Lib.hid (fault_ok B n c A 1 2 nx 0 true w hb)
  have HD := Lib.hid hd
  clear hb hd
  go_enter Tryd.func109, Tryd.ntmps109
  go_wp2_with fail
  refine HF.out.mono ?_
  rintro r w1 ⟨rfl, rfl⟩
  go_wp2_with fail
  refine HD.out.mono ?_
  rintro r w2 ⟨is, rfl, hq⟩
  have HQ := Lib.hid hq
  clear hq
  go_wp2_with fail
  go_ret2
  exact ⟨is, rfl, HQ.out⟩
/-- taken, where what is done answers ErrBig: the buffer sticks. -/
def BigA (Q : World → Prop) (r : Ending) (w' : World) : Prop := r = .returned (.tuple #[.bool false, .int .i64 231]) ∧ Q w'
set_option maxRecDepth 100000 in
theorem taken_big (B n c p q : Nat) (A : Option Addr) (nx : Int) (Q : World → Prop) (w : World) (hb : Blk w B #[.int .i64 1, .int .i64 2, .int .u64 nx, .bool true, .slice A n c, .int .i64 0] 146)
    (hQ : ∀ W, Q W → ∃ (A' : Option Addr) (n' c' : Nat), Blk W B #[.int .i64 1, .int .i64 2, .int .u64 nx, .bool true, .slice A' n' c', .int .i64 0] 146)
    (hd : Calls Tryd.prog 110 #[.pointer (some ⟨p, 0, none⟩), .pointer (some ⟨q, 0, none⟩)] w (BigA Q)) :
    Calls Tryd.prog 109 #[.pointer (some ⟨B, 0, none⟩), .func (.func 40) #[.pointer (some ⟨B, 0, none⟩)] #[], .func (.func 110) #[] #[.pointer (some ⟨p, 0, none⟩), .pointer (some ⟨q, 0, none⟩)]] w
      fun r w' => r = .returned (.tuple #[.bool false, .int .i64 231]) ∧ ∃ W A' n' c', Q W ∧ Blk W B #[.int .i64 1, .int .i64 2, .int .u64 nx, .bool true, .slice A' n' c', .int .i64 0] 146 ∧ w' = putBlk W B #[.int .i64 1, .int .i64 2, .int .u64 nx, .bool true, .slice A' n' c', .int .i64 231] 146 := by
  have HF := Lib.hid (fault_ok B n c A 1 2 nx 0 true w hb)
  have HD := Lib.hid hd
  have HQ := Lib.hid hQ
  clear hb hd hQ
  go_enter Tryd.func109, Tryd.ntmps109
  go_wp2_with fail
  refine HF.out.mono ?_
  rintro r w1 ⟨rfl, rfl⟩
  go_wp2_with fail
  refine HD.out.mono ?_
  rintro r w2 ⟨rfl, hq⟩
  obtain ⟨A2, n2, c2, hb2⟩ := HQ.out w2 hq
  have HB2 := Lib.hid hb2
  have HQ2 := Lib.hid hq
  clear hq HQ HF HD
  have e1 : putBlk w2 B #[.int .i64 1, .int .i64 2, .int .u64 nx, .bool true, .slice A2 n2 c2, .int .i64 0] 146 = w2 := putBlk_self hb2
  have lt := hb2.lt
  obtain ⟨pc, pf, pS⟩ := putBlk_facts (w := w2) 146 lt
  clear hb2
  have HE := Lib.hid e1
  rw [← e1]
  clear e1
  go_wp2_with fail
  go_ret2
  exact ⟨rfl, w2, A2, n2, c2, HQ2.out, HB2.out, rfl⟩
end Go.Proofs.YtjdfodmialhakaaDoor

/- BufferNil: Mark and Event, at the states of the chapter's example. -/
namespace Go.Proofs.YtjdfodmialhakaaDoor
open Go.RowKit

set_option maxRecDepth 100000 in
theorem mark_begin (B sb : Nat) (A : Option Addr) (nx s : Int) (w : World) (hb : Blk w B #[.int .i64 1, .int .i64 2, .int .u64 nx, .bool true, .slice A 0 0, .int .i64 0] 146) (hn : 0 ≤ nx ∧ nx ≤ 100) (hs : 0 ≤ s ∧ s ≤ 100) :
    Calls Tryd.prog 33 #[.pointer (some ⟨B, 0, none⟩), .agg #[.int .u8 1, .int .u64 nx, .slice none 0 0, .slice (some ⟨sb, 0, none⟩) 1 1]] w (BegunP nx B w) := by
  have hC : Below w.heap.size w ((w.alloc (.cells #[.pointer (some ⟨B, 0, none⟩)] 57)).alloc (.cells #[.int .u8 1, .int .u64 nx, .slice none 0 0, .slice (some ⟨sb, 0, none⟩) 1 1] 48)) := (by repeat (first | exact Below.refl _ _ | assumption | refine Below.drew ?_ | refine below_drewN ?_ _ | refine Below.alloc ?_ (by simp <;> omega) _))
  have hq : Blk ((w.alloc (.cells #[.pointer (some ⟨B, 0, none⟩)] 57)).alloc (.cells #[.int .u8 1, .int .u64 nx, .slice none 0 0, .slice (some ⟨sb, 0, none⟩) 1 1] 48)) w.heap.size #[.pointer (some ⟨B, 0, none⟩)] 57 := (Blk.new w _ _).old _
  have hp : Blk ((w.alloc (.cells #[.pointer (some ⟨B, 0, none⟩)] 57)).alloc (.cells #[.int .u8 1, .int .u64 nx, .slice none 0 0, .slice (some ⟨sb, 0, none⟩) 1 1] 48)) (w.heap.size + 1) #[.int .u8 1, .int .u64 nx, .slice none 0 0, .slice (some ⟨sb, 0, none⟩) 1 1] 48 := (by repeat (first | exact Blk.at (by simp) | assumption | refine Blk.drew ?_ | refine Blk.old ?_ _))
  have HTK := Lib.hid (taken_mark B 0 0 (w.heap.size + 1) w.heap.size A nx (fun is W => BegunP nx B w (.returned (.tuple #[.bool is, .int .i64 0])) W) _ (hb.ext hC) ((mark1_begin (w.heap.size + 1) w.heap.size B sb A nx s _ hp hq (hb.ext hC) hn hs).mono (by
    rintro r w1 ⟨hbel, g, cg, base, X, N, M, rfl, h1, h2⟩
    exact ⟨true, rfl, (hC.mono (Nat.le_of_lt hb.lt)).trans hbel, g, cg, base, X, N, M, rfl, h1, h2⟩)))
  clear hC hq hp hb
  go_enter Tryd.func33, Tryd.ntmps33
  go_wp2_with fail
  refine HTK.out.mono ?_
  rintro r w2 ⟨is, rfl, hq⟩
  have HQ := Lib.hid hq
  clear hq HTK
  go_wp2_with fail
  go_ret2
  exact HQ.out
set_option maxRecDepth 100000 in
theorem mark_end (B g cg base X N M cb sb : Nat) (nx k s : Int) (w : World) (hbg : Bg nx 0 B g cg base X w) (ht : TxI B nx X N M w) (hc : w.cell? ⟨cb, 0, none⟩ = some (.int .i64 k)) (hs : w.cell? ⟨sb, 0, none⟩ = some (.int .u64 s)) (hn : 0 ≤ nx ∧ nx ≤ 100) (hk : 0 ≤ k ∧ k ≤ 2) (hs0 : 0 ≤ s ∧ s ≤ 100) :
    Calls Tryd.prog 33 #[.pointer (some ⟨B, 0, none⟩), .agg #[.int .u8 2, .int .u64 nx, .slice (some ⟨cb, 0, none⟩) 1 1, .slice (some ⟨sb, 0, none⟩) 1 1]] w
      fun r w' => r = .returned (.tuple #[.bool true, .int .i64 0]) ∧ Below B w w' ∧ ∃ g cg base X N M E, Bg nx 0 B g cg base X w' ∧ TxE B nx k X N M E w' := by
  have hC : Below w.heap.size w ((w.alloc (.cells #[.pointer (some ⟨B, 0, none⟩)] 57)).alloc (.cells #[.int .u8 2, .int .u64 nx, .slice (some ⟨cb, 0, none⟩) 1 1, .slice (some ⟨sb, 0, none⟩) 1 1] 48)) := (by repeat (first | exact Below.refl _ _ | assumption | refine Below.drew ?_ | refine below_drewN ?_ _ | refine Below.alloc ?_ (by simp <;> omega) _))
  have hq : Blk ((w.alloc (.cells #[.pointer (some ⟨B, 0, none⟩)] 57)).alloc (.cells #[.int .u8 2, .int .u64 nx, .slice (some ⟨cb, 0, none⟩) 1 1, .slice (some ⟨sb, 0, none⟩) 1 1] 48)) w.heap.size #[.pointer (some ⟨B, 0, none⟩)] 57 := (Blk.new w _ _).old _
  have hp : Blk ((w.alloc (.cells #[.pointer (some ⟨B, 0, none⟩)] 57)).alloc (.cells #[.int .u8 2, .int .u64 nx, .slice (some ⟨cb, 0, none⟩) 1 1, .slice (some ⟨sb, 0, none⟩) 1 1] 48)) (w.heap.size + 1) #[.int .u8 2, .int .u64 nx, .slice (some ⟨cb, 0, none⟩) 1 1, .slice (some ⟨sb, 0, none⟩) 1 1] 48 := (by repeat (first | exact Blk.at (by simp) | assumption | refine Blk.drew ?_ | refine Blk.old ?_ _))
  have HTK := Lib.hid (taken_mark B 1 cg (w.heap.size + 1) w.heap.size (some ⟨g, 0, none⟩) nx (fun is W => is = true ∧ Below B w W ∧ ∃ g cg base X N M E, Bg nx 0 B g cg base X W ∧ TxE B nx k X N M E W) _ (hbg.1.ext hC)
    ((mark1_end (w.heap.size + 1) w.heap.size B g cg base X N M cb sb nx k s _ hp hq ⟨hbg.1.ext hC, own_below hbg.2 hC⟩ (ht.ext hC) ((hC.cell (p := ⟨cb, 0, none⟩) (cell_lt hc)).trans hc) ((hC.cell (p := ⟨sb, 0, none⟩) (cell_lt hs)).trans hs) hn ⟨hk.1, by omega⟩ hs0).mono (by
      rintro r w1 ⟨hbel, g, cg, base, X, N, M, h1, ⟨_, rfl, E, h2⟩ | ⟨h3, _⟩⟩
      · exact ⟨true, rfl, rfl, (hC.mono (Nat.le_of_lt hbg.1.lt)).trans hbel, g, cg, base, X, N, M, E, h1, h2⟩
      · omega)))
  clear hC hq hp hbg ht hc hs
  go_enter Tryd.func33, Tryd.ntmps33
  go_wp2_with fail
  refine HTK.out.mono ?_
  rintro r w2 ⟨is, rfl, rfl, hq⟩
  have HQ := Lib.hid hq
  clear hq HTK
  go_wp2_with fail
  go_ret2
  exact ⟨rfl, HQ.out⟩
set_option maxRecDepth 100000 in
theorem mark_big (B g cg base X N M cb sb : Nat) (nx k s : Int) (w : World) (hbg : Bg nx 0 B g cg base X w) (ht : TxI B nx X N M w) (hc : w.cell? ⟨cb, 0, none⟩ = some (.int .i64 k)) (hs : w.cell? ⟨sb, 0, none⟩ = some (.int .u64 s)) (hn : 0 ≤ nx ∧ nx ≤ 100) (hk : 2 < k ∧ k ≤ 100) (hs0 : 0 ≤ s ∧ s ≤ 100) :
    Calls Tryd.prog 33 #[.pointer (some ⟨B, 0, none⟩), .agg #[.int .u8 2, .int .u64 nx, .slice (some ⟨cb, 0, none⟩) 1 1, .slice (some ⟨sb, 0, none⟩) 1 1]] w
      fun r w' => r = .returned (.tuple #[.bool false, .int .i64 231]) ∧ Below B w w' ∧ ∃ g cg base X N M, Bg nx 231 B g cg base X w' ∧ TxI B nx X N M w' := by
  have hC : Below w.heap.size w ((w.alloc (.cells #[.pointer (some ⟨B, 0, none⟩)] 57)).alloc (.cells #[.int .u8 2, .int .u64 nx, .slice (some ⟨cb, 0, none⟩) 1 1, .slice (some ⟨sb, 0, none⟩) 1 1] 48)) := (by repeat (first | exact Below.refl _ _ | assumption | refine Below.drew ?_ | refine below_drewN ?_ _ | refine Below.alloc ?_ (by simp <;> omega) _))
  have hq : Blk ((w.alloc (.cells #[.pointer (some ⟨B, 0, none⟩)] 57)).alloc (.cells #[.int .u8 2, .int .u64 nx, .slice (some ⟨cb, 0, none⟩) 1 1, .slice (some ⟨sb, 0, none⟩) 1 1] 48)) w.heap.size #[.pointer (some ⟨B, 0, none⟩)] 57 := (Blk.new w _ _).old _
  have hp : Blk ((w.alloc (.cells #[.pointer (some ⟨B, 0, none⟩)] 57)).alloc (.cells #[.int .u8 2, .int .u64 nx, .slice (some ⟨cb, 0, none⟩) 1 1, .slice (some ⟨sb, 0, none⟩) 1 1] 48)) (w.heap.size + 1) #[.int .u8 2, .int .u64 nx, .slice (some ⟨cb, 0, none⟩) 1 1, .slice (some ⟨sb, 0, none⟩) 1 1] 48 := (by repeat (first | exact Blk.at (by simp) | assumption | refine Blk.drew ?_ | refine Blk.old ?_ _))
  have HTK := Lib.hid (taken_big B 1 cg (w.heap.size + 1) w.heap.size (some ⟨g, 0, none⟩) nx (fun W => Below B w W ∧ ∃ g cg base X N M, Bg nx 0 B g cg base X W ∧ TxI B nx X N M W) _ (hbg.1.ext hC) (fun W ⟨_, g, cg, base, X, N, M, h, _⟩ => ⟨_, _, _, h.1⟩)
    ((mark1_end (w.heap.size + 1) w.heap.size B g cg base X N M cb sb nx k s _ hp hq ⟨hbg.1.ext hC, own_below hbg.2 hC⟩ (ht.ext hC) ((hC.cell (p := ⟨cb, 0, none⟩) (cell_lt hc)).trans hc) ((hC.cell (p := ⟨sb, 0, none⟩) (cell_lt hs)).trans hs) hn ⟨by omega, hk.2⟩ hs0).mono (by
      rintro r w1 ⟨hbel, g, cg, base, X, N, M, h1, ⟨h3, _⟩ | ⟨_, rfl, h2⟩⟩
      · omega
      · exact ⟨rfl, (hC.mono (Nat.le_of_lt hbg.1.lt)).trans hbel, g, cg, base, X, N, M, h1, h2⟩)))
  clear hC hq hp hbg ht hc hs
  go_enter Tryd.func33, Tryd.ntmps33
  go_wp2_with fail
  refine HTK.out.mono ?_
  rintro r w2 ⟨rfl, W, A', n', c', ⟨hbel, g, cg, base, X, N, M, hbg, hlow, hX, hN, hM⟩, hB, rfl⟩
  have hB2 := hbg.1
  unfold Blk at hB hB2
  rw [hB2] at hB
  simp only [Option.some.injEq, Obj.cells.injEq, Array.mk.injEq, List.cons.injEq, Value.slice.injEq, and_true, true_and] at hB
  obtain ⟨rfl, rfl, rfl⟩ := hB
  have hlt := hbg.1.lt
  have nX := blk_ne' hX hbg.1 (by decide)
  have nN := blk_ne' hN hbg.1 (by decide)
  have e1 : putBlk W B #[.int .i64 1, .int .i64 2, .int .u64 nx, .bool true, .slice (some ⟨g, 0, none⟩) 1 cg, .int .i64 0] 146 = W := putBlk_self hbg.1
  have hO := hbg.2
  rw [← e1] at hX hN hM hO hbel
  have hM2 : MapE (putBlk W B #[.int .i64 1, .int .i64 2, .int .u64 nx, .bool true, .slice (some ⟨g, 0, none⟩) 1 cg, .int .i64 231] 146) M := map_put hM hlt _
  have HFIN : Hid (Below B w (putBlk W B #[.int .i64 1, .int .i64 2, .int .u64 nx, .bool true, .slice (some ⟨g, 0, none⟩) 1 cg, .int .i64 231] 146) ∧ ∃ g' cg' base X N M, Bg nx 231 B g' cg' base X (putBlk W B #[.int .i64 1, .int .i64 2, .int .u64 nx, .bool true, .slice (some ⟨g, 0, none⟩) 1 cg, .int .i64 231] 146) ∧ TxI B nx X N M (putBlk W B #[.int .i64 1, .int .i64 2, .int .u64 nx, .bool true, .slice (some ⟨g, 0, none⟩) 1 cg, .int .i64 231] 146)) :=
    ⟨putBlk_belows hbel (Nat.le_refl B) _, g, cg, base, X, N, M, ⟨putBlk_blk _ _ hlt, own_put hO hlt (by decide) _⟩, hlow, putBlk_old hX nX _, putBlk_old hN nN _, hM2⟩
  clear hX hN hM hO hbel hM2 e1 nX nN hlt hB2 hbg HTK
  generalize putBlk W B #[.int .i64 1, .int .i64 2, .int .u64 nx, .bool true, .slice (some ⟨g, 0, none⟩) 1 cg, .int .i64 231] 146 = w3 at HFIN ⊢
  go_wp2_with fail
  go_ret2
  exact ⟨rfl, HFIN.out⟩
end Go.Proofs.YtjdfodmialhakaaDoor
