/- Several texts in one: see each part's head. -/
import Derived.Test.YtgklopgeimjgiaaGreatDoorJ23
/- VerifySees: rel.update, remove. -/
namespace Go.Proofs.YtgklopgeimjgiaaGreatDoor
open Go.RowKit

variable {us : List Ta} {r M : Nat} {A : Option Addr} {c : Nat} {tn : Int} {l : List Rw} {w w' : World}
set_option maxRecDepth 100000 in
set_option maxHeartbeats 1600000 in
theorem update_any {x : Rw} (h : RelR us r M A c tn l w) (hf : rowS us x.1 x.2 = true) (B : Option Addr) (rc : Nat) (hv : VRow w B x.2) :
    Calls Tryz.prog 68 #[.pointer (some ⟨r, 0, none⟩), plc x.1 (keyN us x.1 x.2), .slice B x.2.length rc] w (OpQ us r M A c tn (updF us l x) w) := by
  have hok := plI_ok h.h hf hv.1
  have hri := row_in hf h.h
  have HLK := h.look hok
  have HPM : plI us x ∈ l.map (plI us) ↔ HasP (plN us) l (plN us x) := pl_mem x rfl
  have HCL := Lib.hid (fun (W : World) (hW : Below w.heap.size w W) => clone_row x.2 B rc W (hv.ext hW) hri.1 (by omega))
  have HPUT := Lib.hid (fun (hn : HasP (plN us) l (plN us x)) (w1 : World) (hb : Below w.heap.size w w1) (B : Option Addr) (bc : Nat) (hro : RowO w1 B bc x.2) => upd_put h hf hv.1 hn hb hro)
  have HSAME := Lib.hid (fun (w' : World) (hb : Below w.heap.size w w') (e : Int) => opq_same h hb (e := e))
  have HB := Lib.hid h.b
  obtain ⟨V0, IS, HIS, HLK⟩ : ∃ (V0 : Value) (IS : Bool), (IS = true ↔ HasP (plN us) l (plN us x)) ∧ ∀ W : World, Below w.heap.size w W → (Instr.lookup 90 (.map (some M)) (plc (plI us x).1 (plI us x).2) true).run Tryz.prog W = .ok (.tuple #[V0, .bool IS]) W := by
    rcases HLK with ⟨h1, v, _, h2⟩ | ⟨h1, h2⟩
    · exact ⟨v, true, ⟨fun _ => HPM.1 h1, fun _ => rfl⟩, fun W hW => (h2 W hW).1⟩
    · exact ⟨_, false, ⟨(fun h => by cases h), fun h => absurd (HPM.2 h) h1⟩, fun W hW => (h2 W hW).1⟩
  unfold plI at HLK
  simp only at HLK
  obtain ⟨F, hF⟩ : ∃ q, q = updF us l x := ⟨_, rfl⟩
  have HF3 : Hid (¬ HasP (plN us) l (plN us x) → F = (3, l)) := fun hh => by rw [hF]; unfold updF; rw [if_neg hh]
  rw [← hF] at HPUT ⊢
  obtain ⟨t, row⟩ := x
  simp only at HLK HCL HPUT ⊢
  generalize keyN us t row = key at HLK HPUT ⊢
  obtain ⟨kk, kn, kr, kt⟩ := key
  unfold plc at HLK HPUT ⊢
  simp only at HLK HPUT ⊢
  clear h hF hok hv hf hri
  have HLK := Lib.hid HLK
  have HIS := Lib.hid HIS
  clear HPM
  generalize (t : Int) = x1 at HLK HPUT ⊢
  go_enter Tryz.func68, Tryz.ntmps68
  have hC : Below w.heap.size w (w.alloc (.cells #[.int .i64 x1, .int .u8 kk, .int .i64 kn, .int .u64 kr, .string kt] 101)) := (by repeat (first | exact Below.refl _ _ | assumption | refine Below.drew ?_ | refine below_drewN ?_ _ | refine Below.alloc ?_ (by simp <;> omega) _))
  have hb0 := Blk.new w #[.int .i64 x1, .int .u8 kk, .int .i64 kn, .int .u64 kr, .string kt] 101
  have HC := Lib.hid hC
  have HB0 := Lib.hid hb0
  clear hC hb0
  go_upto_region 1 with fail
  generalize w.alloc (.cells #[.int .i64 x1, .int .u8 kk, .int .i64 kn, .int .u64 kr, .string kt] 101) = W0 at HC HB0 ⊢
  generalize hB0 : w.heap.size = B0 at HB0 ⊢
  clear hB0
  go_cut [7, 8] (fun p q wx => p = V0 ∧ q = .bool IS ∧ Hid (Below w.heap.size w wx) ∧ Hid (Blk wx B0 #[.int .i64 x1, .int .u8 kk, .int .i64 kn, .int .u64 kr, .string kt] 101))
  case first =>
    refine region_grow [false, false, false, false, false, false, false, true, true, true, true, true, true, true, true, true, true, true, false, false, false, false, false, false, false, false, false] [10, 11, 12, 13, 14, 15, 9, 16, 17, 7, 8] [.val (.pointer (some ⟨r, 0, none⟩)), .val (.pointer (some ⟨r, 0, none⟩)), .val (.pointer (some ⟨r, 1, none⟩)), .val (.map (some M)), .val (.agg #[.int .i64 x1, .int .u8 kk, .int .i64 kn, .int .u64 kr, .string kt]), .val (.tuple #[V0, .bool IS]), .val (.tuple #[V0, .bool IS]), .val (V0), .val (.bool IS), .val (V0), .val (.bool IS)] [9, 10] (by kernel_rfl) (by kernel_rfl) (by kernel_rfl) (by kernel_rfl) (by kernel_rfl) ⟨?_, ?_, ?_, ?_, ?_, ?_, ?_, ?_, ?_, ?_, ?_, trivial⟩ ?done
    case done =>
      intro x w5 hb5
      simp only [StepGoal, overlay, upd, cond_true, cond_false, List.getD_cons_zero, List.getD_cons_succ, Nat.zero_add, Nat.reduceAdd, Nat.reduceEqDiff, reduceIte]
      go_wp2_with fail
      go_meet
      exact ⟨rfl, rfl, bt HC.out hb5, HB0.out.ext hb5⟩
    all_goals
      intro x w5 hb5
      intro K hK
      have hB := HB.out.ext (bt HC.out hb5)
      have hB0 := HB0.out.ext hb5
      have y1 := hB.cell 1
      have x0 := hB0.cell 0
      have x1' := hB0.cell 1
      have x2 := hB0.cell 2
      have x3 := hB0.cell 3
      have x4 := hB0.cell 4
      have ly := hB.lt
      have lx := hB0.lt
      have hlk := HLK.out w5 (bt HC.out hb5)
      simp only [List.getElem?_toArray, List.getElem?_cons_zero, List.getElem?_cons_succ] at y1 x0 x1' x2 x3 x4
      rw [if_pos (by rfl)]; simp only [overlay, upd, cond_true, cond_false, List.getD_cons_zero, List.getD_cons_succ, Nat.reduceEqDiff, reduceIte]
      go_simp
      exact hK.out _ _ (Below.refl _ _) rfl
  case rest =>
    obtain ⟨rfl, rfl, HC1, HB0⟩ := hcut
    rename World => w1
    have hB := HB.out.ext HC1.out
    have y1 := hB.cell 1
    have ly := hB.lt
    simp only [List.getElem?_toArray, List.getElem?_cons_zero, List.getElem?_cons_succ] at y1
    clear hB HLK
    cases IS
    · have hn : ¬ HasP (plN us) l (plN us (t, row)) := fun hh => by have := HIS.out.2 hh; cases this
      have HE := Lib.hid (HF3.out hn)
      clear hn
      go_wp2_with fail
      go_ret
      rw [HE.out]
      exact HSAME.out _ HC1.out _
    · have HPT := Lib.hid (HPUT.out (HIS.out.1 rfl))
      clear HPUT
      go_upto_region 4 with fail
      clear y1 ly
      refine region_last 7 _ [false, false, false, false, false, false, false, false, false, false, false, false, false, false, false, false, false, false, false, false, true, true, true, true, true, true, true] [20, 21, 22, 23, 24, 25, 26] [.val (.pointer (some ⟨r, 0, none⟩)), .val (.pointer (some ⟨r, 0, none⟩)), .val (.pointer (some ⟨r, 1, none⟩)), .val (.map (some M)), .val (.agg #[.int .i64 x1, .int .u8 kk, .int .i64 kn, .int .u64 kr, .string kt]), .val (.slice B row.length rc), .mem (fun v w2 => ∃ A c, v = .slice A row.length c ∧ RowO w2 A c row) (fun v w2 w3 ⟨A, c, h1, h2⟩ hb => ⟨A, c, h1, h2.ext hb⟩)] [3, 4, 6] (by kernel_rfl) (by kernel_rfl) rfl (by kernel_rfl) (by kernel_rfl) (by kernel_rfl) (by kernel_rfl) (by kernel_rfl) ⟨?_, ?_, ?_, ?_, ?_, ?_, ?_, trivial⟩ ?done
      case done =>
        intro x w5 hb5
        simp only [StepGoal, List.getD_cons_zero, List.getD_cons_succ]
        rintro v ⟨B2, c2, rfl, hro⟩ K hK
        obtain ⟨w6, hrun, hq⟩ := HPT.out w5 (bt HC1.out hb5) B2 c2 hro
        have HQ := Lib.hid hq
        clear hq hro
        rw [if_pos (by rfl)]; simp only [overlay, upd, cond_true, cond_false, Nat.reduceEqDiff, reduceIte]
        go_simp
        refine hK.out _ _ ?_
        clear hrun
        go_wp2_with fail
        go_ret
        exact HQ.out
      all_goals
        intro x w5 hb5
        intro K hK
        have hB := HB.out.ext (bt HC1.out hb5)
        have hB0 := HB0.out.ext hb5
        have y1 := hB.cell 1
        have x0 := hB0.cell 0
        have x1' := hB0.cell 1
        have x2 := hB0.cell 2
        have x3 := hB0.cell 3
        have x4 := hB0.cell 4
        have ly := hB.lt
        have lx := hB0.lt
        simp only [List.getElem?_toArray, List.getElem?_cons_zero, List.getElem?_cons_succ] at y1 x0 x1' x2 x3 x4
        rw [if_pos (by rfl)]; simp only [overlay, upd, cond_true, cond_false, List.getD_cons_zero, List.getD_cons_succ, Nat.reduceEqDiff, reduceIte]
        go_simp
        first
          | exact hK.out _ _ (Below.refl _ _) rfl
          | ((with_reducible refine (HCL.out _ (bt HC1.out hb5)).mono ?_); rintro e wa ⟨hba, A2, c2, rfl, ho2⟩; go_wp2_with fail; exact hK.out _ _ hba ⟨A2, c2, rfl, ho2⟩)
set_option maxRecDepth 100000 in
set_option maxHeartbeats 1600000 in
theorem remove_any {p : Nat × V} (h : RelR us r M A c tn l w) (hok : okP ((p.1 : Int), p.2)) (hi : StI us (delF us l p).2) (B : Value) :
    Calls Tryz.prog 69 #[.pointer (some ⟨r, 0, none⟩), plc p.1 p.2, B] w (OpQ us r M A c tn (delF us l p) w) := by
  have HLK := h.look hok
  have HPM : ((p.1 : Int), p.2) ∈ l.map (plI us) ↔ HasP (plN us) l p := by
    rw [List.mem_map]
    constructor
    · rintro ⟨y, hy, e⟩
      unfold plI at e
      simp only [Prod.mk.injEq] at e
      exact ⟨y, hy, by unfold plN; exact Prod.ext (by have := e.1; omega) e.2⟩
    · rintro ⟨y, hy, e⟩
      exact ⟨y, hy, by unfold plI; unfold plN at e; rw [← e]⟩
  have HPUT := Lib.hid (fun (hn : HasP (plN us) l p) (w1 : World) (hb : Below w.heap.size w w1) (ty : TypeId) => del_put h hok hn hb ty hi)
  have HSAME := Lib.hid (fun (w' : World) (hb : Below w.heap.size w w') (e : Int) => opq_same h hb (e := e))
  have HB := Lib.hid h.b
  obtain ⟨V0, IS, HIS, HLK⟩ : ∃ (V0 : Value) (IS : Bool), (IS = true ↔ HasP (plN us) l p) ∧ ∀ W : World, Below w.heap.size w W → (Instr.lookup 90 (.map (some M)) (plc p.1 p.2) true).run Tryz.prog W = .ok (.tuple #[V0, .bool IS]) W := by
    rcases HLK with ⟨h1, v, _, h2⟩ | ⟨h1, h2⟩
    · exact ⟨v, true, ⟨fun _ => HPM.1 h1, fun _ => rfl⟩, fun W hW => (h2 W hW).1⟩
    · exact ⟨_, false, ⟨(fun h => by cases h), fun h => absurd (HPM.2 h) h1⟩, fun W hW => (h2 W hW).1⟩
  obtain ⟨F, hF⟩ : ∃ q, q = delF us l p := ⟨_, rfl⟩
  have HF3 : Hid (¬ HasP (plN us) l p → F = (3, l)) := fun hh => by rw [hF]; unfold delF; rw [if_neg hh]
  rw [← hF] at HPUT ⊢
  have HPP : Hid (HasP (plN us) l p ↔ IS = true) := HIS.symm
  obtain ⟨t, key⟩ := p
  simp only at HLK HPUT ⊢
  obtain ⟨kk, kn, kr, kt⟩ := key
  unfold plc at HLK HPUT ⊢
  simp only at HLK HPUT ⊢
  clear h hF hok hi
  have HLK := Lib.hid HLK
  clear HPM HIS
  generalize (t : Int) = x1 at HLK HPUT ⊢
  go_enter Tryz.func69, Tryz.ntmps69
  have hC : Below w.heap.size w (w.alloc (.cells #[.int .i64 x1, .int .u8 kk, .int .i64 kn, .int .u64 kr, .string kt] 101)) := (by repeat (first | exact Below.refl _ _ | assumption | refine Below.drew ?_ | refine below_drewN ?_ _ | refine Below.alloc ?_ (by simp <;> omega) _))
  have hb0 := Blk.new w #[.int .i64 x1, .int .u8 kk, .int .i64 kn, .int .u64 kr, .string kt] 101
  have HC := Lib.hid hC
  have HB0 := Lib.hid hb0
  clear hC hb0
  go_upto_region 1 with fail
  generalize w.alloc (.cells #[.int .i64 x1, .int .u8 kk, .int .i64 kn, .int .u64 kr, .string kt] 101) = W0 at HC HB0 ⊢
  generalize hB0 : w.heap.size = B0 at HB0 ⊢
  clear hB0
  go_cut [7, 8] (fun p q wx => p = V0 ∧ q = .bool IS ∧ Hid (Below w.heap.size w wx) ∧ Hid (Blk wx B0 #[.int .i64 x1, .int .u8 kk, .int .i64 kn, .int .u64 kr, .string kt] 101))
  case first =>
    refine region_grow [false, false, false, false, false, false, false, true, true, true, true, true, true, true, true, true, true, true, false, false, false, false, false, false, false] [10, 11, 12, 13, 14, 15, 9, 16, 17, 7, 8] [.val (.pointer (some ⟨r, 0, none⟩)), .val (.pointer (some ⟨r, 0, none⟩)), .val (.pointer (some ⟨r, 1, none⟩)), .val (.map (some M)), .val (.agg #[.int .i64 x1, .int .u8 kk, .int .i64 kn, .int .u64 kr, .string kt]), .val (.tuple #[V0, .bool IS]), .val (.tuple #[V0, .bool IS]), .val (V0), .val (.bool IS), .val (V0), .val (.bool IS)] [9, 10] (by kernel_rfl) (by kernel_rfl) (by kernel_rfl) (by kernel_rfl) (by kernel_rfl) ⟨?_, ?_, ?_, ?_, ?_, ?_, ?_, ?_, ?_, ?_, ?_, trivial⟩ ?done
    case done =>
      intro x w5 hb5
      simp only [StepGoal, overlay, upd, cond_true, cond_false, List.getD_cons_zero, List.getD_cons_succ, Nat.zero_add, Nat.reduceAdd, Nat.reduceEqDiff, reduceIte]
      go_wp2_with fail
      go_meet
      exact ⟨rfl, rfl, bt HC.out hb5, HB0.out.ext hb5⟩
    all_goals
      intro x w5 hb5
      intro K hK
      have hB := HB.out.ext (bt HC.out hb5)
      have hB0 := HB0.out.ext hb5
      have y1 := hB.cell 1
      have x0 := hB0.cell 0
      have x1' := hB0.cell 1
      have x2 := hB0.cell 2
      have x3 := hB0.cell 3
      have x4 := hB0.cell 4
      have ly := hB.lt
      have lx := hB0.lt
      have hlk := HLK.out w5 (bt HC.out hb5)
      simp only [List.getElem?_toArray, List.getElem?_cons_zero, List.getElem?_cons_succ] at y1 x0 x1' x2 x3 x4
      rw [if_pos (by rfl)]; simp only [overlay, upd, cond_true, cond_false, List.getD_cons_zero, List.getD_cons_succ, Nat.reduceEqDiff, reduceIte]
      go_simp
      exact hK.out _ _ (Below.refl _ _) rfl
  case rest =>
    obtain ⟨rfl, rfl, HC1, HB0⟩ := hcut
    rename World => w1
    have hB := HB.out.ext HC1.out
    have y1 := hB.cell 1
    have ly := hB.lt
    simp only [List.getElem?_toArray, List.getElem?_cons_zero, List.getElem?_cons_succ] at y1
    clear hB HLK
    cases IS
    · have HE := Lib.hid (HF3.out (fun hh => by have := HPP.out.1 hh; cases this))
      go_wp2_with fail
      go_ret
      rw [HE.out]
      exact HSAME.out _ HC1.out _
    · have HPT := Lib.hid (HPUT.out (HPP.out.2 rfl))
      clear HPUT
      go_upto_region 4 with fail
      clear y1 ly
      refine region_last 5 _ [false, false, false, false, false, false, false, false, false, false, false, false, false, false, false, false, false, false, false, false, true, true, true, true, true] [20, 21, 22, 23, 24] [.val (.pointer (some ⟨r, 0, none⟩)), .val (.pointer (some ⟨r, 0, none⟩)), .val (.pointer (some ⟨r, 1, none⟩)), .val (.map (some M)), .val (.agg #[.int .i64 x1, .int .u8 kk, .int .i64 kn, .int .u64 kr, .string kt])] [3, 4] (by kernel_rfl) (by kernel_rfl) rfl (by kernel_rfl) (by kernel_rfl) (by kernel_rfl) (by kernel_rfl) (by kernel_rfl) ⟨?_, ?_, ?_, ?_, ?_, trivial⟩ ?done
      case done =>
        intro x w5 hb5
        simp only [StepGoal, List.getD_cons_zero, List.getD_cons_succ]
        intro K hK
        obtain ⟨w6, hrun, hq⟩ := HPT.out w5 (bt HC1.out hb5) 0
        have HQ := Lib.hid hq
        clear hq
        rw [if_pos (by rfl)]; simp only [overlay, upd, cond_true, cond_false, Nat.reduceEqDiff, reduceIte]
        go_simp
        refine hK.out _ _ ?_
        clear hrun
        go_wp2_with fail
        go_ret
        exact HQ.out
      all_goals
        intro x w5 hb5
        intro K hK
        have hB := HB.out.ext (bt HC1.out hb5)
        have hB0 := HB0.out.ext hb5
        have y1 := hB.cell 1
        have x0 := hB0.cell 0
        have x1' := hB0.cell 1
        have x2 := hB0.cell 2
        have x3 := hB0.cell 3
        have x4 := hB0.cell 4
        have ly := hB.lt
        have lx := hB0.lt
        simp only [List.getElem?_toArray, List.getElem?_cons_zero, List.getElem?_cons_succ] at y1 x0 x1' x2 x3 x4
        rw [if_pos (by rfl)]; simp only [overlay, upd, cond_true, cond_false, List.getD_cons_zero, List.getD_cons_succ, Nat.reduceEqDiff, reduceIte]
        go_simp
        exact hK.out _ _ (Below.refl _ _) rfl
end Go.Proofs.YtgklopgeimjgiaaGreatDoor
