/- Texts joined by a tool: contracts and walks of this claim. -/
import Derived.Test.YtceoficoappkpaaGreatDoorB1
import Derived.Lib.ValidLaws
import Derived.Lib.TrimUEq
import Derived.Lib.MapLaws
import Derived.Shelf.Unicode.DecodeLastEight
namespace Go.Proofs.YtceoficoappkpaaGreatDoor
open Go.RowKit
def fullN (n x b c : Nat) : Bool :=
 if n = 0 then false
 else if x % 8 ≤ n then true
 else if 1 < n ∧ (b < Lib.accLo (x / 16) ∨ Lib.accHi (x / 16) < b) then true
 else decide (2 < n ∧ (c < 128 ∨ 191 < c))
def fullB (l : List UInt8) : Bool := fullN l.length (Lib.firstT (l.getD 0 0).toNat) (l.getD 1 0).toNat (l.getD 2 0).toNat
theorem getD_at (s : ByteArray) (i : Nat) (h : i < s.size) : s.data.toList.getD i 0 = s[i] := by
 have h' : i < s.data.toList.length := by simpa using h
 rw [List.getD_eq_getElem?_getD, List.getElem?_eq_getElem h']
 rfl
def needB (a : UInt8) : Nat := if 240 ≤ a.toNat then 4 else if 224 ≤ a.toNat then 3 else 2
set_option maxRecDepth 100000 in
theorem fits_any (s : ByteArray) (m : Int) (h : 0 < s.size) (w : World) :
  Calls Tryz.prog 213 #[.string s, .int .i64 m] w fun e w' => e = .returned (.bool (decide ((needB (s[0]'h) : Int) ≤ m))) ∧ w = w' := by
 generalize hM : decide ((needB (s[0]'h) : Int) ≤ m) = M
 have HM := hd_ hM
 clear hM
 go_enter Tryz.func213, Tryz.ntmps213
 go_wp2
 all_goals
  go_ret
  refine ⟨ret_bool ?_, rfl⟩
  rw [← HM.out]
  unfold needB
  first
   | (rw [if_pos (by omega)]; rfl)
   | (rw [if_neg (by omega), if_pos (by omega)]; rfl)
   | (rw [if_neg (by omega), if_neg (by omega)]; rfl)
theorem below_drewN' {B : Nat} {a w : World} (h : Below B a w) (n : Nat) : Below B a (w.drewN n) := ⟨h.os, h.tape, h.output, h.size, h.block⟩
theorem full_t {n x b c : Nat} (hn : 0 < n) (h : x % 8 ≤ n) : fullN n x b c = true := by
 unfold fullN
 rw [if_neg (by omega), if_pos h]
theorem full_b {n x b c : Nat} (hn : 1 < n) (h : n < x % 8) (hb : b < Lib.accLo (x / 16) ∨ Lib.accHi (x / 16) < b) : fullN n x b c = true := by
 unfold fullN
 rw [if_neg (by omega), if_neg (by omega), if_pos ⟨hn, hb⟩]
theorem full_c {n x b c : Nat} (hn : 1 < n) (h : n < x % 8) (hb : ¬ (b < Lib.accLo (x / 16) ∨ Lib.accHi (x / 16) < b)) : fullN n x b c = decide (2 < n ∧ (c < 128 ∨ 191 < c)) := by
 unfold fullN
 rw [if_neg (by omega), if_neg (by omega), if_neg (fun h => hb h.2)]
theorem full_c2 {n c : Nat} (h : n ≤ 2) : decide (2 < n ∧ (c < 128 ∨ 191 < c)) = false := decide_eq_false (fun h' => by omega)
set_option maxRecDepth 100000 in
theorem full_19 (s : ByteArray) (w : World) (hs : s.size ≤ 140737488355328) (h2 : 2 ≤ s.size) (h3 : s.size < 3) (hlt : ((s[0]'(by omega)).toNat : Int) < 256)
  (hc : w.cell? ⟨0, (s[0]'(by omega)).toNat, none⟩ = some (.int .u8 19)) (a0 : w.cell? ⟨1, 2, none⟩ = some (.int .u8 160)) (a1 : w.cell? ⟨1, 3, none⟩ = some (.int .u8 191)) :
  Calls Tryz.prog 212 #[.string s] w fun e w' => e = .returned (.bool (fullN s.size 19 (s.data.toList.getD 1 0).toNat (s.data.toList.getD 2 0).toNat)) ∧ Below w.heap.size w w' := by
 have e0 : ((s.size : Int) == 0) = false := by rw [beq_eq_false_iff_ne]; omega
 have g1 : decide ((1 : Int) < s.size) = true := by simp; omega
 have i1 : (1 : Int) < s.size := by omega
 rw [getD_at s 1 (by omega)]
 obtain ⟨M, hM⟩ : ∃ M, M = fullN s.size 19 (s[1]'(by omega)).toNat (s.data.toList.getD 2 0).toNat := ⟨_, rfl⟩
 rw [← hM]
 have HM := hd_ hM
 clear hM
 by_cases hl : (s[1]'(by omega)).toNat < 160
 · have g2 : decide (((s[1]'(by omega)).toNat : Int) < 160) = true := by simp; omega
   go_enter Tryz.func212, Tryz.ntmps212
   go_wp2
   go_quiet (fail)
   go_wp2
   go_ret
   exact ⟨ret_bool (by rw [HM.out]; exact (full_b (by omega) (by omega) (Or.inl hl)).symm), below_drewN' ((Below.refl _ _).alloc (Nat.le_refl _) _) _⟩
 · have g2 : decide (((s[1]'(by omega)).toNat : Int) < 160) = false := by simp; omega
   by_cases hh : 191 < (s[1]'(by omega)).toNat
   · have g3 : decide ((191 : Int) < ((s[1]'(by omega)).toNat : Int)) = true := by simp; omega
     go_enter Tryz.func212, Tryz.ntmps212
     go_wp2
     go_quiet (fail)
     go_wp2
     go_ret
     exact ⟨ret_bool (by rw [HM.out]; exact (full_b (by omega) (by omega) (Or.inr hh)).symm), below_drewN' ((Below.refl _ _).alloc (Nat.le_refl _) _) _⟩
   · have g3 : decide ((191 : Int) < ((s[1]'(by omega)).toNat : Int)) = false := by simp; omega
     have hF := full_c (n := s.size) (x := 19) (b := (s[1]'(by omega)).toNat) (c := (s.data.toList.getD 2 0).toNat) (by omega) (by omega) (fun h => h.elim hl hh)
     have HF := hd_ hF
     clear hF
     by_cases h2' : s.size = 2
     · have HS := hd_ h2'
       have hle : s.size ≤ 2 := by omega
       clear h2'
       go_enter Tryz.func212, Tryz.ntmps212
       go_wp2
       go_quiet (fail)
       go_wp2
       go_ret
       exact ⟨ret_bool (by rw [HM.out, HF.out]; exact (full_c2 hle).symm), below_drewN' ((Below.refl _ _).alloc (Nat.le_refl _) _) _⟩
     · omega
set_option maxRecDepth 100000 in
theorem full_3 (s : ByteArray) (w : World) (hs : s.size ≤ 140737488355328) (h2 : 2 ≤ s.size) (h3 : s.size < 3) (hlt : ((s[0]'(by omega)).toNat : Int) < 256)
  (hc : w.cell? ⟨0, (s[0]'(by omega)).toNat, none⟩ = some (.int .u8 3)) (a0 : w.cell? ⟨1, 0, none⟩ = some (.int .u8 128)) (a1 : w.cell? ⟨1, 1, none⟩ = some (.int .u8 191)) :
  Calls Tryz.prog 212 #[.string s] w fun e w' => e = .returned (.bool (fullN s.size 3 (s.data.toList.getD 1 0).toNat (s.data.toList.getD 2 0).toNat)) ∧ Below w.heap.size w w' := by
 have e0 : ((s.size : Int) == 0) = false := by rw [beq_eq_false_iff_ne]; omega
 have g1 : decide ((1 : Int) < s.size) = true := by simp; omega
 have i1 : (1 : Int) < s.size := by omega
 rw [getD_at s 1 (by omega)]
 obtain ⟨M, hM⟩ : ∃ M, M = fullN s.size 3 (s[1]'(by omega)).toNat (s.data.toList.getD 2 0).toNat := ⟨_, rfl⟩
 rw [← hM]
 have HM := hd_ hM
 clear hM
 by_cases hl : (s[1]'(by omega)).toNat < 128
 · have g2 : decide (((s[1]'(by omega)).toNat : Int) < 128) = true := by simp; omega
   go_enter Tryz.func212, Tryz.ntmps212
   go_wp2
   go_quiet (fail)
   go_wp2
   go_ret
   exact ⟨ret_bool (by rw [HM.out]; exact (full_b (by omega) (by omega) (Or.inl hl)).symm), below_drewN' ((Below.refl _ _).alloc (Nat.le_refl _) _) _⟩
 · have g2 : decide (((s[1]'(by omega)).toNat : Int) < 128) = false := by simp; omega
   by_cases hh : 191 < (s[1]'(by omega)).toNat
   · have g3 : decide ((191 : Int) < ((s[1]'(by omega)).toNat : Int)) = true := by simp; omega
     go_enter Tryz.func212, Tryz.ntmps212
     go_wp2
     go_quiet (fail)
     go_wp2
     go_ret
     exact ⟨ret_bool (by rw [HM.out]; exact (full_b (by omega) (by omega) (Or.inr hh)).symm), below_drewN' ((Below.refl _ _).alloc (Nat.le_refl _) _) _⟩
   · have g3 : decide ((191 : Int) < ((s[1]'(by omega)).toNat : Int)) = false := by simp; omega
     have hF := full_c (n := s.size) (x := 3) (b := (s[1]'(by omega)).toNat) (c := (s.data.toList.getD 2 0).toNat) (by omega) (by omega) (fun h => h.elim hl hh)
     have HF := hd_ hF
     clear hF
     by_cases h2' : s.size = 2
     · have HS := hd_ h2'
       have hle : s.size ≤ 2 := by omega
       clear h2'
       go_enter Tryz.func212, Tryz.ntmps212
       go_wp2
       go_quiet (fail)
       go_wp2
       go_ret
       exact ⟨ret_bool (by rw [HM.out, HF.out]; exact (full_c2 hle).symm), below_drewN' ((Below.refl _ _).alloc (Nat.le_refl _) _) _⟩
     · omega
set_option maxRecDepth 100000 in
theorem full_35 (s : ByteArray) (w : World) (hs : s.size ≤ 140737488355328) (h2 : 2 ≤ s.size) (h3 : s.size < 3) (hlt : ((s[0]'(by omega)).toNat : Int) < 256)
  (hc : w.cell? ⟨0, (s[0]'(by omega)).toNat, none⟩ = some (.int .u8 35)) (a0 : w.cell? ⟨1, 4, none⟩ = some (.int .u8 128)) (a1 : w.cell? ⟨1, 5, none⟩ = some (.int .u8 159)) :
  Calls Tryz.prog 212 #[.string s] w fun e w' => e = .returned (.bool (fullN s.size 35 (s.data.toList.getD 1 0).toNat (s.data.toList.getD 2 0).toNat)) ∧ Below w.heap.size w w' := by
 have e0 : ((s.size : Int) == 0) = false := by rw [beq_eq_false_iff_ne]; omega
 have g1 : decide ((1 : Int) < s.size) = true := by simp; omega
 have i1 : (1 : Int) < s.size := by omega
 rw [getD_at s 1 (by omega)]
 obtain ⟨M, hM⟩ : ∃ M, M = fullN s.size 35 (s[1]'(by omega)).toNat (s.data.toList.getD 2 0).toNat := ⟨_, rfl⟩
 rw [← hM]
 have HM := hd_ hM
 clear hM
 by_cases hl : (s[1]'(by omega)).toNat < 128
 · have g2 : decide (((s[1]'(by omega)).toNat : Int) < 128) = true := by simp; omega
   go_enter Tryz.func212, Tryz.ntmps212
   go_wp2
   go_quiet (fail)
   go_wp2
   go_ret
   exact ⟨ret_bool (by rw [HM.out]; exact (full_b (by omega) (by omega) (Or.inl hl)).symm), below_drewN' ((Below.refl _ _).alloc (Nat.le_refl _) _) _⟩
 · have g2 : decide (((s[1]'(by omega)).toNat : Int) < 128) = false := by simp; omega
   by_cases hh : 159 < (s[1]'(by omega)).toNat
   · have g3 : decide ((159 : Int) < ((s[1]'(by omega)).toNat : Int)) = true := by simp; omega
     go_enter Tryz.func212, Tryz.ntmps212
     go_wp2
     go_quiet (fail)
     go_wp2
     go_ret
     exact ⟨ret_bool (by rw [HM.out]; exact (full_b (by omega) (by omega) (Or.inr hh)).symm), below_drewN' ((Below.refl _ _).alloc (Nat.le_refl _) _) _⟩
   · have g3 : decide ((159 : Int) < ((s[1]'(by omega)).toNat : Int)) = false := by simp; omega
     have hF := full_c (n := s.size) (x := 35) (b := (s[1]'(by omega)).toNat) (c := (s.data.toList.getD 2 0).toNat) (by omega) (by omega) (fun h => h.elim hl hh)
     have HF := hd_ hF
     clear hF
     by_cases h2' : s.size = 2
     · have HS := hd_ h2'
       have hle : s.size ≤ 2 := by omega
       clear h2'
       go_enter Tryz.func212, Tryz.ntmps212
       go_wp2
       go_quiet (fail)
       go_wp2
       go_ret
       exact ⟨ret_bool (by rw [HM.out, HF.out]; exact (full_c2 hle).symm), below_drewN' ((Below.refl _ _).alloc (Nat.le_refl _) _) _⟩
     · omega
set_option maxRecDepth 100000 in
theorem full_52 (s : ByteArray) (w : World) (hs : s.size ≤ 140737488355328) (h2 : 2 ≤ s.size) (h3 : s.size < 4) (hlt : ((s[0]'(by omega)).toNat : Int) < 256)
  (hc : w.cell? ⟨0, (s[0]'(by omega)).toNat, none⟩ = some (.int .u8 52)) (a0 : w.cell? ⟨1, 6, none⟩ = some (.int .u8 144)) (a1 : w.cell? ⟨1, 7, none⟩ = some (.int .u8 191)) :
  Calls Tryz.prog 212 #[.string s] w fun e w' => e = .returned (.bool (fullN s.size 52 (s.data.toList.getD 1 0).toNat (s.data.toList.getD 2 0).toNat)) ∧ Below w.heap.size w w' := by
 have e0 : ((s.size : Int) == 0) = false := by rw [beq_eq_false_iff_ne]; omega
 have g1 : decide ((1 : Int) < s.size) = true := by simp; omega
 have i1 : (1 : Int) < s.size := by omega
 rw [getD_at s 1 (by omega)]
 obtain ⟨M, hM⟩ : ∃ M, M = fullN s.size 52 (s[1]'(by omega)).toNat (s.data.toList.getD 2 0).toNat := ⟨_, rfl⟩
 rw [← hM]
 have HM := hd_ hM
 clear hM
 by_cases hl : (s[1]'(by omega)).toNat < 144
 · have g2 : decide (((s[1]'(by omega)).toNat : Int) < 144) = true := by simp; omega
   go_enter Tryz.func212, Tryz.ntmps212
   go_wp2
   go_quiet (fail)
   go_wp2
   go_ret
   exact ⟨ret_bool (by rw [HM.out]; exact (full_b (by omega) (by omega) (Or.inl hl)).symm), below_drewN' ((Below.refl _ _).alloc (Nat.le_refl _) _) _⟩
 · have g2 : decide (((s[1]'(by omega)).toNat : Int) < 144) = false := by simp; omega
   by_cases hh : 191 < (s[1]'(by omega)).toNat
   · have g3 : decide ((191 : Int) < ((s[1]'(by omega)).toNat : Int)) = true := by simp; omega
     go_enter Tryz.func212, Tryz.ntmps212
     go_wp2
     go_quiet (fail)
     go_wp2
     go_ret
     exact ⟨ret_bool (by rw [HM.out]; exact (full_b (by omega) (by omega) (Or.inr hh)).symm), below_drewN' ((Below.refl _ _).alloc (Nat.le_refl _) _) _⟩
   · have g3 : decide ((191 : Int) < ((s[1]'(by omega)).toNat : Int)) = false := by simp; omega
     have hF := full_c (n := s.size) (x := 52) (b := (s[1]'(by omega)).toNat) (c := (s.data.toList.getD 2 0).toNat) (by omega) (by omega) (fun h => h.elim hl hh)
     have HF := hd_ hF
     clear hF
     by_cases h2' : s.size = 2
     · have HS := hd_ h2'
       have hle : s.size ≤ 2 := by omega
       clear h2'
       go_enter Tryz.func212, Tryz.ntmps212
       go_wp2
       go_quiet (fail)
       go_wp2
       go_ret
       exact ⟨ret_bool (by rw [HM.out, HF.out]; exact (full_c2 hle).symm), below_drewN' ((Below.refl _ _).alloc (Nat.le_refl _) _) _⟩
     · have h3' : 3 ≤ s.size := by omega
       have hg := getD_at s 2 (by omega)
       have HG := hd_ hg
       clear hg h2'
       go_enter Tryz.func212, Tryz.ntmps212
       go_wp2
       go_quiet (fail)
       go_wp2
       all_goals
        go_ret
        refine ⟨ret_bool ?_, below_drewN' ((Below.refl _ _).alloc (Nat.le_refl _) _) _⟩
        rw [HM.out, HF.out, HG.out]
        first
         | exact (decide_eq_true (by omega)).symm
         | exact (decide_eq_false (by omega)).symm
set_option maxRecDepth 100000 in
theorem full_4 (s : ByteArray) (w : World) (hs : s.size ≤ 140737488355328) (h2 : 2 ≤ s.size) (h3 : s.size < 4) (hlt : ((s[0]'(by omega)).toNat : Int) < 256)
  (hc : w.cell? ⟨0, (s[0]'(by omega)).toNat, none⟩ = some (.int .u8 4)) (a0 : w.cell? ⟨1, 0, none⟩ = some (.int .u8 128)) (a1 : w.cell? ⟨1, 1, none⟩ = some (.int .u8 191)) :
  Calls Tryz.prog 212 #[.string s] w fun e w' => e = .returned (.bool (fullN s.size 4 (s.data.toList.getD 1 0).toNat (s.data.toList.getD 2 0).toNat)) ∧ Below w.heap.size w w' := by
 have e0 : ((s.size : Int) == 0) = false := by rw [beq_eq_false_iff_ne]; omega
 have g1 : decide ((1 : Int) < s.size) = true := by simp; omega
 have i1 : (1 : Int) < s.size := by omega
 rw [getD_at s 1 (by omega)]
 obtain ⟨M, hM⟩ : ∃ M, M = fullN s.size 4 (s[1]'(by omega)).toNat (s.data.toList.getD 2 0).toNat := ⟨_, rfl⟩
 rw [← hM]
 have HM := hd_ hM
 clear hM
 by_cases hl : (s[1]'(by omega)).toNat < 128
 · have g2 : decide (((s[1]'(by omega)).toNat : Int) < 128) = true := by simp; omega
   go_enter Tryz.func212, Tryz.ntmps212
   go_wp2
   go_quiet (fail)
   go_wp2
   go_ret
   exact ⟨ret_bool (by rw [HM.out]; exact (full_b (by omega) (by omega) (Or.inl hl)).symm), below_drewN' ((Below.refl _ _).alloc (Nat.le_refl _) _) _⟩
 · have g2 : decide (((s[1]'(by omega)).toNat : Int) < 128) = false := by simp; omega
   by_cases hh : 191 < (s[1]'(by omega)).toNat
   · have g3 : decide ((191 : Int) < ((s[1]'(by omega)).toNat : Int)) = true := by simp; omega
     go_enter Tryz.func212, Tryz.ntmps212
     go_wp2
     go_quiet (fail)
     go_wp2
     go_ret
     exact ⟨ret_bool (by rw [HM.out]; exact (full_b (by omega) (by omega) (Or.inr hh)).symm), below_drewN' ((Below.refl _ _).alloc (Nat.le_refl _) _) _⟩
   · have g3 : decide ((191 : Int) < ((s[1]'(by omega)).toNat : Int)) = false := by simp; omega
     have hF := full_c (n := s.size) (x := 4) (b := (s[1]'(by omega)).toNat) (c := (s.data.toList.getD 2 0).toNat) (by omega) (by omega) (fun h => h.elim hl hh)
     have HF := hd_ hF
     clear hF
     by_cases h2' : s.size = 2
     · have HS := hd_ h2'
       have hle : s.size ≤ 2 := by omega
       clear h2'
       go_enter Tryz.func212, Tryz.ntmps212
       go_wp2
       go_quiet (fail)
       go_wp2
       go_ret
       exact ⟨ret_bool (by rw [HM.out, HF.out]; exact (full_c2 hle).symm), below_drewN' ((Below.refl _ _).alloc (Nat.le_refl _) _) _⟩
     · have h3' : 3 ≤ s.size := by omega
       have hg := getD_at s 2 (by omega)
       have HG := hd_ hg
       clear hg h2'
       go_enter Tryz.func212, Tryz.ntmps212
       go_wp2
       go_quiet (fail)
       go_wp2
       all_goals
        go_ret
        refine ⟨ret_bool ?_, below_drewN' ((Below.refl _ _).alloc (Nat.le_refl _) _) _⟩
        rw [HM.out, HF.out, HG.out]
        first
         | exact (decide_eq_true (by omega)).symm
         | exact (decide_eq_false (by omega)).symm
set_option maxRecDepth 100000 in
theorem full_68 (s : ByteArray) (w : World) (hs : s.size ≤ 140737488355328) (h2 : 2 ≤ s.size) (h3 : s.size < 4) (hlt : ((s[0]'(by omega)).toNat : Int) < 256)
  (hc : w.cell? ⟨0, (s[0]'(by omega)).toNat, none⟩ = some (.int .u8 68)) (a0 : w.cell? ⟨1, 8, none⟩ = some (.int .u8 128)) (a1 : w.cell? ⟨1, 9, none⟩ = some (.int .u8 143)) :
  Calls Tryz.prog 212 #[.string s] w fun e w' => e = .returned (.bool (fullN s.size 68 (s.data.toList.getD 1 0).toNat (s.data.toList.getD 2 0).toNat)) ∧ Below w.heap.size w w' := by
 have e0 : ((s.size : Int) == 0) = false := by rw [beq_eq_false_iff_ne]; omega
 have g1 : decide ((1 : Int) < s.size) = true := by simp; omega
 have i1 : (1 : Int) < s.size := by omega
 rw [getD_at s 1 (by omega)]
 obtain ⟨M, hM⟩ : ∃ M, M = fullN s.size 68 (s[1]'(by omega)).toNat (s.data.toList.getD 2 0).toNat := ⟨_, rfl⟩
 rw [← hM]
 have HM := hd_ hM
 clear hM
 by_cases hl : (s[1]'(by omega)).toNat < 128
 · have g2 : decide (((s[1]'(by omega)).toNat : Int) < 128) = true := by simp; omega
   go_enter Tryz.func212, Tryz.ntmps212
   go_wp2
   go_quiet (fail)
   go_wp2
   go_ret
   exact ⟨ret_bool (by rw [HM.out]; exact (full_b (by omega) (by omega) (Or.inl hl)).symm), below_drewN' ((Below.refl _ _).alloc (Nat.le_refl _) _) _⟩
 · have g2 : decide (((s[1]'(by omega)).toNat : Int) < 128) = false := by simp; omega
   by_cases hh : 143 < (s[1]'(by omega)).toNat
   · have g3 : decide ((143 : Int) < ((s[1]'(by omega)).toNat : Int)) = true := by simp; omega
     go_enter Tryz.func212, Tryz.ntmps212
     go_wp2
     go_quiet (fail)
     go_wp2
     go_ret
     exact ⟨ret_bool (by rw [HM.out]; exact (full_b (by omega) (by omega) (Or.inr hh)).symm), below_drewN' ((Below.refl _ _).alloc (Nat.le_refl _) _) _⟩
   · have g3 : decide ((143 : Int) < ((s[1]'(by omega)).toNat : Int)) = false := by simp; omega
     have hF := full_c (n := s.size) (x := 68) (b := (s[1]'(by omega)).toNat) (c := (s.data.toList.getD 2 0).toNat) (by omega) (by omega) (fun h => h.elim hl hh)
     have HF := hd_ hF
     clear hF
     by_cases h2' : s.size = 2
     · have HS := hd_ h2'
       have hle : s.size ≤ 2 := by omega
       clear h2'
       go_enter Tryz.func212, Tryz.ntmps212
       go_wp2
       go_quiet (fail)
       go_wp2
       go_ret
       exact ⟨ret_bool (by rw [HM.out, HF.out]; exact (full_c2 hle).symm), below_drewN' ((Below.refl _ _).alloc (Nat.le_refl _) _) _⟩
     · have h3' : 3 ≤ s.size := by omega
       have hg := getD_at s 2 (by omega)
       have HG := hd_ hg
       clear hg h2'
       go_enter Tryz.func212, Tryz.ntmps212
       go_wp2
       go_quiet (fail)
       go_wp2
       all_goals
        go_ret
        refine ⟨ret_bool ?_, below_drewN' ((Below.refl _ _).alloc (Nat.le_refl _) _) _⟩
        rw [HM.out, HF.out, HG.out]
        first
         | exact (decide_eq_true (by omega)).symm
         | exact (decide_eq_false (by omega)).symm
theorem cell_first (w : World) (hT : Tabs w) (c : Nat) (h : c < 256) : w.cell? ⟨0, c, none⟩ = some (.int .u8 (Lib.firstT c)) := hT.1 c h
set_option maxRecDepth 100000 in
theorem full_any (s : ByteArray) (w : World) (hs : s.size ≤ 140737488355328) (hT : Tabs w) :
  Calls Tryz.prog 212 #[.string s] w fun e w' => e = .returned (.bool (fullB s.data.toList)) ∧ Below w.heap.size w w' := by
 by_cases h0 : s.size = 0
 · have e0 : ((s.size : Int) == 0) = true := by simp [h0]
   have e : fullB s.data.toList = false := by
    obtain rfl := empty_of_size h0
    rfl
   rw [e]
   clear e hT h0
   go_enter Tryz.func212, Tryz.ntmps212
   go_wp2
   go_ret
   exact ⟨rfl, Below.refl _ _⟩
 · have e0 : ((s.size : Int) == 0) = false := by rw [beq_eq_false_iff_ne]; omega
   have hpos : 0 < s.size := by omega
   have hc := cell_first w hT (s[0]'hpos).toNat (s[0]'hpos).toNat_lt
   have hx := Lib.firstT_cases (s[0]'hpos).toNat
   have ha : ∀ i, i < 16 → w.cell? ⟨1, 2 * i, none⟩ = some (.int .u8 (Lib.accLo i)) ∧ w.cell? ⟨1, 2 * i + 1, none⟩ = some (.int .u8 (Lib.accHi i)) := hT.2
   have hlt : ((s[0]'hpos).toNat : Int) < 256 := by have := (s[0]'hpos).toNat_lt; omega
   have hfull : ∀ x, x = Lib.firstT (s[0]'hpos).toNat → fullB s.data.toList = fullN s.size x (s.data.toList.getD 1 0).toNat (s.data.toList.getD 2 0).toNat := by
    rintro x rfl
    unfold fullB
    rw [getD_at s 0 hpos]
    simp
   obtain ⟨x, hxx⟩ : ∃ x, x = Lib.firstT (s[0]'hpos).toNat := ⟨_, rfl⟩
   rw [← hxx] at hc hx
   have hF := hfull x hxx
   clear hfull hxx h0 hT
   rw [hF]
   clear hF
   obtain ⟨M, hM⟩ : ∃ M, M = fullN s.size x (s.data.toList.getD 1 0).toNat (s.data.toList.getD 2 0).toNat := ⟨_, rfl⟩
   rw [← hM]
   have HM := hd_ hM
   clear hM
   rcases hx with rfl | rfl | hx
   · clear ha
     go_enter Tryz.func212, Tryz.ntmps212
     go_wp2
     go_ret
     refine ⟨ret_bool ?_, Below.refl _ _⟩
     rw [HM.out]
     exact (full_t hpos (by omega)).symm
   · clear ha
     have h1 : (1 : Int) ≤ s.size := by omega
     go_enter Tryz.func212, Tryz.ntmps212
     go_wp2
     go_ret
     refine ⟨ret_bool ?_, Below.refl _ _⟩
     rw [HM.out]
     exact (full_t hpos (by omega)).symm
   · by_cases hbig : x % 8 ≤ s.size
     · rcases hx with rfl | rfl | rfl | rfl | rfl | rfl | rfl
       all_goals
        clear ha
        simp only [Nat.reduceMod] at hbig
        go_enter Tryz.func212, Tryz.ntmps212
        go_wp2
        go_ret
        refine ⟨ret_bool ?_, Below.refl _ _⟩
        rw [HM.out]
        exact (full_t hpos (by omega)).symm
     · by_cases h1 : s.size = 1
       · have g1 : decide ((1 : Int) < s.size) = false := by simp; omega
         have g2 : decide ((2 : Int) < s.size) = false := by simp; omega
         have HS := hd_ h1
         have hle : s.size ≤ 1 := by omega
         clear h1
         have ha0 := ha 0 (by omega)
         have ha1 := ha 1 (by omega)
         have ha2 := ha 2 (by omega)
         have ha3 := ha 3 (by omega)
         have ha4 := ha 4 (by omega)
         clear ha
         simp [Lib.accLo, Lib.accHi] at ha0 ha1 ha2 ha3 ha4
         obtain ⟨p0, p1⟩ := ha0
         obtain ⟨p2, p3⟩ := ha1
         obtain ⟨p4, p5⟩ := ha2
         obtain ⟨p6, p7⟩ := ha3
         obtain ⟨p8, p9⟩ := ha4
         rcases hx with rfl | rfl | rfl | rfl | rfl | rfl | rfl
         all_goals
          go_enter Tryz.func212, Tryz.ntmps212
          go_wp2
          go_quiet (fail)
          go_wp2
          go_ret
          refine ⟨ret_bool ?_, by repeat (first | exact Below.refl _ _ | refine Below.drew ?_ | refine Below.alloc ?_ (by simp) _ | exact below_drewN' ((Below.refl _ _).alloc (Nat.le_refl _) _) _)⟩
          rw [HM.out, HS.out]
          rfl
       · have h2 : 2 ≤ s.size := by omega
         have ha0 := ha 0 (by omega)
         have ha1 := ha 1 (by omega)
         have ha2 := ha 2 (by omega)
         have ha3 := ha 3 (by omega)
         have ha4 := ha 4 (by omega)
         have HM' := HM.out
         rw [HM']
         rcases hx with rfl | rfl | rfl | rfl | rfl | rfl | rfl
         · omega
         · exact full_19 s w hs h2 (by omega) hlt hc ha1.1 ha1.2
         · exact full_3 s w hs h2 (by omega) hlt hc ha0.1 ha0.2
         · exact full_35 s w hs h2 (by omega) hlt hc ha2.1 ha2.2
         · exact full_52 s w hs h2 (by omega) hlt hc ha3.1 ha3.2
         · exact full_4 s w hs h2 (by omega) hlt hc ha0.1 ha0.2
         · exact full_68 s w hs h2 (by omega) hlt hc ha4.1 ha4.2
def badL (l : List UInt8) : Bool := decide ((Lib.decodeL l).1 = 65533) && decide ((Lib.decodeL l).2 = 1)
def opensGo : Nat → List UInt8 → Nat → Bool
 | 0, _, _ => true
 | f + 1, l, m =>
  if l = [] then true
  else if badL l then decide (l.length < m) && !fullB l && decide (needB (l.getD 0 0) ≤ m)
  else opensGo f (l.drop (Lib.decodeL l).2) (m - (Lib.decodeL l).2)
def opensB (l : List UInt8) (m : Nat) : Bool := opensGo l.length l m
theorem opensGo_fuel : ∀ (f g : Nat) (l : List UInt8) (m : Nat), l.length ≤ f → l.length ≤ g → opensGo f l m = opensGo g l m
 | 0, 0, _, _, _, _ => rfl
 | 0, g + 1, l, m, hf, _ => by
  have : l = [] := List.eq_nil_of_length_eq_zero (by omega)
  subst this; rfl
 | f + 1, 0, l, m, _, hg => by
  have : l = [] := List.eq_nil_of_length_eq_zero (by omega)
  subst this; rfl
 | f + 1, g + 1, l, m, hf, hg => by
  unfold opensGo
  by_cases hl : l = []
  · rw [if_pos hl, if_pos hl]
  · rw [if_neg hl, if_neg hl]
    by_cases hb : badL l = true
    · rw [if_pos hb, if_pos hb]
    · rw [if_neg hb, if_neg hb]
      have hw := Lib.decodeL_width l
      exact opensGo_fuel f g _ _ (by rw [List.length_drop]; omega) (by rw [List.length_drop]; omega)
theorem opensB_bad {l : List UInt8} {m : Nat} (hl : l ≠ []) (hb : badL l = true) : opensB l m = (decide (l.length < m) && !fullB l && decide (needB (l.getD 0 0) ≤ m)) := by
 unfold opensB
 obtain ⟨f, hf⟩ : ∃ f, l.length = f + 1 := ⟨l.length - 1, by have := List.length_pos_iff.2 hl; omega⟩
 rw [hf, opensGo, if_neg hl, if_pos hb, hf]
theorem opensB_step {l : List UInt8} {m : Nat} (hl : l ≠ []) (hb : badL l = false) : opensB l m = opensB (l.drop (Lib.decodeL l).2) (m - (Lib.decodeL l).2) := by
 unfold opensB
 obtain ⟨f, hf⟩ : ∃ f, l.length = f + 1 := ⟨l.length - 1, by have := List.length_pos_iff.2 hl; omega⟩
 have hw := Lib.decodeL_width l
 rw [hf, opensGo, if_neg hl, if_neg (by rw [hb]; decide)]
 exact opensGo_fuel _ _ _ _ (by rw [List.length_drop]; omega) (Nat.le_refl _)
theorem decode_any (s : ByteArray) (w : World) (hT : Tabs w) :
 Calls Tryz.prog 181 #[.string s] w fun e w' => e = .returned (.tuple #[.int .i32 (Lib.decodeGo s).1, .int .i64 (Lib.decodeGo s).2]) ∧ Below w.heap.size w w' := Tryz.utf8_DecodeRuneInString s w hT
theorem tail_list (s : ByteArray) (k : Nat) : (s.extract k s.size).data.toList = s.data.toList.drop k := Lib.extract_to_end s k
theorem decodeGo_L (s : ByteArray) (k : Nat) (h : k < s.size) : Lib.decodeGo (s.extract k s.size) = Lib.decodeL (s.data.toList.drop k) := by
 have hz : ¬ (s.extract k s.size).size = 0 := by rw [ByteArray.size_extract]; omega
 unfold Lib.decodeGo
 rw [if_neg hz, ← Lib.decodeL_drop, List.drop_zero, tail_list]
set_option maxRecDepth 100000 in
set_option maxHeartbeats 400000 in
theorem opens_any (s : ByteArray) (n : Nat) (w : World) (hs : s.size ≤ n) (hn : n ≤ 140737488355328) (hT : Tabs w) :
  Calls Tryz.prog 169 #[.string s, .int .i64 n] w fun e w' => e = .returned (.bool (opensB s.data.toList n)) ∧ Below w.heap.size w w' := by
 have HT := hd_ hT
 clear hT
 obtain ⟨M, hM⟩ : ∃ M, M = opensB s.data.toList n := ⟨_, rfl⟩
 rw [← hM]
 have HM := hd_ hM
 clear hM
 go_enter Tryz.func169, Tryz.ntmps169
 go_wp2
 go_loopw [5] (fun i wr => ∃ k : Nat, k ≤ s.size ∧ i = .int .i64 k ∧ Hid (M = opensB (s.data.toList.drop k) (n - k)) ∧ Below w.heap.size w wr) (fun i _ => s.size - (intOf i).toNat)
 case atStart => exact ⟨0, by omega, rfl, HM, Below.refl _ _⟩
 case round =>
  obtain ⟨k, hk, rfl, HS, hbw⟩ := hrel
  by_cases hlt : k < s.size
  · have HD := hd_ (fun W hW => decode_any (s.extract k s.size) W hW)
    rw [decodeGo_L s k hlt] at HD
    have hne : s.data.toList.drop k ≠ [] := by
     intro e
     have := congrArg List.length e
     simp at this
     omega
    have hle := Lib.decodeL_le (s.data.toList.drop k) hne
    have hw := Lib.decodeL_width (s.data.toList.drop k)
    have hru := Lib.decodeL_rune (s.data.toList.drop k)
    have hlen : (s.data.toList.drop k).length = s.size - k := by simp
    rw [hlen] at hle
    cases hbad : badL (s.data.toList.drop k)
    · have hst := opensB_step (m := n - k) hne hbad
      have hb2 : ¬ ((Lib.decodeL (s.data.toList.drop k)).1 = 65533 ∧ (Lib.decodeL (s.data.toList.drop k)).2 = 1) := by
       intro h
       simp [badL, h.1, h.2] at hbad
      obtain ⟨c, z, hcz⟩ : ∃ c z, Lib.decodeL (s.data.toList.drop k) = (c, z) := ⟨_, _, rfl⟩
      rw [hcz] at hle hw hru hst hb2 HD
      simp only at hle hw hru hst hb2 HD
      have hnext : Hid (M = opensB (s.data.toList.drop (k + z)) (n - (k + z))) := by
       show M = _
       rw [HS.out, hst, List.drop_drop, Nat.sub_sub]
      clear hst hcz hbad hne hlen
      by_cases h65 : c = 65533
      · have g1 : ((c : Int) == 65533) = true := by simp [h65]
        have g2 : ((z : Int) == 1) = false := by rw [beq_eq_false_iff_ne]; omega
        clear h65 hb2
        go_wp2_with (go_at_call 181; refine (HD.out _ (HT.out.ext hbw)).mono ?_; rintro e w1 ⟨rfl, hb1⟩)
        go_roundw
        case rel => exact ⟨k + z, by omega, by go_num, hnext, bt hbw hb1⟩
        case measure => simp [intOf]; omega
      · have g1 : ((c : Int) == 65533) = false := by rw [beq_eq_false_iff_ne]; omega
        clear h65 hb2
        go_wp2_with (go_at_call 181; refine (HD.out _ (HT.out.ext hbw)).mono ?_; rintro e w1 ⟨rfl, hb1⟩)
        go_roundw
        case rel => exact ⟨k + z, by omega, by go_num, hnext, bt hbw hb1⟩
        case measure => simp [intOf]; omega
    · have hst := opensB_bad (m := n - k) hne hbad
      have hb2 : (Lib.decodeL (s.data.toList.drop k)).1 = 65533 ∧ (Lib.decodeL (s.data.toList.drop k)).2 = 1 := by
       simpa [badL] using hbad
      have hpos : 0 < (s.extract k s.size).size := by rw [ByteArray.size_extract]; omega
      have hget : (s.data.toList.drop k).getD 0 0 = (s.extract k s.size)[0]'hpos := by
       rw [← tail_list, getD_at _ 0 hpos]
      rw [hget, hlen] at hst
      have HF := hd_ (fun W hW => full_any (s.extract k s.size) W (by rw [ByteArray.size_extract]; omega) hW)
      rw [tail_list] at HF
      have HI := hd_ (fun W => fits_any (s.extract k s.size) ((n : Int) - k) hpos W)
      obtain ⟨c, z, hcz⟩ : ∃ c z, Lib.decodeL (s.data.toList.drop k) = (c, z) := ⟨_, _, rfl⟩
      rw [hcz] at hb2 HD
      simp only at hb2 HD
      obtain ⟨rfl, rfl⟩ := hb2
      have HST := hd_ (HS.out.trans hst)
      clear hst hcz hbad hne hlen hle hw hru hget
      generalize fullB (s.data.toList.drop k) = fb at HF HST
      generalize needB ((s.extract k s.size)[0]'hpos) = nb at HI HST
      clear hpos
      by_cases hsn : s.size < n
      · have g3 : decide ((s.size : Int) < (n : Int)) = true := by simp; omega
        cases fb
        · go_wp2_with (first | (go_at_call 181; refine (HD.out _ (HT.out.ext hbw)).mono ?_; rintro e w1 ⟨rfl, hb1⟩) | (go_at_call 212; refine (HF.out _ (HT.out.ext (bt hbw hb1))).mono ?_; rintro e w2 ⟨rfl, hb2⟩) | (go_at_call 213; refine (HI.out _).mono ?_; rintro e w3 ⟨rfl, rfl⟩))
          go_ret
          refine ⟨ret_bool ?_, bt (bt hbw hb1) hb2⟩
          rw [HST.out]
          have e1 : decide (s.size - k < n - k) = true := by simp; omega
          rw [e1]
          simp
          omega
        · go_wp2_with (first | (go_at_call 181; refine (HD.out _ (HT.out.ext hbw)).mono ?_; rintro e w1 ⟨rfl, hb1⟩) | (go_at_call 212; refine (HF.out _ (HT.out.ext (bt hbw hb1))).mono ?_; rintro e w2 ⟨rfl, hb2⟩) | (go_at_call 213; refine (HI.out _).mono ?_; rintro e w3 ⟨rfl, rfl⟩))
          go_ret
          refine ⟨ret_bool ?_, bt (bt hbw hb1) hb2⟩
          rw [HST.out]
          simp
      · have g3 : decide ((s.size : Int) < (n : Int)) = false := by simp; omega
        go_wp2_with (first | (go_at_call 181; refine (HD.out _ (HT.out.ext hbw)).mono ?_; rintro e w1 ⟨rfl, hb1⟩))
        go_ret
        refine ⟨ret_bool ?_, bt hbw hb1⟩
        rw [HST.out]
        have e1 : decide (s.size - k < n - k) = false := by simp; omega
        rw [e1]
        rfl
  · have hk' : k = s.size := by omega
    have HK := hd_ hk'
    clear hk'
    go_wp2
    go_ret
    refine ⟨ret_bool ?_, hbw⟩
    rw [HS.out, HK.out]
    have : s.data.toList.drop s.size = [] := by simp
    rw [this]
    rfl
end Go.Proofs.YtceoficoappkpaaGreatDoor
