/- Contracts of unicode/utf8.FullRuneInString, code.fits and code.opens. -/
import Derived.Test.YtjdfodmialhakaaDoorCheck
import Derived.Deep.QuietTactic
import Derived.BigQuiet
import Derived.Lib.ValidLaws
import Derived.Lib.TrimUEq
import Derived.Lib.MapLaws
namespace Go.Proofs.YtjdfodmialhakaaDoor
open Go.RowKit

/-- FullRuneInString, over the length, the first byte's entry and the next two bytes. -/
def fullN (n x b c : Nat) : Bool :=
  if n = 0 then false
  else if x % 8 ≤ n then true
  else if 1 < n ∧ (b < Lib.accLo (x / 16) ∨ Lib.accHi (x / 16) < b) then true
  else decide (2 < n ∧ (c < 128 ∨ 191 < c))
def fullB (l : List UInt8) : Bool := fullN l.length (Lib.firstT (l.getD 0 0).toNat) (l.getD 1 0).toNat (l.getD 2 0).toNat
theorem getD_at (s : ByteArray) (i : Nat) (h : i < s.size) : s.data.toList.getD i 0 = s[i] := by
  have h' : i < s.data.toList.length := by simpa using h
  rw [List.getD_eq_getElem?_getD, List.getElem?_eq_getElem h']
  rfl
def needB (a : UInt8) : Nat := if 240 ≤ a.toNat then 4 else if 224 ≤ a.toNat then 3 else 2
set_option maxRecDepth 100000 in
theorem fits_any (s : ByteArray) (m : Int) (h : 0 < s.size) (w : World) :
    Calls Tryd.prog 182 #[.string s, .int .i64 m] w fun e w' => e = .returned (.bool (decide ((needB (s[0]'h) : Int) ≤ m))) ∧ w = w' := by
  generalize hM : decide ((needB (s[0]'h) : Int) ≤ m) = M
  have HM := Lib.hid hM
  clear hM
  go_enter Tryd.func182, Tryd.ntmps182
  go_wp2
  all_goals
    go_ret
    refine ⟨ret_bool ?_, rfl⟩
    rw [← HM.out]
    unfold needB
    first
      | (rw [if_pos (by omega)]; rfl)
      | (rw [if_neg (by omega), if_pos (by omega)]; rfl)
      | (rw [if_neg (by omega), if_neg (by omega)]; rfl)
theorem below_drewN' {B : Nat} {a w : World} (h : Below B a w) (n : Nat) : Below B a (w.drewN n) := ⟨h.os, h.tape, h.output, h.size, h.block⟩
theorem full_t {n x b c : Nat} (hn : 0 < n) (h : x % 8 ≤ n) : fullN n x b c = true := by
  unfold fullN
  rw [if_neg (by omega), if_pos h]
theorem full_b {n x b c : Nat} (hn : 1 < n) (h : n < x % 8) (hb : b < Lib.accLo (x / 16) ∨ Lib.accHi (x / 16) < b) : fullN n x b c = true := by
  unfold fullN
  rw [if_neg (by omega), if_neg (by omega), if_pos ⟨hn, hb⟩]
theorem full_c {n x b c : Nat} (hn : 1 < n) (h : n < x % 8) (hb : ¬ (b < Lib.accLo (x / 16) ∨ Lib.accHi (x / 16) < b)) : fullN n x b c = decide (2 < n ∧ (c < 128 ∨ 191 < c)) := by
  unfold fullN
  rw [if_neg (by omega), if_neg (by omega), if_neg (fun h => hb h.2)]
theorem full_c2 {n c : Nat} (h : n ≤ 2) : decide (2 < n ∧ (c < 128 ∨ 191 < c)) = false := decide_eq_false (fun h' => by omega)
set_option maxRecDepth 100000 in
theorem full_19 (s : ByteArray) (w : World) (hs : s.size ≤ 140737488355328) (h2 : 2 ≤ s.size) (h3 : s.size < 3) (hlt : ((s[0]'(by omega)).toNat : Int) < 256)
    (hc : w.cell? ⟨0, (s[0]'(by omega)).toNat, none⟩ = some (.int .u8 19)) (a0 : w.cell? ⟨1, 2, none⟩ = some (.int .u8 160)) (a1 : w.cell? ⟨1, 3, none⟩ = some (.int .u8 191)) :
    Calls Tryd.prog 181 #[.string s] w fun e w' => e = .returned (.bool (fullN s.size 19 (s.data.toList.getD 1 0).toNat (s.data.toList.getD 2 0).toNat)) ∧ Below w.heap.size w w' := by
  have e0 : ((s.size : Int) == 0) = false := by rw [beq_eq_false_iff_ne]; omega
  have g1 : decide ((1 : Int) < s.size) = true := by simp; omega
  have i1 : (1 : Int) < s.size := by omega
  rw [getD_at s 1 (by omega)]
  obtain ⟨M, hM⟩ : ∃ M, M = fullN s.size 19 (s[1]'(by omega)).toNat (s.data.toList.getD 2 0).toNat := ⟨_, rfl⟩
  rw [← hM]
  have HM := Lib.hid hM
  clear hM
  by_cases hl : (s[1]'(by omega)).toNat < 160
  · have g2 : decide (((s[1]'(by omega)).toNat : Int) < 160) = true := by simp; omega
    go_enter Tryd.func181, Tryd.ntmps181
    go_wp2
    go_quiet (fail)
    go_wp2
    go_ret
    exact ⟨ret_bool (by rw [HM.out]; exact (full_b (by omega) (by omega) (Or.inl hl)).symm), below_drewN' ((Below.refl _ _).alloc (Nat.le_refl _) _) _⟩
  · have g2 : decide (((s[1]'(by omega)).toNat : Int) < 160) = false := by simp; omega
    by_cases hh : 191 < (s[1]'(by omega)).toNat
    · have g3 : decide ((191 : Int) < ((s[1]'(by omega)).toNat : Int)) = true := by simp; omega
      go_enter Tryd.func181, Tryd.ntmps181
      go_wp2
      go_quiet (fail)
      go_wp2
      go_ret
      exact ⟨ret_bool (by rw [HM.out]; exact (full_b (by omega) (by omega) (Or.inr hh)).symm), below_drewN' ((Below.refl _ _).alloc (Nat.le_refl _) _) _⟩
    · have g3 : decide ((191 : Int) < ((s[1]'(by omega)).toNat : Int)) = false := by simp; omega
      have hF := full_c (n := s.size) (x := 19) (b := (s[1]'(by omega)).toNat) (c := (s.data.toList.getD 2 0).toNat) (by omega) (by omega) (fun h => h.elim hl hh)
      have HF := Lib.hid hF
      clear hF
      by_cases h2' : s.size = 2
      · have HS := Lib.hid h2'
        have hle : s.size ≤ 2 := by omega
        clear h2'
        go_enter Tryd.func181, Tryd.ntmps181
        go_wp2
        go_quiet (fail)
        go_wp2
        go_ret
        exact ⟨ret_bool (by rw [HM.out, HF.out]; exact (full_c2 hle).symm), below_drewN' ((Below.refl _ _).alloc (Nat.le_refl _) _) _⟩
      · omega
set_option maxRecDepth 100000 in
theorem full_3 (s : ByteArray) (w : World) (hs : s.size ≤ 140737488355328) (h2 : 2 ≤ s.size) (h3 : s.size < 3) (hlt : ((s[0]'(by omega)).toNat : Int) < 256)
    (hc : w.cell? ⟨0, (s[0]'(by omega)).toNat, none⟩ = some (.int .u8 3)) (a0 : w.cell? ⟨1, 0, none⟩ = some (.int .u8 128)) (a1 : w.cell? ⟨1, 1, none⟩ = some (.int .u8 191)) :
    Calls Tryd.prog 181 #[.string s] w fun e w' => e = .returned (.bool (fullN s.size 3 (s.data.toList.getD 1 0).toNat (s.data.toList.getD 2 0).toNat)) ∧ Below w.heap.size w w' := by
  have e0 : ((s.size : Int) == 0) = false := by rw [beq_eq_false_iff_ne]; omega
  have g1 : decide ((1 : Int) < s.size) = true := by simp; omega
  have i1 : (1 : Int) < s.size := by omega
  rw [getD_at s 1 (by omega)]
  obtain ⟨M, hM⟩ : ∃ M, M = fullN s.size 3 (s[1]'(by omega)).toNat (s.data.toList.getD 2 0).toNat := ⟨_, rfl⟩
  rw [← hM]
  have HM := Lib.hid hM
  clear hM
  by_cases hl : (s[1]'(by omega)).toNat < 128
  · have g2 : decide (((s[1]'(by omega)).toNat : Int) < 128) = true := by simp; omega
    go_enter Tryd.func181, Tryd.ntmps181
    go_wp2
    go_quiet (fail)
    go_wp2
    go_ret
    exact ⟨ret_bool (by rw [HM.out]; exact (full_b (by omega) (by omega) (Or.inl hl)).symm), below_drewN' ((Below.refl _ _).alloc (Nat.le_refl _) _) _⟩
  · have g2 : decide (((s[1]'(by omega)).toNat : Int) < 128) = false := by simp; omega
    by_cases hh : 191 < (s[1]'(by omega)).toNat
    · have g3 : decide ((191 : Int) < ((s[1]'(by omega)).toNat : Int)) = true := by simp; omega
      go_enter Tryd.func181, Tryd.ntmps181
      go_wp2
      go_quiet (fail)
      go_wp2
      go_ret
      exact ⟨ret_bool (by rw [HM.out]; exact (full_b (by omega) (by omega) (Or.inr hh)).symm), below_drewN' ((Below.refl _ _).alloc (Nat.le_refl _) _) _⟩
    · have g3 : decide ((191 : Int) < ((s[1]'(by omega)).toNat : Int)) = false := by simp; omega
      have hF := full_c (n := s.size) (x := 3) (b := (s[1]'(by omega)).toNat) (c := (s.data.toList.getD 2 0).toNat) (by omega) (by omega) (fun h => h.elim hl hh)
      have HF := Lib.hid hF
      clear hF
      by_cases h2' : s.size = 2
      · have HS := Lib.hid h2'
        have hle : s.size ≤ 2 := by omega
        clear h2'
        go_enter Tryd.func181, Tryd.ntmps181
        go_wp2
        go_quiet (fail)
        go_wp2
        go_ret
        exact ⟨ret_bool (by rw [HM.out, HF.out]; exact (full_c2 hle).symm), below_drewN' ((Below.refl _ _).alloc (Nat.le_refl _) _) _⟩
      · omega
set_option maxRecDepth 100000 in
theorem full_35 (s : ByteArray) (w : World) (hs : s.size ≤ 140737488355328) (h2 : 2 ≤ s.size) (h3 : s.size < 3) (hlt : ((s[0]'(by omega)).toNat : Int) < 256)
    (hc : w.cell? ⟨0, (s[0]'(by omega)).toNat, none⟩ = some (.int .u8 35)) (a0 : w.cell? ⟨1, 4, none⟩ = some (.int .u8 128)) (a1 : w.cell? ⟨1, 5, none⟩ = some (.int .u8 159)) :
    Calls Tryd.prog 181 #[.string s] w fun e w' => e = .returned (.bool (fullN s.size 35 (s.data.toList.getD 1 0).toNat (s.data.toList.getD 2 0).toNat)) ∧ Below w.heap.size w w' := by
  have e0 : ((s.size : Int) == 0) = false := by rw [beq_eq_false_iff_ne]; omega
  have g1 : decide ((1 : Int) < s.size) = true := by simp; omega
  have i1 : (1 : Int) < s.size := by omega
  rw [getD_at s 1 (by omega)]
  obtain ⟨M, hM⟩ : ∃ M, M = fullN s.size 35 (s[1]'(by omega)).toNat (s.data.toList.getD 2 0).toNat := ⟨_, rfl⟩
  rw [← hM]
  have HM := Lib.hid hM
  clear hM
  by_cases hl : (s[1]'(by omega)).toNat < 128
  · have g2 : decide (((s[1]'(by omega)).toNat : Int) < 128) = true := by simp; omega
    go_enter Tryd.func181, Tryd.ntmps181
    go_wp2
    go_quiet (fail)
    go_wp2
    go_ret
    exact ⟨ret_bool (by rw [HM.out]; exact (full_b (by omega) (by omega) (Or.inl hl)).symm), below_drewN' ((Below.refl _ _).alloc (Nat.le_refl _) _) _⟩
  · have g2 : decide (((s[1]'(by omega)).toNat : Int) < 128) = false := by simp; omega
    by_cases hh : 159 < (s[1]'(by omega)).toNat
    · have g3 : decide ((159 : Int) < ((s[1]'(by omega)).toNat : Int)) = true := by simp; omega
      go_enter Tryd.func181, Tryd.ntmps181
      go_wp2
      go_quiet (fail)
      go_wp2
      go_ret
      exact ⟨ret_bool (by rw [HM.out]; exact (full_b (by omega) (by omega) (Or.inr hh)).symm), below_drewN' ((Below.refl _ _).alloc (Nat.le_refl _) _) _⟩
    · have g3 : decide ((159 : Int) < ((s[1]'(by omega)).toNat : Int)) = false := by simp; omega
      have hF := full_c (n := s.size) (x := 35) (b := (s[1]'(by omega)).toNat) (c := (s.data.toList.getD 2 0).toNat) (by omega) (by omega) (fun h => h.elim hl hh)
      have HF := Lib.hid hF
      clear hF
      by_cases h2' : s.size = 2
      · have HS := Lib.hid h2'
        have hle : s.size ≤ 2 := by omega
        clear h2'
        go_enter Tryd.func181, Tryd.ntmps181
        go_wp2
        go_quiet (fail)
        go_wp2
        go_ret
        exact ⟨ret_bool (by rw [HM.out, HF.out]; exact (full_c2 hle).symm), below_drewN' ((Below.refl _ _).alloc (Nat.le_refl _) _) _⟩
      · omega
set_option maxRecDepth 100000 in
theorem full_52 (s : ByteArray) (w : World) (hs : s.size ≤ 140737488355328) (h2 : 2 ≤ s.size) (h3 : s.size < 4) (hlt : ((s[0]'(by omega)).toNat : Int) < 256)
    (hc : w.cell? ⟨0, (s[0]'(by omega)).toNat, none⟩ = some (.int .u8 52)) (a0 : w.cell? ⟨1, 6, none⟩ = some (.int .u8 144)) (a1 : w.cell? ⟨1, 7, none⟩ = some (.int .u8 191)) :
    Calls Tryd.prog 181 #[.string s] w fun e w' => e = .returned (.bool (fullN s.size 52 (s.data.toList.getD 1 0).toNat (s.data.toList.getD 2 0).toNat)) ∧ Below w.heap.size w w' := by
  have e0 : ((s.size : Int) == 0) = false := by rw [beq_eq_false_iff_ne]; omega
  have g1 : decide ((1 : Int) < s.size) = true := by simp; omega
  have i1 : (1 : Int) < s.size := by omega
  rw [getD_at s 1 (by omega)]
  obtain ⟨M, hM⟩ : ∃ M, M = fullN s.size 52 (s[1]'(by omega)).toNat (s.data.toList.getD 2 0).toNat := ⟨_, rfl⟩
  rw [← hM]
  have HM := Lib.hid hM
  clear hM
  by_cases hl : (s[1]'(by omega)).toNat < 144
  · have g2 : decide (((s[1]'(by omega)).toNat : Int) < 144) = true := by simp; omega
    go_enter Tryd.func181, Tryd.ntmps181
    go_wp2
    go_quiet (fail)
    go_wp2
    go_ret
    exact ⟨ret_bool (by rw [HM.out]; exact (full_b (by omega) (by omega) (Or.inl hl)).symm), below_drewN' ((Below.refl _ _).alloc (Nat.le_refl _) _) _⟩
  · have g2 : decide (((s[1]'(by omega)).toNat : Int) < 144) = false := by simp; omega
    by_cases hh : 191 < (s[1]'(by omega)).toNat
    · have g3 : decide ((191 : Int) < ((s[1]'(by omega)).toNat : Int)) = true := by simp; omega
      go_enter Tryd.func181, Tryd.ntmps181
      go_wp2
      go_quiet (fail)
      go_wp2
      go_ret
      exact ⟨ret_bool (by rw [HM.out]; exact (full_b (by omega) (by omega) (Or.inr hh)).symm), below_drewN' ((Below.refl _ _).alloc (Nat.le_refl _) _) _⟩
    · have g3 : decide ((191 : Int) < ((s[1]'(by omega)).toNat : Int)) = false := by simp; omega
      have hF := full_c (n := s.size) (x := 52) (b := (s[1]'(by omega)).toNat) (c := (s.data.toList.getD 2 0).toNat) (by omega) (by omega) (fun h => h.elim hl hh)
      have HF := Lib.hid hF
      clear hF
      by_cases h2' : s.size = 2
      · have HS := Lib.hid h2'
        have hle : s.size ≤ 2 := by omega
        clear h2'
        go_enter Tryd.func181, Tryd.ntmps181
        go_wp2
        go_quiet (fail)
        go_wp2
        go_ret
        exact ⟨ret_bool (by rw [HM.out, HF.out]; exact (full_c2 hle).symm), below_drewN' ((Below.refl _ _).alloc (Nat.le_refl _) _) _⟩
      · have h3' : 3 ≤ s.size := by omega
        have hg := getD_at s 2 (by omega)
        have HG := Lib.hid hg
        clear hg h2'
        go_enter Tryd.func181, Tryd.ntmps181
        go_wp2
        go_quiet (fail)
        go_wp2
        all_goals
          go_ret
          refine ⟨ret_bool ?_, below_drewN' ((Below.refl _ _).alloc (Nat.le_refl _) _) _⟩
          rw [HM.out, HF.out, HG.out]
          first
            | exact (decide_eq_true (by omega)).symm
            | exact (decide_eq_false (by omega)).symm
set_option maxRecDepth 100000 in
theorem full_4 (s : ByteArray) (w : World) (hs : s.size ≤ 140737488355328) (h2 : 2 ≤ s.size) (h3 : s.size < 4) (hlt : ((s[0]'(by omega)).toNat : Int) < 256)
    (hc : w.cell? ⟨0, (s[0]'(by omega)).toNat, none⟩ = some (.int .u8 4)) (a0 : w.cell? ⟨1, 0, none⟩ = some (.int .u8 128)) (a1 : w.cell? ⟨1, 1, none⟩ = some (.int .u8 191)) :
    Calls Tryd.prog 181 #[.string s] w fun e w' => e = .returned (.bool (fullN s.size 4 (s.data.toList.getD 1 0).toNat (s.data.toList.getD 2 0).toNat)) ∧ Below w.heap.size w w' := by
  have e0 : ((s.size : Int) == 0) = false := by rw [beq_eq_false_iff_ne]; omega
  have g1 : decide ((1 : Int) < s.size) = true := by simp; omega
  have i1 : (1 : Int) < s.size := by omega
  rw [getD_at s 1 (by omega)]
  obtain ⟨M, hM⟩ : ∃ M, M = fullN s.size 4 (s[1]'(by omega)).toNat (s.data.toList.getD 2 0).toNat := ⟨_, rfl⟩
  rw [← hM]
  have HM := Lib.hid hM
  clear hM
  by_cases hl : (s[1]'(by omega)).toNat < 128
  · have g2 : decide (((s[1]'(by omega)).toNat : Int) < 128) = true := by simp; omega
    go_enter Tryd.func181, Tryd.ntmps181
    go_wp2
    go_quiet (fail)
    go_wp2
    go_ret
    exact ⟨ret_bool (by rw [HM.out]; exact (full_b (by omega) (by omega) (Or.inl hl)).symm), below_drewN' ((Below.refl _ _).alloc (Nat.le_refl _) _) _⟩
  · have g2 : decide (((s[1]'(by omega)).toNat : Int) < 128) = false := by simp; omega
    by_cases hh : 191 < (s[1]'(by omega)).toNat
    · have g3 : decide ((191 : Int) < ((s[1]'(by omega)).toNat : Int)) = true := by simp; omega
      go_enter Tryd.func181, Tryd.ntmps181
      go_wp2
      go_quiet (fail)
      go_wp2
      go_ret
      exact ⟨ret_bool (by rw [HM.out]; exact (full_b (by omega) (by omega) (Or.inr hh)).symm), below_drewN' ((Below.refl _ _).alloc (Nat.le_refl _) _) _⟩
    · have g3 : decide ((191 : Int) < ((s[1]'(by omega)).toNat : Int)) = false := by simp; omega
      have hF := full_c (n := s.size) (x := 4) (b := (s[1]'(by omega)).toNat) (c := (s.data.toList.getD 2 0).toNat) (by omega) (by omega) (fun h => h.elim hl hh)
      have HF := Lib.hid hF
      clear hF
      by_cases h2' : s.size = 2
      · have HS := Lib.hid h2'
        have hle : s.size ≤ 2 := by omega
        clear h2'
        go_enter Tryd.func181, Tryd.ntmps181
        go_wp2
        go_quiet (fail)
        go_wp2
        go_ret
        exact ⟨ret_bool (by rw [HM.out, HF.out]; exact (full_c2 hle).symm), below_drewN' ((Below.refl _ _).alloc (Nat.le_refl _) _) _⟩
      · have h3' : 3 ≤ s.size := by omega
        have hg := getD_at s 2 (by omega)
        have HG := Lib.hid hg
        clear hg h2'
        go_enter Tryd.func181, Tryd.ntmps181
        go_wp2
        go_quiet (fail)
        go_wp2
        all_goals
          go_ret
          refine ⟨ret_bool ?_, below_drewN' ((Below.refl _ _).alloc (Nat.le_refl _) _) _⟩
          rw [HM.out, HF.out, HG.out]
          first
            | exact (decide_eq_true (by omega)).symm
            | exact (decide_eq_false (by omega)).symm
set_option maxRecDepth 100000 in
theorem full_68 (s : ByteArray) (w : World) (hs : s.size ≤ 140737488355328) (h2 : 2 ≤ s.size) (h3 : s.size < 4) (hlt : ((s[0]'(by omega)).toNat : Int) < 256)
    (hc : w.cell? ⟨0, (s[0]'(by omega)).toNat, none⟩ = some (.int .u8 68)) (a0 : w.cell? ⟨1, 8, none⟩ = some (.int .u8 128)) (a1 : w.cell? ⟨1, 9, none⟩ = some (.int .u8 143)) :
    Calls Tryd.prog 181 #[.string s] w fun e w' => e = .returned (.bool (fullN s.size 68 (s.data.toList.getD 1 0).toNat (s.data.toList.getD 2 0).toNat)) ∧ Below w.heap.size w w' := by
  have e0 : ((s.size : Int) == 0) = false := by rw [beq_eq_false_iff_ne]; omega
  have g1 : decide ((1 : Int) < s.size) = true := by simp; omega
  have i1 : (1 : Int) < s.size := by omega
  rw [getD_at s 1 (by omega)]
  obtain ⟨M, hM⟩ : ∃ M, M = fullN s.size 68 (s[1]'(by omega)).toNat (s.data.toList.getD 2 0).toNat := ⟨_, rfl⟩
  rw [← hM]
  have HM := Lib.hid hM
  clear hM
  by_cases hl : (s[1]'(by omega)).toNat < 128
  · have g2 : decide (((s[1]'(by omega)).toNat : Int) < 128) = true := by simp; omega
    go_enter Tryd.func181, Tryd.ntmps181
    go_wp2
    go_quiet (fail)
    go_wp2
    go_ret
    exact ⟨ret_bool (by rw [HM.out]; exact (full_b (by omega) (by omega) (Or.inl hl)).symm), below_drewN' ((Below.refl _ _).alloc (Nat.le_refl _) _) _⟩
  · have g2 : decide (((s[1]'(by omega)).toNat : Int) < 128) = false := by simp; omega
    by_cases hh : 143 < (s[1]'(by omega)).toNat
    · have g3 : decide ((143 : Int) < ((s[1]'(by omega)).toNat : Int)) = true := by simp; omega
      go_enter Tryd.func181, Tryd.ntmps181
      go_wp2
      go_quiet (fail)
      go_wp2
      go_ret
      exact ⟨ret_bool (by rw [HM.out]; exact (full_b (by omega) (by omega) (Or.inr hh)).symm), below_drewN' ((Below.refl _ _).alloc (Nat.le_refl _) _) _⟩
    · have g3 : decide ((143 : Int) < ((s[1]'(by omega)).toNat : Int)) = false := by simp; omega
      have hF := full_c (n := s.size) (x := 68) (b := (s[1]'(by omega)).toNat) (c := (s.data.toList.getD 2 0).toNat) (by omega) (by omega) (fun h => h.elim hl hh)
      have HF := Lib.hid hF
      clear hF
      by_cases h2' : s.size = 2
      · have HS := Lib.hid h2'
        have hle : s.size ≤ 2 := by omega
        clear h2'
        go_enter Tryd.func181, Tryd.ntmps181
        go_wp2
        go_quiet (fail)
        go_wp2
        go_ret
        exact ⟨ret_bool (by rw [HM.out, HF.out]; exact (full_c2 hle).symm), below_drewN' ((Below.refl _ _).alloc (Nat.le_refl _) _) _⟩
      · have h3' : 3 ≤ s.size := by omega
        have hg := getD_at s 2 (by omega)
        have HG := Lib.hid hg
        clear hg h2'
        go_enter Tryd.func181, Tryd.ntmps181
        go_wp2
        go_quiet (fail)
        go_wp2
        all_goals
          go_ret
          refine ⟨ret_bool ?_, below_drewN' ((Below.refl _ _).alloc (Nat.le_refl _) _) _⟩
          rw [HM.out, HF.out, HG.out]
          first
            | exact (decide_eq_true (by omega)).symm
            | exact (decide_eq_false (by omega)).symm
theorem cell_first (w : World) (hT : Tabs w) (c : Nat) (h : c < 256) : w.cell? ⟨0, c, none⟩ = some (.int .u8 (Lib.firstT c)) := hT.1 c h
set_option maxRecDepth 100000 in
theorem full_any (s : ByteArray) (w : World) (hs : s.size ≤ 140737488355328) (hT : Tabs w) :
    Calls Tryd.prog 181 #[.string s] w fun e w' => e = .returned (.bool (fullB s.data.toList)) ∧ Below w.heap.size w w' := by
  by_cases h0 : s.size = 0
  · have e0 : ((s.size : Int) == 0) = true := by simp [h0]
    have e : fullB s.data.toList = false := by
      obtain rfl := empty_of_size h0
      rfl
    rw [e]
    clear e hT h0
    go_enter Tryd.func181, Tryd.ntmps181
    go_wp2
    go_ret
    exact ⟨rfl, Below.refl _ _⟩
  · have e0 : ((s.size : Int) == 0) = false := by rw [beq_eq_false_iff_ne]; omega
    have hpos : 0 < s.size := by omega
    have hc := cell_first w hT (s[0]'hpos).toNat (s[0]'hpos).toNat_lt
    have hx := Lib.firstT_cases (s[0]'hpos).toNat
    have ha : ∀ i, i < 16 → w.cell? ⟨1, 2 * i, none⟩ = some (.int .u8 (Lib.accLo i)) ∧ w.cell? ⟨1, 2 * i + 1, none⟩ = some (.int .u8 (Lib.accHi i)) := hT.2
    have hlt : ((s[0]'hpos).toNat : Int) < 256 := by have := (s[0]'hpos).toNat_lt; omega
    have hfull : ∀ x, x = Lib.firstT (s[0]'hpos).toNat → fullB s.data.toList = fullN s.size x (s.data.toList.getD 1 0).toNat (s.data.toList.getD 2 0).toNat := by
      rintro x rfl
      unfold fullB
      rw [getD_at s 0 hpos]
      simp
    obtain ⟨x, hxx⟩ : ∃ x, x = Lib.firstT (s[0]'hpos).toNat := ⟨_, rfl⟩
    rw [← hxx] at hc hx
    have hF := hfull x hxx
    clear hfull hxx h0 hT
    rw [hF]
    clear hF
    obtain ⟨M, hM⟩ : ∃ M, M = fullN s.size x (s.data.toList.getD 1 0).toNat (s.data.toList.getD 2 0).toNat := ⟨_, rfl⟩
    rw [← hM]
    have HM := Lib.hid hM
    clear hM
    rcases hx with rfl | rfl | hx
    · clear ha
      go_enter Tryd.func181, Tryd.ntmps181
      go_wp2
      go_ret
      refine ⟨ret_bool ?_, Below.refl _ _⟩
      rw [HM.out]
      exact (full_t hpos (by omega)).symm
    · clear ha
      have h1 : (1 : Int) ≤ s.size := by omega
      go_enter Tryd.func181, Tryd.ntmps181
      go_wp2
      go_ret
      refine ⟨ret_bool ?_, Below.refl _ _⟩
      rw [HM.out]
      exact (full_t hpos (by omega)).symm
    · by_cases hbig : x % 8 ≤ s.size
      · rcases hx with rfl | rfl | rfl | rfl | rfl | rfl | rfl
        all_goals
          clear ha
          simp only [Nat.reduceMod] at hbig
          go_enter Tryd.func181, Tryd.ntmps181
          go_wp2
          go_ret
          refine ⟨ret_bool ?_, Below.refl _ _⟩
          rw [HM.out]
          exact (full_t hpos (by omega)).symm
      · by_cases h1 : s.size = 1
        · have g1 : decide ((1 : Int) < s.size) = false := by simp; omega
          have g2 : decide ((2 : Int) < s.size) = false := by simp; omega
          have HS := Lib.hid h1
          have hle : s.size ≤ 1 := by omega
          clear h1
          have ha0 := ha 0 (by omega)
          have ha1 := ha 1 (by omega)
          have ha2 := ha 2 (by omega)
          have ha3 := ha 3 (by omega)
          have ha4 := ha 4 (by omega)
          clear ha
          simp [Lib.accLo, Lib.accHi] at ha0 ha1 ha2 ha3 ha4
          obtain ⟨p0, p1⟩ := ha0
          obtain ⟨p2, p3⟩ := ha1
          obtain ⟨p4, p5⟩ := ha2
          obtain ⟨p6, p7⟩ := ha3
          obtain ⟨p8, p9⟩ := ha4
          rcases hx with rfl | rfl | rfl | rfl | rfl | rfl | rfl
          all_goals
            go_enter Tryd.func181, Tryd.ntmps181
            go_wp2
            go_quiet (fail)
            go_wp2
            go_ret
            refine ⟨ret_bool ?_, by repeat (first | exact Below.refl _ _ | refine Below.drew ?_ | refine Below.alloc ?_ (by simp) _ | exact below_drewN' ((Below.refl _ _).alloc (Nat.le_refl _) _) _)⟩
            rw [HM.out, HS.out]
            rfl
        · have h2 : 2 ≤ s.size := by omega
          have ha0 := ha 0 (by omega)
          have ha1 := ha 1 (by omega)
          have ha2 := ha 2 (by omega)
          have ha3 := ha 3 (by omega)
          have ha4 := ha 4 (by omega)
          have HM' := HM.out
          rw [HM']
          rcases hx with rfl | rfl | rfl | rfl | rfl | rfl | rfl
          · omega
          · exact full_19 s w hs h2 (by omega) hlt hc ha1.1 ha1.2
          · exact full_3 s w hs h2 (by omega) hlt hc ha0.1 ha0.2
          · exact full_35 s w hs h2 (by omega) hlt hc ha2.1 ha2.2
          · exact full_52 s w hs h2 (by omega) hlt hc ha3.1 ha3.2
          · exact full_4 s w hs h2 (by omega) hlt hc ha0.1 ha0.2
          · exact full_68 s w hs h2 (by omega) hlt hc ha4.1 ha4.2
end Go.Proofs.YtjdfodmialhakaaDoor
