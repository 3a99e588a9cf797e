/- The contract of code.opens: whether some bytes begin a valid text of so many. -/
import Derived.Test.YtjdfodmialhakaaDoorUtf
import Derived.Shelf.Unicode.DecodeLastEight
namespace Go.Proofs.YtjdfodmialhakaaDoor
open Go.RowKit

def badL (l : List UInt8) : Bool := decide ((Lib.decodeL l).1 = 65533) && decide ((Lib.decodeL l).2 = 1)
def opensGo : Nat → List UInt8 → Nat → Bool
  | 0, _, _ => true
  | f + 1, l, m =>
    if l = [] then true
    else if badL l then decide (l.length < m) && !fullB l && decide (needB (l.getD 0 0) ≤ m)
    else opensGo f (l.drop (Lib.decodeL l).2) (m - (Lib.decodeL l).2)
def opensB (l : List UInt8) (m : Nat) : Bool := opensGo l.length l m
theorem opensGo_fuel : ∀ (f g : Nat) (l : List UInt8) (m : Nat), l.length ≤ f → l.length ≤ g → opensGo f l m = opensGo g l m
  | 0, 0, _, _, _, _ => rfl
  | 0, g + 1, l, m, hf, _ => by
    have : l = [] := List.eq_nil_of_length_eq_zero (by omega)
    subst this; rfl
  | f + 1, 0, l, m, _, hg => by
    have : l = [] := List.eq_nil_of_length_eq_zero (by omega)
    subst this; rfl
  | f + 1, g + 1, l, m, hf, hg => by
    unfold opensGo
    by_cases hl : l = []
    · rw [if_pos hl, if_pos hl]
    · rw [if_neg hl, if_neg hl]
      by_cases hb : badL l = true
      · rw [if_pos hb, if_pos hb]
      · rw [if_neg hb, if_neg hb]
        have hw := Lib.decodeL_width l
        exact opensGo_fuel f g _ _ (by rw [List.length_drop]; omega) (by rw [List.length_drop]; omega)
theorem opensB_nil (m : Nat) : opensB [] m = true := rfl
theorem opensB_bad {l : List UInt8} {m : Nat} (hl : l ≠ []) (hb : badL l = true) : opensB l m = (decide (l.length < m) && !fullB l && decide (needB (l.getD 0 0) ≤ m)) := by
  unfold opensB
  obtain ⟨f, hf⟩ : ∃ f, l.length = f + 1 := ⟨l.length - 1, by have := List.length_pos_iff.2 hl; omega⟩
  rw [hf, opensGo, if_neg hl, if_pos hb, hf]
theorem opensB_step {l : List UInt8} {m : Nat} (hl : l ≠ []) (hb : badL l = false) : opensB l m = opensB (l.drop (Lib.decodeL l).2) (m - (Lib.decodeL l).2) := by
  unfold opensB
  obtain ⟨f, hf⟩ : ∃ f, l.length = f + 1 := ⟨l.length - 1, by have := List.length_pos_iff.2 hl; omega⟩
  have hw := Lib.decodeL_width l
  rw [hf, opensGo, if_neg hl, if_neg (by rw [hb]; decide)]
  exact opensGo_fuel _ _ _ _ (by rw [List.length_drop]; omega) (Nat.le_refl _)
theorem decode_any (s : ByteArray) (w : World) (hT : Tabs w) :
    Calls Tryd.prog 180 #[.string s] w fun e w' => e = .returned (.tuple #[.int .i32 (Lib.decodeGo s).1, .int .i64 (Lib.decodeGo s).2]) ∧ Below w.heap.size w w' := Tryd.utf8_DecodeRuneInString s w hT
theorem tail_list (s : ByteArray) (k : Nat) : (s.extract k s.size).data.toList = s.data.toList.drop k := Lib.extract_to_end s k
theorem decodeGo_L (s : ByteArray) (k : Nat) (h : k < s.size) : Lib.decodeGo (s.extract k s.size) = Lib.decodeL (s.data.toList.drop k) := by
  have hz : ¬ (s.extract k s.size).size = 0 := by rw [ByteArray.size_extract]; omega
  unfold Lib.decodeGo
  rw [if_neg hz, ← Lib.decodeL_drop, List.drop_zero, tail_list]

set_option maxRecDepth 100000 in
set_option maxHeartbeats 400000 in
theorem opens_any (s : ByteArray) (n : Nat) (w : World) (hs : s.size ≤ n) (hn : n ≤ 140737488355328) (hT : Tabs w) :
    Calls Tryd.prog 176 #[.string s, .int .i64 n] w fun e w' => e = .returned (.bool (opensB s.data.toList n)) ∧ Below w.heap.size w w' := by
  have HT := Lib.hid hT
  clear hT
  obtain ⟨M, hM⟩ : ∃ M, M = opensB s.data.toList n := ⟨_, rfl⟩
  rw [← hM]
  have HM := Lib.hid hM
  clear hM
  go_enter Tryd.func176, Tryd.ntmps176
  go_wp2
  go_loopw [5] (fun i wr => ∃ k : Nat, k ≤ s.size ∧ i = .int .i64 k ∧ Hid (M = opensB (s.data.toList.drop k) (n - k)) ∧ Below w.heap.size w wr) (fun i _ => s.size - (intOf i).toNat)
  case atStart => exact ⟨0, by omega, rfl, HM, Below.refl _ _⟩
  case round =>
    obtain ⟨k, hk, rfl, HS, hbw⟩ := hrel
    by_cases hlt : k < s.size
    · have HD := Lib.hid (fun W hW => decode_any (s.extract k s.size) W hW)
      rw [decodeGo_L s k hlt] at HD
      have hne : s.data.toList.drop k ≠ [] := by
        intro e
        have := congrArg List.length e
        simp at this
        omega
      have hle := Lib.decodeL_le (s.data.toList.drop k) hne
      have hw := Lib.decodeL_width (s.data.toList.drop k)
      have hru := Lib.decodeL_rune (s.data.toList.drop k)
      have hlen : (s.data.toList.drop k).length = s.size - k := by simp
      rw [hlen] at hle
      cases hbad : badL (s.data.toList.drop k)
      · have hst := opensB_step (m := n - k) hne hbad
        have hb2 : ¬ ((Lib.decodeL (s.data.toList.drop k)).1 = 65533 ∧ (Lib.decodeL (s.data.toList.drop k)).2 = 1) := by
          intro h
          simp [badL, h.1, h.2] at hbad
        obtain ⟨c, z, hcz⟩ : ∃ c z, Lib.decodeL (s.data.toList.drop k) = (c, z) := ⟨_, _, rfl⟩
        rw [hcz] at hle hw hru hst hb2 HD
        simp only at hle hw hru hst hb2 HD
        have hnext : Hid (M = opensB (s.data.toList.drop (k + z)) (n - (k + z))) := by
          show M = _
          rw [HS.out, hst, List.drop_drop, Nat.sub_sub]
        clear hst hcz hbad hne hlen
        by_cases h65 : c = 65533
        · have g1 : ((c : Int) == 65533) = true := by simp [h65]
          have g2 : ((z : Int) == 1) = false := by rw [beq_eq_false_iff_ne]; omega
          clear h65 hb2
          go_wp2_with (go_at_call 180; refine (HD.out _ (HT.out.ext hbw)).mono ?_; rintro e w1 ⟨rfl, hb1⟩)
          go_roundw
          case rel => exact ⟨k + z, by omega, by go_num, hnext, bt hbw hb1⟩
          case measure => simp [intOf]; omega
        · have g1 : ((c : Int) == 65533) = false := by rw [beq_eq_false_iff_ne]; omega
          clear h65 hb2
          go_wp2_with (go_at_call 180; refine (HD.out _ (HT.out.ext hbw)).mono ?_; rintro e w1 ⟨rfl, hb1⟩)
          go_roundw
          case rel => exact ⟨k + z, by omega, by go_num, hnext, bt hbw hb1⟩
          case measure => simp [intOf]; omega
      · have hst := opensB_bad (m := n - k) hne hbad
        have hb2 : (Lib.decodeL (s.data.toList.drop k)).1 = 65533 ∧ (Lib.decodeL (s.data.toList.drop k)).2 = 1 := by
          simpa [badL] using hbad
        have hpos : 0 < (s.extract k s.size).size := by rw [ByteArray.size_extract]; omega
        have hget : (s.data.toList.drop k).getD 0 0 = (s.extract k s.size)[0]'hpos := by
          rw [← tail_list, getD_at _ 0 hpos]
        rw [hget, hlen] at hst
        have HF := Lib.hid (fun W hW => full_any (s.extract k s.size) W (by rw [ByteArray.size_extract]; omega) hW)
        rw [tail_list] at HF
        have HI := Lib.hid (fun W => fits_any (s.extract k s.size) ((n : Int) - k) hpos W)
        obtain ⟨c, z, hcz⟩ : ∃ c z, Lib.decodeL (s.data.toList.drop k) = (c, z) := ⟨_, _, rfl⟩
        rw [hcz] at hb2 HD
        simp only at hb2 HD
        obtain ⟨rfl, rfl⟩ := hb2
        have HST := Lib.hid (HS.out.trans hst)
        clear hst hcz hbad hne hlen hle hw hru hget
        generalize fullB (s.data.toList.drop k) = fb at HF HST
        generalize needB ((s.extract k s.size)[0]'hpos) = nb at HI HST
        clear hpos
        by_cases hsn : s.size < n
        · have g3 : decide ((s.size : Int) < (n : Int)) = true := by simp; omega
          cases fb
          · go_wp2_with (first | (go_at_call 180; refine (HD.out _ (HT.out.ext hbw)).mono ?_; rintro e w1 ⟨rfl, hb1⟩) | (go_at_call 181; refine (HF.out _ (HT.out.ext (bt hbw hb1))).mono ?_; rintro e w2 ⟨rfl, hb2⟩) | (go_at_call 182; refine (HI.out _).mono ?_; rintro e w3 ⟨rfl, rfl⟩))
            go_ret
            refine ⟨ret_bool ?_, bt (bt hbw hb1) hb2⟩
            rw [HST.out]
            have e1 : decide (s.size - k < n - k) = true := by simp; omega
            rw [e1]
            simp
            omega
          · go_wp2_with (first | (go_at_call 180; refine (HD.out _ (HT.out.ext hbw)).mono ?_; rintro e w1 ⟨rfl, hb1⟩) | (go_at_call 181; refine (HF.out _ (HT.out.ext (bt hbw hb1))).mono ?_; rintro e w2 ⟨rfl, hb2⟩) | (go_at_call 182; refine (HI.out _).mono ?_; rintro e w3 ⟨rfl, rfl⟩))
            go_ret
            refine ⟨ret_bool ?_, bt (bt hbw hb1) hb2⟩
            rw [HST.out]
            simp
        · have g3 : decide ((s.size : Int) < (n : Int)) = false := by simp; omega
          go_wp2_with (first | (go_at_call 180; refine (HD.out _ (HT.out.ext hbw)).mono ?_; rintro e w1 ⟨rfl, hb1⟩))
          go_ret
          refine ⟨ret_bool ?_, bt hbw hb1⟩
          rw [HST.out]
          have e1 : decide (s.size - k < n - k) = false := by simp; omega
          rw [e1]
          rfl
    · have hk' : k = s.size := by omega
      have HK := Lib.hid hk'
      clear hk'
      go_wp2
      go_ret
      refine ⟨ret_bool ?_, hbw⟩
      rw [HS.out, HK.out]
      have : s.data.toList.drop s.size = [] := by simp
      rw [this]
      rfl
end Go.Proofs.YtjdfodmialhakaaDoor
