/- Contracts of word.Get at eight bytes and of the reader's number. -/
import Derived.Test.YtjdfodmialhakaaDoorRead1
import Derived.LoopN
import Derived.Laws.BitsAllLaws
namespace Go.Proofs.YtjdfodmialhakaaDoor
open Go.RowKit

/-- The number of bytes, the lowest first. -/
def valL : List UInt8 → Nat
  | [] => 0
  | b :: l => b.toNat + 256 * valL l

theorem or_step (v b n m : Nat) (hm : m = 2 ^ n) (hn : n ≤ 56) (hv : v < m) (hb : b < 256) :
    bits .or .u64 (v : Int) (IntKind.u64.wrap (IntKind.u64.wrap (b : Int) * (m : Int))) = ((v + b * m : Nat) : Int) := by
  have hpow : (2 : Nat) ^ n ≤ 2 ^ 56 := Nat.pow_le_pow_right (by omega) hn
  have hm2 : m ≤ 72057594037927936 := by rw [hm]; exact hpow
  have hbm : b * m ≤ 255 * m := Nat.mul_le_mul_right _ (by omega)
  have hbm2 : b * m < 18446744073709551616 := by omega
  have e1 : IntKind.u64.wrap (b : Int) = b := by rw [IntKind.wrap_u64]; omega
  have e2 : IntKind.u64.wrap ((b : Int) * m) = ((b * m : Nat) : Int) := by
    rw [IntKind.wrap_u64, ← Int.natCast_mul]; omega
  rw [e1, e2, u64_or_nat v (b * m) (by omega) hbm2]
  congr 1
  rw [Nat.or_comm, nat_join n (b * m) v (by rw [hm]; exact Nat.mul_mod_left _ _) (by rw [← hm]; exact hv)]
  omega
theorem or_first (b : Nat) (hb : b < 256) : bits .or .u64 0 (IntKind.u64.wrap (IntKind.u64.wrap (b : Int))) = (b : Int) := by
  have e1 : IntKind.u64.wrap (b : Int) = b := by rw [IntKind.wrap_u64]; omega
  rw [e1, e1]
  have := u64_or_nat 0 b (by omega) (by omega)
  simpa using this
theorem or8 (a b c d e f g h : UInt8) :
    bits .or .u64 (bits .or .u64 (bits .or .u64 (bits .or .u64 (bits .or .u64 (bits .or .u64 (bits .or .u64 (bits .or .u64 0 (IntKind.u64.wrap (IntKind.u64.wrap (a.toNat : Int))))
      (IntKind.u64.wrap (IntKind.u64.wrap (b.toNat : Int) * 256))) (IntKind.u64.wrap (IntKind.u64.wrap (c.toNat : Int) * 65536))) (IntKind.u64.wrap (IntKind.u64.wrap (d.toNat : Int) * 16777216)))
      (IntKind.u64.wrap (IntKind.u64.wrap (e.toNat : Int) * 4294967296))) (IntKind.u64.wrap (IntKind.u64.wrap (f.toNat : Int) * 1099511627776))) (IntKind.u64.wrap (IntKind.u64.wrap (g.toNat : Int) * 281474976710656)))
      (IntKind.u64.wrap (IntKind.u64.wrap (h.toNat : Int) * 72057594037927936)) = ((valL [a, b, c, d, e, f, g, h] : Nat) : Int) := by
  have ha := a.toNat_lt
  have hb := b.toNat_lt
  have hc := c.toNat_lt
  have hd := d.toNat_lt
  have he := e.toNat_lt
  have hf := f.toNat_lt
  have hg := g.toNat_lt
  have hh := h.toNat_lt
  rw [or_first _ (by omega)]
  rw [show (256 : Int) = ((256 : Nat) : Int) from rfl, or_step _ _ 8 256 rfl (by omega) (by omega) (by omega)]
  rw [show (65536 : Int) = ((65536 : Nat) : Int) from rfl, or_step _ _ 16 65536 rfl (by omega) (by omega) (by omega)]
  rw [show (16777216 : Int) = ((16777216 : Nat) : Int) from rfl, or_step _ _ 24 16777216 rfl (by omega) (by omega) (by omega)]
  rw [show (4294967296 : Int) = ((4294967296 : Nat) : Int) from rfl, or_step _ _ 32 4294967296 rfl (by omega) (by omega) (by omega)]
  rw [show (1099511627776 : Int) = ((1099511627776 : Nat) : Int) from rfl, or_step _ _ 40 1099511627776 rfl (by omega) (by omega) (by omega)]
  rw [show (281474976710656 : Int) = ((281474976710656 : Nat) : Int) from rfl, or_step _ _ 48 281474976710656 rfl (by omega) (by omega) (by omega)]
  rw [show (72057594037927936 : Int) = ((72057594037927936 : Nat) : Int) from rfl, or_step _ _ 56 72057594037927936 rfl (by omega) (by omega) (by omega)]
  simp only [valL]
  omega
theorem list8 (s : ByteArray) (h : s.size = 8) : s.data.toList = [s[0]'(by omega), s[1]'(by omega), s[2]'(by omega), s[3]'(by omega), s[4]'(by omega), s[5]'(by omega), s[6]'(by omega), s[7]'(by omega)] := by
  obtain ⟨⟨l⟩⟩ := s
  simp only [ByteArray.size] at h
  match l, h with
  | [a, b, c, d, e, f, g, i], _ => rfl

set_option maxRecDepth 100000 in
theorem wget8 (s : ByteArray) (h : s.size = 8) (w : World) :
    Calls Tryd.prog 169 #[.string s] w fun e w' => e = .returned (.tuple #[.int .u64 (valL s.data.toList), .int .i64 0]) ∧ w = w' := by
  have h1 : 8 ≤ s.size := by omega
  have h2 : s.size ≤ 8 := by omega
  have HS := Lib.hid h
  clear h
  generalize hM : valL s.data.toList = M
  have HM := Lib.hid hM
  clear hM
  go_enter Tryd.func169, Tryd.ntmps169
  go_wp2
  refine wp_loop_rounds 9 ?_
  iterate 9 (rw [rounds_succ]; go_wp2)
  go_ret2
  refine ⟨ret_tup2 ?_ rfl, rfl⟩
  rw [← HM.out, list8 s HS.out]
  exact congrArg (Value.int .u64) (or8 _ _ _ _ _ _ _ _)
theorem valL_lt : ∀ l : List UInt8, valL l < 256 ^ l.length
  | [] => by simp [valL]
  | b :: l => by
    have := valL_lt l
    have hb := b.toNat_lt
    simp only [valL, List.length_cons, Nat.pow_succ]
    omega
theorem valL_numL : ∀ n v, v < 256 ^ n → valL (numL n v) = v
  | 0, v, h => by simp [numL, valL] at h ⊢; omega
  | n + 1, v, h => by
    rw [numL, valL, valL_numL n (v / 256) (by rw [Nat.pow_succ] at h; omega)]
    rw [UInt8.toNat_ofNat']
    omega
theorem numL_valL : ∀ l : List UInt8, numL l.length (valL l) = l
  | [] => rfl
  | b :: l => by
    have hb := b.toNat_lt
    rw [List.length_cons, numL, valL]
    have e1 : (b.toNat + 256 * valL l) / 256 = valL l := by omega
    have e2 : (b.toNat + 256 * valL l) % 256 = b.toNat := by omega
    rw [e1, e2, numL_valL l]
    simp
theorem number_ok (s : ByteArray) (g p : Nat) (w : World) (hr : Rd w g s p) (hs : s.size ≤ 140737488355328) (h : p + 8 ≤ s.size) :
    Calls Tryd.prog 160 #[.pointer (some ⟨g, 0, none⟩)] w fun e w' => e = .returned (.int .u64 (valL ((s.data.toList.drop p).take 8))) ∧ Rd w' g s (p + 8) ∧ w.grownBy w' (some g) := by
  have HT := Lib.hid (take_ok s g p 8 w hr hs h)
  have hz : (s.extract p (p + 8)).size = 8 := by rw [ByteArray.size_extract]; omega
  have HG := Lib.hid (wget8 (s.extract p (p + 8)) hz)
  have e : (s.extract p (p + 8)).data.toList = (s.data.toList.drop p).take 8 := by
    simp [ByteArray.data_extract, List.take_drop]
  rw [e] at HG
  clear e hz hr
  generalize valL ((s.data.toList.drop p).take 8) = M at HG ⊢
  go_enter Tryd.func160, Tryd.ntmps160
  go_wp2_with (first | (go_at_call 101; refine (HT.out).mono ?_; rintro e w1 ⟨rfl, hR1, hG1⟩) | (go_at_call 169; refine (HG.out _).mono ?_; rintro e w2 ⟨rfl, rfl⟩))
  go_ret
  exact ⟨rfl, hR1, hG1⟩
theorem number_no (s : ByteArray) (g p : Nat) (w : World) (hr : Rd w g s p) (hs : s.size ≤ 140737488355328) (hp : p ≤ s.size) (h : s.size < p + 8) :
    Calls Tryd.prog 160 #[.pointer (some ⟨g, 0, none⟩)] w fun e w' => e = gaveUp 6 ∧ Rd w' g s p ∧ w.grownBy w' (some g) := by
  have HT := Lib.hid (take_no s g p 8 w hr hs hp (by omega) h)
  clear hr
  go_enter Tryd.func160, Tryd.ntmps160
  go_wp2_with (go_at_call 101; refine (HT.out).mono ?_; rintro e w1 ⟨rfl, hR1, hG1⟩; unfold gaveUp)
  exact ⟨rfl, rfl, hR1, hG1⟩
end Go.Proofs.YtjdfodmialhakaaDoor
