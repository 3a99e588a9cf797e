/- Texts joined by a tool: contracts and walks of this claim. -/
import Derived.Test.YtceoficoappkpaaGreatDoorB1
import Derived.IntWalk
namespace Go.Proofs.YtceoficoappkpaaGreatDoor
open Go.RowKit
def Rd (w : World) (g : Nat) (s : ByteArray) (p : Nat) : Prop := w.heap[g]? = some (.cells #[.string s, .int .i64 p] 163 (0, 0))
theorem Rd.lt {w : World} {g : Nat} {s : ByteArray} {p : Nat} (h : Rd w g s p) : g < w.heap.size := by
 rcases Nat.lt_or_ge g w.heap.size with hlt | hge
 · exact hlt
 · unfold Rd at h; rw [Array.getElem?_eq_none hge] at h; cases h
theorem Rd.c0 {w : World} {g : Nat} {s : ByteArray} {p : Nat} (h : Rd w g s p) : w.cell? ⟨g, 0, none⟩ = some (.string s) := cell_of_row w g 0 _ _ (0, 0) h
theorem Rd.c1 {w : World} {g : Nat} {s : ByteArray} {p : Nat} (h : Rd w g s p) : w.cell? ⟨g, 1, none⟩ = some (.int .i64 p) := cell_of_row w g 1 _ _ (0, 0) h
theorem Rd.fr {w : World} {g : Nat} {s : ByteArray} {p : Nat} (h : Rd w g s p) (i : Nat) : w.frozen? ⟨g, i, none⟩ = false := by
 unfold Rd at h
 simp [World.frozen?, h]
theorem Rd.set {w : World} {g : Nat} {s : ByteArray} {p : Nat} (h : Rd w g s p) (q : Nat) : Rd (w.setCell ⟨g, 1, none⟩ (.int .i64 q)) g s q := by
 unfold Rd at h ⊢
 simp [World.setCell, Array.getElem?_modify, h]
theorem Rd.far {w w' : World} {g : Nat} {s : ByteArray} {p : Nat} (h : Rd w g s p) (hb : Below w.heap.size w w') : Rd w' g s p := (hb.block g h.lt).trans h
theorem Rd.grown {w w' : World} {g : Nat} {s : ByteArray} {p : Nat} {row : Option Nat} (h : Rd w g s p) (hb : w.grownBy w' row) (hg : some g ≠ row) : Rd w' g s p := (hb.block g h.lt hg).trans h
theorem only_below {a w : World} (h : Below a.heap.size a w) (row : Option Nat) : a.grownBy w row := ⟨h.os, h.tape, h.output, h.size, fun i hi _ => h.block i hi⟩
theorem only_drewN {a w : World} {row : Option Nat} (h : a.grownBy w row) (n : Nat) : a.grownBy (w.drewN n) row := ⟨h.os, h.tape, h.output, h.size, h.block⟩
theorem only_set {a w : World} {g : Nat} (h : a.grownBy w (some g)) (i : Nat) (u : Value) : a.grownBy (w.setCell ⟨g, i, none⟩ u) (some g) :=
 ⟨h.os, h.tape, h.output, by simpa [World.setCell] using h.size, fun k hk hne => (Below.heap_setCell w ⟨g, i, none⟩ u k (fun e => hne (by rw [e]))).trans (h.block k hk hne)⟩
theorem only_trans {a b c : World} {row : Option Nat} (h : a.grownBy b row) (k : b.grownBy c row) : a.grownBy c row :=
 ⟨k.os.trans h.os, k.tape.trans h.tape, k.output.trans h.output, Nat.le_trans h.size k.size, fun i hi hne => (k.block i (Nat.lt_of_lt_of_le hi h.size) hne).trans (h.block i hi hne)⟩
def gaveUp (n : Int) : Ending := .panicked [{ v := .iface 37 (.int .i64 n), recovered := false }]
set_option maxRecDepth 100000 in
theorem take_ok (s : ByteArray) (g p n : Nat) (w : World) (hr : Rd w g s p) (hs : s.size ≤ 140737488355328) (h : p + n ≤ s.size) :
  Calls Tryz.prog 87 #[.pointer (some ⟨g, 0, none⟩), .int .i64 n] w fun e w' => e = .returned (.string (s.extract p (p + n))) ∧ Rd w' g s (p + n) ∧ w.grownBy w' (some g) := by
 have c0 := hr.c0
 have c1 := hr.c1
 have f1 := hr.fr 1
 have HR := hd_ hr
 clear hr
 have s1 : IntKind.i64.wrap ((s.size : Int) - (p : Int)) = (s.size : Int) - p := IntWalk.i64_in _ (by omega)
 have t1 : decide ((s.size : Int) - (p : Int) < (n : Int)) = false := by simp; omega
 go_enter Tryz.func87, Tryz.ntmps87
 go_wp2
 go_quiet (fail)
 clear s1 t1
 go_wp2
 have hR1 : Rd ((w.drewN nq).setCell ⟨g, 1, none⟩ (.int .i64 ((p : Int) + n))) g s (p + n) := by
  have := (show Rd (w.drewN nq) g s p from HR.out).set (p + n)
  rwa [Int.natCast_add] at this
 have hG1 : w.grownBy ((w.drewN nq).setCell ⟨g, 1, none⟩ (.int .i64 ((p : Int) + n))) (some g) := only_set (only_drewN (World.grownBy.refl w _) nq) 1 _
 generalize (w.drewN nq).setCell ⟨g, 1, none⟩ (.int .i64 ((p : Int) + n)) = W at hR1 hG1 ⊢
 have d0 := hR1.c0
 have d1 := hR1.c1
 rw [Int.natCast_add] at d1
 have HR1 := hd_ hR1
 have HG1 := hd_ hG1
 clear hR1 hG1 c0 c1 f1
 have s1 : IntKind.i64.wrap ((p : Int) + n - n) = p := by rw [IntWalk.i64_in _ (by omega)]; omega
 have b0 : (0 : Int) ≤ p := by omega
 have b1 : (p : Int) ≤ (p : Int) + n := by omega
 have b2 : (p : Int) + n ≤ s.size := by omega
 have b3 : (0 : Int) ≤ (p : Int) + n := by omega
 have e1 : ((p : Int) + n).toNat = p + n := by omega
 have hsl : ∀ W : World, (Instr.slice 9 (.string s) (some (.int .i64 (p : Int))) (some (.int .i64 ((p : Int) + n))) none).run Tryz.prog W = .ok (.string (s.extract p (p + n))) W := fun W => by
  go_simp
 go_quiet (fail)
 go_wp2
 go_ret
 exact ⟨rfl, HR1.out, only_drewN HG1.out _⟩
set_option maxRecDepth 100000 in
theorem take_no (s : ByteArray) (g p n : Nat) (w : World) (hr : Rd w g s p) (_hs : s.size ≤ 140737488355328) (hp : p ≤ s.size) (hn : n ≤ 140737488355328) (h : s.size < p + n) :
  Calls Tryz.prog 87 #[.pointer (some ⟨g, 0, none⟩), .int .i64 n] w fun e w' => e = gaveUp 6 ∧ Rd w' g s p ∧ w.grownBy w' (some g) := by
 have c0 := hr.c0
 have c1 := hr.c1
 have HR := hd_ hr
 clear hr
 have s1 : IntKind.i64.wrap ((s.size : Int) - (p : Int)) = (s.size : Int) - p := IntWalk.i64_in _ (by omega)
 have t1 : decide ((s.size : Int) - (p : Int) < (n : Int)) = true := by simp; omega
 go_enter Tryz.func87, Tryz.ntmps87
 go_wp2
 go_quiet (fail)
 clear s1 t1
 go_wp2
 exact ⟨rfl, rfl, HR.out, only_drewN (World.grownBy.refl w _) _⟩
def valL : List UInt8 → Nat
 | [] => 0
 | b :: l => b.toNat + 256 * valL l
theorem or_step (v b n m : Nat) (hm : m = 2 ^ n) (hn : n ≤ 56) (hv : v < m) (hb : b < 256) :
  bits .or .u64 (v : Int) (IntKind.u64.wrap (IntKind.u64.wrap (b : Int) * (m : Int))) = ((v + b * m : Nat) : Int) := by
 have hpow : (2 : Nat) ^ n ≤ 2 ^ 56 := Nat.pow_le_pow_right (by omega) hn
 have hm2 : m ≤ 72057594037927936 := by rw [hm]; exact hpow
 have hbm : b * m ≤ 255 * m := Nat.mul_le_mul_right _ (by omega)
 have hbm2 : b * m < 18446744073709551616 := by omega
 have e1 : IntKind.u64.wrap (b : Int) = b := by rw [IntKind.wrap_u64]; omega
 have e2 : IntKind.u64.wrap ((b : Int) * m) = ((b * m : Nat) : Int) := by
  rw [IntKind.wrap_u64, ← Int.natCast_mul]; omega
 rw [e1, e2, u64_or_nat v (b * m) (by omega) hbm2]
 congr 1
 rw [Nat.or_comm, nat_join n (b * m) v (by rw [hm]; exact Nat.mul_mod_left _ _) (by rw [← hm]; exact hv)]
 omega
theorem or_first (b : Nat) (hb : b < 256) : bits .or .u64 0 (IntKind.u64.wrap (IntKind.u64.wrap (b : Int))) = (b : Int) := by
 have e1 : IntKind.u64.wrap (b : Int) = b := by rw [IntKind.wrap_u64]; omega
 rw [e1, e1]
 have := u64_or_nat 0 b (by omega) (by omega)
 simpa using this
theorem or8 (a b c d e f g h : UInt8) :
  bits .or .u64 (bits .or .u64 (bits .or .u64 (bits .or .u64 (bits .or .u64 (bits .or .u64 (bits .or .u64 (bits .or .u64 0 (IntKind.u64.wrap (IntKind.u64.wrap (a.toNat : Int))))
   (IntKind.u64.wrap (IntKind.u64.wrap (b.toNat : Int) * 256))) (IntKind.u64.wrap (IntKind.u64.wrap (c.toNat : Int) * 65536))) (IntKind.u64.wrap (IntKind.u64.wrap (d.toNat : Int) * 16777216)))
   (IntKind.u64.wrap (IntKind.u64.wrap (e.toNat : Int) * 4294967296))) (IntKind.u64.wrap (IntKind.u64.wrap (f.toNat : Int) * 1099511627776))) (IntKind.u64.wrap (IntKind.u64.wrap (g.toNat : Int) * 281474976710656)))
   (IntKind.u64.wrap (IntKind.u64.wrap (h.toNat : Int) * 72057594037927936)) = ((valL [a, b, c, d, e, f, g, h] : Nat) : Int) := by
 have ha := a.toNat_lt
 have hb := b.toNat_lt
 have hc := c.toNat_lt
 have hd := d.toNat_lt
 have he := e.toNat_lt
 have hf := f.toNat_lt
 have hg := g.toNat_lt
 have hh := h.toNat_lt
 rw [or_first _ (by omega)]
 rw [show (256 : Int) = ((256 : Nat) : Int) from rfl, or_step _ _ 8 256 rfl (by omega) (by omega) (by omega)]
 rw [show (65536 : Int) = ((65536 : Nat) : Int) from rfl, or_step _ _ 16 65536 rfl (by omega) (by omega) (by omega)]
 rw [show (16777216 : Int) = ((16777216 : Nat) : Int) from rfl, or_step _ _ 24 16777216 rfl (by omega) (by omega) (by omega)]
 rw [show (4294967296 : Int) = ((4294967296 : Nat) : Int) from rfl, or_step _ _ 32 4294967296 rfl (by omega) (by omega) (by omega)]
 rw [show (1099511627776 : Int) = ((1099511627776 : Nat) : Int) from rfl, or_step _ _ 40 1099511627776 rfl (by omega) (by omega) (by omega)]
 rw [show (281474976710656 : Int) = ((281474976710656 : Nat) : Int) from rfl, or_step _ _ 48 281474976710656 rfl (by omega) (by omega) (by omega)]
 rw [show (72057594037927936 : Int) = ((72057594037927936 : Nat) : Int) from rfl, or_step _ _ 56 72057594037927936 rfl (by omega) (by omega) (by omega)]
 simp only [valL]
 omega
theorem list8 (s : ByteArray) (h : s.size = 8) : s.data.toList = [s[0]'(by omega), s[1]'(by omega), s[2]'(by omega), s[3]'(by omega), s[4]'(by omega), s[5]'(by omega), s[6]'(by omega), s[7]'(by omega)] := by
 obtain ⟨⟨l⟩⟩ := s
 simp only [ByteArray.size] at h
 match l, h with
 | [a, b, c, d, e, f, g, i], _ => rfl
set_option maxRecDepth 100000 in
theorem wget8 (s : ByteArray) (h : s.size = 8) (w : World) :
  Calls Tryz.prog 168 #[.string s] w fun e w' => e = .returned (.tuple #[.int .u64 (valL s.data.toList), .int .i64 0]) ∧ w = w' := by
 have h1 : 8 ≤ s.size := by omega
 have h2 : s.size ≤ 8 := by omega
 have HS := hd_ h
 clear h
 generalize hM : valL s.data.toList = M
 have HM := hd_ hM
 clear hM
 go_enter Tryz.func168, Tryz.ntmps168
 go_wp2
 refine wp_loop_rounds 9 ?_
 iterate 9 (rw [rounds_succ]; go_wp2)
 go_ret2
 refine ⟨ret_tup2 ?_ rfl, rfl⟩
 rw [← HM.out, list8 s HS.out]
 exact congrArg (Value.int .u64) (or8 _ _ _ _ _ _ _ _)
theorem valL_lt : ∀ l : List UInt8, valL l < 256 ^ l.length
 | [] => by simp [valL]
 | b :: l => by
  have := valL_lt l
  have hb := b.toNat_lt
  simp only [valL, List.length_cons, Nat.pow_succ]
  omega
theorem numL_valL : ∀ l : List UInt8, numL l.length (valL l) = l
 | [] => rfl
 | b :: l => by
  have hb := b.toNat_lt
  rw [List.length_cons, numL, valL]
  have e1 : (b.toNat + 256 * valL l) / 256 = valL l := by omega
  have e2 : (b.toNat + 256 * valL l) % 256 = b.toNat := by omega
  rw [e1, e2, numL_valL l]
  simp
theorem number_ok (s : ByteArray) (g p : Nat) (w : World) (hr : Rd w g s p) (hs : s.size ≤ 140737488355328) (h : p + 8 ≤ s.size) :
  Calls Tryz.prog 126 #[.pointer (some ⟨g, 0, none⟩)] w fun e w' => e = .returned (.int .u64 (valL ((s.data.toList.drop p).take 8))) ∧ Rd w' g s (p + 8) ∧ w.grownBy w' (some g) := by
 have HT := hd_ (take_ok s g p 8 w hr hs h)
 have hz : (s.extract p (p + 8)).size = 8 := by rw [ByteArray.size_extract]; omega
 have HG := hd_ (wget8 (s.extract p (p + 8)) hz)
 have e : (s.extract p (p + 8)).data.toList = (s.data.toList.drop p).take 8 := by
  simp [ByteArray.data_extract, List.take_drop]
 rw [e] at HG
 clear e hz hr
 generalize valL ((s.data.toList.drop p).take 8) = M at HG ⊢
 go_enter Tryz.func126, Tryz.ntmps126
 go_wp2_with (first | (go_at_call 87; refine (HT.out).mono ?_; rintro e w1 ⟨rfl, hR1, hG1⟩) | (go_at_call 168; refine (HG.out _).mono ?_; rintro e w2 ⟨rfl, rfl⟩))
 go_ret
 exact ⟨rfl, hR1, hG1⟩
theorem number_no (s : ByteArray) (g p : Nat) (w : World) (hr : Rd w g s p) (hs : s.size ≤ 140737488355328) (hp : p ≤ s.size) (h : s.size < p + 8) :
  Calls Tryz.prog 126 #[.pointer (some ⟨g, 0, none⟩)] w fun e w' => e = gaveUp 6 ∧ Rd w' g s p ∧ w.grownBy w' (some g) := by
 have HT := hd_ (take_no s g p 8 w hr hs hp (by omega) h)
 clear hr
 go_enter Tryz.func126, Tryz.ntmps126
 go_wp2_with (go_at_call 87; refine (HT.out).mono ?_; rintro e w1 ⟨rfl, hR1, hG1⟩; unfold gaveUp)
 exact ⟨rfl, rfl, hR1, hG1⟩
end Go.Proofs.YtceoficoappkpaaGreatDoor
