/- Contracts of the reader's take and number. -/
import Derived.Test.YtjdfodmialhakaaDoorRows3
import Derived.Test.YtjdfodmialhakaaDoorPut
import Derived.IntWalk
namespace Go.Proofs.YtjdfodmialhakaaDoor
open Go.RowKit

/-- The reader lies in block g: its text, and where it stands. -/
def Rd (w : World) (g : Nat) (s : ByteArray) (p : Nat) : Prop := w.heap[g]? = some (.cells #[.string s, .int .i64 p] 134 (0, 0))
theorem Rd.lt {w : World} {g : Nat} {s : ByteArray} {p : Nat} (h : Rd w g s p) : g < w.heap.size := by
  rcases Nat.lt_or_ge g w.heap.size with hlt | hge
  · exact hlt
  · unfold Rd at h; rw [Array.getElem?_eq_none hge] at h; cases h
theorem Rd.c0 {w : World} {g : Nat} {s : ByteArray} {p : Nat} (h : Rd w g s p) : w.cell? ⟨g, 0, none⟩ = some (.string s) := cell_of_row w g 0 _ _ (0, 0) h
theorem Rd.c1 {w : World} {g : Nat} {s : ByteArray} {p : Nat} (h : Rd w g s p) : w.cell? ⟨g, 1, none⟩ = some (.int .i64 p) := cell_of_row w g 1 _ _ (0, 0) h
theorem Rd.fr {w : World} {g : Nat} {s : ByteArray} {p : Nat} (h : Rd w g s p) (i : Nat) : w.frozen? ⟨g, i, none⟩ = false := by
  unfold Rd at h
  simp [World.frozen?, h]
theorem Rd.set {w : World} {g : Nat} {s : ByteArray} {p : Nat} (h : Rd w g s p) (q : Nat) : Rd (w.setCell ⟨g, 1, none⟩ (.int .i64 q)) g s q := by
  unfold Rd at h ⊢
  simp [World.setCell, Array.getElem?_modify, h]
theorem Rd.far {w w' : World} {g : Nat} {s : ByteArray} {p : Nat} (h : Rd w g s p) (hb : Below w.heap.size w w') : Rd w' g s p := (hb.block g h.lt).trans h
theorem Rd.grown {w w' : World} {g : Nat} {s : ByteArray} {p : Nat} {row : Option Nat} (h : Rd w g s p) (hb : w.grownBy w' row) (hg : some g ≠ row) : Rd w' g s p := (hb.block g h.lt hg).trans h
theorem only_below {a w : World} (h : Below a.heap.size a w) (row : Option Nat) : a.grownBy w row := ⟨h.os, h.tape, h.output, h.size, fun i hi _ => h.block i hi⟩
theorem only_drewN {a w : World} {row : Option Nat} (h : a.grownBy w row) (n : Nat) : a.grownBy (w.drewN n) row := ⟨h.os, h.tape, h.output, h.size, h.block⟩
theorem only_set {a w : World} {g : Nat} (h : a.grownBy w (some g)) (i : Nat) (u : Value) : a.grownBy (w.setCell ⟨g, i, none⟩ u) (some g) :=
  ⟨h.os, h.tape, h.output, by simpa [World.setCell] using h.size, fun k hk hne => (Below.heap_setCell w ⟨g, i, none⟩ u k (fun e => hne (by rw [e]))).trans (h.block k hk hne)⟩
theorem only_trans {a b c : World} {row : Option Nat} (h : a.grownBy b row) (k : b.grownBy c row) : a.grownBy c row :=
  ⟨k.os.trans h.os, k.tape.trans h.tape, k.output.trans h.output, Nat.le_trans h.size k.size, fun i hi hne => (k.block i (Nat.lt_of_lt_of_le hi h.size) hne).trans (h.block i hi hne)⟩

/-- Giving up: the panic's value. -/
def gaveUp (n : Int) : Ending := .panicked [{ v := .iface 29 (.int .i64 n), recovered := false }]

set_option maxRecDepth 100000 in
theorem take_ok (s : ByteArray) (g p n : Nat) (w : World) (hr : Rd w g s p) (hs : s.size ≤ 140737488355328) (h : p + n ≤ s.size) :
    Calls Tryd.prog 101 #[.pointer (some ⟨g, 0, none⟩), .int .i64 n] w fun e w' => e = .returned (.string (s.extract p (p + n))) ∧ Rd w' g s (p + n) ∧ w.grownBy w' (some g) := by
  have c0 := hr.c0
  have c1 := hr.c1
  have f1 := hr.fr 1
  have HR := Lib.hid hr
  clear hr
  have s1 : IntKind.i64.wrap ((s.size : Int) - (p : Int)) = (s.size : Int) - p := IntWalk.i64_in _ (by omega)
  have t1 : decide ((s.size : Int) - (p : Int) < (n : Int)) = false := by simp; omega
  go_enter Tryd.func101, Tryd.ntmps101
  go_wp2
  go_quiet (fail)
  clear s1 t1
  go_wp2
  have hR1 : Rd ((w.drewN nq).setCell ⟨g, 1, none⟩ (.int .i64 ((p : Int) + n))) g s (p + n) := by
    have := (show Rd (w.drewN nq) g s p from HR.out).set (p + n)
    rwa [Int.natCast_add] at this
  have hG1 : w.grownBy ((w.drewN nq).setCell ⟨g, 1, none⟩ (.int .i64 ((p : Int) + n))) (some g) := only_set (only_drewN (World.grownBy.refl w _) nq) 1 _
  generalize (w.drewN nq).setCell ⟨g, 1, none⟩ (.int .i64 ((p : Int) + n)) = W at hR1 hG1 ⊢
  have d0 := hR1.c0
  have d1 := hR1.c1
  rw [Int.natCast_add] at d1
  have HR1 := Lib.hid hR1
  have HG1 := Lib.hid hG1
  clear hR1 hG1 c0 c1 f1
  have s1 : IntKind.i64.wrap ((p : Int) + n - n) = p := by rw [IntWalk.i64_in _ (by omega)]; omega
  have b0 : (0 : Int) ≤ p := by omega
  have b1 : (p : Int) ≤ (p : Int) + n := by omega
  have b2 : (p : Int) + n ≤ s.size := by omega
  have b3 : (0 : Int) ≤ (p : Int) + n := by omega
  have e1 : ((p : Int) + n).toNat = p + n := by omega
  have hsl : ∀ W : World, (Instr.slice 9 (.string s) (some (.int .i64 (p : Int))) (some (.int .i64 ((p : Int) + n))) none).run Tryd.prog W = .ok (.string (s.extract p (p + n))) W := fun W => by
    go_simp
  go_quiet (fail)
  go_wp2
  go_ret
  exact ⟨rfl, HR1.out, only_drewN HG1.out _⟩
set_option maxRecDepth 100000 in
theorem take_no (s : ByteArray) (g p n : Nat) (w : World) (hr : Rd w g s p) (_hs : s.size ≤ 140737488355328) (hp : p ≤ s.size) (hn : n ≤ 140737488355328) (h : s.size < p + n) :
    Calls Tryd.prog 101 #[.pointer (some ⟨g, 0, none⟩), .int .i64 n] w fun e w' => e = gaveUp 6 ∧ Rd w' g s p ∧ w.grownBy w' (some g) := by
  have c0 := hr.c0
  have c1 := hr.c1
  have HR := Lib.hid hr
  clear hr
  have s1 : IntKind.i64.wrap ((s.size : Int) - (p : Int)) = (s.size : Int) - p := IntWalk.i64_in _ (by omega)
  have t1 : decide ((s.size : Int) - (p : Int) < (n : Int)) = true := by simp; omega
  go_enter Tryd.func101, Tryd.ntmps101
  go_wp2
  go_quiet (fail)
  clear s1 t1
  go_wp2
  exact ⟨rfl, rfl, HR.out, only_drewN (World.grownBy.refl w _) _⟩
end Go.Proofs.YtjdfodmialhakaaDoor
