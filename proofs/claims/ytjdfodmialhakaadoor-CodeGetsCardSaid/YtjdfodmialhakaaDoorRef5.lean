/- The contract of the reference's whole: the value of just these bytes. -/
import Derived.Test.YtjdfodmialhakaaDoorRef4
namespace Go.Proofs.YtjdfodmialhakaaDoor
open Go.RowKit

set_option maxRecDepth 100000 in
theorem whole_o (s : ByteArray) (c : UInt8) (h : 0 < s.size) (e0 : s[0]'h = c) (hc : c.toNat = 0 ∨ 5 < c.toNat) (w : World) :
    Calls Tryd.prog 105 #[.string s] w fun e w' => e = .returned (V.agg ⟨c.toNat, 0, 0, ByteArray.empty⟩) ∧ Below w.heap.size w w' := by
  rcases hc with hc | hc
  · have hq : (c.toNat : Int) = 0 := by omega
    clear hc
    go_enter Tryd.func105, Tryd.ntmps105
    go_wp2
    refine bodyPost_ret (v := V.agg ⟨c.toNat, 0, 0, ByteArray.empty⟩) (by simp [results, Tryd.results105, go_sem, V.agg, hq]; rfl) rfl ⟨rfl, by repeat (first | exact Below.refl _ _ | refine Below.alloc ?_ (by simp) _)⟩
  · have hq : (5 : Int) < (c.toNat : Int) := by omega
    clear hc
    go_enter Tryd.func105, Tryd.ntmps105
    go_wp2
    refine bodyPost_ret (v := V.agg ⟨c.toNat, 0, 0, ByteArray.empty⟩) (by simp [results, Tryd.results105, go_sem, V.agg]; rfl) rfl ⟨rfl, by repeat (first | exact Below.refl _ _ | refine Below.alloc ?_ (by simp) _)⟩
set_option maxRecDepth 100000 in
theorem whole_1 (s : ByteArray) (c b : UInt8) (h : 1 < s.size) (e0 : s[0]'(by omega) = c) (e1 : s[1]'h = b) (hc : c.toNat = 1) (w : World) :
    Calls Tryd.prog 105 #[.string s] w fun e w' => e = .returned (V.agg ⟨1, b.toNat, 0, ByteArray.empty⟩) ∧ Below w.heap.size w w' := by
  have hq : (c.toNat : Int) = 1 := by omega
  have hb : (b.toNat : Int) < 256 := by have := b.toNat_lt; omega
  have hb0 : (0 : Int) ≤ b.toNat := by omega
  clear hc
  go_enter Tryd.func105, Tryd.ntmps105
  go_wp2
  refine bodyPost_ret (v := V.agg ⟨1, b.toNat, 0, ByteArray.empty⟩) (by simp [results, Tryd.results105, go_sem, V.agg]; rfl) rfl ⟨rfl, by repeat (first | exact Below.refl _ _ | refine Below.alloc ?_ (by simp) _)⟩
set_option maxRecDepth 100000 in
theorem whole_2 (s : ByteArray) (c : UInt8) (h : 0 < s.size) (h9 : s.size = 9) (e0 : s[0]'h = c) (hc : c.toNat = 2) (w : World) :
    Calls Tryd.prog 105 #[.string s] w fun e w' => e = .returned (V.agg ⟨2, i64of (valL (s.data.toList.drop 1)), 0, ByteArray.empty⟩) ∧ Below w.heap.size w w' := by
  have hq : (c.toNat : Int) = 2 := by omega
  have hz : (s.extract 1 s.size).size = 8 := by rw [ByteArray.size_extract]; omega
  have hv := refvalue8 (s.extract 1 s.size) (by omega) (by omega)
  rw [tail_list] at hv
  have HV := Lib.hid hv
  have hge : 1 ≤ s.size := by omega
  clear hc hz hv h9
  unfold i64of
  generalize valL (s.data.toList.drop 1) = M at HV ⊢
  go_enter Tryd.func105, Tryd.ntmps105
  go_wp2_with (go_at_call 136; refine (HV.out _).mono ?_; rintro e w' ⟨rfl, rfl⟩)
  refine bodyPost_ret (v := V.agg ⟨2, wrap64 M, 0, ByteArray.empty⟩) (by simp [results, Tryd.results105, go_sem, V.agg]; rfl) rfl ⟨rfl, by repeat (first | exact Below.refl _ _ | refine Below.alloc ?_ (by simp) _)⟩
set_option maxRecDepth 100000 in
theorem whole_3 (s : ByteArray) (c : UInt8) (h : 0 < s.size) (h9 : s.size = 9) (e0 : s[0]'h = c) (hc : c.toNat = 3) (w : World) :
    Calls Tryd.prog 105 #[.string s] w fun e w' => e = .returned (V.agg ⟨3, 0, valL (s.data.toList.drop 1), ByteArray.empty⟩) ∧ Below w.heap.size w w' := by
  have hq : (c.toNat : Int) = 3 := by omega
  have hz : (s.extract 1 s.size).size = 8 := by rw [ByteArray.size_extract]; omega
  have hv := refvalue8 (s.extract 1 s.size) (by omega) (by omega)
  rw [tail_list] at hv
  have HV := Lib.hid hv
  have hge : 1 ≤ s.size := by omega
  clear hc hz hv h9
  generalize valL (s.data.toList.drop 1) = M at HV ⊢
  go_enter Tryd.func105, Tryd.ntmps105
  go_wp2_with (go_at_call 136; refine (HV.out _).mono ?_; rintro e w' ⟨rfl, rfl⟩)
  refine bodyPost_ret (v := V.agg ⟨3, 0, M, ByteArray.empty⟩) (by simp [results, Tryd.results105, go_sem, V.agg]; rfl) rfl ⟨rfl, by repeat (first | exact Below.refl _ _ | refine Below.alloc ?_ (by simp) _)⟩
set_option maxRecDepth 100000 in
theorem whole_t (s : ByteArray) (c : UInt8) (h : 1 < s.size) (e0 : s[0]'(by omega) = c) (hc : c.toNat = 4 ∨ c.toNat = 5) (w : World) :
    Calls Tryd.prog 105 #[.string s] w fun e w' => e = .returned (V.agg ⟨c.toNat, 0, 0, s.extract 2 s.size⟩) ∧ Below w.heap.size w w' := by
  have hsl := slice_tail s 2 (by omega)
  have hge : (2 : Int) ≤ s.size := by omega
  rcases hc with hc | hc
  · have hq : (c.toNat : Int) = 4 := by omega
    clear hc
    go_enter Tryd.func105, Tryd.ntmps105
    go_wp2
    refine bodyPost_ret (v := V.agg ⟨c.toNat, 0, 0, s.extract 2 s.size⟩) (by simp [results, Tryd.results105, go_sem, V.agg, hq]) rfl ⟨rfl, by repeat (first | exact Below.refl _ _ | refine Below.alloc ?_ (by simp) _)⟩
  · have hq : (c.toNat : Int) = 5 := by omega
    clear hc
    go_enter Tryd.func105, Tryd.ntmps105
    go_wp2
    refine bodyPost_ret (v := V.agg ⟨c.toNat, 0, 0, s.extract 2 s.size⟩) (by simp [results, Tryd.results105, go_sem, V.agg, hq]) rfl ⟨rfl, by repeat (first | exact Below.refl _ _ | refine Below.alloc ?_ (by simp) _)⟩
end Go.Proofs.YtjdfodmialhakaaDoor
