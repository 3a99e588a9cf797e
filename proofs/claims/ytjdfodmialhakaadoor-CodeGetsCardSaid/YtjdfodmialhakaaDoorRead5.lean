/- Contracts of the reader's value where it gives up; all ways joined. -/
import Derived.Test.YtjdfodmialhakaaDoorRead4
namespace Go.Proofs.YtjdfodmialhakaaDoor
open Go.RowKit

set_option maxRecDepth 100000 in
theorem value_nil (s : ByteArray) (g p : Nat) (w : World) (hr : Rd w g s p) (hs : s.size ≤ 140737488355328) (hp : s.size = p) :
    Calls Tryd.prog 102 #[.pointer (some ⟨g, 0, none⟩)] w (ValPost w g s p (getV [])) := by
  have HT1 := Lib.hid (fun W hW => take_no s g p 1 W hW hs (by omega) (by omega) (by omega))
  have HR := Lib.hid hr
  have e : getV [] = (6, V0, 0) := rfl
  rw [e]
  clear hr hp e
  go_enter Tryd.func102, Tryd.ntmps102
  go_wp2_with (go_at_call 101; refine (HT1.out _ (HR.out.far ((Below.refl _ _).alloc (Nat.le_refl _) _))).mono ?_; rintro e w1 ⟨rfl, hR1, hG1⟩; unfold gaveUp)
  exact ⟨rfl, only_first _ hG1, Or.inr ⟨by decide, rfl⟩⟩
set_option maxRecDepth 100000 in
set_option maxHeartbeats 400000 in
theorem value_other (s : ByteArray) (g p : Nat) (w : World) (hr : Rd w g s p) (hs : s.size ≤ 140737488355328) (_hT : Tabs w)
    (c : UInt8) (r : List UInt8) (hl : s.data.toList.drop p = c :: r) (hc : 5 < c.toNat) :
    Calls Tryd.prog 102 #[.pointer (some ⟨g, 0, none⟩)] w (ValPost w g s p (getV (c :: r))) := by
  obtain ⟨hlt, e2, e3, e4⟩ := hd_lt hl
  have hgl := hr.lt
  have hgn : ¬ w.heap.size = g := by omega
  have hT1 := fun W hW => take_ok s g p 1 W hW hs (by omega)
  rw [e2] at hT1
  have HT1 := Lib.hid hT1
  have HR := Lib.hid hr
  have h0 : (⟨#[c]⟩ : ByteArray)[0]'(Nat.zero_lt_one) = c := rfl
  have e : getV (c :: r) = (7, V0, 0) := by
    have c0 : ¬ c.toNat = 0 := by omega
    have c1 : ¬ c.toNat = 1 := by omega
    have c2 : ¬ c.toNat = 2 := by omega
    have c3 : ¬ c.toNat = 3 := by omega
    have c4 : ¬ (c.toNat = 4 ∨ c.toNat = 5) := by omega
    simp [getV, c0, c1, c2, c3, c4]
  rw [e]
  have hc0 : (5 : Int) < (c.toNat : Int) := by omega
  clear e hT1 hr e2 e3 e4 hl hlt hc
  go_enter Tryd.func102, Tryd.ntmps102
  go_wp2_with ((go_at_call 101; refine (HT1.out _ (HR.out.far ((Below.refl _ _).alloc (Nat.le_refl _) _))).mono ?_; rintro e w1 ⟨rfl, hR1, hG1⟩; obtain ⟨k1, k2⟩ := gcell hG1; have hz1 : w.heap.size < w1.heap.size := (by have := hG1.size; simp at this; omega); have HR1 := Lib.hid hR1; have HG1 := Lib.hid hG1; clear hR1 hG1 HT1))
  exact ⟨rfl, only_alloc (only_first _ HG1.out) _, Or.inr ⟨by decide, rfl⟩⟩
set_option maxRecDepth 100000 in
set_option maxHeartbeats 400000 in
theorem value_1n (s : ByteArray) (g p : Nat) (w : World) (hr : Rd w g s p) (hs : s.size ≤ 140737488355328) (hT : Tabs w)
    (c : UInt8) (hl : s.data.toList.drop p = [c]) (hc : c.toNat = 1) :
    Calls Tryd.prog 102 #[.pointer (some ⟨g, 0, none⟩)] w (ValPost w g s p (getV [c])) := by
  obtain ⟨hlt, e2, e3, e4⟩ := hd_lt hl
  have hgl := hr.lt
  have hgn : ¬ w.heap.size = g := by omega
  have hT1 := fun W hW => take_ok s g p 1 W hW hs (by omega)
  rw [e2] at hT1
  have HT1 := Lib.hid hT1
  have HT := Lib.hid hT
  have HR := Lib.hid hr
  have h0 : (⟨#[c]⟩ : ByteArray)[0]'(Nat.zero_lt_one) = c := rfl
  have e : getV [c] = (6, V0, 0) := by simp [getV, hc]
  rw [e]
  have e4' : s.size = p + 1 := by simp at e4; omega
  have HT2 := Lib.hid (fun W hW => take_no s g (p + 1) 1 W hW hs (by omega) (by omega) (by omega))
  have hc0 : (c.toNat : Int) = 1 := by omega
  clear e hT1 hT hr e2 e3 e4 hl hlt hc e4'
  go_enter Tryd.func102, Tryd.ntmps102
  go_wp2_with (first | (go_at_call 101; refine (HT1.out _ (HR.out.far ((Below.refl _ _).alloc (Nat.le_refl _) _))).mono ?_; rintro e w1 ⟨rfl, hR1, hG1⟩; obtain ⟨k1, k2⟩ := gcell hG1; have hz1 : w.heap.size < w1.heap.size := (by have := hG1.size; simp at this; omega); have HR1 := Lib.hid hR1; have HG1 := Lib.hid hG1; clear hR1 hG1 HT1) | (go_at_call 101; refine (HT2.out _ (HR1.out.far ((Below.refl _ _).alloc (Nat.le_refl _) _))).mono ?_; rintro e w2 ⟨rfl, hR2, hG2⟩; unfold gaveUp))
  exact ⟨rfl, only_trans (only_first _ HG1.out) (only_first _ hG2), Or.inr ⟨by decide, rfl⟩⟩
set_option maxRecDepth 100000 in
set_option maxHeartbeats 400000 in
theorem value_2n (s : ByteArray) (g p : Nat) (w : World) (hr : Rd w g s p) (hs : s.size ≤ 140737488355328) (hT : Tabs w)
    (c : UInt8) (r : List UInt8) (hl : s.data.toList.drop p = c :: r) (hc : c.toNat = 2) (h8 : r.length < 8) :
    Calls Tryd.prog 102 #[.pointer (some ⟨g, 0, none⟩)] w (ValPost w g s p (getV (c :: r))) := by
  obtain ⟨hlt, e2, e3, e4⟩ := hd_lt hl
  have hgl := hr.lt
  have hgn : ¬ w.heap.size = g := by omega
  have hT1 := fun W hW => take_ok s g p 1 W hW hs (by omega)
  rw [e2] at hT1
  have HT1 := Lib.hid hT1
  have HT := Lib.hid hT
  have HR := Lib.hid hr
  have h0 : (⟨#[c]⟩ : ByteArray)[0]'(Nat.zero_lt_one) = c := rfl
  have e : getV (c :: r) = (6, V0, 0) := by simp [getV, hc, h8]
  rw [e]
  have HT2 := Lib.hid (fun W hW => number_no s g (p + 1) W hW hs (by omega) (by omega))
  have hc0 : (c.toNat : Int) = 2 := by omega
  clear e hT1 hT hr e2 e3 e4 hl hlt hc h8
  go_enter Tryd.func102, Tryd.ntmps102
  go_wp2_with (first | (go_at_call 101; refine (HT1.out _ (HR.out.far ((Below.refl _ _).alloc (Nat.le_refl _) _))).mono ?_; rintro e w1 ⟨rfl, hR1, hG1⟩; obtain ⟨k1, k2⟩ := gcell hG1; have hz1 : w.heap.size < w1.heap.size := (by have := hG1.size; simp at this; omega); have HR1 := Lib.hid hR1; have HG1 := Lib.hid hG1; clear hR1 hG1 HT1) | (go_at_call 160; refine (HT2.out _ (HR1.out.far ((Below.refl _ _).alloc (Nat.le_refl _) _))).mono ?_; rintro e w2 ⟨rfl, hR2, hG2⟩; unfold gaveUp))
  exact ⟨rfl, only_trans (only_first _ HG1.out) (only_first _ hG2), Or.inr ⟨by decide, rfl⟩⟩
set_option maxRecDepth 100000 in
set_option maxHeartbeats 400000 in
theorem value_3n (s : ByteArray) (g p : Nat) (w : World) (hr : Rd w g s p) (hs : s.size ≤ 140737488355328) (hT : Tabs w)
    (c : UInt8) (r : List UInt8) (hl : s.data.toList.drop p = c :: r) (hc : c.toNat = 3) (h8 : r.length < 8) :
    Calls Tryd.prog 102 #[.pointer (some ⟨g, 0, none⟩)] w (ValPost w g s p (getV (c :: r))) := by
  obtain ⟨hlt, e2, e3, e4⟩ := hd_lt hl
  have hgl := hr.lt
  have hgn : ¬ w.heap.size = g := by omega
  have hT1 := fun W hW => take_ok s g p 1 W hW hs (by omega)
  rw [e2] at hT1
  have HT1 := Lib.hid hT1
  have HT := Lib.hid hT
  have HR := Lib.hid hr
  have h0 : (⟨#[c]⟩ : ByteArray)[0]'(Nat.zero_lt_one) = c := rfl
  have e : getV (c :: r) = (6, V0, 0) := by simp [getV, hc, h8]
  rw [e]
  have HT2 := Lib.hid (fun W hW => number_no s g (p + 1) W hW hs (by omega) (by omega))
  have hc0 : (c.toNat : Int) = 3 := by omega
  clear e hT1 hT hr e2 e3 e4 hl hlt hc h8
  go_enter Tryd.func102, Tryd.ntmps102
  go_wp2_with (first | (go_at_call 101; refine (HT1.out _ (HR.out.far ((Below.refl _ _).alloc (Nat.le_refl _) _))).mono ?_; rintro e w1 ⟨rfl, hR1, hG1⟩; obtain ⟨k1, k2⟩ := gcell hG1; have hz1 : w.heap.size < w1.heap.size := (by have := hG1.size; simp at this; omega); have HR1 := Lib.hid hR1; have HG1 := Lib.hid hG1; clear hR1 hG1 HT1) | (go_at_call 160; refine (HT2.out _ (HR1.out.far ((Below.refl _ _).alloc (Nat.le_refl _) _))).mono ?_; rintro e w2 ⟨rfl, hR2, hG2⟩; unfold gaveUp))
  exact ⟨rfl, only_trans (only_first _ HG1.out) (only_first _ hG2), Or.inr ⟨by decide, rfl⟩⟩
set_option maxRecDepth 100000 in
set_option maxHeartbeats 400000 in
theorem value_4e (s : ByteArray) (g p : Nat) (w : World) (hr : Rd w g s p) (hs : s.size ≤ 140737488355328) (hT : Tabs w)
    (c : UInt8) (hl : s.data.toList.drop p = [c]) (hc : c.toNat = 4) :
    Calls Tryd.prog 102 #[.pointer (some ⟨g, 0, none⟩)] w (ValPost w g s p (getV [c])) := by
  obtain ⟨hlt, e2, e3, e4⟩ := hd_lt hl
  have hgl := hr.lt
  have hgn : ¬ w.heap.size = g := by omega
  have hT1 := fun W hW => take_ok s g p 1 W hW hs (by omega)
  rw [e2] at hT1
  have HT1 := Lib.hid hT1
  have HT := Lib.hid hT
  have HR := Lib.hid hr
  have h0 : (⟨#[c]⟩ : ByteArray)[0]'(Nat.zero_lt_one) = c := rfl
  have e : getV [c] = (6, V0, 0) := by simp [getV, hc]
  rw [e]
  have e4' : s.size = p + 1 := by simp at e4; omega
  have HT2 := Lib.hid (fun W hW (_ : Tabs W) => text_end s g (p + 1) false W hW hs e4')
  have hc0 : (c.toNat : Int) = 4 := by omega
  clear e hT1 hT hr e2 e3 e4 hl hlt hc e4'
  go_enter Tryd.func102, Tryd.ntmps102
  go_wp2_with (first | (go_at_call 101; refine (HT1.out _ (HR.out.far ((Below.refl _ _).alloc (Nat.le_refl _) _))).mono ?_; rintro e w1 ⟨rfl, hR1, hG1⟩; obtain ⟨k1, k2⟩ := gcell hG1; have hz1 : w.heap.size < w1.heap.size := (by have := hG1.size; simp at this; omega); have HR1 := Lib.hid hR1; have HG1 := Lib.hid hG1; clear hR1 hG1 HT1) | (go_at_call 161; refine (HT2.out _ (HR1.out.far ((Below.refl _ _).alloc (Nat.le_refl _) _)) (tabs_grown HT.out HR.out (only_alloc (only_first _ HG1.out) _))).mono ?_; rintro e w2 ⟨rfl, hG2⟩; unfold gaveUp))
  exact ⟨rfl, only_trans (only_first _ HG1.out) (only_first _ hG2), Or.inr ⟨by decide, rfl⟩⟩
set_option maxRecDepth 100000 in
set_option maxHeartbeats 400000 in
theorem value_4n (s : ByteArray) (g p : Nat) (w : World) (hr : Rd w g s p) (hs : s.size ≤ 140737488355328) (hT : Tabs w)
    (c b : UInt8) (r : List UInt8) (hl : s.data.toList.drop p = c :: b :: r) (hc : c.toNat = 4) (hE : ¬ textE false (b :: r) = 0) :
    Calls Tryd.prog 102 #[.pointer (some ⟨g, 0, none⟩)] w (ValPost w g s p (getV (c :: b :: r))) := by
  obtain ⟨hlt, e2, e3, e4⟩ := hd_lt hl
  have hgl := hr.lt
  have hgn : ¬ w.heap.size = g := by omega
  have hT1 := fun W hW => take_ok s g p 1 W hW hs (by omega)
  rw [e2] at hT1
  have HT1 := Lib.hid hT1
  have HT := Lib.hid hT
  have HR := Lib.hid hr
  have h0 : (⟨#[c]⟩ : ByteArray)[0]'(Nat.zero_lt_one) = c := rfl
  have e : getV (c :: b :: r) = (textE false (b :: r), V0, 0) := by simp [getV, hc, hE]
  rw [e]
  have hT2 := fun W hW hTW => text_no s g (p + 1) false W hW hs hTW b r e3.symm hE
  generalize textE false (b :: r) = E at hT2 hE ⊢
  have HT2 := Lib.hid (hT2)
  have hc0 : (c.toNat : Int) = 4 := by omega
  clear e hT1 hT hr e2 e3 e4 hl hlt hc hT2
  go_enter Tryd.func102, Tryd.ntmps102
  go_wp2_with (first | (go_at_call 101; refine (HT1.out _ (HR.out.far ((Below.refl _ _).alloc (Nat.le_refl _) _))).mono ?_; rintro e w1 ⟨rfl, hR1, hG1⟩; obtain ⟨k1, k2⟩ := gcell hG1; have hz1 : w.heap.size < w1.heap.size := (by have := hG1.size; simp at this; omega); have HR1 := Lib.hid hR1; have HG1 := Lib.hid hG1; clear hR1 hG1 HT1) | (go_at_call 161; refine (HT2.out _ (HR1.out.far ((Below.refl _ _).alloc (Nat.le_refl _) _)) (tabs_grown HT.out HR.out (only_alloc (only_first _ HG1.out) _))).mono ?_; rintro e w2 ⟨rfl, hG2⟩; unfold gaveUp))
  exact ⟨rfl, only_trans (only_first _ HG1.out) (only_first _ hG2), Or.inr ⟨hE, rfl⟩⟩
set_option maxRecDepth 100000 in
set_option maxHeartbeats 400000 in
theorem value_5e (s : ByteArray) (g p : Nat) (w : World) (hr : Rd w g s p) (hs : s.size ≤ 140737488355328) (hT : Tabs w)
    (c : UInt8) (hl : s.data.toList.drop p = [c]) (hc : c.toNat = 5) :
    Calls Tryd.prog 102 #[.pointer (some ⟨g, 0, none⟩)] w (ValPost w g s p (getV [c])) := by
  obtain ⟨hlt, e2, e3, e4⟩ := hd_lt hl
  have hgl := hr.lt
  have hgn : ¬ w.heap.size = g := by omega
  have hT1 := fun W hW => take_ok s g p 1 W hW hs (by omega)
  rw [e2] at hT1
  have HT1 := Lib.hid hT1
  have HT := Lib.hid hT
  have HR := Lib.hid hr
  have h0 : (⟨#[c]⟩ : ByteArray)[0]'(Nat.zero_lt_one) = c := rfl
  have e : getV [c] = (6, V0, 0) := by simp [getV, hc]
  rw [e]
  have e4' : s.size = p + 1 := by simp at e4; omega
  have HT2 := Lib.hid (fun W hW (_ : Tabs W) => text_end s g (p + 1) true W hW hs e4')
  have hc0 : (c.toNat : Int) = 5 := by omega
  clear e hT1 hT hr e2 e3 e4 hl hlt hc e4'
  go_enter Tryd.func102, Tryd.ntmps102
  go_wp2_with (first | (go_at_call 101; refine (HT1.out _ (HR.out.far ((Below.refl _ _).alloc (Nat.le_refl _) _))).mono ?_; rintro e w1 ⟨rfl, hR1, hG1⟩; obtain ⟨k1, k2⟩ := gcell hG1; have hz1 : w.heap.size < w1.heap.size := (by have := hG1.size; simp at this; omega); have HR1 := Lib.hid hR1; have HG1 := Lib.hid hG1; clear hR1 hG1 HT1) | (go_at_call 161; refine (HT2.out _ (HR1.out.far ((Below.refl _ _).alloc (Nat.le_refl _) _)) (tabs_grown HT.out HR.out (only_alloc (only_first _ HG1.out) _))).mono ?_; rintro e w2 ⟨rfl, hG2⟩; unfold gaveUp))
  exact ⟨rfl, only_trans (only_first _ HG1.out) (only_first _ hG2), Or.inr ⟨by decide, rfl⟩⟩
set_option maxRecDepth 100000 in
set_option maxHeartbeats 400000 in
theorem value_5n (s : ByteArray) (g p : Nat) (w : World) (hr : Rd w g s p) (hs : s.size ≤ 140737488355328) (hT : Tabs w)
    (c b : UInt8) (r : List UInt8) (hl : s.data.toList.drop p = c :: b :: r) (hc : c.toNat = 5) (hE : ¬ textE true (b :: r) = 0) :
    Calls Tryd.prog 102 #[.pointer (some ⟨g, 0, none⟩)] w (ValPost w g s p (getV (c :: b :: r))) := by
  obtain ⟨hlt, e2, e3, e4⟩ := hd_lt hl
  have hgl := hr.lt
  have hgn : ¬ w.heap.size = g := by omega
  have hT1 := fun W hW => take_ok s g p 1 W hW hs (by omega)
  rw [e2] at hT1
  have HT1 := Lib.hid hT1
  have HT := Lib.hid hT
  have HR := Lib.hid hr
  have h0 : (⟨#[c]⟩ : ByteArray)[0]'(Nat.zero_lt_one) = c := rfl
  have e : getV (c :: b :: r) = (textE true (b :: r), V0, 0) := by simp [getV, hc, hE]
  rw [e]
  have hT2 := fun W hW hTW => text_no s g (p + 1) true W hW hs hTW b r e3.symm hE
  generalize textE true (b :: r) = E at hT2 hE ⊢
  have HT2 := Lib.hid (hT2)
  have hc0 : (c.toNat : Int) = 5 := by omega
  clear e hT1 hT hr e2 e3 e4 hl hlt hc hT2
  go_enter Tryd.func102, Tryd.ntmps102
  go_wp2_with (first | (go_at_call 101; refine (HT1.out _ (HR.out.far ((Below.refl _ _).alloc (Nat.le_refl _) _))).mono ?_; rintro e w1 ⟨rfl, hR1, hG1⟩; obtain ⟨k1, k2⟩ := gcell hG1; have hz1 : w.heap.size < w1.heap.size := (by have := hG1.size; simp at this; omega); have HR1 := Lib.hid hR1; have HG1 := Lib.hid hG1; clear hR1 hG1 HT1) | (go_at_call 161; refine (HT2.out _ (HR1.out.far ((Below.refl _ _).alloc (Nat.le_refl _) _)) (tabs_grown HT.out HR.out (only_alloc (only_first _ HG1.out) _))).mono ?_; rintro e w2 ⟨rfl, hG2⟩; unfold gaveUp))
  exact ⟨rfl, only_trans (only_first _ HG1.out) (only_first _ hG2), Or.inr ⟨hE, rfl⟩⟩
theorem value_any (s : ByteArray) (g p : Nat) (w : World) (hr : Rd w g s p) (hs : s.size ≤ 140737488355328) (hp : p ≤ s.size) (hT : Tabs w) :
    Calls Tryd.prog 102 #[.pointer (some ⟨g, 0, none⟩)] w (ValPost w g s p (getV (s.data.toList.drop p))) := by
  cases hl : s.data.toList.drop p with
  | nil =>
    have : s.size = p := by
      have := congrArg List.length hl
      simp at this
      omega
    exact value_nil s g p w hr hs this
  | cons c r =>
    by_cases h0 : c.toNat = 0
    · exact value_0 s g p w hr hs hT c r hl h0
    by_cases h1 : c.toNat = 1
    · cases r with
      | nil => exact value_1n s g p w hr hs hT c hl h1
      | cons b r => exact value_1 s g p w hr hs hT c b r hl h1
    by_cases h2 : c.toNat = 2
    · by_cases h8 : r.length < 8
      · exact value_2n s g p w hr hs hT c r hl h2 h8
      · exact value_2 s g p w hr hs hT c r hl h2 (by omega)
    by_cases h3 : c.toNat = 3
    · by_cases h8 : r.length < 8
      · exact value_3n s g p w hr hs hT c r hl h3 h8
      · exact value_3 s g p w hr hs hT c r hl h3 (by omega)
    by_cases h4 : c.toNat = 4
    · cases r with
      | nil => exact value_4e s g p w hr hs hT c hl h4
      | cons b r =>
        by_cases hE : textE false (b :: r) = 0
        · exact value_4 s g p w hr hs hT c b r hl h4 hE
        · exact value_4n s g p w hr hs hT c b r hl h4 hE
    by_cases h5 : c.toNat = 5
    · cases r with
      | nil => exact value_5e s g p w hr hs hT c hl h5
      | cons b r =>
        by_cases hE : textE true (b :: r) = 0
        · exact value_5 s g p w hr hs hT c b r hl h5 hE
        · exact value_5n s g p w hr hs hT c b r hl h5 hE
    exact value_other s g p w hr hs hT c r hl (by omega)
end Go.Proofs.YtjdfodmialhakaaDoor
