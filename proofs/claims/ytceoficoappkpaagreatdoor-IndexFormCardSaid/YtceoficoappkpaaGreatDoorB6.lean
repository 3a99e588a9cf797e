/- Texts joined by a tool: contracts and walks of this claim. -/
import Derived.Test.YtceoficoappkpaaGreatDoorB5
import Derived.Defers
import Derived.Recover
import Derived.Laws.Pointers
import Derived.WideLaws
import Derived.Deep.RegionHeld3
import Derived.RegionTactic
import Derived.ChangeAlike
namespace Go.Proofs.YtceoficoappkpaaGreatDoor
open Go.RowKit
set_option maxRecDepth 100000 in
theorem value_nil (s : ByteArray) (g p : Nat) (w : World) (hr : Rd w g s p) (hs : s.size ≤ 140737488355328) (hp : s.size = p) :
  Calls Tryz.prog 88 #[.pointer (some ⟨g, 0, none⟩)] w (ValPost w g s p (getV [])) := by
 have HT1 := hd_ (fun W hW => take_no s g p 1 W hW hs (by omega) (by omega) (by omega))
 have HR := hd_ hr
 have e : getV [] = (6, V0, 0) := rfl
 rw [e]
 clear hr hp e
 go_enter Tryz.func88, Tryz.ntmps88
 go_wp2_with (go_at_call 87; refine (HT1.out _ (HR.out.far ((Below.refl _ _).alloc (Nat.le_refl _) _))).mono ?_; rintro e w1 ⟨rfl, hR1, hG1⟩; unfold gaveUp)
 exact ⟨rfl, only_first _ hG1, Or.inr ⟨by decide, rfl⟩⟩
set_option maxRecDepth 100000 in
set_option maxHeartbeats 400000 in
theorem value_other (s : ByteArray) (g p : Nat) (w : World) (hr : Rd w g s p) (hs : s.size ≤ 140737488355328) (_hT : Tabs w)
  (c : UInt8) (r : List UInt8) (hl : s.data.toList.drop p = c :: r) (hc : 5 < c.toNat) :
  Calls Tryz.prog 88 #[.pointer (some ⟨g, 0, none⟩)] w (ValPost w g s p (getV (c :: r))) := by
 obtain ⟨hlt, e2, e3, e4⟩ := hd_lt hl
 have hgl := hr.lt
 have hgn : ¬ w.heap.size = g := by omega
 have hT1 := fun W hW => take_ok s g p 1 W hW hs (by omega)
 rw [e2] at hT1
 have HT1 := hd_ hT1
 have HR := hd_ hr
 have h0 : (⟨#[c]⟩ : ByteArray)[0]'(Nat.zero_lt_one) = c := rfl
 have e : getV (c :: r) = (7, V0, 0) := by
  have c0 : ¬ c.toNat = 0 := by omega
  have c1 : ¬ c.toNat = 1 := by omega
  have c2 : ¬ c.toNat = 2 := by omega
  have c3 : ¬ c.toNat = 3 := by omega
  have c4 : ¬ (c.toNat = 4 ∨ c.toNat = 5) := by omega
  simp [getV, c0, c1, c2, c3, c4]
 rw [e]
 have hc0 : (5 : Int) < (c.toNat : Int) := by omega
 clear e hT1 hr e2 e3 e4 hl hlt hc
 go_enter Tryz.func88, Tryz.ntmps88
 go_wp2_with ((go_at_call 87; refine (HT1.out _ (HR.out.far ((Below.refl _ _).alloc (Nat.le_refl _) _))).mono ?_; rintro e w1 ⟨rfl, hR1, hG1⟩; obtain ⟨k1, k2⟩ := gcell hG1; have hz1 : w.heap.size < w1.heap.size := (by have := hG1.size; simp at this; omega); have HR1 := hd_ hR1; have HG1 := hd_ hG1; clear hR1 hG1 HT1))
 exact ⟨rfl, only_alloc (only_first _ HG1.out) _, Or.inr ⟨by decide, rfl⟩⟩
set_option maxRecDepth 100000 in
set_option maxHeartbeats 400000 in
theorem value_1n (s : ByteArray) (g p : Nat) (w : World) (hr : Rd w g s p) (hs : s.size ≤ 140737488355328) (hT : Tabs w)
  (c : UInt8) (hl : s.data.toList.drop p = [c]) (hc : c.toNat = 1) :
  Calls Tryz.prog 88 #[.pointer (some ⟨g, 0, none⟩)] w (ValPost w g s p (getV [c])) := by
 obtain ⟨hlt, e2, e3, e4⟩ := hd_lt hl
 have hgl := hr.lt
 have hgn : ¬ w.heap.size = g := by omega
 have hT1 := fun W hW => take_ok s g p 1 W hW hs (by omega)
 rw [e2] at hT1
 have HT1 := hd_ hT1
 have HT := hd_ hT
 have HR := hd_ hr
 have h0 : (⟨#[c]⟩ : ByteArray)[0]'(Nat.zero_lt_one) = c := rfl
 have e : getV [c] = (6, V0, 0) := by simp [getV, hc]
 rw [e]
 have e4' : s.size = p + 1 := by simp at e4; omega
 have HT2 := hd_ (fun W hW => take_no s g (p + 1) 1 W hW hs (by omega) (by omega) (by omega))
 have hc0 : (c.toNat : Int) = 1 := by omega
 clear e hT1 hT hr e2 e3 e4 hl hlt hc e4'
 go_enter Tryz.func88, Tryz.ntmps88
 go_wp2_with (first | (go_at_call 87; refine (HT1.out _ (HR.out.far ((Below.refl _ _).alloc (Nat.le_refl _) _))).mono ?_; rintro e w1 ⟨rfl, hR1, hG1⟩; obtain ⟨k1, k2⟩ := gcell hG1; have hz1 : w.heap.size < w1.heap.size := (by have := hG1.size; simp at this; omega); have HR1 := hd_ hR1; have HG1 := hd_ hG1; clear hR1 hG1 HT1) | (go_at_call 87; refine (HT2.out _ (HR1.out.far ((Below.refl _ _).alloc (Nat.le_refl _) _))).mono ?_; rintro e w2 ⟨rfl, hR2, hG2⟩; unfold gaveUp))
 exact ⟨rfl, only_trans (only_first _ HG1.out) (only_first _ hG2), Or.inr ⟨by decide, rfl⟩⟩
set_option maxRecDepth 100000 in
set_option maxHeartbeats 400000 in
theorem value_2n (s : ByteArray) (g p : Nat) (w : World) (hr : Rd w g s p) (hs : s.size ≤ 140737488355328) (hT : Tabs w)
  (c : UInt8) (r : List UInt8) (hl : s.data.toList.drop p = c :: r) (hc : c.toNat = 2) (h8 : r.length < 8) :
  Calls Tryz.prog 88 #[.pointer (some ⟨g, 0, none⟩)] w (ValPost w g s p (getV (c :: r))) := by
 obtain ⟨hlt, e2, e3, e4⟩ := hd_lt hl
 have hgl := hr.lt
 have hgn : ¬ w.heap.size = g := by omega
 have hT1 := fun W hW => take_ok s g p 1 W hW hs (by omega)
 rw [e2] at hT1
 have HT1 := hd_ hT1
 have HT := hd_ hT
 have HR := hd_ hr
 have h0 : (⟨#[c]⟩ : ByteArray)[0]'(Nat.zero_lt_one) = c := rfl
 have e : getV (c :: r) = (6, V0, 0) := by simp [getV, hc, h8]
 rw [e]
 have HT2 := hd_ (fun W hW => number_no s g (p + 1) W hW hs (by omega) (by omega))
 have hc0 : (c.toNat : Int) = 2 := by omega
 clear e hT1 hT hr e2 e3 e4 hl hlt hc h8
 go_enter Tryz.func88, Tryz.ntmps88
 go_wp2_with (first | (go_at_call 87; refine (HT1.out _ (HR.out.far ((Below.refl _ _).alloc (Nat.le_refl _) _))).mono ?_; rintro e w1 ⟨rfl, hR1, hG1⟩; obtain ⟨k1, k2⟩ := gcell hG1; have hz1 : w.heap.size < w1.heap.size := (by have := hG1.size; simp at this; omega); have HR1 := hd_ hR1; have HG1 := hd_ hG1; clear hR1 hG1 HT1) | (go_at_call 126; refine (HT2.out _ (HR1.out.far ((Below.refl _ _).alloc (Nat.le_refl _) _))).mono ?_; rintro e w2 ⟨rfl, hR2, hG2⟩; unfold gaveUp))
 exact ⟨rfl, only_trans (only_first _ HG1.out) (only_first _ hG2), Or.inr ⟨by decide, rfl⟩⟩
set_option maxRecDepth 100000 in
set_option maxHeartbeats 400000 in
theorem value_3n (s : ByteArray) (g p : Nat) (w : World) (hr : Rd w g s p) (hs : s.size ≤ 140737488355328) (hT : Tabs w)
  (c : UInt8) (r : List UInt8) (hl : s.data.toList.drop p = c :: r) (hc : c.toNat = 3) (h8 : r.length < 8) :
  Calls Tryz.prog 88 #[.pointer (some ⟨g, 0, none⟩)] w (ValPost w g s p (getV (c :: r))) := by
 obtain ⟨hlt, e2, e3, e4⟩ := hd_lt hl
 have hgl := hr.lt
 have hgn : ¬ w.heap.size = g := by omega
 have hT1 := fun W hW => take_ok s g p 1 W hW hs (by omega)
 rw [e2] at hT1
 have HT1 := hd_ hT1
 have HT := hd_ hT
 have HR := hd_ hr
 have h0 : (⟨#[c]⟩ : ByteArray)[0]'(Nat.zero_lt_one) = c := rfl
 have e : getV (c :: r) = (6, V0, 0) := by simp [getV, hc, h8]
 rw [e]
 have HT2 := hd_ (fun W hW => number_no s g (p + 1) W hW hs (by omega) (by omega))
 have hc0 : (c.toNat : Int) = 3 := by omega
 clear e hT1 hT hr e2 e3 e4 hl hlt hc h8
 go_enter Tryz.func88, Tryz.ntmps88
 go_wp2_with (first | (go_at_call 87; refine (HT1.out _ (HR.out.far ((Below.refl _ _).alloc (Nat.le_refl _) _))).mono ?_; rintro e w1 ⟨rfl, hR1, hG1⟩; obtain ⟨k1, k2⟩ := gcell hG1; have hz1 : w.heap.size < w1.heap.size := (by have := hG1.size; simp at this; omega); have HR1 := hd_ hR1; have HG1 := hd_ hG1; clear hR1 hG1 HT1) | (go_at_call 126; refine (HT2.out _ (HR1.out.far ((Below.refl _ _).alloc (Nat.le_refl _) _))).mono ?_; rintro e w2 ⟨rfl, hR2, hG2⟩; unfold gaveUp))
 exact ⟨rfl, only_trans (only_first _ HG1.out) (only_first _ hG2), Or.inr ⟨by decide, rfl⟩⟩
set_option maxRecDepth 100000 in
set_option maxHeartbeats 400000 in
theorem value_4e (s : ByteArray) (g p : Nat) (w : World) (hr : Rd w g s p) (hs : s.size ≤ 140737488355328) (hT : Tabs w)
  (c : UInt8) (hl : s.data.toList.drop p = [c]) (hc : c.toNat = 4) :
  Calls Tryz.prog 88 #[.pointer (some ⟨g, 0, none⟩)] w (ValPost w g s p (getV [c])) := by
 obtain ⟨hlt, e2, e3, e4⟩ := hd_lt hl
 have hgl := hr.lt
 have hgn : ¬ w.heap.size = g := by omega
 have hT1 := fun W hW => take_ok s g p 1 W hW hs (by omega)
 rw [e2] at hT1
 have HT1 := hd_ hT1
 have HT := hd_ hT
 have HR := hd_ hr
 have h0 : (⟨#[c]⟩ : ByteArray)[0]'(Nat.zero_lt_one) = c := rfl
 have e : getV [c] = (6, V0, 0) := by simp [getV, hc]
 rw [e]
 have e4' : s.size = p + 1 := by simp at e4; omega
 have HT2 := hd_ (fun W hW (_ : Tabs W) => text_end s g (p + 1) false W hW hs e4')
 have hc0 : (c.toNat : Int) = 4 := by omega
 clear e hT1 hT hr e2 e3 e4 hl hlt hc e4'
 go_enter Tryz.func88, Tryz.ntmps88
 go_wp2_with (first | (go_at_call 87; refine (HT1.out _ (HR.out.far ((Below.refl _ _).alloc (Nat.le_refl _) _))).mono ?_; rintro e w1 ⟨rfl, hR1, hG1⟩; obtain ⟨k1, k2⟩ := gcell hG1; have hz1 : w.heap.size < w1.heap.size := (by have := hG1.size; simp at this; omega); have HR1 := hd_ hR1; have HG1 := hd_ hG1; clear hR1 hG1 HT1) | (go_at_call 127; refine (HT2.out _ (HR1.out.far ((Below.refl _ _).alloc (Nat.le_refl _) _)) (tabs_grown HT.out HR.out (only_alloc (only_first _ HG1.out) _))).mono ?_; rintro e w2 ⟨rfl, hG2⟩; unfold gaveUp))
 exact ⟨rfl, only_trans (only_first _ HG1.out) (only_first _ hG2), Or.inr ⟨by decide, rfl⟩⟩
set_option maxRecDepth 100000 in
set_option maxHeartbeats 400000 in
theorem value_4n (s : ByteArray) (g p : Nat) (w : World) (hr : Rd w g s p) (hs : s.size ≤ 140737488355328) (hT : Tabs w)
  (c b : UInt8) (r : List UInt8) (hl : s.data.toList.drop p = c :: b :: r) (hc : c.toNat = 4) (hE : ¬ textE false (b :: r) = 0) :
  Calls Tryz.prog 88 #[.pointer (some ⟨g, 0, none⟩)] w (ValPost w g s p (getV (c :: b :: r))) := by
 obtain ⟨hlt, e2, e3, e4⟩ := hd_lt hl
 have hgl := hr.lt
 have hgn : ¬ w.heap.size = g := by omega
 have hT1 := fun W hW => take_ok s g p 1 W hW hs (by omega)
 rw [e2] at hT1
 have HT1 := hd_ hT1
 have HT := hd_ hT
 have HR := hd_ hr
 have h0 : (⟨#[c]⟩ : ByteArray)[0]'(Nat.zero_lt_one) = c := rfl
 have e : getV (c :: b :: r) = (textE false (b :: r), V0, 0) := by simp [getV, hc, hE]
 rw [e]
 have hT2 := fun W hW hTW => text_no s g (p + 1) false W hW hs hTW b r e3.symm hE
 generalize textE false (b :: r) = E at hT2 hE ⊢
 have HT2 := hd_ (hT2)
 have hc0 : (c.toNat : Int) = 4 := by omega
 clear e hT1 hT hr e2 e3 e4 hl hlt hc hT2
 go_enter Tryz.func88, Tryz.ntmps88
 go_wp2_with (first | (go_at_call 87; refine (HT1.out _ (HR.out.far ((Below.refl _ _).alloc (Nat.le_refl _) _))).mono ?_; rintro e w1 ⟨rfl, hR1, hG1⟩; obtain ⟨k1, k2⟩ := gcell hG1; have hz1 : w.heap.size < w1.heap.size := (by have := hG1.size; simp at this; omega); have HR1 := hd_ hR1; have HG1 := hd_ hG1; clear hR1 hG1 HT1) | (go_at_call 127; refine (HT2.out _ (HR1.out.far ((Below.refl _ _).alloc (Nat.le_refl _) _)) (tabs_grown HT.out HR.out (only_alloc (only_first _ HG1.out) _))).mono ?_; rintro e w2 ⟨rfl, hG2⟩; unfold gaveUp))
 exact ⟨rfl, only_trans (only_first _ HG1.out) (only_first _ hG2), Or.inr ⟨hE, rfl⟩⟩
set_option maxRecDepth 100000 in
set_option maxHeartbeats 400000 in
theorem value_5e (s : ByteArray) (g p : Nat) (w : World) (hr : Rd w g s p) (hs : s.size ≤ 140737488355328) (hT : Tabs w)
  (c : UInt8) (hl : s.data.toList.drop p = [c]) (hc : c.toNat = 5) :
  Calls Tryz.prog 88 #[.pointer (some ⟨g, 0, none⟩)] w (ValPost w g s p (getV [c])) := by
 obtain ⟨hlt, e2, e3, e4⟩ := hd_lt hl
 have hgl := hr.lt
 have hgn : ¬ w.heap.size = g := by omega
 have hT1 := fun W hW => take_ok s g p 1 W hW hs (by omega)
 rw [e2] at hT1
 have HT1 := hd_ hT1
 have HT := hd_ hT
 have HR := hd_ hr
 have h0 : (⟨#[c]⟩ : ByteArray)[0]'(Nat.zero_lt_one) = c := rfl
 have e : getV [c] = (6, V0, 0) := by simp [getV, hc]
 rw [e]
 have e4' : s.size = p + 1 := by simp at e4; omega
 have HT2 := hd_ (fun W hW (_ : Tabs W) => text_end s g (p + 1) true W hW hs e4')
 have hc0 : (c.toNat : Int) = 5 := by omega
 clear e hT1 hT hr e2 e3 e4 hl hlt hc e4'
 go_enter Tryz.func88, Tryz.ntmps88
 go_wp2_with (first | (go_at_call 87; refine (HT1.out _ (HR.out.far ((Below.refl _ _).alloc (Nat.le_refl _) _))).mono ?_; rintro e w1 ⟨rfl, hR1, hG1⟩; obtain ⟨k1, k2⟩ := gcell hG1; have hz1 : w.heap.size < w1.heap.size := (by have := hG1.size; simp at this; omega); have HR1 := hd_ hR1; have HG1 := hd_ hG1; clear hR1 hG1 HT1) | (go_at_call 127; refine (HT2.out _ (HR1.out.far ((Below.refl _ _).alloc (Nat.le_refl _) _)) (tabs_grown HT.out HR.out (only_alloc (only_first _ HG1.out) _))).mono ?_; rintro e w2 ⟨rfl, hG2⟩; unfold gaveUp))
 exact ⟨rfl, only_trans (only_first _ HG1.out) (only_first _ hG2), Or.inr ⟨by decide, rfl⟩⟩
set_option maxRecDepth 100000 in
set_option maxHeartbeats 400000 in
theorem value_5n (s : ByteArray) (g p : Nat) (w : World) (hr : Rd w g s p) (hs : s.size ≤ 140737488355328) (hT : Tabs w)
  (c b : UInt8) (r : List UInt8) (hl : s.data.toList.drop p = c :: b :: r) (hc : c.toNat = 5) (hE : ¬ textE true (b :: r) = 0) :
  Calls Tryz.prog 88 #[.pointer (some ⟨g, 0, none⟩)] w (ValPost w g s p (getV (c :: b :: r))) := by
 obtain ⟨hlt, e2, e3, e4⟩ := hd_lt hl
 have hgl := hr.lt
 have hgn : ¬ w.heap.size = g := by omega
 have hT1 := fun W hW => take_ok s g p 1 W hW hs (by omega)
 rw [e2] at hT1
 have HT1 := hd_ hT1
 have HT := hd_ hT
 have HR := hd_ hr
 have h0 : (⟨#[c]⟩ : ByteArray)[0]'(Nat.zero_lt_one) = c := rfl
 have e : getV (c :: b :: r) = (textE true (b :: r), V0, 0) := by simp [getV, hc, hE]
 rw [e]
 have hT2 := fun W hW hTW => text_no s g (p + 1) true W hW hs hTW b r e3.symm hE
 generalize textE true (b :: r) = E at hT2 hE ⊢
 have HT2 := hd_ (hT2)
 have hc0 : (c.toNat : Int) = 5 := by omega
 clear e hT1 hT hr e2 e3 e4 hl hlt hc hT2
 go_enter Tryz.func88, Tryz.ntmps88
 go_wp2_with (first | (go_at_call 87; refine (HT1.out _ (HR.out.far ((Below.refl _ _).alloc (Nat.le_refl _) _))).mono ?_; rintro e w1 ⟨rfl, hR1, hG1⟩; obtain ⟨k1, k2⟩ := gcell hG1; have hz1 : w.heap.size < w1.heap.size := (by have := hG1.size; simp at this; omega); have HR1 := hd_ hR1; have HG1 := hd_ hG1; clear hR1 hG1 HT1) | (go_at_call 127; refine (HT2.out _ (HR1.out.far ((Below.refl _ _).alloc (Nat.le_refl _) _)) (tabs_grown HT.out HR.out (only_alloc (only_first _ HG1.out) _))).mono ?_; rintro e w2 ⟨rfl, hG2⟩; unfold gaveUp))
 exact ⟨rfl, only_trans (only_first _ HG1.out) (only_first _ hG2), Or.inr ⟨hE, rfl⟩⟩
theorem value_any (s : ByteArray) (g p : Nat) (w : World) (hr : Rd w g s p) (hs : s.size ≤ 140737488355328) (hp : p ≤ s.size) (hT : Tabs w) :
  Calls Tryz.prog 88 #[.pointer (some ⟨g, 0, none⟩)] w (ValPost w g s p (getV (s.data.toList.drop p))) := by
 cases hl : s.data.toList.drop p with
 | nil =>
  have : s.size = p := by
   have := congrArg List.length hl
   simp at this
   omega
  exact value_nil s g p w hr hs this
 | cons c r =>
  by_cases h0 : c.toNat = 0
  · exact value_0 s g p w hr hs hT c r hl h0
  by_cases h1 : c.toNat = 1
  · cases r with
    | nil => exact value_1n s g p w hr hs hT c hl h1
    | cons b r => exact value_1 s g p w hr hs hT c b r hl h1
  by_cases h2 : c.toNat = 2
  · by_cases h8 : r.length < 8
    · exact value_2n s g p w hr hs hT c r hl h2 h8
    · exact value_2 s g p w hr hs hT c r hl h2 (by omega)
  by_cases h3 : c.toNat = 3
  · by_cases h8 : r.length < 8
    · exact value_3n s g p w hr hs hT c r hl h3 h8
    · exact value_3 s g p w hr hs hT c r hl h3 (by omega)
  by_cases h4 : c.toNat = 4
  · cases r with
    | nil => exact value_4e s g p w hr hs hT c hl h4
    | cons b r =>
     by_cases hE : textE false (b :: r) = 0
     · exact value_4 s g p w hr hs hT c b r hl h4 hE
     · exact value_4n s g p w hr hs hT c b r hl h4 hE
  by_cases h5 : c.toNat = 5
  · cases r with
    | nil => exact value_5e s g p w hr hs hT c hl h5
    | cons b r =>
     by_cases hE : textE true (b :: r) = 0
     · exact value_5 s g p w hr hs hT c b r hl h5 hE
     · exact value_5n s g p w hr hs hT c b r hl h5 hE
  exact value_other s g p w hr hs hT c r hl (by omega)
set_option maxRecDepth 100000 in
theorem caught_idle (p : Addr) (w : World) :
  CallsD Tryz.prog 86 #[.pointer (some p)] .returning w fun e u' w' => e = .returned (.tuple #[]) ∧ u' = .returning ∧ w' = w := by
 refine callsD_of_wpS Tryz.func86 rfl fun c₀ cs hu => ?_
 have he : ∀ w : World, (binOp .eql 20 .nilIface .nilIface).run Tryz.prog w = .ok (.bool true) w := fun _ => by kernel_rfl
 apply wpS_seq
 apply wpS_region
 simp [wpOpsS, go_sem, recoverD, hu, Tryz.ntmps86, Exit.thenS]
 refine wpS_of_wp ?_
 go_wp2
 cases c₀
 simp_all [bodyPostS, results, Tryz.results86]
set_option maxRecDepth 100000 in
theorem caught_up (p : Addr) (x n : Int) (older : List PanicEntry) (w : World) (hc : w.cell? p = some (.int .i64 x)) (hz : w.frozen? p = false) :
  CallsD Tryz.prog 86 #[.pointer (some p)] (.panicking ({ v := .iface 37 (.int .i64 n), recovered := false } :: older)) w fun e u' w' =>
   e = .returned (.tuple #[]) ∧ u' = .panicking ({ v := .iface 37 (.int .i64 n), recovered := true } :: older) ∧ w' = w.setCell p (.int .i64 n) := by
 have he : ∀ w : World, (binOp .eql 20 (.iface 37 (.int .i64 n)) .nilIface).run Tryz.prog w = .ok (.bool false) w := fun w => run_eql_held_nil w _ _ _ (by kernel_rfl)
 have ht : ∀ w : World, (Instr.typeAssert (.iface 37 (.int .i64 n)) 20 37 true).run Tryz.prog w = .ok (.tuple #[.int .i64 n, .bool true]) w := fun w => by
  simp [Instr.typeAssert, run_underlying Tryz.underlying37]
 refine callsD_of_wpS Tryz.func86 rfl fun c₀ cs hu => ?_
 apply wpS_seq
 apply wpS_region
 simp [wpOpsS, go_sem, recoverD, hu, Tryz.ntmps86, Exit.thenS]
 refine wpS_of_wp ?_
 have HU := hd_ hu
 clear hu
 generalize hQ : (fun e a' w' => bodyPostS Tryz.prog Tryz.f86 c₀ cs _ e a' _ w') = Q
 have HQ := hd_ hQ
 clear hQ
 rw [show (#[Value.pointer (some p)] ++ (Array.replicate 13 undef).setIfInBounds 4 (.iface 37 (.int .i64 n)) : Array Value) = #[.pointer (some p), undef, undef, undef, undef, .iface 37 (.int .i64 n), undef, undef, undef, undef, undef, undef, undef, undef] from rfl]
 go_wp2
 rw [← HQ.out]
 simp [bodyPostS, results, Tryz.results86]
def getVs : Nat → List UInt8 → Int × List V × Nat
 | 0, _ => (0, [], 0)
 | n + 1, l =>
  if (getV l).1 = 0 then
   (if (getVs n (l.drop (getV l).2.2)).1 = 0 then (0, (getV l).2.1 :: (getVs n (l.drop (getV l).2.2)).2.1, (getV l).2.2 + (getVs n (l.drop (getV l).2.2)).2.2)
    else ((getVs n (l.drop (getV l).2.2)).1, [], 0))
  else ((getV l).1, [], 0)
def getRow : List UInt8 → Int × List V × Nat
 | [] => (6, [], 0)
 | c :: r =>
  if c.toNat < 1 ∨ 8 < c.toNat then (7, [], 0)
  else if (getVs c.toNat r).1 = 0 then (0, (getVs c.toNat r).2.1, 1 + (getVs c.toNat r).2.2)
  else ((getVs c.toNat r).1, [], 0)
def RowPost (w : World) (R : Int × List V × Nat) (e : Ending) (w' : World) : Prop :=
 Below w.heap.size w w' ∧
 ((R.1 = 0 ∧ ∃ A c, e = .returned (.tuple #[.slice A R.2.1.length c, .int .i64 R.2.2, .int .i64 0]) ∧ w'.ownsRow w.heap.size 47 4 (.slice A R.2.1.length c) R.2.1.length (rowCells R.2.1)) ∨
  (R.1 ≠ 0 ∧ e = .returned (.tuple #[.slice none 0 0, .int .i64 0, .int .i64 R.1])))
theorem Rd.new (w : World) (s : ByteArray) : Rd ((w.alloc (.cells #[.int .i64 0] 37)).alloc (.cells #[.string s, .int .i64 0] 163)) (w.heap.size + 1) s 0 := by
 have := heap_alloc_new (w.alloc (.cells #[.int .i64 0] 37)) (.cells #[.string s, .int .i64 0] 163)
 simpa [Rd] using this
def EBlk (w : World) (b : Nat) (n : Int) : Prop := w.heap[b]? = some (.cells #[.int .i64 n] 37 (0, 0))
theorem EBlk.lt {w : World} {b : Nat} {n : Int} (h : EBlk w b n) : b < w.heap.size := by
 rcases Nat.lt_or_ge b w.heap.size with hlt | hge
 · exact hlt
 · unfold EBlk at h; rw [Array.getElem?_eq_none hge] at h; cases h
theorem EBlk.new (w : World) (s : ByteArray) : EBlk ((w.alloc (.cells #[.int .i64 0] 37)).alloc (.cells #[.string s, .int .i64 0] 163)) w.heap.size 0 :=
 (Below.heap_alloc _ _ _ (by simp)).trans (heap_alloc_new w _)
theorem EBlk.c0 {w : World} {b : Nat} {n : Int} (h : EBlk w b n) : w.cell? ⟨b, 0, none⟩ = some (.int .i64 n) := cell_of_row w b 0 _ _ (0, 0) h
theorem EBlk.fr {w : World} {b : Nat} {n : Int} (h : EBlk w b n) (i : Nat) : w.frozen? ⟨b, i, none⟩ = false := by
 unfold EBlk at h
 simp [World.frozen?, h]
theorem EBlk.set {w : World} {b : Nat} {n : Int} (h : EBlk w b n) (m : Int) : EBlk (w.setCell ⟨b, 0, none⟩ (.int .i64 m)) b m := by
 unfold EBlk at h ⊢
 simp [World.setCell, Array.getElem?_modify, h]
theorem EBlk.grown {w w' : World} {b : Nat} {n : Int} {row : Option Nat} (h : EBlk w b n) (hb : w.grownBy w' row) (hn : some b ≠ row) : EBlk w' b n := (hb.block b h.lt hn).trans h
theorem EBlk.ext {w w' : World} {b : Nat} {n : Int} (h : EBlk w b n) (hb : Below w.heap.size w w') : EBlk w' b n := (hb.block b h.lt).trans h
theorem below_only {w W w' : World} {g : Nat} (h : Below w.heap.size w W) (hG : W.grownBy w' (some g)) (hg : w.heap.size ≤ g) : Below w.heap.size w w' :=
 h.grown hG h.size (fun k hk => by injection hk with hk; omega)
theorem door_row {w w1 : World} {R : Int × List V × Nat} {n : Int} {t0 t1 t5 t6 t7 t8 t9 t10 t11 t12 t13 t14 t15 t16 t17 t18 t19 t20 t21 t22 t23 t24 t25 t26 t27 t28 t29 t30 t31 t32 t33 t34 t35 : Value}
  (hb : Below w.heap.size w w1) (he : EBlk w1 w.heap.size 0) (hR : R.1 = n) (hn : n ≠ 0) :
  bodyPostD Tryz.prog Tryz.f55 (RowPost w R) (Exit.panic [{ v := .iface 37 (.int .i64 n), recovered := false }])
   { tmps := #[t0, t1, .slice none 0 0, .int .i64 0, .pointer (some ⟨w.heap.size, 0, none⟩), t5, t6, t7, t8, t9, t10, t11, t12, t13, t14, t15, t16, t17, t18, t19, t20, t21, t22, t23, t24, t25, t26, t27, t28, t29, t30, t31, t32, t33, t34, t35],
     defers := [{ target := Target.fn (Fn.func 86) #[], args := #[.pointer (some ⟨w.heap.size, 0, none⟩)] }] } w1 := by
 refine leaves_cons (f := 86) (args := #[.pointer (some ⟨w.heap.size, 0, none⟩)]) (by simp) (by simp [go_sem]) ?_
 refine (caught_up ⟨w.heap.size, 0, none⟩ 0 n [] _ he.c0 (he.fr 0)).mono ?_
 rintro e u' w'' ⟨rfl, rfl, rfl⟩
 have hc := (he.set n).c0
 simp [Leaves, settle, results, Tryz.results55, go_sem, hc]
 subst hR
 exact ⟨hb.setCell (Nat.le_refl _) _, Or.inr ⟨hn, rfl⟩⟩
theorem door_ok {w w1 : World} {R : Int × List V × Nat} {A : Option Addr} {c m : Nat} {t0 t1 t5 t6 t7 t8 t9 t10 t11 t12 t13 t14 t15 t16 t17 t18 t19 t20 t21 t22 t23 t24 t25 t26 t27 t28 t29 t30 t31 t32 t33 t34 t35 : Value}
  (hb : Below w.heap.size w w1) (he : EBlk w1 w.heap.size 0) (hR : R.1 = 0) (hm : R.2.2 = m) (ho : w1.ownsRow w.heap.size 47 4 (.slice A R.2.1.length c) R.2.1.length (rowCells R.2.1)) :
  bodyPostD Tryz.prog Tryz.f55 (RowPost w R) Exit.ret
   { tmps := #[t0, t1, .slice A R.2.1.length c, .int .i64 m, .pointer (some ⟨w.heap.size, 0, none⟩), t5, t6, t7, t8, t9, t10, t11, t12, t13, t14, t15, t16, t17, t18, t19, t20, t21, t22, t23, t24, t25, t26, t27, t28, t29, t30, t31, t32, t33, t34, t35],
     defers := [{ target := Target.fn (Fn.func 86) #[], args := #[.pointer (some ⟨w.heap.size, 0, none⟩)] }] } w1 := by
 refine leaves_cons (f := 86) (args := #[.pointer (some ⟨w.heap.size, 0, none⟩)]) (by simp) (by simp [go_sem]) ?_
 refine (caught_idle ⟨w.heap.size, 0, none⟩ _).mono ?_
 rintro e u' w'' ⟨rfl, rfl, rfl⟩
 have hc := he.c0
 simp [Leaves, settle, results, Tryz.results55, go_sem, hc]
 subst hm
 exact ⟨hb, Or.inl ⟨hR, A, c, rfl, ho⟩⟩
theorem only_drew {a w : World} {row : Option Nat} (h : a.grownBy w row) : a.grownBy w.drew row := ⟨h.os, h.tape, h.output, h.size, h.block⟩
theorem own_grown {w w' : World} {base : Nat} {e : TypeId} {size n : Nat} {v : Value} {xs : List Value} {row : Option Nat} (h : w.ownsRow base e size v n xs) (hb : w.grownBy w' row) (hn : row = none ∨ v.ownBlock ≠ row) : w'.ownsRow base e size v n xs := by
 refine ⟨h.1, ?_⟩
 rcases h.2 with h0 | ⟨g, cap, cur, rfl, hbg, hh, h1, h2, h3, h4⟩
 · exact .inl h0
 · have hlt : g < w.heap.size := by
    rcases Nat.lt_or_ge g w.heap.size with hlt | hge
    · exact hlt
    · rw [Array.getElem?_eq_none hge] at hh; cases hh
   refine .inr ⟨g, cap, cur, rfl, hbg, (hb.block g hlt ?_).trans hh, h1, h2, h3, h4⟩
   rcases hn with rfl | hn
   · simp
   · exact hn
theorem own_ne {w : World} {base : Nat} {e t : TypeId} {size n : Nat} {v : Value} {xs : List Value} {b : Nat} {cs : Array Value} (h : w.ownsRow base e size v n xs) (hb : w.heap[b]? = some (.cells cs t (0, 0))) (hne : e ≠ t) : v.ownBlock ≠ some b := by
 rcases h.2 with ⟨rfl, _⟩ | ⟨g, cap, cur, rfl, _, hh, _⟩
 · simp [Value.ownBlock]
 · intro he
   have : g = b := by simpa [Value.ownBlock] using he
   subst this
   rw [hh] at hb
   injection hb with hb
   injection hb with _ hb
   exact hne hb
def joinR (vs : List V) (m : Nat) (R : Int × List V × Nat) : Int × List V × Nat := if R.1 = 0 then (0, vs ++ R.2.1, m + R.2.2) else (R.1, [], 0)
theorem join_ok {vs : List V} {m n : Nat} {l : List UInt8} (h : (getV l).1 = 0) : joinR vs m (getVs (n + 1) l) = joinR (vs ++ [(getV l).2.1]) (m + (getV l).2.2) (getVs n (l.drop (getV l).2.2)) := by
 unfold joinR
 rw [getVs, if_pos h]
 by_cases h2 : (getVs n (l.drop (getV l).2.2)).1 = 0
 · simp [h2, Nat.add_assoc]
 · simp [h2]
theorem join_no {vs : List V} {m n : Nat} {l : List UInt8} (h : ¬ (getV l).1 = 0) : joinR vs m (getVs (n + 1) l) = ((getV l).1, [], 0) := by
 unfold joinR
 rw [getVs, if_neg h]
 simp [h]
theorem rowCells_snoc (vs : List V) (v : V) : rowCells (vs ++ [v]) = rowCells vs ++ v.cells := by simp [rowCells]
set_option maxRecDepth 100000 in
theorem getrow_nil (w : World) :
  Calls Tryz.prog 55 #[.string ByteArray.empty] w (RowPost w (getRow [])) := by
 have HT1 := hd_ (take_no ByteArray.empty (w.heap.size + 1) 0 1 _ (Rd.new w ByteArray.empty) (by decide) (by decide) (by omega) (by decide))
 go_enter_defers Tryz.func55, Tryz.ntmps55
 go_wp2_with (go_at_call 87; refine (HT1.out).mono ?_; rintro e w1 ⟨rfl, hR1, hG1⟩; unfold gaveUp)
 exact door_row (below_only (((Below.refl _ _).alloc (Nat.le_refl _) _).alloc (by simp) _) hG1 (by omega)) ((EBlk.new w _).grown hG1 (by simp)) rfl (by decide)
theorem finV_ok {v : V} {n : Nat} (h : (finV v n).1 = 0) : mayB v = true ∧ finV v n = (0, v, n) := by
 cases hm : mayB v
 · rw [finV_not hm] at h; cases h
 · exact ⟨rfl, finV_yes hm⟩
theorem getV_cases {l : List UInt8} (h : (getV l).1 = 0) :
  mayB (getV l).2.1 = true ∧ (getV l).2.1.wf ∧ l.take (getV l).2.2 = putL (getV l).2.1 ∧ (getV l).2.2 ≤ l.length := by
 match l with
 | [] => cases h
 | c :: r =>
  have hcb := c.toNat_lt
  by_cases c0 : c.toNat = 0
  · have e : getV (c :: r) = finV ⟨0, 0, 0, ByteArray.empty⟩ 1 := by simp [getV, c0]
    rw [e] at h ⊢
    obtain ⟨hm, e'⟩ := finV_ok h
    rw [e']
    have ec : c = 0 := UInt8.toNat_inj.1 c0
    exact ⟨hm, wf_mk (by omega) (by omega) (by omega) (by omega) (by omega) (by omega) (by decide), by subst ec; rfl, by simp⟩
  by_cases c1 : c.toNat = 1
  · match r with
    | [] => simp [getV, c1] at h
    | b :: r =>
     have hb := b.toNat_lt
     have e : getV (c :: b :: r) = finV ⟨1, b.toNat, 0, ByteArray.empty⟩ 2 := by simp [getV, c1]
     rw [e] at h ⊢
     obtain ⟨hm, e'⟩ := finV_ok h
     rw [e']
     have ec : c = 1 := UInt8.toNat_inj.1 c1
     exact ⟨hm, wf_mk (by omega) (by omega) (by omega) (by omega) (by omega) (by omega) (by decide), by subst ec; simp [putL], by simp⟩
  by_cases c2 : c.toNat = 2
  · by_cases h8 : r.length < 8
    · simp [getV, c2, h8] at h
    · have e : getV (c :: r) = finV ⟨2, i64of (valL (r.take 8)), 0, ByteArray.empty⟩ 9 := by simp [getV, c2, h8]
      rw [e] at h ⊢
      obtain ⟨hm, e'⟩ := finV_ok h
      rw [e']
      have hl8 : (r.take 8).length = 8 := by simp; omega
      have hv := valL_lt (r.take 8)
      rw [hl8] at hv
      have hp : (256 : Nat) ^ 8 = 18446744073709551616 := by decide
      have hi := i64of_range (valL (r.take 8)) (by omega)
      have ec : c = 2 := UInt8.toNat_inj.1 c2
      have hn := numL_valL (r.take 8)
      rw [hl8] at hn
      refine ⟨hm, wf_mk (by omega) (by omega) (by omega) (by omega) (by omega) (by omega) (by decide), ?_, by simp; omega⟩
      subst ec
      have hu : u64of (i64of (valL (r.take 8))) = valL (r.take 8) := by unfold u64of i64of wrap64; omega
      simp [putL, hu, hn]
  by_cases c3 : c.toNat = 3
  · by_cases h8 : r.length < 8
    · simp [getV, c3, h8] at h
    · have e : getV (c :: r) = finV ⟨3, 0, valL (r.take 8), ByteArray.empty⟩ 9 := by simp [getV, c3, h8]
      rw [e] at h ⊢
      obtain ⟨hm, e'⟩ := finV_ok h
      rw [e']
      have hl8 : (r.take 8).length = 8 := by simp; omega
      have hv := valL_lt (r.take 8)
      rw [hl8] at hv
      have hp : (256 : Nat) ^ 8 = 18446744073709551616 := by decide
      have ec : c = 3 := UInt8.toNat_inj.1 c3
      have hn := numL_valL (r.take 8)
      rw [hl8] at hn
      refine ⟨hm, wf_mk (by omega) (by omega) (by omega) (by omega) (by omega) (by omega) (by decide), ?_, by simp; omega⟩
      subst ec
      simp [putL, hn]
  by_cases c4 : c.toNat = 4 ∨ c.toNat = 5
  · match r with
    | [] => simp [getV, c0, c1, c2, c3, c4] at h
    | b :: r =>
     by_cases hE : textE (c.toNat == 5) (b :: r) = 0
     · have e : getV (c :: b :: r) = finV ⟨c.toNat, 0, 0, ⟨(r.take b.toNat).toArray⟩⟩ (2 + b.toNat) := by simp [getV, c0, c1, c2, c3, c4, hE]
       rw [e] at h ⊢
       obtain ⟨hm, e'⟩ := finV_ok h
       rw [e']
       obtain ⟨hE1, _, hE3⟩ := textE_ok hE
       have hz : (ByteArray.mk (r.take b.toNat).toArray).size = b.toNat := by simp [ByteArray.size]; omega
       refine ⟨hm, wf_mk (by omega) (by omega) (by omega) (by omega) (by omega) (by omega) (by omega), ?_, by simp; omega⟩
       have k1 : ¬ (c.toNat : Int) = 1 := by omega
       have k2 : ¬ (c.toNat : Int) = 2 := by omega
       have k3 : ¬ (c.toNat : Int) = 3 := by omega
       have k4 : (c.toNat : Int) = 4 ∨ (c.toNat : Int) = 5 := by omega
       have e3 : 2 + b.toNat = b.toNat + 1 + 1 := by omega
       rw [e3]
       unfold putL
       simp only [if_neg k1, if_neg k2, if_neg k3, if_pos k4, hz, Int.toNat_natCast, List.take_succ_cons]
       simp
     · have e : getV (c :: b :: r) = (textE (c.toNat == 5) (b :: r), V0, 0) := by simp [getV, c0, c1, c2, c3, c4, hE]
       rw [e] at h
       exact absurd h hE
  · simp [getV, c0, c1, c2, c3, c4] at h
theorem getV_le (l : List UInt8) (h : (getV l).1 = 0) : (getV l).2.2 ≤ l.length ∧ (getV l).2.1.wf := ⟨(getV_cases h).2.2.2, (getV_cases h).2.1⟩
theorem value_yes (s : ByteArray) (g p : Nat) (w : World) (hr : Rd w g s p) (hs : s.size ≤ 140737488355328) (hp : p ≤ s.size) (hT : Tabs w) (h : (getV (s.data.toList.drop p)).1 = 0) :
  Calls Tryz.prog 88 #[.pointer (some ⟨g, 0, none⟩)] w fun e w' => e = .returned (getV (s.data.toList.drop p)).2.1.agg ∧ Rd w' g s (p + (getV (s.data.toList.drop p)).2.2) ∧ w.grownBy w' (some g) :=
 (value_any s g p w hr hs hp hT).mono fun e w' ⟨hG, hx⟩ => by
   rcases hx with ⟨_, he, hR⟩ | ⟨hn, _⟩
   · exact ⟨he, hR, hG⟩
   · exact absurd h hn
theorem value_not (s : ByteArray) (g p : Nat) (w : World) (hr : Rd w g s p) (hs : s.size ≤ 140737488355328) (hp : p ≤ s.size) (hT : Tabs w) (h : ¬ (getV (s.data.toList.drop p)).1 = 0) :
  Calls Tryz.prog 88 #[.pointer (some ⟨g, 0, none⟩)] w fun e w' => e = gaveUp (getV (s.data.toList.drop p)).1 ∧ w.grownBy w' (some g) :=
 (value_any s g p w hr hs hp hT).mono fun e w' ⟨hG, hx⟩ => by
   rcases hx with ⟨hn, _, _⟩ | ⟨_, he⟩
   · exact absurd hn h
   · exact ⟨he, hG⟩
theorem cells_new4 (w : World) (a b c d : Value) (t : TypeId) : ∀ j u, [a, b, c, d][j]? = some u → (w.alloc (.cells #[a, b, c, d] t)).cell? ((⟨w.heap.size, 0, none⟩ : Addr).add j) = some u := by
 intro j u h
 have e : (⟨w.heap.size, 0, none⟩ : Addr).add j = ⟨w.heap.size, j, none⟩ := by unfold Addr.add; split <;> simp_all
 rw [e, cell_new, ← h]
 simp
set_option maxRecDepth 100000 in
set_option maxHeartbeats 400000 in
theorem getrow_cons (s : ByteArray) (w : World) (hs : s.size ≤ 140737488355328) (hT : Tabs w) (c : UInt8) (r : List UInt8) (hl : s.data.toList = c :: r) :
  Calls Tryz.prog 55 #[.string s] w (RowPost w (getRow (c :: r))) := by
 obtain ⟨hlt, e2, e3, e4⟩ := hd_lt (p := 0) (by rw [List.drop_zero]; exact hl)
 have hT1 := take_ok s (w.heap.size + 1) 0 1 _ (Rd.new w s) hs (by omega)
 rw [Nat.zero_add] at e2 e3 e4 hT1
 rw [e2] at hT1
 have HT1 := hd_ hT1
 have hW0 : Below w.heap.size w ((w.alloc (.cells #[.int .i64 0] 37)).alloc (.cells #[.string s, .int .i64 0] 163)) := ((Below.refl _ _).alloc (Nat.le_refl _) _).alloc (by simp) _
 have HW0 := hd_ hW0
 have hT0 := hd_ hT
 have h0 : (⟨#[c]⟩ : ByteArray)[0]'(Nat.zero_lt_one) = c := rfl
 have hb : (c.toNat : Int) < 256 := by have := c.toNat_lt; omega
 have hb0 : (0 : Int) ≤ (c.toNat : Int) := by omega
 have HE3 := hd_ e3
 have HE0 := hd_ (EBlk.new w s)
 have HR0 := hd_ (Rd.new w s)
 clear hT1 e2 e3 e4 hl hT hW0
 by_cases hcount : c.toNat < 1 ∨ 8 < c.toNat
 · have e : getRow (c :: r) = (7, [], 0) := by rw [getRow, if_pos hcount]
   rw [e]
   clear e
   rcases hcount with hcount | hcount
   all_goals
    go_enter_defers Tryz.func55, Tryz.ntmps55
    go_wp2_with (go_at_call 87; refine (HT1.out).mono ?_; rintro e w1 ⟨rfl, hR1, hG1⟩)
    exact door_row (below_only HW0.out hG1 (by omega)) (HE0.out.grown hG1 (by simp)) rfl (by decide)
 · have e : getRow (c :: r) = joinR [] 1 (getVs c.toNat r) := by rw [getRow, if_neg hcount, joinR]; simp
   rw [e]
   clear e
   have hc1 : 1 ≤ c.toNat := by omega
   have hc8 : c.toNat ≤ 8 := by omega
   clear hcount
   obtain ⟨R, hR⟩ : ∃ R, R = joinR [] 1 (getVs c.toNat r) := ⟨_, rfl⟩
   rw [← hR]
   have HR := hd_ hR
   clear hR
   obtain ⟨i0, hi0, hz0, hz1, hz2⟩ := info_parts info_V
   go_enter_defers Tryz.func55, Tryz.ntmps55
   go_wp2_with (go_at_call 87; refine (HT1.out).mono ?_; rintro e w1 ⟨rfl, hR1, hG1⟩)
   have hb1 := below_only HW0.out hG1 (by omega)
   have hE1 := HE0.out.grown hG1 (by simp)
   have HTw := hd_ hT0.out
   go_loopw [7, 23] (fun out i wr => ∃ (k pos : Nat) (vs : List V), k ≤ c.toNat ∧ i = .int .i64 k ∧ pos ≤ s.size ∧ Hid (R = joinR vs pos (getVs (c.toNat - k) (s.data.toList.drop pos))) ∧ Hid (Rd wr (w.heap.size + 1) s pos) ∧ Hid (EBlk wr w.heap.size 0) ∧ wr.ownsRow w.heap.size 47 4 out k (rowCells vs) ∧ Below w.heap.size w wr) (fun _ i _ => c.toNat - (intOf i).toNat)
   case atStart => exact ⟨0, 1, [], by omega, rfl, by omega, (by rw [← HE3.out]; exact HR.out : _ = _), hR1, hE1, World.ownsRow_nil _ _ _ _, hb1⟩
   case round =>
    obtain ⟨k, pos, vs, hk, rfl, hpos, HRR, HRd, HEB, hown, hbw⟩ := hrel
    clear hb1 hE1 hR1 hG1
    by_cases hlt' : k < c.toNat
    · obtain ⟨m, hm⟩ : ∃ m, c.toNat - k = m + 1 := ⟨c.toNat - k - 1, by omega⟩
      by_cases hv : (getV (s.data.toList.drop pos)).1 = 0
      · have hval := value_yes s (w.heap.size + 1) pos wr HRd.out hs hpos (HTw.out.ext hbw) hv
        have hle := (getV_le (s.data.toList.drop pos) hv).1
        have hjoin := HRR.out
        rw [hm, join_ok hv, List.drop_drop] at hjoin
        rw [List.length_drop] at hle
        generalize (getV (s.data.toList.drop pos)).2.2 = z at hval hle hjoin
        generalize (getV (s.data.toList.drop pos)).2.1 = v at hval hjoin
        have hmk : m = c.toNat - (k + 1) := by omega
        rw [hmk] at hjoin
        have HJ := hd_ hjoin
        have HVAL := hd_ hval
        have hposz : pos + z ≤ s.size := by have : s.data.toList.length = s.size := by simp
                                            omega
        clear hval hjoin hmk hm hv hle HRR
        obtain ⟨vk, vn, vr, vt⟩ := v
        unfold V.agg at HVAL
        go_wp2_with (first
         | (go_at_call 88; refine (HVAL.out).mono ?_; rintro e w2 ⟨rfl, hR2, hG2⟩; have hown2 := own_grown hown hG2 (.inr (own_ne hown HRd.out (by decide))); have hE2 := HEB.out.grown hG2 (by simp); have hb2 := below_only hbw hG2 (by omega); have HR2 := hd_ hR2; have HE2 := hd_ hE2; clear hR2 hG2 hE2 hown hbw HRd HEB HVAL)
         | (at_builtin; refine wpList_append_own _ rfl _ _ 25 rfl w.heap.size 47 i0 _ 4 40 Tryz.underlying25 hi0 hz0 hz1 hz2 rfl (by decide) _ k (rowCells vs) rfl (hown2.alloc _) ⟨w2.heap.size, 0, none⟩ 1 1 [.int .u8 vk, .int .i64 vn, .int .u64 vr, .string vt] rfl rfl (cells_new4 w2 _ _ _ _ _) ?c2 ?c3 ?c4 ?c5 ?_))
        case c2 => simp [Value.oneCell']
        case c3 => simp only [maxLen]; omega
        case c4 => omega
        case c5 => have := hb2.size; simp; omega
        intro v' w3 hown3 hg3 _
        have hne1 : some (w.heap.size + 1) ≠ Value.ownBlock _ := (own_ne hown2 HR2.out (by decide)).symm
        have hne0 : some w.heap.size ≠ Value.ownBlock _ := (own_ne hown2 HE2.out (by decide)).symm
        have hR3 : Rd w3 (w.heap.size + 1) s (pos + z) := (HR2.out.far ((Below.refl _ _).alloc (Nat.le_refl _) _)).grown hg3 hne1
        have hE3 : EBlk w3 w.heap.size 0 := (HE2.out.ext ((Below.refl _ _).alloc (Nat.le_refl _) _)).grown hg3 hne0
        have hown4 : w3.ownsRow w.heap.size 47 4 v' (k + 1) (rowCells (vs ++ [⟨vk, vn, vr, vt⟩])) := by rw [rowCells_snoc]; exact hown3
        have hbw3 : Below w.heap.size w w3 := (hb2.alloc hb2.size _).grown hg3 (by have := hb2.size; simp; omega) (own_ge hown2)
        have HR3 := hd_ hR3
        have HE3' := hd_ hE3
        clear hown3 hg3 hne1 hne0 hown2 hb2 hR3 hE3
        go_wp2
        go_roundw
        case rel => exact ⟨k + 1, pos + z, vs ++ [⟨vk, vn, vr, vt⟩], by omega, by go_num, hposz, HJ, HR3, HE3', hown4, hbw3⟩
        case measure => simp [intOf]; omega
      · have hval := value_not s (w.heap.size + 1) pos wr HRd.out hs hpos (HTw.out.ext hbw) hv
        have hjoin := HRR.out
        rw [hm, join_no hv] at hjoin
        generalize (getV (s.data.toList.drop pos)).1 = E at hval hjoin hv
        have HJ := hd_ hjoin
        have HVAL := hd_ hval
        have HEV := hd_ hv
        clear hval hjoin hm hv HRR
        go_wp2_with (go_at_call 88; refine (HVAL.out).mono ?_; rintro e w2 ⟨rfl, hG2⟩; unfold gaveUp)
        exact door_row (below_only hbw hG2 (by omega)) (HEB.out.grown hG2 (by simp)) (by rw [HJ.out]) HEV.out
    · have hkk : k = c.toNat := by omega
      have hjoin := HRR.out
      rw [hkk, Nat.sub_self, getVs, joinR] at hjoin
      simp only [if_true, List.append_nil, Nat.add_zero] at hjoin
      rw [hkk] at hown
      have hlen : c.toNat = vs.length := by have := hown.1; rw [rowCells_length] at this; omega
      rw [hlen] at hown
      obtain ⟨A, cc, rfl⟩ : ∃ A cc, u7 = .slice A vs.length cc := by
       rcases hown.2 with ⟨rfl, h⟩ | ⟨g', cap, cur, rfl, _⟩
       · exact ⟨none, 0, by rw [h]⟩
       · exact ⟨_, _, rfl⟩
      subst hjoin
      have c1 := HRd.out.c1
      have d0 := HEB.out.c0
      have d1 := HEB.out.fr 0
      have HOWN := hd_ hown
      have HKK := hd_ hkk
      clear hkk HRR hown hlen HR
      go_wp2
      go_region
      go_wp2
      refine door_ok (R := (0, vs, pos)) ?_ ?_ rfl rfl ?_
      · exact (hbw.setCell (Nat.le_refl _) _).drew
      · exact (HEB.out.set 0)
      · exact own_grown HOWN.out (only_drew (only_set (World.grownBy.refl wr _) 0 _)) (.inr (own_ne HOWN.out HEB.out (by decide)))
theorem getrow_any (s : ByteArray) (w : World) (hs : s.size ≤ 140737488355328) (hT : Tabs w) :
  Calls Tryz.prog 55 #[.string s] w (RowPost w (getRow s.data.toList)) := by
 cases hl : s.data.toList with
 | nil =>
  obtain rfl : s = ByteArray.empty := by
   obtain ⟨⟨l⟩⟩ := s
   simp only at hl
   subst hl
   rfl
  exact getrow_nil w
 | cons c r => exact getrow_cons s w hs hT c r hl
end Go.Proofs.YtceoficoappkpaaGreatDoor
