/- Texts joined by a tool: contracts and walks of this claim. -/
import Derived.Test.YtceoficoappkpaaGreatDoorB2
import Derived.Test.YtceoficoappkpaaGreatDoorB3
namespace Go.Proofs.YtceoficoappkpaaGreatDoor
open Go.RowKit
def textE (valid : Bool) : List UInt8 → Int
 | [] => 6
 | b :: r => if 100 < b.toNat then 7 else if valid && !opensB (r.take b.toNat) b.toNat then 7 else if r.length < b.toNat then 6 else 0
theorem take_one (s : ByteArray) (p : Nat) (h : p < s.size) : ∃ b r, s.data.toList.drop p = b :: r ∧ s.extract p (p + 1) = ⟨#[b]⟩ ∧ r = s.data.toList.drop (p + 1) ∧ r.length = s.size - (p + 1) := by
 have h' : p < s.data.toList.length := by simpa using h
 refine ⟨s.data.toList[p], s.data.toList.drop (p + 1), List.drop_eq_getElem_cons h', ?_, rfl, by simp⟩
 refine ba_of ?_
 simp [ByteArray.data_extract, List.drop_eq_getElem_cons h']
theorem lt_of_cell {w : World} {a : Addr} {v : Value} (h : w.cell? a = some v) : a.block < w.heap.size := by
 rcases Nat.lt_or_ge a.block w.heap.size with h' | h'
 · exact h'
 · simp [World.cell?, Array.getElem?_eq_none h'] at h
theorem tabs_grown {w w1 : World} {g : Nat} {s : ByteArray} {p : Nat} (hT : Tabs w) (hr : Rd w g s p) (hG : w.grownBy w1 (some g)) : Tabs w1 := by
 have n0 : ∀ a v, w.cell? ⟨g, 0, none⟩ = some (.int a v) → False := by
  intro a v h
  rw [hr.c0] at h
  cases h
 have hk : ∀ b o k v, b ≠ g → w.cell? ⟨b, o, none⟩ = some (.int k v) → w1.cell? ⟨b, o, none⟩ = some (.int k v) := by
  intro b o k v hb h
  have hlt := lt_of_cell h
  rw [← h]
  exact World.cell?_of_block (hG.block b hlt (fun e => hb (by injection e)))
 have t0 := hT.1 0 (by omega)
 have t1 := (hT.2 0 (by omega)).1
 refine ⟨fun c hc => hk _ _ _ _ (fun e => ?_) (hT.1 c hc), fun i hi => ⟨hk _ _ _ _ (fun e => ?_) (hT.2 i hi).1, hk _ _ _ _ (fun e => ?_) (hT.2 i hi).2⟩⟩
 · exact n0 _ _ (by rw [← e]; exact t0)
 · exact n0 _ _ (by rw [← e]; exact t1)
 · exact n0 _ _ (by rw [← e]; exact t1)
theorem slice_tail (s : ByteArray) (q : Nat) (h : q ≤ s.size) (W : World) : (Instr.slice 9 (.string s) (some (.int .i64 (q : Int))) none none).run Tryz.prog W = .ok (.string (s.extract q s.size)) W := by
 have q0 : (0 : Int) ≤ q := by omega
 have q1 : (q : Int) ≤ s.size := by omega
 go_simp
theorem textE_ok {valid : Bool} {b : UInt8} {r : List UInt8} (hE : textE valid (b :: r) = 0) :
  ¬ 100 < b.toNat ∧ (valid && !opensB (r.take b.toNat) b.toNat) = false ∧ ¬ r.length < b.toNat := by
 have hE1 : ¬ 100 < b.toNat := by
  intro h
  simp [textE, h] at hE
 have hE2 : (valid && !opensB (r.take b.toNat) b.toNat) = false := by
  simp only [textE, if_neg hE1] at hE
  cases hv : (valid && !opensB (r.take b.toNat) b.toNat)
  · rfl
  · rw [hv] at hE; simp at hE
 refine ⟨hE1, hE2, fun h => ?_⟩
 simp [textE, if_neg hE1, hE2, h] at hE
theorem pre_list (s : ByteArray) (q n : Nat) : (s.extract q (q + n)).data.toList = (s.data.toList.drop q).take n := by
 simp [ByteArray.data_extract, List.take_drop]
theorem pre_min (s : ByteArray) (q n : Nat) : ((s.extract q s.size).extract 0 (min (n : Int) ((s.size - q : Nat) : Int)).toNat).data.toList = (s.data.toList.drop q).take n := by
 have e : (min (n : Int) ((s.size - q : Nat) : Int)).toNat = min n (s.size - q) := by omega
 rw [e]
 have hz : s.data.size = s.size := rfl
 have h2 : (s.data.toList.drop q).length = s.size - q := by simp
 have e2 : ((s.extract q s.size).extract 0 (min n (s.size - q))).data.toList = (s.data.toList.drop q).take (min n (s.size - q)) := by
  simp [ByteArray.data_extract, hz]
  omega
 rw [e2, ← h2, ← List.take_take, List.take_length]
set_option maxRecDepth 100000 in
set_option maxHeartbeats 400000 in
theorem text_ok (s : ByteArray) (g p : Nat) (valid : Bool) (w : World) (hr : Rd w g s p) (hs : s.size ≤ 140737488355328) (hT : Tabs w)
  (b : UInt8) (r : List UInt8) (hl : s.data.toList.drop p = b :: r) (hE : textE valid (b :: r) = 0) :
  Calls Tryz.prog 127 #[.pointer (some ⟨g, 0, none⟩), .bool valid] w fun e w' => e = .returned (.string (s.extract (p + 1) (p + 1 + b.toNat))) ∧ Rd w' g s (p + 1 + b.toNat) ∧ w.grownBy w' (some g) := by
 have hlt : p < s.size := by
  rcases Nat.lt_or_ge p s.size with h | h
  · exact h
  · rw [List.drop_eq_nil_of_le (by simpa using h)] at hl; cases hl
 obtain ⟨b', r', e1, e2, e3, e4⟩ := take_one s p hlt
 rw [hl] at e1
 injection e1 with e1 e1'
 subst e1; subst e1'
 obtain ⟨hE1, hE2, hE3⟩ := textE_ok hE
 obtain ⟨q, hq⟩ : ∃ q, q = p + 1 := ⟨_, rfl⟩
 have hT1 := take_ok s g p 1 w hr hs (by omega)
 rw [e2] at hT1
 rw [← hq] at hT1 e3 e4 ⊢
 have hqb : q + b.toNat ≤ s.size := by omega
 have HT1 := hd_ hT1
 have HT := hd_ hT
 have HRW := hd_ hr
 have HT2 := hd_ (fun W hW => take_ok s g q b.toNat W hW hs hqb)
 rw [e3] at hE2
 have HE2 := hd_ hE2
 have hO := fun W hW => opens_any ((s.extract q s.size).extract 0 (min (b.toNat : Int) ((s.size - q : Nat) : Int)).toNat) b.toNat W (by rw [ByteArray.size_extract]; omega) (by omega) hW
 rw [pre_min] at hO
 have HO := hd_ hO
 generalize opensB ((s.data.toList.drop q).take b.toNat) b.toNat = ob at HO HE2
 have hzx : (s.extract q s.size).size = s.size - q := by rw [ByteArray.size_extract]; omega
 have hbq : b.toNat ≤ s.size - q := by omega
 have hqs : q ≤ s.size := by omega
 clear hT hr e2 hT1 e3 e4 hq hl hE hE2 hE3 hO hlt hqb
 have hb : (b.toNat : Int) < 256 := by have := b.toNat_lt; omega
 have hb0 : (0 : Int) ≤ (b.toNat : Int) := by omega
 have h0 : (⟨#[b]⟩ : ByteArray)[0]'(Nat.zero_lt_one) = b := rfl
 have q0 : (0 : Int) ≤ q := by omega
 have q1 : (q : Int) ≤ s.size := by omega
 have hsl := slice_tail s q hqs
 have hbqI : (b.toNat : Int) ≤ (s.size : Int) - q := by omega
 go_enter Tryz.func127, Tryz.ntmps127
 go_wp2_with (go_at_call 87; refine (HT1.out).mono ?_; rintro e w1 ⟨rfl, hR1, hG1⟩)
 have c0 := hR1.c0
 have c1 := hR1.c1
 go_quiet (fail)
 have HR1 := hd_ hR1
 have HG1 := hd_ hG1
 clear hR1 hG1 c0 c1 hsl
 cases valid
 · go_wp2_with (go_at_call 87; refine (HT2.out _ (show Rd (w1.drewN nq) g s q from HR1.out)).mono ?_; rintro e w3 ⟨rfl, hR3, hG3⟩)
   go_ret
   exact ⟨rfl, hR3, only_trans (only_drewN HG1.out nq) hG3⟩
 · cases ob
   · exact absurd HE2.out (by decide)
   · have hTw : Tabs (w1.drewN nq) := tabs_grown HT.out HRW.out (only_drewN HG1.out nq)
     go_wp2_with (first | (go_at_call 169; refine (HO.out _ hTw).mono ?_; rintro e w2 ⟨rfl, hb2⟩) | (go_at_call 87; refine (HT2.out _ ((show Rd (w1.drewN nq) g s q from HR1.out).far hb2)).mono ?_; rintro e w3 ⟨rfl, hR3, hG3⟩))
     go_ret
     exact ⟨rfl, hR3, only_trans (only_trans (only_drewN HG1.out nq) (only_below hb2 _)) hG3⟩
set_option maxRecDepth 100000 in
theorem text_end (s : ByteArray) (g p : Nat) (valid : Bool) (w : World) (hr : Rd w g s p) (hs : s.size ≤ 140737488355328) (hp : s.size = p) :
  Calls Tryz.prog 127 #[.pointer (some ⟨g, 0, none⟩), .bool valid] w fun e w' => e = gaveUp 6 ∧ w.grownBy w' (some g) := by
 have HT1 := hd_ (take_no s g p 1 w hr hs (by omega) (by omega) (by omega))
 clear hr hp
 go_enter Tryz.func127, Tryz.ntmps127
 go_wp2_with (go_at_call 87; refine (HT1.out).mono ?_; rintro e w1 ⟨rfl, hR1, hG1⟩; unfold gaveUp)
 exact ⟨rfl, rfl, hG1⟩
set_option maxRecDepth 100000 in
set_option maxHeartbeats 400000 in
theorem text_no (s : ByteArray) (g p : Nat) (valid : Bool) (w : World) (hr : Rd w g s p) (hs : s.size ≤ 140737488355328) (hT : Tabs w)
  (b : UInt8) (r : List UInt8) (hl : s.data.toList.drop p = b :: r) (hE : ¬ textE valid (b :: r) = 0) :
  Calls Tryz.prog 127 #[.pointer (some ⟨g, 0, none⟩), .bool valid] w fun e w' => e = gaveUp (textE valid (b :: r)) ∧ w.grownBy w' (some g) := by
 have hlt : p < s.size := by
  rcases Nat.lt_or_ge p s.size with h | h
  · exact h
  · rw [List.drop_eq_nil_of_le (by simpa using h)] at hl; cases hl
 obtain ⟨b', r', e1, e2, e3, e4⟩ := take_one s p hlt
 rw [hl] at e1
 injection e1 with e1 e1'
 subst e1; subst e1'
 obtain ⟨q, hq⟩ : ∃ q, q = p + 1 := ⟨_, rfl⟩
 have hT1 := take_ok s g p 1 w hr hs (by omega)
 rw [e2] at hT1
 rw [← hq] at hT1 e3 e4
 have HT1 := hd_ hT1
 have HT := hd_ hT
 have HRW := hd_ hr
 have hb : (b.toNat : Int) < 256 := by have := b.toNat_lt; omega
 have hb0 : (0 : Int) ≤ (b.toNat : Int) := by omega
 have h0 : (⟨#[b]⟩ : ByteArray)[0]'(Nat.zero_lt_one) = b := rfl
 by_cases h100 : 100 < b.toNat
 · have e : textE valid (b :: r) = 7 := by simp [textE, h100]
   rw [e]
   clear e hE hl hT hr e2 hT1 e3 e4 hq hlt
   have hI : (100 : Int) < b.toNat := by omega
   go_enter Tryz.func127, Tryz.ntmps127
   go_wp2_with (go_at_call 87; refine (HT1.out).mono ?_; rintro e w1 ⟨rfl, hR1, hG1⟩)
   exact ⟨rfl, rfl, hG1⟩
 · have hqs : q ≤ s.size := by omega
   have hO := fun W hW => opens_any ((s.extract q s.size).extract 0 (min (b.toNat : Int) ((s.size - q : Nat) : Int)).toNat) b.toNat W (by rw [ByteArray.size_extract]; omega) (by omega) hW
   rw [pre_min, ← e3] at hO
   have HO := hd_ hO
   have hI : (b.toNat : Int) ≤ 100 := by omega
   have q0 : (0 : Int) ≤ q := by omega
   have q1 : (q : Int) ≤ s.size := by omega
   have hsl := slice_tail s q hqs
   have hzx : (s.extract q s.size).size = s.size - q := by rw [ByteArray.size_extract]; omega
   have hEE : textE valid (b :: r) = if valid && !opensB (r.take b.toNat) b.toNat then 7 else if r.length < b.toNat then 6 else 0 := by
    simp [textE, h100]
   cases hv : (valid && !opensB (r.take b.toNat) b.toNat)
   · have hshort : r.length < b.toNat := by
      rw [hEE, hv] at hE
      by_cases c : r.length < b.toNat
      · exact c
      · simp [c] at hE
     have e : textE valid (b :: r) = 6 := by rw [hEE, hv]; simp [hshort]
     rw [e]
     have HT2 := hd_ (fun W hW => take_no s g q b.toNat W hW hs hqs (by omega) (by omega))
     have HV := hd_ hv
     generalize opensB (r.take b.toNat) b.toNat = ob at HO HV
     clear hEE hv e hE hl hT hr e2 hT1 e3 e4 hq hlt hO hshort
     go_enter Tryz.func127, Tryz.ntmps127
     go_wp2_with (go_at_call 87; refine (HT1.out).mono ?_; rintro e w1 ⟨rfl, hR1, hG1⟩)
     have c0 := hR1.c0
     have c1 := hR1.c1
     go_quiet (fail)
     have HR1 := hd_ hR1
     have HG1 := hd_ hG1
     clear hR1 hG1 c0 c1 hsl
     cases valid
     · go_wp2_with (go_at_call 87; refine (HT2.out _ (show Rd (w1.drewN nq) g s q from HR1.out)).mono ?_; rintro e w3 ⟨rfl, hR3, hG3⟩; unfold gaveUp)
       exact ⟨rfl, rfl, only_trans (only_drewN HG1.out nq) hG3⟩
     · cases ob
       · exact absurd HV.out (by decide)
       · have hTw : Tabs (w1.drewN nq) := tabs_grown HT.out HRW.out (only_drewN HG1.out nq)
         go_wp2_with (first | (go_at_call 169; refine (HO.out _ hTw).mono ?_; rintro e w2 ⟨rfl, hb2⟩) | (go_at_call 87; refine (HT2.out _ ((show Rd (w1.drewN nq) g s q from HR1.out).far hb2)).mono ?_; rintro e w3 ⟨rfl, hR3, hG3⟩; unfold gaveUp))
         exact ⟨rfl, rfl, only_trans (only_trans (only_drewN HG1.out nq) (only_below hb2 _)) hG3⟩
   · have e : textE valid (b :: r) = 7 := by rw [hEE, hv]; rfl
     rw [e]
     obtain ⟨rfl, hob⟩ : valid = true ∧ opensB (r.take b.toNat) b.toNat = false := by
      simpa using hv
     rw [hob] at hO
     have HO := hd_ hO
     clear hEE hv e hE hl hT hr e2 hT1 e3 e4 hq hlt hO hob
     go_enter Tryz.func127, Tryz.ntmps127
     go_wp2_with (go_at_call 87; refine (HT1.out).mono ?_; rintro e w1 ⟨rfl, hR1, hG1⟩)
     have c0 := hR1.c0
     have c1 := hR1.c1
     go_quiet (fail)
     have HR1 := hd_ hR1
     have HG1 := hd_ hG1
     clear hR1 hG1 c0 c1 hsl
     have hTw : Tabs (w1.drewN nq) := tabs_grown HT.out HRW.out (only_drewN HG1.out nq)
     go_wp2_with (first | (go_at_call 169; refine (HO.out _ hTw).mono ?_; rintro e w2 ⟨rfl, hb2⟩))
     exact ⟨rfl, rfl, only_trans (only_drewN HG1.out nq) (only_below hb2 _)⟩
end Go.Proofs.YtceoficoappkpaaGreatDoor
