/- Texts joined by a tool: contracts and walks of this claim. -/
import Derived.Test.YtceoficoappkpaaGreatDoorP9
import Derived.Test.YtceoficoappkpaaGreatDoorP4
namespace Go.Proofs.YtceoficoappkpaaGreatDoor
open Go.RowKit Go.Shelf
attribute [local go_sem] Oper.semAt_some

theorem may_kindV {v : V} (h : mayB v = true) : v.k = 0 ↔ v = nulV := ⟨fun e => may_null h e, fun e => by rw [e]; rfl⟩
theorem rk_one {c : Int} {j : Nat} {x : V} (h : lkOk j [x] = true) : rkR c j [x] = .tuple #[.string (lkB c j [x]), .bool true] := by unfold rkR; rw [h]; rfl
theorem rk_two {c : Int} {j : Nat} {x y : V} (h : lkOk j [x, y] = true) : rkR c j [x, y] = .tuple #[.string (lkB c j [x, y]), .bool true] := by unfold rkR; rw [h]; rfl
theorem own_snoc {w : World} {b : Nat} {T : TypeId} {A : Option Addr} {c : Nat} {P PS : List Pr} (k v : ByteArray) (g : Bool) (hE : P ++ [(⟨k, v, g⟩ : Pr)] = PS) (h : w.ownsRow b T 3 (.slice A (P.length + 1) c) (P.length + 1) (cellsP P ++ [.string k, .string v, .bool g])) :
  P.length + 1 = PS.length ∧ w.ownsRow b T 3 (.slice A PS.length c) PS.length (cellsP PS) := by
 subst hE
 have e : P.length + 1 = (P ++ [(⟨k, v, g⟩ : Pr)]).length := by simp
 refine ⟨e, ?_⟩
 rw [cellsP_snoc, ← e]
 exact h
set_option maxRecDepth 100000 in
set_option maxHeartbeats 6400000 in
theorem refpairs_go (ts : List Ta) (A A0 A1 : Option Addr) (c d0 d1 : Nat) (kd : Int) (j : Nat) (ta : Ta) (l0 l1 : List V) (w : World) (ht : TRow w A c ts) (h0 : VRow w A0 l0) (h1 : VRow w A1 l1) (hL : LayX w)
  (hj : ts[j]? = some ta) (hj12 : j < 12) (hke : 0 ≤ ta.key ∧ ta.key < ta.cs.length) (href : ta.ref < 0 ∨ ta.ref < ta.cs.length) (hl0 : l0.length = 0 ∨ (ta.cs.length = l0.length ∧ rowB l0 = true)) (hl1 : l1.length = 0 ∨ (ta.cs.length = l1.length ∧ rowB l1 = true)) (hne : ¬ (l0.length = 0 ∧ l1.length = 0)) :
  Calls Tryz.prog 14 #[.agg #[.slice A ts.length c], .agg #[.int .u8 kd, .int .i64 j, .slice A0 l0.length d0, .slice A1 l1.length d1]] w fun r w' => ∃ A' c' b, r = .returned (.slice A' (pairsT j ta l0 l1).length c') ∧ w'.ownsRow b 45 3 (.slice A' (pairsT j ta l0 l1).length c') (pairsT j ta l0 l1).length (cellsP (pairsT j ta l0 l1)) ∧ Below w.heap.size w w' := by
 obtain ⟨i0, hi0, hz0, hz1, hz2⟩ := info_parts info_Pr
 have HT := hd_ (fun (W : World) (hW : Below w.heap.size w W) => ht.ext hW)
 have HV0 := hd_ (fun (W : World) (hW : Below w.heap.size w W) => h0.ext hW)
 have HV1 := hd_ (fun (W : World) (hW : Below w.heap.size w W) => h1.ext hW)
 have HLX := hd_ (fun (W : World) (hW : Below w.heap.size w W) => hL.ext hW)
 have hjl : j < ts.length := (List.getElem?_eq_some_iff.1 hj).1
 have hts := ht.2.1
 have hn0 := h0.2.1
 have hn1 := h1.2.1
 have HJ := hd_ hj
 obtain ⟨ke, hke2⟩ : ∃ ke : Nat, ta.key = ke := ⟨ta.key.toNat, by omega⟩
 have hlen0 : l0.length = 0 ∨ ta.cs.length = l0.length := by omega
 have hlen1 : l1.length = 0 ∨ ta.cs.length = l1.length := by omega
 have hmay0 : ∀ v ∈ l0, mayB v = true := fun v hv => by
  rcases hl0 with h | h
  · rw [List.eq_nil_of_length_eq_zero h] at hv; cases hv
  · exact (row_may h.2).2.2 v hv
 have hmay1 : ∀ v ∈ l1, mayB v = true := fun v hv => by
  rcases hl1 with h | h
  · rw [List.eq_nil_of_length_eq_zero h] at hv; cases hv
  · exact (row_may h.2).2.2 v hv
 have hk0 : l0.length ≠ 0 → kyV ta l0 ∈ l0 := fun h => ky_may hke (by omega)
 have hk1 : l1.length ≠ 0 → kyV ta l1 ∈ l1 := fun h => ky_may hke (by omega)
 have hx0 : l0.length ≠ 0 → l0[ke]? = some (kyV ta l0) := fun h => by unfold kyV; rw [hke2, Int.toNat_natCast, List.getElem?_eq_getElem (by omega)]; rfl
 have hx1 : l1.length ≠ 0 → l1[ke]? = some (kyV ta l1) := fun h => by unfold kyV; rw [hke2, Int.toNat_natCast, List.getElem?_eq_getElem (by omega)]; rfl
 have hr0 := ref_may href hlen0
 have hr1 := ref_may href hlen1
 have hrn0 : l0.length = 0 → refV ta l0 = nulV := fun h => by unfold refV; rw [if_pos (Or.inl h)]
 have hrn1 : l1.length = 0 → refV ta l1 = nulV := fun h => by unfold refV; rw [if_pos (Or.inl h)]
 have hneg0 : ta.ref < 0 → refV ta l0 = nulV := fun h => by unfold refV; rw [if_pos (Or.inr h)]
 have hneg1 : ta.ref < 0 → refV ta l1 = nulV := fun h => by unfold refV; rw [if_pos (Or.inr h)]
 have hrx0 : ∀ re : Nat, ta.ref = re → l0.length ≠ 0 → l0[re]? = some (refV ta l0) := fun re h hz => by unfold refV; rw [if_neg (by omega), h, Int.toNat_natCast, List.getElem?_eq_getElem (by omega)]; rfl
 have hrx1 : ∀ re : Nat, ta.ref = re → l1.length ≠ 0 → l1[re]? = some (refV ta l1) := fun re h hz => by unfold refV; rw [if_neg (by omega), h, Int.toNat_natCast, List.getElem?_eq_getElem (by omega)]; rfl
 have HRX := hd_ (And.intro hrx0 (And.intro hrx1 (And.intro hrn0 (And.intro hrn1 (And.intro hneg0 (And.intro hneg1 (And.intro hx0 hx1)))))))
 have hym : mayB (refV ta l0) = true := by rcases hr0 with h | h; rw [h]; exact nulV_may; exact hmay0 _ h
 have hzm : mayB (refV ta l1) = true := by rcases hr1 with h | h; rw [h]; exact nulV_may; exact hmay1 _ h
 have HMY := hd_ (And.intro (may_kindV hym) (may_kindV hzm))
 have HWF : Hid ((l0.length ≠ 0 → (kyV ta l0).wf) ∧ (refV ta l0).wf ∧ (l1.length ≠ 0 → (kyV ta l1).wf) ∧ (refV ta l1).wf) := by
  refine ⟨fun h => h0.1 _ (hk0 h), ?_, fun h => h1.1 _ (hk1 h), ?_⟩
  · rcases hr0 with h | h
    · rw [h]; exact nulV_wf
    · exact h0.1 _ h
  · rcases hr1 with h | h
    · rw [h]; exact nulV_wf
    · exact h1.1 _ h
 have HOK : Hid ((refV ta l0 ≠ nulV → lkOk j [refV ta l0, kyV ta l0] = true) ∧ (l1.length = 0 → lkOk j [kyV ta l0] = true) ∧ (l1.length ≠ 0 → lkOk j [kyV ta l1] = true) ∧ (refV ta l1 ≠ nulV → lkOk j [refV ta l1, kyV ta l1] = true)) := by
  refine ⟨fun h => ?_, fun h => ?_, fun h => ?_, fun h => ?_⟩
  · have hz : l0.length ≠ 0 := fun e => h (hrn0 e)
    exact lk_two hj12 (hmay0 _ (hr0.resolve_left h)) (hmay0 _ (hk0 hz))
  · exact lk_one hj12 (hmay0 _ (hk0 (by omega)))
  · exact lk_one hj12 (hmay1 _ (hk1 h))
  · have hz : l1.length ≠ 0 := fun e => h (hrn1 e)
    exact lk_two hj12 (hmay1 _ (hr1.resolve_left h)) (hmay1 _ (hk1 hz))
 have HPR := hd_ (fun (hz : l1.length ≠ 0) (W : World) (hW : Below w.heap.size w W) => refputrow_any l1 A1 d1 W (h1.ext hW) (by rcases hl1 with h | h; exact absurd h hz; exact h.2))
 have HNE := hd_ hne
 have HKE := hd_ hke2
 have hrI : ta.ref < 0 ∨ ∃ re : Nat, ta.ref = re := by
  by_cases h : ta.ref < 0
  · exact Or.inl h
  · exact Or.inr ⟨ta.ref.toNat, by omega⟩
 have hreb : ∀ re : Nat, ta.ref = re → (l0.length ≠ 0 → re < l0.length) ∧ (l1.length ≠ 0 → re < l1.length) := fun re h => ⟨fun _ => by omega, fun _ => by omega⟩
 have hkeb : (l0.length ≠ 0 → ke < l0.length) ∧ (l1.length ≠ 0 → ke < l1.length) := ⟨fun _ => by omega, fun _ => by omega⟩
 have HRI := hd_ (And.intro hrI (And.intro hreb hkeb))
 unfold pairsT
 clear ht h0 h1 hj hke href hl0 hl1 hne hlen0 hlen1 hmay0 hmay1 hk0 hk1 hr0 hr1 hrn0 hrn1 hneg0 hneg1 hrx0 hrx1 hx0 hx1 hym hzm hL hke2 hrI hreb hkeb hj12
 generalize (⟨(putRowL l1).toArray⟩ : ByteArray) = TX at HPR ⊢
 generalize kyV ta l0 = x at *
 generalize refV ta l0 = y at *
 generalize kyV ta l1 = u at *
 generalize refV ta l1 = z at *
 obtain ⟨P1, hP1⟩ : ∃ P1, P1 = (if y ≠ nulV ∧ y ≠ z then [(⟨lkB 102 j [y, x], ⟨#[]⟩, true⟩ : Pr)] else []) := ⟨_, rfl⟩
 generalize hPS : (if y ≠ nulV ∧ y ≠ z then [(⟨lkB 102 j [y, x], ⟨#[]⟩, true⟩ : Pr)] else []) ++ (if l1.length = 0 then [⟨lkB 114 j [x], ⟨#[]⟩, true⟩] else ⟨lkB 114 j [u], TX, false⟩ :: (if z ≠ nulV ∧ y ≠ z then [⟨lkB 102 j [z, u], ⟨#[]⟩, false⟩] else [])) = PS
 rw [← hP1] at hPS
 have HP1e := hd_ hP1.symm
 have HPS := hd_ hPS
 have hP1l : P1.length ≤ 1 := by rw [hP1]; split <;> simp
 clear hP1 hPS
 go_enter Tryz.func14, Tryz.ntmps14
 go_upto_region 1 with fail
 have b2 : Blk ((w.alloc (.cells #[.slice A ts.length c] 24)).alloc (.cells #[.int .u8 kd, .int .i64 j, .slice A0 l0.length d0, .slice A1 l1.length d1] 27)) w.heap.size #[.slice A ts.length c] 24 := (by repeat (first | exact Blk.at (by simp) | assumption | refine Blk.drew ?_ | refine Blk.old ?_ _))
 have b3 : Blk ((w.alloc (.cells #[.slice A ts.length c] 24)).alloc (.cells #[.int .u8 kd, .int .i64 j, .slice A0 l0.length d0, .slice A1 l1.length d1] 27)) (w.heap.size + 1) #[.int .u8 kd, .int .i64 j, .slice A0 l0.length d0, .slice A1 l1.length d1] 27 := (by repeat (first | exact Blk.at (by simp) | assumption | refine Blk.drew ?_ | refine Blk.old ?_ _))
 have hb : Below w.heap.size w ((w.alloc (.cells #[.slice A ts.length c] 24)).alloc (.cells #[.int .u8 kd, .int .i64 j, .slice A0 l0.length d0, .slice A1 l1.length d1] 27)) := (by repeat (first | exact Below.refl _ _ | assumption | refine Below.drew ?_ | refine below_drewN ?_ _ | refine Below.alloc ?_ (by simp <;> omega) _))
 generalize ((w.alloc (.cells #[.slice A ts.length c] 24)).alloc (.cells #[.int .u8 kd, .int .i64 j, .slice A0 l0.length d0, .slice A1 l1.length d1] 27)) = W at b2 b3 hb ⊢
 obtain ⟨q2, hq2⟩ : ∃ b, b = w.heap.size := ⟨_, rfl⟩
 obtain ⟨q3, hq3⟩ : ∃ b, b = w.heap.size + 1 := ⟨_, rfl⟩
 rw [← hq3] at b3 ⊢
 rw [← hq2] at b2 ⊢
 clear hq2 hq3
 have HB3 := hd_ b3
 have HB := hd_ hb
 obtain ⟨l3, k0, k1, k2, k3, _⟩ := blk4f b3
 obtain ⟨l2, e2⟩ : q2 < W.heap.size ∧ W.cell? ⟨q2, 0, none⟩ = some (.slice A ts.length c) := ⟨b2.lt, b2.cell 0⟩
 have hjI : (j : Int) < ts.length := by omega
 obtain ⟨tb1, off1, rfl, hlt, hcs⟩ := (HT.out W hb).2.2.2 (by intro e; rw [e] at hjl; simp at hjl)
 obtain ⟨t0, t1, t2, t3, t4⟩ := hcs j ta HJ.out
 clear b2 b3 hb hcs
 go_upto_region 2 with fail
 have b5 : Blk (W.alloc (.cells #[.string ta.nm, .slice ta.A ta.cs.length ta.c, .int .i64 ta.key, .int .i64 ta.ref, .int .i64 ta.par] 73)) W.heap.size #[.string ta.nm, .slice ta.A ta.cs.length ta.c, .int .i64 ta.key, .int .i64 ta.ref, .int .i64 ta.par] 73 := Blk.new _ _ _
 have hb5 : Below W.heap.size W (W.alloc (.cells #[.string ta.nm, .slice ta.A ta.cs.length ta.c, .int .i64 ta.key, .int .i64 ta.ref, .int .i64 ta.par] 73)) := bel1 _ _
 generalize (W.alloc (.cells #[.string ta.nm, .slice ta.A ta.cs.length ta.c, .int .i64 ta.key, .int .i64 ta.ref, .int .i64 ta.par] 73)) = W1 at b5 hb5 ⊢
 obtain ⟨q5, hq5⟩ : ∃ b, b = W.heap.size := ⟨_, rfl⟩
 rw [← hq5] at b5 ⊢
 clear hq5 l3 k0 k1 k2 k3 l2 e2 t0 t1 t2 t3 t4 hlt
 have HC : Hid (∀ X, Below W1.heap.size W1 X → (q3 < X.heap.size ∧ X.cell? ⟨q3, 0, none⟩ = some (.int .u8 kd) ∧ X.cell? ⟨q3, 1, none⟩ = some (.int .i64 j) ∧ X.cell? ⟨q3, 2, none⟩ = some (.slice A0 l0.length d0) ∧ X.cell? ⟨q3, 3, none⟩ = some (.slice A1 l1.length d1)) ∧ (q5 < X.heap.size ∧ X.cell? ⟨q5, 0, none⟩ = some (.string ta.nm) ∧ X.cell? ⟨q5, 1, none⟩ = some (.slice ta.A ta.cs.length ta.c) ∧ X.cell? ⟨q5, 2, none⟩ = some (.int .i64 ta.key) ∧ X.cell? ⟨q5, 3, none⟩ = some (.int .i64 ta.ref) ∧ X.cell? ⟨q5, 4, none⟩ = some (.int .i64 ta.par) ∧ ∀ i, X.frozen? ⟨q5, i, none⟩ = false)) :=
  fun X hX => ⟨blk4' ((HB3.out.ext hb5).ext hX), blk5f (b5.ext hX)⟩
 have HBW1 : Hid (Below w.heap.size w W1) := bt HB.out hb5
 clear b5 hb5 HB3 HB
 go_upto_region 3 with fail
 have b6 : Blk ((W1.alloc (.cells #[.int .u8 0, .int .i64 0, .int .u64 0, .string ⟨#[]⟩] 47)).alloc (.cells #[.int .u8 0, .int .i64 0, .int .u64 0, .string ⟨#[]⟩] 47)) W1.heap.size #[.int .u8 0, .int .i64 0, .int .u64 0, .string ⟨#[]⟩] 47 := Blk.old (Blk.new _ _ _) _
 have b7 : Blk ((W1.alloc (.cells #[.int .u8 0, .int .i64 0, .int .u64 0, .string ⟨#[]⟩] 47)).alloc (.cells #[.int .u8 0, .int .i64 0, .int .u64 0, .string ⟨#[]⟩] 47)) (W1.heap.size + 1) #[.int .u8 0, .int .i64 0, .int .u64 0, .string ⟨#[]⟩] 47 := Blk.at (by simp)
 have hb7 : Below W1.heap.size W1 ((W1.alloc (.cells #[.int .u8 0, .int .i64 0, .int .u64 0, .string ⟨#[]⟩] 47)).alloc (.cells #[.int .u8 0, .int .i64 0, .int .u64 0, .string ⟨#[]⟩] 47)) := (by repeat (first | exact Below.refl _ _ | assumption | refine Below.drew ?_ | refine below_drewN ?_ _ | refine Below.alloc ?_ (by simp <;> omega) _))
 generalize ((W1.alloc (.cells #[.int .u8 0, .int .i64 0, .int .u64 0, .string ⟨#[]⟩] 47)).alloc (.cells #[.int .u8 0, .int .i64 0, .int .u64 0, .string ⟨#[]⟩] 47)) = W2 at b6 b7 hb7 ⊢
 obtain ⟨q6, hq6⟩ : ∃ b, b = W1.heap.size := ⟨_, rfl⟩
 obtain ⟨q7, hq7⟩ : ∃ b, b = W1.heap.size + 1 := ⟨_, rfl⟩
 rw [← hq7] at b7 ⊢
 rw [← hq6] at b6 ⊢
 have HQ67 : Hid (q6 = W1.heap.size ∧ q7 = W1.heap.size + 1) := ⟨hq6, hq7⟩
 have Hq6 := hd_ b6
 have Hq7 := hd_ b7
 have HXW2 := hd_ hb7
 clear b6 b7 hb7 hq6 hq7
 go_upto_region 3 with fail
 go_cut [29] (fun v wx => v = .bool (decide (¬ ta.ref < 0 ∧ l0.length ≠ 0)) ∧ wx = W2)
 case first =>
  obtain ⟨⟨l3, k0, k1, k2, k3⟩, ⟨l5, t0, t1, t2, t3, t4, _⟩⟩ := HC.out W2 HXW2.out
  rcases HRI.out.1 with hr | ⟨re, hr⟩
  · have hr' : ¬ (0 : Int) ≤ ta.ref := by omega
    have HV : Hid (decide (¬ ta.ref < 0 ∧ l0.length ≠ 0) = false) := decide_eq_false (fun h => h.1 hr)
    clear hr
    go_wp2_with fail
    go_meet
    exact ⟨by rw [HV.out], rfl⟩
  · have hr' : (0 : Int) ≤ ta.ref := by omega
    by_cases hz : l0.length = 0
    · have HZ : Hid (decide (0 < l0.length) = false) := decide_eq_false (by omega)
      have hz' := HZ.out
      have HV : Hid (decide (¬ ta.ref < 0 ∧ l0.length ≠ 0) = false) := decide_eq_false (fun h => h.2 hz)
      clear hr hz
      go_wp2_with fail
      go_meet
      exact ⟨by first | rw [HV.out] | rw [HV.out, HZ.out], rfl⟩
    · have HZ : Hid (decide (0 < l0.length) = true) := decide_eq_true (by omega)
      have hz' := HZ.out
      have HV : Hid (decide (¬ ta.ref < 0 ∧ l0.length ≠ 0) = true) := decide_eq_true ⟨by omega, hz⟩
      clear hr hz
      go_wp2_with fail
      go_meet
      exact ⟨by first | rw [HV.out] | rw [HV.out, HZ.out], rfl⟩
 case rest =>
 obtain ⟨rfl, hw⟩ := hcut
 have hw := hw.symm
 subst hw
 go_upto_if 29 with fail
 go_cut [] (fun wx => Hid (Blk wx q6 #[.int .u8 y.k, .int .i64 y.n, .int .u64 y.r, .string y.t] 47) ∧ Hid (Blk wx q7 #[.int .u8 0, .int .i64 0, .int .u64 0, .string ⟨#[]⟩] 47) ∧ Hid (Below W1.heap.size W1 wx))
 case first =>
  by_cases hc : ¬ ta.ref < 0 ∧ l0.length ≠ 0
  · rw [decide_eq_true hc]
    obtain ⟨hc1, hc2⟩ := hc
    obtain ⟨re, hre⟩ : ∃ re : Nat, ta.ref = re := HRI.out.1.resolve_left hc1
    have hrl : (re : Int) < l0.length := by have := (HRI.out.2.1 re hre).1 hc2; omega
    have hyv := HRX.out.1 re hre hc2
    obtain ⟨⟨l3, k0, k1, k2, k3⟩, ⟨l5, t0, t1, t2, t3, t4, _⟩⟩ := HC.out W2 HXW2.out
    rw [hre] at t3
    obtain ⟨Bq, oq, rfl, hlq, hcq⟩ := (HV0.out W2 (bt HBW1.out HXW2.out)).2.2 (by intro e; rw [e] at hc2; exact hc2 rfl)
    obtain ⟨x0, x1, x2, x3⟩ := hcq re y hyv
    have HO7 := Hq7
    have HQN := HQ67
    have HXB := HXW2
    have h6 := Hq6.out
    clear hc1 hc2 hre hyv hcq HC Hq6 Hq7
    obtain ⟨w5, rfl, l6⟩ := blk_put h6
    obtain ⟨pc, pf, pS⟩ := putBlk_facts (w := w5) 47 l6
    clear h6
    go_wp2_with fail
    go_meet
    exact ⟨putBlk_blk _ _ l6, putBlk_old HO7.out (by have := HQN.out; omega) _, putBlk_belows HXB.out (by have := HQN.out; omega) _⟩
  · rw [decide_eq_false hc]
    have HV : Hid (y = nulV) := by
     show _ = _
     by_cases hr : ta.ref < 0
     · exact HRX.out.2.2.2.2.1 hr
     · exact HRX.out.2.2.1 (Classical.byContradiction fun h => hc ⟨hr, h⟩)
    clear hc
    go_wp2_with fail
    go_meet
    exact ⟨by rw [HV.out]; exact Hq6, Hq7, HXW2⟩
 case rest =>
 obtain ⟨Hq6, Hq7, HXW4⟩ := hcut
 rename World => W4
 clear HXW2
 go_upto_region 5 with fail
 go_cut [44] (fun v wx => v = .bool (decide (¬ ta.ref < 0 ∧ l1.length ≠ 0)) ∧ wx = W4)
 case first =>
  obtain ⟨⟨l3, k0, k1, k2, k3⟩, ⟨l5, t0, t1, t2, t3, t4, _⟩⟩ := HC.out W4 HXW4.out
  rcases HRI.out.1 with hr | ⟨re, hr⟩
  · have hr' : ¬ (0 : Int) ≤ ta.ref := by omega
    have HV : Hid (decide (¬ ta.ref < 0 ∧ l1.length ≠ 0) = false) := decide_eq_false (fun h => h.1 hr)
    clear hr
    go_wp2_with fail
    go_meet
    exact ⟨by rw [HV.out], rfl⟩
  · have hr' : (0 : Int) ≤ ta.ref := by omega
    by_cases hz : l1.length = 0
    · have HZ : Hid (decide (0 < l1.length) = false) := decide_eq_false (by omega)
      have hz' := HZ.out
      have HV : Hid (decide (¬ ta.ref < 0 ∧ l1.length ≠ 0) = false) := decide_eq_false (fun h => h.2 hz)
      clear hr hz
      go_wp2_with fail
      go_meet
      exact ⟨by first | rw [HV.out] | rw [HV.out, HZ.out], rfl⟩
    · have HZ : Hid (decide (0 < l1.length) = true) := decide_eq_true (by omega)
      have hz' := HZ.out
      have HV : Hid (decide (¬ ta.ref < 0 ∧ l1.length ≠ 0) = true) := decide_eq_true ⟨by omega, hz⟩
      clear hr hz
      go_wp2_with fail
      go_meet
      exact ⟨by first | rw [HV.out] | rw [HV.out, HZ.out], rfl⟩
 case rest =>
 obtain ⟨rfl, hw⟩ := hcut
 have hw := hw.symm
 subst hw
 go_upto_if 44 with fail
 go_cut [] (fun wx => Hid (Blk wx q6 #[.int .u8 y.k, .int .i64 y.n, .int .u64 y.r, .string y.t] 47) ∧ Hid (Blk wx q7 #[.int .u8 z.k, .int .i64 z.n, .int .u64 z.r, .string z.t] 47) ∧ Hid (Below W1.heap.size W1 wx))
 case first =>
  by_cases hc : ¬ ta.ref < 0 ∧ l1.length ≠ 0
  · rw [decide_eq_true hc]
    obtain ⟨hc1, hc2⟩ := hc
    obtain ⟨re, hre⟩ : ∃ re : Nat, ta.ref = re := HRI.out.1.resolve_left hc1
    have hrl : (re : Int) < l1.length := by have := (HRI.out.2.1 re hre).2 hc2; omega
    have hyv := HRX.out.2.1 re hre hc2
    obtain ⟨⟨l3, k0, k1, k2, k3⟩, ⟨l5, t0, t1, t2, t3, t4, _⟩⟩ := HC.out W4 HXW4.out
    rw [hre] at t3
    obtain ⟨Bq, oq, rfl, hlq, hcq⟩ := (HV1.out W4 (bt HBW1.out HXW4.out)).2.2 (by intro e; rw [e] at hc2; exact hc2 rfl)
    obtain ⟨x0, x1, x2, x3⟩ := hcq re z hyv
    have HO7 := Hq6
    have HQN := HQ67
    have HXB := HXW4
    have h6 := Hq7.out
    clear hc1 hc2 hre hyv hcq HC Hq7 Hq6
    obtain ⟨w5, rfl, l6⟩ := blk_put h6
    obtain ⟨pc, pf, pS⟩ := putBlk_facts (w := w5) 47 l6
    clear h6
    go_wp2_with fail
    go_meet
    exact ⟨putBlk_old HO7.out (by have := HQN.out; omega) _, putBlk_blk _ _ l6, putBlk_belows HXB.out (by have := HQN.out; omega) _⟩
  · rw [decide_eq_false hc]
    have HV : Hid (z = nulV) := by
     show _ = _
     by_cases hr : ta.ref < 0
     · exact HRX.out.2.2.2.2.2.1 hr
     · exact HRX.out.2.2.2.1 (Classical.byContradiction fun h => hc ⟨hr, h⟩)
    clear hc
    go_wp2_with fail
    go_meet
    exact ⟨Hq6, by rw [HV.out]; exact Hq7, HXW4⟩
 case rest =>
 obtain ⟨Hq6, Hq7, HXW3⟩ := hcut
 rename World => W3
 clear HXW4
 have HC3 : Hid (∀ X, Below W3.heap.size W3 X → (q3 < X.heap.size ∧ X.cell? ⟨q3, 0, none⟩ = some (.int .u8 kd) ∧ X.cell? ⟨q3, 1, none⟩ = some (.int .i64 j) ∧ X.cell? ⟨q3, 2, none⟩ = some (.slice A0 l0.length d0) ∧ X.cell? ⟨q3, 3, none⟩ = some (.slice A1 l1.length d1)) ∧ (q5 < X.heap.size ∧ X.cell? ⟨q5, 0, none⟩ = some (.string ta.nm) ∧ X.cell? ⟨q5, 1, none⟩ = some (.slice ta.A ta.cs.length ta.c) ∧ X.cell? ⟨q5, 2, none⟩ = some (.int .i64 ta.key) ∧ X.cell? ⟨q5, 3, none⟩ = some (.int .i64 ta.ref) ∧ X.cell? ⟨q5, 4, none⟩ = some (.int .i64 ta.par) ∧ ∀ i, X.frozen? ⟨q5, i, none⟩ = false) ∧ (q6 < X.heap.size ∧ X.cell? ⟨q6, 0, none⟩ = some (.int .u8 y.k) ∧ X.cell? ⟨q6, 1, none⟩ = some (.int .i64 y.n) ∧ X.cell? ⟨q6, 2, none⟩ = some (.int .u64 y.r) ∧ X.cell? ⟨q6, 3, none⟩ = some (.string y.t)) ∧ (q7 < X.heap.size ∧ X.cell? ⟨q7, 0, none⟩ = some (.int .u8 z.k) ∧ X.cell? ⟨q7, 1, none⟩ = some (.int .i64 z.n) ∧ X.cell? ⟨q7, 2, none⟩ = some (.int .u64 z.r) ∧ X.cell? ⟨q7, 3, none⟩ = some (.string z.t))) :=
  fun X hX => ⟨(HC.out X (bt HXW3.out hX)).1, (HC.out X (bt HXW3.out hX)).2, blk4' (Hq6.out.ext hX), blk4' (Hq7.out.ext hX)⟩
 have HBW : Hid (Below w.heap.size w W3) := bt HBW1.out HXW3.out
 clear HC HBW1 HXW3 Hq6 Hq7 HQ67
 go_upto_region 8 with fail
 go_cut [58] (fun v wx => v = .bool (decide (y ≠ nulV ∧ y ≠ z)) ∧ wx = W3)
 case first =>
  obtain ⟨-, -, ⟨l6, y0, y1, y2, y3⟩, ⟨l7, z0, z1, z2, z3⟩⟩ := HC3.out W3 (Below.refl _ _)
  by_cases hk : y.k = 0
  · have HV : Hid (decide (y ≠ nulV ∧ y ≠ z) = false) := decide_eq_false (fun h => h.1 (HMY.out.1.1 hk))
    have hk' : (y.k != 0) = false := by rw [hk]; rfl
    clear hk
    go_wp2_with fail
    go_meet
    exact ⟨by rw [HV.out], rfl⟩
  · have hk' : (y.k != 0) = true := by simp [bne, hk]
    have hq2 := eqlV26 y.k y.n y.r y.t z.k z.n z.r z.t
    obtain ⟨cc, hcc⟩ : ∃ cc, cc = decide ((⟨y.k, y.n, y.r, y.t⟩ : V) ≠ ⟨z.k, z.n, z.r, z.t⟩) := ⟨_, rfl⟩
    rw [← hcc] at hq2
    have HV : Hid (decide (y ≠ nulV ∧ y ≠ z) = cc) := by
     show _ = _
     rw [hcc]
     by_cases h : y = z
     · rw [decide_eq_false (fun h' => h'.2 h), decide_eq_false (fun h' => h' h)]
     · rw [decide_eq_true (show y ≠ nulV ∧ y ≠ z from ⟨fun e => hk (HMY.out.1.2 e), h⟩)]
       exact (decide_eq_true (show (⟨y.k, y.n, y.r, y.t⟩ : V) ≠ ⟨z.k, z.n, z.r, z.t⟩ from h)).symm
    clear hk hcc
    go_wp2_with fail
    go_meet
    exact ⟨by rw [HV.out], rfl⟩
 case rest =>
 obtain ⟨rfl, hw⟩ := hcut
 have hw := hw.symm
 subst hw
 go_upto_if 58 with fail
 go_cut [8] (fun v wx => ∃ A c, v = .slice A P1.length c ∧ Hid (wx.ownsRow W3.heap.size 45 3 (.slice A P1.length c) P1.length (cellsP P1)) ∧ Hid (Below W3.heap.size W3 wx))
 case first =>
  have hP1 := HP1e.out
  by_cases hc : y ≠ nulV ∧ y ≠ z
  · rw [if_pos hc] at hP1
    rw [decide_eq_true hc]
    have HP1e := hd_ hP1
    have HYN := hd_ hc.1
    clear hc hP1
    have hlz0 : l0.length ≠ 0 := fun e => HYN.out (HRX.out.2.2.1 e)
    obtain ⟨B0, o0, rfl, -⟩ := (HV0.out w (Below.refl _ _)).2.2 (by intro e; rw [e] at hlz0; exact hlz0 rfl)
    have HXC : Hid (∀ X, Below W3.heap.size W3 X → B0 < X.heap.size ∧ X.cell? ⟨B0, o0 + ke * 4, none⟩ = some (.int .u8 x.k) ∧ X.cell? ⟨B0, o0 + ke * 4 + 1, none⟩ = some (.int .i64 x.n) ∧ X.cell? ⟨B0, o0 + ke * 4 + 2, none⟩ = some (.int .u64 x.r) ∧ X.cell? ⟨B0, o0 + ke * 4 + 3, none⟩ = some (.string x.t)) := by
     intro X hX
     obtain ⟨g, p, he, hl, hc⟩ := (HV0.out X (bt HBW.out hX)).2.2 (by intro e; rw [e] at hlz0; exact hlz0 rfl)
     simp only [Option.some.injEq, Addr.mk.injEq, and_true] at he
     obtain ⟨rfl, rfl⟩ := he
     exact ⟨hl, hc ke x (HRX.out.2.2.2.2.2.2.1 hlz0)⟩
    have hkI : (ke : Int) < l0.length := by have := HRI.out.2.2.1 hlz0; omega
    go_upto_region 9 with fail
    obtain ⟨Kf, hKf⟩ : ∃ K, K = lkB 102 j [y, x] := ⟨_, rfl⟩
    have HKF := hd_ hKf
    have HKY := hd_ (rK_2 102 j y x HWF.out.2.1 (HWF.out.1 hlz0) W3.heap.size 2 (W3.drew.alloc (.cells #[.int .u8 y.k, .int .i64 y.n, .int .u64 y.r, .string y.t, .int .u8 x.k, .int .i64 x.n, .int .u64 x.r, .string x.t] 47)) (Blk.new W3.drew _ _) (HLX.out _ (bt HBW.out ((by repeat (first | exact Below.refl _ _ | assumption | refine Below.drew ?_ | refine below_drewN ?_ _ | refine Below.alloc ?_ (by simp <;> omega) _))))))
    rw [rk_two (HOK.out.1 HYN.out), ← hKf] at HKY
    clear hKf
    obtain ⟨hsN, hhs⟩ : ∃ q, q = W3.heap.size := ⟨_, rfl⟩
    have HHS := hd_ hhs
    clear hhs
    let Iv : Nat → Unit → World → Prop := fun k _ W1 => match k with
     | 0 => W1 = W3.drew
     | 1 => W1 = W3.drew.alloc (.cells #[.int .u8 y.k, .int .i64 y.n, .int .u64 y.r, .string y.t, .int .u8 x.k, .int .i64 x.n, .int .u64 x.r, .string x.t] 47)
     | _ => Below W3.heap.size W3 W1
    rw [← HHS.out] at HKY
    refine region_phase (Iv) (fun _ _ _ => True) (()) (fun _ => [.pointer (some ⟨q3, 1, none⟩), .int .i64 j, .agg #[.int .u8 y.k, .int .i64 y.n, .int .u64 y.r, .string y.t], .pointer (some ⟨q3, 2, none⟩), .slice (some ⟨B0, o0, none⟩) l0.length d0, .pointer (some ⟨q5, 2, none⟩), .int .i64 ke, .pointer (some ⟨B0, o0 + ke * 4, none⟩), .agg #[.int .u8 x.k, .int .i64 x.n, .int .u64 x.r, .string x.t], .slice (some ⟨hsN, 0, none⟩) 2 2, .tuple #[.string Kf, .bool true], .tuple #[.string Kf, .bool true], .string Kf, .bool true, .string Kf, .bool true]) [9, 10] [(0, 1), (0, 1), (0, 0), (0, 0), (0, 0), (0, 0), (0, 0), (0, 0), (0, 0), (0, 2), (0, 2), (2, 2), (2, 2), (2, 2), (2, 2), (2, 2)] [false, false, false, false, false, false, false, false, false, true, true, false, false, false, false, false, false, false, false, false, false, false, false, false, false, false, false, false, false, false, false, false, false, false, false, false, false, false, false, false, false, false, false, false, false, false, false, false, false, false, false, false, false, false, false, false, false, false, false, true, true, true, true, true, true, true, true, true, true, true, true, true, true, false, false, false, false, false, false, false, false, false, false, false, false, false, false, false, false, false, false, false, false, false, false, false, false, false, false, false, false, false, false, false, false, false, false, false, false, false, false, false, false, false, false, false, false, false, false, false, false, false, false, false, false, false, false, false, false, false, false, false, false, false, false, false, false, false, false, false, false, false, false, false, false, false, false, false, false] [60, 61, 62, 63, 64, 65, 66, 67, 68, 69, 70, 59, 71, 72, 9, 10] [14, 15] rfl (fun _ => rfl) (fun _ _ _ _ _ _ _ _ _ => rfl) (by kernel_rfl) (by kernel_rfl) (by kernel_rfl) (by decide) (by kernel_rfl) (by kernel_rfl) (by kernel_rfl) (by kernel_rfl) (by kernel_rfl) ⟨PhStep.pure rfl ?_, PhStep.pure rfl ?_, PhStep.pure rfl ?_, PhStep.pure rfl ?_, PhStep.pure rfl ?_, PhStep.pure rfl ?_, PhStep.pure rfl ?_, PhStep.pure rfl ?_, PhStep.pure rfl ?_, PhStep.chain 0 rfl ?c9_9, PhStep.chain 1 rfl ?c9_10, PhStep.pure rfl ?_, PhStep.pure rfl ?_, PhStep.pure rfl ?_, PhStep.pure rfl ?_, PhStep.pure rfl ?_, trivial⟩ ?done9
    case done9 =>
     intro g yy V hiv
     have hW : Below W3.heap.size W3 V := hiv
     simp only [StepGoal, List.map_cons, List.map_nil, overlay, upd, cond_true, cond_false, List.getD_cons_zero, List.getD_cons_succ, Nat.zero_add, Nat.reduceAdd, Nat.reduceEqDiff, reduceIte]
     clear hiv Iv
     have HBV := hd_ hW
     have HO8 := hd_ (World.ownsRow_nil V W3.heap.size 45 3)
     clear hW
     have hA2 : Below V.heap.size V (V.alloc (.cells #[.string Kf, .string ⟨#[]⟩, .bool true] 45)) := bel1 _ _
     have HO5 := hd_ (own_below HO8.out hA2)
     have HA2 := hd_ (bt HBV.out hA2)
     have hsz9 : W3.heap.size ≤ V.heap.size := HBV.out.size
     clear hA2
     go_wp2_with (at_builtin; refine wpList_append_own _ rfl _ _ 36 rfl W3.heap.size 45 i0 _ 3 40 Tryz.underlying36 hi0 hz0 hz1 hz2 rfl (by decide) (.slice none 0 0) (([] : List Pr)).length (cellsP (([] : List Pr))) rfl HO5.out ⟨V.heap.size, 0, none⟩ 1 1 [.string Kf, .string ⟨#[]⟩, .bool true] rfl rfl ?c1a ?c2a ?c3a ?c4a ?c5a ?_)
     try (case c1a =>
          intro j v hj
          have h0 : Blk (V.alloc (.cells #[.string Kf, .string ⟨#[]⟩, .bool true] 45)) V.heap.size #[.string Kf, .string ⟨#[]⟩, .bool true] 45 := Blk.new V _ _
          have ha : (⟨V.heap.size, 0, none⟩ : Addr).add j = ⟨V.heap.size, j, none⟩ := by unfold Addr.add; split <;> simp_all
          rw [ha]
          exact (h0.cell j).trans (by simpa using hj))
     try (case c2a => simp [Value.oneCell'])
     try (case c3a => simp only [maxLen]; omega)
     try (case c4a => omega)
     try (case c5a => first | omega | (simp; omega) | (rw [World.size_alloc]; omega))
     intro v' w9 hown1 hg1 _
     obtain ⟨A9, c9, rfl⟩ := Rg.row_form hown1
     have HB9 := hd_ (HA2.out.grown hg1 HA2.out.size (own_ge HO5.out))
     have HO9 := hd_ hown1
     clear hown1 hg1 hsz9
     go_wp2_with fail
     go_meet
     exact ⟨A9, c9, by rw [← HP1e.out]; rfl, by rw [← HP1e.out, ← HKF.out]; exact HO9.out, HB9⟩
    case c9_9 =>
     intro g yy W1 hiv
     have hW1 : W1 = W3.drew := hiv
     subst hW1
     intro K hK
     rw [if_pos (by rfl)]; simp only [overlay, upd, cond_true, cond_false, List.getD_cons_zero, List.getD_cons_succ, Nat.reduceEqDiff, reduceIte]
     go_simp
     exact hK.out _ _ () rfl trivial (by rw [HHS.out]; rfl)
    case c9_10 =>
     intro g yy W1 hiv
     have hW1 : W1 = W3.drew.alloc (.cells #[.int .u8 y.k, .int .i64 y.n, .int .u64 y.r, .string y.t, .int .u8 x.k, .int .i64 x.n, .int .u64 x.r, .string x.t] 47) := hiv
     subst hW1
     intro K hK
     rw [if_pos (by rfl)]; simp only [overlay, upd, cond_true, cond_false, List.getD_cons_zero, List.getD_cons_succ, Nat.reduceEqDiff, reduceIte]
     go_simp
     refine HKY.out.mono ?_
     rintro e W' ⟨rfl, h1⟩
     exact hK.out _ _ () (bt ((by repeat (first | exact Below.refl _ _ | assumption | refine Below.drew ?_ | refine below_drewN ?_ _ | refine Below.alloc ?_ (by simp <;> omega) _))) h1 : Below W3.heap.size W3 W') trivial rfl
    all_goals
     intro q hk1 hk2 g yy W1 hiv
     intro K hK
     first
      | (rw [if_pos (by rfl)]; simp only [overlay, upd, cond_true, cond_false, List.getD_cons_zero, List.getD_cons_succ, Nat.reduceEqDiff, reduceIte]
         go_simp
         exact hK.out _ _ _ hiv rfl rfl)
      | (rw [if_pos (by rfl)]; simp only [overlay, cond_true, cond_false]
         go_simp
         exact hK.out _ _ _ hiv rfl rfl)
      | (have hX : Below W3.heap.size W3 W1 := by
          have hq : q = 0 ∨ q = 1 ∨ 1 < q := by omega
          rcases hq with rfl | rfl | hq
          · have h : W1 = W3.drew := hiv
            rw [h]; exact (by repeat (first | exact Below.refl _ _ | assumption | refine Below.drew ?_ | refine below_drewN ?_ _ | refine Below.alloc ?_ (by simp <;> omega) _))
          · have h : W1 = W3.drew.alloc (.cells #[.int .u8 y.k, .int .i64 y.n, .int .u64 y.r, .string y.t, .int .u8 x.k, .int .i64 x.n, .int .u64 x.r, .string x.t] 47) := hiv
            rw [h]; exact (by repeat (first | exact Below.refl _ _ | assumption | refine Below.drew ?_ | refine below_drewN ?_ _ | refine Below.alloc ?_ (by simp <;> omega) _))
          · match q, hq, hiv with
            | q + 2, _, hiv => exact hiv
         obtain ⟨⟨l3, k0, k1, k2, k3⟩, ⟨l5, t0, t1, t2, t3, t4, _⟩, ⟨l6, y0, y1, y2, y3⟩, ⟨l7, z0, z1, z2, z3⟩⟩ := HC3.out W1 (bt (Below.refl _ _) hX)
         obtain ⟨hrl, x0, x1, x2, x3⟩ := HXC.out W1 (bt (Below.refl _ _) hX)
         rw [HKE.out] at t2
         first
          | (rw [if_pos (by rfl)]; simp only [overlay, upd, cond_true, cond_false, List.getD_cons_zero, List.getD_cons_succ, Nat.reduceEqDiff, reduceIte]
             go_simp
             exact hK.out _ _ _ hiv rfl rfl)
          | (rw [if_pos (by rfl)]; simp only [overlay, cond_true, cond_false]
             go_simp
             exact hK.out _ _ _ hiv rfl rfl))
  · rw [if_neg hc] at hP1
    rw [decide_eq_false hc]
    have HP1e := hd_ hP1
    clear hc hP1
    go_wp2_with fail
    go_meet
    exact ⟨none, 0, by rw [← HP1e.out]; rfl, by rw [← HP1e.out]; exact World.ownsRow_nil _ _ _ _, Below.refl _ _⟩
 case rest =>
 obtain ⟨A8, c8, rfl, HO8, HBW5⟩ := hcut
 rename World => W5
 by_cases hlz : l1.length = 0
 · have HLZ := hd_ hlz
   have hlz' : ((l1.length : Int) == 0) = true := by rw [hlz]; rfl
   have hlz0 : l0.length ≠ 0 := fun e => HNE.out ⟨e, hlz⟩
   obtain ⟨B0, o0, rfl, -⟩ := (HV0.out w (Below.refl _ _)).2.2 (by intro e; rw [e] at hlz0; exact hlz0 rfl)
   have HXC : Hid (∀ X, Below W3.heap.size W3 X → B0 < X.heap.size ∧ X.cell? ⟨B0, o0 + ke * 4, none⟩ = some (.int .u8 x.k) ∧ X.cell? ⟨B0, o0 + ke * 4 + 1, none⟩ = some (.int .i64 x.n) ∧ X.cell? ⟨B0, o0 + ke * 4 + 2, none⟩ = some (.int .u64 x.r) ∧ X.cell? ⟨B0, o0 + ke * 4 + 3, none⟩ = some (.string x.t)) := by
    intro X hX
    obtain ⟨g, p, he, hl, hc⟩ := (HV0.out X (bt HBW.out hX)).2.2 (by intro e; rw [e] at hlz0; exact hlz0 rfl)
    simp only [Option.some.injEq, Addr.mk.injEq, and_true] at he
    obtain ⟨rfl, rfl⟩ := he
    exact ⟨hl, hc ke x (HRX.out.2.2.2.2.2.2.1 hlz0)⟩
   have hkI : (ke : Int) < l0.length := by have := HRI.out.2.2.1 hlz0; omega
   clear hlz
   obtain ⟨⟨l3, k0, k1, k2, k3⟩, -⟩ := HC3.out W5 HBW5.out
   go_upto_region 12 with fail
   clear hlz' l3 k0 k1 k2 k3
   obtain ⟨Kr, hKr⟩ : ∃ K, K = lkB 114 j [x] := ⟨_, rfl⟩
   have HKR := hd_ hKr
   have HKY := hd_ (rK_1 114 j x (HWF.out.1 hlz0) W5.heap.size 1 (W5.drew.alloc (.cells #[.int .u8 x.k, .int .i64 x.n, .int .u64 x.r, .string x.t] 47)) (Blk.new W5.drew _ _) (HLX.out _ (bt (bt HBW.out HBW5.out) ((by repeat (first | exact Below.refl _ _ | assumption | refine Below.drew ?_ | refine below_drewN ?_ _ | refine Below.alloc ?_ (by simp <;> omega) _))))))
   rw [rk_one (HOK.out.2.1 HLZ.out), ← hKr] at HKY
   clear hKr
   obtain ⟨hsN, hhs⟩ : ∃ q, q = W5.heap.size := ⟨_, rfl⟩
   have HHS := hd_ hhs
   clear hhs
   let Iv : Nat → Unit → World → Prop := fun k _ W1 => match k with
    | 0 => W1 = W5.drew
    | 1 => W1 = W5.drew.alloc (.cells #[.int .u8 x.k, .int .i64 x.n, .int .u64 x.r, .string x.t] 47)
    | _ => Below W5.heap.size W5 W1
   rw [← HHS.out] at HKY
   refine region_phase (Iv) (fun _ _ _ => True) (()) (fun _ => [.pointer (some ⟨q3, 1, none⟩), .int .i64 j, .pointer (some ⟨q3, 2, none⟩), .slice (some ⟨B0, o0, none⟩) l0.length d0, .pointer (some ⟨q5, 2, none⟩), .int .i64 ke, .pointer (some ⟨B0, o0 + ke * 4, none⟩), .agg #[.int .u8 x.k, .int .i64 x.n, .int .u64 x.r, .string x.t], .slice (some ⟨hsN, 0, none⟩) 1 1, .tuple #[.string Kr, .bool true], .tuple #[.string Kr, .bool true], .string Kr, .bool true, .string Kr, .bool true]) [8, 9] [(0, 1), (0, 1), (0, 0), (0, 0), (0, 0), (0, 0), (0, 0), (0, 0), (0, 2), (0, 2), (2, 2), (2, 2), (2, 2), (2, 2), (2, 2)] [false, false, false, false, false, false, false, false, false, false, false, true, true, false, false, false, false, false, false, false, false, false, false, false, false, false, false, false, false, false, false, false, false, false, false, false, false, false, false, false, false, false, false, false, false, false, false, false, false, false, false, false, false, false, false, false, false, false, false, false, false, false, false, false, false, false, false, false, false, false, false, false, false, false, false, false, false, false, false, false, false, false, true, true, true, true, true, true, true, true, true, true, true, true, true, false, false, false, false, false, false, false, false, false, false, false, false, false, false, false, false, false, false, false, false, false, false, false, false, false, false, false, false, false, false, false, false, false, false, false, false, false, false, false, false, false, false, false, false, false, false, false, false, false, false, false, false, false, false] [83, 84, 85, 86, 87, 88, 89, 90, 91, 92, 82, 93, 94, 11, 12] [13, 14] rfl (fun _ => rfl) (fun _ _ _ _ _ _ _ _ _ => rfl) (by kernel_rfl) (by kernel_rfl) (by kernel_rfl) (by decide) (by kernel_rfl) (by kernel_rfl) (by kernel_rfl) (by kernel_rfl) (by kernel_rfl) ⟨PhStep.pure rfl ?_, PhStep.pure rfl ?_, PhStep.pure rfl ?_, PhStep.pure rfl ?_, PhStep.pure rfl ?_, PhStep.pure rfl ?_, PhStep.pure rfl ?_, PhStep.pure rfl ?_, PhStep.chain 0 rfl ?c12_8, PhStep.chain 1 rfl ?c12_9, PhStep.pure rfl ?_, PhStep.pure rfl ?_, PhStep.pure rfl ?_, PhStep.pure rfl ?_, PhStep.pure rfl ?_, trivial⟩ ?done12
   case done12 =>
    intro g yy V hiv
    have hW : Below W5.heap.size W5 V := hiv
    simp only [StepGoal, List.map_cons, List.map_nil, overlay, upd, cond_true, cond_false, List.getD_cons_zero, List.getD_cons_succ, Nat.zero_add, Nat.reduceAdd, Nat.reduceEqDiff, reduceIte]
    clear hiv Iv
    have HBV := hd_ (bt HBW5.out hW)
    have HO8V := hd_ (own_below HO8.out hW)
    clear hW
    have hA2 : Below V.heap.size V (V.alloc (.cells #[.string Kr, .string ⟨#[]⟩, .bool true] 45)) := bel1 _ _
    have HO5 := hd_ (own_below HO8V.out hA2)
    have HA2 := hd_ (bt HBV.out hA2)
    have hsz9 : W3.heap.size ≤ V.heap.size := HBV.out.size
    clear hA2
    go_wp2_with (at_builtin; refine wpList_append_own _ rfl _ _ 36 rfl W3.heap.size 45 i0 _ 3 40 Tryz.underlying36 hi0 hz0 hz1 hz2 rfl (by decide) (.slice A8 P1.length c8) (P1).length (cellsP (P1)) rfl HO5.out ⟨V.heap.size, 0, none⟩ 1 1 [.string Kr, .string ⟨#[]⟩, .bool true] rfl rfl ?c1b ?c2b ?c3b ?c4b ?c5b ?_)
    try (case c1b =>
         intro j v hj
         have h0 : Blk (V.alloc (.cells #[.string Kr, .string ⟨#[]⟩, .bool true] 45)) V.heap.size #[.string Kr, .string ⟨#[]⟩, .bool true] 45 := Blk.new V _ _
         have ha : (⟨V.heap.size, 0, none⟩ : Addr).add j = ⟨V.heap.size, j, none⟩ := by unfold Addr.add; split <;> simp_all
         rw [ha]
         exact (h0.cell j).trans (by simpa using hj))
    try (case c2b => simp [Value.oneCell'])
    try (case c3b => simp only [maxLen]; omega)
    try (case c4b => omega)
    try (case c5b => first | omega | (simp; omega) | (rw [World.size_alloc]; omega))
    intro v' w9 hown1 hg1 _
    obtain ⟨A9, c9, rfl⟩ := Rg.row_form hown1
    have HB9 := hd_ (HA2.out.grown hg1 HA2.out.size (own_ge HO5.out))
    have HO9 := hd_ hown1
    clear hown1 hg1 hsz9
    go_wp2_with fail
    refine bodyPost_ret (v := .slice A9 (P1.length + 1) c9) (by simp [results, Tryz.results14, go_sem]) rfl ?_
    have hE : P1 ++ [(⟨Kr, ⟨#[]⟩, true⟩ : Pr)] = PS := by rw [← HPS.out, if_pos HLZ.out, ← HKR.out]
    obtain ⟨h1, h2⟩ := own_snoc Kr ⟨#[]⟩ true hE HO9.out
    exact ⟨A9, c9, W3.heap.size, by rw [h1], h2, bt HBW.out HB9.out⟩
   case c12_8 =>
    intro g yy W1 hiv
    have hW1 : W1 = W5.drew := hiv
    subst hW1
    intro K hK
    rw [if_pos (by rfl)]; simp only [overlay, upd, cond_true, cond_false, List.getD_cons_zero, List.getD_cons_succ, Nat.reduceEqDiff, reduceIte]
    go_simp
    exact hK.out _ _ () rfl trivial (by rw [HHS.out]; rfl)
   case c12_9 =>
    intro g yy W1 hiv
    have hW1 : W1 = W5.drew.alloc (.cells #[.int .u8 x.k, .int .i64 x.n, .int .u64 x.r, .string x.t] 47) := hiv
    subst hW1
    intro K hK
    rw [if_pos (by rfl)]; simp only [overlay, upd, cond_true, cond_false, List.getD_cons_zero, List.getD_cons_succ, Nat.reduceEqDiff, reduceIte]
    go_simp
    refine HKY.out.mono ?_
    rintro e W' ⟨rfl, h1⟩
    exact hK.out _ _ () (bt ((by repeat (first | exact Below.refl _ _ | assumption | refine Below.drew ?_ | refine below_drewN ?_ _ | refine Below.alloc ?_ (by simp <;> omega) _))) h1 : Below W5.heap.size W5 W') trivial rfl
   all_goals
    intro q hk1 hk2 g yy W1 hiv
    intro K hK
    first
     | (rw [if_pos (by rfl)]; simp only [overlay, upd, cond_true, cond_false, List.getD_cons_zero, List.getD_cons_succ, Nat.reduceEqDiff, reduceIte]
        go_simp
        exact hK.out _ _ _ hiv rfl rfl)
     | (rw [if_pos (by rfl)]; simp only [overlay, cond_true, cond_false]
        go_simp
        exact hK.out _ _ _ hiv rfl rfl)
     | (have hX : Below W5.heap.size W5 W1 := by
         have hq : q = 0 ∨ q = 1 ∨ 1 < q := by omega
         rcases hq with rfl | rfl | hq
         · have h : W1 = W5.drew := hiv
           rw [h]; exact (by repeat (first | exact Below.refl _ _ | assumption | refine Below.drew ?_ | refine below_drewN ?_ _ | refine Below.alloc ?_ (by simp <;> omega) _))
         · have h : W1 = W5.drew.alloc (.cells #[.int .u8 x.k, .int .i64 x.n, .int .u64 x.r, .string x.t] 47) := hiv
           rw [h]; exact (by repeat (first | exact Below.refl _ _ | assumption | refine Below.drew ?_ | refine below_drewN ?_ _ | refine Below.alloc ?_ (by simp <;> omega) _))
         · match q, hq, hiv with
           | q + 2, _, hiv => exact hiv
        obtain ⟨⟨l3, k0, k1, k2, k3⟩, ⟨l5, t0, t1, t2, t3, t4, _⟩, ⟨l6, y0, y1, y2, y3⟩, ⟨l7, z0, z1, z2, z3⟩⟩ := HC3.out W1 (bt HBW5.out hX)
        obtain ⟨hrl, x0, x1, x2, x3⟩ := HXC.out W1 (bt HBW5.out hX)
        rw [HKE.out] at t2
        first
         | (rw [if_pos (by rfl)]; simp only [overlay, upd, cond_true, cond_false, List.getD_cons_zero, List.getD_cons_succ, Nat.reduceEqDiff, reduceIte]
            go_simp
            exact hK.out _ _ _ hiv rfl rfl)
         | (rw [if_pos (by rfl)]; simp only [overlay, cond_true, cond_false]
            go_simp
            exact hK.out _ _ _ hiv rfl rfl))
 · have HLZ := hd_ hlz
   have hlz' : ((l1.length : Int) == 0) = false := beq_eq_false_iff_ne.2 (by omega)
   have hlz1 : l1.length ≠ 0 := hlz
   obtain ⟨B1, o1, rfl, -⟩ := (HV1.out w (Below.refl _ _)).2.2 (by intro e; rw [e] at hlz1; exact hlz1 rfl)
   have HXC : Hid (∀ X, Below W3.heap.size W3 X → B1 < X.heap.size ∧ X.cell? ⟨B1, o1 + ke * 4, none⟩ = some (.int .u8 u.k) ∧ X.cell? ⟨B1, o1 + ke * 4 + 1, none⟩ = some (.int .i64 u.n) ∧ X.cell? ⟨B1, o1 + ke * 4 + 2, none⟩ = some (.int .u64 u.r) ∧ X.cell? ⟨B1, o1 + ke * 4 + 3, none⟩ = some (.string u.t)) := by
    intro X hX
    obtain ⟨g, p, he, hl, hc⟩ := (HV1.out X (bt HBW.out hX)).2.2 (by intro e; rw [e] at hlz1; exact hlz1 rfl)
    simp only [Option.some.injEq, Addr.mk.injEq, and_true] at he
    obtain ⟨rfl, rfl⟩ := he
    exact ⟨hl, hc ke u (HRX.out.2.2.2.2.2.2.2 hlz1)⟩
   have hkI : (ke : Int) < l1.length := by have := HRI.out.2.2.2 hlz1; omega
   clear hlz
   obtain ⟨⟨l3, k0, k1, k2, k3⟩, -⟩ := HC3.out W5 HBW5.out
   go_upto_region 14 with fail
   clear hlz' l3 k0 k1 k2 k3
   obtain ⟨Kr, hKr⟩ : ∃ K, K = lkB 114 j [u] := ⟨_, rfl⟩
   have HKR := hd_ hKr
   have HKY := hd_ (rK_1 114 j u (HWF.out.2.2.1 hlz1) W5.heap.size 1 (W5.drew.alloc (.cells #[.int .u8 u.k, .int .i64 u.n, .int .u64 u.r, .string u.t] 47)) (Blk.new W5.drew _ _) (HLX.out _ (bt (bt HBW.out HBW5.out) ((by repeat (first | exact Below.refl _ _ | assumption | refine Below.drew ?_ | refine below_drewN ?_ _ | refine Below.alloc ?_ (by simp <;> omega) _))))))
   rw [rk_one (HOK.out.2.2.1 HLZ.out), ← hKr] at HKY
   clear hKr
   obtain ⟨hsN, hhs⟩ : ∃ q, q = W5.heap.size := ⟨_, rfl⟩
   have HHS := hd_ hhs
   clear hhs
   let Iv : Nat → Unit → World → Prop := fun k _ W1 => match k with
    | 0 => W1 = W5.drew
    | 1 => W1 = W5.drew.alloc (.cells #[.int .u8 u.k, .int .i64 u.n, .int .u64 u.r, .string u.t] 47)
    | _ => Below W5.heap.size W5 W1
   rw [← HHS.out] at HKY
   refine region_phase (Iv) (fun _ _ _ => True) (()) (fun _ => [.pointer (some ⟨q3, 1, none⟩), .int .i64 j, .pointer (some ⟨q3, 3, none⟩), .slice (some ⟨B1, o1, none⟩) l1.length d1, .pointer (some ⟨q5, 2, none⟩), .int .i64 ke, .pointer (some ⟨B1, o1 + ke * 4, none⟩), .agg #[.int .u8 u.k, .int .i64 u.n, .int .u64 u.r, .string u.t], .slice (some ⟨hsN, 0, none⟩) 1 1, .tuple #[.string Kr, .bool true], .tuple #[.string Kr, .bool true], .string Kr, .bool true, .string Kr, .bool true]) [8, 9] [(0, 1), (0, 1), (0, 0), (0, 0), (0, 0), (0, 0), (0, 0), (0, 0), (0, 2), (0, 2), (2, 2), (2, 2), (2, 2), (2, 2), (2, 2)] [false, false, false, false, false, false, false, false, false, false, false, false, false, true, true, false, false, false, false, false, false, false, false, false, false, false, false, false, false, false, false, false, false, false, false, false, false, false, false, false, false, false, false, false, false, false, false, false, false, false, false, false, false, false, false, false, false, false, false, false, false, false, false, false, false, false, false, false, false, false, false, false, false, false, false, false, false, false, false, false, false, false, false, false, false, false, false, false, false, false, false, false, false, false, false, false, false, false, false, false, true, true, true, true, true, true, true, true, true, true, true, true, true, false, false, false, false, false, false, false, false, false, false, false, false, false, false, false, false, false, false, false, false, false, false, false, false, false, false, false, false, false, false, false, false, false, false, false, false] [101, 102, 103, 104, 105, 106, 107, 108, 109, 110, 100, 111, 112, 13, 14] [13, 14] rfl (fun _ => rfl) (fun _ _ _ _ _ _ _ _ _ => rfl) (by kernel_rfl) (by kernel_rfl) (by kernel_rfl) (by decide) (by kernel_rfl) (by kernel_rfl) (by kernel_rfl) (by kernel_rfl) (by kernel_rfl) ⟨PhStep.pure rfl ?_, PhStep.pure rfl ?_, PhStep.pure rfl ?_, PhStep.pure rfl ?_, PhStep.pure rfl ?_, PhStep.pure rfl ?_, PhStep.pure rfl ?_, PhStep.pure rfl ?_, PhStep.chain 0 rfl ?c14_8, PhStep.chain 1 rfl ?c14_9, PhStep.pure rfl ?_, PhStep.pure rfl ?_, PhStep.pure rfl ?_, PhStep.pure rfl ?_, PhStep.pure rfl ?_, trivial⟩ ?done14
   case done14 =>
    intro g yy X1 hiv
    have hW : Below W5.heap.size W5 X1 := hiv
    simp only [StepGoal, List.map_cons, List.map_nil, overlay, upd, cond_true, cond_false, List.getD_cons_zero, List.getD_cons_succ, Nat.zero_add, Nat.reduceAdd, Nat.reduceEqDiff, reduceIte]
    clear hiv Iv
    have HBV := hd_ (bt HBW5.out hW)
    have HO8V := hd_ (own_below HO8.out hW)
    clear hW HHS HKY HO8
    obtain ⟨⟨l3, k0, k1, k2, k3⟩, -⟩ := HC3.out X1 HBV.out
    go_wp2_with fail
    refine (HPR.out HLZ.out X1 (bt HBW.out HBV.out)).mono ?_
    rintro r X2 ⟨rfl, hb2⟩
    have HBV2 := hd_ (bt HBV.out hb2)
    have HO8V2 := hd_ (own_below HO8V.out hb2)
    clear hb2 l3 k0 k1 k2 k3 HBV HO8V
    have hA2 : Below X2.heap.size X2 (X2.alloc (.cells #[.string Kr, .string TX, .bool false] 45)) := bel1 _ _
    have HO5 := hd_ (own_below HO8V2.out hA2)
    have HA2 := hd_ (bt HBV2.out hA2)
    have hsz9 : W3.heap.size ≤ X2.heap.size := HBV2.out.size
    clear hA2
    go_wp2_with (at_builtin; refine wpList_append_own _ rfl _ _ 36 rfl W3.heap.size 45 i0 _ 3 40 Tryz.underlying36 hi0 hz0 hz1 hz2 rfl (by decide) (.slice A8 P1.length c8) (P1).length (cellsP (P1)) rfl HO5.out ⟨X2.heap.size, 0, none⟩ 1 1 [.string Kr, .string TX, .bool false] rfl rfl ?c1c ?c2c ?c3c ?c4c ?c5c ?_)
    try (case c1c =>
         intro j v hj
         have h0 : Blk (X2.alloc (.cells #[.string Kr, .string TX, .bool false] 45)) X2.heap.size #[.string Kr, .string TX, .bool false] 45 := Blk.new X2 _ _
         have ha : (⟨X2.heap.size, 0, none⟩ : Addr).add j = ⟨X2.heap.size, j, none⟩ := by unfold Addr.add; split <;> simp_all
         rw [ha]
         exact (h0.cell j).trans (by simpa using hj))
    try (case c2c => simp [Value.oneCell'])
    try (case c3c => simp only [maxLen]; omega)
    try (case c4c => omega)
    try (case c5c => first | omega | (simp; omega) | (rw [World.size_alloc]; omega))
    intro v' w9 hown1 hg1 _
    obtain ⟨A9, c9, rfl⟩ := Rg.row_form hown1
    have HB9 := hd_ (HA2.out.grown hg1 HA2.out.size (own_ge HO5.out))
    have HO9 := hd_ hown1
    clear hown1 hg1 hsz9
    obtain ⟨PQ, hPQ⟩ : ∃ PQ, P1 ++ [(⟨lkB 114 j [u], TX, false⟩ : Pr)] = PQ := ⟨_, rfl⟩
    have HPE := hd_ hPQ.symm
    have ho9 := HO9.out
    rw [HKR.out] at ho9
    obtain ⟨hql, hoq⟩ := own_snoc (lkB 114 j [u]) TX false hPQ ho9
    have HOQ := hd_ hoq
    have hPQl : PQ.length ≤ 2 := by omega
    rw [hql]
    clear hPQ hql ho9 hoq HO9 HA2 HO5 HO8V2 HBV2
    go_upto_region 16 with fail
    go_cut [128] (fun v wx => v = .bool (decide (z ≠ nulV ∧ y ≠ z)) ∧ wx = w9)
    case first =>
     obtain ⟨-, -, ⟨l6, y0, y1, y2, y3⟩, ⟨l7, z0, z1, z2, z3⟩⟩ := HC3.out w9 HB9.out
     by_cases hk : z.k = 0
     · have HV : Hid (decide (z ≠ nulV ∧ y ≠ z) = false) := decide_eq_false (fun h => h.1 (HMY.out.2.1 hk))
       have hk' : (z.k != 0) = false := by rw [hk]; rfl
       clear hk
       go_wp2_with fail
       go_meet
       exact ⟨by rw [HV.out], rfl⟩
     · have hk' : (z.k != 0) = true := by simp [bne, hk]
       have hq2 := eqlV26 y.k y.n y.r y.t z.k z.n z.r z.t
       obtain ⟨cc, hcc⟩ : ∃ cc, cc = decide ((⟨y.k, y.n, y.r, y.t⟩ : V) ≠ ⟨z.k, z.n, z.r, z.t⟩) := ⟨_, rfl⟩
       rw [← hcc] at hq2
       have HV : Hid (decide (z ≠ nulV ∧ y ≠ z) = cc) := by
        show _ = _
        rw [hcc]
        by_cases h : y = z
        · rw [decide_eq_false (fun h' => h'.2 h), decide_eq_false (fun h' => h' h)]
        · rw [decide_eq_true (show z ≠ nulV ∧ y ≠ z from ⟨fun e => hk (HMY.out.2.2 e), h⟩)]
          exact (decide_eq_true (show (⟨y.k, y.n, y.r, y.t⟩ : V) ≠ ⟨z.k, z.n, z.r, z.t⟩ from h)).symm
       clear hk hcc
       go_wp2_with fail
       go_meet
       exact ⟨by rw [HV.out], rfl⟩
    case rest =>
    obtain ⟨rfl, hw⟩ := hcut
    have hw := hw.symm
    subst hw
    by_cases hc : z ≠ nulV ∧ y ≠ z
    · have HZC := hd_ hc
      rw [decide_eq_true hc]
      have HZN := hd_ hc.1
      clear hc
      go_upto_region 17 with fail
      obtain ⟨Kf, hKf⟩ : ∃ K, K = lkB 102 j [z, u] := ⟨_, rfl⟩
      have HKF := hd_ hKf
      have HKY := hd_ (rK_2 102 j z u HWF.out.2.2.2 (HWF.out.2.2.1 hlz1) w9.heap.size 2 (w9.drew.alloc (.cells #[.int .u8 z.k, .int .i64 z.n, .int .u64 z.r, .string z.t, .int .u8 u.k, .int .i64 u.n, .int .u64 u.r, .string u.t] 47)) (Blk.new w9.drew _ _) (HLX.out _ (bt (bt HBW.out HB9.out) ((by repeat (first | exact Below.refl _ _ | assumption | refine Below.drew ?_ | refine below_drewN ?_ _ | refine Below.alloc ?_ (by simp <;> omega) _))))))
      rw [rk_two (HOK.out.2.2.2 HZN.out), ← hKf] at HKY
      clear hKf
      obtain ⟨hsN, hhs⟩ : ∃ q, q = w9.heap.size := ⟨_, rfl⟩
      have HHS := hd_ hhs
      clear hhs
      let Iv : Nat → Unit → World → Prop := fun k _ W1 => match k with
       | 0 => W1 = w9.drew
       | 1 => W1 = w9.drew.alloc (.cells #[.int .u8 z.k, .int .i64 z.n, .int .u64 z.r, .string z.t, .int .u8 u.k, .int .i64 u.n, .int .u64 u.r, .string u.t] 47)
       | _ => Below w9.heap.size w9 W1
      rw [← HHS.out] at HKY
      refine region_phase (Iv) (fun _ _ _ => True) (()) (fun _ => [.pointer (some ⟨q3, 1, none⟩), .int .i64 j, .agg #[.int .u8 z.k, .int .i64 z.n, .int .u64 z.r, .string z.t], .pointer (some ⟨q3, 3, none⟩), .slice (some ⟨B1, o1, none⟩) l1.length d1, .pointer (some ⟨q5, 2, none⟩), .int .i64 ke, .pointer (some ⟨B1, o1 + ke * 4, none⟩), .agg #[.int .u8 u.k, .int .i64 u.n, .int .u64 u.r, .string u.t], .slice (some ⟨hsN, 0, none⟩) 2 2, .tuple #[.string Kf, .bool true], .tuple #[.string Kf, .bool true], .string Kf, .bool true, .string Kf]) [9, 10] [(0, 1), (0, 1), (0, 0), (0, 0), (0, 0), (0, 0), (0, 0), (0, 0), (0, 0), (0, 2), (0, 2), (2, 2), (2, 2), (2, 2), (2, 2)] [false, false, false, false, false, false, false, false, false, false, false, false, false, true, false, false, false, false, false, false, false, false, false, false, false, false, false, false, false, false, false, false, false, false, false, false, false, false, false, false, false, false, false, false, false, false, false, false, false, false, false, false, false, false, false, false, false, false, false, false, false, false, false, false, false, false, false, false, false, false, false, false, false, false, false, false, false, false, false, false, false, false, false, false, false, false, false, false, false, false, false, false, false, false, false, false, false, false, false, false, false, false, false, false, false, false, false, false, false, false, false, false, false, false, false, false, false, false, false, false, false, false, false, false, false, false, false, false, false, true, true, true, true, true, true, true, true, true, true, true, true, true, true, false, false, false, false, false, false] [130, 131, 132, 133, 134, 135, 136, 137, 138, 139, 140, 129, 141, 142, 13] [14] rfl (fun _ => rfl) (fun _ _ _ _ _ _ _ _ _ => rfl) (by kernel_rfl) (by kernel_rfl) (by kernel_rfl) (by decide) (by kernel_rfl) (by kernel_rfl) (by kernel_rfl) (by kernel_rfl) (by kernel_rfl) ⟨PhStep.pure rfl ?_, PhStep.pure rfl ?_, PhStep.pure rfl ?_, PhStep.pure rfl ?_, PhStep.pure rfl ?_, PhStep.pure rfl ?_, PhStep.pure rfl ?_, PhStep.pure rfl ?_, PhStep.pure rfl ?_, PhStep.chain 0 rfl ?c17_9, PhStep.chain 1 rfl ?c17_10, PhStep.pure rfl ?_, PhStep.pure rfl ?_, PhStep.pure rfl ?_, PhStep.pure rfl ?_, trivial⟩ ?done17
      case done17 =>
       intro g yy X3 hiv
       have hW : Below w9.heap.size w9 X3 := hiv
       simp only [StepGoal, List.map_cons, List.map_nil, overlay, upd, cond_true, cond_false, List.getD_cons_zero, List.getD_cons_succ, Nat.zero_add, Nat.reduceAdd, Nat.reduceEqDiff, reduceIte]
       clear hiv Iv
       have HBV3 := hd_ (bt HB9.out hW)
       have HO8V3 := hd_ (own_below HOQ.out hW)
       clear hW
       have hA2 : Below X3.heap.size X3 (X3.alloc (.cells #[.string Kf, .string ⟨#[]⟩, .bool false] 45)) := bel1 _ _
       have HO5 := hd_ (own_below HO8V3.out hA2)
       have HA2 := hd_ (bt HBV3.out hA2)
       have hsz10 : W3.heap.size ≤ X3.heap.size := HBV3.out.size
       clear hA2
       go_wp2_with (at_builtin; refine wpList_append_own _ rfl _ _ 36 rfl W3.heap.size 45 i0 _ 3 40 Tryz.underlying36 hi0 hz0 hz1 hz2 rfl (by decide) (.slice A9 PQ.length c9) (PQ).length (cellsP (PQ)) rfl HO5.out ⟨X3.heap.size, 0, none⟩ 1 1 [.string Kf, .string ⟨#[]⟩, .bool false] rfl rfl ?c1d ?c2d ?c3d ?c4d ?c5d ?_)
       try (case c1d =>
            intro j v hj
            have h0 : Blk (X3.alloc (.cells #[.string Kf, .string ⟨#[]⟩, .bool false] 45)) X3.heap.size #[.string Kf, .string ⟨#[]⟩, .bool false] 45 := Blk.new X3 _ _
            have ha : (⟨X3.heap.size, 0, none⟩ : Addr).add j = ⟨X3.heap.size, j, none⟩ := by unfold Addr.add; split <;> simp_all
            rw [ha]
            exact (h0.cell j).trans (by simpa using hj))
       try (case c2d => simp [Value.oneCell'])
       try (case c3d => simp only [maxLen]; omega)
       try (case c4d => omega)
       try (case c5d => first | omega | (simp; omega) | (rw [World.size_alloc]; omega))
       intro v' w10 hown1 hg1 _
       obtain ⟨A10, c10, rfl⟩ := Rg.row_form hown1
       have HB10 := hd_ (HA2.out.grown hg1 HA2.out.size (own_ge HO5.out))
       have HO10 := hd_ hown1
       clear hown1 hg1 hsz10
       go_wp2_with fail
       refine bodyPost_ret (v := .slice A10 (PQ.length + 1) c10) (by simp [results, Tryz.results14, go_sem]) rfl ?_
       have hE : PQ ++ [(⟨Kf, ⟨#[]⟩, false⟩ : Pr)] = PS := by rw [← HPS.out, if_neg HLZ.out, if_pos HZC.out, ← HKF.out, HPE.out, List.append_assoc]; rfl
       obtain ⟨h1, h2⟩ := own_snoc Kf ⟨#[]⟩ false hE HO10.out
       exact ⟨A10, c10, W3.heap.size, by rw [h1], h2, bt HBW.out HB10.out⟩
      case c17_9 =>
       intro g yy W1 hiv
       have hW1 : W1 = w9.drew := hiv
       subst hW1
       intro K hK
       rw [if_pos (by rfl)]; simp only [overlay, upd, cond_true, cond_false, List.getD_cons_zero, List.getD_cons_succ, Nat.reduceEqDiff, reduceIte]
       go_simp
       exact hK.out _ _ () rfl trivial (by rw [HHS.out]; rfl)
      case c17_10 =>
       intro g yy W1 hiv
       have hW1 : W1 = w9.drew.alloc (.cells #[.int .u8 z.k, .int .i64 z.n, .int .u64 z.r, .string z.t, .int .u8 u.k, .int .i64 u.n, .int .u64 u.r, .string u.t] 47) := hiv
       subst hW1
       intro K hK
       rw [if_pos (by rfl)]; simp only [overlay, upd, cond_true, cond_false, List.getD_cons_zero, List.getD_cons_succ, Nat.reduceEqDiff, reduceIte]
       go_simp
       refine HKY.out.mono ?_
       rintro e W' ⟨rfl, h1⟩
       exact hK.out _ _ () (bt ((by repeat (first | exact Below.refl _ _ | assumption | refine Below.drew ?_ | refine below_drewN ?_ _ | refine Below.alloc ?_ (by simp <;> omega) _))) h1 : Below w9.heap.size w9 W') trivial rfl
      all_goals
       intro q hk1 hk2 g yy W1 hiv
       intro K hK
       first
        | (rw [if_pos (by rfl)]; simp only [overlay, upd, cond_true, cond_false, List.getD_cons_zero, List.getD_cons_succ, Nat.reduceEqDiff, reduceIte]
           go_simp
           exact hK.out _ _ _ hiv rfl rfl)
        | (rw [if_pos (by rfl)]; simp only [overlay, cond_true, cond_false]
           go_simp
           exact hK.out _ _ _ hiv rfl rfl)
        | (have hX : Below w9.heap.size w9 W1 := by
            have hq : q = 0 ∨ q = 1 ∨ 1 < q := by omega
            rcases hq with rfl | rfl | hq
            · have h : W1 = w9.drew := hiv
              rw [h]; exact (by repeat (first | exact Below.refl _ _ | assumption | refine Below.drew ?_ | refine below_drewN ?_ _ | refine Below.alloc ?_ (by simp <;> omega) _))
            · have h : W1 = w9.drew.alloc (.cells #[.int .u8 z.k, .int .i64 z.n, .int .u64 z.r, .string z.t, .int .u8 u.k, .int .i64 u.n, .int .u64 u.r, .string u.t] 47) := hiv
              rw [h]; exact (by repeat (first | exact Below.refl _ _ | assumption | refine Below.drew ?_ | refine below_drewN ?_ _ | refine Below.alloc ?_ (by simp <;> omega) _))
            · match q, hq, hiv with
              | q + 2, _, hiv => exact hiv
           obtain ⟨⟨l3, k0, k1, k2, k3⟩, ⟨l5, t0, t1, t2, t3, t4, _⟩, ⟨l6, y0, y1, y2, y3⟩, ⟨l7, z0, z1, z2, z3⟩⟩ := HC3.out W1 (bt HB9.out hX)
           obtain ⟨hrl, x0, x1, x2, x3⟩ := HXC.out W1 (bt HB9.out hX)
           rw [HKE.out] at t2
           first
            | (rw [if_pos (by rfl)]; simp only [overlay, upd, cond_true, cond_false, List.getD_cons_zero, List.getD_cons_succ, Nat.reduceEqDiff, reduceIte]
               go_simp
               exact hK.out _ _ _ hiv rfl rfl)
            | (rw [if_pos (by rfl)]; simp only [overlay, cond_true, cond_false]
               go_simp
               exact hK.out _ _ _ hiv rfl rfl))
    · have HZC := hd_ hc
      rw [decide_eq_false hc]
      clear hc
      go_wp2_with fail
      refine bodyPost_ret (v := .slice A9 PQ.length c9) (by simp [results, Tryz.results14, go_sem]) rfl ?_
      have hE : PQ = PS := by rw [← HPS.out, if_neg HLZ.out, if_neg HZC.out, HPE.out]
      have hl : PQ.length = PS.length := by rw [hE]
      have h2 : w9.ownsRow W3.heap.size 45 3 (.slice A9 PS.length c9) PS.length (cellsP PS) := by
       have h3 := HOQ.out
       rw [hE] at h3
       exact h3
      have h4 := bt HBW.out HB9.out
      first
       | exact ⟨A9, c9, W3.heap.size, by rw [hl], h2, h4⟩
       | exact ⟨A9, c9, by rw [hl], ⟨W3.heap.size, h2⟩, h4⟩
   case c14_8 =>
    intro g yy W1 hiv
    have hW1 : W1 = W5.drew := hiv
    subst hW1
    intro K hK
    rw [if_pos (by rfl)]; simp only [overlay, upd, cond_true, cond_false, List.getD_cons_zero, List.getD_cons_succ, Nat.reduceEqDiff, reduceIte]
    go_simp
    exact hK.out _ _ () rfl trivial (by rw [HHS.out]; rfl)
   case c14_9 =>
    intro g yy W1 hiv
    have hW1 : W1 = W5.drew.alloc (.cells #[.int .u8 u.k, .int .i64 u.n, .int .u64 u.r, .string u.t] 47) := hiv
    subst hW1
    intro K hK
    rw [if_pos (by rfl)]; simp only [overlay, upd, cond_true, cond_false, List.getD_cons_zero, List.getD_cons_succ, Nat.reduceEqDiff, reduceIte]
    go_simp
    refine HKY.out.mono ?_
    rintro e W' ⟨rfl, h1⟩
    exact hK.out _ _ () (bt ((by repeat (first | exact Below.refl _ _ | assumption | refine Below.drew ?_ | refine below_drewN ?_ _ | refine Below.alloc ?_ (by simp <;> omega) _))) h1 : Below W5.heap.size W5 W') trivial rfl
   all_goals
    intro q hk1 hk2 g yy W1 hiv
    intro K hK
    first
     | (rw [if_pos (by rfl)]; simp only [overlay, upd, cond_true, cond_false, List.getD_cons_zero, List.getD_cons_succ, Nat.reduceEqDiff, reduceIte]
        go_simp
        exact hK.out _ _ _ hiv rfl rfl)
     | (rw [if_pos (by rfl)]; simp only [overlay, cond_true, cond_false]
        go_simp
        exact hK.out _ _ _ hiv rfl rfl)
     | (have hX : Below W5.heap.size W5 W1 := by
         have hq : q = 0 ∨ q = 1 ∨ 1 < q := by omega
         rcases hq with rfl | rfl | hq
         · have h : W1 = W5.drew := hiv
           rw [h]; exact (by repeat (first | exact Below.refl _ _ | assumption | refine Below.drew ?_ | refine below_drewN ?_ _ | refine Below.alloc ?_ (by simp <;> omega) _))
         · have h : W1 = W5.drew.alloc (.cells #[.int .u8 u.k, .int .i64 u.n, .int .u64 u.r, .string u.t] 47) := hiv
           rw [h]; exact (by repeat (first | exact Below.refl _ _ | assumption | refine Below.drew ?_ | refine below_drewN ?_ _ | refine Below.alloc ?_ (by simp <;> omega) _))
         · match q, hq, hiv with
           | q + 2, _, hiv => exact hiv
        obtain ⟨⟨l3, k0, k1, k2, k3⟩, ⟨l5, t0, t1, t2, t3, t4, _⟩, ⟨l6, y0, y1, y2, y3⟩, ⟨l7, z0, z1, z2, z3⟩⟩ := HC3.out W1 (bt HBW5.out hX)
        obtain ⟨hrl, x0, x1, x2, x3⟩ := HXC.out W1 (bt HBW5.out hX)
        rw [HKE.out] at t2
        first
         | (rw [if_pos (by rfl)]; simp only [overlay, upd, cond_true, cond_false, List.getD_cons_zero, List.getD_cons_succ, Nat.reduceEqDiff, reduceIte]
            go_simp
            exact hK.out _ _ _ hiv rfl rfl)
         | (rw [if_pos (by rfl)]; simp only [overlay, cond_true, cond_false]
            go_simp
            exact hK.out _ _ _ hiv rfl rfl))
theorem refpairs_any (ts : List Ta) (A A0 A1 : Option Addr) (c d0 d1 : Nat) (kd tb : Int) (l0 l1 : List V) (w : World) (ht : TRow w A c ts) (h0 : VRow w A0 l0) (h1 : VRow w A1 l1) (hL : LayX w) (hf : chFit ts kd tb l0 l1 = true) :
  Calls Tryz.prog 14 #[.agg #[.slice A ts.length c], .agg #[.int .u8 kd, .int .i64 tb, .slice A0 l0.length d0, .slice A1 l1.length d1]] w fun r w' => ∃ A' c' b, r = .returned (.slice A' (pairsF ts kd tb l0 l1).length c') ∧ w'.ownsRow b 45 3 (.slice A' (pairsF ts kd tb l0 l1).length c') (pairsF ts kd tb l0 l1).length (cellsP (pairsF ts kd tb l0 l1)) ∧ Below w.heap.size w w' := by
 obtain ⟨j, ta, rfl, hj, hj12, hke, href, hl0, hl1, hne⟩ := fits_parts hf
 have e : pairsF ts kd j l0 l1 = pairsT j ta l0 l1 := by unfold pairsF; rw [if_pos hf, Int.toNat_natCast, hj]
 rw [e]
 exact refpairs_go ts A A0 A1 c d0 d1 kd j ta l0 l1 w ht h0 h1 hL hj hj12 hke href hl0 hl1 hne
end Go.Proofs.YtceoficoappkpaaGreatDoor
