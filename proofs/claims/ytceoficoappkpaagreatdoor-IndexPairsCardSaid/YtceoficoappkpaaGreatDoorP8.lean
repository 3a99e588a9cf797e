/- Texts joined by a tool: contracts and walks of this claim. -/
import Derived.Test.YtceoficoappkpaaGreatDoorP7
namespace Go.Proofs.YtceoficoappkpaaGreatDoor
open Go.RowKit Go.Shelf
attribute [local go_sem] Oper.semAt_some

def pairsT (tb : Int) (ta : Ta) (l0 l1 : List V) : List Pr :=
 (if refV ta l0 ≠ nulV ∧ refV ta l0 ≠ refV ta l1 then [⟨lkB 102 tb [refV ta l0, kyV ta l0], ⟨#[]⟩, true⟩] else []) ++
 (if l1.length = 0 then [⟨lkB 114 tb [kyV ta l0], ⟨#[]⟩, true⟩] else ⟨lkB 114 tb [kyV ta l1], ⟨(putRowL l1).toArray⟩, false⟩ :: (if refV ta l1 ≠ nulV ∧ refV ta l0 ≠ refV ta l1 then [⟨lkB 102 tb [refV ta l1, kyV ta l1], ⟨#[]⟩, false⟩] else []))
def pairsF (ts : List Ta) (kd tb : Int) (l0 l1 : List V) : List Pr := if chFit ts kd tb l0 l1 then (match ts[tb.toNat]? with | some ta => pairsT tb ta l0 l1 | none => []) else []
set_option maxRecDepth 100000 in
theorem eqlV26 (k n r : Int) (t : ByteArray) (k' n' r' : Int) (t' : ByteArray) (w : World) : (binOp .neq 47 (.agg #[.int .u8 k, .int .i64 n, .int .u64 r, .string t]) (.agg #[.int .u8 k', .int .i64 n', .int .u64 r', .string t'])).run Tryz.prog w = .ok (.bool (decide ((⟨k, n, r, t⟩ : V) ≠ ⟨k', n', r', t'⟩))) w := by
 by_cases h : (⟨k, n, r, t⟩ : V) = ⟨k', n', r', t'⟩
 · rw [decide_eq_false (by simpa using h)]
   injection h with h1 h2 h3 h4
   subst h1; subst h2; subst h3; subst h4
   go_simp
 · rw [decide_eq_true h]
   exact neqv_ne k n r k' n' r' t t' h w
theorem fit_may {c : Co} {v : V} (h : fitB c v = true) : mayB v = true := (Bool.and_eq_true_iff.1 h).1
theorem row_fits {ts : List Ta} {j : Nat} {ta : Ta} {l : List V} (hj : ts[j]? = some ta) (h : rowS ts j l = true) : rowB l = true ∧ ta.cs.length = l.length ∧ colsB ta = true ∧ j < 12 ∧ (ta.ref < 0 ∨ ta.ref < ta.cs.length) := by
 have hh : hasS ts j = true := by unfold rowS at h; exact (Bool.and_eq_true_iff.1 h).1
 obtain ⟨j2, t, hj2, hjl, htj, hcb, hsb⟩ := has_at hh
 obtain rfl : j = j2 := by omega
 obtain rfl : ta = t := Option.some.inj (hj.symm.trans htj)
 rw [rowS_at hh hj] at h
 unfold rowF at h
 obtain ⟨h1, h2⟩ := Bool.and_eq_true_iff.1 h
 have h1 := of_decide_eq_true h1
 have hcp := (cols_parts hcb).1
 have hsp := sch_parts hsb
 have hbl := (tab_parts (pre_at hsp.2.1 hjl hj)).2.1
 refine ⟨?_, h1, hcb, by omega, ?_⟩
 · unfold rowB
   rw [decide_eq_true (by omega), decide_eq_true (by omega)]
   simp only [Bool.and_true, Bool.true_and, List.all_eq_true]
   intro v hv
   obtain ⟨i, hi⟩ := List.getElem?_of_mem hv
   have hil : i < l.length := (List.getElem?_eq_some_iff.1 hi).1
   have h3 := List.all_eq_true.1 h2 i (List.mem_range.2 (by omega))
   unfold fitAt at h3
   rw [hi, List.getElem?_eq_getElem (by omega)] at h3
   exact fit_may h3
 · unfold belB rootB relB at hbl
   rcases Bool.or_eq_true_iff.1 hbl with h4 | h4
   · have := of_decide_eq_true h4; omega
   · have := of_decide_eq_true (Bool.and_eq_true_iff.1 h4).1; omega
theorem fits_parts {ts : List Ta} {kd tb : Int} {l0 l1 : List V} (h : chFit ts kd tb l0 l1 = true) : ∃ (j : Nat) (ta : Ta), tb = j ∧ ts[j]? = some ta ∧ j < 12 ∧ (0 ≤ ta.key ∧ ta.key < ta.cs.length) ∧ (ta.ref < 0 ∨ ta.ref < ta.cs.length) ∧ (l0.length = 0 ∨ (ta.cs.length = l0.length ∧ rowB l0 = true)) ∧ (l1.length = 0 ∨ (ta.cs.length = l1.length ∧ rowB l1 = true)) ∧ ¬ (l0.length = 0 ∧ l1.length = 0) := by
 unfold chFit at h
 obtain ⟨hk, h⟩ := Bool.and_eq_true_iff.1 h
 obtain ⟨h0, h⟩ := Bool.and_eq_true_iff.1 h
 obtain ⟨h1, -⟩ := Bool.and_eq_true_iff.1 h
 have hm : ∀ (m : Bool) (l : List V), mustB ts tb m l = true → (m = true ∧ rowS ts tb l = true) ∨ (m = false ∧ l.length = 0) := by
  intro m l h
  cases m
  · exact Or.inr ⟨rfl, of_decide_eq_true h⟩
  · exact Or.inl ⟨rfl, h⟩
 have hone : ∃ l, rowS ts tb l = true := by
  rcases hm _ _ h1 with ⟨-, h⟩ | ⟨e, -⟩
  · exact ⟨_, h⟩
  · rcases hm _ _ h0 with ⟨-, h⟩ | ⟨e2, -⟩
    · exact ⟨_, h⟩
    · simp at e e2
      omega
 obtain ⟨l, hl⟩ := hone
 obtain ⟨j, ta, rfl, hj, hke, -⟩ := row_tab (show true = mustB ts tb true l from hl.symm)
 obtain ⟨-, -, -, hj12, href⟩ := row_fits hj hl
 have hr : ∀ l, rowS ts j l = true → ta.cs.length = l.length ∧ rowB l = true := fun l h => ⟨(row_fits hj h).2.1, (row_fits hj h).1⟩
 refine ⟨j, ta, rfl, hj, hj12, hke, href, ?_, ?_, ?_⟩
 · rcases hm _ _ h0 with ⟨-, h⟩ | ⟨-, h⟩
   · exact Or.inr (hr _ h)
   · exact Or.inl h
 · rcases hm _ _ h1 with ⟨-, h⟩ | ⟨-, h⟩
   · exact Or.inr (hr _ h)
   · exact Or.inl h
 · rintro ⟨e0, e1⟩
   rcases hm _ _ h0 with ⟨-, h⟩ | ⟨m0, -⟩
   · have := hr _ h; omega
   · rcases hm _ _ h1 with ⟨-, h⟩ | ⟨m1, -⟩
     · have := hr _ h; omega
     · simp at m0 m1
       omega
theorem ky_may {ta : Ta} {l : List V} (hk : 0 ≤ ta.key ∧ ta.key < ta.cs.length) (hl : ta.cs.length = l.length) : kyV ta l ∈ l := by
 unfold kyV
 rw [List.getElem?_eq_getElem (by omega)]
 exact List.getElem_mem _
theorem ref_may {ta : Ta} {l : List V} (hr : ta.ref < 0 ∨ ta.ref < ta.cs.length) (hl : l.length = 0 ∨ ta.cs.length = l.length) : refV ta l = nulV ∨ refV ta l ∈ l := by
 unfold refV
 by_cases h : l.length = 0 ∨ ta.ref < 0
 · rw [if_pos h]; exact Or.inl rfl
 · rw [if_neg h, List.getElem?_eq_getElem (by omega)]
   exact Or.inr (List.getElem_mem _)
theorem nulV_wf : nulV.wf := by refine ⟨?_, ?_, ?_, ?_, ?_, ?_, ?_⟩ <;> decide
theorem nulV_may : mayB nulV = true := by kernel_rfl
theorem lk_one {j : Nat} (hj : j < 12) {x : V} (h : mayB x = true) : lkOk j [x] = true := by
 unfold lkOk keyOk rowB
 rw [decide_eq_true (by omega), decide_eq_true (by omega)]
 simp [h]
theorem lk_two {j : Nat} (hj : j < 12) {x y : V} (h : mayB x = true) (h2 : mayB y = true) : lkOk j [x, y] = true := by
 unfold lkOk keyOk rowB
 rw [decide_eq_true (by omega), decide_eq_true (by omega)]
 simp [h, h2]
set_option maxRecDepth 100000 in
set_option maxHeartbeats 3200000 in
set_option linter.unusedSimpArgs false in
theorem pairs_go (ts : List Ta) (A A0 A1 : Option Addr) (c d0 d1 : Nat) (kd : Int) (j : Nat) (ta : Ta) (l0 l1 : List V) (w : World) (ht : TRow w A c ts) (h0 : VRow w A0 l0) (h1 : VRow w A1 l1) (hL : LayX w) (hT : Tabs w)
  (hj : ts[j]? = some ta) (hj12 : j < 12) (hfi : chFit ts kd j l0 l1 = true) (hke : 0 ≤ ta.key ∧ ta.key < ta.cs.length) (href : ta.ref < 0 ∨ ta.ref < ta.cs.length) (hl0 : l0.length = 0 ∨ (ta.cs.length = l0.length ∧ rowB l0 = true)) (hl1 : l1.length = 0 ∨ (ta.cs.length = l1.length ∧ rowB l1 = true)) (hne : ¬ (l0.length = 0 ∧ l1.length = 0)) :
  Calls Tryz.prog 10 #[.agg #[.slice A ts.length c], .agg #[.int .u8 kd, .int .i64 j, .slice A0 l0.length d0, .slice A1 l1.length d1]] w fun r w' => ∃ A' c', r = .returned (.tuple #[.slice A' (pairsT j ta l0 l1).length c', .int .i64 0]) ∧ w'.ownsRow w.heap.size 45 3 (.slice A' (pairsT j ta l0 l1).length c') (pairsT j ta l0 l1).length (cellsP (pairsT j ta l0 l1)) ∧ Below w.heap.size w w' := by
 have HT := hd_ (fun (W : World) (hW : Below w.heap.size w W) => ht.ext hW)
 have hjl : j < ts.length := (List.getElem?_eq_some_iff.1 hj).1
 have hts := ht.2.1
 have HJ := hd_ hj
 have HFI := hd_ (fun (W : World) (hW : Below w.heap.size w W) => chfits_any ts A A0 A1 c d0 d1 kd j l0 l1 W (ht.ext hW) (h0.ext hW) (h1.ext hW) (hT.ext hW))
 rw [hfi] at HFI
 have hlen0 : l0.length = 0 ∨ ta.cs.length = l0.length := by omega
 have hlen1 : l1.length = 0 ∨ ta.cs.length = l1.length := by omega
 have HOF0 := hd_ (fun (W : World) (hW : Below w.heap.size w W) (b6 : Nat) (h6 : Blk W b6 #[.string ta.nm, .slice ta.A ta.cs.length ta.c, .int .i64 ta.key, .int .i64 ta.ref, .int .i64 ta.par] 73) => of_any ta b6 A0 d0 l0 W h6 (h0.ext hW) hlen0 hke href)
 have HOF1 := hd_ (fun (W : World) (hW : Below w.heap.size w W) (b6 : Nat) (h6 : Blk W b6 #[.string ta.nm, .slice ta.A ta.cs.length ta.c, .int .i64 ta.key, .int .i64 ta.ref, .int .i64 ta.par] 73) => of_any ta b6 A1 d1 l1 W h6 (h1.ext hW) hlen1 hke href)
 have hmay0 : ∀ v ∈ l0, mayB v = true := fun v hv => by
  rcases hl0 with h | h
  · rw [List.eq_nil_of_length_eq_zero h] at hv; cases hv
  · exact (row_may h.2).2.2 v hv
 have hmay1 : ∀ v ∈ l1, mayB v = true := fun v hv => by
  rcases hl1 with h | h
  · rw [List.eq_nil_of_length_eq_zero h] at hv; cases hv
  · exact (row_may h.2).2.2 v hv
 have hk0 : l0.length ≠ 0 → kyV ta l0 ∈ l0 := fun h => ky_may hke (by omega)
 have hk1 : l1.length ≠ 0 → kyV ta l1 ∈ l1 := fun h => ky_may hke (by omega)
 have hr0 := ref_may href hlen0
 have hr1 := ref_may href hlen1
 have hkn0 : l0.length = 0 → kyV ta l0 = nulV := fun h => by rw [List.eq_nil_of_length_eq_zero h]; rfl
 have hkn1 : l1.length = 0 → kyV ta l1 = nulV := fun h => by rw [List.eq_nil_of_length_eq_zero h]; rfl
 have hrn0 : l0.length = 0 → refV ta l0 = nulV := fun h => by unfold refV; rw [if_pos (Or.inl h)]
 have hrn1 : l1.length = 0 → refV ta l1 = nulV := fun h => by unfold refV; rw [if_pos (Or.inl h)]
 have HWF : Hid ((kyV ta l0).wf ∧ (refV ta l0).wf ∧ (kyV ta l1).wf ∧ (refV ta l1).wf) := by
  refine ⟨?_, ?_, ?_, ?_⟩
  · by_cases h : l0.length = 0
    · rw [hkn0 h]; exact nulV_wf
    · exact h0.1 _ (hk0 h)
  · rcases hr0 with h | h
    · rw [h]; exact nulV_wf
    · exact h0.1 _ h
  · by_cases h : l1.length = 0
    · rw [hkn1 h]; exact nulV_wf
    · exact h1.1 _ (hk1 h)
  · rcases hr1 with h | h
    · rw [h]; exact nulV_wf
    · exact h1.1 _ h
 have HOK : Hid ((refV ta l0 ≠ nulV → lkOk j [refV ta l0, kyV ta l0] = true) ∧ (l1.length = 0 → lkOk j [kyV ta l0] = true) ∧ (l1.length ≠ 0 → lkOk j [kyV ta l1] = true) ∧ (refV ta l1 ≠ nulV → lkOk j [refV ta l1, kyV ta l1] = true)) := by
  refine ⟨fun h => ?_, fun h => ?_, fun h => ?_, fun h => ?_⟩
  · have hz : l0.length ≠ 0 := fun e => h (hrn0 e)
    exact lk_two hj12 (hmay0 _ (hr0.resolve_left h)) (hmay0 _ (hk0 hz))
  · exact lk_one hj12 (hmay0 _ (hk0 (by omega)))
  · exact lk_one hj12 (hmay1 _ (hk1 h))
  · have hz : l1.length ≠ 0 := fun e => h (hrn1 e)
    exact lk_two hj12 (hmay1 _ (hr1.resolve_left h)) (hmay1 _ (hk1 hz))
 have HPR := hd_ (fun (hz : l1.length ≠ 0) (W : World) (hW : Below w.heap.size w W) => putrow_ok l1 A1 d1 W (h1.ext hW) (hT.ext hW) (by rcases hl1 with h | h; exact absurd h hz; exact h.2))
 have HLX := hd_ (fun (W : World) (hW : Below w.heap.size w W) => hL.ext hW)
 unfold pairsT
 clear ht h0 h1 hT hj hke href hl0 hl1 hne hfi hlen0 hlen1 hmay0 hmay1 hk0 hk1 hr0 hr1 hkn0 hkn1 hrn0 hrn1 hL
 generalize (⟨(putRowL l1).toArray⟩ : ByteArray) = TX at HPR ⊢
 generalize kyV ta l0 = x at *
 generalize refV ta l0 = y at *
 generalize kyV ta l1 = u at *
 generalize refV ta l1 = z at *
 unfold V.agg at HOF0 HOF1
 obtain ⟨P1, hP1⟩ : ∃ P1, P1 = (if y ≠ nulV ∧ y ≠ z then [(⟨lkB 102 j [y, x], ⟨#[]⟩, true⟩ : Pr)] else []) := ⟨_, rfl⟩
 generalize hPS : (if y ≠ nulV ∧ y ≠ z then [(⟨lkB 102 j [y, x], ⟨#[]⟩, true⟩ : Pr)] else []) ++ (if l1.length = 0 then [⟨lkB 114 j [x], ⟨#[]⟩, true⟩] else ⟨lkB 114 j [u], TX, false⟩ :: (if z ≠ nulV ∧ y ≠ z then [⟨lkB 102 j [z, u], ⟨#[]⟩, false⟩] else [])) = PS
 rw [← hP1] at hPS
 have HP1e := hd_ hP1.symm
 have HPS := hd_ hPS
 have hP1l : P1.length ≤ 1 := by rw [hP1]; split <;> simp
 clear hP1 hPS
 go_enter Tryz.func10, Tryz.ntmps10
 go_upto_region 1 with fail
 have b2 : Blk ((w.alloc (.cells #[.slice A ts.length c] 24)).alloc (.cells #[.int .u8 kd, .int .i64 j, .slice A0 l0.length d0, .slice A1 l1.length d1] 27)) w.heap.size #[.slice A ts.length c] 24 := (by repeat (first | exact Blk.at (by simp) | assumption | refine Blk.drew ?_ | refine Blk.old ?_ _))
 have b3 : Blk ((w.alloc (.cells #[.slice A ts.length c] 24)).alloc (.cells #[.int .u8 kd, .int .i64 j, .slice A0 l0.length d0, .slice A1 l1.length d1] 27)) (w.heap.size + 1) #[.int .u8 kd, .int .i64 j, .slice A0 l0.length d0, .slice A1 l1.length d1] 27 := (by repeat (first | exact Blk.at (by simp) | assumption | refine Blk.drew ?_ | refine Blk.old ?_ _))
 have hb : Below w.heap.size w ((w.alloc (.cells #[.slice A ts.length c] 24)).alloc (.cells #[.int .u8 kd, .int .i64 j, .slice A0 l0.length d0, .slice A1 l1.length d1] 27)) := (by repeat (first | exact Below.refl _ _ | assumption | refine Below.drew ?_ | refine below_drewN ?_ _ | refine Below.alloc ?_ (by simp <;> omega) _))
 generalize ((w.alloc (.cells #[.slice A ts.length c] 24)).alloc (.cells #[.int .u8 kd, .int .i64 j, .slice A0 l0.length d0, .slice A1 l1.length d1] 27)) = W at b2 b3 hb ⊢
 obtain ⟨q2, hq2⟩ : ∃ b, b = w.heap.size := ⟨_, rfl⟩
 obtain ⟨q3, hq3⟩ : ∃ b, b = w.heap.size + 1 := ⟨_, rfl⟩
 rw [← hq3] at b3 ⊢
 rw [← hq2] at b2 ⊢
 have HQ := hd_ (And.intro hq2 hq3)
 clear hq2 hq3
 have HB2 := hd_ b2
 have HB3 := hd_ b3
 have HB := hd_ hb
 obtain ⟨l3, k0, k1, k2, k3, kf⟩ := blk4f b3
 obtain ⟨l2, e2⟩ : q2 < W.heap.size ∧ W.cell? ⟨q2, 0, none⟩ = some (.slice A ts.length c) := ⟨b2.lt, b2.cell 0⟩
 clear b2 b3 hb
 go_wp2_with fail
 refine (HFI.out W HB.out).mono ?_
 rintro r w1 ⟨rfl, hb1⟩
 clear l3 k0 k1 k2 k3 kf l2 e2
 obtain ⟨l3, k0, k1, k2, k3, kf⟩ := blk4f (HB3.out.ext hb1)
 obtain ⟨l2, e2⟩ : q2 < w1.heap.size ∧ w1.cell? ⟨q2, 0, none⟩ = some (.slice A ts.length c) := ⟨(HB2.out.ext hb1).lt, (HB2.out.ext hb1).cell 0⟩
 have hb2 := bt HB.out hb1
 have hall := HT.out w1 hb2
 obtain ⟨tb1, off1, rfl, hlt, hcs⟩ := hall.2.2.2 (by intro e; rw [e] at hjl; simp at hjl)
 obtain ⟨t0, t1, t2, t3, t4⟩ := hcs j ta HJ.out
 have HB1 := hd_ hb1
 have HX1 := hd_ hb2
 clear hb1 hb2 hall hcs
 have hjI : (j : Int) < ts.length := by omega
 go_upto_region 4 with fail
 have b6 : Blk (w1.alloc (.cells #[.string ta.nm, .slice ta.A ta.cs.length ta.c, .int .i64 ta.key, .int .i64 ta.ref, .int .i64 ta.par] 73)) w1.heap.size #[.string ta.nm, .slice ta.A ta.cs.length ta.c, .int .i64 ta.key, .int .i64 ta.ref, .int .i64 ta.par] 73 := Blk.new _ _ _
 have hb3 : Below W.heap.size W (w1.alloc (.cells #[.string ta.nm, .slice ta.A ta.cs.length ta.c, .int .i64 ta.key, .int .i64 ta.ref, .int .i64 ta.par] 73)) := bt HB1.out ((by repeat (first | exact Below.refl _ _ | assumption | refine Below.drew ?_ | refine below_drewN ?_ _ | refine Below.alloc ?_ (by simp <;> omega) _)))
 generalize (w1.alloc (.cells #[.string ta.nm, .slice ta.A ta.cs.length ta.c, .int .i64 ta.key, .int .i64 ta.ref, .int .i64 ta.par] 73)) = W2 at b6 hb3 ⊢
 generalize w1.heap.size = q6 at b6 ⊢
 clear l3 k0 k1 k2 k3 kf l2 e2 t0 t1 t2 t3 t4 HFI HB1 HX1 w1 hlt
 obtain ⟨l3, k0, k1, k2, k3, kf⟩ := blk4f (HB3.out.ext hb3)
 have HB6 := hd_ b6
 have HX2 := hd_ hb3
 clear b6 hb3
 go_upto_region 6 with fail
 go_wp2_with fail
 refine (HOF0.out _ (bt HB.out HX2.out) _ HB6.out).mono ?_
 rintro r w1 ⟨rfl, hb1⟩
 have hb2 := bt HX2.out hb1
 clear l3 k0 k1 k2 k3 kf
 obtain ⟨l3, k0, k1, k2, k3, kf⟩ := blk4f (HB3.out.ext hb2)
 have HX3 := hd_ hb2
 have HB6' := hd_ (HB6.out.ext hb1)
 clear hb1 hb2 HB6
 go_upto_region 7 with fail
 have kA : Blk ((w1.alloc (.cells #[.int .u8 x.k, .int .i64 x.n, .int .u64 x.r, .string x.t] 47)).alloc (.cells #[.int .u8 y.k, .int .i64 y.n, .int .u64 y.r, .string y.t] 47)) w1.heap.size #[.int .u8 x.k, .int .i64 x.n, .int .u64 x.r, .string x.t] 47 := Blk.old (Blk.new _ _ _) _
 have kB : Blk ((w1.alloc (.cells #[.int .u8 x.k, .int .i64 x.n, .int .u64 x.r, .string x.t] 47)).alloc (.cells #[.int .u8 y.k, .int .i64 y.n, .int .u64 y.r, .string y.t] 47)) (w1.heap.size + 1) #[.int .u8 y.k, .int .i64 y.n, .int .u64 y.r, .string y.t] 47 := Blk.at (by simp)
 have hbn : Below w1.heap.size w1 ((w1.alloc (.cells #[.int .u8 x.k, .int .i64 x.n, .int .u64 x.r, .string x.t] 47)).alloc (.cells #[.int .u8 y.k, .int .i64 y.n, .int .u64 y.r, .string y.t] 47)) := (by repeat (first | exact Below.refl _ _ | assumption | refine Below.drew ?_ | refine below_drewN ?_ _ | refine Below.alloc ?_ (by simp <;> omega) _))
 generalize ((w1.alloc (.cells #[.int .u8 x.k, .int .i64 x.n, .int .u64 x.r, .string x.t] 47)).alloc (.cells #[.int .u8 y.k, .int .i64 y.n, .int .u64 y.r, .string y.t] 47)) = W3 at kA kB hbn ⊢
 obtain ⟨q10, hq10⟩ : ∃ b, b = w1.heap.size := ⟨_, rfl⟩
 obtain ⟨q11, hq11⟩ : ∃ b, b = w1.heap.size + 1 := ⟨_, rfl⟩
 rw [← hq11] at kB ⊢
 rw [← hq10] at kA ⊢
 clear hq10 hq11
 have hb3 := bt HX3.out hbn
 clear l3 k0 k1 k2 k3 kf
 obtain ⟨l3, k0, k1, k2, k3, kf⟩ := blk4f (HB3.out.ext hb3)
 have HB6 := hd_ (HB6'.out.ext hbn)
 have HB10 := hd_ kA
 have HB11 := hd_ kB
 have HX4 := hd_ hb3
 clear kA kB hbn hb3 HB6' HX2 HX3 w1
 go_wp2_with fail
 refine (HOF1.out _ (bt HB.out HX4.out) _ HB6.out).mono ?_
 rintro r w1 ⟨rfl, hb1⟩
 have hb2 := bt HX4.out hb1
 clear l3 k0 k1 k2 k3 kf
 obtain ⟨l3, k0, k1, k2, k3, kf⟩ := blk4f (HB3.out.ext hb2)
 have HX5 := hd_ hb2
 have HB10' := hd_ (HB10.out.ext hb1)
 have HB11' := hd_ (HB11.out.ext hb1)
 clear hb1 hb2 HB10 HB11 HB6 HOF0 HOF1 HX4
 go_upto_region 8 with fail
 have kA : Blk ((w1.alloc (.cells #[.int .u8 u.k, .int .i64 u.n, .int .u64 u.r, .string u.t] 47)).alloc (.cells #[.int .u8 z.k, .int .i64 z.n, .int .u64 z.r, .string z.t] 47)) w1.heap.size #[.int .u8 u.k, .int .i64 u.n, .int .u64 u.r, .string u.t] 47 := Blk.old (Blk.new _ _ _) _
 have kB : Blk ((w1.alloc (.cells #[.int .u8 u.k, .int .i64 u.n, .int .u64 u.r, .string u.t] 47)).alloc (.cells #[.int .u8 z.k, .int .i64 z.n, .int .u64 z.r, .string z.t] 47)) (w1.heap.size + 1) #[.int .u8 z.k, .int .i64 z.n, .int .u64 z.r, .string z.t] 47 := Blk.at (by simp)
 have hbn : Below w1.heap.size w1 ((w1.alloc (.cells #[.int .u8 u.k, .int .i64 u.n, .int .u64 u.r, .string u.t] 47)).alloc (.cells #[.int .u8 z.k, .int .i64 z.n, .int .u64 z.r, .string z.t] 47)) := (by repeat (first | exact Below.refl _ _ | assumption | refine Below.drew ?_ | refine below_drewN ?_ _ | refine Below.alloc ?_ (by simp <;> omega) _))
 generalize ((w1.alloc (.cells #[.int .u8 u.k, .int .i64 u.n, .int .u64 u.r, .string u.t] 47)).alloc (.cells #[.int .u8 z.k, .int .i64 z.n, .int .u64 z.r, .string z.t] 47)) = W4 at kA kB hbn ⊢
 obtain ⟨q12, hq12⟩ : ∃ b, b = w1.heap.size := ⟨_, rfl⟩
 obtain ⟨q13, hq13⟩ : ∃ b, b = w1.heap.size + 1 := ⟨_, rfl⟩
 rw [← hq13] at kB ⊢
 rw [← hq12] at kA ⊢
 clear hq12 hq13
 have hb3 := bt HX5.out hbn
 clear l3 k0 k1 k2 k3 kf
 have HB10 := hd_ (HB10'.out.ext hbn)
 have HB11 := hd_ (HB11'.out.ext hbn)
 have HB12 := hd_ kA
 have HB13 := hd_ kB
 have HX6 := hd_ hb3
 clear kA kB hbn hb3 HB10' HB11' HX5 w1
 go_upto_region 12 with fail
 have k14 : Blk (((W4.alloc (.cells #[.slice none 0 0] 36)).alloc (.cells #[.func (.func 42) #[] #[.pointer (some ⟨W4.heap.size, 0, none⟩)]] 90)).alloc (.cells #[.string ⟨#[]⟩, .string ⟨#[]⟩, .bool true] 45)) W4.heap.size #[.slice none 0 0] 36 := Blk.old (Blk.old (Blk.new _ _ _) _) _
 have k15 : Blk (((W4.alloc (.cells #[.slice none 0 0] 36)).alloc (.cells #[.func (.func 42) #[] #[.pointer (some ⟨W4.heap.size, 0, none⟩)]] 90)).alloc (.cells #[.string ⟨#[]⟩, .string ⟨#[]⟩, .bool true] 45)) (W4.heap.size + 1) #[.func (.func 42) #[] #[.pointer (some ⟨W4.heap.size, 0, none⟩)]] 90 := Blk.old (Blk.at (by simp)) _
 have k17 : Blk (((W4.alloc (.cells #[.slice none 0 0] 36)).alloc (.cells #[.func (.func 42) #[] #[.pointer (some ⟨W4.heap.size, 0, none⟩)]] 90)).alloc (.cells #[.string ⟨#[]⟩, .string ⟨#[]⟩, .bool true] 45)) (W4.heap.size + 2) #[.string ⟨#[]⟩, .string ⟨#[]⟩, .bool true] 45 := Blk.at (by simp)
 have hbn : Below W4.heap.size W4 (((W4.alloc (.cells #[.slice none 0 0] 36)).alloc (.cells #[.func (.func 42) #[] #[.pointer (some ⟨W4.heap.size, 0, none⟩)]] 90)).alloc (.cells #[.string ⟨#[]⟩, .string ⟨#[]⟩, .bool true] 45)) := (by repeat (first | exact Below.refl _ _ | assumption | refine Below.drew ?_ | refine below_drewN ?_ _ | refine Below.alloc ?_ (by simp <;> omega) _))
 have hsz : (((W4.alloc (.cells #[.slice none 0 0] 36)).alloc (.cells #[.func (.func 42) #[] #[.pointer (some ⟨W4.heap.size, 0, none⟩)]] 90)).alloc (.cells #[.string ⟨#[]⟩, .string ⟨#[]⟩, .bool true] 45)).heap.size = W4.heap.size + 3 := by simp
 generalize (((W4.alloc (.cells #[.slice none 0 0] 36)).alloc (.cells #[.func (.func 42) #[] #[.pointer (some ⟨W4.heap.size, 0, none⟩)]] 90)).alloc (.cells #[.string ⟨#[]⟩, .string ⟨#[]⟩, .bool true] 45)) = W5 at k14 k15 k17 hbn hsz ⊢
 obtain ⟨q14, h14⟩ : ∃ b, b = W4.heap.size := ⟨_, rfl⟩
 obtain ⟨q15, h15⟩ : ∃ b, b = W4.heap.size + 1 := ⟨_, rfl⟩
 obtain ⟨q17, h17⟩ : ∃ b, b = W4.heap.size + 2 := ⟨_, rfl⟩
 have hw14 : w.heap.size ≤ q14 := by rw [h14]; exact Nat.le_trans HB.out.size HX6.out.size
 have HC : Hid (∀ X, KpX (q14 + 3) q14 W5 X → Below w.heap.size w X ∧ Blk X q3 (chC kd j A0 l0.length d0 A1 l1.length d1) 27 ∧ Blk X q10 #[.int .u8 x.k, .int .i64 x.n, .int .u64 x.r, .string x.t] 47 ∧ Blk X q11 #[.int .u8 y.k, .int .i64 y.n, .int .u64 y.r, .string y.t] 47 ∧ Blk X q12 #[.int .u8 u.k, .int .i64 u.n, .int .u64 u.r, .string u.t] 47 ∧ Blk X q13 #[.int .u8 z.k, .int .i64 z.n, .int .u64 z.r, .string z.t] 47 ∧ Blk X q15 #[.func (.func 42) #[] #[.pointer (some ⟨q14, 0, none⟩)]] 90 ∧ Blk X q17 #[.string ⟨#[]⟩, .string ⟨#[]⟩, .bool true] 45) := by
  intro X hX
  have g3 := HB3.out.ext HX6.out
  have g : ∀ b cs t, Blk W4 b cs t → Blk X b cs t := fun b cs t hb => hX.blk (hb.ext hbn) (by have := hb.lt; omega) (by have := hb.lt; omega)
  refine ⟨KpX.blw (bt (bt HB.out HX6.out) hbn) hX hw14 (by omega), g _ _ _ g3, g _ _ _ HB10.out, g _ _ _ HB11.out, g _ _ _ HB12.out, g _ _ _ HB13.out, ?_, ?_⟩
  · rw [h15]; rw [← h14] at k15 ⊢; exact hX.blk k15 (by omega) (by omega)
  · rw [h17]; rw [← h14] at k17 ⊢; exact hX.blk k17 (by omega) (by omega)
 have HP0 : Hid (PsB W5 (q14 + 3) q14 []) := ⟨⟨none, 0, by rw [h14]; exact k14, World.ownsRow_nil _ _ _ _⟩, by omega, by omega⟩
 have HS5 : Hid (W5.heap.size = q14 + 3) := by show _ = _; omega
 have HW14 := hd_ hw14
 rw [← h17, ← h15, ← h14]
 clear k14 k15 k17 hbn hsz h14 h15 h17 hw14 HB10 HB11 HB12 HB13 HX6 HB3 HB2 HB HQ
 go_cut [57] (fun v wx => v = .bool (decide (y ≠ nulV ∧ y ≠ z)) ∧ Hid (Below W5.heap.size W5 wx))
 case first =>
  have hq1 := eqlV26 y.k y.n y.r y.t 0 0 0 ⟨#[]⟩
  have hq2 := eqlV26 y.k y.n y.r y.t z.k z.n z.r z.t
  have hcc : ∃ cc, cc = decide ((⟨y.k, y.n, y.r, y.t⟩ : V) ≠ ⟨z.k, z.n, z.r, z.t⟩) := ⟨_, rfl⟩
  obtain ⟨cc, hcc⟩ := hcc
  rw [← hcc] at hq2
  have HCC := hd_ hcc
  clear hcc
  let Iv : Nat → Unit → World → Prop := fun k _ W => match k with
   | 0 => W = W5.drew
   | _ => Below W5.heap.size W5 W
  by_cases hy : y = nulV
  · have HY := hd_ hy
    have e : decide ((⟨y.k, y.n, y.r, y.t⟩ : V) ≠ ⟨0, 0, 0, ⟨#[]⟩⟩) = false := by rw [hy]; exact decide_eq_false (fun h => h rfl)
    rw [e] at hq1
    clear e hy
    refine region_phase (Iv) (fun _ _ _ => True) (()) (fun _ => [.agg #[.int .u8 y.k, .int .i64 y.n, .int .u64 y.r, .string y.t], .agg #[.int .u8 0, .int .i64 0, .int .u64 0, .string ⟨#[]⟩], .bool false, .bool false, undef, undef, undef, .bool false]) [1] [(0, 1), (0, 1), (1, 1), (1, 1), (1, 1), (1, 1), (1, 1), (1, 1)] [false, false, false, false, false, false, false, false, false, false, false, false, false, false, false, false, false, false, false, false, false, false, false, false, false, false, false, false, false, false, false, false, false, false, false, false, false, false, false, false, false, false, false, false, false, false, false, false, false, false, true, true, true, true, true, true, true, true, false, false, false, false, false, false, false, false, false, false, false, false, false, false, false, false, false, false, false, false, false, false, false, false, false, false, false, false, false, false, false, false, false, false, false, false, false, false, false, false, false, false, false, false, false, false, false] [50, 51, 52, 53, 54, 55, 56, 57] [7] rfl (fun _ => rfl) (fun _ _ _ _ _ _ _ _ _ => rfl) (by kernel_rfl) (by kernel_rfl) (by kernel_rfl) (by decide) (by kernel_rfl) (by kernel_rfl) (by kernel_rfl) (by kernel_rfl) (by kernel_rfl) ⟨PhStep.pure rfl ?_, PhStep.chain 0 rfl ?c12_1, PhStep.pure rfl ?_, PhStep.pure rfl ?_, PhStep.pure rfl ?_, PhStep.pure rfl ?_, PhStep.pure rfl ?_, PhStep.pure rfl ?_, trivial⟩ ?done12
    case done12 =>
     intro g yy W hiv
     have hW : Below W5.heap.size W5 W := hiv
     simp only [StepGoal, List.map_cons, List.map_nil, overlay, upd, cond_true, cond_false, List.getD_cons_zero, List.getD_cons_succ, Nat.zero_add, Nat.reduceAdd, Nat.reduceEqDiff, reduceIte]
     clear hiv Iv hq1 hq2
     have HV : Hid (decide (y ≠ nulV ∧ y ≠ z) = false) := decide_eq_false (fun h => h.1 HY.out)
     go_wp2_with fail
     go_meet
     exact ⟨by rw [HV.out], hW⟩
    case c12_1 =>
     intro g yy W1 hiv
     have hW1 : W1 = W5.drew := hiv
     subst hW1
     intro K hK
     rw [if_pos (by rfl)]; simp only [overlay, cond_true, cond_false]
     go_simp
     refine (null_any W5.drew).mono ?_
     rintro e W' ⟨rfl, h1⟩
     exact hK.out _ _ () (⟨h1.os, h1.tape, h1.output, h1.size, h1.block⟩ : Below W5.heap.size W5 W') trivial rfl
    all_goals
     intro q hk1 hk2 g yy W1 hiv
     intro K hK
     first
      | (rw [if_neg (by exact Bool.false_ne_true)]
         exact hK.out _ _ _ hiv rfl rfl)
      | (rw [if_pos (by rfl)]; simp only [overlay, upd, cond_true, cond_false, List.getD_cons_zero, List.getD_cons_succ, Nat.reduceEqDiff, reduceIte]
         go_simp
         exact hK.out _ _ _ hiv rfl rfl)
      | (rw [if_pos (by rfl)]; simp only [overlay, cond_true, cond_false]
         go_simp
         exact hK.out _ _ _ hiv rfl rfl)
      | (have hX : Below W5.heap.size W5 W1 := by
          have hq : q = 0 ∨ 0 < q := by omega
          rcases hq with rfl | hq
          · have h : W1 = W5.drew := hiv
            rw [h]; exact (by repeat (first | exact Below.refl _ _ | assumption | refine Below.drew ?_ | refine below_drewN ?_ _ | refine Below.alloc ?_ (by simp <;> omega) _))
          · match q, hq, hiv with
            | q + 1, _, hiv => exact hiv
         obtain ⟨-, -, -, b11, -, b13, -, -⟩ := HC.out W1 (KpX.of_below hX (by rw [HS5.out]; exact Nat.le_refl _))
         obtain ⟨l11, y0, y1, y2, y3, _⟩ := blk4f b11
         obtain ⟨l13, z0, z1, z2, z3, _⟩ := blk4f b13
         clear b11 b13
         rw [if_pos (by rfl)]; simp only [overlay, upd, cond_true, cond_false, List.getD_cons_zero, List.getD_cons_succ, Nat.reduceEqDiff, reduceIte]
         go_simp
         exact hK.out _ _ _ hiv rfl rfl)
  · have HY := hd_ hy
    have e : decide ((⟨y.k, y.n, y.r, y.t⟩ : V) ≠ ⟨0, 0, 0, ⟨#[]⟩⟩) = true := decide_eq_true hy
    rw [e] at hq1
    clear e hy
    refine region_phase (Iv) (fun _ _ _ => True) (()) (fun _ => [.agg #[.int .u8 y.k, .int .i64 y.n, .int .u64 y.r, .string y.t], .agg #[.int .u8 0, .int .i64 0, .int .u64 0, .string ⟨#[]⟩], .bool true, .bool true, .agg #[.int .u8 y.k, .int .i64 y.n, .int .u64 y.r, .string y.t], .agg #[.int .u8 z.k, .int .i64 z.n, .int .u64 z.r, .string z.t], .bool cc, .bool cc]) [1] [(0, 1), (0, 1), (1, 1), (1, 1), (1, 1), (1, 1), (1, 1), (1, 1)] [false, false, false, false, false, false, false, false, false, false, false, false, false, false, false, false, false, false, false, false, false, false, false, false, false, false, false, false, false, false, false, false, false, false, false, false, false, false, false, false, false, false, false, false, false, false, false, false, false, false, true, true, true, true, true, true, true, true, false, false, false, false, false, false, false, false, false, false, false, false, false, false, false, false, false, false, false, false, false, false, false, false, false, false, false, false, false, false, false, false, false, false, false, false, false, false, false, false, false, false, false, false, false, false, false] [50, 51, 52, 53, 54, 55, 56, 57] [7] rfl (fun _ => rfl) (fun _ _ _ _ _ _ _ _ _ => rfl) (by kernel_rfl) (by kernel_rfl) (by kernel_rfl) (by decide) (by kernel_rfl) (by kernel_rfl) (by kernel_rfl) (by kernel_rfl) (by kernel_rfl) ⟨PhStep.pure rfl ?_, PhStep.chain 0 rfl ?c12_1, PhStep.pure rfl ?_, PhStep.pure rfl ?_, PhStep.pure rfl ?_, PhStep.pure rfl ?_, PhStep.pure rfl ?_, PhStep.pure rfl ?_, trivial⟩ ?done12
    case done12 =>
     intro g yy W hiv
     have hW : Below W5.heap.size W5 W := hiv
     simp only [StepGoal, List.map_cons, List.map_nil, overlay, upd, cond_true, cond_false, List.getD_cons_zero, List.getD_cons_succ, Nat.zero_add, Nat.reduceAdd, Nat.reduceEqDiff, reduceIte]
     clear hiv Iv hq1 hq2
     have HV : Hid (decide (y ≠ nulV ∧ y ≠ z) = cc) := by
      show _ = _
      rw [HCC.out]
      by_cases h : y = z
      · rw [decide_eq_false (fun h' => h'.2 h), decide_eq_false (fun h' => h' h)]
      · rw [decide_eq_true (show y ≠ nulV ∧ y ≠ z from ⟨HY.out, h⟩)]
        exact (decide_eq_true (show (⟨y.k, y.n, y.r, y.t⟩ : V) ≠ ⟨z.k, z.n, z.r, z.t⟩ from h)).symm
     go_wp2_with fail
     go_meet
     exact ⟨by rw [HV.out], hW⟩
    case c12_1 =>
     intro g yy W1 hiv
     have hW1 : W1 = W5.drew := hiv
     subst hW1
     intro K hK
     rw [if_pos (by rfl)]; simp only [overlay, cond_true, cond_false]
     go_simp
     refine (null_any W5.drew).mono ?_
     rintro e W' ⟨rfl, h1⟩
     exact hK.out _ _ () (⟨h1.os, h1.tape, h1.output, h1.size, h1.block⟩ : Below W5.heap.size W5 W') trivial rfl
    all_goals
     intro q hk1 hk2 g yy W1 hiv
     intro K hK
     first
      | (rw [if_neg (by exact Bool.false_ne_true)]
         exact hK.out _ _ _ hiv rfl rfl)
      | (rw [if_pos (by rfl)]; simp only [overlay, upd, cond_true, cond_false, List.getD_cons_zero, List.getD_cons_succ, Nat.reduceEqDiff, reduceIte]
         go_simp
         exact hK.out _ _ _ hiv rfl rfl)
      | (rw [if_pos (by rfl)]; simp only [overlay, cond_true, cond_false]
         go_simp
         exact hK.out _ _ _ hiv rfl rfl)
      | (have hX : Below W5.heap.size W5 W1 := by
          have hq : q = 0 ∨ 0 < q := by omega
          rcases hq with rfl | hq
          · have h : W1 = W5.drew := hiv
            rw [h]; exact (by repeat (first | exact Below.refl _ _ | assumption | refine Below.drew ?_ | refine below_drewN ?_ _ | refine Below.alloc ?_ (by simp <;> omega) _))
          · match q, hq, hiv with
            | q + 1, _, hiv => exact hiv
         obtain ⟨-, -, -, b11, -, b13, -, -⟩ := HC.out W1 (KpX.of_below hX (by rw [HS5.out]; exact Nat.le_refl _))
         obtain ⟨l11, y0, y1, y2, y3, _⟩ := blk4f b11
         obtain ⟨l13, z0, z1, z2, z3, _⟩ := blk4f b13
         clear b11 b13
         rw [if_pos (by rfl)]; simp only [overlay, upd, cond_true, cond_false, List.getD_cons_zero, List.getD_cons_succ, Nat.reduceEqDiff, reduceIte]
         go_simp
         exact hK.out _ _ _ hiv rfl rfl)
 case rest =>
  obtain ⟨rfl, HW⟩ := hcut
  rename World => W
  have HP1 := hd_ (HP0.out.ext HW.out)
  have HKW : Hid (KpX (q14 + 3) q14 W5 W) := KpX.of_below HW.out (by rw [HS5.out]; exact Nat.le_refl _)
  clear HW HP0
  go_upto_if 57 with fail
  go_cut [] (fun wx => Hid (PsB wx (q14 + 3) q14 P1) ∧ Hid (KpX (q14 + 3) q14 W5 wx))
  case first =>
   have hP1 := HP1e.out
   by_cases hc : y ≠ nulV ∧ y ≠ z
   · rw [if_pos hc] at hP1
     have hcd : decide (y ≠ nulV ∧ y ≠ z) = true := decide_eq_true hc
     have HP1e := hd_ hP1
     have HYN := hd_ hc.1
     rw [hcd]
     clear hc hcd hP1
     obtain ⟨hw, b3, b10, b11, b12, b13, b15, b17⟩ := HC.out W HKW.out
     have HB3 := hd_ b3
     have HB15 := hd_ b15
     have HWW := hd_ hw
     obtain ⟨l10, x0, x1, x2, x3, _⟩ := blk4f b10
     obtain ⟨l11, y0, y1, y2, y3, _⟩ := blk4f b11
     obtain ⟨l17, p0, p1, p2⟩ := blk3 b17
     clear hw b3 b10 b11 b12 b13 b15 b17
     go_wp2_with fail
     have hWc : Below W.heap.size W (W.alloc (.cells #[.int .u8 y.k, .int .i64 y.n, .int .u64 y.r, .string y.t, .int .u8 x.k, .int .i64 x.n, .int .u64 x.r, .string x.t] 47)) := bel1 _ _
     have kr : Blk (W.alloc (.cells #[.int .u8 y.k, .int .i64 y.n, .int .u64 y.r, .string y.t, .int .u8 x.k, .int .i64 x.n, .int .u64 x.r, .string x.t] 47)) W.heap.size #[.int .u8 y.k, .int .i64 y.n, .int .u64 y.r, .string y.t, .int .u8 x.k, .int .i64 x.n, .int .u64 x.r, .string x.t] 47 := Blk.new _ _ _
     have hsW : q14 + 3 ≤ W.heap.size := by rw [← HS5.out]; exact HKW.out.2.1
     have hKc : KpX (q14 + 3) q14 W (W.alloc (.cells #[.int .u8 y.k, .int .i64 y.n, .int .u64 y.r, .string y.t, .int .u8 x.k, .int .i64 x.n, .int .u64 x.r, .string x.t] 47)) := KpX.of_below hWc hsW
     refine (put3_any 102 j [y, x] (some ⟨W.heap.size, 0, none⟩) 2 (q14 + 3) q14 q15 q3 kd A0 A1 l0.length d0 l1.length d1 [] ⟨#[]⟩ ⟨#[]⟩ true _ (HP1.out.ext hWc) (by simp) (HB3.out.ext hWc) (HB15.out.ext hWc) (vrow_b2 y x HWF.out.2.1 HWF.out.1 kr) (HLX.out _ (bt HWW.out hWc)) (HOK.out.1 HYN.out)).mono ?_
     rintro r w1 ⟨rfl, hp, hk⟩
     have HK1 := hd_ (HKW.out.trans (hKc.trans hk))
     have HP2 : Hid (PsB w1 (q14 + 3) q14 P1) := by rw [← HP1e.out]; exact hp
     clear hp hk hKc kr hWc hsW l10 x0 x1 x2 x3 l11 y0 y1 y2 y3 l17 p0 p1 p2
     go_wp2_with fail
     go_meet
     exact ⟨HP2, HK1⟩
   · rw [if_neg hc] at hP1
     have hcd : decide (y ≠ nulV ∧ y ≠ z) = false := decide_eq_false hc
     have HP1e := hd_ hP1
     rw [hcd]
     clear hc hcd hP1
     go_wp2_with fail
     go_meet
     exact ⟨by rw [← HP1e.out]; exact HP1.out, HKW⟩
  case rest =>
   obtain ⟨HPX, HKX⟩ := hcut
   rename World => W6
   have HKW := HKX
   clear HP1
   obtain ⟨hw, b3, b10, b11, b12, b13, b15, b17⟩ := HC.out W6 HKW.out
   have HW6 := hd_ hw
   have HB3 := hd_ b3
   have HB15 := hd_ b15
   obtain ⟨l3, k0, k1, k2, k3, _⟩ := blk4f b3
   by_cases hlz : l1.length = 0
   · have hlz' : ((l1.length : Int) == 0) = true := by rw [hlz]; rfl
     have HLZ := hd_ hlz
     obtain ⟨l10, x0, x1, x2, x3, _⟩ := blk4f b10
     obtain ⟨l17, p0, p1, p2⟩ := blk3 b17
     clear hlz hw b3 b10 b11 b12 b13 b15 b17
     go_wp2_with fail
     have hWc : Below W6.heap.size W6 (W6.alloc (.cells #[.int .u8 x.k, .int .i64 x.n, .int .u64 x.r, .string x.t] 47)) := bel1 _ _
     have kr : Blk (W6.alloc (.cells #[.int .u8 x.k, .int .i64 x.n, .int .u64 x.r, .string x.t] 47)) W6.heap.size #[.int .u8 x.k, .int .i64 x.n, .int .u64 x.r, .string x.t] 47 := Blk.new _ _ _
     have hsW : q14 + 3 ≤ W6.heap.size := by rw [← HS5.out]; exact HKW.out.2.1
     have hKc : KpX (q14 + 3) q14 W6 (W6.alloc (.cells #[.int .u8 x.k, .int .i64 x.n, .int .u64 x.r, .string x.t] 47)) := KpX.of_below hWc hsW
     refine (put3_any 114 j [x] (some ⟨W6.heap.size, 0, none⟩) 1 (q14 + 3) q14 q15 q3 kd A0 A1 l0.length d0 l1.length d1 P1 ⟨#[]⟩ ⟨#[]⟩ true _ (HPX.out.ext hWc) (by omega) (HB3.out.ext hWc) (HB15.out.ext hWc) (vrow_b1 x HWF.out.1 kr) (HLX.out _ (bt HW6.out hWc)) (HOK.out.2.1 HLZ.out)).mono ?_
     rintro r w3 ⟨rfl, hp, hk⟩
     have HK3 := hd_ (HKW.out.trans (hKc.trans hk))
     clear hk hKc kr hWc hsW l10 x0 x1 x2 x3 l17 p0 p1 p2 l3 k0 k1 k2 k3
     have hE : (P1 ++ [(⟨lkB 114 j [x], ⟨#[]⟩, true⟩ : Pr)]) = PS := by rw [← HPS.out, if_pos HLZ.out]
     rw [hE] at hp
     obtain ⟨A', c', e1, e2⟩ := hp.b
     obtain ⟨l14, c14⟩ : q14 < w3.heap.size ∧ w3.cell? ⟨q14, 0, none⟩ = some (.slice A' PS.length c') := ⟨e1.lt, e1.cell 0⟩
     have HO := hd_ e2
     clear hp e1 e2 hE
     go_wp2_with fail
     refine bodyPost_ret (v := .tuple #[.slice A' PS.length c', .int .i64 0]) (by simp [results, Tryz.results10, go_sem]) rfl ?_
     exact ⟨A', c', rfl, own_base' HO.out (Nat.le_trans HW14.out (Nat.le_add_right _ _)), (HC.out w3 HK3.out).1⟩
   · have hlz' : ((l1.length : Int) == 0) = false := beq_eq_false_iff_ne.2 (by omega)
     have HLZ := hd_ hlz
     clear hlz hw b3 b10 b11 b12 b13 b15 b17
     go_wp2_with fail
     refine (HPR.out HLZ.out W6 HW6.out).mono ?_
     rintro r w2 ⟨rfl, hb⟩
     have HKW := hd_ (HKW.out.trans (KpX.of_below hb (by rw [← HS5.out]; exact HKW.out.2.1)))
     have HP3 := hd_ (HPX.out.ext hb)
     clear hb l3 k0 k1 k2 k3 HPX HW6 HB3 HB15 hlz'
     obtain ⟨hw, b3, b10, b11, b12, b13, b15, b17⟩ := HC.out w2 HKW.out
     have HW2 := hd_ hw
     have HB3 := hd_ b3
     have HB15 := hd_ b15
     obtain ⟨l12, x0, x1, x2, x3, _⟩ := blk4f b12
     clear hw b3 b10 b11 b12 b13 b15 b17
     go_wp2_with fail
     have hWc : Below w2.heap.size w2 (w2.alloc (.cells #[.int .u8 u.k, .int .i64 u.n, .int .u64 u.r, .string u.t] 47)) := bel1 _ _
     have kr : Blk (w2.alloc (.cells #[.int .u8 u.k, .int .i64 u.n, .int .u64 u.r, .string u.t] 47)) w2.heap.size #[.int .u8 u.k, .int .i64 u.n, .int .u64 u.r, .string u.t] 47 := Blk.new _ _ _
     have hsW : q14 + 3 ≤ w2.heap.size := by rw [← HS5.out]; exact HKW.out.2.1
     have hKc : KpX (q14 + 3) q14 w2 (w2.alloc (.cells #[.int .u8 u.k, .int .i64 u.n, .int .u64 u.r, .string u.t] 47)) := KpX.of_below hWc hsW
     refine (put3_any 114 j [u] (some ⟨w2.heap.size, 0, none⟩) 1 (q14 + 3) q14 q15 q3 kd A0 A1 l0.length d0 l1.length d1 P1 ⟨#[]⟩ TX false _ (HP3.out.ext hWc) (by omega) (HB3.out.ext hWc) (HB15.out.ext hWc) (vrow_b1 u HWF.out.2.2.1 kr) (HLX.out _ (bt HW2.out hWc)) (HOK.out.2.2.1 HLZ.out)).mono ?_
     rintro r w3 ⟨rfl, hp, hk⟩
     have HK3 := hd_ (HKW.out.trans (hKc.trans hk))
     have HP4 := hd_ hp
     have HS3 : Hid (q14 + 3 ≤ w3.heap.size) := by have := HK3.out.2.1; have := HS5.out; show _ ≤ _; omega
     clear hp hk hKc kr hWc hsW l12 x0 x1 x2 x3 HP3 HB3 HB15 HW2 HKW
     go_upto_region 19 with fail
     go_cut [96] (fun v wx => v = .bool (decide (z ≠ nulV ∧ y ≠ z)) ∧ Hid (Below w3.heap.size w3 wx))
     case first =>
      have hq1 := eqlV26 z.k z.n z.r z.t 0 0 0 ⟨#[]⟩
      have hq2 := eqlV26 y.k y.n y.r y.t z.k z.n z.r z.t
      have hcc : ∃ cc, cc = decide ((⟨y.k, y.n, y.r, y.t⟩ : V) ≠ ⟨z.k, z.n, z.r, z.t⟩) := ⟨_, rfl⟩
      obtain ⟨cc, hcc⟩ := hcc
      rw [← hcc] at hq2
      have HCC := hd_ hcc
      clear hcc
      let Iv : Nat → Unit → World → Prop := fun k _ W => match k with
       | 0 => W = w3.drew
       | _ => Below w3.heap.size w3 W
      by_cases hy : z = nulV
      · have HY := hd_ hy
        have e : decide ((⟨z.k, z.n, z.r, z.t⟩ : V) ≠ ⟨0, 0, 0, ⟨#[]⟩⟩) = false := by rw [hy]; exact decide_eq_false (fun h => h rfl)
        rw [e] at hq1
        clear e hy
        refine region_phase (Iv) (fun _ _ _ => True) (()) (fun _ => [.agg #[.int .u8 z.k, .int .i64 z.n, .int .u64 z.r, .string z.t], .agg #[.int .u8 0, .int .i64 0, .int .u64 0, .string ⟨#[]⟩], .bool false, .bool false, undef, undef, undef, .bool false]) [1] [(0, 1), (0, 1), (1, 1), (1, 1), (1, 1), (1, 1), (1, 1), (1, 1)] [false, false, false, false, false, false, false, false, false, false, false, false, false, false, false, false, false, false, false, false, false, false, false, false, false, false, false, false, false, false, false, false, false, false, false, false, false, false, false, false, false, false, false, false, false, false, false, false, false, false, false, false, false, false, false, false, false, false, false, false, false, false, false, false, false, false, false, false, false, false, false, false, false, false, false, false, false, false, false, false, false, false, false, false, false, false, false, false, false, true, true, true, true, true, true, true, true, false, false, false, false, false, false, false, false] [89, 90, 91, 92, 93, 94, 95, 96] [7] rfl (fun _ => rfl) (fun _ _ _ _ _ _ _ _ _ => rfl) (by kernel_rfl) (by kernel_rfl) (by kernel_rfl) (by decide) (by kernel_rfl) (by kernel_rfl) (by kernel_rfl) (by kernel_rfl) (by kernel_rfl) ⟨PhStep.pure rfl ?_, PhStep.chain 0 rfl ?c19_1, PhStep.pure rfl ?_, PhStep.pure rfl ?_, PhStep.pure rfl ?_, PhStep.pure rfl ?_, PhStep.pure rfl ?_, PhStep.pure rfl ?_, trivial⟩ ?done19
        case done19 =>
         intro g yy W hiv
         have hW : Below w3.heap.size w3 W := hiv
         simp only [StepGoal, List.map_cons, List.map_nil, overlay, upd, cond_true, cond_false, List.getD_cons_zero, List.getD_cons_succ, Nat.zero_add, Nat.reduceAdd, Nat.reduceEqDiff, reduceIte]
         clear hiv Iv hq1 hq2
         have HV : Hid (decide (z ≠ nulV ∧ y ≠ z) = false) := decide_eq_false (fun h => h.1 HY.out)
         go_wp2_with fail
         go_meet
         exact ⟨by rw [HV.out], hW⟩
        case c19_1 =>
         intro g yy W1 hiv
         have hW1 : W1 = w3.drew := hiv
         subst hW1
         intro K hK
         rw [if_pos (by rfl)]; simp only [overlay, cond_true, cond_false]
         go_simp
         refine (null_any w3.drew).mono ?_
         rintro e W' ⟨rfl, h1⟩
         exact hK.out _ _ () (⟨h1.os, h1.tape, h1.output, h1.size, h1.block⟩ : Below w3.heap.size w3 W') trivial rfl
        all_goals
         intro q hk1 hk2 g yy W1 hiv
         intro K hK
         first
          | (rw [if_neg (by exact Bool.false_ne_true)]
             exact hK.out _ _ _ hiv rfl rfl)
          | (rw [if_pos (by rfl)]; simp only [overlay, upd, cond_true, cond_false, List.getD_cons_zero, List.getD_cons_succ, Nat.reduceEqDiff, reduceIte]
             go_simp
             exact hK.out _ _ _ hiv rfl rfl)
          | (rw [if_pos (by rfl)]; simp only [overlay, cond_true, cond_false]
             go_simp
             exact hK.out _ _ _ hiv rfl rfl)
          | (have hX : Below w3.heap.size w3 W1 := by
              have hq : q = 0 ∨ 0 < q := by omega
              rcases hq with rfl | hq
              · have h : W1 = w3.drew := hiv
                rw [h]; exact (by repeat (first | exact Below.refl _ _ | assumption | refine Below.drew ?_ | refine below_drewN ?_ _ | refine Below.alloc ?_ (by simp <;> omega) _))
              · match q, hq, hiv with
                | q + 1, _, hiv => exact hiv
             obtain ⟨-, -, -, b11, -, b13, -, -⟩ := HC.out W1 (HK3.out.trans (KpX.of_below hX HS3.out))
             obtain ⟨l11, y0, y1, y2, y3, _⟩ := blk4f b11
             obtain ⟨l13, z0, z1, z2, z3, _⟩ := blk4f b13
             clear b11 b13
             rw [if_pos (by rfl)]; simp only [overlay, upd, cond_true, cond_false, List.getD_cons_zero, List.getD_cons_succ, Nat.reduceEqDiff, reduceIte]
             go_simp
             exact hK.out _ _ _ hiv rfl rfl)
      · have HY := hd_ hy
        have e : decide ((⟨z.k, z.n, z.r, z.t⟩ : V) ≠ ⟨0, 0, 0, ⟨#[]⟩⟩) = true := decide_eq_true hy
        rw [e] at hq1
        clear e hy
        refine region_phase (Iv) (fun _ _ _ => True) (()) (fun _ => [.agg #[.int .u8 z.k, .int .i64 z.n, .int .u64 z.r, .string z.t], .agg #[.int .u8 0, .int .i64 0, .int .u64 0, .string ⟨#[]⟩], .bool true, .bool true, .agg #[.int .u8 y.k, .int .i64 y.n, .int .u64 y.r, .string y.t], .agg #[.int .u8 z.k, .int .i64 z.n, .int .u64 z.r, .string z.t], .bool cc, .bool cc]) [1] [(0, 1), (0, 1), (1, 1), (1, 1), (1, 1), (1, 1), (1, 1), (1, 1)] [false, false, false, false, false, false, false, false, false, false, false, false, false, false, false, false, false, false, false, false, false, false, false, false, false, false, false, false, false, false, false, false, false, false, false, false, false, false, false, false, false, false, false, false, false, false, false, false, false, false, false, false, false, false, false, false, false, false, false, false, false, false, false, false, false, false, false, false, false, false, false, false, false, false, false, false, false, false, false, false, false, false, false, false, false, false, false, false, false, true, true, true, true, true, true, true, true, false, false, false, false, false, false, false, false] [89, 90, 91, 92, 93, 94, 95, 96] [7] rfl (fun _ => rfl) (fun _ _ _ _ _ _ _ _ _ => rfl) (by kernel_rfl) (by kernel_rfl) (by kernel_rfl) (by decide) (by kernel_rfl) (by kernel_rfl) (by kernel_rfl) (by kernel_rfl) (by kernel_rfl) ⟨PhStep.pure rfl ?_, PhStep.chain 0 rfl ?c19_1, PhStep.pure rfl ?_, PhStep.pure rfl ?_, PhStep.pure rfl ?_, PhStep.pure rfl ?_, PhStep.pure rfl ?_, PhStep.pure rfl ?_, trivial⟩ ?done19
        case done19 =>
         intro g yy W hiv
         have hW : Below w3.heap.size w3 W := hiv
         simp only [StepGoal, List.map_cons, List.map_nil, overlay, upd, cond_true, cond_false, List.getD_cons_zero, List.getD_cons_succ, Nat.zero_add, Nat.reduceAdd, Nat.reduceEqDiff, reduceIte]
         clear hiv Iv hq1 hq2
         have HV : Hid (decide (z ≠ nulV ∧ y ≠ z) = cc) := by
          show _ = _
          rw [HCC.out]
          by_cases h : y = z
          · rw [decide_eq_false (fun h' => h'.2 h), decide_eq_false (fun h' => h' h)]
          · rw [decide_eq_true (show z ≠ nulV ∧ y ≠ z from ⟨HY.out, h⟩)]
            exact (decide_eq_true (show (⟨y.k, y.n, y.r, y.t⟩ : V) ≠ ⟨z.k, z.n, z.r, z.t⟩ from h)).symm
         go_wp2_with fail
         go_meet
         exact ⟨by rw [HV.out], hW⟩
        case c19_1 =>
         intro g yy W1 hiv
         have hW1 : W1 = w3.drew := hiv
         subst hW1
         intro K hK
         rw [if_pos (by rfl)]; simp only [overlay, cond_true, cond_false]
         go_simp
         refine (null_any w3.drew).mono ?_
         rintro e W' ⟨rfl, h1⟩
         exact hK.out _ _ () (⟨h1.os, h1.tape, h1.output, h1.size, h1.block⟩ : Below w3.heap.size w3 W') trivial rfl
        all_goals
         intro q hk1 hk2 g yy W1 hiv
         intro K hK
         first
          | (rw [if_neg (by exact Bool.false_ne_true)]
             exact hK.out _ _ _ hiv rfl rfl)
          | (rw [if_pos (by rfl)]; simp only [overlay, upd, cond_true, cond_false, List.getD_cons_zero, List.getD_cons_succ, Nat.reduceEqDiff, reduceIte]
             go_simp
             exact hK.out _ _ _ hiv rfl rfl)
          | (rw [if_pos (by rfl)]; simp only [overlay, cond_true, cond_false]
             go_simp
             exact hK.out _ _ _ hiv rfl rfl)
          | (have hX : Below w3.heap.size w3 W1 := by
              have hq : q = 0 ∨ 0 < q := by omega
              rcases hq with rfl | hq
              · have h : W1 = w3.drew := hiv
                rw [h]; exact (by repeat (first | exact Below.refl _ _ | assumption | refine Below.drew ?_ | refine below_drewN ?_ _ | refine Below.alloc ?_ (by simp <;> omega) _))
              · match q, hq, hiv with
                | q + 1, _, hiv => exact hiv
             obtain ⟨-, -, -, b11, -, b13, -, -⟩ := HC.out W1 (HK3.out.trans (KpX.of_below hX HS3.out))
             obtain ⟨l11, y0, y1, y2, y3, _⟩ := blk4f b11
             obtain ⟨l13, z0, z1, z2, z3, _⟩ := blk4f b13
             clear b11 b13
             rw [if_pos (by rfl)]; simp only [overlay, upd, cond_true, cond_false, List.getD_cons_zero, List.getD_cons_succ, Nat.reduceEqDiff, reduceIte]
             go_simp
             exact hK.out _ _ _ hiv rfl rfl)
     case rest =>
      obtain ⟨rfl, HW⟩ := hcut
      rename World => W7
      have HKW : Hid (KpX (q14 + 3) q14 W5 W7) := HK3.out.trans (KpX.of_below HW.out HS3.out)
      have HP5 := hd_ (HP4.out.ext HW.out)
      clear HW HP4
      by_cases hc : z ≠ nulV ∧ y ≠ z
      · have HZC := hd_ hc
        have HZN := hd_ hc.1
        rw [decide_eq_true hc]
        clear hc
        obtain ⟨hw, b3, b10, b11, b12, b13, b15, b17⟩ := HC.out W7 HKW.out
        have HWV := hd_ hw
        have HB3 := hd_ b3
        have HB15 := hd_ b15
        obtain ⟨l12, x0, x1, x2, x3, _⟩ := blk4f b12
        obtain ⟨l13, z0, z1, z2, z3, _⟩ := blk4f b13
        clear hw b3 b10 b11 b12 b13 b15 b17
        go_wp2_with fail
        have hWc : Below W7.heap.size W7 (W7.alloc (.cells #[.int .u8 z.k, .int .i64 z.n, .int .u64 z.r, .string z.t, .int .u8 u.k, .int .i64 u.n, .int .u64 u.r, .string u.t] 47)) := bel1 _ _
        have kr : Blk (W7.alloc (.cells #[.int .u8 z.k, .int .i64 z.n, .int .u64 z.r, .string z.t, .int .u8 u.k, .int .i64 u.n, .int .u64 u.r, .string u.t] 47)) W7.heap.size #[.int .u8 z.k, .int .i64 z.n, .int .u64 z.r, .string z.t, .int .u8 u.k, .int .i64 u.n, .int .u64 u.r, .string u.t] 47 := Blk.new _ _ _
        have hsW : q14 + 3 ≤ W7.heap.size := by rw [← HS5.out]; exact HKW.out.2.1
        have hKc : KpX (q14 + 3) q14 W7 (W7.alloc (.cells #[.int .u8 z.k, .int .i64 z.n, .int .u64 z.r, .string z.t, .int .u8 u.k, .int .i64 u.n, .int .u64 u.r, .string u.t] 47)) := KpX.of_below hWc hsW
        refine (put3_any 102 j [z, u] (some ⟨W7.heap.size, 0, none⟩) 2 (q14 + 3) q14 q15 q3 kd A0 A1 l0.length d0 l1.length d1 (P1 ++ [⟨lkB 114 j [u], TX, false⟩]) ⟨#[]⟩ ⟨#[]⟩ false _ (HP5.out.ext hWc) (by simp; omega) (HB3.out.ext hWc) (HB15.out.ext hWc) (vrow_b2 z u HWF.out.2.2.2 HWF.out.2.2.1 kr) (HLX.out _ (bt HWV.out hWc)) (HOK.out.2.2.2 HZN.out)).mono ?_
        rintro r w5 ⟨rfl, hp, hk⟩
        have HK5 := hd_ (HKW.out.trans (hKc.trans hk))
        clear hk hKc kr hWc hsW l12 x0 x1 x2 x3 l13 z0 z1 z2 z3
        rw [List.append_assoc] at hp
        have hE : (P1 ++ ([(⟨lkB 114 j [u], TX, false⟩ : Pr)] ++ [(⟨lkB 102 j [z, u], ⟨#[]⟩, false⟩ : Pr)])) = PS := by rw [← HPS.out, if_neg HLZ.out, if_pos HZC.out]; rfl
        rw [hE] at hp
        obtain ⟨A', c', e1, e2⟩ := hp.b
        obtain ⟨l14, c14⟩ : q14 < w5.heap.size ∧ w5.cell? ⟨q14, 0, none⟩ = some (.slice A' PS.length c') := ⟨e1.lt, e1.cell 0⟩
        have HO := hd_ e2
        clear hp e1 e2 hE
        go_wp2_with fail
        refine bodyPost_ret (v := .tuple #[.slice A' PS.length c', .int .i64 0]) (by simp [results, Tryz.results10, go_sem]) rfl ?_
        exact ⟨A', c', rfl, own_base' HO.out (Nat.le_trans HW14.out (Nat.le_add_right _ _)), (HC.out w5 HK5.out).1⟩
      · have HZC := hd_ hc
        have hp := HP5.out
        rw [decide_eq_false hc]
        clear hc
        have hE : (P1 ++ [(⟨lkB 114 j [u], TX, false⟩ : Pr)]) = PS := by rw [← HPS.out, if_neg HLZ.out, if_neg HZC.out]
        rw [hE] at hp
        obtain ⟨A', c', e1, e2⟩ := hp.b
        obtain ⟨l14, c14⟩ : q14 < W7.heap.size ∧ W7.cell? ⟨q14, 0, none⟩ = some (.slice A' PS.length c') := ⟨e1.lt, e1.cell 0⟩
        have HO := hd_ e2
        clear hp e1 e2 hE
        go_wp2_with fail
        refine bodyPost_ret (v := .tuple #[.slice A' PS.length c', .int .i64 0]) (by simp [results, Tryz.results10, go_sem]) rfl ?_
        exact ⟨A', c', rfl, own_base' HO.out (Nat.le_trans HW14.out (Nat.le_add_right _ _)), (HC.out W7 HKW.out).1⟩
theorem pairs_any (ts : List Ta) (A A0 A1 : Option Addr) (c d0 d1 : Nat) (kd tb : Int) (l0 l1 : List V) (w : World) (ht : TRow w A c ts) (h0 : VRow w A0 l0) (h1 : VRow w A1 l1) (hL : LayX w) :
  Calls Tryz.prog 10 #[.agg #[.slice A ts.length c], .agg #[.int .u8 kd, .int .i64 tb, .slice A0 l0.length d0, .slice A1 l1.length d1]] w fun r w' => ∃ A' c', r = .returned (.tuple #[.slice A' (pairsF ts kd tb l0 l1).length c', .int .i64 (okE (chFit ts kd tb l0 l1))]) ∧ w'.ownsRow w.heap.size 45 3 (.slice A' (pairsF ts kd tb l0 l1).length c') (pairsF ts kd tb l0 l1).length (cellsP (pairsF ts kd tb l0 l1)) ∧ Below w.heap.size w w' := by
 cases hf : chFit ts kd tb l0 l1 with
 | true =>
  obtain ⟨j, ta, rfl, hj, hj12, hke, href, hl0, hl1, hne⟩ := fits_parts hf
  have e : pairsF ts kd j l0 l1 = pairsT j ta l0 l1 := by unfold pairsF; rw [if_pos hf, Int.toNat_natCast, hj]
  rw [e]
  exact pairs_go ts A A0 A1 c d0 d1 kd j ta l0 l1 w ht h0 h1 hL hL.1 hj hj12 hf hke href hl0 hl1 hne
 | false =>
  have e : pairsF ts kd tb l0 l1 = [] := by unfold pairsF; rw [if_neg (by rw [hf]; decide)]
  rw [e]
  have HFI := hd_ (fun (W : World) (hW : Below w.heap.size w W) => chfits_any ts A A0 A1 c d0 d1 kd tb l0 l1 W (ht.ext hW) (h0.ext hW) (h1.ext hW) (hL.1.ext hW))
  rw [hf] at HFI
  clear hf e ht h0 h1 hL
  go_enter Tryz.func10, Tryz.ntmps10
  go_wp2_with fail
  refine (HFI.out _ (by repeat (first | exact Below.refl _ _ | assumption | refine Below.drew ?_ | refine below_drewN ?_ _ | refine Below.alloc ?_ (by simp <;> omega) _))).mono ?_
  rintro r w1 ⟨rfl, hb1⟩
  have HB1 : Hid (Below w.heap.size w w1) := bt ((by repeat (first | exact Below.refl _ _ | assumption | refine Below.drew ?_ | refine below_drewN ?_ _ | refine Below.alloc ?_ (by simp <;> omega) _))) hb1
  clear hb1
  go_wp2_with fail
  refine bodyPost_ret (v := .tuple #[.slice none 0 0, .int .i64 2]) (by simp [results, Tryz.results10, go_sem]) rfl ?_
  exact ⟨none, 0, rfl, World.ownsRow_nil _ _ _ _, HB1.out⟩
end Go.Proofs.YtceoficoappkpaaGreatDoor
