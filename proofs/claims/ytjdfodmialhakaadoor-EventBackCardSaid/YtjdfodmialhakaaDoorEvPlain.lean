/- Events and marks, the plain laws: what was put is got; of what is got the bytes are what it was got of. -/
import Derived.Test.YtjdfodmialhakaaDoorEv5
import Derived.Test.YtjdfodmialhakaaDoorMk3
namespace Go.Proofs.YtjdfodmialhakaaDoor
open Go.RowKit

theorem putRowL_app_ne (l : List V) (r : List UInt8) : putRowL l ++ r ≠ [] := by
  unfold putRowL
  simp
theorem getRows_put : ∀ (rs : List (List V)), (∀ l ∈ rs, (∀ v ∈ l, v.wf) ∧ rowB l = true) → ∀ n, rs.length ≤ n → getRows n (rs.flatMap putRowL) = some rs
  | [], _, n, _ => by cases n <;> rfl
  | l :: rs, h, n, hn => by
    obtain ⟨h1, h2⟩ := h l (by simp)
    match n, hn with
    | n + 1, hn =>
      rw [List.flatMap_cons]
      have hg := putRow_getRow l h1 h2 (rs.flatMap putRowL)
      rw [getRows_ok (putRowL_app_ne l _) (by rw [hg]), hg]
      simp only [List.drop_left]
      rw [getRows_put rs (fun x hx => h x (by simp [hx])) n (by simpa using hn)]
      rfl
theorem getRows_back : ∀ (n : Nat) (l : List UInt8) (rs : List (List V)), getRows n l = some rs → rs.flatMap putRowL = l ∧ (∀ r ∈ rs, (∀ v ∈ r, v.wf) ∧ rowB r = true) ∧ rs.length ≤ n
  | n, [], rs, h => by
    have : rs = [] := by cases n <;> (rw [getRows] at h; exact (Option.some.inj h).symm)
    subst this
    exact ⟨rfl, (fun _ h => by cases h), by simp⟩
  | 0, c :: r, rs, h => by rw [getRows] at h; cases h
  | n + 1, c :: r, rs, h => by
    by_cases h0 : (getRow (c :: r)).1 = 0
    · rw [getRows_ok (by simp) h0] at h
      obtain ⟨b1, b2, b3, b4, b5⟩ := getRow_back h0
      cases hx : getRows n ((c :: r).drop (getRow (c :: r)).2.2) with
      | none => rw [hx] at h; cases h
      | some rs' =>
        rw [hx] at h
        have e : rs = (getRow (c :: r)).2.1 :: rs' := (Option.some.inj h).symm
        obtain ⟨i1, i2, i3⟩ := getRows_back n _ rs' hx
        subst e
        refine ⟨?_, ?_, by simpa using i3⟩
        · rw [List.flatMap_cons, i1, ← b3, List.take_append_drop]
        · intro x hx
          rcases List.mem_cons.1 hx with rfl | hx
          · exact ⟨b2, b1⟩
          · exact i2 x hx
    · rw [getRows_no (by simp) h0] at h; cases h
theorem evL_eq (e : Ev) : evL e = numL 8 e.tx.toNat ++ (numL 2 e.tot.toNat ++ (numL 2 e.nth.toNat ++ (UInt8.ofNat e.tb.toNat :: UInt8.ofNat e.k.toNat :: (evRows e).flatMap putRowL))) := by
  simp [evL, evH, List.append_assoc]
theorem byteNat {v : Int} (h0 : 0 ≤ v) (h1 : v ≤ 255) : (((UInt8.ofNat v.toNat).toNat : Nat) : Int) = v := by
  rw [UInt8.toNat_ofNat']
  omega
theorem evget_put (e : Ev) (hw : e.wf) (hb : evB e = true) (hv1 : ∀ v ∈ e.bf, v.wf) (hv2 : ∀ v ∈ e.af, v.wf) : evGet (evL e) = some e := by
  have hg : evG e = true := by unfold evB at hb; exact (Bool.and_eq_true_iff.1 hb).1
  have hr : evR e = true := by unfold evB at hb; exact (Bool.and_eq_true_iff.1 hb).2
  obtain ⟨⟨w1, w2⟩, _⟩ := hw
  obtain ⟨c1, c2, c3, c4, c5, c6, c7, c8⟩ := of_decide_eq_true hg
  have l1 := numL_length 8 e.tx.toNat
  have l2 := numL_length 2 e.tot.toNat
  have l3 := numL_length 2 e.nth.toNat
  have hlen : 14 ≤ (evL e).length := by rw [evL_eq]; simp [l1, l2, l3]; omega
  have d8 : (evL e).drop 8 = numL 2 e.tot.toNat ++ (numL 2 e.nth.toNat ++ (UInt8.ofNat e.tb.toNat :: UInt8.ofNat e.k.toNat :: (evRows e).flatMap putRowL)) := by
    rw [evL_eq, List.drop_left' l1]
  have d10 : (evL e).drop 10 = numL 2 e.nth.toNat ++ (UInt8.ofNat e.tb.toNat :: UInt8.ofNat e.k.toNat :: (evRows e).flatMap putRowL) := by
    rw [show 10 = 8 + 2 from rfl, ← List.drop_drop, d8, List.drop_left' l2]
  have d12 : (evL e).drop 12 = UInt8.ofNat e.tb.toNat :: UInt8.ofNat e.k.toNat :: (evRows e).flatMap putRowL := by
    rw [show 12 = 10 + 2 from rfl, ← List.drop_drop, d10, List.drop_left' l3]
  have d14 : (evL e).drop 14 = (evRows e).flatMap putRowL := by
    rw [show 14 = 12 + 2 from rfl, ← List.drop_drop, d12]; rfl
  have hrows : ∀ l ∈ evRows e, (∀ v ∈ l, v.wf) ∧ rowB l = true := by
    unfold evRows
    unfold evR at hr
    by_cases h1 : e.k = 1 ∨ e.k = 4
    · rw [if_pos h1] at hr ⊢
      intro l hl
      obtain rfl : l = e.af := by simpa using hl
      exact ⟨hv2, (Bool.and_eq_true_iff.1 hr).1⟩
    · rw [if_neg h1] at hr ⊢
      by_cases h3 : e.k = 3
      · rw [if_pos h3] at hr ⊢
        intro l hl
        obtain rfl : l = e.bf := by simpa using hl
        exact ⟨hv1, (Bool.and_eq_true_iff.1 hr).1⟩
      · rw [if_neg h3] at hr ⊢
        intro l hl
        rcases List.mem_cons.1 hl with rfl | hl
        · exact ⟨hv1, (Bool.and_eq_true_iff.1 hr).1⟩
        · obtain rfl : l = e.af := by simpa using hl
          exact ⟨hv2, (Bool.and_eq_true_iff.1 hr).2⟩
  have hrl : (evRows e).length ≤ 2 := by
    unfold evRows
    split
    · simp
    · split <;> simp
  have hhd : evHead (evL e) = ⟨e.tx, e.tot, e.nth, e.k, e.tb, [], []⟩ := by
    unfold evHead
    have t8 : (evL e).take 8 = numL 8 e.tx.toNat := by rw [evL_eq, List.take_left' l1]
    have t2 : ((evL e).drop 8).take 2 = numL 2 e.tot.toNat := by rw [d8, List.take_left' l2]
    have t2' : ((evL e).drop 10).take 2 = numL 2 e.nth.toNat := by rw [d10, List.take_left' l3]
    have g12 : (evL e).getD 12 0 = UInt8.ofNat e.tb.toNat := by
      rw [List.getD_eq_getElem?_getD, ← List.getElem?_drop (i := 12) (j := 0), d12]; rfl
    have g13 : (evL e).getD 13 0 = UInt8.ofNat e.k.toNat := by
      rw [List.getD_eq_getElem?_getD, show 13 = 12 + 1 from rfl, ← List.getElem?_drop, d12]; rfl
    rw [t8, t2, t2', g12, g13, valL_numL 8 _ (by omega), valL_numL 2 _ (by omega), valL_numL 2 _ (by omega), byteNat c3 (by omega), byteNat (by omega) (by omega)]
    simp only [Ev.mk.injEq, and_true]
    omega
  rw [evget_fill hlen (by rw [d14]; exact getRows_put _ hrows 2 hrl), hhd]
  have hfill : fillE ⟨e.tx, e.tot, e.nth, e.k, e.tb, [], []⟩ (evRows e) = some e := by
    unfold fillE evRows
    unfold evR at hr
    by_cases h1 : e.k = 1 ∨ e.k = 4
    · simp only [if_pos h1] at hr ⊢
      have hz := of_decide_eq_true (Bool.and_eq_true_iff.1 hr).2
      have := List.length_eq_zero_iff.1 hz
      rw [← this]
    · simp only [if_neg h1] at hr ⊢
      by_cases h3 : e.k = 3
      · simp only [if_pos h3] at hr ⊢
        have hz := of_decide_eq_true (Bool.and_eq_true_iff.1 hr).2
        have := List.length_eq_zero_iff.1 hz
        rw [← this]
      · simp only [if_neg h3] at hr ⊢
  rw [hfill]
  simp only [hb, if_true]
theorem evget_back {b : List UInt8} {e : Ev} (h : evGet b = some e) : evB e = true ∧ e.wf ∧ (∀ v ∈ e.bf, v.wf) ∧ (∀ v ∈ e.af, v.wf) ∧ evL e = b := by
  by_cases hl : b.length < 14
  · unfold evGet at h; rw [if_pos hl] at h; cases h
  · cases hx : getRows 2 (b.drop 14) with
    | none => rw [evget_none hx] at h; cases h
    | some rs =>
      rw [evget_fill (by omega) hx] at h
      cases hf : fillE (evHead b) rs with
      | none => rw [hf] at h; cases h
      | some e' =>
        rw [hf] at h
        simp only at h
        by_cases hb : evB e' = true
        · rw [if_pos hb] at h
          have ee : e' = e := Option.some.inj h
          subst ee
          obtain ⟨r1, r2, r3⟩ := getRows_back 2 _ rs hx
          have key : e'.tx = (evHead b).tx ∧ e'.tot = (evHead b).tot ∧ e'.nth = (evHead b).nth ∧ e'.k = (evHead b).k ∧ e'.tb = (evHead b).tb ∧ evRows e' = rs ∧ (∀ v ∈ e'.bf, v.wf) ∧ (∀ v ∈ e'.af, v.wf) := by
            unfold fillE at hf
            by_cases h1 : (evHead b).k = 1 ∨ (evHead b).k = 4
            · rw [if_pos h1] at hf
              match rs, hf with
              | [a], hf =>
                have := (Option.some.inj hf).symm
                subst this
                refine ⟨rfl, rfl, rfl, rfl, rfl, ?_, (fun v hv => by cases hv), (r2 a (by simp)).1⟩
                unfold evRows
                rw [if_pos h1]
            · rw [if_neg h1] at hf
              by_cases h3 : (evHead b).k = 3
              · rw [if_pos h3] at hf
                match rs, hf with
                | [a], hf =>
                  have := (Option.some.inj hf).symm
                  subst this
                  refine ⟨rfl, rfl, rfl, rfl, rfl, ?_, (r2 a (by simp)).1, (fun v hv => by cases hv)⟩
                  unfold evRows
                  rw [if_neg h1, if_pos h3]
              · rw [if_neg h3] at hf
                match rs, hf with
                | [a, c], hf =>
                  have := (Option.some.inj hf).symm
                  subst this
                  refine ⟨rfl, rfl, rfl, rfl, rfl, ?_, (r2 a (by simp)).1, (r2 c (by simp)).1⟩
                  unfold evRows
                  rw [if_neg h1, if_neg h3]
          obtain ⟨k1, k2, k3, k4, k5, k6, k7, k8⟩ := key
          have v8 := valL_bound (b.take 8) 8 (by simp; omega)
          have v2 := valL_bound ((b.drop 8).take 2) 2 (by simp; omega)
          have v2' := valL_bound ((b.drop 10).take 2) 2 (by simp; omega)
          have b12 := (b.getD 12 0).toNat_lt
          have b13 := (b.getD 13 0).toNat_lt
          unfold evHead at k1 k2 k3 k4 k5
          simp only at k1 k2 k3 k4 k5
          refine ⟨hb, ⟨by omega, by omega, by omega, by omega, by omega⟩, k7, k8, ?_⟩
          rw [evL_eq, k1, k2, k3, k4, k5, k6, r1]
          simp only [Int.toNat_natCast]
          have e8 : (b.take 8).length = 8 := by simp; omega
          have e2 : ((b.drop 8).take 2).length = 2 := by simp; omega
          have e2' : ((b.drop 10).take 2).length = 2 := by simp; omega
          have n8 := numL_valL (b.take 8)
          have n2 := numL_valL ((b.drop 8).take 2)
          have n2' := numL_valL ((b.drop 10).take 2)
          rw [e8] at n8
          rw [e2] at n2
          rw [e2'] at n2'
          rw [n8, n2, n2', UInt8.ofNat_toNat, UInt8.ofNat_toNat]
          have g : b.drop 12 = b.getD 12 0 :: b.getD 13 0 :: b.drop 14 := by
            rw [List.drop_eq_getElem_cons (show 12 < b.length by omega), List.drop_eq_getElem_cons (show 12 + 1 < b.length by omega), List.getD_eq_getElem?_getD, List.getD_eq_getElem?_getD, List.getElem?_eq_getElem (show 12 < b.length by omega), List.getElem?_eq_getElem (show 13 < b.length by omega)]
            rfl
          rw [← g]
          have s1 : (b.drop 10).take 2 ++ b.drop 12 = b.drop 10 := by
            have := List.take_append_drop 2 (b.drop 10)
            rwa [List.drop_drop] at this
          have s2 : (b.drop 8).take 2 ++ b.drop 10 = b.drop 8 := by
            have := List.take_append_drop 2 (b.drop 8)
            rwa [List.drop_drop] at this
          rw [s1, s2, List.take_append_drop]
        · rw [if_neg hb] at h; cases h
/-! Marks. -/
theorem chunk_put (w : Nat) (f : Int → List UInt8) (hf : ∀ v, f v = numL w v.toNat) : ∀ (l : List Int), (∀ v ∈ l, 0 ≤ v ∧ v.toNat < 256 ^ w) → ∀ r, chunk w l.length (l.flatMap f ++ r) = l
  | [], _, _ => rfl
  | v :: l, h, r => by
    obtain ⟨h1, h2⟩ := h v (by simp)
    rw [List.flatMap_cons, List.length_cons, chunk, List.append_assoc, hf v, List.take_left' (numL_length w _), List.drop_left' (numL_length w _), valL_numL w _ h2, chunk_put w f hf l (fun x hx => h x (by simp [hx])) r]
    congr 1
    omega
theorem flat_len (w : Nat) (f : Int → List UInt8) (hf : ∀ v, (f v).length = w) : ∀ l : List Int, (l.flatMap f).length = w * l.length
  | [] => rfl
  | v :: l => by rw [List.flatMap_cons, List.length_append, hf, flat_len w f hf l, List.length_cons, Nat.mul_succ, Nat.add_comm]
theorem flat_chunk (w : Nat) (f : Int → List UInt8) (hf : ∀ v, f v = numL w v.toNat) : ∀ (k : Nat) (l : List UInt8), w * k ≤ l.length → (chunk w k l).flatMap f = l.take (w * k)
  | 0, l, _ => by simp [chunk]
  | k + 1, l, h => by
    rw [Nat.mul_succ] at h
    rw [chunk, List.flatMap_cons, hf, Int.toNat_natCast, flat_chunk w f hf k (l.drop w) (by simp; omega)]
    have e : (l.take w).length = w := by simp; omega
    have n := numL_valL (l.take w)
    rw [e] at n
    rw [n, Nat.mul_succ, Nat.add_comm (w * k) w, List.take_add]
theorem mkL_eq (m : Mk) : mkL m = UInt8.ofNat m.k.toNat :: (numL 8 m.tx.toNat ++ (UInt8.ofNat m.sq.length :: (num8L m.sq ++ num2L m.cs))) := by
  simp [mkL, mkH, List.append_assoc]
theorem num8L_len (l : List Int) : (num8L l).length = 8 * l.length := flat_len 8 _ (fun _ => numL_length 8 _) l
theorem num2L_len (l : List Int) : (num2L l).length = 2 * l.length := flat_len 2 _ (fun _ => numL_length 2 _) l
theorem mkget_put (m : Mk) (hw : m.wf) (hb : mkB m = true) : mkGet (mkL m) = some m := by
  obtain ⟨p1, p2, p3, p4⟩ := mkB_parts hb
  obtain ⟨⟨a1, a2⟩, ⟨b1, b2⟩, _, hs⟩ := hw
  have l8 := numL_length 8 m.tx.toNat
  have d1 : (mkL m).drop 1 = numL 8 m.tx.toNat ++ (UInt8.ofNat m.sq.length :: (num8L m.sq ++ num2L m.cs)) := by rw [mkL_eq]; rfl
  have d9 : (mkL m).drop 9 = UInt8.ofNat m.sq.length :: (num8L m.sq ++ num2L m.cs) := by
    rw [show 9 = 1 + 8 from rfl, ← List.drop_drop, d1, List.drop_left' l8]
  have d10 : (mkL m).drop 10 = num8L m.sq ++ num2L m.cs := by
    rw [show 10 = 9 + 1 from rfl, ← List.drop_drop, d9]; rfl
  have g0 : (mkL m).getD 0 0 = UInt8.ofNat m.k.toNat := by rw [mkL_eq]; rfl
  have g9 : (mkL m).getD 9 0 = UInt8.ofNat m.sq.length := by
    rw [List.getD_eq_getElem?_getD, ← List.getElem?_drop (i := 9) (j := 0), d9]; rfl
  have n9 : ((mkL m).getD 9 0).toNat = m.sq.length := by rw [g9, UInt8.toNat_ofNat']; omega
  have hlen : (mkL m).length = 10 + 8 * m.sq.length + 2 * m.cs.length := by
    rw [mkL_eq]; simp [l8, num8L_len, num2L_len]; omega
  have hk : (m.k = 1 ∧ m.cs.length = 0) ∨ (m.k = 2 ∧ m.cs.length = m.sq.length) := by
    unfold mkB at hb
    have h2 := (Bool.and_eq_true_iff.1 hb).2
    by_cases hk : m.k = 1
    · rw [if_pos hk] at h2; exact Or.inl ⟨hk, of_decide_eq_true h2⟩
    · rw [if_neg hk] at h2
      by_cases hk2 : m.k = 2
      · rw [if_pos hk2] at h2; exact Or.inr ⟨hk2, of_decide_eq_true (Bool.and_eq_true_iff.1 h2).1⟩
      · rw [if_neg hk2] at h2; cases h2
  have hmk : mkOf (mkL m) m.cs.length = m := by
    unfold mkOf
    rw [g0, d1, n9, d10, List.take_left' l8, valL_numL 8 _ (by omega), byteNat a1 a2]
    have e1 : chunk 8 m.sq.length (num8L m.sq ++ num2L m.cs) = m.sq := chunk_put 8 _ (fun _ => rfl) m.sq (fun v hv => by have := hs v hv; omega) _
    have e2 : chunk 2 m.cs.length ((num8L m.sq ++ num2L m.cs).drop (8 * m.sq.length)) = m.cs := by
      rw [List.drop_left' (num8L_len m.sq)]
      have := chunk_put 2 (fun v => numL 2 v.toNat) (fun _ => rfl) m.cs (fun v hv => by have := p4 v hv; omega) []
      rwa [List.append_nil] at this
    rw [e1, e2, Int.toNat_of_nonneg b1]
  rw [mkget_end n9.symm (by rw [hlen]; omega) (show m.cs.length ≤ m.sq.length by omega), hmk, hb]
  rfl
theorem mkget_back {b : List UInt8} {m : Mk} (h : mkGet b = some m) : mkB m = true ∧ m.wf ∧ mkL m = b := by
  unfold mkGet at h
  by_cases h1 : b.length < 10 ∨ (b.drop 10).length < 8 * (b.getD 9 0).toNat
  · rw [if_pos h1] at h; cases h
  · rw [if_neg h1] at h
    by_cases h2 : (b.drop 10).length - 8 * (b.getD 9 0).toNat = 2 * mkC b
    · rw [if_pos h2] at h
      by_cases hb : mkB (mkOf b (mkC b)) = true
      · rw [if_pos hb] at h
        have e := Option.some.inj h
        subst e
        refine ⟨hb, mkOf_wf _ _, ?_⟩
        rw [mkL_eq]
        unfold mkOf
        simp only [Int.toNat_natCast, chunk_length]
        simp only [not_or, Nat.not_lt] at h1
        obtain ⟨q1, q2⟩ := h1
        have f8 : num8L (chunk 8 (b.getD 9 0).toNat (b.drop 10)) = (b.drop 10).take (8 * (b.getD 9 0).toNat) := flat_chunk 8 _ (fun _ => rfl) _ _ q2
        have f2 : num2L (chunk 2 (mkC b) ((b.drop 10).drop (8 * (b.getD 9 0).toNat))) = ((b.drop 10).drop (8 * (b.getD 9 0).toNat)).take (2 * mkC b) := flat_chunk 2 _ (fun _ => rfl) _ _ (by rw [List.length_drop]; omega)
        have e8 : ((b.drop 1).take 8).length = 8 := by simp; omega
        have n8 := numL_valL ((b.drop 1).take 8)
        rw [e8] at n8
        rw [f8, f2, n8, UInt8.ofNat_toNat, UInt8.ofNat_toNat, List.take_of_length_le (l := (b.drop 10).drop _) (by rw [List.length_drop]; omega), List.take_append_drop]
        have g9 : b.drop 9 = b.getD 9 0 :: b.drop 10 := by
          rw [List.drop_eq_getElem_cons (show 9 < b.length by omega), List.getD_eq_getElem?_getD, List.getElem?_eq_getElem (show 9 < b.length by omega)]
          rfl
        have s1 : (b.drop 1).take 8 ++ b.drop 9 = b.drop 1 := by
          have := List.take_append_drop 8 (b.drop 1)
          rwa [List.drop_drop] at this
        rw [← g9, s1]
        cases b with
        | nil => simp at q1
        | cons c r => rfl
      · rw [if_neg hb] at h; cases h
    · rw [if_neg h2] at h; cases h
end Go.Proofs.YtjdfodmialhakaaDoor
