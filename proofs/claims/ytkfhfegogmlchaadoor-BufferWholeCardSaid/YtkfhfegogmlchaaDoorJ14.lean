/- Several texts in one: see each part's head. -/
import Derived.Test.YtkfhfegogmlchaaDoorJ12
import Derived.Test.YtkfhfegogmlchaaDoorJ13
import Derived.Test.YtkfhfegogmlchaaDoorJ8
import Derived.Test.YtkfhfegogmlchaaDoorJ11
import Derived.BigQuiet
import Derived.Test.YtkfhfegogmlchaaDoorJ10
/- Events and marks, the plain laws: what was put is got; of what is got the bytes are what it was got of. -/
namespace Go.Proofs.YtkfhfegogmlchaaDoor
open Go.RowKit

theorem putRowL_app_ne (l : List V) (r : List UInt8) : putRowL l ++ r ≠ [] := by
  unfold putRowL
  simp
theorem getRows_put : ∀ (rs : List (List V)), (∀ l ∈ rs, (∀ v ∈ l, v.wf) ∧ rowB l = true) → ∀ n, rs.length ≤ n → getRows n (rs.flatMap putRowL) = some rs
  | [], _, n, _ => by cases n <;> rfl
  | l :: rs, h, n, hn => by
    obtain ⟨h1, h2⟩ := h l (by simp)
    match n, hn with
    | n + 1, hn =>
      rw [List.flatMap_cons]
      have hg := putRow_getRow l h1 h2 (rs.flatMap putRowL)
      rw [getRows_ok (putRowL_app_ne l _) (by rw [hg]), hg]
      simp only [List.drop_left]
      rw [getRows_put rs (fun x hx => h x (by simp [hx])) n (by simpa using hn)]
      rfl
theorem evL_eq (e : Ev) : evL e = numL 8 e.tx.toNat ++ (numL 2 e.tot.toNat ++ (numL 2 e.nth.toNat ++ (UInt8.ofNat e.tb.toNat :: UInt8.ofNat e.k.toNat :: (evRows e).flatMap putRowL))) := by
  simp [evL, evH, List.append_assoc]
theorem byteNat {v : Int} (h0 : 0 ≤ v) (h1 : v ≤ 255) : (((UInt8.ofNat v.toNat).toNat : Nat) : Int) = v := by
  rw [UInt8.toNat_ofNat']
  omega
theorem evget_put (e : Ev) (hw : e.wf) (hb : evB e = true) (hv1 : ∀ v ∈ e.bf, v.wf) (hv2 : ∀ v ∈ e.af, v.wf) : evGet (evL e) = some e := by
  have hg : evG e = true := by unfold evB at hb; exact (Bool.and_eq_true_iff.1 hb).1
  have hr : evR e = true := by unfold evB at hb; exact (Bool.and_eq_true_iff.1 hb).2
  obtain ⟨⟨w1, w2⟩, _⟩ := hw
  obtain ⟨c1, c2, c3, c4, c5, c6, c7, c8⟩ := of_decide_eq_true hg
  have l1 := numL_length 8 e.tx.toNat
  have l2 := numL_length 2 e.tot.toNat
  have l3 := numL_length 2 e.nth.toNat
  have hlen : 14 ≤ (evL e).length := by rw [evL_eq]; simp [l1, l2, l3]; omega
  have d8 : (evL e).drop 8 = numL 2 e.tot.toNat ++ (numL 2 e.nth.toNat ++ (UInt8.ofNat e.tb.toNat :: UInt8.ofNat e.k.toNat :: (evRows e).flatMap putRowL)) := by
    rw [evL_eq, List.drop_left' l1]
  have d10 : (evL e).drop 10 = numL 2 e.nth.toNat ++ (UInt8.ofNat e.tb.toNat :: UInt8.ofNat e.k.toNat :: (evRows e).flatMap putRowL) := by
    rw [show 10 = 8 + 2 from rfl, ← List.drop_drop, d8, List.drop_left' l2]
  have d12 : (evL e).drop 12 = UInt8.ofNat e.tb.toNat :: UInt8.ofNat e.k.toNat :: (evRows e).flatMap putRowL := by
    rw [show 12 = 10 + 2 from rfl, ← List.drop_drop, d10, List.drop_left' l3]
  have d14 : (evL e).drop 14 = (evRows e).flatMap putRowL := by
    rw [show 14 = 12 + 2 from rfl, ← List.drop_drop, d12]; rfl
  have hrows : ∀ l ∈ evRows e, (∀ v ∈ l, v.wf) ∧ rowB l = true := by
    unfold evRows
    unfold evR at hr
    by_cases h1 : e.k = 1 ∨ e.k = 4
    · rw [if_pos h1] at hr ⊢
      intro l hl
      obtain rfl : l = e.af := by simpa using hl
      exact ⟨hv2, (Bool.and_eq_true_iff.1 hr).1⟩
    · rw [if_neg h1] at hr ⊢
      by_cases h3 : e.k = 3
      · rw [if_pos h3] at hr ⊢
        intro l hl
        obtain rfl : l = e.bf := by simpa using hl
        exact ⟨hv1, (Bool.and_eq_true_iff.1 hr).1⟩
      · rw [if_neg h3] at hr ⊢
        intro l hl
        rcases List.mem_cons.1 hl with rfl | hl
        · exact ⟨hv1, (Bool.and_eq_true_iff.1 hr).1⟩
        · obtain rfl : l = e.af := by simpa using hl
          exact ⟨hv2, (Bool.and_eq_true_iff.1 hr).2⟩
  have hrl : (evRows e).length ≤ 2 := by
    unfold evRows
    split
    · simp
    · split <;> simp
  have hhd : evHead (evL e) = ⟨e.tx, e.tot, e.nth, e.k, e.tb, [], []⟩ := by
    unfold evHead
    have t8 : (evL e).take 8 = numL 8 e.tx.toNat := by rw [evL_eq, List.take_left' l1]
    have t2 : ((evL e).drop 8).take 2 = numL 2 e.tot.toNat := by rw [d8, List.take_left' l2]
    have t2' : ((evL e).drop 10).take 2 = numL 2 e.nth.toNat := by rw [d10, List.take_left' l3]
    have g12 : (evL e).getD 12 0 = UInt8.ofNat e.tb.toNat := by
      rw [List.getD_eq_getElem?_getD, ← List.getElem?_drop (i := 12) (j := 0), d12]; rfl
    have g13 : (evL e).getD 13 0 = UInt8.ofNat e.k.toNat := by
      rw [List.getD_eq_getElem?_getD, show 13 = 12 + 1 from rfl, ← List.getElem?_drop, d12]; rfl
    rw [t8, t2, t2', g12, g13, valL_numL 8 _ (by omega), valL_numL 2 _ (by omega), valL_numL 2 _ (by omega), byteNat c3 (by omega), byteNat (by omega) (by omega)]
    simp only [Ev.mk.injEq, and_true]
    omega
  rw [evget_fill hlen (by rw [d14]; exact getRows_put _ hrows 2 hrl), hhd]
  have hfill : fillE ⟨e.tx, e.tot, e.nth, e.k, e.tb, [], []⟩ (evRows e) = some e := by
    unfold fillE evRows
    unfold evR at hr
    by_cases h1 : e.k = 1 ∨ e.k = 4
    · simp only [if_pos h1] at hr ⊢
      have hz := of_decide_eq_true (Bool.and_eq_true_iff.1 hr).2
      have := List.length_eq_zero_iff.1 hz
      rw [← this]
    · simp only [if_neg h1] at hr ⊢
      by_cases h3 : e.k = 3
      · simp only [if_pos h3] at hr ⊢
        have hz := of_decide_eq_true (Bool.and_eq_true_iff.1 hr).2
        have := List.length_eq_zero_iff.1 hz
        rw [← this]
      · simp only [if_neg h3] at hr ⊢
  rw [hfill]
  simp only [hb, if_true]
/-! Marks. -/
theorem chunk_put (w : Nat) (f : Int → List UInt8) (hf : ∀ v, f v = numL w v.toNat) : ∀ (l : List Int), (∀ v ∈ l, 0 ≤ v ∧ v.toNat < 256 ^ w) → ∀ r, chunk w l.length (l.flatMap f ++ r) = l
  | [], _, _ => rfl
  | v :: l, h, r => by
    obtain ⟨h1, h2⟩ := h v (by simp)
    rw [List.flatMap_cons, List.length_cons, chunk, List.append_assoc, hf v, List.take_left' (numL_length w _), List.drop_left' (numL_length w _), valL_numL w _ h2, chunk_put w f hf l (fun x hx => h x (by simp [hx])) r]
    congr 1
    omega
theorem flat_len (w : Nat) (f : Int → List UInt8) (hf : ∀ v, (f v).length = w) : ∀ l : List Int, (l.flatMap f).length = w * l.length
  | [] => rfl
  | v :: l => by rw [List.flatMap_cons, List.length_append, hf, flat_len w f hf l, List.length_cons, Nat.mul_succ, Nat.add_comm]
theorem mkL_eq (m : Mk) : mkL m = UInt8.ofNat m.k.toNat :: (numL 8 m.tx.toNat ++ (UInt8.ofNat m.sq.length :: (num8L m.sq ++ num2L m.cs))) := by
  simp [mkL, mkH, List.append_assoc]
theorem num8L_len (l : List Int) : (num8L l).length = 8 * l.length := flat_len 8 _ (fun _ => numL_length 8 _) l
theorem num2L_len (l : List Int) : (num2L l).length = 2 * l.length := flat_len 2 _ (fun _ => numL_length 2 _) l
theorem mkget_put (m : Mk) (hw : m.wf) (hb : mkB m = true) : mkGet (mkL m) = some m := by
  obtain ⟨p1, p2, p3, p4⟩ := mkB_parts hb
  obtain ⟨⟨a1, a2⟩, ⟨b1, b2⟩, _, hs⟩ := hw
  have l8 := numL_length 8 m.tx.toNat
  have d1 : (mkL m).drop 1 = numL 8 m.tx.toNat ++ (UInt8.ofNat m.sq.length :: (num8L m.sq ++ num2L m.cs)) := by rw [mkL_eq]; rfl
  have d9 : (mkL m).drop 9 = UInt8.ofNat m.sq.length :: (num8L m.sq ++ num2L m.cs) := by
    rw [show 9 = 1 + 8 from rfl, ← List.drop_drop, d1, List.drop_left' l8]
  have d10 : (mkL m).drop 10 = num8L m.sq ++ num2L m.cs := by
    rw [show 10 = 9 + 1 from rfl, ← List.drop_drop, d9]; rfl
  have g0 : (mkL m).getD 0 0 = UInt8.ofNat m.k.toNat := by rw [mkL_eq]; rfl
  have g9 : (mkL m).getD 9 0 = UInt8.ofNat m.sq.length := by
    rw [List.getD_eq_getElem?_getD, ← List.getElem?_drop (i := 9) (j := 0), d9]; rfl
  have n9 : ((mkL m).getD 9 0).toNat = m.sq.length := by rw [g9, UInt8.toNat_ofNat']; omega
  have hlen : (mkL m).length = 10 + 8 * m.sq.length + 2 * m.cs.length := by
    rw [mkL_eq]; simp [l8, num8L_len, num2L_len]; omega
  have hk : (m.k = 1 ∧ m.cs.length = 0) ∨ (m.k = 2 ∧ m.cs.length = m.sq.length) := by
    unfold mkB at hb
    have h2 := (Bool.and_eq_true_iff.1 hb).2
    by_cases hk : m.k = 1
    · rw [if_pos hk] at h2; exact Or.inl ⟨hk, of_decide_eq_true h2⟩
    · rw [if_neg hk] at h2
      by_cases hk2 : m.k = 2
      · rw [if_pos hk2] at h2; exact Or.inr ⟨hk2, of_decide_eq_true (Bool.and_eq_true_iff.1 h2).1⟩
      · rw [if_neg hk2] at h2; cases h2
  have hmk : mkOf (mkL m) m.cs.length = m := by
    unfold mkOf
    rw [g0, d1, n9, d10, List.take_left' l8, valL_numL 8 _ (by omega), byteNat a1 a2]
    have e1 : chunk 8 m.sq.length (num8L m.sq ++ num2L m.cs) = m.sq := chunk_put 8 _ (fun _ => rfl) m.sq (fun v hv => by have := hs v hv; omega) _
    have e2 : chunk 2 m.cs.length ((num8L m.sq ++ num2L m.cs).drop (8 * m.sq.length)) = m.cs := by
      rw [List.drop_left' (num8L_len m.sq)]
      have := chunk_put 2 (fun v => numL 2 v.toNat) (fun _ => rfl) m.cs (fun v hv => by have := p4 v hv; omega) []
      rwa [List.append_nil] at this
    rw [e1, e2, Int.toNat_of_nonneg b1]
  rw [mkget_end n9.symm (by rw [hlen]; omega) (show m.cs.length ≤ m.sq.length by omega), hmk, hb]
  rfl
end Go.Proofs.YtkfhfegogmlchaaDoor

/- Transactions' changes as records of topics, and what a buffer has of them: the plain law. -/
namespace Go.Proofs.YtkfhfegogmlchaaDoor

/-- A change. -/
structure Ch where
  k : Int
  tb : Int
  bf : List V
  af : List V
def cntT (l : List Ch) (t : Int) : Nat := l.countP (fun c => c.tb == t)
theorem cntT_snoc (l : List Ch) (c : Ch) (t : Int) : cntT (l ++ [c]) t = cntT l t + if c.tb = t then 1 else 0 := by
  unfold cntT
  rw [List.countP_append]
  by_cases h : c.tb = t <;> simp [h]
theorem take_snoc1 {α : Type} {l : List α} {k : Nat} {s : α} (hk : l[k]? = some s) : l.take (k + 1) = l.take k ++ [s] := by
  obtain ⟨hlt, e⟩ := List.getElem?_eq_some_iff.1 hk
  rw [List.take_succ_eq_append_getElem hlt, e]
theorem cntT_take {l : List Ch} {j : Nat} {c : Ch} (h : l[j]? = some c) (t : Int) : cntT (l.take (j + 1)) t = cntT (l.take j) t + if c.tb = t then 1 else 0 := by
  rw [take_snoc1 h, cntT_snoc]
theorem cntT_le (l : List Ch) (j : Nat) (t : Int) : cntT (l.take j) t ≤ cntT l t := List.Sublist.countP_le (List.take_sublist j l)
theorem cntT_lt {l : List Ch} {j : Nat} {c : Ch} (h : l[j]? = some c) : cntT (l.take j) c.tb < cntT l c.tb := by
  have h1 := cntT_take h c.tb
  have h2 := cntT_le l (j + 1) c.tb
  rw [if_pos rfl] at h1
  omega
/-- The event of a change. -/
def evAt (tx : Int) (l : List Ch) (j : Nat) (c : Ch) : Ev := ⟨tx, j, cntT (l.take j) c.tb, c.k, c.tb, c.bf, c.af⟩
def cntsOf (nt : Nat) (l : List Ch) : List Int := (List.range nt).map fun (k : Nat) => (cntT l (k : Int) : Int)
theorem cntsOf_length (nt : Nat) (l : List Ch) : (cntsOf nt l).length = nt := by simp [cntsOf]
theorem cntsOf_at {nt k : Nat} (l : List Ch) (h : k < nt) : (cntsOf nt l)[k]? = some (cntT l (k : Int) : Int) := by
  simp [cntsOf, h]
/-- A transaction's changes may be: each of a known table, each an event that may be. -/
def okC (nt : Nat) (l : List Ch) : Prop := ∀ (j : Nat) (c : Ch), l[j]? = some c → 0 ≤ c.tb ∧ c.tb < nt ∧ evB (evAt 0 l j c) = true
theorem cnts_sum {nt : Nat} {l : List Ch} (h : ∀ c ∈ l, 0 ≤ c.tb ∧ c.tb < nt) : (cntsOf nt l).sum = l.length := by
  have key : ∀ m : List Ch, (∀ c ∈ m, 0 ≤ c.tb ∧ c.tb < nt) → sumN (fun k => cntT m (k : Int)) nt = m.length := by
    intro m
    induction m with
    | nil => intro _; exact sumN_zero nt
    | cons c m ih =>
      intro hm
      obtain ⟨h1, h2⟩ := hm c (by simp)
      have h3 := ih (fun x hx => hm x (by simp [hx]))
      have h4 := sumN_one (f := fun k => cntT m (k : Int)) (j := c.tb.toNat) nt (by omega)
      rw [h3] at h4
      rw [List.length_cons, ← h4]
      refine sumN_congr nt (fun k _ => ?_)
      show cntT (c :: m) (k : Int) = _
      unfold cntT
      rw [List.countP_cons]
      by_cases e : k = c.tb.toNat
      · rw [if_pos e, if_pos (by simp; omega)]
      · rw [if_neg e, if_neg (by simp; omega)]; rfl
  have h2 : ∀ n, ((List.range n).map fun (k : Nat) => (cntT l (k : Int) : Int)).sum = sumN (fun k => cntT l (k : Int)) n := by
    intro n
    induction n with
    | zero => rfl
    | succ n ih => rw [List.range_succ, List.map_append, List.sum_append, ih]; simp [sumN]
  unfold cntsOf
  rw [h2, key l h]
/-- The tables of the transactions' changes. -/
def tabsOf (ls : List (List Ch)) : List (List Nat) := ls.map fun l => l.map fun c => c.tb.toNat
theorem tabs_length (ls : List (List Ch)) : (tabsOf ls).length = ls.length := by simp [tabsOf]
theorem tabs_at {ls : List (List Ch)} {i : Nat} {l : List Ch} (h : ls[i]? = some l) : (tabsOf ls).getD i [] = l.map fun c => c.tb.toNat := by
  simp [tabsOf, List.getD_eq_getElem?_getD, h]
theorem tabs_count {ls : List (List Ch)} {i k : Nat} {l : List Ch} (h : ls[i]? = some l) (hp : ∀ c ∈ l, 0 ≤ c.tb) : ((tabsOf ls).getD i []).count k = cntT l (k : Int) := by
  rw [tabs_at h]
  unfold cntT
  rw [List.count, List.countP_map]
  refine List.countP_congr (fun c hc => ?_)
  have := hp c hc
  simp
  omega
/-- A record of an event. -/
def recE (tx : Int) (l : List Ch) (j : Nat) : Nat × ByteArray := match l[j]? with
  | some c => (c.tb.toNat + 1, ⟨(evL (evAt tx l j c)).toArray⟩)
  | none => (0, ByteArray.empty)
def evsTo (tx : Int) (l : List Ch) (j : Nat) : List (Nat × ByteArray) := (List.range j).map (recE tx l)
theorem evsTo_succ (tx : Int) (l : List Ch) (j : Nat) : evsTo tx l (j + 1) = evsTo tx l j ++ [recE tx l j] := by
  simp [evsTo, List.range_succ]
theorem evsTo_length (tx : Int) (l : List Ch) (j : Nat) : (evsTo tx l j).length = j := by simp [evsTo]
def sqOk (nt : Nat) (sq : List Int) : Prop := sq.length = nt ∧ ∀ v ∈ sq, 0 ≤ v ∧ v ≤ 18446744073709551615
/-- The mark at the head, and at the end, of a transaction. -/
def mkAt (nt : Nat) (tx : Int) (l : List Ch) (e : Bool) (sq : List Int) : Mk := if e then ⟨2, tx, cntsOf nt l, sq⟩ else ⟨1, tx, [], sq⟩
def recM (nt : Nat) (tx : Int) (l : List Ch) (e : Bool) (sq : List Int) : Nat × ByteArray := (0, ⟨(mkL (mkAt nt tx l e sq)).toArray⟩)
/-- A transaction's records. -/
def outOf (nt : Nat) (tx : Int) (l : List Ch) (s1 s2 : List Int) : List (Nat × ByteArray) := recM nt tx l false s1 :: (evsTo tx l l.length ++ [recM nt tx l true s2])
/-- Records are put behind their topics'. -/
def addR (R : Nat → List ByteArray) (out : List (Nat × ByteArray)) (n : Nat) : List ByteArray := R n ++ (out.filter fun p => p.1 == n).map (·.2)
theorem addR_nil (R : Nat → List ByteArray) : addR R [] = R := by funext n; simp [addR]
theorem addR_snoc (R : Nat → List ByteArray) (out : List (Nat × ByteArray)) (p : Nat × ByteArray) (n : Nat) : addR R (out ++ [p]) n = addR R out n ++ if p.1 = n then [p.2] else [] := by
  unfold addR
  rw [List.filter_append, List.map_append, List.append_assoc]
  by_cases h : p.1 = n <;> simp [h]
/-- The records of a table's topic. -/
theorem evs_topic (tx : Int) (l : List Ch) (hp : ∀ c ∈ l, 0 ≤ c.tb) (k : Nat) : ∀ m, m ≤ l.length → (((evsTo tx l m).filter fun p => p.1 == k + 1).map (·.2)).length = cntT (l.take m) (k : Int) ∧
    ∀ a t, (((evsTo tx l m).filter fun p => p.1 == k + 1).map (·.2))[a]? = some t → ∃ (j : Nat) (c : Ch), l[j]? = some c ∧ c.tb = k ∧ cntT (l.take j) (k : Int) = a ∧ t = ⟨(evL (evAt tx l j c)).toArray⟩ := by
  intro m
  induction m with
  | zero => intro _; exact ⟨by simp [evsTo, cntT], fun a t h => by simp [evsTo] at h⟩
  | succ m ih =>
    intro hm
    obtain ⟨h1, h2⟩ := ih (by omega)
    have hc : l[m]? = some l[m] := List.getElem?_eq_getElem (by omega)
    have hpos := hp l[m] (List.getElem_mem (by omega))
    have hre : recE tx l m = (l[m].tb.toNat + 1, ⟨(evL (evAt tx l m l[m])).toArray⟩) := by unfold recE; rw [hc]
    have hct := cntT_take hc (k : Int)
    generalize l[m] = c at hc hpos hre hct
    rw [evsTo_succ, hre, List.filter_append, List.map_append]
    by_cases e : c.tb = (k : Int)
    · have e1 : (c.tb.toNat + 1 == k + 1) = true := by simp; omega
      rw [if_pos e] at hct
      refine ⟨by simp only [List.length_append, h1, hct, List.filter_cons, e1, if_true]; rfl, fun a t h => ?_⟩
      rw [List.getElem?_append] at h
      split at h
      · exact h2 a t h
      · next hge =>
        simp only [List.filter_cons, e1, if_true, List.filter_nil, List.map_cons, List.map_nil] at h
        rw [h1] at h hge
        have ha : a = cntT (l.take m) (k : Int) := by
          rcases Nat.lt_or_ge (cntT (l.take m) (k : Int)) a with hlt | hlt
          · rw [List.getElem?_eq_none (by simp; omega)] at h; cases h
          · omega
        subst ha
        simp at h
        exact ⟨m, c, hc, e, rfl, h.symm⟩
    · have e1 : (c.tb.toNat + 1 == k + 1) = false := by simp; omega
      rw [if_neg e] at hct
      simp only [List.filter_cons, e1, List.filter_nil, List.map_nil, List.append_nil, Bool.false_eq_true, if_false]
      exact ⟨by rw [h1, hct]; omega, h2⟩
theorem evs_zero (tx : Int) (l : List Ch) : ∀ m, m ≤ l.length → ((evsTo tx l m).filter fun p => p.1 == 0) = [] := by
  intro m
  induction m with
  | zero => intro _; simp [evsTo]
  | succ m ih =>
    intro hm
    have hc : l[m]? = some l[m] := List.getElem?_eq_getElem (by omega)
    have hre : recE tx l m = (l[m].tb.toNat + 1, ⟨(evL (evAt tx l m l[m])).toArray⟩) := by unfold recE; rw [hc]
    rw [evsTo_succ, hre, List.filter_append, ih (by omega)]
    simp
theorem evs_far (tx : Int) (l : List Ch) (nt : Nat) (hp : ∀ c ∈ l, 0 ≤ c.tb ∧ c.tb < nt) {p : Nat × ByteArray} (h : p ∈ evsTo tx l l.length) : p.1 < nt + 1 := by
  obtain ⟨j, hj, rfl⟩ := List.mem_map.1 h
  have hj := List.mem_range.1 hj
  have hc : l[j]? = some l[j] := List.getElem?_eq_getElem hj
  have := hp _ (List.getElem_mem hj)
  unfold recE
  rw [hc]
  show l[j].tb.toNat + 1 < _
  omega
def RecM (nt : Nat) (first : Int) (ls : List (List Ch)) (a : Nat) (t : ByteArray) : Prop := ∃ l sq, ls[a / 2]? = some l ∧ sqOk nt sq ∧ t = ⟨(mkL (mkAt nt (first + (a / 2 : Nat)) l (a % 2 == 1) sq)).toArray⟩
def RecE (first : Int) (ls : List (List Ch)) (k a : Nat) (t : ByteArray) : Prop := ∃ (i : Nat) (l : List Ch) (j : Nat) (c : Ch), ls[i]? = some l ∧ l[j]? = some c ∧ c.tb = k ∧ a = preT (tabsOf ls) i k + cntT (l.take j) (k : Int) ∧ t = ⟨(evL (evAt (first + (i : Nat)) l j c)).toArray⟩
/-- The topics of the first i transactions. -/
structure MadeR (nt : Nat) (first : Int) (ls : List (List Ch)) (i : Nat) (R : Nat → List ByteArray) : Prop where
  l0 : (R 0).length = 2 * i
  m : ∀ (a : Nat) t, (R 0)[a]? = some t → RecM nt first ls a t
  lk : ∀ k, k < nt → (R (k + 1)).length = preT (tabsOf ls) i k
  e : ∀ k, k < nt → ∀ (a : Nat) t, (R (k + 1))[a]? = some t → RecE first ls k a t
theorem MadeR.start (nt : Nat) (first : Int) (ls : List (List Ch)) : MadeR nt first ls 0 (fun _ => []) :=
  ⟨rfl, fun a t h => by simp at h, fun _ _ => rfl, fun _ _ a t h => by simp at h⟩
theorem MadeR.next {nt : Nat} {first : Int} {ls : List (List Ch)} {i : Nat} {R : Nat → List ByteArray} {l : List Ch} {s1 s2 : List Int} (h : MadeR nt first ls i R) (hl : ls[i]? = some l) (hp : ∀ c ∈ l, 0 ≤ c.tb ∧ c.tb < nt) (h1 : sqOk nt s1) (h2 : sqOk nt s2) :
    MadeR nt first ls (i + 1) (addR R (outOf nt (first + (i : Nat)) l s1 s2)) := by
  have e0 : addR R (outOf nt (first + (i : Nat)) l s1 s2) 0 = R 0 ++ [(recM nt (first + (i : Nat)) l false s1).2, (recM nt (first + (i : Nat)) l true s2).2] := by
    have hz := evs_zero (first + (i : Nat)) l l.length (Nat.le_refl _)
    unfold addR outOf
    rw [List.filter_cons, List.filter_append, hz]
    simp [recM]
  have ek : ∀ k, addR R (outOf nt (first + (i : Nat)) l s1 s2) (k + 1) = R (k + 1) ++ ((evsTo (first + (i : Nat)) l l.length).filter fun p => p.1 == k + 1).map (·.2) := by
    intro k
    unfold addR outOf
    rw [List.filter_cons, List.filter_append]
    simp [recM]
  have hpp : ∀ c ∈ l, 0 ≤ c.tb := fun c hc => (hp c hc).1
  refine ⟨by rw [e0, List.length_append, h.l0]; simp; omega, fun a t ha => ?_, fun k hk => ?_, fun k hk a t ha => ?_⟩
  · rw [e0, List.getElem?_append] at ha
    split at ha
    · exact h.m a t ha
    · next hge =>
      rw [h.l0] at ha hge
      rcases Nat.lt_trichotomy a (2 * i + 1) with hlt | hlt | hlt
      · obtain rfl : a = 2 * i := by omega
        simp at ha
        refine ⟨l, s1, by rw [show 2 * i / 2 = i by omega]; exact hl, h1, ?_⟩
        rw [show 2 * i / 2 = i by omega, show (2 * i % 2 == 1) = false by simp]
        exact ha.symm
      · subst hlt
        rw [show 2 * i + 1 - 2 * i = 1 by omega] at ha
        simp at ha
        refine ⟨l, s2, by rw [show (2 * i + 1) / 2 = i by omega]; exact hl, h2, ?_⟩
        rw [show (2 * i + 1) / 2 = i by omega, show ((2 * i + 1) % 2 == 1) = true by simp]
        exact ha.symm
      · rw [List.getElem?_eq_none (by simp; omega)] at ha
        cases ha
  · obtain ⟨g1, _⟩ := evs_topic (first + (i : Nat)) l hpp k l.length (Nat.le_refl _)
    rw [ek, List.length_append, h.lk k hk, g1, List.take_length, preT_succ, tabs_count hl hpp]
  · obtain ⟨_, g2⟩ := evs_topic (first + (i : Nat)) l hpp k l.length (Nat.le_refl _)
    rw [ek, List.getElem?_append] at ha
    split at ha
    · exact h.e k hk a t ha
    · next hge =>
      rw [h.lk k hk] at ha hge
      obtain ⟨j, c, hj, hc, hcnt, rfl⟩ := g2 _ t ha
      exact ⟨i, l, j, c, hl, hj, hc, by omega, rfl⟩
end Go.Proofs.YtkfhfegogmlchaaDoor

/- The reference's side of events: has, row, May, Put. -/
namespace Go.Proofs.YtkfhfegogmlchaaDoor
open Go.RowKit

def hasB (k : Int) : Bool := decide (k = 2 ∨ k = 3)
def hasA (k : Int) : Bool := !decide (k = 3)
/-- A row that must be, or must not. -/
def rowM (l : List V) (b : Bool) : Bool := if b then rowB l else decide (l.length = 0)
theorem evR_has (e : Ev) (h : evG e = true) : evR e = (rowM e.bf (hasB e.k) && rowM e.af (hasA e.k)) := by
  obtain ⟨c1, c2, _⟩ := of_decide_eq_true h
  unfold evR
  have hk : e.k = 1 ∨ e.k = 2 ∨ e.k = 3 ∨ e.k = 4 := by omega
  rcases hk with hk | hk | hk | hk <;> rw [hk] <;> simp [rowM, hasB, hasA, Bool.and_comm]
end Go.Proofs.YtkfhfegogmlchaaDoor

/- The reference's side of marks: MayMark, PutMark, CopyMark, SameMark. -/
namespace Go.Proofs.YtkfhfegogmlchaaDoor
open Go.RowKit

theorem run_append_nil (P : Program) (w : World) (base : Nat) (t ty e : TypeId) (i : TypeInfo) (size : Nat) (ht : P.underlying t = some (.slice e)) (hi : P.info? e = some i)
    (v : Value) (n : Nat) (xs : List Value) (hown : w.ownsRow base e size v n xs) (c : Nat) : (Builtin.append_ #[t, t] ty #[v, .slice none 0 c]).run P w = .ok v w := by
  rcases hown.2 with ⟨rfl, rfl⟩ | ⟨g, cap, cur, rfl, _, _, hnc, _⟩
  · simp [Builtin.append_, run_underlying ht, sizeOf, typeInfo, hi, Builtin.lenOf, Builtin.firstCells]
  · simp [Builtin.append_, run_underlying ht, sizeOf, typeInfo, hi, Builtin.lenOf, Builtin.firstCells, hnc, storeCells]
theorem NRow.cells_ {k : IntKind} {w : World} {A : Option Addr} {l : List Int} (h : NRow k w A l) : ∀ ad, A = some ad → ∀ j u, (l.map (Value.int k))[j]? = some u → w.cell? (ad.add j) = some u := by
  rintro ad rfl j u hu
  rw [List.getElem?_map] at hu
  cases hj : l[j]? with
  | none => rw [hj] at hu; cases hu
  | some v =>
    rw [hj] at hu
    simp only [Option.map_some, Option.some.injEq] at hu
    subst hu
    have hne : l ≠ [] := by rintro rfl; simp at hj
    obtain ⟨b, off, e, _, hc⟩ := h.2 hne
    injection e with e
    subst e
    have ea : (⟨b, off, none⟩ : Addr).add j = ⟨b, off + j, none⟩ := by
      unfold Addr.add; split
      · next h0 => subst h0; rfl
      · rfl
    rw [ea]
    exact hc j v hj
end Go.Proofs.YtkfhfegogmlchaaDoor

/- Several texts in one: see each part's head. -/
/- BufferNil: what no buffer answers; heavy of one step. -/
namespace Go.Proofs.YtkfhfegogmlchaaDoor
open Go.RowKit

end Go.Proofs.YtkfhfegogmlchaaDoor

/- BufferNil: the buffer's small methods, at the states that the chapter's example meets. -/
namespace Go.Proofs.YtkfhfegogmlchaaDoor
open Go.RowKit

set_option maxRecDepth 100000 in
theorem fault_ok (B n c : Nat) (A : Option Addr) (tb bd nx fa : Int) (hs : Bool) (w : World) (hb : Blk w B #[.int .i64 tb, .int .i64 bd, .int .u64 nx, .bool hs, .slice A n c, .int .i64 fa] 85) :
    Calls Tryd.prog 22 #[.pointer (some ⟨B, 0, none⟩)] w fun r w' => r = .returned (.int .i64 fa) ∧ w = w' := by
  have z5 := hb.cell 5
  have lt := hb.lt
  simp only [List.getElem?_toArray, List.getElem?_cons_zero, List.getElem?_cons_succ] at z5
  clear hb
  go_enter Tryd.func22, Tryd.ntmps22
  go_wp2
  go_ret
  exact ⟨rfl, rfl⟩
set_option maxRecDepth 100000 in
theorem new_bad (w : World) : Calls Tryd.prog 8 #[.int .i64 0, .int .i64 2] w fun r w' => r = .returned (.tuple #[.pointer none, .int .i64 2]) ∧ w = w' := by
  go_enter Tryd.func8, Tryd.ntmps8
  go_wp2
  go_ret2
  exact ⟨rfl, rfl⟩
set_option maxRecDepth 100000 in
theorem new_ok (w : World) : Calls Tryd.prog 8 #[.int .i64 1, .int .i64 2] w fun r w' => r = .returned (.tuple #[.pointer (some ⟨w.heap.size, 0, none⟩), .int .i64 0]) ∧ w' = w.alloc (.cells #[.int .i64 1, .int .i64 2, .int .u64 0, .bool false, .slice none 0 0, .int .i64 0] 85) := by
  go_enter Tryd.func8, Tryd.ntmps8
  go_wp2
  go_ret2
  exact ⟨rfl, rfl⟩
set_option maxRecDepth 100000 in
theorem from_ok (w : World) : Calls Tryd.prog 17 #[.int .i64 1, .int .i64 2, .int .u64 5] w fun r w' => r = .returned (.tuple #[.pointer (some ⟨w.heap.size, 0, none⟩), .int .i64 0]) ∧ Blk w' w.heap.size #[.int .i64 1, .int .i64 2, .int .u64 5, .bool true, .slice none 0 0, .int .i64 0] 85 ∧ Below w.heap.size w w' := by
  go_enter Tryd.func17, Tryd.ntmps17
  go_wp2_with fail
  refine (new_ok _).mono ?_
  rintro r w1 ⟨rfl, rfl⟩
  go_wp2_with fail
  go_ret2
  exact ⟨rfl, Blk.new _ _ _, (by repeat (first | exact Below.refl _ _ | assumption | refine Below.drew ?_ | refine below_drewN ?_ _ | refine Below.alloc ?_ (by simp <;> omega) _))⟩
def ZV : V := ⟨0, 0, 0, ⟨#[]⟩⟩
set_option maxRecDepth 100000 in
theorem one_ok (w : World) : Calls Tryd.prog 19 #[.int .u64 5] w fun r w' => ∃ g, r = .returned (.agg #[.int .u64 5, .int .i64 0, .int .i64 0, .int .u8 1, .int .i64 0, .slice none 0 0, .slice (some ⟨g, 0, none⟩) 1 1]) ∧ w.heap.size ≤ g ∧ Blk w' g #[.int .u8 0, .int .i64 0, .int .u64 0, .string ⟨#[]⟩] 97 ∧ Below w.heap.size w w' := by
  go_enter Tryd.func19, Tryd.ntmps19
  go_wp2_with fail
  refine bodyPost_ret (v := .agg #[.int .u64 5, .int .i64 0, .int .i64 0, .int .u8 1, .int .i64 0, .slice none 0 0, .slice (some ⟨w.heap.size + 1, 0, none⟩) 1 1]) (by simp [results, Tryd.results19, go_sem]) rfl ?_
  exact ⟨w.heap.size + 1, rfl, by omega, (by repeat (first | exact Blk.at (by simp) | assumption | refine Blk.drew ?_ | refine Blk.old ?_ _)), (by repeat (first | exact Below.refl _ _ | assumption | refine Below.drew ?_ | refine below_drewN ?_ _ | refine Below.alloc ?_ (by simp <;> omega) _))⟩
set_option maxRecDepth 100000 in
theorem last_none (B c : Nat) (A : Option Addr) (tb bd nx fa : Int) (hs : Bool) (w : World) (hb : Blk w B #[.int .i64 tb, .int .i64 bd, .int .u64 nx, .bool hs, .slice A 0 c, .int .i64 fa] 85) :
    Calls Tryd.prog 54 #[.pointer (some ⟨B, 0, none⟩)] w fun r w' => r = .returned (.pointer none) ∧ w = w' := by
  have z4 := hb.cell 4
  have lt := hb.lt
  simp only [List.getElem?_toArray, List.getElem?_cons_zero, List.getElem?_cons_succ] at z4
  clear hb
  go_enter Tryd.func54, Tryd.ntmps54
  go_wp2
  go_ret
  exact ⟨rfl, rfl⟩
set_option maxRecDepth 100000 in
theorem last_one (B c g X : Nat) (tb bd nx fa : Int) (hs : Bool) (w : World) (hb : Blk w B #[.int .i64 tb, .int .i64 bd, .int .u64 nx, .bool hs, .slice (some ⟨g, 0, none⟩) 1 c, .int .i64 fa] 85) (hx : w.cell? ⟨g, 0, none⟩ = some (.pointer (some ⟨X, 0, none⟩))) :
    Calls Tryd.prog 54 #[.pointer (some ⟨B, 0, none⟩)] w fun r w' => r = .returned (.pointer (some ⟨X, 0, none⟩)) ∧ ∃ q, w' = w.drewN q := by
  have z4 := hb.cell 4
  have lt := hb.lt
  have lg := cell_lt hx
  simp only [List.getElem?_toArray, List.getElem?_cons_zero, List.getElem?_cons_succ] at z4
  clear hb
  go_enter Tryd.func54, Tryd.ntmps54
  go_upto_region 3 with fail
  go_quiet (fail)
  go_wp2_with fail
  go_ret
  exact ⟨rfl, _, rfl⟩
set_option maxRecDepth 100000 in
theorem size_one (X E cb cc : Nat) (n mt : Int) (mk k : Int) (nth m sq : Value) (w : World) (hx : Blk w X #[.int .u64 n, .pointer (some ⟨E, 0, none⟩), nth, m] 94) (he : Blk w E #[.int .u8 mk, .int .u64 mt, .slice (some ⟨cb, 0, none⟩) 1 cc, sq] 50) (hc : w.cell? ⟨cb, 0, none⟩ = some (.int .i64 k)) (h0 : 0 ≤ k) (h1 : k ≤ 100) :
    Calls Tryd.prog 31 #[.pointer (some ⟨X, 0, none⟩)] w fun r w' => r = .returned (.int .i64 k) ∧ w = w' := by
  have x1 := hx.cell 1
  have e2 := he.cell 2
  have lx := hx.lt
  have le := he.lt
  have lc := cell_lt hc
  simp only [List.getElem?_toArray, List.getElem?_cons_zero, List.getElem?_cons_succ] at x1 e2
  clear hx he
  go_enter Tryd.func31, Tryd.ntmps31
  go_wp2_with fail
  go_loopw [2, 13] (fun s i wr => ((s = .int .i64 0 ∧ i = .int .i64 0) ∨ (s = .int .i64 k ∧ i = .int .i64 1)) ∧ wr = w) (fun _ i _ => 1 - (intOf i).toNat)
  case atStart => exact ⟨Or.inl ⟨rfl, rfl⟩, rfl⟩
  case round =>
    obtain ⟨h | h, rfl⟩ := hrel
    · obtain ⟨rfl, rfl⟩ := h
      go_wp2_with fail
      go_roundw
      case rel => exact ⟨Or.inr ⟨rfl, rfl⟩, trivial⟩
      case measure => simp [intOf]
    · obtain ⟨rfl, rfl⟩ := h
      go_wp2_with fail
      go_ret
      exact ⟨rfl, rfl⟩
set_option maxRecDepth 100000 in
theorem room_none (B c : Nat) (A : Option Addr) (tb bd nx fa n : Int) (hs : Bool) (w : World) (hb : Blk w B #[.int .i64 tb, .int .i64 bd, .int .u64 nx, .bool hs, .slice A 0 c, .int .i64 fa] 85) :
    Calls Tryd.prog 39 #[.pointer (some ⟨B, 0, none⟩), .int .u64 n] w fun r w' => r = .returned (.pointer none) ∧ w = w' := by
  have z4 := hb.cell 4
  have lt := hb.lt
  simp only [List.getElem?_toArray, List.getElem?_cons_zero, List.getElem?_cons_succ] at z4
  clear hb
  go_enter Tryd.func39, Tryd.ntmps39
  go_wp2_with fail
  go_loopw [13] (fun i wr => i = .int .i64 0 ∧ wr = w) (fun _ _ => 1)
  case atStart => exact ⟨rfl, rfl⟩
  case round =>
    obtain ⟨rfl, rfl⟩ := hrel
    go_wp2_with fail
    go_ret
    exact ⟨rfl, rfl⟩
set_option maxRecDepth 100000 in
theorem room_one (B c g X E cb cc : Nat) (tb nx fa n mt mk k : Int) (hs : Bool) (nth m sq : Value) (w : World) (hb : Blk w B #[.int .i64 tb, .int .i64 2, .int .u64 nx, .bool hs, .slice (some ⟨g, 0, none⟩) 1 c, .int .i64 fa] 85) (hg : w.cell? ⟨g, 0, none⟩ = some (.pointer (some ⟨X, 0, none⟩)))
    (hx : Blk w X #[.int .u64 n, .pointer (some ⟨E, 0, none⟩), nth, m] 94) (he : Blk w E #[.int .u8 mk, .int .u64 mt, .slice (some ⟨cb, 0, none⟩) 1 cc, sq] 50) (hc : w.cell? ⟨cb, 0, none⟩ = some (.int .i64 k)) (h0 : 0 ≤ k) (h1 : k ≤ 2) :
    Calls Tryd.prog 39 #[.pointer (some ⟨B, 0, none⟩), .int .u64 n] w fun r w' => r = .returned (.pointer (some ⟨X, 0, none⟩)) ∧ w = w' := by
  have HSZ := Lib.hid (size_one X E cb cc n mt mk k nth m sq w hx he hc h0 (by omega))
  have z1 := hb.cell 1
  have z4 := hb.cell 4
  have x0 := hx.cell 0
  have x1 := hx.cell 1
  have lt := hb.lt
  have lx := hx.lt
  have lg := cell_lt hg
  simp only [List.getElem?_toArray, List.getElem?_cons_zero, List.getElem?_cons_succ] at z1 z4 x0 x1
  clear hb hx he hc
  go_enter Tryd.func39, Tryd.ntmps39
  go_wp2_with fail
  go_loopw [5, 13] (fun s i wr => s = .int .i64 0 ∧ i = .int .i64 0 ∧ wr = w) (fun _ _ _ => 1)
  case atStart => exact ⟨rfl, rfl, rfl⟩
  case round =>
    obtain ⟨rfl, rfl, rfl⟩ := hrel
    go_wp2_with fail
    refine HSZ.out.mono ?_
    rintro r w1 ⟨rfl, rfl⟩
    go_wp2_with fail
    go_ret
    exact ⟨rfl, rfl⟩
end Go.Proofs.YtkfhfegogmlchaaDoor
