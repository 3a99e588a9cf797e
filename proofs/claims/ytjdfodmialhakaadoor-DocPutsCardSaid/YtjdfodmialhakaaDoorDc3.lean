/- Several texts in one: see each part's head. -/
import Derived.Test.YtjdfodmialhakaaDoorBack
/- Documents: the plain law (which may be, their size, their bytes, their rows). -/
namespace Go.Proofs.YtjdfodmialhakaaDoor

/-- A document: its row's table, its row, its documents. -/
inductive De where
  | mk (tb : Int) (row : List V) (kids : List De)
def De.tb : De → Int | .mk t _ _ => t
def De.row : De → List V | .mk _ r _ => r
def De.kids : De → List De | .mk _ _ k => k
theorem De.eta (d : De) : d = .mk d.tb d.row d.kids := by cases d; rfl
/-- agg's left, over the documents of one. -/
def leftK (f : Int → De → Int) : Int → List De → Int
  | m, [] => m
  | m, k :: ks => if f m k < 0 then -1 else leftK f (f m k) ks
def leftI : Nat → Int → De → Int
  | 0, _, _ => -1
  | deep + 1, most, d => if most - 1 < 0 then -1 else leftK (leftI deep) (most - 1) d.kids
def sizeK (f : Int → De → Int) (most : Int) : Int → List De → Int
  | n, [] => n
  | n, k :: ks => if f (most - n) k < 0 then -1 else sizeK f most (n + f (most - n) k) ks
def sizeI : Nat → Int → De → Int
  | 0, _, _ => -1
  | deep + 1, most, d => if most < 1 then -1 else sizeK (sizeI deep) most 1 d.kids
theorem sizeK_left {f g : Int → De → Int} (most : Int) (h : ∀ m k, (g m k < 0 ∧ f m k = -1) ∨ (0 ≤ g m k ∧ g m k ≤ m ∧ f m k = m - g m k)) : ∀ (ks : List De) (n : Int), 0 ≤ n → n ≤ most →
    ((sizeK g most n ks = -1 ∧ leftK f (most - n) ks = -1) ∨ (n ≤ sizeK g most n ks ∧ sizeK g most n ks ≤ most ∧ leftK f (most - n) ks = most - sizeK g most n ks))
  | [], n, _, h1 => Or.inr ⟨Int.le_refl _, h1, rfl⟩
  | k :: ks, n, h0, h1 => by
    rcases h (most - n) k with ⟨h2, h3⟩ | ⟨h2, h3, h4⟩
    · left; simp only [sizeK, leftK]; rw [if_pos h2, if_pos (by omega)]; exact ⟨rfl, rfl⟩
    · have ih := sizeK_left most h ks (n + g (most - n) k) (by omega) (by omega)
      simp only [sizeK, leftK]
      rw [if_neg (by omega), if_neg (by omega), h4, show most - n - g (most - n) k = most - (n + g (most - n) k) by omega]
      rcases ih with ih | ih
      · exact Or.inl ih
      · right; omega
theorem sizeI_left : ∀ (deep : Nat) (most : Int) (d : De), (sizeI deep most d < 0 ∧ leftI deep most d = -1) ∨ (0 ≤ sizeI deep most d ∧ sizeI deep most d ≤ most ∧ leftI deep most d = most - sizeI deep most d)
  | 0, _, _ => by left; simp [sizeI, leftI]
  | deep + 1, most, d => by
    simp only [sizeI, leftI]
    by_cases h : most < 1
    · left; rw [if_pos h, if_pos (by omega)]; exact ⟨by omega, rfl⟩
    · rw [if_neg h, if_neg (by omega)]
      rcases sizeK_left most (fun m k => sizeI_left deep m k) d.kids 1 (by omega) (by omega) with h1 | h1
      · left; omega
      · right; omega
/-- The size of a document: how many rows it has; 0: it may not be. -/
def sizeD (d : De) : Int := max (sizeI 8 200 d) 0
theorem size_left (d : De) : (leftI 8 200 d < 0 ∧ sizeD d = 0) ∨ (0 ≤ leftI 8 200 d ∧ sizeD d = 200 - leftI 8 200 d) := by
  unfold sizeD
  rcases sizeI_left 8 200 d with h | h <;> omega
theorem sizeK_pos {g : Int → De → Int} {most : Int} : ∀ (ks : List De) (n : Int), 0 < n → (∀ m k, g m k < 0 ∨ 0 < g m k) → sizeK g most n ks < 0 ∨ 0 < sizeK g most n ks
  | [], n, h, _ => Or.inr h
  | k :: ks, n, h, hg => by
    simp only [sizeK]
    rcases hg (most - n) k with h1 | h1
    · rw [if_pos h1]; left; omega
    · rw [if_neg (by omega)]; exact sizeK_pos ks _ (by omega) hg
theorem sizeI_pos : ∀ (deep : Nat) (most : Int) (d : De), sizeI deep most d < 0 ∨ 0 < sizeI deep most d
  | 0, _, _ => by left; simp [sizeI]
  | deep + 1, most, d => by
    simp only [sizeI]
    by_cases h : most < 1
    · rw [if_pos h]; left; omega
    · rw [if_neg h]; exact sizeK_pos _ _ (by omega) (fun m k => sizeI_pos deep m k)
/-- The documents within one, itself first. -/
def preD : De → List De
  | .mk t r ks => .mk t r ks :: ks.attach.flatMap fun x => preD x.1
  termination_by d => SizeOf.sizeOf d
  decreasing_by have := List.sizeOf_lt_of_mem x.2; simp only [De.mk.sizeOf_spec]; omega
theorem preD_eq (d : De) : preD d = d :: d.kids.flatMap preD := by
  cases d with
  | mk t r ks =>
    rw [preD]
    simp only [De.kids, List.cons.injEq, true_and]
    conv => rhs; rw [← List.attach_map_subtype_val ks, List.flatMap_map]
/-- Their tables rise. -/
def ordB : List De → Bool
  | a :: b :: ks => decide (a.tb ≤ b.tb) && ordB (b :: ks)
  | _ => true
def nodeB (d : De) : Bool := decide (0 ≤ d.tb) && decide (d.tb < 12) && rowB d.row && ordB d.kids
def fitsB (d : De) : Bool := (preD d).all nodeB
def mayD (d : De) : Bool := decide (0 < sizeD d) && fitsB d
theorem fits_eq (d : De) : fitsB d = (nodeB d && d.kids.all fitsB) := by
  unfold fitsB
  rw [preD_eq, List.all_cons]
  congr 1
  generalize d.kids = ks
  induction ks with
  | nil => rfl
  | cons k ks ih => rw [List.flatMap_cons, List.all_append, List.all_cons, ih]
theorem ordB_iff : ∀ ks : List De, ordB ks = true ↔ ∀ i a b, ks[i]? = some a → ks[i + 1]? = some b → a.tb ≤ b.tb
  | [] => by simp [ordB]
  | [a] => by simp [ordB]
  | a :: b :: ks => by
    rw [ordB, Bool.and_eq_true, decide_eq_true_eq, ordB_iff (b :: ks)]
    constructor
    · rintro ⟨h1, h2⟩ i x y hx hy
      rcases i with _ | i
      · simp only [List.getElem?_cons_zero, Option.some.injEq] at hx
        simp only [Nat.zero_add, List.getElem?_cons_succ, List.getElem?_cons_zero, Option.some.injEq] at hy
        subst hx; subst hy; exact h1
      · exact h2 i x y (by simpa using hx) (by simpa using hy)
    · intro h
      exact ⟨h 0 a b rfl rfl, fun i x y hx hy => h (i + 1) x y (by simpa using hx) (by simpa using hy)⟩
/-- The bytes of one document's row, and how many stand behind it. -/
def nodeL (d : De) : List UInt8 := UInt8.ofNat d.tb.toNat :: (putRowL d.row ++ [UInt8.ofNat d.kids.length, UInt8.ofNat (d.kids.length / 256)])
def putD (d : De) : List UInt8 := (preD d).flatMap nodeL
theorem putD_eq (d : De) : putD d = nodeL d ++ d.kids.flatMap putD := by
  unfold putD
  rw [preD_eq, List.flatMap_cons]
  congr 1
  rw [List.flatMap_assoc]
def bareD (d : De) : De := .mk d.tb d.row []
def rowsD (d : De) : List De := (preD d).map bareD
theorem rowsD_eq (d : De) : rowsD d = bareD d :: d.kids.flatMap rowsD := by
  unfold rowsD
  rw [preD_eq, List.map_cons]
  congr 1
  rw [List.map_flatMap]
end Go.Proofs.YtjdfodmialhakaaDoor

/- Documents: the plain law of reading. -/
namespace Go.Proofs.YtjdfodmialhakaaDoor

def kidsN (l : List UInt8) : Nat := (l.getD 0 0).toNat + 256 * (l.getD 1 0).toNat
def nextK (f : List UInt8 → Option (De × List UInt8)) : Nat → List UInt8 → Option (List De × List UInt8)
  | 0, l => some ([], l)
  | n + 1, l => match f l with
    | none => none
    | some (d, r) => (nextK f n r).map fun x => (d :: x.1, x.2)
/-- The document that bytes begin with, at most so deep, and what stands behind it. -/
def nextD : Nat → List UInt8 → Option (De × List UInt8)
  | 0, _ => none
  | _ + 1, [] => none
  | deep + 1, c :: r => if (getRow r).1 ≠ 0 ∨ r.length < (getRow r).2.2 + 2 then none else
      (nextK (nextD deep) (kidsN (r.drop (getRow r).2.2)) (r.drop ((getRow r).2.2 + 2))).map fun x => (.mk c.toNat (getRow r).2.1 x.1, x.2)
def getDoc (l : List UInt8) : Option De := match nextD 8 l with
  | some (d, []) => if mayD d then some d else none
  | _ => none
theorem nextK_len {f : List UInt8 → Option (De × List UInt8)} (hf : ∀ l d q, f l = some (d, q) → q.length + 3 ≤ l.length) : ∀ (n : Nat) (l : List UInt8) (ks : List De) (q : List UInt8), nextK f n l = some (ks, q) → q.length + 3 * n ≤ l.length
  | 0, l, ks, q, h => by
    simp only [nextK, Option.some.injEq, Prod.mk.injEq] at h
    rw [← h.2]; omega
  | n + 1, l, ks, q, h => by
    simp only [nextK] at h
    cases e : f l with
    | none => rw [e] at h; cases h
    | some x =>
      obtain ⟨d, r⟩ := x
      rw [e] at h
      simp only [Option.map_eq_some_iff] at h
      obtain ⟨⟨ds, q'⟩, h1, h2⟩ := h
      simp only [Prod.mk.injEq] at h2
      obtain ⟨rfl, rfl⟩ := h2
      have h3 := hf l d r e
      have h4 := nextK_len hf n r ds q' h1
      omega
theorem getRow_pos {l : List UInt8} (h : (getRow l).1 = 0) : 1 ≤ (getRow l).2.2 := (getRow_back h).2.2.2.1
theorem nextD_len : ∀ (deep : Nat) (l : List UInt8) (d : De) (q : List UInt8), nextD deep l = some (d, q) → q.length + 3 ≤ l.length
  | 0, l, d, q, h => by simp [nextD] at h
  | deep + 1, [], d, q, h => by simp [nextD] at h
  | deep + 1, c :: r, d, q, h => by
    rw [nextD] at h
    split at h
    · cases h
    · next hn =>
      simp only [Option.map_eq_some_iff] at h
      obtain ⟨⟨ds, q'⟩, h1, h2⟩ := h
      simp only [Prod.mk.injEq] at h2
      obtain ⟨_, rfl⟩ := h2
      have h3 := nextK_len (nextD_len deep) _ _ _ _ h1
      have h4 := getRow_pos (l := r) (by omega)
      simp only [List.length_drop, List.length_cons] at h3 ⊢
      omega
/-- More documents than bytes: none. -/
theorem nextK_many {deep n : Nat} {l : List UInt8} (h : l.length < 3 * n) : nextK (nextD deep) n l = none := by
  cases e : nextK (nextD deep) n l with
  | none => rfl
  | some x =>
    obtain ⟨ks, q⟩ := x
    have := nextK_len (nextD_len deep) n l ks q e
    omega
/-- One more document behind those that were read. -/
theorem nextK_step {f : List UInt8 → Option (De × List UInt8)} {n : Nat} {l r : List UInt8} {d : De} (h : f l = some (d, r)) : nextK f (n + 1) l = (nextK f n r).map fun x => (d :: x.1, x.2) := by
  rw [nextK, h]
theorem nextK_none {f : List UInt8 → Option (De × List UInt8)} {n : Nat} {l : List UInt8} (h : f l = none) : nextK f (n + 1) l = none := by
  rw [nextK, h]
end Go.Proofs.YtjdfodmialhakaaDoor

/- Documents in memory; their sizes. -/
namespace Go.Proofs.YtjdfodmialhakaaDoor
open Go.RowKit

/-- A slice of documents: each of three cells that read as one. -/
def KRow (R : Value → De → Prop) (w : World) (K : Option Addr) (ks : List De) : Prop :=
  ks.length ≤ 2932031007402 ∧ (ks ≠ [] → ∃ b off, K = some ⟨b, off, none⟩ ∧ b < w.heap.size ∧ ∀ i k, ks[i]? = some k →
    ∃ c0 c1 c2, w.cell? ⟨b, off + i * 3, none⟩ = some c0 ∧ w.cell? ⟨b, off + i * 3 + 1, none⟩ = some c1 ∧ w.cell? ⟨b, off + i * 3 + 2, none⟩ = some c2 ∧ R (.agg #[c0, c1, c2]) k)
/-- A value reads as a document, at most so deep. -/
def DRd : Nat → World → Value → De → Prop
  | 0, _, _, _ => False
  | n + 1, w, v, d => ∃ (A : Option Addr) (ca : Nat) (K : Option Addr) (ck : Nat), v = .agg #[.int .i64 d.tb, .slice A d.row.length ca, .slice K d.kids.length ck] ∧
    (-9223372036854775808 ≤ d.tb ∧ d.tb ≤ 9223372036854775807) ∧ VRow w A d.row ∧ KRow (DRd n w) w K d.kids
theorem KRow.ext {R R' : Value → De → Prop} {w w' : World} {K : Option Addr} {ks : List De} (h : KRow R w K ks) (hb : Below w.heap.size w w') (hR : ∀ v k, R v k → R' v k) : KRow R' w' K ks := by
  refine ⟨h.1, fun hl => ?_⟩
  obtain ⟨b, off, rfl, hlt, hc⟩ := h.2 hl
  refine ⟨b, off, rfl, Nat.lt_of_lt_of_le hlt hb.size, fun i k hi => ?_⟩
  obtain ⟨c0, c1, c2, h0, h1, h2, h3⟩ := hc i k hi
  exact ⟨c0, c1, c2, (hb.cell (p := ⟨b, _, none⟩) hlt).trans h0, (hb.cell (p := ⟨b, _, none⟩) hlt).trans h1, (hb.cell (p := ⟨b, _, none⟩) hlt).trans h2, hR _ _ h3⟩
theorem DRd.ext : ∀ {n : Nat} {w w' : World} {v : Value} {d : De}, DRd n w v d → Below w.heap.size w w' → DRd n w' v d
  | 0, _, _, _, _, h, _ => h.elim
  | _ + 1, _, _, _, _, ⟨A, ca, K, ck, hv, hr, ha, hk⟩, hb => ⟨A, ca, K, ck, hv, hr, ha.ext hb, hk.ext hb (fun _ _ h => DRd.ext h hb)⟩
theorem KRow.at_ {R : Value → De → Prop} {w : World} {K : Option Addr} {ks : List De} (h : KRow R w K ks) {k : Nat} (hk : k < ks.length) :
    ∃ (b off : Nat) (d : De) (c0 c1 c2 : Value), K = some ⟨b, off, none⟩ ∧ b < w.heap.size ∧ ks.drop k = d :: ks.drop (k + 1) ∧ ks[k]? = some d ∧
      w.cell? ⟨b, off + k * 3, none⟩ = some c0 ∧ w.cell? ⟨b, off + k * 3 + 1, none⟩ = some c1 ∧ w.cell? ⟨b, off + k * 3 + 2, none⟩ = some c2 ∧ R (.agg #[c0, c1, c2]) d := by
  obtain ⟨b, off, rfl, hlt, hc⟩ := h.2 (by intro e; simp [e] at hk)
  have hv := List.getElem?_eq_getElem hk
  obtain ⟨c0, c1, c2, h0, h1, h2, h3⟩ := hc k _ hv
  exact ⟨b, off, ks[k], c0, c1, c2, rfl, hlt, List.drop_eq_getElem_cons hk, hv, h0, h1, h2, h3⟩
theorem KRow.kid {n : Nat} {w : World} {K : Option Addr} {ks : List De} (h : KRow (DRd n w) w K ks) {k : Nat} (hk : k < ks.length) :
    ∃ (b off : Nat) (d : De) (A : Option Addr) (ca : Nat) (K' : Option Addr) (ck : Nat), K = some ⟨b, off, none⟩ ∧ b < w.heap.size ∧ ks.drop k = d :: ks.drop (k + 1) ∧ ks[k]? = some d ∧
      w.cell? ⟨b, off + k * 3, none⟩ = some (.int .i64 d.tb) ∧ w.cell? ⟨b, off + k * 3 + 1, none⟩ = some (.slice A d.row.length ca) ∧ w.cell? ⟨b, off + k * 3 + 2, none⟩ = some (.slice K' d.kids.length ck) ∧ DRd n w (.agg #[.int .i64 d.tb, .slice A d.row.length ca, .slice K' d.kids.length ck]) d := by
  obtain ⟨b, off, d, c0, c1, c2, rfl, hb, h1, h2, e0, e1, e2, hd⟩ := h.at_ hk
  cases n with
  | zero => exact hd.elim
  | succ n =>
    obtain ⟨A, ca, K', ck, hv, hr⟩ := hd
    simp only [Value.agg.injEq, Array.mk.injEq, List.cons.injEq, and_true] at hv
    obtain ⟨rfl, rfl, rfl⟩ := hv
    exact ⟨b, off, d, A, ca, K', ck, rfl, hb, h1, h2, e0, e1, e2, A, ca, K', ck, rfl, hr⟩
theorem leftI_0 (most : Int) (d : De) : leftI (0 : Int).toNat most d = -1 := rfl
theorem leftI_pos {dp : Int} (h : 0 < dp) (most : Int) (d : De) : leftI dp.toNat most d = if most - 1 < 0 then -1 else leftK (leftI (dp - 1).toNat) (most - 1) d.kids := by
  rw [show dp.toNat = (dp - 1).toNat + 1 by omega]; rfl
theorem leftK_nil (f : Int → De → Int) (m : Int) : leftK f m [] = m := rfl
theorem leftK_neg {f : Int → De → Int} {m : Int} {k : De} {ks : List De} (h : f m k < 0) : leftK f m (k :: ks) = -1 := by rw [leftK, if_pos h]
theorem leftK_pos {f : Int → De → Int} {m : Int} {k : De} {ks : List De} (h : ¬ f m k < 0) : leftK f m (k :: ks) = leftK f (f m k) ks := by rw [leftK, if_neg h]
theorem leftI_le (dp : Nat) (most : Int) (d : De) : -1 ≤ leftI dp most d ∧ (0 ≤ leftI dp most d → leftI dp most d ≤ most) := by
  rcases sizeI_left dp most d with h | h <;> omega
set_option maxRecDepth 100000 in
theorem left_any : ∀ (n : Nat) (dp most : Int) (v : Value) (d : De) (w : World), DRd n w v d → 0 ≤ dp → dp ≤ 1000 → -1000 ≤ most → most ≤ 1000 →
    Calls Tryd.prog 165 #[v, .int .i64 dp, .int .i64 most] w fun r w' => r = .returned (.int .i64 (leftI dp.toNat most d)) ∧ Below w.heap.size w w'
  | 0, _, _, _, _, _, h, _, _, _, _ => h.elim
  | n + 1, dp, most, v, d, w, hd, h0, h1, h2, h3 => by
    obtain ⟨A, ca, K, ck, rfl, _, _, hk⟩ := hd
    have IH := Lib.hid (left_any n)
    have hlen := hk.1
    by_cases hz : dp = 0
    · subst hz
      rw [leftI_0]
      clear IH hk
      go_enter Tryd.func165, Tryd.ntmps165
      go_wp2
      go_ret
      exact ⟨rfl, (by repeat (first | exact Below.refl _ _ | assumption | refine Below.drew ?_ | refine below_drewN ?_ _ | refine Below.alloc ?_ (by simp <;> omega) _))⟩
    · have hp : 0 < dp := by omega
      rw [leftI_pos hp]
      by_cases hm : most - 1 < 0
      · rw [if_pos hm]
        clear IH hk hz
        have hm1 : most < 1 := by omega
        have hz1 : (dp == 0) = false := by simp; omega
        go_enter Tryd.func165, Tryd.ntmps165
        go_wp2
        go_ret
        exact ⟨rfl, (by repeat (first | exact Below.refl _ _ | assumption | refine Below.drew ?_ | refine below_drewN ?_ _ | refine Below.alloc ?_ (by simp <;> omega) _))⟩
      · rw [if_neg hm]
        have hm1 : 1 ≤ most := by omega
        have hz1 : (dp == 0) = false := by simp; omega
        clear hm hz
        generalize hf : leftI (dp - 1).toNat = f
        have HF := Lib.hid hf
        have HL := Lib.hid (fun m d => by rw [← hf]; exact leftI_le (dp - 1).toNat m d : ∀ m d, -1 ≤ f m d ∧ (0 ≤ f m d → f m d ≤ m))
        clear hf
        generalize hR : leftK f (most - 1) d.kids = R
        have HR := Lib.hid hR
        clear hR
        have HK := Lib.hid hk
        clear hk
        generalize d.tb = tb
        generalize d.row.length = rl
        generalize d.kids = ks at HK HR hlen ⊢
        go_enter Tryd.func165, Tryd.ntmps165
        go_wp2_with fail
        go_loopw [2, 20] (fun m i wr => ∃ (k : Nat) (mm : Int), k ≤ ks.length ∧ 0 ≤ mm ∧ mm ≤ 1000 ∧ i = .int .i64 k ∧ m = .int .i64 mm ∧ Hid (leftK f mm (ks.drop k) = R) ∧ Below w.heap.size w wr) (fun _ i _ => ks.length - (intOf i).toNat)
        case atStart => exact ⟨0, most - 1, by omega, by omega, by omega, rfl, rfl, HR.out, (by repeat (first | exact Below.refl _ _ | assumption | refine Below.drew ?_ | refine below_drewN ?_ _ | refine Below.alloc ?_ (by simp <;> omega) _))⟩
        case round =>
          obtain ⟨k, mm, hk1, m0, m1, rfl, rfl, HS, hbw⟩ := hrel
          by_cases hlt : k < ks.length
          · obtain ⟨b, off, x, A', ca', K', ck', rfl, hb, hdr, _, e0, e1, e2, hx⟩ := (HK.out.ext hbw (fun v k h => DRd.ext (n := n) h hbw)).kid hlt
            have HX := Lib.hid hx
            have HW := Lib.hid hbw
            have HD := Lib.hid hdr
            clear hx hbw hdr
            go_wp2_with fail
            refine (IH.out (dp - 1) mm _ x _ (HX.out.ext (by repeat (first | exact Below.refl _ _ | assumption | refine Below.drew ?_ | refine below_drewN ?_ _ | refine Below.alloc ?_ (by simp <;> omega) _))) (by omega) (by omega) (by omega) (by omega)).mono ?_
            rw [HF.out]
            rintro r w2 ⟨rfl, hb2⟩
            have HW2 : Hid (Below w.heap.size w w2) := bt (bt HW.out (by repeat (first | exact Below.refl _ _ | assumption | refine Below.drew ?_ | refine below_drewN ?_ _ | refine Below.alloc ?_ (by simp <;> omega) _))) hb2
            have hfl := (HL.out mm x).1
            have hfu := (HL.out mm x).2
            clear HX HW hb2
            by_cases hneg : f mm x < 0
            · have hr0 : R = -1 := by rw [← HS.out, HD.out, leftK_neg hneg]
              have HR0 := Lib.hid hr0
              clear hr0 hfu
              generalize f mm x = q at hneg hfl ⊢
              go_wp2_with fail
              go_ret
              exact ⟨ret_int HR0.out.symm, HW2.out⟩
            · have hr0 : leftK f (f mm x) (ks.drop (k + 1)) = R := by rw [← HS.out, HD.out, leftK_pos hneg]
              have HR0 := Lib.hid hr0
              have hq0 : 0 ≤ f mm x := by omega
              have hq1 := hfu hq0
              clear hr0 hfu hneg
              generalize f mm x = q at hq0 hq1 hfl HR0 ⊢
              go_wp2_with fail
              go_roundw
              case rel => exact ⟨k + 1, q, by omega, by omega, by omega, by go_num, rfl, HR0.out, HW2.out⟩
              case measure => simp [intOf]; omega
          · have hr0 : R = mm := by rw [← HS.out, List.drop_of_length_le (by omega), leftK_nil]
            have HR0 := Lib.hid hr0
            clear hr0
            go_wp2_with fail
            go_ret
            exact ⟨ret_int HR0.out.symm, hbw⟩
end Go.Proofs.YtjdfodmialhakaaDoor
