/- Several texts in one: see each part's head. -/
import Derived.Test.YtgklopgeimjgiaaGreatDoorJ2
/- Several texts in one: see each part's head. -/
/- Documents: the plain law (which may be, their size, their bytes, their rows). -/
namespace Go.Proofs.YtgklopgeimjgiaaGreatDoor

/-- A document: its row's table, its row, its documents. -/
inductive De where
  | mk (tb : Int) (row : List V) (kids : List De)
def De.tb : De → Int | .mk t _ _ => t
def De.row : De → List V | .mk _ r _ => r
def De.kids : De → List De | .mk _ _ k => k
/-- agg's left, over the documents of one. -/
def leftK (f : Int → De → Int) : Int → List De → Int
  | m, [] => m
  | m, k :: ks => if f m k < 0 then -1 else leftK f (f m k) ks
def leftI : Nat → Int → De → Int
  | 0, _, _ => -1
  | deep + 1, most, d => if most - 1 < 0 then -1 else leftK (leftI deep) (most - 1) d.kids
def sizeK (f : Int → De → Int) (most : Int) : Int → List De → Int
  | n, [] => n
  | n, k :: ks => if f (most - n) k < 0 then -1 else sizeK f most (n + f (most - n) k) ks
def sizeI : Nat → Int → De → Int
  | 0, _, _ => -1
  | deep + 1, most, d => if most < 1 then -1 else sizeK (sizeI deep) most 1 d.kids
theorem sizeK_left {f g : Int → De → Int} (most : Int) (h : ∀ m k, (g m k < 0 ∧ f m k = -1) ∨ (0 ≤ g m k ∧ g m k ≤ m ∧ f m k = m - g m k)) : ∀ (ks : List De) (n : Int), 0 ≤ n → n ≤ most →
    ((sizeK g most n ks = -1 ∧ leftK f (most - n) ks = -1) ∨ (n ≤ sizeK g most n ks ∧ sizeK g most n ks ≤ most ∧ leftK f (most - n) ks = most - sizeK g most n ks))
  | [], n, _, h1 => Or.inr ⟨Int.le_refl _, h1, rfl⟩
  | k :: ks, n, h0, h1 => by
    rcases h (most - n) k with ⟨h2, h3⟩ | ⟨h2, h3, h4⟩
    · left; simp only [sizeK, leftK]; rw [if_pos h2, if_pos (by omega)]; exact ⟨rfl, rfl⟩
    · have ih := sizeK_left most h ks (n + g (most - n) k) (by omega) (by omega)
      simp only [sizeK, leftK]
      rw [if_neg (by omega), if_neg (by omega), h4, show most - n - g (most - n) k = most - (n + g (most - n) k) by omega]
      rcases ih with ih | ih
      · exact Or.inl ih
      · right; omega
theorem sizeI_left : ∀ (deep : Nat) (most : Int) (d : De), (sizeI deep most d < 0 ∧ leftI deep most d = -1) ∨ (0 ≤ sizeI deep most d ∧ sizeI deep most d ≤ most ∧ leftI deep most d = most - sizeI deep most d)
  | 0, _, _ => by left; simp [sizeI, leftI]
  | deep + 1, most, d => by
    simp only [sizeI, leftI]
    by_cases h : most < 1
    · left; rw [if_pos h, if_pos (by omega)]; exact ⟨by omega, rfl⟩
    · rw [if_neg h, if_neg (by omega)]
      rcases sizeK_left most (fun m k => sizeI_left deep m k) d.kids 1 (by omega) (by omega) with h1 | h1
      · left; omega
      · right; omega
/-- The size of a document: how many rows it has; 0: it may not be. -/
def sizeD (d : De) : Int := max (sizeI 8 200 d) 0
theorem size_left (d : De) : (leftI 8 200 d < 0 ∧ sizeD d = 0) ∨ (0 ≤ leftI 8 200 d ∧ sizeD d = 200 - leftI 8 200 d) := by
  unfold sizeD
  rcases sizeI_left 8 200 d with h | h <;> omega
/-- The documents within one, itself first. -/
def preD : De → List De
  | .mk t r ks => .mk t r ks :: ks.attach.flatMap fun x => preD x.1
  termination_by d => SizeOf.sizeOf d
  decreasing_by have := List.sizeOf_lt_of_mem x.2; simp only [De.mk.sizeOf_spec]; omega
theorem preD_eq (d : De) : preD d = d :: d.kids.flatMap preD := by
  cases d with
  | mk t r ks =>
    rw [preD]
    simp only [De.kids, List.cons.injEq, true_and]
    conv => rhs; rw [← List.attach_map_subtype_val ks, List.flatMap_map]
/-- Their tables rise. -/
def ordB : List De → Bool
  | a :: b :: ks => decide (a.tb ≤ b.tb) && ordB (b :: ks)
  | _ => true
def nodeB (d : De) : Bool := decide (0 ≤ d.tb) && decide (d.tb < 12) && rowB d.row && ordB d.kids
def fitsB (d : De) : Bool := (preD d).all nodeB
end Go.Proofs.YtgklopgeimjgiaaGreatDoor

/- Documents: the plain law of reading. -/
namespace Go.Proofs.YtgklopgeimjgiaaGreatDoor

end Go.Proofs.YtgklopgeimjgiaaGreatDoor

/- Documents in memory; their sizes. -/
namespace Go.Proofs.YtgklopgeimjgiaaGreatDoor
open Go.RowKit

/-- A slice of documents: each of three cells that read as one. -/
def KRow (R : Value → De → Prop) (w : World) (K : Option Addr) (ks : List De) : Prop :=
  ks.length ≤ 2932031007402 ∧ (ks ≠ [] → ∃ b off, K = some ⟨b, off, none⟩ ∧ b < w.heap.size ∧ ∀ i k, ks[i]? = some k →
    ∃ c0 c1 c2, w.cell? ⟨b, off + i * 3, none⟩ = some c0 ∧ w.cell? ⟨b, off + i * 3 + 1, none⟩ = some c1 ∧ w.cell? ⟨b, off + i * 3 + 2, none⟩ = some c2 ∧ R (.agg #[c0, c1, c2]) k)
/-- A value reads as a document, at most so deep. -/
def DRd : Nat → World → Value → De → Prop
  | 0, _, _, _ => False
  | n + 1, w, v, d => ∃ (A : Option Addr) (ca : Nat) (K : Option Addr) (ck : Nat), v = .agg #[.int .i64 d.tb, .slice A d.row.length ca, .slice K d.kids.length ck] ∧
    (-9223372036854775808 ≤ d.tb ∧ d.tb ≤ 9223372036854775807) ∧ VRow w A d.row ∧ KRow (DRd n w) w K d.kids
theorem KRow.ext {R R' : Value → De → Prop} {w w' : World} {K : Option Addr} {ks : List De} (h : KRow R w K ks) (hb : Below w.heap.size w w') (hR : ∀ v k, R v k → R' v k) : KRow R' w' K ks := by
  refine ⟨h.1, fun hl => ?_⟩
  obtain ⟨b, off, rfl, hlt, hc⟩ := h.2 hl
  refine ⟨b, off, rfl, Nat.lt_of_lt_of_le hlt hb.size, fun i k hi => ?_⟩
  obtain ⟨c0, c1, c2, h0, h1, h2, h3⟩ := hc i k hi
  exact ⟨c0, c1, c2, (hb.cell (p := ⟨b, _, none⟩) hlt).trans h0, (hb.cell (p := ⟨b, _, none⟩) hlt).trans h1, (hb.cell (p := ⟨b, _, none⟩) hlt).trans h2, hR _ _ h3⟩
theorem DRd.ext : ∀ {n : Nat} {w w' : World} {v : Value} {d : De}, DRd n w v d → Below w.heap.size w w' → DRd n w' v d
  | 0, _, _, _, _, h, _ => h.elim
  | _ + 1, _, _, _, _, ⟨A, ca, K, ck, hv, hr, ha, hk⟩, hb => ⟨A, ca, K, ck, hv, hr, ha.ext hb, hk.ext hb (fun _ _ h => DRd.ext h hb)⟩
theorem KRow.at_ {R : Value → De → Prop} {w : World} {K : Option Addr} {ks : List De} (h : KRow R w K ks) {k : Nat} (hk : k < ks.length) :
    ∃ (b off : Nat) (d : De) (c0 c1 c2 : Value), K = some ⟨b, off, none⟩ ∧ b < w.heap.size ∧ ks.drop k = d :: ks.drop (k + 1) ∧ ks[k]? = some d ∧
      w.cell? ⟨b, off + k * 3, none⟩ = some c0 ∧ w.cell? ⟨b, off + k * 3 + 1, none⟩ = some c1 ∧ w.cell? ⟨b, off + k * 3 + 2, none⟩ = some c2 ∧ R (.agg #[c0, c1, c2]) d := by
  obtain ⟨b, off, rfl, hlt, hc⟩ := h.2 (by intro e; simp [e] at hk)
  have hv := List.getElem?_eq_getElem hk
  obtain ⟨c0, c1, c2, h0, h1, h2, h3⟩ := hc k _ hv
  exact ⟨b, off, ks[k], c0, c1, c2, rfl, hlt, List.drop_eq_getElem_cons hk, hv, h0, h1, h2, h3⟩
theorem KRow.kid {n : Nat} {w : World} {K : Option Addr} {ks : List De} (h : KRow (DRd n w) w K ks) {k : Nat} (hk : k < ks.length) :
    ∃ (b off : Nat) (d : De) (A : Option Addr) (ca : Nat) (K' : Option Addr) (ck : Nat), K = some ⟨b, off, none⟩ ∧ b < w.heap.size ∧ ks.drop k = d :: ks.drop (k + 1) ∧ ks[k]? = some d ∧
      w.cell? ⟨b, off + k * 3, none⟩ = some (.int .i64 d.tb) ∧ w.cell? ⟨b, off + k * 3 + 1, none⟩ = some (.slice A d.row.length ca) ∧ w.cell? ⟨b, off + k * 3 + 2, none⟩ = some (.slice K' d.kids.length ck) ∧ DRd n w (.agg #[.int .i64 d.tb, .slice A d.row.length ca, .slice K' d.kids.length ck]) d := by
  obtain ⟨b, off, d, c0, c1, c2, rfl, hb, h1, h2, e0, e1, e2, hd⟩ := h.at_ hk
  cases n with
  | zero => exact hd.elim
  | succ n =>
    obtain ⟨A, ca, K', ck, hv, hr⟩ := hd
    simp only [Value.agg.injEq, Array.mk.injEq, List.cons.injEq, and_true] at hv
    obtain ⟨rfl, rfl, rfl⟩ := hv
    exact ⟨b, off, d, A, ca, K', ck, rfl, hb, h1, h2, e0, e1, e2, A, ca, K', ck, rfl, hr⟩
theorem leftI_0 (most : Int) (d : De) : leftI (0 : Int).toNat most d = -1 := rfl
theorem leftI_pos {dp : Int} (h : 0 < dp) (most : Int) (d : De) : leftI dp.toNat most d = if most - 1 < 0 then -1 else leftK (leftI (dp - 1).toNat) (most - 1) d.kids := by
  rw [show dp.toNat = (dp - 1).toNat + 1 by omega]; rfl
theorem leftK_nil (f : Int → De → Int) (m : Int) : leftK f m [] = m := rfl
theorem leftK_neg {f : Int → De → Int} {m : Int} {k : De} {ks : List De} (h : f m k < 0) : leftK f m (k :: ks) = -1 := by rw [leftK, if_pos h]
theorem leftK_pos {f : Int → De → Int} {m : Int} {k : De} {ks : List De} (h : ¬ f m k < 0) : leftK f m (k :: ks) = leftK f (f m k) ks := by rw [leftK, if_neg h]
theorem leftI_le (dp : Nat) (most : Int) (d : De) : -1 ≤ leftI dp most d ∧ (0 ≤ leftI dp most d → leftI dp most d ≤ most) := by
  rcases sizeI_left dp most d with h | h <;> omega
set_option maxRecDepth 100000 in
theorem left_any : ∀ (n : Nat) (dp most : Int) (v : Value) (d : De) (w : World), DRd n w v d → 0 ≤ dp → dp ≤ 1000 → -1000 ≤ most → most ≤ 1000 →
    Calls Tryz.prog 61 #[v, .int .i64 dp, .int .i64 most] w fun r w' => r = .returned (.int .i64 (leftI dp.toNat most d)) ∧ Below w.heap.size w w'
  | 0, _, _, _, _, _, h, _, _, _, _ => h.elim
  | n + 1, dp, most, v, d, w, hd, h0, h1, h2, h3 => by
    obtain ⟨A, ca, K, ck, rfl, _, _, hk⟩ := hd
    have IH := Lib.hid (left_any n)
    have hlen := hk.1
    by_cases hz : dp = 0
    · subst hz
      rw [leftI_0]
      clear IH hk
      go_enter Tryz.func61, Tryz.ntmps61
      go_wp2
      go_ret
      exact ⟨rfl, (by repeat (first | exact Below.refl _ _ | assumption | refine Below.drew ?_ | refine below_drewN ?_ _ | refine Below.alloc ?_ (by simp <;> omega) _))⟩
    · have hp : 0 < dp := by omega
      rw [leftI_pos hp]
      by_cases hm : most - 1 < 0
      · rw [if_pos hm]
        clear IH hk hz
        have hm1 : most < 1 := by omega
        have hz1 : (dp == 0) = false := by simp; omega
        go_enter Tryz.func61, Tryz.ntmps61
        go_wp2
        go_ret
        exact ⟨rfl, (by repeat (first | exact Below.refl _ _ | assumption | refine Below.drew ?_ | refine below_drewN ?_ _ | refine Below.alloc ?_ (by simp <;> omega) _))⟩
      · rw [if_neg hm]
        have hm1 : 1 ≤ most := by omega
        have hz1 : (dp == 0) = false := by simp; omega
        clear hm hz
        generalize hf : leftI (dp - 1).toNat = f
        have HF := Lib.hid hf
        have HL := Lib.hid (fun m d => by rw [← hf]; exact leftI_le (dp - 1).toNat m d : ∀ m d, -1 ≤ f m d ∧ (0 ≤ f m d → f m d ≤ m))
        clear hf
        generalize hR : leftK f (most - 1) d.kids = R
        have HR := Lib.hid hR
        clear hR
        have HK := Lib.hid hk
        clear hk
        generalize d.tb = tb
        generalize d.row.length = rl
        generalize d.kids = ks at HK HR hlen ⊢
        go_enter Tryz.func61, Tryz.ntmps61
        go_wp2_with fail
        go_loopw [2, 20] (fun m i wr => ∃ (k : Nat) (mm : Int), k ≤ ks.length ∧ 0 ≤ mm ∧ mm ≤ 1000 ∧ i = .int .i64 k ∧ m = .int .i64 mm ∧ Hid (leftK f mm (ks.drop k) = R) ∧ Below w.heap.size w wr) (fun _ i _ => ks.length - (intOf i).toNat)
        case atStart => exact ⟨0, most - 1, by omega, by omega, by omega, rfl, rfl, HR.out, (by repeat (first | exact Below.refl _ _ | assumption | refine Below.drew ?_ | refine below_drewN ?_ _ | refine Below.alloc ?_ (by simp <;> omega) _))⟩
        case round =>
          obtain ⟨k, mm, hk1, m0, m1, rfl, rfl, HS, hbw⟩ := hrel
          by_cases hlt : k < ks.length
          · obtain ⟨b, off, x, A', ca', K', ck', rfl, hb, hdr, _, e0, e1, e2, hx⟩ := (HK.out.ext hbw (fun v k h => DRd.ext (n := n) h hbw)).kid hlt
            have HX := Lib.hid hx
            have HW := Lib.hid hbw
            have HD := Lib.hid hdr
            clear hx hbw hdr
            go_wp2_with fail
            refine (IH.out (dp - 1) mm _ x _ (HX.out.ext (by repeat (first | exact Below.refl _ _ | assumption | refine Below.drew ?_ | refine below_drewN ?_ _ | refine Below.alloc ?_ (by simp <;> omega) _))) (by omega) (by omega) (by omega) (by omega)).mono ?_
            rw [HF.out]
            rintro r w2 ⟨rfl, hb2⟩
            have HW2 : Hid (Below w.heap.size w w2) := bt (bt HW.out (by repeat (first | exact Below.refl _ _ | assumption | refine Below.drew ?_ | refine below_drewN ?_ _ | refine Below.alloc ?_ (by simp <;> omega) _))) hb2
            have hfl := (HL.out mm x).1
            have hfu := (HL.out mm x).2
            clear HX HW hb2
            by_cases hneg : f mm x < 0
            · have hr0 : R = -1 := by rw [← HS.out, HD.out, leftK_neg hneg]
              have HR0 := Lib.hid hr0
              clear hr0 hfu
              generalize f mm x = q at hneg hfl ⊢
              go_wp2_with fail
              go_ret
              exact ⟨ret_int HR0.out.symm, HW2.out⟩
            · have hr0 : leftK f (f mm x) (ks.drop (k + 1)) = R := by rw [← HS.out, HD.out, leftK_pos hneg]
              have HR0 := Lib.hid hr0
              have hq0 : 0 ≤ f mm x := by omega
              have hq1 := hfu hq0
              clear hr0 hfu hneg
              generalize f mm x = q at hq0 hq1 hfl HR0 ⊢
              go_wp2_with fail
              go_roundw
              case rel => exact ⟨k + 1, q, by omega, by omega, by omega, by go_num, rfl, HR0.out, HW2.out⟩
              case measure => simp [intOf]; omega
          · have hr0 : R = mm := by rw [← HS.out, List.drop_of_length_le (by omega), leftK_nil]
            have HR0 := Lib.hid hr0
            clear hr0
            go_wp2_with fail
            go_ret
            exact ⟨ret_int HR0.out.symm, hbw⟩
end Go.Proofs.YtgklopgeimjgiaaGreatDoor

/- VerifySees, the plain law: a state's documents are small enough (docF_size); which gaps there are (gapsP). -/
namespace Go.Proofs.YtgklopgeimjgiaaGreatDoor

/-- At most so deep. -/
def HtD : Nat → De → Prop
  | 0, _ => False
  | n + 1, d => ∀ k ∈ d.kids, HtD n k
theorem preD_pos (d : De) : 1 ≤ (preD d).length := by rw [preD_eq]; simp
theorem sizeK_sum {g : Int → De → Int} {most : Int} : ∀ (ks : List De) (n : Int), (∀ k ∈ ks, ∀ m : Int, ((preD k).length : Int) ≤ m → g m k = (preD k).length) →
    n + ((ks.flatMap preD).length : Int) ≤ most → sizeK g most n ks = n + ((ks.flatMap preD).length : Int)
  | [], n, _, _ => by simp [sizeK]
  | k :: ks, n, hg, h => by
    have e : (((k :: ks).flatMap preD).length : Int) = (preD k).length + ((ks.flatMap preD).length : Int) := by simp
    rw [e] at h ⊢
    have e2 := hg k (List.mem_cons_self ..) (most - n) (by omega)
    simp only [sizeK, e2]
    rw [if_neg (by omega), sizeK_sum ks _ (fun x hx => hg x (List.mem_cons_of_mem _ hx)) (by omega)]
    omega
theorem sizeI_sum : ∀ (deep : Nat) (most : Int) (d : De), HtD deep d → ((preD d).length : Int) ≤ most → sizeI deep most d = (preD d).length
  | 0, _, _, h, _ => absurd h (by simp [HtD])
  | deep + 1, most, d, h, hl => by
    have e : ((preD d).length : Int) = 1 + ((d.kids.flatMap preD).length : Int) := by rw [preD_eq]; simp; omega
    rw [e] at hl ⊢
    simp only [sizeI]
    rw [if_neg (by omega)]
    exact sizeK_sum d.kids 1 (fun k hk m hm => sizeI_sum deep m k (h k hk) hm) hl
theorem sizeD_sum {d : De} (h : HtD 8 d) (hl : (preD d).length ≤ 200) : sizeD d = (preD d).length := by
  unfold sizeD; rw [sizeI_sum 8 200 d h (by omega)]; omega

/-- What lies in a list of which no thing stands twice is as much as that at most. -/
theorem nodup_le {α : Type} : ∀ {l m : List α}, l.Nodup → (∀ x ∈ l, x ∈ m) → l.length ≤ m.length
  | [], m, _, _ => by simp
  | a :: l, m, h, hs => by
    classical
    rw [List.nodup_cons] at h
    have h1 := nodup_le (m := m.erase a) h.2 (fun x hx => (List.mem_erase_of_ne (by rintro rfl; exact h.1 hx)).2 (hs x (List.mem_cons_of_mem _ hx)))
    have h2 := List.length_erase_of_mem (hs a (List.mem_cons_self ..))
    have h3 : 1 ≤ m.length := List.length_pos_of_mem (hs a (List.mem_cons_self ..))
    rw [List.length_cons]; omega

/-- A row of a state: its table, its values. -/
abbrev Rw := Nat × List V
section
variable (kids : Nat → List Nat) (key ref : Nat → List V → V)
/-- Those rows of a table that refer by a value. -/
def ofS (st : List Rw) (c : Nat) (k : V) : List Rw := open Classical in st.filter fun x => decide (x.1 = c ∧ ref c x.2 = k)
/-- The rows that stand right below one, in order. -/
def belowS (st : List Rw) (x : Rw) : List Rw := (kids x.1).flatMap fun c => ofS ref st c (key x.1 x.2)
/-- A row's document. -/
def docF (st : List Rw) : Nat → Rw → De
  | 0, x => .mk x.1 x.2 []
  | f + 1, x => .mk x.1 x.2 ((belowS kids key ref st x).map (docF st f))
/-- What makes a state's tables a forest, and its rows each one of its own. -/
structure StOk (dp : Nat → Nat) (st : List Rw) : Prop where
  nd : st.Nodup
  one : ∀ x ∈ st, ∀ y ∈ st, x.1 = y.1 → key x.1 x.2 = key y.1 y.2 → x = y
  kid : ∀ t c, c ∈ kids t → dp c = dp t + 1
  par : ∀ t t' c, c ∈ kids t → c ∈ kids t' → t = t'
  knd : ∀ t, (kids t).Nodup
  le : ∀ t, dp t ≤ 8
  pos : ∀ t, 1 ≤ dp t
variable {kids key ref} {dp : Nat → Nat} {st : List Rw}
theorem mem_below {x y : Rw} : y ∈ belowS kids key ref st x ↔ y ∈ st ∧ y.1 ∈ kids x.1 ∧ ref y.1 y.2 = key x.1 x.2 := by
  unfold belowS ofS
  rw [List.mem_flatMap]
  constructor
  · rintro ⟨c, hc, hy⟩
    rw [List.mem_filter, decide_eq_true_eq] at hy
    obtain ⟨h1, rfl, h3⟩ := hy
    exact ⟨h1, hc, h3⟩
  · rintro ⟨h1, h2, h3⟩
    exact ⟨y.1, h2, by rw [List.mem_filter, decide_eq_true_eq]; exact ⟨h1, rfl, h3⟩⟩
theorem below_nodup (h : StOk kids key dp st) (x : Rw) : (belowS kids key ref st x).Nodup := by
  unfold belowS
  rw [List.Nodup, List.pairwise_flatMap]
  refine ⟨fun c _ => List.Pairwise.filter _ h.nd, (h.knd x.1).imp fun {a b} hab u hu v hv e => ?_⟩
  unfold ofS at hu hv
  rw [List.mem_filter, decide_eq_true_eq] at hu hv
  exact hab (hu.2.1.symm.trans ((congrArg Prod.fst e).trans hv.2.1))
/-- A row that stands so many below another one. -/
def Anc (kids : Nat → List Nat) (key ref : Nat → List V → V) (st : List Rw) : Nat → Rw → Rw → Prop
  | 0, x, q => x = q ∧ x ∈ st
  | n + 1, x, q => q ∈ st ∧ ∃ y, Anc kids key ref st n x y ∧ y ∈ belowS kids key ref st q
theorem Anc.deps (h : StOk kids key dp st) : ∀ {n : Nat} {x q : Rw}, Anc kids key ref st n x q → dp x.1 = dp q.1 + n
  | 0, x, q, ha => by rw [ha.1]; rfl
  | n + 1, x, q, ha => by
    obtain ⟨_, y, h1, h2⟩ := ha
    have e := Anc.deps h h1
    have e2 := h.kid _ _ (mem_below.1 h2).2.1
    omega
theorem Anc.one (h : StOk kids key dp st) : ∀ {n : Nat} {x p q : Rw}, Anc kids key ref st n x p → Anc kids key ref st n x q → p = q
  | 0, x, p, q, hp, hq => hp.1.symm.trans hq.1
  | n + 1, x, p, q, hp, hq => by
    obtain ⟨p1, y, p2, p3⟩ := hp
    obtain ⟨q1, z, q2, q3⟩ := hq
    have e := Anc.one h p2 q2
    subst e
    have a := mem_below.1 p3
    have b := mem_below.1 q3
    exact h.one p p1 q q1 (h.par _ _ _ a.2.1 b.2.1) (a.2.2.symm.trans b.2.2)
/-- The rows of a document, as the state has them. -/
def rwD (d : De) : Rw := (d.tb.toNat, d.row)
theorem pre_docF (h : StOk kids key dp st) : ∀ (f : Nat) (q : Rw), q ∈ st → (∀ x ∈ (preD (docF kids key ref st f q)).map rwD, ∃ n, Anc kids key ref st n x q) ∧ ((preD (docF kids key ref st f q)).map rwD).Nodup
  | 0, q, hq => by
    rw [preD_eq]
    simp only [docF, De.kids, List.flatMap_nil, List.map_cons, List.map_nil, rwD, De.tb, De.row, Int.toNat_natCast]
    refine ⟨fun x hx => ?_, by simp⟩
    rw [List.mem_singleton] at hx
    exact ⟨0, hx, hx ▸ hq⟩
  | f + 1, q, hq => by
    have e : (preD (docF kids key ref st (f + 1) q)).map rwD = q :: (belowS kids key ref st q).flatMap fun y => (preD (docF kids key ref st f y)).map rwD := by
      rw [preD_eq]
      simp only [docF, De.kids, List.map_cons, rwD, De.tb, De.row, Int.toNat_natCast, List.flatMap_map, List.map_flatMap]
    rw [e]
    have hm : ∀ y ∈ belowS kids key ref st q, ∀ x ∈ (preD (docF kids key ref st f y)).map rwD, ∃ n, Anc kids key ref st n x y := fun y hy => (pre_docF h f y (mem_below.1 hy).1).1
    constructor
    · intro x hx
      rw [List.mem_cons, List.mem_flatMap] at hx
      rcases hx with rfl | ⟨y, hy, hx⟩
      · exact ⟨0, rfl, hq⟩
      · obtain ⟨n, hn⟩ := hm y hy x hx
        exact ⟨n + 1, hq, y, hn, hy⟩
    · rw [List.nodup_cons]
      constructor
      · intro hx
        rw [List.mem_flatMap] at hx
        obtain ⟨y, hy, hx⟩ := hx
        obtain ⟨n, hn⟩ := hm y hy q hx
        have e1 := hn.deps h
        have e2 := h.kid _ _ (mem_below.1 hy).2.1
        omega
      · rw [List.Nodup, List.pairwise_flatMap]
        refine ⟨fun y hy => (pre_docF h f y (mem_below.1 hy).1).2, (List.Pairwise.and_mem.1 (below_nodup h q)).imp fun {a b} hab u hu v hv e => ?_⟩
        obtain ⟨ha, hb, hab⟩ := hab
        subst e
        obtain ⟨n, hn⟩ := hm a ha u hu
        obtain ⟨m, hm⟩ := hm b hb u hv
        have e1 := hn.deps h
        have e2 := hm.deps h
        have e3 := h.kid _ _ (mem_below.1 ha).2.1
        have e4 := h.kid _ _ (mem_below.1 hb).2.1
        have e5 : n = m := by omega
        subst e5
        exact hab (hn.one h hm)
theorem Anc.mem : ∀ {n : Nat} {x q : Rw}, Anc kids key ref st n x q → x ∈ st
  | 0, _, _, h => h.2
  | _ + 1, _, _, h => by obtain ⟨_, y, h1, _⟩ := h; exact h1.mem
theorem ht_docF (h : StOk kids key dp st) : ∀ (f : Nat) (q : Rw), 9 ≤ f + dp q.1 → dp q.1 ≤ 8 → ∀ n, 9 ≤ n + dp q.1 → HtD n (docF kids key ref st f q)
  | 0, q, h1, h2, _, _ => by omega
  | f + 1, q, h1, h2, 0, h3 => by omega
  | f + 1, q, h1, h2, n + 1, h3 => by
    intro k hk
    simp only [docF, De.kids, List.mem_map] at hk
    obtain ⟨y, hy, rfl⟩ := hk
    have e := h.kid _ _ (mem_below.1 hy).2.1
    exact ht_docF h f y (by omega) (h.le _) n (by omega)
/-- A state's documents are small enough. -/
theorem docF_size (h : StOk kids key dp st) (hl : st.length ≤ 200) {q : Rw} (hq : q ∈ st) : 0 < sizeD (docF kids key ref st 8 q) := by
  have h1 := pre_docF (ref := ref) h 8 q hq
  have h2 := nodup_le h1.2 (m := st) (fun x hx => (h1.1 x hx).elim fun _ hn => hn.mem)
  rw [List.length_map] at h2
  have hp := h.pos q.1
  rw [sizeD_sum (ht_docF h 8 q (by omega) (h.le _) 8 (by omega)) (by omega)]
  have := preD_pos (docF kids key ref st 8 q)
  omega
end
end Go.Proofs.YtgklopgeimjgiaaGreatDoor
