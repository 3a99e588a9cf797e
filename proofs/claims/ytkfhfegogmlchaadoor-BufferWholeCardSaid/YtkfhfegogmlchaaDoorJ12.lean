/- Several texts in one: see each part's head. -/
import Derived.Deep.RegionHeld3
import Derived.Test.YtkfhfegogmlchaaDoorJ11
import Derived.Test.YtkfhfegogmlchaaDoorJ10
import Derived.Test.YtkfhfegogmlchaaDoorJ9
/- event.Get: which event bytes are. -/
namespace Go.Proofs.YtkfhfegogmlchaaDoor
open Go.RowKit

/-- The rows that bytes are, at most n. -/
def getRows : Nat → List UInt8 → Option (List (List V))
  | _, [] => some []
  | 0, _ :: _ => none
  | n + 1, c :: r => if (getRow (c :: r)).1 = 0 then (getRows n ((c :: r).drop (getRow (c :: r)).2.2)).map ((getRow (c :: r)).2.1 :: ·) else none
def fillE (e : Ev) (rs : List (List V)) : Option Ev :=
  if e.k = 1 ∨ e.k = 4 then (match rs with | [a] => some { e with af := a } | _ => none)
  else if e.k = 3 then (match rs with | [b] => some { e with bf := b } | _ => none)
  else (match rs with | [b, a] => some { e with bf := b, af := a } | _ => none)
def evHead (b : List UInt8) : Ev := ⟨valL (b.take 8), valL ((b.drop 8).take 2), valL ((b.drop 10).take 2), (b.getD 13 0).toNat, (b.getD 12 0).toNat, [], []⟩
def evGet (b : List UInt8) : Option Ev :=
  if b.length < 14 then none
  else match getRows 2 (b.drop 14) with
    | none => none
    | some rs => match fillE (evHead b) rs with
      | none => none
      | some e => if evB e then some e else none
theorem getRows_ok {n : Nat} {l : List UInt8} (h : l ≠ []) (h0 : (getRow l).1 = 0) : getRows (n + 1) l = (getRows n (l.drop (getRow l).2.2)).map ((getRow l).2.1 :: ·) := by
  cases l with
  | nil => exact absurd rfl h
  | cons c r => rw [getRows, if_pos h0]
theorem getRows_no {n : Nat} {l : List UInt8} (h : l ≠ []) (h0 : ¬ (getRow l).1 = 0) : getRows n l = none := by
  cases l with
  | nil => exact absurd rfl h
  | cons c r =>
    cases n with
    | zero => rw [getRows]
    | succ n => rw [getRows, if_neg h0]
theorem getRows_full {l : List UInt8} (h : l ≠ []) : getRows 0 l = none := by
  cases l with
  | nil => exact absurd rfl h
  | cons c r => rw [getRows]
/-- A row that was got: its slice, and its values. -/
structure RowS where
  A : Option Addr
  c : Nat
  l : List V
def RowS.val (p : RowS) : Value := .slice p.A p.l.length p.c
def RowS.ok (p : RowS) (w : World) : Prop := (∀ v ∈ p.l, v.wf) ∧ p.l.length ≤ 8 ∧ ∃ base, w.ownsRow base 97 4 p.val p.l.length (rowCells p.l)
theorem RowS.ok.below {p : RowS} {w w' : World} (h : p.ok w) (hb : Below w.heap.size w w') : p.ok w' := by
  obtain ⟨h1, h2, base, h3⟩ := h
  exact ⟨h1, h2, base, own_below h3 hb⟩
theorem RowS.ok.grown {p : RowS} {w w' : World} {b : Nat} {e : TypeId} {sz n : Nat} {v : Value} {xs : List Value} (h : p.ok w) (ho : w.ownsRow b e sz v n xs) (hne : 97 ≠ e) (hg : w.grownBy w' v.ownBlock) : p.ok w' := by
  obtain ⟨h1, h2, base, h3⟩ := h
  exact ⟨h1, h2, base, own_grown h3 hg (own_far h3 ho hne)⟩
theorem RowS.ok.put {p : RowS} {w : World} {b : Nat} {cs : Array Value} {t : TypeId} (h : p.ok (putBlk w b cs t)) (hb : b < w.heap.size) (hne : 97 ≠ t) (ds : Array Value) : p.ok (putBlk w b ds t) := by
  obtain ⟨h1, h2, base, h3⟩ := h
  have hfar := own_ne h3 (putBlk_blk cs t hb) hne
  refine ⟨h1, h2, base, h3.1, ?_⟩
  rcases h3.2 with h0 | ⟨g, cap, cur, hv, hbg, hh, h4⟩
  · exact .inl h0
  · refine .inr ⟨g, cap, cur, hv, hbg, ?_, h4⟩
    have hgb : b ≠ g := by
      intro e
      apply hfar
      rw [hv, e]
      rfl
    unfold putBlk at hh ⊢
    simp only at hh ⊢
    rw [Array.getElem?_setIfInBounds_ne hgb] at hh ⊢
    exact hh
theorem evget_fill {b : List UInt8} {rs : List (List V)} (hl : 14 ≤ b.length) (h : getRows 2 (b.drop 14) = some rs) :
    evGet b = match fillE (evHead b) rs with | none => none | some e => if evB e then some e else none := by
  unfold evGet
  rw [if_neg (by omega), h]
theorem okE_f : okE false = 2 := rfl
theorem okE_t : okE true = 0 := rfl
theorem VRow.nil (w : World) (A : Option Addr) : VRow w A [] := ⟨(fun v hv => by cases hv), (by simp), fun h => absurd rfl h⟩
theorem RowS.ok.vrow {p : RowS} {w : World} (h : p.ok w) : VRow w p.A p.l := by
  obtain ⟨h1, h2, base, h3⟩ := h
  exact (VRow.of_own h1 (by omega) h3).1
theorem info_R : (Tryd.prog.info? 55).map (fun i => (i.zero, i.size, i.bytes)) = some (some (.slice none 0 0), 1, 24) := by kernel_rfl
theorem getRow_wf {l : List UInt8} (h : (getRow l).1 = 0) : (∀ v ∈ (getRow l).2.1, v.wf) ∧ (getRow l).2.1.length ≤ 8 ∧ (getRow l).2.2 ≤ l.length ∧ 1 ≤ (getRow l).2.2 := by
  obtain ⟨h1, h2, _, h4, h5⟩ := getRow_back h
  exact ⟨h2, (row_may h1).2.1, h5, h4⟩
theorem evget_none {b : List UInt8} (h : getRows 2 (b.drop 14) = none) : evGet b = none := by
  unfold evGet
  rw [h]
  split <;> rfl
end Go.Proofs.YtkfhfegogmlchaaDoor

/- Marks as data: rows of numbers; event.CheckMark: which marks may be. -/
namespace Go.Proofs.YtkfhfegogmlchaaDoor
open Go.RowKit

/-- A slice of numbers reads as l. -/
def NRow (k : IntKind) (w : World) (A : Option Addr) (l : List Int) : Prop :=
  l.length ≤ 17592186044416 ∧ (l ≠ [] → ∃ b off, A = some ⟨b, off, none⟩ ∧ b < w.heap.size ∧ ∀ i v, l[i]? = some v → w.cell? ⟨b, off + i, none⟩ = some (.int k v))
theorem NRow.ext {k : IntKind} {w w' : World} {A : Option Addr} {l : List Int} (h : NRow k w A l) (hb : Below w.heap.size w w') : NRow k w' A l := by
  refine ⟨h.1, fun hl => ?_⟩
  obtain ⟨b, off, rfl, hlt, hc⟩ := h.2 hl
  exact ⟨b, off, rfl, Nat.lt_of_lt_of_le hlt hb.size, fun i v hi => (hb.cell (p := ⟨b, _, none⟩) hlt).trans (hc i v hi)⟩
theorem NRow.at_ {k : IntKind} {w : World} {A : Option Addr} {l : List Int} (h : NRow k w A l) {j : Nat} (hj : j < l.length) :
    ∃ (b off : Nat) (v : Int), A = some ⟨b, off, none⟩ ∧ b < w.heap.size ∧ l[j]? = some v ∧ v ∈ l ∧ w.cell? ⟨b, off + j, none⟩ = some (.int k v) := by
  obtain ⟨b, off, rfl, hlt, hc⟩ := h.2 (by intro e; simp [e] at hj)
  have hv := List.getElem?_eq_getElem hj
  exact ⟨b, off, l[j], rfl, hlt, hv, List.getElem_mem hj, hc j _ hv⟩
theorem NRow.nil (k : IntKind) (w : World) (A : Option Addr) : NRow k w A [] := ⟨by simp, fun h => absurd rfl h⟩

structure Mk where
  k : Int
  tx : Int
  cs : List Int
  sq : List Int
def Mk.wf (m : Mk) : Prop := (0 ≤ m.k ∧ m.k ≤ 255) ∧ (0 ≤ m.tx ∧ m.tx ≤ 18446744073709551615) ∧ (∀ v ∈ m.cs, -9223372036854775808 ≤ v ∧ v ≤ 9223372036854775807) ∧ (∀ v ∈ m.sq, 0 ≤ v ∧ v ≤ 18446744073709551615)
def mkCells (m : Mk) (C S : Value) : Array Value := #[.int .u8 m.k, .int .u64 m.tx, C, S]
/-- Counts that may be. -/
def cntB (l : List Int) : Bool := l.all (fun n => decide (0 ≤ n)) && decide (l.sum ≤ 200)
def mkB (m : Mk) : Bool := decide (1 ≤ m.sq.length ∧ m.sq.length ≤ 12) && (if m.k = 1 then decide (m.cs.length = 0) else if m.k = 2 then decide (m.cs.length = m.sq.length) && cntB m.cs else false)

theorem cnt_neg {l : List Int} {j : Nat} {v : Int} (h : l[j]? = some v) (hv : v < 0) : cntB l = false := by
  have : l.all (fun n => decide (0 ≤ n)) = false := by
    rw [List.all_eq_false]
    exact ⟨v, List.mem_of_getElem? h, by simp; omega⟩
  simp [cntB, this]
theorem sum_nonneg : ∀ {l : List Int}, (∀ v ∈ l, 0 ≤ v) → 0 ≤ l.sum
  | [], _ => by simp
  | v :: l, h => by
    have := sum_nonneg (l := l) (fun x hx => h x (by simp [hx]))
    have := h v (by simp)
    simp; omega
theorem sum_at {l : List Int} {j : Nat} {v : Int} (h : l[j]? = some v) : (l.take (j + 1)).sum = (l.take j).sum + v := by
  obtain ⟨hlt, hv⟩ := List.getElem?_eq_some_iff.1 h
  rw [List.take_succ_eq_append_getElem hlt, List.sum_append, hv]
  simp
theorem cnt_big {l : List Int} {j : Nat} {v : Int} (h : l[j]? = some v) (hv : 200 < (l.take j).sum + v) : cntB l = false := by
  cases hc : cntB l with
  | false => rfl
  | true =>
    exfalso
    obtain ⟨h1, h2⟩ := Bool.and_eq_true_iff.1 hc
    have h1' : ∀ v ∈ l, 0 ≤ v := fun x hx => of_decide_eq_true (List.all_eq_true.1 h1 x hx)
    have h2 := of_decide_eq_true h2
    have e : l.sum = (l.take (j + 1)).sum + (l.drop (j + 1)).sum := by rw [← List.sum_append, List.take_append_drop]
    have := sum_nonneg (l := l.drop (j + 1)) (fun x hx => h1' x (List.mem_of_mem_drop hx))
    rw [sum_at h] at e
    omega
theorem cnt_all {l : List Int} (h1 : (l.take l.length).all (fun n => decide (0 ≤ n)) = true) (h2 : (l.take l.length).sum ≤ 200) : cntB l = true := by
  rw [List.take_length] at h1 h2
  simp [cntB, h1, h2]
theorem nn_step {l : List Int} {j : Nat} {v : Int} (h : (l.take j).all (fun n => decide (0 ≤ n)) = true) (hj : l[j]? = some v) (hv : 0 ≤ v) : Hid ((l.take (j + 1)).all (fun n => decide (0 ≤ n)) = true) := by
  show _ = _
  obtain ⟨hlt, e⟩ := List.getElem?_eq_some_iff.1 hj
  rw [List.take_succ_eq_append_getElem hlt, List.all_append, h, e]
  simp [hv]
theorem ckmark_len {m : Mk} (h : ¬ (1 ≤ m.sq.length ∧ m.sq.length ≤ 12)) : mkB m = false := by unfold mkB; rw [decide_eq_false h]; rfl
theorem okE_f' {b : Bool} (h : b = false) : okE b = 2 := by rw [h]; rfl
theorem okE_t' {b : Bool} (h : b = true) : okE b = 0 := by rw [h]; rfl
set_option maxRecDepth 100000 in
set_option maxHeartbeats 400000 in
theorem ckmark_any (m : Mk) (C S : Option Addr) (c d : Nat) (w : World) (hw : m.wf) (hc : NRow .i64 w C m.cs) (hs : m.sq.length ≤ 17592186044416) :
    Calls Tryd.prog 41 #[.agg (mkCells m (.slice C m.cs.length c) (.slice S m.sq.length d))] w fun e w' => e = .returned (.int .i64 (okE (mkB m))) ∧ Below w.heap.size w w' := by
  obtain ⟨k, tx, cs, sq⟩ := m
  obtain ⟨_, _, hcw, _⟩ := hw
  generalize hM : okE (mkB ⟨k, tx, cs, sq⟩) = M
  have HM := Lib.hid hM
  clear hM
  simp only [mkCells] at hc hs hcw ⊢
  have hcl := hc.1
  by_cases k1 : k = 1
  · subst k1
    clear hcw
    by_cases hq1 : sq.length < 1
    · have hf : M = 2 := by rw [← HM.out]; exact okE_f' (ckmark_len (by simp only; omega))
      clear HM hc
      subst hf
      (go_enter Tryd.func41, Tryd.ntmps41; go_wp2; go_ret; exact ⟨rfl, (by repeat (first | exact Below.refl _ _ | assumption | refine Below.drew ?_ | refine below_drewN ?_ _ | refine Below.alloc ?_ (by simp <;> omega) _))⟩)
    · by_cases hq2 : 12 < sq.length
      · have hf : M = 2 := by rw [← HM.out]; exact okE_f' (ckmark_len (by simp only; omega))
        clear HM hc
        subst hf
        (go_enter Tryd.func41, Tryd.ntmps41; go_wp2; go_ret; exact ⟨rfl, (by repeat (first | exact Below.refl _ _ | assumption | refine Below.drew ?_ | refine below_drewN ?_ _ | refine Below.alloc ?_ (by simp <;> omega) _))⟩)
      · by_cases hz : cs.length = 0
        · obtain rfl : cs = [] := List.length_eq_zero_iff.1 hz
          have hf : M = 0 := by rw [← HM.out]; refine okE_t' ?_; unfold mkB; rw [decide_eq_true (by simp only; omega)]; rfl
          clear HM hc hz hcl
          subst hf
          go_enter Tryd.func41, Tryd.ntmps41
          go_wp2
          refine wp_loop_rounds 1 ?_
          rw [rounds_succ]
          go_wp2
          go_ret
          exact ⟨rfl, (by repeat (first | exact Below.refl _ _ | assumption | refine Below.drew ?_ | refine below_drewN ?_ _ | refine Below.alloc ?_ (by simp <;> omega) _))⟩
        · have hf : M = 2 := by rw [← HM.out]; refine okE_f' ?_; unfold mkB; simp [hz]
          have hz1 : ((cs.length : Int) != 0) = true := by rw [bne_iff_ne]; omega
          clear HM hc hz
          subst hf
          (go_enter Tryd.func41, Tryd.ntmps41; go_wp2; go_ret; exact ⟨rfl, (by repeat (first | exact Below.refl _ _ | assumption | refine Below.drew ?_ | refine below_drewN ?_ _ | refine Below.alloc ?_ (by simp <;> omega) _))⟩)
  · have k1' : (k == 1) = false := beq_eq_false_iff_ne.2 k1
    by_cases k2 : k = 2
    · subst k2
      clear k1 k1'
      by_cases hq1 : sq.length < 1
      · have hf : M = 2 := by rw [← HM.out]; exact okE_f' (ckmark_len (by simp only; omega))
        clear HM hc hcw
        subst hf
        (go_enter Tryd.func41, Tryd.ntmps41; go_wp2; go_ret; exact ⟨rfl, (by repeat (first | exact Below.refl _ _ | assumption | refine Below.drew ?_ | refine below_drewN ?_ _ | refine Below.alloc ?_ (by simp <;> omega) _))⟩)
      · by_cases hq2 : 12 < sq.length
        · have hf : M = 2 := by rw [← HM.out]; exact okE_f' (ckmark_len (by simp only; omega))
          clear HM hc hcw
          subst hf
          (go_enter Tryd.func41, Tryd.ntmps41; go_wp2; go_ret; exact ⟨rfl, (by repeat (first | exact Below.refl _ _ | assumption | refine Below.drew ?_ | refine below_drewN ?_ _ | refine Below.alloc ?_ (by simp <;> omega) _))⟩)
        · by_cases hz : cs.length = sq.length
          · have hz1 : ((cs.length : Int) != (sq.length : Int)) = false := by simp [hz]
            have HZ := Lib.hid hz
            clear hz
            have HC := Lib.hid hc
            have HCW := Lib.hid hcw
            clear hc hcw
            have HMB : Hid (M = okE (cntB cs)) := by
              show _ = _
              rw [← HM.out]
              unfold mkB
              rw [decide_eq_true (by simp only; omega), if_neg (show ¬ (2 : Int) = 1 by decide), if_pos rfl, decide_eq_true HZ.out]
              simp
            clear HM
            go_enter Tryd.func41, Tryd.ntmps41
            go_wp2
            go_loop [4, 36] (fun s i => ∃ (j : Nat) (t : Int), j ≤ cs.length ∧ i = .int .i64 j ∧ s = .int .i64 t ∧ 0 ≤ t ∧ t ≤ 200 ∧ Hid (t = (cs.take j).sum) ∧ Hid ((cs.take j).all (fun n => decide (0 ≤ n)) = true)) (fun _ i => cs.length - (intOf i).toNat)
            case atStart => exact ⟨0, 0, by omega, rfl, rfl, by omega, by omega, (by simp : _ = _), (by simp : _ = _)⟩
            case round =>
              obtain ⟨j, t, hj, rfl, rfl, ht0, ht1, HS, HN⟩ := hrel
              by_cases hlt : j < cs.length
              · obtain ⟨b, off, v, rfl, hb, hlk, hmem, c0⟩ := HC.out.at_ hlt
                obtain ⟨v0, v1⟩ := HCW.out v hmem
                have HL := Lib.hid hlk
                clear hlk hmem
                by_cases hv0 : v < 0
                · have hf : M = 2 := by rw [HMB.out]; exact okE_f' (cnt_neg HL.out hv0)
                  clear HMB
                  subst hf
                  go_wp2
                  go_ret
                  exact ⟨rfl, (by repeat (first | exact Below.refl _ _ | assumption | refine Below.drew ?_ | refine below_drewN ?_ _ | refine Below.alloc ?_ (by simp <;> omega) _))⟩
                · by_cases hv1 : 200 - t < v
                  · have hf : M = 2 := by rw [HMB.out]; exact okE_f' (cnt_big HL.out (by rw [← HS.out]; omega))
                    clear HMB
                    subst hf
                    go_wp2
                    go_ret
                    exact ⟨rfl, (by repeat (first | exact Below.refl _ _ | assumption | refine Below.drew ?_ | refine below_drewN ?_ _ | refine Below.alloc ?_ (by simp <;> omega) _))⟩
                  · go_wp2
                    go_round
                    case rel => exact ⟨j + 1, t + v, by omega, by go_num, by go_num, by omega, by omega, (by show _ = _; rw [sum_at HL.out, HS.out]), nn_step HN.out HL.out (by omega)⟩
                    case measure => simp [intOf]; omega
              · have hf : M = 0 := by
                  rw [HMB.out]
                  have e : j = cs.length := by omega
                  have h1 := HN.out
                  have h2 := HS.out
                  rw [e] at h1 h2
                  exact okE_t' (cnt_all h1 (by rw [← h2]; exact ht1))
                clear HMB
                subst hf
                go_wp2
                go_ret
                exact ⟨rfl, (by repeat (first | exact Below.refl _ _ | assumption | refine Below.drew ?_ | refine below_drewN ?_ _ | refine Below.alloc ?_ (by simp <;> omega) _))⟩
          · have hf : M = 2 := by rw [← HM.out]; refine okE_f' ?_; unfold mkB; simp [hz]
            have hz1 : ((cs.length : Int) != (sq.length : Int)) = true := by rw [bne_iff_ne]; omega
            clear HM hc hz hcw
            subst hf
            (go_enter Tryd.func41, Tryd.ntmps41; go_wp2; go_ret; exact ⟨rfl, (by repeat (first | exact Below.refl _ _ | assumption | refine Below.drew ?_ | refine below_drewN ?_ _ | refine Below.alloc ?_ (by simp <;> omega) _))⟩)
    · have k2' : (k == 2) = false := beq_eq_false_iff_ne.2 k2
      have hf : M = 2 := by rw [← HM.out]; refine okE_f' ?_; unfold mkB; simp [k1, k2]
      clear HM hc k1 k2 hcw
      subst hf
      (go_enter Tryd.func41, Tryd.ntmps41; go_wp2; go_ret; exact ⟨rfl, (by repeat (first | exact Below.refl _ _ | assumption | refine Below.drew ?_ | refine below_drewN ?_ _ | refine Below.alloc ?_ (by simp <;> omega) _))⟩)
end Go.Proofs.YtkfhfegogmlchaaDoor

/- event.PutMark: which bytes a mark has. -/
namespace Go.Proofs.YtkfhfegogmlchaaDoor
open Go.RowKit

theorem conv1_at (a : Int) (W : World) (b k : Nat) (h0 : W.cell? ⟨b, 0, none⟩ = some (.int .u8 a)) :
    (convert 27 9 (.slice (some ⟨b, 0, none⟩) 1 k)).run Tryd.prog W = .ok (.string (strOfNums [a])) W :=
  conv_at [a] W b 1 k rfl (fun i hi => by
    match i, hi with
    | 0, _ => exact h0)
def mkH (m : Mk) : List UInt8 := [UInt8.ofNat m.k.toNat] ++ numL 8 m.tx.toNat ++ [UInt8.ofNat m.sq.length]
def num8L (l : List Int) : List UInt8 := l.flatMap fun v => numL 8 v.toNat
def num2L (l : List Int) : List UInt8 := l.flatMap fun v => numL 2 v.toNat
/-- A mark's bytes. -/
def mkL (m : Mk) : List UInt8 := mkH m ++ num8L m.sq ++ num2L m.cs
def mkPutR (m : Mk) : Value := .tuple #[.string ⟨(if mkB m then mkL m else []).toArray⟩, .int .i64 (okE (mkB m))]
theorem num8_step {H : List UInt8} {l : List Int} {j : Nat} {v : Int} {b : ByteArray} (h : b.data.toList = H ++ num8L (l.take j)) (hj : l[j]? = some v) : (b ++ ⟨(numL 8 v.toNat).toArray⟩ : ByteArray).data.toList = H ++ num8L (l.take (j + 1)) := by
  obtain ⟨hlt, e⟩ := List.getElem?_eq_some_iff.1 hj
  rw [List.take_succ_eq_append_getElem hlt, ByteArray.data_append, e]
  simp [h, num8L]
theorem num2_step {H : List UInt8} {l : List Int} {j : Nat} {v : Int} {b : ByteArray} (h : b.data.toList = H ++ num2L (l.take j)) (hj : l[j]? = some v) : (b ++ ⟨(numL 2 v.toNat).toArray⟩ : ByteArray).data.toList = H ++ num2L (l.take (j + 1)) := by
  obtain ⟨hlt, e⟩ := List.getElem?_eq_some_iff.1 hj
  rw [List.take_succ_eq_append_getElem hlt, ByteArray.data_append, e]
  simp [h, num2L]
theorem mkhead_bytes {N8 : ByteArray} {k tx n : Int} {L : Nat} (e8 : N8 = ⟨(numL 8 tx.toNat).toArray⟩) (hn : n = L) (hL : L < 256) :
    (strOfNums [k] ++ N8 ++ strOfNums [IntKind.u8.wrap n]).data.toList = [UInt8.ofNat k.toNat] ++ numL 8 tx.toNat ++ [UInt8.ofNat L] := by
  have e : IntKind.u8.wrap n = n := by simp [IntKind.wrap, IntKind.bits, IntKind.signed]; omega
  rw [e, e8, hn]
  simp [ByteArray.data_append, strOfNums]
theorem mk4 {w : World} {b : Nat} {a0 a1 a2 a3 : Value} {t : TypeId} (h : Blk w b #[a0, a1, a2, a3] t) :
    Blk w b #[a0, a1, a2, a3] t ∧ w.cell? ⟨b, 0, none⟩ = some a0 ∧ w.cell? ⟨b, 1, none⟩ = some a1 ∧ w.cell? ⟨b, 2, none⟩ = some a2 ∧ w.cell? ⟨b, 3, none⟩ = some a3 :=
  ⟨h, h.cell 0, h.cell 1, h.cell 2, h.cell 3⟩
theorem cnt_le {l : List Int} (h : cntB l = true) {v : Int} (hv : v ∈ l) : 0 ≤ v ∧ v ≤ 200 := by
  obtain ⟨h1, h2⟩ := Bool.and_eq_true_iff.1 h
  have h1' : ∀ v ∈ l, 0 ≤ v := fun x hx => of_decide_eq_true (List.all_eq_true.1 h1 x hx)
  have h2 := of_decide_eq_true h2
  refine ⟨h1' v hv, ?_⟩
  obtain ⟨j, hj⟩ := List.mem_iff_getElem?.1 hv
  have e : l.sum = (l.take (j + 1)).sum + (l.drop (j + 1)).sum := by rw [← List.sum_append, List.take_append_drop]
  have := sum_nonneg (l := l.drop (j + 1)) (fun x hx => h1' x (List.mem_of_mem_drop hx))
  have := sum_nonneg (l := l.take j) (fun x hx => h1' x (List.mem_of_mem_take hx))
  rw [sum_at hj] at e
  omega
theorem mkB_parts {m : Mk} (h : mkB m = true) : 1 ≤ m.sq.length ∧ m.sq.length ≤ 12 ∧ m.cs.length ≤ 12 ∧ ∀ v ∈ m.cs, 0 ≤ v ∧ v ≤ 200 := by
  unfold mkB at h
  obtain ⟨h1, h2⟩ := Bool.and_eq_true_iff.1 h
  obtain ⟨h1, h1'⟩ := of_decide_eq_true h1
  refine ⟨h1, h1', ?_⟩
  by_cases hk : m.k = 1
  · rw [if_pos hk] at h2
    have h2 := of_decide_eq_true h2
    refine ⟨by omega, fun v hv => ?_⟩
    rw [List.length_eq_zero_iff.1 h2] at hv
    cases hv
  · rw [if_neg hk] at h2
    by_cases hk2 : m.k = 2
    · rw [if_pos hk2] at h2
      obtain ⟨h3, h4⟩ := Bool.and_eq_true_iff.1 h2
      have h3 := of_decide_eq_true h3
      exact ⟨by omega, fun v hv => cnt_le h4 hv⟩
    · rw [if_neg hk2] at h2; cases h2
set_option maxRecDepth 100000 in
set_option maxHeartbeats 400000 in
theorem putmark_yes (m : Mk) (C S : Option Addr) (c d : Nat) (w : World) (hw : m.wf) (hc : NRow .i64 w C m.cs) (hs : NRow .u64 w S m.sq) (hm : mkB m = true) :
    Calls Tryd.prog 47 #[.agg (mkCells m (.slice C m.cs.length c) (.slice S m.sq.length d))] w fun e w' => e = .returned (.tuple #[.string ⟨(mkL m).toArray⟩, .int .i64 0]) ∧ Below w.heap.size w w' := by
  obtain ⟨p1, p2, p3, p4⟩ := mkB_parts hm
  have HK := Lib.hid (fun (W : World) (hW : Below w.heap.size w W) => (ckmark_any m C S c d W hw (hc.ext hW) hs.1))
  rw [okE_t' hm] at HK
  obtain ⟨k, tx, cs, sq⟩ := m
  obtain ⟨_, ⟨d1, d2⟩, _, hsw⟩ := hw
  simp only [mkCells] at hc hs hsw p1 p2 p3 p4 d1 d2 HK ⊢
  have H8 := Lib.hid evput8
  have H2 := Lib.hid evput2
  have H8x := Lib.hid (evput8 tx d1 d2)
  have s8 := numL_size 8 tx.toNat
  obtain ⟨N8, hN8⟩ : ∃ q : ByteArray, q = ⟨(numL 8 tx.toNat).toArray⟩ := ⟨_, rfl⟩
  rw [← hN8] at H8x s8
  have HN8 := Lib.hid hN8
  have z8 : N8.size ≤ 8 := Nat.le_of_eq s8
  generalize hM : mkL _ = Mb
  have HM := Lib.hid hM
  clear hM
  unfold mkL mkH at HM
  simp only at HM
  have HC := Lib.hid hc
  have HS := Lib.hid hs
  have HSW := Lib.hid hsw
  have HP4 := Lib.hid p4
  have hcv := conv1_at k
  have hcv2 := conv1_at (IntKind.u8.wrap (sq.length : Int))
  have hk1 := run_cat (strOfNums [k]) N8 (by rw [strOfNums_size]; simp; omega)
  have hk2 := run_cat (strOfNums [k] ++ N8) (strOfNums [IntKind.u8.wrap (sq.length : Int)]) (by rw [ByteArray.size_append, strOfNums_size, strOfNums_size]; simp; omega)
  clear hc hs hsw p4 hm hN8 s8
  go_enter Tryd.func47, Tryd.ntmps47
  go_wp2_with fail
  refine (HK.out _ (by repeat (first | exact Below.refl _ _ | assumption | refine Below.drew ?_ | refine below_drewN ?_ _ | refine Below.alloc ?_ (by simp <;> omega) _))).mono ?_
  rintro r w1 ⟨rfl, hB1⟩
  have hBk : Blk w1 w.heap.size #[.int .u8 k, .int .u64 tx, .slice C cs.length c, .slice S sq.length d] 50 := (Blk.new w _ _).ext hB1
  have hBw : Below w.heap.size w w1 := bt (by repeat (first | exact Below.refl _ _ | assumption | refine Below.drew ?_ | refine below_drewN ?_ _ | refine Below.alloc ?_ (by simp <;> omega) _)) hB1
  obtain ⟨_, x0, x1, x2, x3⟩ := mk4 hBk
  clear hB1
  go_upto_region 4 with fail
  go_cut [5] (fun s wx => s = .string (strOfNums [k] ++ N8 ++ strOfNums [IntKind.u8.wrap (sq.length : Int)]) ∧ Below w1.heap.size w1 wx)
  case first =>
    refine region_grow [false, false, false, false, false, true, false, false, false, false, false, false, false, false, false, true, true, true, true, true, true, true, true, true, true, true, true, true, true, true, false, false, false, false, false, false, false, false, false, false, false, false, false, false, false, false, false, false, false, false, false, false, false, false, false] [15, 16, 17, 18, 19, 20, 21, 22, 23, 24, 25, 26, 27, 28, 29, 5] [.val (.pointer (some ⟨w.heap.size, 0, none⟩)), .val (.int .u8 k), .new (fun g => .slice (some ⟨g, 0, none⟩) 1 1) #[.int .u8 k] 5, .val (.string (strOfNums [k])), .val (.pointer (some ⟨w.heap.size, 1, none⟩)), .val (.int .u64 tx), .val (.string N8), .val (.string (strOfNums [k] ++ N8)), .val (.pointer (some ⟨w.heap.size, 3, none⟩)), .val (.slice S sq.length d), .val (.int .i64 sq.length), .val (.int .u8 (IntKind.u8.wrap (sq.length : Int))), .new (fun g => .slice (some ⟨g, 0, none⟩) 1 1) #[.int .u8 (IntKind.u8.wrap (sq.length : Int))] 5, .val (.string (strOfNums [IntKind.u8.wrap (sq.length : Int)])), .val (.string (strOfNums [k] ++ N8 ++ strOfNums [IntKind.u8.wrap (sq.length : Int)])), .val (.string (strOfNums [k] ++ N8 ++ strOfNums [IntKind.u8.wrap (sq.length : Int)]))] [15] (by kernel_rfl) (by kernel_rfl) (by kernel_rfl) (by kernel_rfl) (by kernel_rfl) ⟨?_, ?_, ?_, ?_, ?_, ?_, ?_, ?_, ?_, ?_, ?_, ?_, ?_, ?_, ?_, ?_, trivial⟩ ?done
    case done =>
      intro x w2 hb2
      simp only [StepGoal, overlay, upd, cond_true, cond_false, List.getD_cons_zero, List.getD_cons_succ, Nat.zero_add, Nat.reduceAdd, Nat.reduceEqDiff, reduceIte]
      go_wp2_with fail
      go_meet
      exact ⟨rfl, hb2⟩
    all_goals
      intro x w2 hb2
      (try (intro bq hq; have q0 := hq.cell 0; simp at q0))
      (try (intro bq2 hq2; have q02 := hq2.cell 0; simp at q02))
      intro K hK
      obtain ⟨_, y0, y1, y2, y3⟩ := mk4 (hBk.ext hb2)
      rw [if_pos (by rfl)]; simp only [overlay, upd, cond_true, cond_false, List.getD_cons_zero, List.getD_cons_succ, Nat.reduceEqDiff, reduceIte]
      go_simp
      first
        | exact hK.out _ _ (Below.refl _ _) rfl
        | exact hK.out _ _ (by repeat (first | exact Below.refl _ _ | assumption | refine Below.drew ?_ | refine below_drewN ?_ _ | refine Below.alloc ?_ (by simp <;> omega) _)) ⟨_, rfl, Blk.new _ _ _⟩
        | ((with_reducible refine (H8x.out _).mono ?_); rintro e wa ⟨rfl, hba⟩; go_wp2_with fail; exact hK.out _ _ hba rfl)
  case rest =>
    obtain ⟨rfl, hB2⟩ := hcut
    have hBk2 := hBk.ext hB2
    have hC2 := bt hBw hB2
    obtain ⟨_, y0, y1, y2, y3⟩ := mk4 hBk2
    have hHz : (strOfNums [k] ++ N8 ++ strOfNums [IntKind.u8.wrap (sq.length : Int)]).size ≤ 10 := by rw [ByteArray.size_append, ByteArray.size_append, strOfNums_size, strOfNums_size]; simp; omega
    have hHd := mkhead_bytes (k := k) (tx := tx) (n := sq.length) HN8.out rfl (by omega)
    have HHd := Lib.hid hHd
    generalize strOfNums [k] ++ N8 ++ strOfNums [IntKind.u8.wrap (sq.length : Int)] = HD at hHz HHd
    obtain ⟨Hd, hHdd⟩ : ∃ q, q = [UInt8.ofNat k.toNat] ++ numL 8 tx.toNat ++ [UInt8.ofNat sq.length] := ⟨_, rfl⟩
    rw [← hHdd] at HHd HM
    have HB2 := Lib.hid hBk2
    clear hB2 hBw x0 x1 x2 x3 hBk hBk2 hHd hk1 hk2 hcv hcv2 hHdd
    go_wp2_with fail
    go_loopw [5, 33] (fun s i wr => ∃ (j : Nat) (rb : ByteArray), j ≤ sq.length ∧ i = .int .i64 j ∧ s = .string rb ∧ rb.size ≤ 10 + 8 * j ∧ Hid (rb.data.toList = Hd ++ num8L (sq.take j)) ∧ Hid (Blk wr w.heap.size #[.int .u8 k, .int .u64 tx, .slice C cs.length c, .slice S sq.length d] 50) ∧ Below w.heap.size w wr) (fun _ i _ => sq.length - (intOf i).toNat)
    case atStart => exact ⟨0, HD, by omega, rfl, rfl, by omega, (by show _ = _; rw [HHd.out]; simp [num8L]), HB2, hC2⟩
    case round =>
      obtain ⟨j, rb, hj, rfl, rfl, hz, HR, HBB, hbw⟩ := hrel
      by_cases hlt : j < sq.length
      · obtain ⟨b, off, v, rfl, hb, hlk, hmem, c0⟩ := (HS.out.ext hbw).at_ hlt
        obtain ⟨v0, v1⟩ := HSW.out v hmem
        have HL := Lib.hid hlk
        have HCC := Lib.hid (H8.out v v0 v1)
        have hn8 := numL_size 8 v.toNat
        have HST := Lib.hid (num8_step HR.out hlk)
        generalize (ByteArray.mk (numL 8 v.toNat).toArray) = NV at HCC hn8 HST
        have hn8' : NV.size ≤ 8 := Nat.le_of_eq hn8
        clear hlk hmem hn8
        go_wp2_with fail
        refine (HCC.out _).mono ?_
        rintro e w2 ⟨rfl, hb2⟩
        have HB3 := Lib.hid (HBB.out.ext hb2)
        have hbw2 := bt hbw hb2
        clear hb2 HCC
        go_wp2_with fail
        go_roundw
        case rel => exact ⟨j + 1, rb ++ NV, by omega, by go_num, rfl, by rw [ByteArray.size_append]; omega, HST, HB3, hbw2⟩
        case measure => simp [intOf]; omega
      · have hj' : j = sq.length := by omega
        have HJ := Lib.hid hj'
        obtain ⟨_, y0, y1, y2, y3⟩ := mk4 HBB.out
        have HR2 : Hid (rb.data.toList = Hd ++ num8L sq) := by show _ = _; rw [HR.out, HJ.out, List.take_length]
        clear hj' HR
        go_wp2_with fail
        go_loopw [5, 45] (fun s i wr => ∃ (j : Nat) (rb : ByteArray), j ≤ cs.length ∧ i = .int .i64 j ∧ s = .string rb ∧ rb.size ≤ 106 + 2 * j ∧ Hid (rb.data.toList = Hd ++ num8L sq ++ num2L (cs.take j)) ∧ Below w.heap.size w wr) (fun _ i _ => cs.length - (intOf i).toNat)
        case atStart => exact ⟨0, rb, by omega, rfl, rfl, by omega, (by show _ = _; rw [HR2.out]; simp [num2L]), hbw⟩
        case round =>
          obtain ⟨j2, rc, hj2, rfl, rfl, hz2, HR3, hbw3⟩ := hrel
          by_cases hlt2 : j2 < cs.length
          · obtain ⟨b, off, v, rfl, hb, hlk, hmem, c0⟩ := (HC.out.ext hbw3).at_ hlt2
            obtain ⟨v0, v1⟩ := HP4.out v hmem
            have HL := Lib.hid hlk
            have HCC := Lib.hid (H2.out v v0 (by omega))
            have hn8 := numL_size 2 v.toNat
            have HST := Lib.hid (num2_step HR3.out hlk)
            generalize (ByteArray.mk (numL 2 v.toNat).toArray) = NV at HCC hn8 HST
            have hn8' : NV.size ≤ 2 := Nat.le_of_eq hn8
            clear hlk hmem hn8
            go_wp2_with fail
            refine (HCC.out _).mono ?_
            rintro e w2 ⟨rfl, hb2⟩
            have hbw2 := bt hbw3 hb2
            clear hb2 HCC
            go_wp2_with fail
            go_roundw
            case rel => exact ⟨j2 + 1, rc ++ NV, by omega, by go_num, rfl, by rw [ByteArray.size_append]; omega, HST, hbw2⟩
            case measure => simp [intOf]; omega
          · have hj3 : j2 = cs.length := by omega
            have HJ3 := Lib.hid hj3
            clear hj3
            go_wp2_with fail
            go_ret2
            refine ⟨ret_tup2 (congrArg Value.string (ba_of ?_)) rfl, hbw3⟩
            rw [← HM.out, HR3.out, HJ3.out, List.take_length]
theorem putmark_any (m : Mk) (C S : Option Addr) (c d : Nat) (w : World) (hw : m.wf) (hc : NRow .i64 w C m.cs) (hs : NRow .u64 w S m.sq) :
    Calls Tryd.prog 47 #[.agg (mkCells m (.slice C m.cs.length c) (.slice S m.sq.length d))] w fun e w' => e = .returned (mkPutR m) ∧ Below w.heap.size w w' := by
  cases hm : mkB m with
  | true =>
    have := putmark_yes m C S c d w hw hc hs hm
    unfold mkPutR
    rw [hm]
    exact this
  | false =>
    have HK := Lib.hid (fun (W : World) (hW : Below w.heap.size w W) => (ckmark_any m C S c d W hw (hc.ext hW) hs.1))
    rw [okE_f' hm] at HK
    unfold mkPutR
    rw [hm]
    clear hm hw hc hs
    obtain ⟨k, tx, cs, sq⟩ := m
    simp only [mkCells] at HK ⊢
    rw [if_neg (by decide), okE_f' rfl]
    go_enter Tryd.func47, Tryd.ntmps47
    go_wp2_with fail
    refine (HK.out _ (by repeat (first | exact Below.refl _ _ | assumption | refine Below.drew ?_ | refine below_drewN ?_ _ | refine Below.alloc ?_ (by simp <;> omega) _))).mono ?_
    rintro r w1 ⟨rfl, hB1⟩
    have hC1 : Below w.heap.size w w1 := bt (by repeat (first | exact Below.refl _ _ | assumption | refine Below.drew ?_ | refine below_drewN ?_ _ | refine Below.alloc ?_ (by simp <;> omega) _)) hB1
    clear hB1
    go_wp2_with fail
    go_ret2
    exact ⟨rfl, hC1⟩
end Go.Proofs.YtkfhfegogmlchaaDoor
