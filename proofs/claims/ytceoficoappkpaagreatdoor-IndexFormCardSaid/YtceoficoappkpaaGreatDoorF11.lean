/- Texts joined by a tool: contracts and walks of this claim. -/
import Derived.Test.YtceoficoappkpaaGreatDoorF9
import Derived.Test.YtceoficoappkpaaGreatDoorF10
namespace Go.Proofs.YtceoficoappkpaaGreatDoor
open Go.RowKit
structure RowS where
 A : Option Addr
 c : Nat
 l : List V
def RowS.val (p : RowS) : Value := .slice p.A p.l.length p.c
def RowS.ok (p : RowS) (w : World) : Prop := (∀ v ∈ p.l, v.wf) ∧ p.l.length ≤ 8 ∧ ∃ base, w.ownsRow base 47 4 p.val p.l.length (rowCells p.l)
theorem RowS.ok.below {p : RowS} {w w' : World} (h : p.ok w) (hb : Below w.heap.size w w') : p.ok w' := by
 obtain ⟨h1, h2, base, h3⟩ := h
 exact ⟨h1, h2, base, own_below h3 hb⟩
theorem RowS.ok.grown {p : RowS} {w w' : World} {b : Nat} {e : TypeId} {sz n : Nat} {v : Value} {xs : List Value} (h : p.ok w) (ho : w.ownsRow b e sz v n xs) (hne : 47 ≠ e) (hg : w.grownBy w' v.ownBlock) : p.ok w' := by
 obtain ⟨h1, h2, base, h3⟩ := h
 exact ⟨h1, h2, base, own_grown h3 hg (own_far h3 ho hne)⟩
theorem RowS.ok.put {p : RowS} {w : World} {b : Nat} {cs : Array Value} {t : TypeId} (h : p.ok (putBlk w b cs t)) (hb : b < w.heap.size) (hne : 47 ≠ t) (ds : Array Value) : p.ok (putBlk w b ds t) := by
 obtain ⟨h1, h2, base, h3⟩ := h
 have hfar := own_ne h3 (putBlk_blk cs t hb) hne
 refine ⟨h1, h2, base, h3.1, ?_⟩
 rcases h3.2 with h0 | ⟨g, cap, cur, hv, hbg, hh, h4⟩
 · exact .inl h0
 · refine .inr ⟨g, cap, cur, hv, hbg, ?_, h4⟩
   have hgb : b ≠ g := by
    intro e
    apply hfar
    rw [hv, e]
    rfl
   unfold putBlk at hh ⊢
   simp only at hh ⊢
   rw [Array.getElem?_setIfInBounds_ne hgb] at hh ⊢
   exact hh
theorem VRow.nil (w : World) (A : Option Addr) : VRow w A [] := ⟨(fun v hv => by cases hv), (by simp), fun h => absurd rfl h⟩
theorem getRow_wf {l : List UInt8} (h : (getRow l).1 = 0) : (∀ v ∈ (getRow l).2.1, v.wf) ∧ (getRow l).2.1.length ≤ 8 ∧ (getRow l).2.2 ≤ l.length ∧ 1 ≤ (getRow l).2.2 := by
 obtain ⟨h1, h2, _, h4, h5⟩ := getRow_back h
 exact ⟨h2, (row_may h1).2.1, h5, h4⟩
end Go.Proofs.YtceoficoappkpaaGreatDoor
namespace Go.Proofs.YtceoficoappkpaaGreatDoor
open Go.RowKit Go.Shelf

theorem lkB_toList (c k : Int) (l : List V) : (lkB c k l).toList = lkL c k l := by rw [Lib.toList_data]; rfl
theorem not_lt_app : ∀ a r : List UInt8, ¬ (a ++ r < a)
 | [], r => List.not_lt_nil _
 | x :: a, r => by
  rw [List.cons_append, List.cons_lt_cons_iff]
  rintro (h | ⟨-, h⟩)
  · exact absurd h (UInt8.lt_irrefl _)
  · exact not_lt_app a r h
theorem lt_bump : ∀ (p : List UInt8) (c d : UInt8) (x y : List UInt8), c < d → p ++ c :: x < p ++ d :: y
 | [], c, d, x, y, h => by rw [List.nil_append, List.nil_append, List.cons_lt_cons_iff]; exact Or.inl h
 | b :: p, c, d, x, y, h => by rw [List.cons_append, List.cons_append, List.cons_lt_cons_iff]; exact Or.inr ⟨rfl, lt_bump p c d x y h⟩
theorem lk_two_app (j : Int) (k : V) : lkL 102 j [k, k] = lkL 102 j [k] ++ key1 k := by simp [lkL, keyLs]
theorem lk_fr (j : Int) (k k' : List V) : kLt (lkB 102 j k) (lkB 114 j k') = true := by
 rw [kLt_iff, lkB_toList, lkB_toList]
 exact List.cons_lt_cons_iff.2 (Or.inl (by decide))
theorem lk_rf (j : Int) (k k' : List V) : kLt (lkB 114 j k) (lkB 102 j k') = false := kLt_asymm (lk_fr j k' k)
theorem lk_ne (j : Int) (k k' : List V) : lkB 102 j k ≠ lkB 114 j k' := fun e => by
 have := lk_fr j k k'
 rw [e, kLt_irr] at this
 cases this
theorem ins_two (j : Int) (a b : List V) (p : Pr) (hp : p.k = lkB 114 j a) (v v' : ByteArray) (g g' : Bool) : insAll [⟨lkB 114 j a, v, g⟩, ⟨lkB 102 j b, v', g'⟩] [p] = [⟨lkB 102 j b, v', g'⟩, ⟨lkB 114 j a, v, g⟩] := by
 unfold insAll
 simp only [List.foldl_cons, List.foldl_nil, insP, hp, kLt_irr, Bool.false_eq_true, if_false, lk_fr, if_true]
theorem find_two (j : Int) (a b : List V) (v v' : ByteArray) (g g' : Bool) : findP (lkB 114 j a) [⟨lkB 102 j b, v', g'⟩, ⟨lkB 114 j a, v, g⟩] = some ⟨lkB 114 j a, v, g⟩ := by
 unfold findP
 rw [List.find?_cons_of_neg (by simpa using lk_ne j b a), List.find?_cons_of_pos (by simp)]
theorem from_two (j : Int) (k : V) (t : Tr) (v : ByteArray) (h : t.toL = [⟨lkB 102 j [k, k], ⟨#[]⟩, false⟩, ⟨lkB 114 j [k], v, true⟩]) : t.fromL (lkB 102 j [k]) = [⟨lkB 102 j [k, k], ⟨#[]⟩, false⟩, ⟨lkB 114 j [k], v, true⟩] := by
 rw [fromL_filter _ t (by rw [h]; simp only [List.pairwise_cons, List.mem_singleton, List.not_mem_nil, false_implies, implies_true, List.Pairwise.nil, and_true]; rintro x rfl; exact lk_fr j _ _), h]
 have h1 : kLt (lkB 102 j [k, k]) (lkB 102 j [k]) = false := by
  rw [Bool.eq_false_iff]
  intro hh
  have := kLt_iff.1 hh
  rw [lkB_toList, lkB_toList, lk_two_app] at this
  exact not_lt_app _ _ this
 have h2 : kLt (lkB 114 j [k]) (lkB 102 j [k]) = false := lk_rf j [k] [k]
 simp [h1, h2]
theorem scan_two (j : Int) (k : V) (v : ByteArray) (n : Nat) (hn : n < (lkB 102 j [k]).size) (h0 : (((lkB 102 j [k])[n].toNat : Int) == 255) = false) (tt : ByteArray) (htt : tt.data.toList = (lkB 102 j [k]).data.toList.take n ++ [(lkB 102 j [k])[n] + 1]) :
  liveL (scanL tt 1073741824 [⟨lkB 102 j [k, k], ⟨#[]⟩, false⟩, ⟨lkB 114 j [k], v, true⟩]) = [⟨lkB 102 j [k, k], ⟨#[]⟩, false⟩] := by
 have hFR : (lkB 102 j [k]).data.toList = lkL 102 j [k] := rfl
 have hnl : n < (lkL 102 j [k]).length := hn
 have htt : tt.data.toList = (lkL 102 j [k]).take n ++ [(lkL 102 j [k])[n] + 1] := htt
 have h0 : (((lkL 102 j [k])[n].toNat : Int) == 255) = false := h0
 have h255 : (lkL 102 j [k])[n] ≠ 255 := by
  intro e
  rw [e] at h0
  exact absurd h0 (by decide)
 have hlt : (lkL 102 j [k])[n] < (lkL 102 j [k])[n] + 1 := by
  generalize (lkL 102 j [k])[n] = c at h255
  have h1 : c.toNat ≠ 255 := fun e => h255 (UInt8.toNat_inj.1 e)
  rw [UInt8.lt_iff_toNat_lt, UInt8.toNat_add]
  have := c.toNat_lt
  have e1 : (1 : UInt8).toNat = 1 := rfl
  rw [e1]
  omega
 have ht : kLt (lkB 102 j [k, k]) tt = true := by
  rw [kLt_iff, lkB_toList, Lib.toList_data, htt, lk_two_app]
  have hs : lkL 102 j [k] = (lkL 102 j [k]).take n ++ (lkL 102 j [k])[n] :: (lkL 102 j [k]).drop (n + 1) := by
   rw [← List.drop_eq_getElem_cons hnl, List.take_append_drop]
  conv => lhs; rw [hs]
  rw [List.append_assoc, List.cons_append]
  exact lt_bump _ _ _ _ _ hlt
 have hok : okTo tt ⟨lkB 102 j [k, k], ⟨#[]⟩, false⟩ = true := by unfold okTo; rw [ht]; simp
 unfold scanL liveL
 rw [List.takeWhile_cons, if_pos hok]
 by_cases h2 : okTo tt ⟨lkB 114 j [k], v, true⟩ = true
 · rw [List.takeWhile_cons, if_pos h2]; rfl
 · rw [List.takeWhile_cons, if_neg h2]; rfl
theorem last_not (s : ByteArray) (h : 0 < s.size) (h0 : ((s[0].toNat : Int) == 255) = false) : ∃ (n : Nat) (hn : n < s.size), ((s[n].toNat : Int) == 255) = false ∧ ∀ i (hi : i < s.size), n < i → ((s[i].toNat : Int) == 255) = true := by
 have key : ∀ m, m ≤ s.size → 1 ≤ m → (∀ i (hi : i < s.size), m ≤ i → ((s[i].toNat : Int) == 255) = true) → ∃ (n : Nat) (hn : n < s.size), ((s[n].toNat : Int) == 255) = false ∧ ∀ i (hi : i < s.size), n < i → ((s[i].toNat : Int) == 255) = true := by
  intro m
  induction m with
  | zero => intro _ h; omega
  | succ m ih =>
   intro hm _ hall
   cases hc : ((s[m]'(by omega)).toNat : Int) == 255 with
   | false => exact ⟨m, by omega, hc, fun i hi hni => hall i hi (by omega)⟩
   | true =>
    have hm1 : 1 ≤ m := by
     rcases Nat.eq_zero_or_pos m with rfl | h
     · rw [hc] at h0; cases h0
     · exact h
    refine ih (by omega) hm1 fun i hi hmi => ?_
    rcases Nat.eq_or_lt_of_le hmi with rfl | h
    · exact hc
    · exact hall i hi h
 exact key s.size (Nat.le_refl _) h fun i hi hmi => absurd hi (by omega)
end Go.Proofs.YtceoficoappkpaaGreatDoor
namespace Go.Proofs.YtceoficoappkpaaGreatDoor
open Go.RowKit Go.Shelf

def RowOk (ts : List Ta) (j ke : Nat) (k : V) (n : Nat) (w' : World) (a : Value) (b : Bool) (e : Int) : Prop :=
 (a = .slice none 0 0 ∧ b = false ∧ e = 7) ∨ ∃ g c2 l, a = .slice (some ⟨g, 0, none⟩) l.length c2 ∧ b = true ∧ e = 0 ∧ w'.ownsRow n 47 4 (.slice (some ⟨g, 0, none⟩) l.length c2) l.length (rowCells l) ∧ rowS ts j l = true ∧ l[ke]? = some k ∧ (∀ v ∈ l, v.wf) ∧ l.length ≤ 8
def ROut (ts : List Ta) (j ke : Nat) (k : V) (w : World) (r : Ending) (w' : World) : Prop := (∃ a b e, r = .returned (.tuple #[a, .bool b, .int .i64 e]) ∧ RowOk ts j ke k w.heap.size w' a b e) ∧ Below w.heap.size w w'
theorem row_out (B v kk m : Nat) (t : Tr) (ts : List Ta) (tb0 off : Nat) (c : Nat) (j : Nat) (ta : Ta) (k : V) (p : Pr) (ke : Nat) (w : World) (h : VwR w B v kk m t) (ht : TRow w (some ⟨tb0, off, none⟩) c ts) (hk : k.wf) (hL : LayX w) (hyes : keyS ts j k = true) (hlk : lkOk j [k] = true) (hf : findP (lkB 114 j [k]) t.toL = some p) (hg : p.g = false) (hsz : p.v.size ≤ 140737488355328) (hj : ts[j]? = some ta) (hke : ta.key = ke) :
  Calls Tryz.prog 19 #[.pointer (some ⟨v, 0, none⟩), .agg #[.slice (some ⟨tb0, off, none⟩) ts.length c], .int .i64 j, k.agg] w (ROut ts j ke k w) := by
 have hbad : ∀ {r : Ending} {w' : World}, (r = .returned (.tuple #[.slice none 0 0, .bool false, .int .i64 7]) ∧ Below w.heap.size w w') → ROut ts j ke k w r w' := fun h => ⟨⟨_, _, _, h.1, Or.inl ⟨rfl, rfl, rfl⟩⟩, h.2⟩
 obtain ⟨R, hR⟩ : ∃ R, getRow p.v.data.toList = R := ⟨_, rfl⟩
 have hwf : R.1 = 0 → (∀ v ∈ R.2.1, v.wf) ∧ R.2.1.length ≤ 8 := fun h => by
  rw [← hR] at h ⊢
  exact ⟨(getRow_wf h).1, (getRow_wf h).2.1⟩
 by_cases h1 : R.1 = 0
 · by_cases h2 : R.2.2 = p.v.size
   · cases h3 : rowS ts j R.2.1 with
     | false => exact (row_bad B v kk m t ts tb0 off c j k p w h ht hk hL hyes hlk hf hg hsz R hR (Or.inr (Or.inr ⟨h1, h2, h3⟩)) hwf).mono fun _ _ h => hbad h
     | true =>
      obtain ⟨-, hlen, hcb, -, -⟩ := row_fits hj h3
      have hkb := (cols_parts hcb).2.2.2.1
      have hkl : ke < R.2.1.length := by omega
      have hx : R.2.1[ke]? = some R.2.1[ke] := List.getElem?_eq_getElem hkl
      have hgr : getRow p.v.data.toList = (0, R.2.1, p.v.size) := by rw [hR, ← h1, ← h2]
      refine (row_fit B v kk m t ts tb0 off c j ta k p R.2.1 ke R.2.1[ke] w h ht hk hL hyes hlk hf hg hsz hgr hj h3 hke hx (hwf h1).1 (hwf h1).2 (!decide (R.2.1[ke] = k)) rfl).mono ?_
      rintro r w' ⟨a1, a2, a3⟩
      by_cases hxk : R.2.1[ke] = k
      · obtain ⟨g, c2, b1, b2⟩ := a2 (by rw [decide_eq_true hxk]; rfl)
        exact ⟨⟨_, _, _, b1, Or.inr ⟨g, c2, R.2.1, rfl, rfl, rfl, b2, h3, by rw [hx, hxk], (hwf h1).1, (hwf h1).2⟩⟩, a3⟩
      · exact hbad ⟨a1 (by rw [decide_eq_false hxk]; rfl), a3⟩
   · exact (row_bad B v kk m t ts tb0 off c j k p w h ht hk hL hyes hlk hf hg hsz R hR (Or.inr (Or.inl ⟨h1, h2⟩)) hwf).mono fun _ _ h => hbad h
 · exact (row_bad B v kk m t ts tb0 off c j k p w h ht hk hL hyes hlk hf hg hsz R hR (Or.inl h1) hwf).mono fun _ _ h => hbad h
theorem keyS_parts {ts : List Ta} {tb : Int} {k : V} (h : keyS ts tb k = true) : ∃ (j : Nat) (ta : Ta) (ke : Nat), tb = j ∧ ts[j]? = some ta ∧ j < 12 ∧ ta.key = ke ∧ mayB k = true ∧ k.k ≠ 0 ∧ (ta.ref < 0 ∨ ∃ re : Nat, ta.ref = re) ∧ schB ts = true := by
 have hh : hasS ts tb = true := by unfold keyS at h; exact (Bool.and_eq_true_iff.1 h).1
 obtain ⟨j, t, rfl, hj, htj, hcb, hsb⟩ := has_at hh
 obtain ⟨hc1, hc2, -, hkey, hnl⟩ := cols_parts hcb
 have hc : t.cs[t.key.toNat]? = some t.cs[t.key.toNat] := List.getElem?_eq_getElem (by omega)
 rw [keyS_at hh htj hc] at h
 have hkk := List.all_eq_true.1 hc2 _ (List.getElem_mem (show t.key.toNat < t.cs.length by omega))
 unfold nlAt at hnl
 rw [hc] at hnl
 simp only [Option.map_some, Option.getD_some] at hnl
 generalize t.cs[t.key.toNat] = q at h hkk hnl
 unfold fitB at h
 obtain ⟨hm, hf⟩ := Bool.and_eq_true_iff.1 h
 unfold colK at hkk
 have hkk := of_decide_eq_true hkk
 have hk0 : k.k ≠ 0 := by
  rw [hnl] at hf
  simp only [Bool.false_and, Bool.or_false, decide_eq_true_eq] at hf
  omega
 have hsp := sch_parts hsb
 refine ⟨j, t, t.key.toNat, rfl, htj, by omega, by omega, hm, hk0, ?_, hsb⟩
 by_cases hr : t.ref < 0
 · exact Or.inl hr
 · exact Or.inr ⟨t.ref.toNat, by omega⟩
end Go.Proofs.YtceoficoappkpaaGreatDoor
