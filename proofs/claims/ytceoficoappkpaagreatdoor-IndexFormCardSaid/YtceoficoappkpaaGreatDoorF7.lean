/- Texts joined by a tool: contracts and walks of this claim. -/
import Derived.Test.YtceoficoappkpaaGreatDoorF6
import Derived.Deep.CutRange
namespace Go.Proofs.YtceoficoappkpaaGreatDoor
open Go.RowKit Go.Shelf
attribute [local go_sem] Oper.semAt_some

def pay (v : V) : List UInt8 := if v.k = 1 then [UInt8.ofNat v.n.toNat] else if v.k = 2 then hiN 8 (v.n + 9223372036854775808).toNat else if v.k = 3 then hiN 8 (keyZ v.r).toNat else if v.k = 4 ∨ v.k = 5 then keyT v.t.data.toList ++ [0, 1] else []
theorem key1_pay (v : V) : key1 v = [UInt8.ofNat (v.k.toNat + 1)] ++ pay v := rfl
theorem may_k {v : V} (h : mayB v = true) : v.k = 0 ∨ v.k = 1 ∨ v.k = 2 ∨ v.k = 3 ∨ v.k = 4 ∨ v.k = 5 := may_kind h
theorem may_form {v : V} (h : mayB v = true) (hw : v.wf) : (v = ⟨0, 0, 0, ⟨#[]⟩⟩) ∨ (∃ n, (n = 0 ∨ n = 1) ∧ v = ⟨1, n, 0, ⟨#[]⟩⟩) ∨ (∃ n, (-9223372036854775808 ≤ n ∧ n ≤ 9223372036854775807) ∧ v = ⟨2, n, 0, ⟨#[]⟩⟩) ∨ (∃ r, (0 ≤ r ∧ r ≤ 18446744073709551615) ∧ r = canonZ r ∧ v = ⟨3, 0, r, ⟨#[]⟩⟩) ∨ (∃ t : ByteArray, t.size ≤ 100 ∧ v = ⟨4, 0, 0, t⟩) ∨ (∃ t : ByteArray, t.size ≤ 100 ∧ v = ⟨5, 0, 0, t⟩) := by
 obtain ⟨k, n, r, t⟩ := v
 obtain ⟨-, -, h1, h2, h3, h4, -⟩ := hw
 have hz : ∀ t : ByteArray, t.size = 0 → t = ⟨#[]⟩ := fun t h => empty_of_size h
 unfold mayB at h
 simp only at h h1 h2 h3 h4
 split at h
 · simp only [Bool.and_eq_true, decide_eq_true_eq] at h
   exact Or.inl (by rw [show k = 0 by assumption, h.1.1, h.1.2, hz t h.2])
 · split at h
   · simp only [Bool.and_eq_true, Bool.or_eq_true, decide_eq_true_eq] at h
     exact Or.inr (Or.inl ⟨n, h.1.1, by rw [show k = 1 by assumption, h.1.2, hz t h.2]⟩)
   · split at h
     · simp only [Bool.and_eq_true, decide_eq_true_eq] at h
       exact Or.inr (Or.inr (Or.inl ⟨n, ⟨h1, h2⟩, by rw [show k = 2 by assumption, h.1, hz t h.2]⟩))
     · split at h
       · simp only [Bool.and_eq_true, decide_eq_true_eq] at h
         exact Or.inr (Or.inr (Or.inr (Or.inl ⟨r, ⟨h3, h4⟩, h.1.2, by rw [show k = 3 by assumption, h.1.1, hz t h.2]⟩)))
       · split at h
         · simp only [Bool.and_eq_true, decide_eq_true_eq] at h
           exact Or.inr (Or.inr (Or.inr (Or.inr (Or.inl ⟨t, h.2, by rw [show k = 4 by assumption, h.1.1, h.1.2]⟩))))
         · split at h
           · simp only [Bool.and_eq_true, decide_eq_true_eq] at h
             exact Or.inr (Or.inr (Or.inr (Or.inr (Or.inr ⟨t, h.2.2, by rw [show k = 5 by assumption, h.2.1.1, h.2.1.2]⟩))))
           · cases h
theorem keyLs_lenM {l : List V} (h : ∀ x ∈ l, mayB x = true) : (keyLs l).length ≤ 203 * l.length := by
 induction l with
 | nil => simp [keyLs]
 | cons x m ih =>
  have i1 := ih fun y hy => h y (by simp [hy])
  have i2 := key1_length (h x (by simp))
  simp only [keyLs, List.flatMap_cons, List.length_append, List.length_cons] at i1 ⊢
  omega
theorem blk_same {W : World} {b : Nat} {cs : Array Value} {t : TypeId} (h : Blk W b cs t) (i : Nat) (u : Value) (hu : cs[i]? = some u) : W.setCell ⟨b, i, none⟩ u = W := by
 obtain ⟨w6, rfl, l6⟩ := blk_put h
 rw [putBlk_set _ _ l6]
 congr 1
 apply Array.ext_getElem?
 intro j
 rw [Array.getElem?_setIfInBounds]
 by_cases e : i = j
 · subst e; rw [if_pos rfl, hu, if_pos (Array.getElem?_eq_some_iff.1 hu).1]
 · rw [if_neg e]
set_option maxRecDepth 100000 in
set_option maxHeartbeats 3200000 in
theorem keyget_any (l : List V) (hlw : ∀ x ∈ l, x.wf) (hl : ∀ x ∈ l, mayB x = true) (hn : l.length ≤ 8) (hok : keyOk l = true) (w : World) (hL : LayX w) :
  Calls Tryz.prog 60 #[.string (bsO (keyLs l))] w fun e w' => (∃ A c, e = .returned (.tuple #[.slice A l.length c, .int .i64 0]) ∧ w'.ownsRow w.heap.size 47 4 (.slice A l.length c) l.length (rowCells l)) ∧ Below w.heap.size w w' := by
 obtain ⟨i0, hi0, hz0, hz1, hz2⟩ := info_parts info_V
 have HLI := hd_ hl
 have HLW := hd_ hlw
 have HL := hd_ hL
 have HOK := hd_ hok
 clear hl hlw hL hok
 go_enter Tryz.func60, Tryz.ntmps60
 go_wp2_with fail
 have h1 : Blk (((w.alloc (.cells #[.string (bsO (keyLs l))] 9)).alloc (.cells #[.bool false] 4)).alloc (.cells #[.func (.func 93) #[] #[.pointer (some ⟨w.heap.size, 0, none⟩), .pointer (some ⟨w.heap.size + 1, 0, none⟩)]] 164)) w.heap.size #[.string (bsO (keyLs l))] 9 := Blk.old (Blk.old (Blk.new _ _ _) _) _
 have h2 : Blk (((w.alloc (.cells #[.string (bsO (keyLs l))] 9)).alloc (.cells #[.bool false] 4)).alloc (.cells #[.func (.func 93) #[] #[.pointer (some ⟨w.heap.size, 0, none⟩), .pointer (some ⟨w.heap.size + 1, 0, none⟩)]] 164)) (w.heap.size + 1) #[.bool false] 4 := Blk.old (Blk.at (by simp)) _
 have h7 : Blk (((w.alloc (.cells #[.string (bsO (keyLs l))] 9)).alloc (.cells #[.bool false] 4)).alloc (.cells #[.func (.func 93) #[] #[.pointer (some ⟨w.heap.size, 0, none⟩), .pointer (some ⟨w.heap.size + 1, 0, none⟩)]] 164)) (w.heap.size + 1 + 1) #[.func (.func 93) #[] #[.pointer (some ⟨w.heap.size, 0, none⟩), .pointer (some ⟨w.heap.size + 1, 0, none⟩)]] 164 := Blk.at (by simp)
 have hb : Below w.heap.size w (((w.alloc (.cells #[.string (bsO (keyLs l))] 9)).alloc (.cells #[.bool false] 4)).alloc (.cells #[.func (.func 93) #[] #[.pointer (some ⟨w.heap.size, 0, none⟩), .pointer (some ⟨w.heap.size + 1, 0, none⟩)]] 164)) := (by repeat (first | exact Below.refl _ _ | assumption | refine Below.drew ?_ | refine below_drewN ?_ _ | refine Below.alloc ?_ (by simp <;> omega) _))
 generalize (((w.alloc (.cells #[.string (bsO (keyLs l))] 9)).alloc (.cells #[.bool false] 4)).alloc (.cells #[.func (.func 93) #[] #[.pointer (some ⟨w.heap.size, 0, none⟩), .pointer (some ⟨w.heap.size + 1, 0, none⟩)]] 164)) = W at h1 h2 h7 hb ⊢
 obtain ⟨b1, hb1⟩ : ∃ b, b = w.heap.size := ⟨_, rfl⟩
 obtain ⟨b2, hb2⟩ : ∃ b, b = w.heap.size + 1 := ⟨_, rfl⟩
 obtain ⟨b7, hb7⟩ : ∃ b, b = w.heap.size + 1 + 1 := ⟨_, rfl⟩
 rw [← hb7] at h7 ⊢
 rw [← hb2] at h2 h7 ⊢
 rw [← hb1] at h1 h7 ⊢
 have HWW : Hid (w.heap.size + 1 + 1 < W.heap.size) := by have := h7.lt; show w.heap.size + 1 + 1 < W.heap.size; omega
 have HBN : Hid (b1 = w.heap.size ∧ b2 = w.heap.size + 1 ∧ b7 = w.heap.size + 1 + 1) := ⟨hb1, hb2, hb7⟩
 clear hb1 hb2 hb7
 go_loopw [4] (fun a wr => ∃ (k : Nat) (A : Option Addr) (c : Nat), k ≤ l.length ∧ a = .slice A k c ∧ Blk wr b1 #[.string (bsO (keyLs (l.drop k)))] 9 ∧ Blk wr b2 #[.bool false] 4 ∧ Blk wr b7 #[.func (.func 93) #[] #[.pointer (some ⟨b1, 0, none⟩), .pointer (some ⟨b2, 0, none⟩)]] 164 ∧ wr.ownsRow W.heap.size 47 4 (.slice A k c) k (rowCells (l.take k)) ∧ Below w.heap.size w wr ∧ W.heap.size ≤ wr.heap.size) (fun a _ => l.length - (match a with | .slice _ k _ => k | _ => 0))
 case atStart => exact ⟨0, none, 0, by omega, rfl, h1, h2, h7, World.ownsRow_nil _ _ _ _, hb, Nat.le_refl _⟩
 case round =>
  obtain ⟨k, A, c, hk, rfl, g1, g2, g7, hown, hbw, hsz⟩ := hrel
  by_cases hlt : k < l.length
  · have hx := HLI.out l[k] (List.getElem_mem hlt)
    have hxw := HLW.out l[k] (List.getElem_mem hlt)
    have hkey : keyLs (l.drop k) = [UInt8.ofNat (l[k].k.toNat + 1)] ++ (pay l[k] ++ keyLs (l.drop (k + 1))) := by
     rw [List.drop_eq_getElem_cons hlt]
     show key1 l[k] ++ keyLs (l.drop (k + 1)) = _
     rw [key1_pay, List.append_assoc]
    have hrl : (keyLs (l.drop k)).length ≤ 100000 := by
     have := keyLs_lenM (l := l.drop k) (fun x hx => HLI.out x (List.mem_of_mem_drop hx))
     simp only [List.length_drop] at this
     omega
    have hs1 : 0 < (bsO (keyLs (l.drop k))).size := by rw [bsO_size, hkey]; simp
    have HT1 := hd_ (kg1_any [UInt8.ofNat (l[k].k.toNat + 1)] (pay l[k] ++ keyLs (l.drop (k + 1))) 1 rfl (by rw [← hkey]; omega) b1 b2 wr (by rw [← hkey]; exact g1))
    have HTK : Hid (rowCells (l.take k) ++ [.int .u8 l[k].k, .int .i64 l[k].n, .int .u64 l[k].r, .string l[k].t] = rowCells (l.take (k + 1))) := by
     show _ = _
     rw [List.take_succ_eq_append_getElem hlt, rowCells_snoc]
     rfl
    have hpl : (pay l[k] ++ keyLs (l.drop (k + 1))).length ≤ 100000 := by
     rw [hkey] at hrl
     simp only [List.length_append, List.length_cons, List.length_nil] at hrl ⊢
     omega
    have hkk := may_k hx
    have HX := hd_ (may_form hx hxw)
    have HPL := hd_ hpl
    have hkw : IntKind.u8.wrap (((UInt8.ofNat (l[k].k.toNat + 1)).toNat : Int) - 1) = l[k].k := by
     rcases hkk with h | h | h | h | h | h <;> rw [h] <;> rfl
    clear hkey hx hxw hrl hpl hkk
    generalize UInt8.ofNat (l[k].k.toNat + 1) = kb at HT1 hkw
    generalize l[k] = x at *
    have hb3 : bsO [kb] = ⟨#[kb]⟩ := rfl
    rw [hb3] at HT1
    generalize bsO (keyLs (l.drop k)) = s1 at g1 hs1
    obtain ⟨R, hR⟩ : ∃ R, R = keyLs (l.drop (k + 1)) := ⟨_, rfl⟩
    rw [← hR] at HT1 HPL
    have HRE := hd_ hR
    clear hR
    obtain ⟨l1, c1⟩ : b1 < wr.heap.size ∧ wr.cell? ⟨b1, 0, none⟩ = some (.string s1) := ⟨g1.lt, g1.cell 0⟩
    obtain ⟨l2, c2⟩ : b2 < wr.heap.size ∧ wr.cell? ⟨b2, 0, none⟩ = some (.bool false) := ⟨g2.lt, g2.cell 0⟩
    obtain ⟨l7, c7⟩ : b7 < wr.heap.size ∧ wr.cell? ⟨b7, 0, none⟩ = some (.func (.func 93) #[] #[.pointer (some ⟨b1, 0, none⟩), .pointer (some ⟨b2, 0, none⟩)]) := ⟨g7.lt, g7.cell 0⟩
    have HG2 := hd_ g2
    have HG7 := hd_ g7
    have HO := hd_ hown
    have HBW := hd_ hbw
    have HSZ := hd_ hsz
    have hk8 : k ≤ 8 := by omega
    have hk8i : decide ((k : Int) ≤ 8) = true := by simp; omega
    clear g1 g2 g7 hown hbw hsz hb3
    go_wp2_with fail
    refine HT1.out.mono ?_
    rintro e w1 ⟨rfl, r1, hc1⟩
    have hlo := HBN.out
    have hwW := HWW.out
    have hb1w : Below w.heap.size w w1 := HBW.out.trans (chg_below hc1 (by simp; omega) HBW.out.size)
    have h21 := HG2.out.chg hc1 (by simp; omega)
    have h71 := HG7.out.chg hc1 (by simp; omega)
    have ho1 := own_chg9 HO.out hc1 (by simp; omega)
    have hs1' := hc1.size
    have HS1 := hd_ (Nat.le_trans HSZ.out hs1')
    have HB1 := hd_ hb1w
    have HO1 := hd_ ho1
    have HR1 := hd_ r1
    have H21 := hd_ h21
    have H71 := hd_ h71
    clear l1 c1 l2 c2 l7 c7 hc1 hb1w h21 h71 ho1 r1 hs1' HT1 HSZ HBW HO HG2 HG7 hlo hwW
    have h30 : (⟨#[kb]⟩ : ByteArray)[0]'(Nat.zero_lt_one) = kb := rfl
    go_upto_block 2 with fail
    clear h30
    have hX : Below w1.heap.size w1 (w1.alloc (.cells #[.int .u8 x.k, .int .i64 0, .int .u64 0, .string ⟨#[]⟩] 47)) := bel1 _ _
    have hv0 : Blk (w1.alloc (.cells #[.int .u8 x.k, .int .i64 0, .int .u64 0, .string ⟨#[]⟩] 47)) w1.heap.size #[.int .u8 x.k, .int .i64 0, .int .u64 0, .string ⟨#[]⟩] 47 := Blk.new _ _ _
    have HXR := hd_ (HR1.out.ext hX)
    have HXB : Hid (Below w.heap.size w (w1.alloc (.cells #[.int .u8 x.k, .int .i64 0, .int .u64 0, .string ⟨#[]⟩] 47))) := bt HB1.out hX
    have HX2 := hd_ (H21.out.ext hX)
    have HX7 := hd_ (H71.out.ext hX)
    have HXO := hd_ (own_below HO1.out hX)
    have HV0 := hd_ hv0
    have HXS : Hid (W.heap.size ≤ (w1.alloc (.cells #[.int .u8 x.k, .int .i64 0, .int .u64 0, .string ⟨#[]⟩] 47)).heap.size) := Nat.le_trans HS1.out hX.size
    have HGL : Hid (∀ g, (Value.slice A k c).ownBlock = some g → g < w1.heap.size) := fun g hg => (HO1.out.lt g hg).2
    have HNB : Hid (w1.heap.size ≠ b1 ∧ W.heap.size ≤ w1.heap.size) := ⟨by have := HBN.out; have := HWW.out; have := HS1.out; omega, HS1.out⟩
    have HXL : Hid (LayX (w1.alloc (.cells #[.int .u8 x.k, .int .i64 0, .int .u64 0, .string ⟨#[]⟩] 47))) := HL.out.ext HXB.out
    clear hX hv0 HB1 H21 H71 HO1 HR1 HS1
    generalize (w1.alloc (.cells #[.int .u8 x.k, .int .i64 0, .int .u64 0, .string ⟨#[]⟩] 47)) = X at HXR HXB HX2 HX7 HXO HV0 HXS HXL ⊢
    generalize w1.heap.size = b10 at HV0 HNB HGL ⊢
    go_cut [11, 12] from 19 to 76 (fun u v wx => Hid (Blk wx b10 #[.int .u8 x.k, .int .i64 x.n, .int .u64 x.r, .string x.t] 47) ∧ Hid (Blk wx b1 #[.string (bsO R)] 9) ∧ Hid (Blk wx b2 #[.bool false] 4) ∧ Hid (Blk wx b7 #[.func (.func 93) #[] #[.pointer (some ⟨b1, 0, none⟩), .pointer (some ⟨b2, 0, none⟩)]] 164) ∧ Hid (wx.ownsRow W.heap.size 47 4 (.slice A k c) k (rowCells (l.take k))) ∧ Hid (Below w.heap.size w wx) ∧ Hid (W.heap.size ≤ wx.heap.size))
    case first =>
     clear HTK hkw
     obtain ⟨l7, c7⟩ : b7 < X.heap.size ∧ X.cell? ⟨b7, 0, none⟩ = some (.func (.func 93) #[] #[.pointer (some ⟨b1, 0, none⟩), .pointer (some ⟨b2, 0, none⟩)]) := ⟨HX7.out.lt, HX7.out.cell 0⟩
     rcases HX.out with hx | ⟨n, hn01, hx⟩ | ⟨n, hn2, hx⟩ | ⟨r, hr, hrc, hx⟩ | ⟨t, ht, hx⟩ | ⟨t, ht, hx⟩
     · subst hx
       clear HX l7 c7
       have hp : pay ⟨0, 0, 0, ⟨#[]⟩⟩ ++ R = R := rfl
       rw [hp] at HXR
       simp only at HV0
       go_wp2_with fail
       go_meet
       exact ⟨HV0, HXR, HX2, HX7, HXO, HXB, HXS⟩
     · have hp : pay x ++ R = [UInt8.ofNat n.toNat] ++ R := by rw [hx]; rfl
       have HK := hd_ (kg1_any [UInt8.ofNat n.toNat] R 1 rfl (by have := HPL.out; rw [hp] at this; omega) b1 b2 X (by rw [← hp]; exact HXR.out))
       clear hp
       subst hx
       clear HX
       rcases hn01 with rfl | rfl
       · have hb3 : bsO [UInt8.ofNat (0 : Int).toNat] = ⟨#[0]⟩ := rfl
         rw [hb3] at HK
         simp only at HV0
         clear hb3
         go_wp2_with fail
         refine HK.out.mono ?_
         rintro e w2 ⟨rfl, r2, hc2⟩
         have hv2 := HV0.out.chg hc2 (by simpa using HNB.out.1)
         have h22 := HX2.out.chg hc2 (by have := HBN.out; simp; omega)
         have h72 := HX7.out.chg hc2 (by have := HBN.out; simp; omega)
         have ho2 := own_chg9 HXO.out hc2 (by have := HBN.out; have := HWW.out; simp; omega)
         have hb2w : Below w.heap.size w w2 := HXB.out.trans (chg_below hc2 (by have := HBN.out; simp; omega) HXB.out.size)
         have HS2 := hd_ (Nat.le_trans HXS.out hc2.size)
         have HR2 := hd_ r2
         have H22 := hd_ h22
         have H72 := hd_ h72
         have HO2 := hd_ ho2
         have HB2 := hd_ hb2w
         clear hc2 r2 h22 h72 ho2 hb2w HXR HX2 HX7 HXO HXB HXS
         clear l7 c7
         have h30 : (⟨#[0]⟩ : ByteArray)[0]'(Nat.zero_lt_one) = 0 := rfl
         obtain ⟨w3, rfl, l10⟩ := blk_put hv2
         obtain ⟨pc, pf, pS⟩ := putBlk_facts (w := w3) 47 l10
         clear hv2
         go_wp2_with fail
         have hc : Chg [b10] (putBlk w3 b10 #[.int .u8 1, .int .i64 0, .int .u64 0, .string ⟨#[]⟩] 47) (putBlk w3 b10 #[.int .u8 1, .int .i64 0, .int .u64 0, .string ⟨#[]⟩] 47) := chg_put0
         have hn1 := HNB.out
         have hn2 := HBN.out
         have hn3 := HWW.out
         go_meet
         exact ⟨putBlk_blk _ _ l10, HR2.out.chg hc (by simp; omega), H22.out.chg hc (by simp; omega), H72.out.chg hc (by simp; omega), own_chgN HO2.out hc (fun g hg => by have := HGL.out g hg; simp; omega), HB2.out.trans (chg_below hc (by simp; omega) HB2.out.size), Nat.le_trans HS2.out hc.size⟩
       · have hb3 : bsO [UInt8.ofNat (1 : Int).toNat] = ⟨#[1]⟩ := rfl
         rw [hb3] at HK
         simp only at HV0
         clear hb3
         go_wp2_with fail
         refine HK.out.mono ?_
         rintro e w2 ⟨rfl, r2, hc2⟩
         have hv2 := HV0.out.chg hc2 (by simpa using HNB.out.1)
         have h22 := HX2.out.chg hc2 (by have := HBN.out; simp; omega)
         have h72 := HX7.out.chg hc2 (by have := HBN.out; simp; omega)
         have ho2 := own_chg9 HXO.out hc2 (by have := HBN.out; have := HWW.out; simp; omega)
         have hb2w : Below w.heap.size w w2 := HXB.out.trans (chg_below hc2 (by have := HBN.out; simp; omega) HXB.out.size)
         have HS2 := hd_ (Nat.le_trans HXS.out hc2.size)
         have HR2 := hd_ r2
         have H22 := hd_ h22
         have H72 := hd_ h72
         have HO2 := hd_ ho2
         have HB2 := hd_ hb2w
         clear hc2 r2 h22 h72 ho2 hb2w HXR HX2 HX7 HXO HXB HXS
         clear l7 c7
         have h30 : (⟨#[1]⟩ : ByteArray)[0]'(Nat.zero_lt_one) = 1 := rfl
         obtain ⟨w3, rfl, l10⟩ := blk_put hv2
         obtain ⟨pc, pf, pS⟩ := putBlk_facts (w := w3) 47 l10
         clear hv2
         go_wp2_with fail
         have hc : Chg [b10] (putBlk w3 b10 #[.int .u8 1, .int .i64 0, .int .u64 0, .string ⟨#[]⟩] 47) (putBlk w3 b10 #[.int .u8 1, .int .i64 1, .int .u64 0, .string ⟨#[]⟩] 47) := chg_put0
         have hn1 := HNB.out
         have hn2 := HBN.out
         have hn3 := HWW.out
         go_meet
         exact ⟨putBlk_blk _ _ l10, HR2.out.chg hc (by simp; omega), H22.out.chg hc (by simp; omega), H72.out.chg hc (by simp; omega), own_chgN HO2.out hc (fun g hg => by have := HGL.out g hg; simp; omega), HB2.out.trans (chg_below hc (by simp; omega) HB2.out.size), Nat.le_trans HS2.out hc.size⟩
     · have hp : pay x ++ R = hiN 8 (n + 9223372036854775808).toNat ++ R := by rw [hx]; rfl
       obtain ⟨Vn, hVn⟩ : ∃ Vn, Vn = (n + 9223372036854775808).toNat := ⟨_, rfl⟩
       have hxb : IntKind.i64.wrap (bits .xor .u64 (Vn : Int) 9223372036854775808) = n := by rw [hVn]; exact xor_back _ hn2.1 hn2.2
       have hVl : Vn < 18446744073709551616 := by omega
       rw [← hVn] at hp
       have HK := hd_ (kg2_any Vn hVl R (by have := HPL.out; rw [hp] at this; simp at this; omega) b1 b2 b7 X (by rw [← hp]; exact HXR.out) HX7.out)
       clear hp hVn hVl hn2 l7 c7
       subst hx
       clear HX
       simp only at HV0
       go_wp2_with fail
       refine HK.out.mono ?_
       rintro e w2 ⟨rfl, r2, hc2⟩
       have hv2 := HV0.out.chg hc2 (by simpa using HNB.out.1)
       have h22 := HX2.out.chg hc2 (by have := HBN.out; simp; omega)
       have h72 := HX7.out.chg hc2 (by have := HBN.out; simp; omega)
       have ho2 := own_chg9 HXO.out hc2 (by have := HBN.out; have := HWW.out; simp; omega)
       have hb2w : Below w.heap.size w w2 := HXB.out.trans (chg_below hc2 (by have := HBN.out; simp; omega) HXB.out.size)
       have HS2 := hd_ (Nat.le_trans HXS.out hc2.size)
       have HR2 := hd_ r2
       have H22 := hd_ h22
       have H72 := hd_ h72
       have HO2 := hd_ ho2
       have HB2 := hd_ hb2w
       clear hc2 r2 h22 h72 ho2 hb2w HXR HX2 HX7 HXO HXB HXS
       obtain ⟨w3, rfl, l10⟩ := blk_put hv2
       obtain ⟨pc, pf, pS⟩ := putBlk_facts (w := w3) 47 l10
       clear hv2
       go_wp2_with fail
       clear hxb
       have hc : Chg [b10] (putBlk w3 b10 #[.int .u8 2, .int .i64 0, .int .u64 0, .string ⟨#[]⟩] 47) (putBlk w3 b10 #[.int .u8 2, .int .i64 n, .int .u64 0, .string ⟨#[]⟩] 47) := chg_put0
       have hn1 := HNB.out
       have hn2 := HBN.out
       have hn3 := HWW.out
       go_meet
       exact ⟨putBlk_blk _ _ l10, HR2.out.chg hc (by simp; omega), H22.out.chg hc (by simp; omega), H72.out.chg hc (by simp; omega), own_chgN HO2.out hc (fun g hg => by have := HGL.out g hg; simp; omega), HB2.out.trans (chg_below hc (by simp; omega) HB2.out.size), Nat.le_trans HS2.out hc.size⟩
     · have hp : pay x ++ R = hiN 8 (keyZ r).toNat ++ R := by rw [hx]; rfl
       have hkz : 0 ≤ keyZ r ∧ keyZ r ≤ 18446744073709551615 := by unfold keyZ; have := canonZ_in r hr.1 hr.2; split <;> omega
       have hVl : (keyZ r).toNat < 18446744073709551616 := by omega
       have HK := hd_ (kg2_any (keyZ r).toNat hVl R (by have := HPL.out; rw [hp] at this; simp at this; omega) b1 b2 b7 X (by rw [← hp]; exact HXR.out) HX7.out)
       have hkn : (((keyZ r).toNat : Nat) : Int) = keyZ r := by omega
       rw [hkn] at HK
       have HRB := hd_ (realback_any r hr.1 hr.2 hrc)
       clear hp hVl hr hrc l7 c7 hkz hkn
       generalize keyZ r = kz at HK HRB
       subst hx
       clear HX
       simp only at HV0
       go_wp2_with fail
       refine HK.out.mono ?_
       rintro e w2 ⟨rfl, r2, hc2⟩
       have hv2 := HV0.out.chg hc2 (by simpa using HNB.out.1)
       have h22 := HX2.out.chg hc2 (by have := HBN.out; simp; omega)
       have h72 := HX7.out.chg hc2 (by have := HBN.out; simp; omega)
       have ho2 := own_chg9 HXO.out hc2 (by have := HBN.out; have := HWW.out; simp; omega)
       have hb2w : Below w.heap.size w w2 := HXB.out.trans (chg_below hc2 (by have := HBN.out; simp; omega) HXB.out.size)
       have HS2 := hd_ (Nat.le_trans HXS.out hc2.size)
       have HR2 := hd_ r2
       have H22 := hd_ h22
       have H72 := hd_ h72
       have HO2 := hd_ ho2
       have HB2 := hd_ hb2w
       clear hc2 r2 h22 h72 ho2 hb2w HXR HX2 HX7 HXO HXB HXS
       have HV2 := hd_ hv2
       clear hv2
       go_wp2_with fail
       refine (HRB.out _).mono ?_
       rintro e w4 ⟨rfl, hb⟩
       have hv2 := HV2.out.ext hb
       have HR2 := hd_ (HR2.out.ext hb)
       have H22 := hd_ (H22.out.ext hb)
       have H72 := hd_ (H72.out.ext hb)
       have HO2 := hd_ (own_below HO2.out hb)
       have HS2 := hd_ (Nat.le_trans HS2.out hb.size)
       have HB2 := hd_ (bt HB2.out hb)
       clear hb HV2
       obtain ⟨w3, rfl, l10⟩ := blk_put hv2
       obtain ⟨pc, pf, pS⟩ := putBlk_facts (w := w3) 47 l10
       have hn0 : b2 ≠ b10 := by have := HBN.out; have := HNB.out; have := HWW.out; omega
       have q2 : ∀ cs, Blk (putBlk w3 b10 cs 47) b2 #[.bool false] 4 := fun cs => by
        have h := H22.out
        have hc : Chg [b10] (putBlk w3 b10 #[.int .u8 3, .int .i64 0, .int .u64 0, .string ⟨#[]⟩] 47) (putBlk w3 b10 cs 47) := chg_put0
        exact h.chg hc (by simpa using hn0)
       have q2l : ∀ cs, b2 < (putBlk w3 b10 cs 47).heap.size := fun cs => (q2 cs).lt
       have q2c : ∀ cs, (putBlk w3 b10 cs 47).cell? ⟨b2, 0, none⟩ = some (.bool false) := fun cs => (q2 cs).cell 0
       have q2f : ∀ cs, (putBlk w3 b10 cs 47).frozen? ⟨b2, 0, none⟩ = false := fun cs => (q2 cs).frozen 0
       have q2s : ∀ cs, (putBlk w3 b10 cs 47).setCell ⟨b2, 0, none⟩ (.bool false) = putBlk w3 b10 cs 47 := fun cs => blk_same (q2 cs) 0 _ rfl
       clear hv2 q2 hn0
       go_wp2_with fail
       clear q2l q2c q2f q2s
       have hc : Chg [b10] (putBlk w3 b10 #[.int .u8 3, .int .i64 0, .int .u64 0, .string ⟨#[]⟩] 47) (putBlk w3 b10 #[.int .u8 3, .int .i64 0, .int .u64 r, .string ⟨#[]⟩] 47) := chg_put0
       have hn1 := HNB.out
       have hn2 := HBN.out
       have hn3 := HWW.out
       go_meet
       exact ⟨putBlk_blk _ _ l10, HR2.out.chg hc (by simp; omega), H22.out.chg hc (by simp; omega), H72.out.chg hc (by simp; omega), own_chgN HO2.out hc (fun g hg => by have := HGL.out g hg; simp; omega), HB2.out.trans (chg_below hc (by simp; omega) HB2.out.size), Nat.le_trans HS2.out hc.size⟩
     · have hp : pay x ++ R = keyT t.data.toList ++ 0 :: 1 :: R := by rw [hx]; show (keyT t.data.toList ++ [0, 1]) ++ R = _; rw [List.append_assoc]; rfl
       have hK := kg3_any t.data.toList R (by have := HPL.out; rw [hp] at this; omega) b1 b2 X (by rw [← hp]; exact HXR.out) HXL.out
       have ht2 : bsO t.data.toList = t := by unfold bsO; rw [Array.toArray_toList]
       rw [ht2] at hK
       have HK := hd_ hK
       clear hp ht ht2 hK l7 c7
       subst hx
       clear HX
       simp only at HV0
       go_wp2_with fail
       refine HK.out.mono ?_
       rintro e w2 ⟨rfl, r2, hc2⟩
       have hv2 := HV0.out.chg hc2 (by simpa using HNB.out.1)
       have h22 := HX2.out.chg hc2 (by have := HBN.out; simp; omega)
       have h72 := HX7.out.chg hc2 (by have := HBN.out; simp; omega)
       have ho2 := own_chg9 HXO.out hc2 (by have := HBN.out; have := HWW.out; simp; omega)
       have hb2w : Below w.heap.size w w2 := HXB.out.trans (chg_below hc2 (by have := HBN.out; simp; omega) HXB.out.size)
       have HS2 := hd_ (Nat.le_trans HXS.out hc2.size)
       have HR2 := hd_ r2
       have H22 := hd_ h22
       have H72 := hd_ h72
       have HO2 := hd_ ho2
       have HB2 := hd_ hb2w
       clear hc2 r2 h22 h72 ho2 hb2w HXR HX2 HX7 HXO HXB HXS
       obtain ⟨w3, rfl, l10⟩ := blk_put hv2
       obtain ⟨pc, pf, pS⟩ := putBlk_facts (w := w3) 47 l10
       clear hv2
       go_wp2_with fail
       have hc : Chg [b10] (putBlk w3 b10 #[.int .u8 4, .int .i64 0, .int .u64 0, .string ⟨#[]⟩] 47) (putBlk w3 b10 #[.int .u8 4, .int .i64 0, .int .u64 0, .string t] 47) := chg_put0
       have hn1 := HNB.out
       have hn2 := HBN.out
       have hn3 := HWW.out
       go_meet
       exact ⟨putBlk_blk _ _ l10, HR2.out.chg hc (by simp; omega), H22.out.chg hc (by simp; omega), H72.out.chg hc (by simp; omega), own_chgN HO2.out hc (fun g hg => by have := HGL.out g hg; simp; omega), HB2.out.trans (chg_below hc (by simp; omega) HB2.out.size), Nat.le_trans HS2.out hc.size⟩
     · have hp : pay x ++ R = keyT t.data.toList ++ 0 :: 1 :: R := by rw [hx]; show (keyT t.data.toList ++ [0, 1]) ++ R = _; rw [List.append_assoc]; rfl
       have hK := kg3_any t.data.toList R (by have := HPL.out; rw [hp] at this; omega) b1 b2 X (by rw [← hp]; exact HXR.out) HXL.out
       have ht2 : bsO t.data.toList = t := by unfold bsO; rw [Array.toArray_toList]
       rw [ht2] at hK
       have HK := hd_ hK
       clear hp ht ht2 hK l7 c7
       subst hx
       clear HX
       simp only at HV0
       go_wp2_with fail
       refine HK.out.mono ?_
       rintro e w2 ⟨rfl, r2, hc2⟩
       have hv2 := HV0.out.chg hc2 (by simpa using HNB.out.1)
       have h22 := HX2.out.chg hc2 (by have := HBN.out; simp; omega)
       have h72 := HX7.out.chg hc2 (by have := HBN.out; simp; omega)
       have ho2 := own_chg9 HXO.out hc2 (by have := HBN.out; have := HWW.out; simp; omega)
       have hb2w : Below w.heap.size w w2 := HXB.out.trans (chg_below hc2 (by have := HBN.out; simp; omega) HXB.out.size)
       have HS2 := hd_ (Nat.le_trans HXS.out hc2.size)
       have HR2 := hd_ r2
       have H22 := hd_ h22
       have H72 := hd_ h72
       have HO2 := hd_ ho2
       have HB2 := hd_ hb2w
       clear hc2 r2 h22 h72 ho2 hb2w HXR HX2 HX7 HXO HXB HXS
       obtain ⟨w3, rfl, l10⟩ := blk_put hv2
       obtain ⟨pc, pf, pS⟩ := putBlk_facts (w := w3) 47 l10
       clear hv2
       go_wp2_with fail
       have hc : Chg [b10] (putBlk w3 b10 #[.int .u8 5, .int .i64 0, .int .u64 0, .string ⟨#[]⟩] 47) (putBlk w3 b10 #[.int .u8 5, .int .i64 0, .int .u64 0, .string t] 47) := chg_put0
       have hn1 := HNB.out
       have hn2 := HBN.out
       have hn3 := HWW.out
       go_meet
       exact ⟨putBlk_blk _ _ l10, HR2.out.chg hc (by simp; omega), H22.out.chg hc (by simp; omega), H72.out.chg hc (by simp; omega), own_chgN HO2.out hc (fun g hg => by have := HGL.out g hg; simp; omega), HB2.out.trans (chg_below hc (by simp; omega) HB2.out.size), Nat.le_trans HS2.out hc.size⟩
    case rest =>
    obtain ⟨hv4', H14, H24, H74, HO4, HB4, HS4⟩ := hcut
    rename World => w4
    have hv4 := hv4'.out
    obtain ⟨lv, v0, v1, v2, v3⟩ := blk4' hv4
    clear hv4 hv4' HXR HXB HX2 HX7 HXO HV0 HXS HXL HNB HGL HX hkw
    have hA2 : Below w4.heap.size w4 (w4.alloc (.cells #[.int .u8 x.k, .int .i64 x.n, .int .u64 x.r, .string x.t] 47)) := bel1 _ _
    have HO5 := hd_ (own_below HO4.out hA2)
    have HA2 := hd_ hA2
    have hs4 := HS4.out
    clear hA2
    go_wp2_with (at_builtin; refine wpList_append_own _ rfl _ _ 25 rfl W.heap.size 47 i0 _ 4 40 Tryz.underlying25 hi0 hz0 hz1 hz2 rfl (by decide) (.slice A k c) k (rowCells (l.take k)) rfl HO5.out ⟨w4.heap.size, 0, none⟩ 1 1 [.int .u8 x.k, .int .i64 x.n, .int .u64 x.r, .string x.t] rfl rfl ?c1 ?c2 ?c3 ?c4 ?c5 ?_)
    case c1 =>
     intro j v hj
     have h0 : Blk (w4.alloc (.cells #[.int .u8 x.k, .int .i64 x.n, .int .u64 x.r, .string x.t] 47)) w4.heap.size #[.int .u8 x.k, .int .i64 x.n, .int .u64 x.r, .string x.t] 47 := Blk.new w4 _ _
     have ha : (⟨w4.heap.size, 0, none⟩ : Addr).add j = ⟨w4.heap.size, j, none⟩ := by unfold Addr.add; split <;> simp_all
     rw [ha]
     exact (h0.cell j).trans (by simpa using hj)
    case c2 => simp [Value.oneCell']
    case c3 => simp only [maxLen]; omega
    case c4 => omega
    case c5 => simp; omega
    intro v' w5 hown1 hg1 _
    obtain ⟨A5, c5, rfl⟩ := Rg.row_form hown1
    rw [HTK.out] at hown1
    have hsA : W.heap.size ≤ (w4.alloc (.cells #[.int .u8 x.k, .int .i64 x.n, .int .u64 x.r, .string x.t] 47)).heap.size := by simp; omega
    have hb5 : Below W.heap.size w4 w5 := (HA2.out.mono hs4).grown hg1 hsA (own_ge HO5.out)
    have HB5 : Hid (Below w.heap.size w w5) := HB4.out.trans (hb5.mono (by have := HWW.out; omega))
    have HS5 := hd_ (Nat.le_trans hs4 hb5.size)
    have hk5 : ∀ b cs t, b < W.heap.size → Blk w4 b cs t → Blk w5 b cs t := fun b cs t hb h => (hb5.block b hb).trans h
    have H15 := hd_ (hk5 _ _ _ (by have := HBN.out; have := HWW.out; omega) H14.out)
    have H25 := hd_ (hk5 _ _ _ (by have := HBN.out; have := HWW.out; omega) H24.out)
    have H75 := hd_ (hk5 _ _ _ (by have := HBN.out; have := HWW.out; omega) H74.out)
    have HO6 := hd_ hown1
    clear hown1 hg1 hsA hb5 hk5 lv v0 v1 v2 v3 hs4 HTK
    go_wp2_with fail
    go_roundw
    case rel => exact ⟨k + 1, A5, c5, by omega, by go_num, by rw [← HRE.out]; exact H15.out, H25.out, H75.out, HO6.out, HB5.out, HS5.out⟩
    case measure => simp; omega
  · obtain rfl : k = l.length := by omega
    have hd0 : keyLs (l.drop l.length) = [] := by rw [List.drop_length]; rfl
    have hse : bsO (keyLs (l.drop l.length)) = ⟨#[]⟩ := by rw [hd0]; rfl
    rw [hse] at g1
    rw [List.take_length] at hown
    have hvr : VRow wr A l := (VRow.of_own (fun v hv => HLW.out v hv) (by omega) hown).1
    have HP := hd_ (keyput_any l A c wr hvr (HL.out.ext hbw))
    rw [HOK.out] at HP
    simp only [if_true] at HP
    obtain ⟨l1, c1⟩ : b1 < wr.heap.size ∧ wr.cell? ⟨b1, 0, none⟩ = some (.string ⟨#[]⟩) := ⟨g1.lt, g1.cell 0⟩
    have HG2 := hd_ g2
    have HO := hd_ hown
    have HBW := hd_ hbw
    clear hd0 hse g1 g2 g7 hown hbw hvr hsz
    have hz0' : (ByteArray.mk #[]).size = 0 := rfl
    go_wp2_with fail
    refine HP.out.mono ?_
    rintro e w1 ⟨rfl, hb⟩
    have hb1 : Below w.heap.size w w1 := bt HBW.out hb
    have g21 := HG2.out.ext hb
    obtain ⟨l2, c2⟩ : b2 < w1.heap.size ∧ w1.cell? ⟨b2, 0, none⟩ = some (.bool false) := ⟨g21.lt, g21.cell 0⟩
    have HO1 := hd_ (own_base' (own_below HO.out hb) (by have := HWW.out; omega : w.heap.size ≤ W.heap.size))
    have hq : bsO (keyLs l) = ⟨(keyLs l).toArray⟩ := rfl
    rw [hq]
    have HB1 := hd_ hb1
    clear hb hb1 g21 l1 c1 hq HP
    generalize (⟨(keyLs l).toArray⟩ : ByteArray) = sl
    go_wp2_with fail
    refine bodyPost_ret (v := .tuple #[.slice A l.length c, .int .i64 0]) (by simp [results, Tryz.results60, go_sem]) rfl ?_
    exact ⟨⟨A, c, rfl, HO1.out⟩, HB1.out⟩
end Go.Proofs.YtceoficoappkpaaGreatDoor
