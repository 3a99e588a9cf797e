/- Texts joined by a tool: contracts and walks of this claim. -/
import Derived.Test.YtceoficoappkpaaGreatDoorB34
import Derived.Test.YtceoficoappkpaaGreatDoorB26
namespace Go.Proofs.YtceoficoappkpaaGreatDoor
open Go.RowKit Go.Shelf
attribute [local go_sem] Oper.semAt_some

theorem or_u64 (a c : Nat) (ha : a < 18446744073709551616) (hc : c < 18446744073709551616) : bits .or .u64 (a : Int) (c : Int) = ((a ||| c : Nat) : Int) := u64_or_nat a c ha hc
theorem chg_tr' {S : List Nat} {w w1 w2 : World} (h : Chg S w w1) (k : Chg [] w1 w2) : Chg S w w2 :=
 ⟨k.os.trans h.os, k.tape.trans h.tape, k.output.trans h.output, Nat.le_trans h.size k.size, fun i hi hn => (k.block i (Nat.lt_of_lt_of_le hi h.size) (by simp)).trans (h.block i hi hn)⟩
set_option maxRecDepth 100000 in
set_option maxHeartbeats 800000 in
theorem kg2_any (v : Nat) (hv : v < 18446744073709551616) (r : List UInt8) (hs : r.length ≤ 1000000000) (b1 b2 b7 : Nat) (w : World) (h1 : Blk w b1 #[.string (bsO (hiN 8 v ++ r))] 9)
  (h7 : Blk w b7 #[.func (.func 93) #[] #[.pointer (some ⟨b1, 0, none⟩), .pointer (some ⟨b2, 0, none⟩)]] 164) :
  Calls Tryz.prog 95 #[.pointer (some ⟨b7, 0, none⟩)] w fun e w' => e = .returned (.int .u64 v) ∧ Blk w' b1 #[.string (bsO r)] 9 ∧ Chg [b1] w w' := by
 have HT := hd_ (kg1_any (hiN 8 v) r 8 (by rw [hiN_length]; rfl) (by rw [List.length_append, hiN_length]; omega) b1 b2 w h1)
 obtain ⟨l7, c7⟩ : b7 < w.heap.size ∧ w.cell? ⟨b7, 0, none⟩ = some (.func (.func 93) #[] #[.pointer (some ⟨b1, 0, none⟩), .pointer (some ⟨b2, 0, none⟩)]) := ⟨h7.lt, h7.cell 0⟩
 clear h1 h7
 go_enter Tryz.func95, Tryz.ntmps95
 go_wp2_with fail
 refine HT.out.mono ?_
 rintro e w1 ⟨rfl, hr1, hc1⟩
 obtain ⟨cap, W, hcv, hb, hsz, hcl, hf⟩ := conv_in (bsO (hiN 8 v)) w1
 have e8 : (bsO (hiN 8 v)).size = 8 := by rw [bsO_size, hiN_length]
 rw [e8] at hcv
 have HC : Hid (∀ j (hj : j < 8), ∃ c : Nat, c = v / 2 ^ (56 - 8 * j) % 256 ∧ W.cell? ⟨w1.heap.size, j, none⟩ = some (.int .u8 (c : Int))) := by
  intro j hj
  refine ⟨_, rfl, ?_⟩
  have hjl : j < (hiN 8 v).length := by rw [hiN_length]; exact hj
  have h2 := hi_get (v := v) hj (List.getElem?_eq_getElem hjl)
  rw [hcl j (by rw [e8]; exact hj), ← h2]
  rfl
 have HR1 := hd_ (hr1.ext hb)
 have HC1 : Hid (Chg [b1] w W) := chg_tr' hc1 (Chg.of_below (S := []) hb)
 have lw : w1.heap.size < W.heap.size := by omega
 clear hcl hf hb hr1 hc1 hsz l7 c7 HT
 go_wp2_with fail
 go_loopw [1, 8] (fun a i wr => ∃ k : Nat, k ≤ 8 ∧ i = .int .i64 k ∧ a = .int .u64 ((v / 2 ^ (64 - 8 * k) : Nat) : Int) ∧ wr = W) (fun _ i _ => 8 - (intOf i).toNat)
 case atStart => exact ⟨0, by omega, rfl, by rw [show v / 2 ^ (64 - 8 * 0) = 0 from Nat.div_eq_of_lt (by simpa using hv)]; rfl, rfl⟩
 case round =>
  obtain ⟨k, hk, rfl, rfl, rfl⟩ := hrel
  by_cases hlt : k < 8
  · obtain ⟨c, hc, hcc⟩ := HC.out k hlt
    have hst := hi_step v k hlt
    rw [← hc] at hst
    have hc256 : c < 256 := by rw [hc]; omega
    have hsm : v / 2 ^ (64 - 8 * k) < 72057594037927936 := by
     have h56 : v / 2 ^ (64 - 8 * (k + 1)) ≤ v := Nat.div_le_self _ _
     omega
    clear hc
    generalize v / 2 ^ (64 - 8 * k) = a at *
    have HST := hd_ hst
    have HOR := hd_ (or_u64 (a * 256) c (by omega) (by omega))
    clear hst
    go_wp2_with fail
    go_roundw
    case rel =>
     refine ⟨k + 1, by omega, by go_num, ?_, trivial⟩
     have h := HOR.out
     rw [hi_or a c hc256, HST.out] at h
     rw [← h]
     simp
    case measure => simp [intOf]; omega
  · obtain rfl : k = 8 := by omega
    go_wp2_with fail
    go_ret
    exact ⟨by simp, HR1.out, HC1.out⟩
def intV (v : V) : Prop := v.k = 2 ∧ v.r = 0 ∧ v.t = ⟨#[]⟩ ∧ -9223372036854775808 ≤ v.n ∧ v.n ≤ 9223372036854775807
theorem intV_key {v : V} (h : intV v) : key1 v = [3] ++ hiN 8 (v.n + 9223372036854775808).toNat := by
 obtain ⟨h1, -, -, -, -⟩ := h
 unfold key1
 rw [h1]
 rfl
theorem intV_wf {v : V} (h : intV v) : v.wf := by
 obtain ⟨k, n, r, t⟩ := v
 obtain ⟨h1, h2, h3, h4, h5⟩ := h
 simp only at h1 h2 h3 h4 h5
 subst h1 h2 h3
 exact ⟨by show (0 : Int) ≤ 2; decide, by show (2 : Int) ≤ 255; decide, h4, h5, by show (0 : Int) ≤ 0; decide, by show (0 : Int) ≤ 18446744073709551615; decide, by show (0 : Nat) ≤ 140737488355328; decide⟩
theorem own_chg9 {w w' : World} {base e n size : Nat} {v : Value} {xs : List Value} {S : List Nat} (h : w.ownsRow base e size v n xs) (k : Chg S w w') (hS : ∀ i ∈ S, i < base) : w'.ownsRow base e size v n xs := by
 refine ⟨h.1, ?_⟩
 rcases h.2 with h0 | ⟨g, cap, cur, rfl, hb, hh, rest⟩
 · exact .inl h0
 · exact .inr ⟨g, cap, cur, rfl, hb, (k.block g (Array.getElem?_eq_some_iff.1 hh).1 (fun hm => by have := hS g hm; omega)).trans hh, rest⟩
theorem own_chgN {w w' : World} {base e n size : Nat} {v : Value} {xs : List Value} {S : List Nat} (h : w.ownsRow base e size v n xs) (k : Chg S w w') (hS : ∀ g, v.ownBlock = some g → g ∉ S) : w'.ownsRow base e size v n xs := by
 refine ⟨h.1, ?_⟩
 rcases h.2 with h0 | ⟨g, cap, cur, rfl, hb, hh, rest⟩
 · exact .inl h0
 · exact .inr ⟨g, cap, cur, rfl, hb, (k.block g (Array.getElem?_eq_some_iff.1 hh).1 (hS g rfl)).trans hh, rest⟩
theorem keyLs_len8 {l : List V} (h : ∀ x ∈ l, intV x) : (keyLs l).length = 9 * l.length := by
 induction l with
 | nil => rfl
 | cons x m ih =>
  have i1 := ih fun y hy => h y (by simp [hy])
  have : keyLs (x :: m) = key1 x ++ keyLs m := rfl
  rw [this, intV_key (h x (by simp)), List.length_append, List.length_append, hiN_length, i1]
  simp; omega
theorem xor_back (n : Int) (h0 : -9223372036854775808 ≤ n) (h1 : n ≤ 9223372036854775807) : IntKind.i64.wrap (bits .xor .u64 (((n + 9223372036854775808).toNat : Nat) : Int) 9223372036854775808) = n := by
 have hx := xor_int n h0 h1
 rw [u64_xor _ _ (by omega) (by omega) (by omega) (by omega)] at hx
 rw [u64_xor _ _ (by omega) (by omega) (by omega) (by omega)]
 have e : ((((n + 9223372036854775808).toNat : Nat) : Int)).toNat = (n % 18446744073709551616).toNat ^^^ (9223372036854775808 : Int).toNat := by omega
 rw [e, Nat.xor_assoc, Nat.xor_self, Nat.xor_zero]
 simp only [IntKind.wrap, IntKind.bits, IntKind.signed, Bool.true_and]
 by_cases hn : n < 0
 · rw [if_pos (by simp; omega)]; omega
 · rw [if_neg (by simp; omega)]; omega
set_option maxRecDepth 100000 in
set_option maxHeartbeats 3200000 in
theorem keyget_ints (l : List V) (hl : ∀ x ∈ l, intV x) (hn : l.length ≤ 8) (hok : keyOk l = true) (w : World) (hL : LayX w) :
  Calls Tryz.prog 60 #[.string (bsO (keyLs l))] w fun e w' => (∃ A c, e = .returned (.tuple #[.slice A l.length c, .int .i64 0]) ∧ w'.ownsRow w.heap.size 47 4 (.slice A l.length c) l.length (rowCells l)) ∧ Below w.heap.size w w' := by
 obtain ⟨i0, hi0, hz0, hz1, hz2⟩ := info_parts info_V
 have HLI := hd_ hl
 have HL := hd_ hL
 have HOK := hd_ hok
 clear hl hL hok
 go_enter Tryz.func60, Tryz.ntmps60
 go_wp2_with fail
 have h1 : Blk (((w.alloc (.cells #[.string (bsO (keyLs l))] 9)).alloc (.cells #[.bool false] 4)).alloc (.cells #[.func (.func 93) #[] #[.pointer (some ⟨w.heap.size, 0, none⟩), .pointer (some ⟨w.heap.size + 1, 0, none⟩)]] 164)) w.heap.size #[.string (bsO (keyLs l))] 9 := Blk.old (Blk.old (Blk.new _ _ _) _) _
 have h2 : Blk (((w.alloc (.cells #[.string (bsO (keyLs l))] 9)).alloc (.cells #[.bool false] 4)).alloc (.cells #[.func (.func 93) #[] #[.pointer (some ⟨w.heap.size, 0, none⟩), .pointer (some ⟨w.heap.size + 1, 0, none⟩)]] 164)) (w.heap.size + 1) #[.bool false] 4 := Blk.old (Blk.at (by simp)) _
 have h7 : Blk (((w.alloc (.cells #[.string (bsO (keyLs l))] 9)).alloc (.cells #[.bool false] 4)).alloc (.cells #[.func (.func 93) #[] #[.pointer (some ⟨w.heap.size, 0, none⟩), .pointer (some ⟨w.heap.size + 1, 0, none⟩)]] 164)) (w.heap.size + 1 + 1) #[.func (.func 93) #[] #[.pointer (some ⟨w.heap.size, 0, none⟩), .pointer (some ⟨w.heap.size + 1, 0, none⟩)]] 164 := Blk.at (by simp)
 have hb : Below w.heap.size w (((w.alloc (.cells #[.string (bsO (keyLs l))] 9)).alloc (.cells #[.bool false] 4)).alloc (.cells #[.func (.func 93) #[] #[.pointer (some ⟨w.heap.size, 0, none⟩), .pointer (some ⟨w.heap.size + 1, 0, none⟩)]] 164)) := (by repeat (first | exact Below.refl _ _ | assumption | refine Below.drew ?_ | refine below_drewN ?_ _ | refine Below.alloc ?_ (by simp <;> omega) _))
 generalize (((w.alloc (.cells #[.string (bsO (keyLs l))] 9)).alloc (.cells #[.bool false] 4)).alloc (.cells #[.func (.func 93) #[] #[.pointer (some ⟨w.heap.size, 0, none⟩), .pointer (some ⟨w.heap.size + 1, 0, none⟩)]] 164)) = W at h1 h2 h7 hb ⊢
 obtain ⟨b1, hb1⟩ : ∃ b, b = w.heap.size := ⟨_, rfl⟩
 obtain ⟨b2, hb2⟩ : ∃ b, b = w.heap.size + 1 := ⟨_, rfl⟩
 obtain ⟨b7, hb7⟩ : ∃ b, b = w.heap.size + 1 + 1 := ⟨_, rfl⟩
 rw [← hb7] at h7 ⊢
 rw [← hb2] at h2 h7 ⊢
 rw [← hb1] at h1 h7 ⊢
 have HWW : Hid (w.heap.size + 1 + 1 < W.heap.size) := by have := h7.lt; show w.heap.size + 1 + 1 < W.heap.size; omega
 have HBN : Hid (b1 = w.heap.size ∧ b2 = w.heap.size + 1 ∧ b7 = w.heap.size + 1 + 1) := ⟨hb1, hb2, hb7⟩
 clear hb1 hb2 hb7
 go_loopw [4] (fun a wr => ∃ (k : Nat) (A : Option Addr) (c : Nat), k ≤ l.length ∧ a = .slice A k c ∧ Blk wr b1 #[.string (bsO (keyLs (l.drop k)))] 9 ∧ Blk wr b2 #[.bool false] 4 ∧ Blk wr b7 #[.func (.func 93) #[] #[.pointer (some ⟨b1, 0, none⟩), .pointer (some ⟨b2, 0, none⟩)]] 164 ∧ wr.ownsRow W.heap.size 47 4 (.slice A k c) k (rowCells (l.take k)) ∧ Below w.heap.size w wr ∧ W.heap.size ≤ wr.heap.size) (fun a _ => l.length - (match a with | .slice _ k _ => k | _ => 0))
 case atStart => exact ⟨0, none, 0, by omega, rfl, h1, h2, h7, World.ownsRow_nil _ _ _ _, hb, Nat.le_refl _⟩
 case round =>
  obtain ⟨k, A, c, hk, rfl, g1, g2, g7, hown, hbw, hsz⟩ := hrel
  by_cases hlt : k < l.length
  · have hx := HLI.out l[k] (List.getElem_mem hlt)
    have hkey : keyLs (l.drop k) = [3] ++ (hiN 8 (l[k].n + 9223372036854775808).toNat ++ keyLs (l.drop (k + 1))) := by
     rw [List.drop_eq_getElem_cons hlt]
     show key1 l[k] ++ keyLs (l.drop (k + 1)) = _
     rw [intV_key hx, List.append_assoc]
    obtain ⟨hx1, hx2, hx3, hx4, hx5⟩ := hx
    have hrl : (keyLs (l.drop (k + 1))).length ≤ 100000 := by
     have := keyLs_len8 (l := l.drop (k + 1)) (fun x hx => HLI.out x (List.mem_of_mem_drop hx))
     simp only [List.length_drop] at this
     omega
    obtain ⟨Vn, hVn⟩ : ∃ Vn, Vn = (l[k].n + 9223372036854775808).toNat := ⟨_, rfl⟩
    have hVl : Vn < 18446744073709551616 := by omega
    have HXB : Hid (IntKind.i64.wrap (bits .xor .u64 (Vn : Int) 9223372036854775808) = l[k].n) := by rw [hVn]; exact xor_back _ hx4 hx5
    rw [← hVn] at hkey
    have hs1 : 0 < (bsO (keyLs (l.drop k))).size := by rw [bsO_size, hkey]; simp
    have HT1 := hd_ (kg1_any [3] (hiN 8 Vn ++ keyLs (l.drop (k + 1))) 1 rfl (by simp [hiN_length]; omega) b1 b2 wr (by rw [← hkey]; exact g1))
    have HT2 := hd_ (fun (X : World) (k1 : Blk X b1 #[.string (bsO (hiN 8 Vn ++ keyLs (l.drop (k + 1))))] 9) (k7 : Blk X b7 #[.func (.func 93) #[] #[.pointer (some ⟨b1, 0, none⟩), .pointer (some ⟨b2, 0, none⟩)]] 164) => kg2_any Vn hVl (keyLs (l.drop (k + 1))) (by omega) b1 b2 b7 X k1 k7)
    have hb3 : bsO [3] = ⟨#[3]⟩ := rfl
    rw [hb3] at HT1
    have hlk : l[k] = ⟨2, l[k].n, 0, ⟨#[]⟩⟩ := by
     cases hq : l[k] with
     | mk a b c d =>
      rw [hq] at hx1 hx2 hx3
      simp only at hx1 hx2 hx3
      subst hx1 hx2 hx3
      rfl
    have HTK : Hid (rowCells (l.take k) ++ [.int .u8 2, .int .i64 l[k].n, .int .u64 0, .string ⟨#[]⟩] = rowCells (l.take (k + 1))) := by
     show _ = _
     rw [List.take_succ_eq_append_getElem hlt, rowCells_snoc]
     conv => rhs; rw [hlk]
     rfl
    clear hkey hVn hx1 hx2 hx3 hx4 hx5 hrl hVl hlk
    generalize l[k].n = n at HXB HTK
    generalize bsO (keyLs (l.drop k)) = s1 at g1 hs1
    generalize bsO (hiN 8 Vn ++ keyLs (l.drop (k + 1))) = s2 at HT1 HT2
    obtain ⟨s3, hs3⟩ : ∃ s3, s3 = bsO (keyLs (l.drop (k + 1))) := ⟨_, rfl⟩
    rw [← hs3] at HT2
    have HS3 := hd_ hs3
    clear hs3
    obtain ⟨l1, c1⟩ : b1 < wr.heap.size ∧ wr.cell? ⟨b1, 0, none⟩ = some (.string s1) := ⟨g1.lt, g1.cell 0⟩
    obtain ⟨l2, c2⟩ : b2 < wr.heap.size ∧ wr.cell? ⟨b2, 0, none⟩ = some (.bool false) := ⟨g2.lt, g2.cell 0⟩
    obtain ⟨l7, c7⟩ : b7 < wr.heap.size ∧ wr.cell? ⟨b7, 0, none⟩ = some (.func (.func 93) #[] #[.pointer (some ⟨b1, 0, none⟩), .pointer (some ⟨b2, 0, none⟩)]) := ⟨g7.lt, g7.cell 0⟩
    have HG2 := hd_ g2
    have HG7 := hd_ g7
    have HO := hd_ hown
    have HBW := hd_ hbw
    have HSZ := hd_ hsz
    have hk8 : k ≤ 8 := by omega
    have hk8i : decide ((k : Int) ≤ 8) = true := by simp; omega
    clear g1 g2 g7 hown hbw hsz
    go_wp2_with fail
    refine HT1.out.mono ?_
    rintro e w1 ⟨rfl, r1, hc1⟩
    have hlo := HBN.out
    have hwW := HWW.out
    have hb1w : Below w.heap.size w w1 := HBW.out.trans (chg_below hc1 (by simp; omega) HBW.out.size)
    have h21 := HG2.out.chg hc1 (by simp; omega)
    have h71 := HG7.out.chg hc1 (by simp; omega)
    have ho1 := own_chg9 HO.out hc1 (by simp; omega)
    have hs1' := hc1.size
    have HS1 := hd_ (Nat.le_trans HSZ.out hs1')
    have HB1 := hd_ hb1w
    have HO1 := hd_ ho1
    have HR1 := hd_ r1
    have H21 := hd_ h21
    have H71 := hd_ h71
    clear l1 c1 l2 c2 l7 c7 hc1 hb1w h21 h71 ho1 r1 hs1' HT1 HSZ HBW HO HG2 HG7 hlo hwW
    have h30 : (⟨#[3]⟩ : ByteArray)[0]'(Nat.zero_lt_one) = 3 := rfl
    go_upto_region 12 with fail
    clear h30
    have hX : Below w1.heap.size w1 (w1.alloc (.cells #[.int .u8 2, .int .i64 0, .int .u64 0, .string ⟨#[]⟩] 47)) := bel1 _ _
    have hv0 : Blk (w1.alloc (.cells #[.int .u8 2, .int .i64 0, .int .u64 0, .string ⟨#[]⟩] 47)) w1.heap.size #[.int .u8 2, .int .i64 0, .int .u64 0, .string ⟨#[]⟩] 47 := Blk.new _ _ _
    have HT3 := hd_ (HT2.out _ (HR1.out.ext hX) (H71.out.ext hX))
    have HX1 : Hid (Below w.heap.size w (w1.alloc (.cells #[.int .u8 2, .int .i64 0, .int .u64 0, .string ⟨#[]⟩] 47))) := bt HB1.out hX
    have HX2 := hd_ (H21.out.ext hX)
    have HX7 := hd_ (H71.out.ext hX)
    have HXO := hd_ (own_below HO1.out hX)
    have HV0 := hd_ hv0
    have HXS : Hid (W.heap.size ≤ (w1.alloc (.cells #[.int .u8 2, .int .i64 0, .int .u64 0, .string ⟨#[]⟩] 47)).heap.size) := Nat.le_trans HS1.out hX.size
    have HGL : Hid (∀ g, (Value.slice A k c).ownBlock = some g → g < w1.heap.size) := fun g hg => (HO1.out.lt g hg).2
    have HNB : Hid (w1.heap.size ≠ b1 ∧ W.heap.size ≤ w1.heap.size) := ⟨by have := HBN.out; have := HWW.out; have := HS1.out; omega, HS1.out⟩
    clear hX hv0 HT2 HB1 H21 H71 HO1 HR1 HS1
    generalize (w1.alloc (.cells #[.int .u8 2, .int .i64 0, .int .u64 0, .string ⟨#[]⟩] 47)) = X at HT3 HX1 HX2 HX7 HXO HV0 HXS ⊢
    generalize w1.heap.size = b10 at HV0 HNB HGL ⊢
    go_wp2_with fail
    refine HT3.out.mono ?_
    rintro e w2 ⟨rfl, r2, hc2⟩
    have hv2 := HV0.out.chg hc2 (by simpa using HNB.out.1)
    have h22 := HX2.out.chg hc2 (by have := HBN.out; simp; omega)
    have h72 := HX7.out.chg hc2 (by have := HBN.out; simp; omega)
    have ho2 := own_chg9 HXO.out hc2 (by have := HBN.out; have := HWW.out; simp; omega)
    have hb2w : Below w.heap.size w w2 := HX1.out.trans (chg_below hc2 (by have := HBN.out; simp; omega) HX1.out.size)
    have HS2 := hd_ (Nat.le_trans HXS.out hc2.size)
    have HR2 := hd_ r2
    have H22 := hd_ h22
    have H72 := hd_ h72
    have HO2 := hd_ ho2
    have HB2 := hd_ hb2w
    clear hc2 r2 h22 h72 ho2 hb2w HX1 HX2 HX7 HXO HV0 HXS HT3
    obtain ⟨w3, rfl, l10⟩ := blk_put hv2
    obtain ⟨pc, pf, pS⟩ := putBlk_facts (w := w3) 47 l10
    have hxb := HXB.out
    clear hv2
    go_upto_region 19 with fail
    have hc : Chg [b10] (putBlk w3 b10 #[.int .u8 2, .int .i64 0, .int .u64 0, .string ⟨#[]⟩] 47) (putBlk w3 b10 #[.int .u8 2, .int .i64 n, .int .u64 0, .string ⟨#[]⟩] 47) := chg_put0
    have hn1 := HNB.out
    have hn2 := HBN.out
    have hn3 := HWW.out
    have H14 := hd_ (HR2.out.chg hc (by simp; omega))
    have H24 := hd_ (H22.out.chg hc (by simp; omega))
    have H74 := hd_ (H72.out.chg hc (by simp; omega))
    have HO4 := hd_ (own_chgN HO2.out hc (fun g hg => by have := HGL.out g hg; simp; omega))
    have hb4 : Below w.heap.size w (putBlk w3 b10 #[.int .u8 2, .int .i64 n, .int .u64 0, .string ⟨#[]⟩] 47) := HB2.out.trans (chg_below hc (by simp; omega) HB2.out.size)
    have HS4 := hd_ (Nat.le_trans HS2.out hc.size)
    have hv4 : Blk (putBlk w3 b10 #[.int .u8 2, .int .i64 n, .int .u64 0, .string ⟨#[]⟩] 47) b10 #[.int .u8 2, .int .i64 n, .int .u64 0, .string ⟨#[]⟩] 47 := putBlk_blk _ _ l10
    have HB4 := hd_ hb4
    clear pc pf pS hc hb4 HR2 H22 H72 HO2 HB2 HS2 l10 hn1 hn2 hn3 hxb
    generalize (putBlk w3 b10 #[.int .u8 2, .int .i64 n, .int .u64 0, .string ⟨#[]⟩] 47) = w4 at H14 H24 H74 HO4 HB4 HS4 hv4 ⊢
    obtain ⟨lv, v0, v1, v2, v3⟩ := blk4' hv4
    clear hv4
    have hA2 : Below w4.heap.size w4 (w4.alloc (.cells #[.int .u8 2, .int .i64 n, .int .u64 0, .string ⟨#[]⟩] 47)) := bel1 _ _
    have HO5 := hd_ (own_below HO4.out hA2)
    have HA2 := hd_ hA2
    have hs4 := HS4.out
    clear hA2
    go_wp2_with (at_builtin; refine wpList_append_own _ rfl _ _ 25 rfl W.heap.size 47 i0 _ 4 40 Tryz.underlying25 hi0 hz0 hz1 hz2 rfl (by decide) (.slice A k c) k (rowCells (l.take k)) rfl HO5.out ⟨w4.heap.size, 0, none⟩ 1 1 [.int .u8 2, .int .i64 n, .int .u64 0, .string ⟨#[]⟩] rfl rfl ?c1 ?c2 ?c3 ?c4 ?c5 ?_)
    case c1 =>
     intro j v hj
     have h0 : Blk (w4.alloc (.cells #[.int .u8 2, .int .i64 n, .int .u64 0, .string ⟨#[]⟩] 47)) w4.heap.size #[.int .u8 2, .int .i64 n, .int .u64 0, .string ⟨#[]⟩] 47 := Blk.new w4 _ _
     have ha : (⟨w4.heap.size, 0, none⟩ : Addr).add j = ⟨w4.heap.size, j, none⟩ := by unfold Addr.add; split <;> simp_all
     rw [ha]
     exact (h0.cell j).trans (by simpa using hj)
    case c2 => simp [Value.oneCell']
    case c3 => simp only [maxLen]; omega
    case c4 => omega
    case c5 => simp; omega
    intro v' w5 hown1 hg1 _
    obtain ⟨A5, c5, rfl⟩ := Rg.row_form hown1
    rw [HTK.out] at hown1
    have hsA : W.heap.size ≤ (w4.alloc (.cells #[.int .u8 2, .int .i64 n, .int .u64 0, .string ⟨#[]⟩] 47)).heap.size := by simp; omega
    have hb5 : Below W.heap.size w4 w5 := (HA2.out.mono hs4).grown hg1 hsA (own_ge HO5.out)
    have HB5 : Hid (Below w.heap.size w w5) := HB4.out.trans (hb5.mono (by have := HWW.out; omega))
    have HS5 := hd_ (Nat.le_trans hs4 hb5.size)
    have hk5 : ∀ b cs t, b < W.heap.size → Blk w4 b cs t → Blk w5 b cs t := fun b cs t hb h => (hb5.block b hb).trans h
    have H15 := hd_ (hk5 _ _ _ (by have := HBN.out; have := HWW.out; omega) H14.out)
    have H25 := hd_ (hk5 _ _ _ (by have := HBN.out; have := HWW.out; omega) H24.out)
    have H75 := hd_ (hk5 _ _ _ (by have := HBN.out; have := HWW.out; omega) H74.out)
    have HO6 := hd_ hown1
    clear hown1 hg1 hsA hb5 hk5 lv v0 v1 v2 v3 hs4 HTK
    go_wp2_with fail
    go_roundw
    case rel => exact ⟨k + 1, A5, c5, by omega, by go_num, by rw [← HS3.out]; exact H15.out, H25.out, H75.out, HO6.out, HB5.out, HS5.out⟩
    case measure => simp; omega
  · obtain rfl : k = l.length := by omega
    have hd0 : keyLs (l.drop l.length) = [] := by rw [List.drop_length]; rfl
    have hse : bsO (keyLs (l.drop l.length)) = ⟨#[]⟩ := by rw [hd0]; rfl
    rw [hse] at g1
    rw [List.take_length] at hown
    have hvr : VRow wr A l := (VRow.of_own (fun v hv => intV_wf (HLI.out v hv)) (by omega) hown).1
    have HP := hd_ (keyput_any l A c wr hvr (HL.out.ext hbw))
    rw [HOK.out] at HP
    simp only [if_true] at HP
    obtain ⟨l1, c1⟩ : b1 < wr.heap.size ∧ wr.cell? ⟨b1, 0, none⟩ = some (.string ⟨#[]⟩) := ⟨g1.lt, g1.cell 0⟩
    have HG2 := hd_ g2
    have HO := hd_ hown
    have HBW := hd_ hbw
    clear hd0 hse g1 g2 g7 hown hbw hvr hsz
    have hz0' : (ByteArray.mk #[]).size = 0 := rfl
    go_wp2_with fail
    refine HP.out.mono ?_
    rintro e w1 ⟨rfl, hb⟩
    have hb1 : Below w.heap.size w w1 := bt HBW.out hb
    have g21 := HG2.out.ext hb
    obtain ⟨l2, c2⟩ : b2 < w1.heap.size ∧ w1.cell? ⟨b2, 0, none⟩ = some (.bool false) := ⟨g21.lt, g21.cell 0⟩
    have HO1 := hd_ (own_base' (own_below HO.out hb) (by have := HWW.out; omega : w.heap.size ≤ W.heap.size))
    have hq : bsO (keyLs l) = ⟨(keyLs l).toArray⟩ := rfl
    rw [hq]
    have HB1 := hd_ hb1
    clear hb hb1 g21 l1 c1 hq HP
    generalize (⟨(keyLs l).toArray⟩ : ByteArray) = sl
    go_wp2_with fail
    refine bodyPost_ret (v := .tuple #[.slice A l.length c, .int .i64 0]) (by simp [results, Tryz.results60, go_sem]) rfl ?_
    exact ⟨⟨A, c, rfl, HO1.out⟩, HB1.out⟩
end Go.Proofs.YtceoficoappkpaaGreatDoor
namespace Go.Proofs.YtceoficoappkpaaGreatDoor
open Go.RowKit Go.Shelf
attribute [local go_sem] Oper.semAt_some

theorem addr_addK (b o j : Nat) : (⟨b, o, none⟩ : Addr).add j = ⟨b, o + j, none⟩ := by
 unfold Addr.add
 split
 · next h => subst h; rfl
 · rfl
def CloneR (l : List V) (w : World) (r : Ending) (w' : World) : Prop :=
 Below w.heap.size w w' ∧ ∃ A c, r = .returned (.slice A l.length c) ∧ w'.ownsRow w.heap.size 47 4 (.slice A l.length c) l.length (rowCells l) ∧ (A = none → c = 0)
set_option maxRecDepth 100000 in
theorem cloneR_val (l : List V) (A : Option Addr) (c : Nat) (w : World) (h : VRow w A l) (hl : l.length ≤ 1000) (hz : A = none → c = 0) :
  Calls Tryz.prog 62 #[.slice A l.length c] w (CloneR l w) := by
 have HQ := hd_ (show ∀ r w', (Below w.heap.size w w' ∧ ∃ A c, r = .returned (.slice A l.length c) ∧ w'.ownsRow w.heap.size 47 4 (.slice A l.length c) l.length (rowCells l) ∧ (A = none → c = 0)) → CloneR l w r w' from fun _ _ h => h)
 generalize CloneR l w = RP at HQ ⊢
 cases A with
 | none =>
  obtain rfl := hz rfl
  have hl0 : l = [] := by
   cases l with
   | nil => rfl
   | cons v l => obtain ⟨b, off, e, _⟩ := h.2.2 (by simp); cases e
  subst hl0
  clear h hz
  have he : ∀ W : World, (binOp .eql 25 (.slice none 0 0) (.slice none 0 0)).run Tryz.prog W = .ok (.bool true) W := fun _ => rfl
  go_enter Tryz.func62, Tryz.ntmps62
  go_wp2_with fail
  exact HQ.out _ _ ⟨Below.refl _ _, none, 0, rfl, World.ownsRow_nil _ _ _ _, fun _ => rfl⟩
 | some a =>
  obtain ⟨i3, hi3, hy0, hy1, hy2⟩ := info_parts info_V
  have hnews : ∀ W, Below w.heap.size w W → ∀ j u, (rowCells l)[j]? = some u → W.cell? (a.add j) = some u := by
   intro W hW j u hu
   have hne : l ≠ [] := by intro e; subst e; simp [rowCells] at hu
   obtain ⟨b, off, e, lb, _⟩ := h.2.2 hne
   obtain rfl := Option.some.inj e
   have h1 := VRow.cells_ h j u hu
   rw [addr_addK] at h1 ⊢
   exact (hW.cell (p := ⟨b, off + j, none⟩) lb).trans h1
  have HN := hd_ hnews
  have HO := hd_ (rowCells_one l)
  have HL := hd_ (rowCells_length l)
  have HOW := hd_ (show (w.alloc (.cells #[] 47)).ownsRow w.heap.size 47 4 (.slice (some ⟨w.heap.size, 0, none⟩) 0 0) 0 [] from World.ownsRow_made w #[] 0 (Nat.le_refl _) (by decide) rfl)
  obtain ⟨xs, hxs⟩ : ∃ xs, xs = rowCells l := ⟨_, rfl⟩
  rw [← hxs] at HN HO HL HQ
  clear hnews h hxs hz
  generalize l.length = n at *
  have he : ∀ W : World, (binOp .eql 25 (.slice (some a) n c) (.slice none 0 0)).run Tryz.prog W = .ok (.bool false) W := fun _ => rfl
  go_enter Tryz.func62, Tryz.ntmps62
  go_wp2_with (at_builtin; refine wpList_append_own _ rfl _ _ 25 rfl w.heap.size 47 i3 _ 4 40 Tryz.underlying25 hi3 hy0 hy1 hy2 rfl (by decide) (.slice (some ⟨w.heap.size, 0, none⟩) 0 0) 0 [] rfl HOW.out a n c xs rfl HL.out (HN.out _ (by repeat (first | exact Below.refl _ _ | assumption | refine Below.drew ?_ | refine below_drewN ?_ _ | refine Below.alloc ?_ (by simp <;> omega) _))) HO.out (by simp only [maxLen]; omega) (by omega) (by simp) ?_)
  intro v' w2 hown hg hf
  have hb2 : Below w.heap.size w w2 := ((Below.refl w.heap.size w).alloc (Nat.le_refl _) _).grown hg (by simp) (by simp [Value.ownBlock])
  obtain ⟨A', c', rfl, hc'⟩ : ∃ A' c', v' = .slice A' n c' ∧ (A' = none → c' = 0) := by
   rcases hown.2 with ⟨rfl, rfl⟩ | ⟨g, cap, cur, rfl, _⟩
   · exact ⟨none, 0, rfl, fun _ => rfl⟩
   · exact ⟨_, _, rfl, fun h => by cases h⟩
  have HF := hd_ (HQ.out _ _ ⟨hb2, A', c', rfl, hown, hc'⟩)
  clear hown hg hf hb2 HQ
  go_wp2_with fail
  exact HF.out
end Go.Proofs.YtceoficoappkpaaGreatDoor
