/- Texts joined by a tool: contracts and walks of this claim. -/
import Derived.Test.YtceoficoappkpaaGreatDoorB22
namespace Go.Proofs.YtceoficoappkpaaGreatDoor
open Go.RowKit
def BR (w : World) (B : Nat) (v : Value) (l : List UInt8) : Prop := w.ownsRow B 5 1 v l.length (l.map byteCell)
theorem BR.nil (w : World) (B : Nat) : BR w B (.slice none 0 0) [] := ⟨by simp, .inl ⟨rfl, rfl⟩⟩
theorem BR.ext {w w' : World} {B : Nat} {v : Value} {l : List UInt8} (h : BR w B v l) (hb : Below w.heap.size w w') : BR w' B v l := own_below h hb
theorem BR.off {w w' : World} {B b : Nat} {v : Value} {l : List UInt8} {cs : Array Value} {t : TypeId} (h : BR w B v l) (hg : w.grownBy w' v.ownBlock) (hb : Blk w b cs t) (ht : 5 ≠ t) : Blk w' b cs t := by
 unfold Blk at hb ⊢
 rw [hg.block b (Array.getElem?_eq_some_iff.1 hb).1 (fun e => by
  rcases h.2 with ⟨rfl, _⟩ | ⟨g, cap, cur, rfl, _, hh, _⟩
  · cases e
  · simp only [Value.ownBlock, Option.some.injEq] at e
    subst e
    rw [hb] at hh
    simp only [Option.some.injEq, Obj.cells.injEq] at hh
    exact ht hh.2.1.symm)]
 exact hb
theorem strCells_bytes (s : ByteArray) : Lib.strCells s = s.data.toList.map byteCell := by simp [Lib.strCells, byteCell]
theorem app_row {ops : Array Oper} {rest : List Oper} {o : Oper} {a : Act} {Q : Exit → Act → World → Prop} {w : World} (hgd : o.guard = none) (s x : Operand) (ho : o.op = .call { callee := .builtin .append, args := #[s, x], argTypes := #[128, 128] })
  (B : Nat) (v : Value) (l : List UInt8) (hown : BR w B v l) (hs : a.eval s = v) (g c : Nat) (ys : List UInt8) (hx : a.eval x = .slice (some ⟨g, 0, none⟩) ys.length c) (hc : ∀ j y, (ys.map byteCell)[j]? = some y → w.cell? ⟨g, j, none⟩ = some y)
  (hl : l.length + ys.length ≤ 1000000) (hB : B ≤ w.heap.size) (h : ∀ v' w', BR w' B v' (l ++ ys) → Below B w w' → w.grownBy w' v.ownBlock → wpList Tryz.prog ops Q rest (a.put o.dst v') w') : wpList Tryz.prog ops Q (o :: rest) a w := by
 obtain ⟨i0, hi0, hz0, hz1, hz2⟩ := info_parts info_u8
 refine wpList_append_own w hgd s x 128 ho B 5 i0 (.int .u8 0) 1 1 Tryz.underlying128 hi0 hz0 hz1 hz2 rfl (by decide) v l.length (l.map byteCell) hs hown ⟨g, 0, none⟩ ys.length c (ys.map byteCell) hx (by simp) (fun j u hj => ?_) (fun u hu => byteCell_one u ys hu) (by simp only [maxLen]; omega) (by omega) hB fun v' w' h1 h2 _ => h v' w' ?_ ?_ h2
 · have := hc j u hj
   have e : (⟨g, 0, none⟩ : Addr).add j = ⟨g, j, none⟩ := by unfold Addr.add; split <;> simp_all
   rw [e]; exact this
 · unfold BR; rw [List.length_append, List.map_append]; exact h1
 · exact (Below.refl _ _).grown h2 hB (own_ge hown)
theorem app_str {ops : Array Oper} {rest : List Oper} {o : Oper} {a : Act} {Q : Exit → Act → World → Prop} {w : World} (hgd : o.guard = none) (s x : Operand) (ho : o.op = .call { callee := .builtin .append, args := #[s, x], argTypes := #[128, 9] })
  (B : Nat) (v : Value) (l : List UInt8) (hown : BR w B v l) (hs : a.eval s = v) (t : ByteArray) (hx : a.eval x = .string t)
  (hl : l.length + t.size ≤ 1000000) (hB : B ≤ w.heap.size) (h : ∀ v' w', BR w' B v' (l ++ t.data.toList) → Below B w w' → w.grownBy w' v.ownBlock → wpList Tryz.prog ops Q rest (a.put o.dst v') w') : wpList Tryz.prog ops Q (o :: rest) a w := by
 obtain ⟨i0, hi0, hz0, hz1, hz2⟩ := info_parts info_u8
 refine Lib.wpList_append_own_string w hgd s x 128 9 ho B 5 i0 Tryz.underlying128 Tryz.underlying9 hi0 hz0 hz1 hz2 v l.length (l.map byteCell) hs hown t hx (by simp only [maxLen]; omega) (by omega) hB fun v' w' h1 h2 _ => h v' w' ?_ ?_ h2
 · unfold BR; rw [List.length_append, List.map_append, ← strCells_bytes]; exact h1
 · exact (Below.refl _ _).grown h2 hB (own_ge hown)
theorem cell1 {w : World} {a : Int} {b : UInt8} (h : Value.int .u8 a = byteCell b) : ∀ j y, ([b].map byteCell)[j]? = some y → (w.alloc (.cells #[.int .u8 a] 5)).cell? ⟨w.heap.size, j, none⟩ = some y := by
 intro j y hj
 match j, hj with
 | 0, hj => rw [cell_new, h]; simpa using hj
 | j + 1, hj => simp at hj
theorem cell01 {w : World} : ∀ j y, ([(0 : UInt8), 1].map byteCell)[j]? = some y → (w.alloc (.cells #[.int .u8 0, .int .u8 1] 5)).cell? ⟨w.heap.size, j, none⟩ = some y := by
 intro j y hj
 match j, hj with
 | 0, hj => rw [cell_new]; exact hj
 | 1, hj => rw [cell_new]; exact hj
 | j + 2, hj => simp at hj
def LayX (w : World) : Prop := Tabs w ∧ 3 < w.heap.size ∧ ∃ m, w.cell? ⟨3, 0, none⟩ = some (.int .i64 m)
theorem LayX.ext {w w' : World} (h : LayX w) (hb : Below w.heap.size w w') : LayX w' := by
 obtain ⟨h1, h2, m, h3⟩ := h
 exact ⟨h1.ext hb, Nat.lt_of_lt_of_le h2 hb.size, m, (hb.cell (p := ⟨_, 0, none⟩) h2).trans h3⟩
theorem blk4' {w : World} {b : Nat} {a0 a1 a2 a3 : Value} {t : TypeId} (h : Blk w b #[a0, a1, a2, a3] t) : b < w.heap.size ∧ w.cell? ⟨b, 0, none⟩ = some a0 ∧ w.cell? ⟨b, 1, none⟩ = some a1 ∧ w.cell? ⟨b, 2, none⟩ = some a2 ∧ w.cell? ⟨b, 3, none⟩ = some a3 := ⟨h.lt, h.cell 0, h.cell 1, h.cell 2, h.cell 3⟩
theorem flat_key {l : List V} {k : Nat} {v : V} {s : List UInt8} (h : s = (l.take k).flatMap key1) (hk : l[k]? = some v) : s ++ key1 v = (l.take (k + 1)).flatMap key1 := by
 obtain ⟨hlt, hv⟩ := List.getElem?_eq_some_iff.1 hk
 rw [List.take_succ_eq_append_getElem hlt, List.flatMap_append, ← h, hv]
 simp
theorem xor_int (n : Int) (h0 : -9223372036854775808 ≤ n) (h1 : n ≤ 9223372036854775807) : bits .xor .u64 (n % 18446744073709551616) 9223372036854775808 = n + 9223372036854775808 := by
 rw [u64_xor _ _ (by omega) (by omega) (by omega) (by omega)]
 have e : (9223372036854775808 : Int).toNat = 2 ^ 63 := by decide
 rw [e]
 obtain ⟨m, hm⟩ : ∃ m : Nat, m = (n % 18446744073709551616).toNat := ⟨_, rfl⟩
 rw [← hm]
 have hlt : m < 2 ^ 64 := by omega
 by_cases hs : m < 2 ^ 63
 · rw [Nat.xor_comm]
   have := Nat.two_pow_add_eq_or_of_lt hs 1
   rw [Nat.mul_one] at this
   have e2 : 2 ^ 63 ^^^ m = 2 ^ 63 + m := by
    rw [this]
    apply Nat.eq_of_testBit_eq
    intro i
    rw [Nat.testBit_xor, Nat.testBit_or, Nat.testBit_two_pow]
    by_cases hi : 63 = i
    · subst hi
      rw [Nat.testBit_lt_two_pow hs]; rfl
    · simp [hi]
   rw [e2]; omega
 · have e3 : m = 2 ^ 63 + (m - 2 ^ 63) := by omega
   have hr : m - 2 ^ 63 < 2 ^ 63 := by omega
   have := Nat.two_pow_add_eq_or_of_lt hr 1
   rw [Nat.mul_one] at this
   have e2 : m ^^^ 2 ^ 63 = m - 2 ^ 63 := by
    apply Nat.eq_of_testBit_eq
    intro i
    rw [Nat.testBit_xor, Nat.testBit_two_pow]
    conv => lhs; rw [e3, this]
    rw [Nat.testBit_or, Nat.testBit_two_pow]
    by_cases hi : 63 = i
    · subst hi
      rw [Nat.testBit_lt_two_pow hr]; rfl
    · simp [hi]
   rw [e2]; omega
def keyOk (l : List V) : Bool := l.isEmpty || rowB l
theorem key1_length {v : V} (h : mayB v = true) : (key1 v).length ≤ 203 := by
 have hs := may_size h
 unfold key1
 rw [List.length_cons]
 split
 · simp
 · split
   · simp [hiN_length]
   · split
     · simp [hiN_length]
     · split
       · rw [List.length_append, keyT_length]
         have : Lib.count v.t.data.toList [0] ≤ v.t.size := Lib.countB_le ⟨#[0]⟩ (by decide) v.t.size v.t (Nat.le_refl _)
         have e : v.t.data.toList.length = v.t.size := rfl
         simp only [List.length_cons, List.length_nil]
         omega
       · simp
theorem keyZ_in (r : Int) (h0 : 0 ≤ r) (h1 : r ≤ 18446744073709551615) : 0 ≤ keyZ r ∧ keyZ r ≤ 18446744073709551615 := by
 have := canonZ_in r h0 h1
 unfold keyZ
 split <;> omega
theorem key_end {l : List V} {k : Nat} {v : V} {s bs1 : List UInt8} (h : s = (l.take k).flatMap key1) (hk : l[k]? = some v) (h1 : bs1 = s ++ [UInt8.ofNat (v.k.toNat + 1)]) (hs : s.length ≤ 203 * k) (hm : mayB v = true) (ys : List UInt8) (hy : key1 v = UInt8.ofNat (v.k.toNat + 1) :: ys) :
  Hid (bs1 ++ ys = (l.take (k + 1)).flatMap key1) ∧ (bs1 ++ ys).length ≤ 203 * (k + 1) := by
 have e := flat_key h hk
 have e2 : bs1 ++ ys = s ++ key1 v := by rw [h1, hy]; simp
 refine ⟨(e2.trans e : _ = _), ?_⟩
 rw [e2, List.length_append]
 have := key1_length hm
 omega
set_option maxRecDepth 100000 in
set_option maxHeartbeats 1600000 in
theorem keyput_yes (l : List V) (A : Option Addr) (c : Nat) (w : World) (hr : VRow w A l) (hL : LayX w) (hm : rowB l = true) :
  Calls Tryz.prog 73 #[.slice A l.length c] w fun e w' => e = .returned (.tuple #[.string ⟨(keyLs l).toArray⟩, .int .i64 0]) ∧ Below w.heap.size w w' := by
 have HC := hd_ (vrow_yes l A c w hr hL.1 hm)
 obtain ⟨h1, h8, hall⟩ := row_may hm
 have HALL := hd_ hall
 have HL := hd_ hL
 have HV := hd_ hr
 clear hL hr hm hall
 generalize hP : keyLs l = P
 have HP := hd_ hP
 clear hP
 go_enter Tryz.func73, Tryz.ntmps73
 go_wp2_with (go_at_call 74; ((with_reducible refine HC.out.mono ?_); rintro e w1 ⟨rfl, hb1⟩))
 go_loopw [4, 17] (fun b i wr => ∃ (k : Nat) (bs : List UInt8), k ≤ l.length ∧ i = .int .i64 k ∧ BR wr w.heap.size b bs ∧ bs.length ≤ 203 * k ∧ Hid (bs = (l.take k).flatMap key1) ∧ Below w.heap.size w wr) (fun _ i _ => l.length - (intOf i).toNat)
 case atStart => exact ⟨0, [], by omega, rfl, BR.nil _ _, by simp, rfl, hb1⟩
 case round =>
  obtain ⟨k, bs, hk1, rfl, hbr, hbl, HBS, hbw⟩ := hrel
  clear hb1
  by_cases hlt : k < l.length
  · obtain ⟨b, off, v, rfl, hb, hlk, hmem, hwf, c0, c1, c2, c3⟩ := (HV.out.ext hbw).at_ hlt
    have hmv := HALL.out v hmem
    have hk5 := may_kind hmv
    obtain ⟨vk, vn, vr, vt⟩ := v
    simp only at c0 c1 c2 c3 hk5
    clear hmem
    have hk6 : 0 ≤ vk ∧ vk ≤ 5 := by omega
    have hb47 := Blk.new wr #[.int .u8 vk, .int .i64 vn, .int .u64 vr, .string vt] 47
    have hbW : Below w.heap.size w (wr.alloc (.cells #[.int .u8 vk, .int .i64 vn, .int .u64 vr, .string vt] 47)) := hbw.alloc hbw.size _
    have hbrW : BR (wr.alloc (.cells #[.int .u8 vk, .int .i64 vn, .int .u64 vr, .string vt] 47)) w.heap.size _ bs := hbr.ext (by repeat (first | exact Below.refl _ _ | assumption | refine Below.drew ?_ | refine below_drewN ?_ _ | refine Below.alloc ?_ (by simp <;> omega) _))
    have hsW : w.heap.size ≤ (wr.alloc (.cells #[.int .u8 vk, .int .i64 vn, .int .u64 vr, .string vt] 47)).heap.size := hbW.size
    go_upto_region 7 with fail
    generalize wr.alloc (.cells #[.int .u8 vk, .int .i64 vn, .int .u64 vr, .string vt] 47) = W at hb47 hbW hbrW hsW ⊢
    generalize wr.heap.size = bx at hb47 ⊢
    clear hbw hbr
    obtain ⟨lx, x0, x1, x2, x3⟩ := blk4' hb47
    obtain ⟨kb, hkb⟩ : ∃ kb, kb = UInt8.ofNat (vk.toNat + 1) := ⟨_, rfl⟩
    have hb0 : Value.int .u8 (vk + 1) = byteCell kb := by
     unfold byteCell
     rw [hkb, UInt8.toNat_ofNat']; congr 1; omega
    have HB0 := hd_ hb0
    have HKB := hd_ hkb
    clear hb0 hkb
    go_wp2_with (at_builtin; refine app_row rfl _ _ rfl w.heap.size _ bs (hbrW.ext (by repeat (first | exact Below.refl _ _ | assumption | refine Below.drew ?_ | refine below_drewN ?_ _ | refine Below.alloc ?_ (by simp <;> omega) _))) rfl W.heap.size 1 [kb] rfl (cell1 HB0.out) (by simp; omega) (by simp; omega) ?_)
    intro v1 W1 hbr1 hbb1 hg1
    have hx1 := (hbrW.ext ((by repeat (first | exact Below.refl _ _ | assumption | refine Below.drew ?_ | refine below_drewN ?_ _ | refine Below.alloc ?_ (by simp <;> omega) _)))).off hg1 (hb47.ext (by repeat (first | exact Below.refl _ _ | assumption | refine Below.drew ?_ | refine below_drewN ?_ _ | refine Below.alloc ?_ (by simp <;> omega) _))) (by decide)
    have hbW1 : Below w.heap.size w W1 := (hbW.alloc hsW _).trans hbb1
    have hbl1 : (bs ++ [kb]).length ≤ 203 * k + 1 := by simp; omega
    obtain ⟨bs1, hbs1⟩ : ∃ bs1, bs1 = bs ++ [kb] := ⟨_, rfl⟩
    have HKE := hd_ (key_end HBS.out hlk (v := ⟨vk, vn, vr, vt⟩) (hbs1.trans (by rw [HKB.out])) hbl hmv)
    have hbr1 : BR W1 w.heap.size v1 bs1 := by rw [hbs1]; exact hbr1
    have hbl1 : bs1.length ≤ 203 * k + 1 := by rw [hbs1]; exact hbl1
    have HWF := hd_ hwf
    have HMV := hd_ hmv
    clear hbb1 hg1 hbrW hb47 hbW hsW x0 x1 x2 x3 lx hwf c0 c1 c2 c3 HB0 hbs1 hbl hmv hlk HKB
    obtain ⟨lx, x0, x1, x2, x3⟩ := blk4' hx1
    rcases hk5 with rfl | rfl | rfl | rfl | rfl | rfl
    · clear hx1
      obtain ⟨HE1, he2⟩ := HKE.out [] rfl
      rw [List.append_nil] at HE1 he2
      go_wp2_with fail
      go_roundw
      case rel => exact ⟨k + 1, _, by omega, by go_num, hbr1, he2, HE1, hbW1⟩
      case measure => simp [intOf]; omega
    · clear hx1
      have hbn := bool_of HMV.out rfl
      simp only at hbn
      have hvn : vn % 256 = vn := by omega
      obtain ⟨HE1, he2⟩ := HKE.out [UInt8.ofNat vn.toNat] rfl
      obtain ⟨nb, hnb⟩ : ∃ nb, nb = UInt8.ofNat vn.toNat := ⟨_, rfl⟩
      have hb0 : Value.int .u8 vn = byteCell nb := by
       unfold byteCell
       rw [hnb, UInt8.toNat_ofNat']; congr 1; omega
      rw [← hnb] at HE1 he2
      have HB0 := hd_ hb0
      clear hb0 hbn hnb
      go_wp2_with (at_builtin; refine app_row rfl _ _ rfl w.heap.size _ bs1 (hbr1.ext (by repeat (first | exact Below.refl _ _ | assumption | refine Below.drew ?_ | refine below_drewN ?_ _ | refine Below.alloc ?_ (by simp <;> omega) _))) rfl W1.heap.size 1 [nb] rfl (cell1 HB0.out) (by simp; omega) (by simp; have := hbW1.size; omega) ?_)
      intro v2 W2 hbr2 hbb2 _
      have hbW2 : Below w.heap.size w W2 := (hbW1.alloc hbW1.size _).trans hbb2
      clear hbb2 x0 x1 x2 x3 lx
      go_wp2_with fail
      go_roundw
      case rel => exact ⟨k + 1, _, by omega, by go_num, hbr2, he2, HE1, hbW2⟩
      case measure => simp [intOf]; omega
    · clear hx1
      obtain ⟨_, _, hn1, hn2, _⟩ := HWF.out
      simp only at hn1 hn2
      have hxr : bits .xor .u64 (IntKind.u64.wrap vn) 9223372036854775808 = vn + 9223372036854775808 := by rw [IntKind.wrap_u64]; exact xor_int vn hn1 hn2
      obtain ⟨HE1, he2⟩ := HKE.out (hiN 8 (vn + 9223372036854775808).toNat) rfl
      have HHI := hd_ (high_any w.heap.size bs1 v1 (vn + 9223372036854775808) (by omega) (by omega) W1 hbW1.size (by omega) hbr1)
      go_wp2_with (go_at_call 108; ((with_reducible refine HHI.out.mono ?_); rintro e W2 ⟨v2, rfl, hbr2, hbb2⟩))
      have hbW2 : Below w.heap.size w W2 := hbW1.trans hbb2
      have hbr2 : BR W2 w.heap.size v2 (bs1 ++ hiN 8 (vn + 9223372036854775808).toNat) := by unfold BR; rw [List.length_append, hiN_length]; exact hbr2
      clear hbb2 x0 x1 x2 x3 lx hxr
      go_wp2_with fail
      go_roundw
      case rel => exact ⟨k + 1, _, by omega, by go_num, hbr2, he2, HE1, hbW2⟩
      case measure => simp [intOf]; omega
    · clear hx1
      obtain ⟨_, _, _, _, hn1, hn2, _⟩ := HWF.out
      simp only at hn1 hn2
      obtain ⟨HE1, he2⟩ := HKE.out (hiN 8 (keyZ vr).toNat) rfl
      have HRK := hd_ (realkey_any vr hn1 hn2 W1)
      have hkz := keyZ_in vr hn1 hn2
      obtain ⟨kz, hkz2⟩ : ∃ kz, kz = keyZ vr := ⟨_, rfl⟩
      rw [← hkz2] at HE1 he2 HRK hkz
      clear hkz2
      have HHI := hd_ (high_any w.heap.size bs1 v1 kz hkz.1 hkz.2 W1 hbW1.size (by omega) hbr1)
      go_wp2_with (first | (go_at_call 109; ((with_reducible refine HRK.out.mono ?_); rintro e W2 ⟨rfl, rfl⟩)) | (go_at_call 108; ((with_reducible refine HHI.out.mono ?_); rintro e W2 ⟨v2, rfl, hbr2, hbb2⟩)))
      have hbW2 : Below w.heap.size w W2 := hbW1.trans hbb2
      have hbr2 : BR W2 w.heap.size v2 (bs1 ++ hiN 8 kz.toNat) := by unfold BR; rw [List.length_append, hiN_length]; exact hbr2
      exact ⟨⟨k + 1, _, by omega, by go_num, hbr2, he2, HE1, hbW2⟩, by simp [intOf]; omega⟩
    all_goals
     clear hx1
     have hts := may_size HMV.out
     simp only at hts
     obtain ⟨HE1, he2⟩ := HKE.out (keyT vt.data.toList ++ [0, 1]) rfl
     obtain ⟨_, _, mx, hmx⟩ := HL.out.ext hbW1
     have HRP := hd_ (replace_any vt mx W1 hts hmx)
     obtain ⟨kt, hkt⟩ : ∃ kt, kt = keyT vt.data.toList := ⟨_, rfl⟩
     rw [← hkt] at HE1 he2 HRP
     have hk2 : (ByteArray.mk kt.toArray).data.toList = kt := rfl
     have hks : (ByteArray.mk kt.toArray).size = kt.length := rfl
     have hkl : bs1.length + kt.length ≤ 203 * (k + 1) := by simp only [List.length_append, List.length_cons, List.length_nil] at he2; omega
     obtain ⟨tb, htb⟩ : ∃ tb : ByteArray, tb = ⟨kt.toArray⟩ := ⟨_, rfl⟩
     rw [← htb] at hk2 hks HRP
     clear hkt hmx hts htb
     have HK2 := hd_ hk2
     clear hk2
     go_wp2_with (first | (go_at_call 98; ((with_reducible refine HRP.out.mono ?_); rintro e W2 ⟨rfl, hbb2⟩; have hbr2 := hbr1.ext hbb2; have hbW2 : Below w.heap.size w W2 := hbW1.trans (hbb2.mono hbW1.size); have hsW2 := hbW2.size; clear hbb2)) | (at_builtin; refine app_str rfl _ _ rfl w.heap.size _ bs1 hbr2 (by simp [go_sem]) tb (by simp [go_sem]) (by omega) hsW2 ?_))
     intro v3 W3 hbr3 hbb3 _
     rw [HK2.out] at hbr3
     have hbW3 : Below w.heap.size w W3 := hbW2.trans hbb3
     clear hbb3 hbr2 hbW2 hbW1 hbr1 x0 x1 x2 x3 lx HRP
     go_wp2_with (at_builtin; refine app_row rfl _ _ rfl w.heap.size _ (bs1 ++ kt) (hbr3.ext (by repeat (first | exact Below.refl _ _ | assumption | refine Below.drew ?_ | refine below_drewN ?_ _ | refine Below.alloc ?_ (by simp <;> omega) _))) rfl W3.heap.size 2 [0, 1] rfl cell01 (by simp; omega) (by simp; have := hbW3.size; omega) ?_)
     intro v4 W4 hbr4 hbb4 _
     have hbW4 : Below w.heap.size w W4 := (hbW3.alloc hbW3.size _).trans hbb4
     clear hbb4 hbr3 hbW3
     go_wp2_with fail
     go_roundw
     case rel => exact ⟨k + 1, _, by omega, by go_num, hbr4, he2, HE1, hbW4⟩
     case measure => simp [intOf]; omega
  · have hk : k = l.length := by omega
    have HK := hd_ hk
    clear hk
    have hcv := conv_own bs hbr
    have HCV := hd_ hcv
    clear hcv
    have hp : bs = P := by rw [HBS.out, HK.out, List.take_length, ← HP.out]; rfl
    rw [hp] at HCV
    have hcv := HCV.out
    clear hp HCV hbr hbl HBS
    go_wp2_with fail
    go_ret2
    exact ⟨rfl, hbw⟩
set_option maxRecDepth 100000 in
theorem keyput_not (l : List V) (A : Option Addr) (c : Nat) (w : World) (hr : VRow w A l) (hT : Tabs w) (hm : keyOk l = false) :
  Calls Tryz.prog 73 #[.slice A l.length c] w fun e w' => e = .returned (.tuple #[.string ⟨#[]⟩, .int .i64 2]) ∧ Below w.heap.size w w' := by
 have hm2 : rowB l = false ∧ l ≠ [] := by
  unfold keyOk at hm
  cases l <;> simp_all
 have hl : 0 < l.length := List.length_pos_iff.2 hm2.2
 have HC := hd_ (vrow_not l A c w hr hT hm2.1)
 clear hm hm2 hr hT
 go_enter Tryz.func73, Tryz.ntmps73
 go_wp2_with (go_at_call 74; ((with_reducible refine HC.out.mono ?_); rintro e w1 ⟨rfl, hb1⟩))
 go_ret2
 exact ⟨rfl, hb1⟩
set_option maxRecDepth 100000 in
theorem keyput_nil (A : Option Addr) (c : Nat) (w : World) :
  Calls Tryz.prog 73 #[.slice A 0 c] w fun e w' => e = .returned (.tuple #[.string ⟨#[]⟩, .int .i64 0]) ∧ Below w.heap.size w w' := by
 have hcv := conv_own [] (BR.nil w w.heap.size)
 go_enter Tryz.func73, Tryz.ntmps73
 go_wp2_with fail
 refine wp_loop_rounds 1 ?_
 rw [rounds_succ]
 go_wp2_with fail
 go_ret2
 exact ⟨rfl, Below.refl _ _⟩
theorem keyput_any (l : List V) (A : Option Addr) (c : Nat) (w : World) (hr : VRow w A l) (hL : LayX w) :
  Calls Tryz.prog 73 #[.slice A l.length c] w fun e w' => e = .returned (.tuple #[.string ⟨(if keyOk l then keyLs l else []).toArray⟩, .int .i64 (okE (keyOk l))]) ∧ Below w.heap.size w w' := by
 cases hm : keyOk l
 · exact keyput_not l A c w hr hL.1 hm
 · cases l with
   | nil => exact keyput_nil A c w
   | cons v l => exact keyput_yes (v :: l) A c w hr hL (by simpa [keyOk] using hm)
theorem vrow_b1 {w : World} {b : Nat} {t : TypeId} (v : V) (hv : v.wf) (h : Blk w b #[.int .u8 v.k, .int .i64 v.n, .int .u64 v.r, .string v.t] t) : VRow w (some ⟨b, 0, none⟩) [v] := by
 refine ⟨fun u hu => by rw [List.mem_singleton] at hu; subst hu; exact hv, by simp, fun _ => ⟨b, 0, rfl, h.lt, fun i u hi => ?_⟩⟩
 match i, hi with
 | 0, hi =>
  obtain rfl : v = u := by simpa using hi
  exact ⟨h.cell 0, h.cell 1, h.cell 2, h.cell 3⟩
 | i + 1, hi => simp at hi
theorem vrow_b2 {w : World} {b : Nat} {t : TypeId} (v u : V) (hv : v.wf) (hu : u.wf) (h : Blk w b #[.int .u8 v.k, .int .i64 v.n, .int .u64 v.r, .string v.t, .int .u8 u.k, .int .i64 u.n, .int .u64 u.r, .string u.t] t) : VRow w (some ⟨b, 0, none⟩) [v, u] := by
 refine ⟨fun x hx => ?_, by simp, fun _ => ⟨b, 0, rfl, h.lt, fun i x hi => ?_⟩⟩
 · rcases List.mem_cons.1 hx with rfl | hx
   · exact hv
   · rw [List.mem_singleton] at hx; subst hx; exact hu
 · match i, hi with
   | 0, hi =>
    obtain rfl : v = x := by simpa using hi
    exact ⟨h.cell 0, h.cell 1, h.cell 2, h.cell 3⟩
   | 1, hi =>
    obtain rfl : u = x := by simpa using hi
    exact ⟨h.cell 4, h.cell 5, h.cell 6, h.cell 7⟩
   | i + 2, hi => simp at hi
def lkOk (k : Int) (l : List V) : Bool := decide (0 ≤ k) && decide (k < 12) && keyOk l
def lkL (c k : Int) (l : List V) : List UInt8 := [UInt8.ofNat c.toNat, UInt8.ofNat k.toNat] ++ keyLs l
def lkB (c k : Int) (l : List V) : ByteArray := ⟨(lkL c k l).toArray⟩
theorem keyLs_length {l : List V} (h : keyOk l = true) : (keyLs l).length ≤ 1624 := by
 unfold keyOk at h
 cases l with
 | nil => simp [keyLs]
 | cons v l =>
  have hr : rowB (v :: l) = true := by simpa using h
  obtain ⟨h1, h8, hall⟩ := row_may hr
  have : ∀ m : List V, (∀ x ∈ m, mayB x = true) → (keyLs m).length ≤ 203 * m.length := by
   intro m
   induction m with
   | nil => intro _; simp [keyLs]
   | cons x m ih =>
    intro hm
    have i1 := ih fun y hy => hm y (by simp [hy])
    have i2 := key1_length (hm x (by simp))
    simp only [keyLs, List.flatMap_cons, List.length_append, List.length_cons] at i1 ⊢
    omega
  have := this _ hall
  omega
set_option maxRecDepth 100000 in
theorem lkey_any (c k : Int) (l : List V) (A : Option Addr) (cp : Nat) (w : World) (hr : VRow w A l) (hL : LayX w) :
  Calls Tryz.prog 41 #[.int .u8 c, .int .i64 k, .slice A l.length cp] w fun e w' => e = .returned (.tuple #[.string (if lkOk k l then lkB c k l else ⟨#[]⟩), .int .i64 (okE (lkOk k l))]) ∧ Below w.heap.size w w' := by
 have HK := hd_ (keyput_any l A cp w hr hL)
 have hlen := keyLs_length (l := l)
 unfold lkOk
 clear hr hL
 by_cases h0 : 0 ≤ k
 · by_cases h1 : k < 12
   · rw [decide_eq_true h0, decide_eq_true h1, Bool.true_and, Bool.true_and]
     have hm : k % 256 = k := by omega
     have hcv := fun W => conv2 W c k
     have hsz : (strOfNums [c, k]).size = 2 := rfl
     cases hko : keyOk l
     · rw [hko] at HK
       simp only [Bool.false_eq_true, if_false, okE] at HK ⊢
       clear hlen
       go_enter Tryz.func41, Tryz.ntmps41
       go_wp2_with (go_at_call 73; ((with_reducible refine HK.out.mono ?_); rintro e w1 ⟨rfl, hb1⟩))
       go_ret2
       exact ⟨rfl, hb1⟩
     · rw [hko] at HK
       have hl2 := hlen hko
       simp only [if_true, okE] at HK ⊢
       obtain ⟨kb, hkb⟩ : ∃ kb : ByteArray, kb = ⟨(keyLs l).toArray⟩ := ⟨_, rfl⟩
       have hks : kb.size = (keyLs l).length := by rw [hkb]; rfl
       rw [← hkb] at HK
       have HKB := hd_ hkb
       clear hlen hkb
       go_enter Tryz.func41, Tryz.ntmps41
       go_wp2_with (go_at_call 73; ((with_reducible refine HK.out.mono ?_); rintro e w1 ⟨rfl, hb1⟩))
       go_ret2
       refine ⟨ret_tup2 (congrArg Value.string ?_) rfl, hb1.alloc hb1.size _⟩
       unfold lkB lkL
       rw [HKB.out]
       simp [strOfNums]
       rfl
   · rw [decide_eq_false h1, Bool.and_false, Bool.false_and]
     simp only [Bool.false_eq_true, if_false, okE]
     clear hlen
     go_enter Tryz.func41, Tryz.ntmps41
     go_wp2
     go_ret2
     exact ⟨rfl, Below.refl _ _⟩
 · rw [decide_eq_false h0, Bool.false_and, Bool.false_and]
   simp only [Bool.false_eq_true, if_false, okE]
   clear hlen
   go_enter Tryz.func41, Tryz.ntmps41
   go_wp2
   go_ret2
   exact ⟨rfl, Below.refl _ _⟩
theorem lkey_1 (c k : Int) (v : V) (hv : v.wf) (b cp : Nat) (w : World) (hr : Blk w b #[.int .u8 v.k, .int .i64 v.n, .int .u64 v.r, .string v.t] 47) (hL : LayX w) :
 Calls Tryz.prog 41 #[.int .u8 c, .int .i64 k, .slice (some ⟨b, 0, none⟩) 1 cp] w fun e w' => e = .returned (.tuple #[.string (if lkOk k [v] then lkB c k [v] else ⟨#[]⟩), .int .i64 (okE (lkOk k [v]))]) ∧ Below w.heap.size w w' := lkey_any c k [v] _ cp w (vrow_b1 v hv hr) hL
def lkR (c k : Int) (l : List V) : Value := .tuple #[.string (if lkOk k l then lkB c k l else ⟨#[]⟩), .int .i64 (okE (lkOk k l))]
set_option maxRecDepth 100000 in
theorem ixrow_any (k : Int) (v : V) (hv : v.wf) (w : World) (hL : LayX w) : Calls Tryz.prog 26 #[.int .i64 k, v.agg] w fun e w' => e = .returned (lkR 114 k [v]) ∧ Below w.heap.size w w' := by
 have HK := hd_ (fun (W : World) (b cp : Nat) (hr : Blk W b #[.int .u8 v.k, .int .i64 v.n, .int .u64 v.r, .string v.t] 47) (hW : Below w.heap.size w W) => lkey_1 114 k v hv b cp W hr (hL.ext hW))
 clear hL hv
 unfold lkR V.agg
 obtain ⟨vk, vn, vr, vt⟩ := v
 simp only at HK ⊢
 generalize (if lkOk k [(⟨vk, vn, vr, vt⟩ : V)] then lkB 114 k [⟨vk, vn, vr, vt⟩] else ⟨#[]⟩ : ByteArray) = R1 at HK ⊢
 generalize okE (lkOk k [(⟨vk, vn, vr, vt⟩ : V)]) = R2 at HK ⊢
 go_enter Tryz.func26, Tryz.ntmps26
 go_wp2_with (go_at_call 41; ((with_reducible refine (HK.out _ _ _ (by repeat (first | exact Blk.at (by simp) | assumption | refine Blk.drew ?_ | refine Blk.old ?_ _)) (by repeat (first | exact Below.refl _ _ | assumption | refine Below.drew ?_ | refine below_drewN ?_ _ | refine Below.alloc ?_ (by simp <;> omega) _))).mono ?_); rintro e w1 ⟨rfl, hb1⟩))
 go_ret2
 exact ⟨rfl, bt ((by repeat (first | exact Below.refl _ _ | assumption | refine Below.drew ?_ | refine below_drewN ?_ _ | refine Below.alloc ?_ (by simp <;> omega) _))) hb1⟩
theorem ixmeta_any (s : ByteArray) (hs : s.size ≤ 1000000) (w : World) : Calls Tryz.prog 34 #[.string s] w fun e w' => e = .returned (.string (⟨#[109]⟩ ++ s)) ∧ w = w' := by
 have h1 : (ByteArray.mk #[109]).size = 1 := rfl
 go_enter Tryz.func34, Tryz.ntmps34
 go_wp2
 go_ret
 exact ⟨rfl, rfl⟩
end Go.Proofs.YtceoficoappkpaaGreatDoor
namespace Go.Proofs.YtceoficoappkpaaGreatDoor
open Go.RowKit Go.Shelf
attribute [local go_sem] Oper.semAt_some

theorem conv_in (s : ByteArray) (w : World) : ∃ (cap : Nat) (W : World), (convert 9 128 (.string s)).run Tryz.prog w = .ok (.slice (some ⟨w.heap.size, 0, none⟩) s.size cap) W ∧ Below w.heap.size w W ∧ W.heap.size = w.heap.size + 1 ∧
  (∀ j (hj : j < s.size), W.cell? ⟨w.heap.size, j, none⟩ = some (.int .u8 (s[j].toNat : Int))) ∧ ∀ j, j < s.size → W.frozen? ⟨w.heap.size, j, none⟩ = false := by
 refine ⟨_, _, Go.Lib.run_convert_string_bytes (P := Tryz.prog) w 9 128 5 s Tryz.underlying9 Tryz.underlying128 Tryz.underlying5, ?_, Go.Lib.bytesWorld_size _ _ _, fun j hj => ?_, fun j hj => ?_⟩
 · exact ⟨rfl, rfl, rfl, by rw [Go.Lib.bytesWorld_size]; omega, fun k hk => Go.Lib.bytesWorld_at_old _ _ _ k hk⟩
 · rw [Go.Lib.bytesWorld_cell _ _ _ j hj]
   have hj' : j < s.data.size := hj
   simp only [List.getD, Array.getElem?_toList]
   rw [Array.getElem?_eq_getElem hj']
   rfl
 · simp only [World.frozen?, Go.Lib.bytesWorld_at_new]
   simp [Go.Lib.bytesCells]
   have hj' : j < s.data.size := hj
   omega
set_option maxRecDepth 100000 in
theorem after_any (s : ByteArray) (n : Nat) (w : World) (hs : s.size ≤ 1000000000) (hn : n < s.size) (h0 : ((s[n].toNat : Int) == 255) = false) (h1 : ∀ i (hi : i < s.size), n < i → ((s[i].toNat : Int) == 255) = true) :
  Calls Tryz.prog 59 #[.string s] w fun r w' => (∃ t : ByteArray, r = .returned (.tuple #[.string t, .bool true]) ∧ t.data.toList = s.data.toList.take n ++ [s[n] + 1]) ∧ Below w.heap.size w w' := by
 go_enter Tryz.func59, Tryz.ntmps59
 go_wp2_with fail
 go_loopw [4] (fun i wr => ∃ k : Nat, n < k ∧ k ≤ s.size ∧ i = .int .i64 k ∧ wr = w) (fun i _ => (intOf i).toNat)
 case atStart => exact ⟨s.size, hn, Nat.le_refl _, rfl, rfl⟩
 case round =>
  obtain ⟨k, hk1, hk2, rfl, rfl⟩ := hrel
  by_cases hk : k = n + 1
  · subst hk
    have hne : ((n : Int) + 1 == 0) = false := by simp; omega
    obtain ⟨cap, W, hcv, hb, hsz, hc, hf⟩ := conv_in (s.extract 0 (n + 1)) wr
    have hes : (s.extract 0 (n + 1)).size = n + 1 := by simp; omega
    rw [hes] at hcv
    have hse : ∀ j (hj : j < n + 1), (s.extract 0 (n + 1))[j]'(by omega) = s[j]'(by omega) := fun j hj => by simp [ByteArray.getElem_extract]
    have hcn : W.cell? ⟨wr.heap.size, n, none⟩ = some (.int .u8 (s[n].toNat : Int)) := by rw [hc n (by omega), hse n (by omega)]
    have hfn := hf n (by omega)
    have hlt : s[n].toNat < 255 := by
     have h3 := s[n].toNat_lt
     have h4 : ¬ s[n].toNat = 255 := fun e => by rw [e] at h0; exact absurd h0 (by decide)
     omega
    obtain ⟨l, hl⟩ : ∃ l : List UInt8, l = s.data.toList.take n ++ [s[n] + 1] := ⟨_, rfl⟩
    have hll : l.length = n + 1 := by rw [hl]; simp; have : n < s.data.size := hn; omega
    have hback : (convert 128 9 (.slice (some ⟨wr.heap.size, 0, none⟩) (n + 1) cap)).run Tryz.prog (W.setCell ⟨wr.heap.size, n, none⟩ (.int .u8 ((s[n].toNat : Int) + 1))) = .ok (.string ⟨l.toArray⟩) (W.setCell ⟨wr.heap.size, n, none⟩ (.int .u8 ((s[n].toNat : Int) + 1))) := by
     have := run_convert_bytes_back (P := Tryz.prog) (W.setCell ⟨wr.heap.size, n, none⟩ (.int .u8 ((s[n].toNat : Int) + 1))) 128 9 5 ⟨wr.heap.size, 0, none⟩ cap l Tryz.underlying128 Tryz.underlying5 Tryz.underlying9 (fun j hj => by
      have ha : (⟨wr.heap.size, 0, none⟩ : Addr).add j = ⟨wr.heap.size, j, none⟩ := by unfold Addr.add; split <;> simp_all
      rw [ha]
      by_cases hjn : j = n
      · subst hjn
        have := World.cell?_setCells_in wr.heap.size [.int .u8 ((s[j].toNat : Int) + 1)] j W (fun q hq => by
         obtain rfl : q = 0 := by simpa using hq
         simp [hcn]) 0 (by simp)
        refine this.trans ?_
        have hl2 : l[j]'hj = s[j]'hn + 1 := by
         have e : l[j]? = some (s[j]'hn + 1) := by
          rw [hl, List.getElem?_append_right (by simp; omega)]
          have hd : j < s.data.size := hn
          have : (s.data.toList.take j).length = j := by simp; omega
          rw [this]; simp
         rw [List.getElem?_eq_getElem hj] at e
         simpa using e
        rw [hl2, UInt8.toNat_add]
        simp
        omega
      · have := World.cell?_setCells_out wr.heap.size [.int .u8 ((s[n].toNat : Int) + 1)] n W ⟨wr.heap.size, j, none⟩ (fun _ _ => Or.inl (by simp; omega))
        refine this.trans ?_
        rw [hc j (by omega), hse j (by omega)]
        have hjs : j < s.size := by omega
        have hl2 : l[j]'hj = s[j]'hjs := by
         have hd : j < s.data.size := by have : n < s.data.size := hn; omega
         have hjn' : j < n := by omega
         have e : l[j]? = some (s[j]'hjs) := by
          rw [hl, List.getElem?_append_left (by simp; omega), List.getElem?_take_of_lt hjn', Array.getElem?_toList, Array.getElem?_eq_getElem hd]
          rfl
         rw [List.getElem?_eq_getElem hj] at e
         simpa using e
        rw [hl2])
     rw [hll] at this
     exact this
    have HL := hd_ hl
    have HB := hd_ (hb.setCell (p := ⟨wr.heap.size, n, none⟩) (Nat.le_refl _) (.int .u8 ((s[n].toNat : Int) + 1)))
    clear hc hf h1 hl hll hse
    go_wp2_with fail
    refine bodyPost_ret (v := .tuple #[.string ⟨l.toArray⟩, .bool true]) ?_ rfl ⟨⟨_, rfl, by simpa using HL.out⟩, HB.out⟩
    simp [results, Tryz.results59, go_sem]
  · have h255 := h1 (k - 1) (by omega) (by omega)
    have hk3 : 1 ≤ k := by omega
    go_wp2_with fail
    go_roundw
    case rel => exact ⟨k - 1, by omega, by omega, by go_num, trivial⟩
    case measure => simp [intOf]; omega
end Go.Proofs.YtceoficoappkpaaGreatDoor
