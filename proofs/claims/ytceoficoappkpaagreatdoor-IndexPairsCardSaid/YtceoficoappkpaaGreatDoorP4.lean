/- Texts joined by a tool: contracts and walks of this claim. -/
import Derived.Test.YtceoficoappkpaaGreatDoorP1
import Derived.Test.YtceoficoappkpaaGreatDoorB37
namespace Go.Proofs.YtceoficoappkpaaGreatDoor
open Go.RowKit
theorem strOfHi (v : Int) (h0 : 0 ≤ v) : strOfNums [v / 256 / 256 / 256 / 256 / 256 / 256 / 256 % 256, v / 256 / 256 / 256 / 256 / 256 / 256 % 256, v / 256 / 256 / 256 / 256 / 256 % 256, v / 256 / 256 / 256 / 256 % 256, v / 256 / 256 / 256 % 256, v / 256 / 256 % 256, v / 256 % 256, v % 256] = ⟨(hiN 8 v.toNat).toArray⟩ := by
 obtain ⟨n, rfl⟩ := Int.eq_ofNat_of_zero_le h0
 have e : ∀ m : Nat, ((m : Int) / 256) = ((m / 256 : Nat) : Int) := by intro m; omega
 have f : ∀ m : Nat, ((m : Int) % 256).toNat = m % 256 := by intro m; omega
 simp only [strOfNums, List.map_cons, List.map_nil, e, f, hiN, Int.toNat_natCast, List.nil_append, List.cons_append, Nat.div_div_eq_div_mul, Nat.reduceMul, Nat.reduceSub, Nat.reducePow, Nat.sub_zero, Nat.div_one]
set_option maxRecDepth 100000 in
set_option maxHeartbeats 800000 in
theorem rhigh_any (v : Int) (h0 : 0 ≤ v) (h1 : v ≤ 18446744073709551615) (w : World) :
  Calls Tryz.prog 157 #[.int .u64 v] w fun e w' => e = .returned (.string ⟨(hiN 8 v.toNat).toArray⟩) ∧ Below w.heap.size w w' := by
 have hmk : ∀ w : World, (Instr.makeSlice 128 (.int .i64 8) (.int .i64 8)).run Tryz.prog w = .ok (.slice (some ⟨w.heap.size, 0, none⟩) 8 8) (w.alloc (.cells #[.int .u8 0, .int .u8 0, .int .u8 0, .int .u8 0, .int .u8 0, .int .u8 0, .int .u8 0, .int .u8 0] 5)) := fun _ => by kernel_rfl
 have hcv := conv8
 generalize hM : hiN 8 v.toNat = M
 have HM := hd_ hM
 clear hM
 go_enter Tryz.func157, Tryz.ntmps157
 go_wp2
 refine wp_loop_rounds 9 ?_
 iterate 9 (rw [rounds_succ]; go_wp2)
 go_ret
 refine ⟨?_, (Below.refl _ _).alloc (Nat.le_refl _) _⟩
 rw [← HM.out]
 exact congrArg (fun s => Ending.returned (.string s)) (strOfHi v h0)
theorem keyT_snoc (l : List UInt8) (c : UInt8) : keyT (l ++ [c]) = keyT l ++ (if c = 0 then [0, 255] else [c]) := by
 induction l with
 | nil => simp only [List.nil_append, keyT]
 | cons b l ih =>
  simp only [List.cons_append, keyT]
  split <;> simp only [ih, List.cons_append]
set_option maxRecDepth 100000 in
set_option maxHeartbeats 800000 in
theorem rtext_any (s : ByteArray) (hs : s.size ≤ 100) (w : World) :
  Calls Tryz.prog 159 #[.string s] w fun e w' => e = .returned (.string ⟨(keyT s.data.toList ++ [0, 1]).toArray⟩) ∧ Below w.heap.size w w' := by
 go_enter Tryz.func159, Tryz.ntmps159
 go_wp2_with fail
 go_loopw [3, 4] (fun b i wr => ∃ (k : Nat) (bs : List UInt8), k ≤ s.size ∧ i = .int .i64 k ∧ BR wr w.heap.size b bs ∧ bs.length ≤ 2 * k ∧ Hid (bs = keyT (s.data.toList.take k)) ∧ Below w.heap.size w wr) (fun _ i _ => s.size - (intOf i).toNat)
 case atStart => exact ⟨0, [], by omega, rfl, BR.nil _ _, by simp, rfl, Below.refl _ _⟩
 case round =>
  obtain ⟨k, bs, hk, rfl, hbr, hbl, HBS, hbw⟩ := hrel
  have hsw := hbw.size
  by_cases hlt : k < s.size
  · have hl : k < s.data.toList.length := hlt
    obtain ⟨c, hc⟩ : ∃ c, c = s.data.toList[k] := ⟨_, rfl⟩
    have hidx : s[k]'hlt = c := by rw [hc]; rfl
    have HST : Hid (keyT (s.data.toList.take (k + 1)) = bs ++ (if c = 0 then [0, 255] else [c])) := by
     show _ = _
     rw [List.take_succ_eq_append_getElem hl, keyT_snoc, ← HBS.out, hc]
    have hb0 : Value.int .u8 (c.toNat : Int) = byteCell c := rfl
    have hb1 : Value.int .u8 255 = byteCell 255 := rfl
    have HB0 := hd_ hb0
    have HB1 := hd_ hb1
    clear hc hb0 hb1 HBS
    by_cases h0 : c = 0
    · subst h0
      rw [if_pos rfl] at HST
      have hb2 : Value.int .u8 0 = byteCell 0 := rfl
      have HB2 := hd_ hb2
      clear hb2
      go_wp2_with (at_builtin; refine app_row rfl _ _ rfl w.heap.size _ bs (hbr.ext (by repeat (first | exact Below.refl _ _ | assumption | refine Below.drew ?_ | refine below_drewN ?_ _ | refine Below.alloc ?_ (by simp <;> omega) _))) rfl wr.heap.size 1 [0] rfl (cell1 HB2.out) (by simp; omega) (by simp; omega) ?_)
      intro v1 W1 hbr1 hbb1 _
      have hbW1 : Below w.heap.size w W1 := (hbw.alloc hsw _).trans hbb1
      have hsW1 := hbW1.size
      clear hbb1 hbr hbw
      go_wp2_with (at_builtin; refine app_row rfl _ _ rfl w.heap.size _ (bs ++ [0]) (hbr1.ext (by repeat (first | exact Below.refl _ _ | assumption | refine Below.drew ?_ | refine below_drewN ?_ _ | refine Below.alloc ?_ (by simp <;> omega) _))) rfl W1.heap.size 1 [255] rfl (cell1 HB1.out) (by simp; omega) (by simp; omega) ?_)
      intro v2 W2 hbr2 hbb2 _
      have hbW2 : Below w.heap.size w W2 := (hbW1.alloc hsW1 _).trans hbb2
      clear hbb2 hbr1 hbW1
      go_wp2_with fail
      go_roundw
      case rel => exact ⟨k + 1, _, by omega, by go_num, hbr2, by simp; omega, HST.out.symm, hbW2⟩
      case measure => simp [intOf]; omega
    · rw [if_neg h0] at HST
      have h00 : ¬ c.toNat = 0 := fun e => h0 (by have := UInt8.ofNat_toNat (x := c); rw [e] at this; exact this.symm)
      have h01 : ¬ (c.toNat : Int) = 0 := by omega
      go_wp2_with (at_builtin; refine app_row rfl _ _ rfl w.heap.size _ bs (hbr.ext (by repeat (first | exact Below.refl _ _ | assumption | refine Below.drew ?_ | refine below_drewN ?_ _ | refine Below.alloc ?_ (by simp <;> omega) _))) rfl wr.heap.size 1 [c] rfl (cell1 HB0.out) (by simp; omega) (by simp; omega) ?_)
      intro v1 W1 hbr1 hbb1 _
      have hbW1 : Below w.heap.size w W1 := (hbw.alloc hsw _).trans hbb1
      clear hbb1 hbr hbw
      go_wp2_with fail
      go_roundw
      case rel => exact ⟨k + 1, _, by omega, by go_num, hbr1, by simp; omega, HST.out.symm, hbW1⟩
      case measure => simp [intOf]; omega
  · have hk : k = s.size := by omega
    have hkl : s.data.toList.length = s.size := rfl
    have hbse : bs = keyT s.data.toList := by rw [HBS.out, hk, List.take_of_length_le (by omega)]
    have HBE := hd_ hbse
    clear hbse HBS
    go_wp2_with (at_builtin; refine app_row rfl _ _ rfl w.heap.size _ bs (hbr.ext (by repeat (first | exact Below.refl _ _ | assumption | refine Below.drew ?_ | refine below_drewN ?_ _ | refine Below.alloc ?_ (by simp <;> omega) _))) rfl wr.heap.size 2 [0, 1] rfl cell01 (by simp; omega) (by simp; omega) ?_)
    intro v1 W1 hbr1 hbb1 _
    have hbW1 : Below w.heap.size w W1 := (hbw.alloc hsw _).trans hbb1
    have hcv := conv_own _ hbr1
    rw [HBE.out] at hcv
    clear hbb1 hbr hbw hbr1
    go_wp2_with fail
    go_ret
    exact ⟨rfl, hbW1⟩
set_option maxRecDepth 100000 in
theorem rkey_any (b : Int) (h0 : 0 ≤ b) (h1 : b ≤ 18446744073709551615) (w : World) :
  Calls Tryz.prog 158 #[.int .u64 b] w fun e w' => e = .returned (.int .u64 (keyZ b)) ∧ w = w' := by
 have HCN := hd_ (canonR_any b h0 h1 w)
 have hc := canonZ_in b h0 h1
 by_cases h : canonZ b < 9223372036854775808
 · rw [keyZ_low h]
   have ho : IntKind.u64.wrap (canonZ b + 9223372036854775808) = canonZ b + 9223372036854775808 := by rw [IntKind.wrap_u64]; omega
   have hs : canonZ b / 9223372036854775808 = 0 := by omega
   generalize canonZ b = c at *
   go_enter Tryz.func158, Tryz.ntmps158
   go_wp2_with (go_at_call 106; refine HCN.out.mono ?_; rintro e w' ⟨rfl, rfl⟩)
   go_ret
   exact ⟨rfl, rfl⟩
 · rw [keyZ_high h]
   have ho := xor_all (canonZ b) hc.1 hc.2
   have hs : canonZ b / 9223372036854775808 = 1 := by omega
   generalize canonZ b = c at *
   go_enter Tryz.func158, Tryz.ntmps158
   go_wp2_with (go_at_call 106; refine HCN.out.mono ?_; rintro e w' ⟨rfl, rfl⟩)
   go_ret
   exact ⟨rfl, rfl⟩
set_option maxRecDepth 100000 in
theorem rone_any (v : V) (hv : v.wf) (hm : mayB v = true) (w : World) :
  Calls Tryz.prog 107 #[v.agg] w fun e w' => e = .returned (.string ⟨(key1 v).toArray⟩) ∧ Below w.heap.size w w' := by
 have hk5 := may_kind hm
 have HMV := hd_ hm
 have hc1 := conv1b
 have hc3 := conv1c
 have hts := may_size hm
 obtain ⟨_, _, hn1, hn2, hr1, hr2, _⟩ := hv
 obtain ⟨vk, vn, vr, vt⟩ := v
 simp only at hk5 hn1 hn2 hr1 hr2 hts
 clear hm
 unfold V.agg
 have hs1 : ∀ a : Int, (strOfNums [a]).size = 1 := fun _ => rfl
 generalize hR : key1 _ = R
 have HR := hd_ hR
 clear hR
 rcases hk5 with rfl | rfl | rfl | rfl | rfl | rfl
 · go_enter Tryz.func107, Tryz.ntmps107
   go_wp2_with fail
   go_ret
   exact ⟨by rw [← HR.out]; rfl, (by repeat (first | exact Below.refl _ _ | assumption | refine Below.drew ?_ | refine below_drewN ?_ _ | refine Below.alloc ?_ (by simp <;> omega) _))⟩
 · have hbn := bool_of HMV.out rfl
   simp only at hbn
   have hvn : vn % 256 = vn := by omega
   go_enter Tryz.func107, Tryz.ntmps107
   go_wp2_with fail
   go_ret
   refine ⟨?_, (by repeat (first | exact Below.refl _ _ | assumption | refine Below.drew ?_ | refine below_drewN ?_ _ | refine Below.alloc ?_ (by simp <;> omega) _))⟩
   rw [← HR.out]
   rcases hbn with rfl | rfl <;> rfl
 · have hwr : IntKind.u64.wrap (IntKind.u64.wrap vn + 9223372036854775808) = vn + 9223372036854775808 := by rw [IntKind.wrap_u64, IntKind.wrap_u64]; omega
   have HH := hd_ (rhigh_any (vn + 9223372036854775808) (by omega) (by omega))
   have hsz8 : (ByteArray.mk (hiN 8 (vn + 9223372036854775808).toNat).toArray).size = 8 := by simp [ByteArray.size, hiN_length]
   go_enter Tryz.func107, Tryz.ntmps107
   go_wp2_with (go_at_call 157; ((with_reducible refine (HH.out _).mono ?_); rintro e W2 ⟨rfl, hbb2⟩))
   go_ret
   refine ⟨?_, bt ((by repeat (first | exact Below.refl _ _ | assumption | refine Below.drew ?_ | refine below_drewN ?_ _ | refine Below.alloc ?_ (by simp <;> omega) _))) hbb2⟩
   rw [← HR.out]
   refine congrArg (fun s => Ending.returned (.string s)) (ba_of ?_)
   rw [ByteArray.data_append]
   simp [key1, strOfNums]
 · have HH := hd_ (rhigh_any (keyZ vr) (keyZ_in vr hr1 hr2).1 (keyZ_in vr hr1 hr2).2)
   have HK := hd_ (rkey_any vr hr1 hr2)
   have hsz8 : (ByteArray.mk (hiN 8 (keyZ vr).toNat).toArray).size = 8 := by simp [ByteArray.size, hiN_length]
   go_enter Tryz.func107, Tryz.ntmps107
   go_wp2_with (first | (go_at_call 158; ((with_reducible refine (HK.out _).mono ?_); rintro e W2 ⟨rfl, rfl⟩)) | (go_at_call 157; ((with_reducible refine (HH.out _).mono ?_); rintro e W2 ⟨rfl, hbb2⟩)))
   go_ret
   refine ⟨?_, bt ((by repeat (first | exact Below.refl _ _ | assumption | refine Below.drew ?_ | refine below_drewN ?_ _ | refine Below.alloc ?_ (by simp <;> omega) _))) hbb2⟩
   rw [← HR.out]
   refine congrArg (fun s => Ending.returned (.string s)) (ba_of ?_)
   rw [ByteArray.data_append]
   simp [key1, strOfNums]
 all_goals
  have HH := hd_ (rtext_any vt hts)
  have hkl : (keyT vt.data.toList).length ≤ 200 := by
   rw [keyT_length]
   have : Lib.count vt.data.toList [0] ≤ vt.size := Lib.countB_le ⟨#[0]⟩ (by decide) vt.size vt (Nat.le_refl _)
   have e : vt.data.toList.length = vt.size := rfl
   omega
  have hsz8 : (ByteArray.mk (keyT vt.data.toList ++ [0, 1]).toArray).size ≤ 202 := by simp [ByteArray.size]; omega
  go_enter Tryz.func107, Tryz.ntmps107
  go_wp2_with (go_at_call 159; ((with_reducible refine (HH.out _).mono ?_); rintro e W2 ⟨rfl, hbb2⟩))
  go_ret
  refine ⟨?_, bt ((by repeat (first | exact Below.refl _ _ | assumption | refine Below.drew ?_ | refine below_drewN ?_ _ | refine Below.alloc ?_ (by simp <;> omega) _))) hbb2⟩
  rw [← HR.out]
  refine congrArg (fun s => Ending.returned (.string s)) (ba_of ?_)
  rw [ByteArray.data_append]
  simp [key1, strOfNums]
set_option maxRecDepth 100000 in
theorem rkput_any (l : List V) (A : Option Addr) (c : Nat) (w : World) (hr : VRow w A l) (hm : keyOk l = true) :
  Calls Tryz.prog 71 #[.slice A l.length c] w fun e w' => e = .returned (.string ⟨(keyLs l).toArray⟩) ∧ Below w.heap.size w w' := by
 have hall : ∀ v ∈ l, mayB v = true := by
  unfold keyOk at hm
  cases l with
  | nil => intro v hv; simp at hv
  | cons v l => exact (row_may (by simpa using hm)).2.2
 have hl8 : l.length ≤ 8 := by
  unfold keyOk at hm
  cases l with
  | nil => simp
  | cons v l => exact (row_may (by simpa using hm)).2.1
 have HALL := hd_ hall
 have HV := hd_ hr
 clear hall hr hm
 generalize hP : keyLs l = P
 have HP := hd_ hP
 clear hP
 go_enter Tryz.func71, Tryz.ntmps71
 go_wp2_with fail
 go_loopw [3, 4] (fun s i wr => ∃ (k : Nat) (sb : ByteArray), k ≤ l.length ∧ i = .int .i64 k ∧ s = .string sb ∧ sb.size ≤ 203 * k ∧ Hid (sb.data.toList = (l.take k).flatMap key1) ∧ Below w.heap.size w wr) (fun _ i _ => l.length - (intOf i).toNat)
 case atStart => exact ⟨0, ⟨#[]⟩, by omega, rfl, rfl, Nat.le_refl 0, rfl, Below.refl _ _⟩
 case round =>
  obtain ⟨k, sb, hk, rfl, rfl, hsz, HS, hbw⟩ := hrel
  by_cases hlt : k < l.length
  · obtain ⟨b, off, v, rfl, hb, hlk, hmem, hwf, c0, c1, c2, c3⟩ := (HV.out.ext hbw).at_ hlt
    have hmv := HALL.out v hmem
    have HO := hd_ (rone_any v hwf hmv)
    have HFK := hd_ (flat_key HS.out hlk)
    have hk203 := key1_length hmv
    obtain ⟨q, hq⟩ : ∃ q : ByteArray, q = ⟨(key1 v).toArray⟩ := ⟨_, rfl⟩
    have hqs : q.size = (key1 v).length := by rw [hq]; rfl
    have hst : Hid ((sb ++ q).data.toList = (l.take (k + 1)).flatMap key1) := by
     show _ = _
     rw [ByteArray.data_append, Array.toList_append, hq]
     exact HFK.out
    rw [← hq] at HO
    obtain ⟨vk, vn, vr, vt⟩ := v
    unfold V.agg at HO
    simp only at c0 c1 c2 c3
    clear hq hmem hmv hwf HFK hlk
    go_wp2_with (go_at_call 107; ((with_reducible refine (HO.out _).mono ?_); rintro e W2 ⟨rfl, hbb2⟩; have hbw2 := hbw.trans (hbb2.mono hbw.size)))
    go_roundw
    case rel => exact ⟨k + 1, _, by omega, by go_num, rfl, by rw [ByteArray.size_append]; omega, hst, hbw2⟩
    case measure => simp [intOf]; omega
  · have hk : k = l.length := by omega
    have hse : sb = ⟨P.toArray⟩ := ba_of (by rw [HS.out, hk, List.take_length, ← HP.out]; rfl)
    have HSE := hd_ hse
    clear hse HS hk
    go_wp2_with fail
    go_ret
    exact ⟨congrArg (fun s => Ending.returned (.string s)) HSE.out, hbw⟩
theorem conv_blk2 {w : World} {g : Nat} {a b : Int} (c : Nat) (h : Blk w g #[.int .u8 a, .int .u8 b] 5) :
  (convert 128 9 (.slice (some ⟨g, 0, none⟩) 2 c)).run Tryz.prog w = .ok (.string (strOfNums [a, b])) w :=
 run_convert_bytes_arg _ 128 5 Tryz.underlying128 Tryz.underlying5 g 0 2 c [a, b] rfl (fun i hi => by
  match i, hi with
  | 0, _ => exact h.cell 0
  | 1, _ => exact h.cell 1
  | i + 2, h => exact absurd h (by omega)) 9 Tryz.underlying9
def rkR (c k : Int) (l : List V) : Value := .tuple #[.string (if lkOk k l then lkB c k l else ⟨#[]⟩), .bool (lkOk k l)]
theorem all_keyOk {l : List V} (h8 : l.length ≤ 8) : keyOk l = l.all mayB := by
 unfold keyOk
 cases l with
 | nil => rfl
 | cons v l =>
  unfold rowB
  simp only [List.isEmpty_cons, Bool.false_or]
  rw [decide_eq_true (by simp), decide_eq_true h8]; rfl
theorem all_mstep {l : List V} {j : Nat} {v : V} (h : (l.take j).all mayB = true) (hj : l[j]? = some v) (hm : mayB v = true) : (l.take (j + 1)).all mayB = true := by
 obtain ⟨hlt, hv⟩ := List.getElem?_eq_some_iff.1 hj
 rw [List.take_succ_eq_append_getElem hlt, List.all_append, h, hv]
 simp [hm]
theorem all_no {l : List V} {j : Nat} {v : V} (hj : l[j]? = some v) (hm : mayB v = false) : l.all mayB = false := by
 rw [List.all_eq_false]
 exact ⟨v, List.mem_of_getElem? hj, by simp [hm]⟩
set_option maxRecDepth 100000 in
set_option maxHeartbeats 1600000 in
theorem rK_any (c k : Int) (l : List V) (h8 : l.length ≤ 8) (A : Option Addr) (cp : Nat) (w : World) (hr : VRow w A l) (hL : LayX w) :
  Calls Tryz.prog 31 #[.int .u8 c, .int .i64 k, .slice A l.length cp] w fun e w' => e = .returned (rkR c k l) ∧ Below w.heap.size w w' := by
 have hall := all_keyOk h8
 unfold rkR lkOk
 by_cases h0 : 0 ≤ k
 · by_cases h1 : k < 12
   · rw [decide_eq_true h0, decide_eq_true h1, Bool.true_and, Bool.true_and, hall]
     have HKP := hd_ (fun (hm : l.all mayB = true) W (hW : Below w.heap.size w W) => rkput_any l A cp W (hr.ext hW) (hall.trans hm))
     have HV := hd_ hr
     have HL := hd_ hL
     have hkl := fun (hm : l.all mayB = true) => keyLs_length (hall.trans hm)
     have HKL := hd_ hkl
     clear hr hL hall hkl
     obtain ⟨n, hn⟩ : ∃ n, n = l.length := ⟨_, rfl⟩
     have hn8 : n ≤ 8 := by omega
     rw [← hn] at HKP ⊢
     have HN := hd_ hn
     obtain ⟨am, ham⟩ : ∃ am, am = l.all mayB := ⟨_, rfl⟩
     rw [← ham] at HKP HKL ⊢
     have HAM := hd_ ham
     clear hn ham h8
     go_enter Tryz.func31, Tryz.ntmps31
     go_wp2_with fail
     go_loopw [8] (fun i wr => ∃ (j : Nat), j ≤ n ∧ i = .int .i64 j ∧ Hid ((l.take j).all mayB = true) ∧ Below w.heap.size w wr) (fun i _ => n - (intOf i).toNat)
     case atStart => exact ⟨0, by omega, rfl, by show _ = _; simp, Below.refl _ _⟩
     case round =>
      obtain ⟨j, hj, rfl, HA, hbw⟩ := hrel
      by_cases hlt : j < n
      · obtain ⟨b, off, v, rfl, hb, hlk, hmem, hwf, c0, c1, c2, c3⟩ := (HV.out.ext hbw).at_ (show j < l.length by rw [← HN.out]; exact hlt)
        have HM := hd_ (may_any v hwf wr (HL.out.1.ext hbw))
        cases hm : mayB v
        · have hamf : am = false := by rw [HAM.out]; exact all_no hlk hm
          rw [hm] at HM
          subst hamf
          obtain ⟨vk, vn, vr, vt⟩ := v
          unfold V.agg at HM
          simp only at c0 c1 c2 c3
          clear hmem hwf hlk hm
          go_wp2_with (go_at_call 70; ((with_reducible refine HM.out.mono ?_); rintro e W2 ⟨rfl, hbb2⟩))
          go_ret2
          exact ⟨rfl, hbw.trans (hbb2.mono hbw.size)⟩
        · have HA2 := hd_ (all_mstep HA.out hlk hm)
          rw [hm] at HM
          obtain ⟨vk, vn, vr, vt⟩ := v
          unfold V.agg at HM
          simp only at c0 c1 c2 c3
          clear hmem hwf hlk hm
          go_wp2_with (go_at_call 70; ((with_reducible refine HM.out.mono ?_); rintro e W2 ⟨rfl, hbb2⟩; have hbw2 := hbw.trans (hbb2.mono hbw.size)))
          go_roundw
          case rel => exact ⟨j + 1, by omega, by go_num, HA2.out, hbw2⟩
          case measure => simp [intOf]; omega
      · have hjn : j = l.length := by have := HN.out; omega
        have hamt : am = true := by
         have := HA.out
         rw [hjn, List.take_length] at this
         rw [HAM.out, this]
        subst hamt
        have HKW := hd_ (HKP.out rfl)
        have hkl := HKL.out rfl
        have hw8 : IntKind.u8.wrap k = k := by simp [IntKind.wrap, IntKind.bits, IntKind.signed]; omega
        have HBW := hd_ hbw
        obtain ⟨KB, hKB⟩ : ∃ KB : ByteArray, KB = ⟨(keyLs l).toArray⟩ := ⟨_, rfl⟩
        have hks : KB.size = (keyLs l).length := by rw [hKB]; rfl
        rw [← hKB] at HKW
        have HKB := hd_ hKB
        have hs2 : (strOfNums [c, k]).size = 2 := rfl
        have hnl : ¬ 9223372036854775807 < 2 + (keyLs l).length := by omega
        clear hjn hKB HA HAM HKL HKP hbw
        go_upto_region 8 with fail
        refine region_grow [false, false, false, false, false, false, true, true, false, false, false, false, false, false, false, false, false, false, false, false, false, false, false, false, false, false, false, true, true, true, true, true, true, true, true] [27, 28, 29, 30, 31, 32, 33, 34, 6, 7] [.val (.int .u8 c), .val (.int .i64 k), .val (.int .u8 k), .new (fun g => .slice (some ⟨g, 0, none⟩) 2 2) #[.int .u8 c, .int .u8 k] 5, .val (.string (strOfNums [c, k])), .val (.slice A n cp), .val (.string KB), .val (.string (strOfNums [c, k] ++ KB)), .val (.string (strOfNums [c, k] ++ KB)), .val (.bool true)] [8, 9] (by kernel_rfl) (by kernel_rfl) (by kernel_rfl) (by kernel_rfl) (by kernel_rfl) ⟨?_, ?_, ?_, ?_, ?_, ?_, ?_, ?_, ?_, ?_, trivial⟩ ?done
        case done =>
         intro x9 w5 hb5
         simp only [StepGoal, overlay, upd, cond_true, cond_false, List.getD_cons_zero, List.getD_cons_succ, Nat.zero_add, Nat.reduceAdd, Nat.reduceEqDiff, reduceIte]
         go_wp2_with fail
         go_ret2
         refine ⟨ret_tup2 (congrArg Value.string ?_) rfl, bt HBW.out hb5⟩
         unfold lkB lkL
         rw [HKB.out]
         simp [strOfNums]
         rfl
        all_goals
         intro x9 w8 hT8
         have hb8 := bt HBW.out hT8
         first
          | (intro g hg
             intro K hK
             have hcv := conv_blk2 2 hg
             rw [if_pos (by rfl)]; simp only [overlay, upd, cond_true, cond_false, List.getD_cons_zero, List.getD_cons_succ, Nat.reduceEqDiff, reduceIte]
             go_simp
             exact hK.out _ _ (Below.refl _ _) rfl)
          | (intro K hK
             rw [if_pos (by rfl)]; simp only [overlay, upd, cond_true, cond_false, List.getD_cons_zero, List.getD_cons_succ, Nat.reduceEqDiff, reduceIte]
             go_simp
             first
              | exact hK.out _ _ (Below.refl _ _) rfl
              | exact hK.out _ _ ((by repeat (first | exact Below.refl _ _ | assumption | refine Below.drew ?_ | refine below_drewN ?_ _ | refine Below.alloc ?_ (by simp <;> omega) _))) ⟨_, rfl, (by repeat (first | exact Blk.at (by simp) | assumption | refine Blk.drew ?_ | refine Blk.old ?_ _))⟩
              | ((with_reducible refine (HKW.out _ hb8).mono ?_); rintro e wa ⟨rfl, hba⟩; go_wp2_with fail; exact hK.out _ _ hba rfl))
   · rw [decide_eq_false h1, Bool.and_false, Bool.false_and]
     clear hall
     go_enter Tryz.func31, Tryz.ntmps31
     go_wp2
     go_ret2
     exact ⟨rfl, Below.refl _ _⟩
 · rw [decide_eq_false h0, Bool.false_and, Bool.false_and]
   clear hall
   go_enter Tryz.func31, Tryz.ntmps31
   go_wp2
   go_ret2
   exact ⟨rfl, Below.refl _ _⟩
theorem rK_1 (c k : Int) (v : V) (hv : v.wf) (b cp : Nat) (w : World) (hr : Blk w b #[.int .u8 v.k, .int .i64 v.n, .int .u64 v.r, .string v.t] 47) (hL : LayX w) :
 Calls Tryz.prog 31 #[.int .u8 c, .int .i64 k, .slice (some ⟨b, 0, none⟩) 1 cp] w fun e w' => e = .returned (rkR c k [v]) ∧ Below w.heap.size w w' := rK_any c k [v] (by simp) _ cp w (vrow_b1 v hv hr) hL
theorem rK_2 (c k : Int) (u v : V) (hu : u.wf) (hv : v.wf) (b cp : Nat) (w : World) (hr : Blk w b #[.int .u8 u.k, .int .i64 u.n, .int .u64 u.r, .string u.t, .int .u8 v.k, .int .i64 v.n, .int .u64 v.r, .string v.t] 47) (hL : LayX w) :
 Calls Tryz.prog 31 #[.int .u8 c, .int .i64 k, .slice (some ⟨b, 0, none⟩) 2 cp] w fun e w' => e = .returned (rkR c k [u, v]) ∧ Below w.heap.size w w' := rK_any c k [u, v] (by simp) _ cp w (vrow_b2 u v hu hv hr) hL
end Go.Proofs.YtceoficoappkpaaGreatDoor
namespace Go.Proofs.YtceoficoappkpaaGreatDoor
open Go.ChangeShapes Go.WideShapes Go.ChangeAt Go.RowKit Go.Deep




section
variable {H : Type} {enc : TypeId × Value → H}

theorem weights_all {P : Program} {e : TypeId} : ∀ {l : List (DataW H)} {d : DataW H}, d ∈ l → ∀ n ∈ d.weights P e, n ∈ DataW.weightsAll P e l
 | x :: l, d, h, n, hn => by
  simp only [DataW.weightsAll, List.mem_append]
  rcases List.mem_cons.1 h with rfl | h
  · exact Or.inl hn
  · exact Or.inr (weights_all h n hn)

theorem addr_plain {W : World} {a : Addr} {v : Value} (h : W.cell? a = some v) : a = ⟨a.block, a.off, none⟩ := by
 obtain ⟨b, o, sp⟩ := a
 rw [cell_spot h]
theorem open_vrow {W : World} {fuel : Nat} {held : Bool} {cs : List Value} {x : DataW H × List MemPlace}
  (h : DataW.trod enc Tryz.prog W 0 (fun _ => true) held fuel 25 cs = some x) (hwt : ∀ n ∈ x.1.weights Tryz.prog 25, n ≤ reachBytes) :
  ∃ (A : Option Addr) (l : List V) (c : Nat), cs = [.slice A l.length c] ∧ VRow W A l := by
 rcases open_slice Tryz.underlying25 h with ⟨rfl, rfl⟩ | ⟨a, len, cap, m, n, D, Pl, rfl, _, hl, hm, hmm, rfl, hx⟩
 · exact ⟨none, [], 0, rfl, (fun _ h => by cases h), by simp, fun h => absurd rfl h⟩
 · have hc : Tryz.prog.cellsOf 47 = 4 := by kernel_rfl
   have hbytes : Tryz.prog.bytesOf 47 = 40 := by kernel_rfl
   simp only [if_true] at hmm
   subst hmm
   have hlen : len ≤ 35184372088832 := by
    have := hwt _ (by simp only [DataW.weights, Tryz.underlying25]; exact List.mem_cons_self)
    rw [hbytes] at this
    simp only [List.length_map, List.length_range] at this
    have : reachBytes ≤ 140737488355328 := by decide
    omega
   have hV : ∀ i, i < len → ∃ v : V, v.wf ∧ ∀ j, j < 4 → W.cell? (a.add (i * 4 + j)) = [Value.int .u8 v.k, .int .i64 v.n, .int .u64 v.r, .string v.t][j]? := by
    intro i hi
    obtain ⟨cs', h1, h2⟩ := hx i (by omega)
    rw [hc] at h1
    obtain ⟨v, hwf, rfl, _⟩ := open_V h2 (fun n hn => hwt n (by
     simp only [DataW.weights, Tryz.underlying25]
     refine List.mem_cons_of_mem _ (List.mem_append_left _ (weights_all (d := D i) ?_ n hn))
     exact List.mem_map.2 ⟨i, List.mem_range.2 hi, rfl⟩))
    obtain ⟨_, _, hcell⟩ := World.cells?_some h1
    exact ⟨v, hwf, fun j hj => by rw [← Go.Deep.add_add]; exact hcell j hj⟩
   obtain ⟨f, hf⟩ := choose_lt (α := V) (p := fun i v => v.wf ∧ ∀ j, j < 4 → W.cell? (a.add (i * 4 + j)) = [Value.int .u8 v.k, .int .i64 v.n, .int .u64 v.r, .string v.t][j]?) hV
   refine ⟨some a, (List.range len).map f, m, by simp, ?_, by simpa using hlen, fun hne => ?_⟩
   · intro v hv
     obtain ⟨i, hi, rfl⟩ := List.mem_map.1 hv
     exact (hf i (List.mem_range.1 hi)).1
   · have hpos : 0 < len := by
      rcases Nat.eq_zero_or_pos len with h0 | h0
      · subst h0; simp at hne
      · exact h0
     have h00 := (hf 0 hpos).2 0 (by omega)
     have ha0 : a.add (0 * 4 + 0) = a := by simp [Addr.add]
     rw [ha0] at h00
     have hap := addr_plain h00
     have hblk := lt_of_cell' h00
     obtain ⟨b, off, sp⟩ := a
     simp only at hap hblk
     injection hap with _ _ hsp
     subst hsp
     refine ⟨b, off, rfl, hblk, fun i v hi => ?_⟩
     have hil : i < len := by
      have := (List.getElem?_eq_some_iff.1 hi).1
      simpa using this
     have hv : v = f i := by
      rw [List.getElem?_map, List.getElem?_range hil] at hi
      exact (Option.some.inj hi).symm
     subst hv
     have hh := (hf i hil).2
     have ea : ∀ j, (⟨b, off, none⟩ : Addr).add (i * 4 + j) = ⟨b, off + i * 4 + j, none⟩ := by
      intro j
      unfold Addr.add
      split
      · next h0 =>
        obtain rfl : i = 0 := by omega
        obtain rfl : j = 0 := by omega
        rfl
      · show (⟨b, off + (i * 4 + j), none⟩ : Addr) = _
        rw [Nat.add_assoc]
     have g0 := hh 0 (by omega)
     have g1 := hh 1 (by omega)
     have g2 := hh 2 (by omega)
     have g3 := hh 3 (by omega)
     rw [ea] at g0 g1 g2 g3
     exact ⟨g0, g1, g2, g3⟩
end
end Go.Proofs.YtceoficoappkpaaGreatDoor
