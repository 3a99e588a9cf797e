/- Texts joined by a tool: contracts and walks of this claim. -/
import Derived.Test.YtfekohonidggjaaGreatDoorB15
namespace Go.Proofs.YtfekohonidggjaaGreatDoor
open Go.RowKit
theorem own_new (w : World) (B : Nat) (ws : List (List UInt8)) (hB : B ≤ w.heap.size) (hl : ws.length ≤ 1000000) : (w.alloc (.cells (wsC ws).toArray 9)).ownsRow B 9 1 (.slice (some ⟨w.heap.size, 0, none⟩) ws.length ws.length) ws.length (wsC ws) := by
 refine ⟨by simp [wsC], Or.inr ⟨w.heap.size, ws.length, (wsC ws).toArray, rfl, hB, ?_, Nat.le_refl _, by unfold maxLen; omega, by simp [wsC], List.take_of_length_le (by simp [wsC])⟩⟩
 exact Blk.new w _ _
def kRow (B : Nat) (ws : List (List UInt8)) : Known := .mem (fun v w => w.ownsRow B 9 1 v ws.length (wsC ws)) (fun _ _ _ h hb => own_ext h hb)
def opsC : Array Value := #[.string ⟨#[]⟩, .string (bsO tOp1), .string (bsO tOp2), .string (bsO tOp3)]
def kOpsAt (k : Int) : Known := .mem (fun v w => ∃ g, v = .pointer (some ⟨g, k.toNat, none⟩) ∧ Blk w g opsC 9) (fun _ _ _ ⟨g, h1, h2⟩ hb => ⟨g, h1, h2.ext hb⟩)
theorem ops_cell {w : World} {g : Nat} {k : Int} (h : Blk w g opsC 9) (hk : 1 ≤ k ∧ k ≤ 3) : w.cell? ⟨g, k.toNat, none⟩ = some (.string (bsO (opW k))) := by
 rw [h.cell]
 have : k = 1 ∨ k = 2 ∨ k = 3 := by omega
 rcases this with rfl | rfl | rfl <;> rfl
theorem blkV {w : World} {b : Nat} {k n r : Int} {s : ByteArray} {t : TypeId} (h : Blk w b #[.int .u8 k, .int .i64 n, .int .u64 r, .string s] t) :
 b < w.heap.size ∧ w.cell? ⟨b, 0, none⟩ = some (.int .u8 k) ∧ w.cell? ⟨b, 1, none⟩ = some (.int .i64 n) ∧ w.cell? ⟨b, 2, none⟩ = some (.int .u64 r) ∧ w.cell? ⟨b, 3, none⟩ = some (.string s) := by
 have e0 := h.cell 0
 have e1 := h.cell 1
 have e2 := h.cell 2
 have e3 := h.cell 3
 simp only [List.getElem?_toArray, List.getElem?_cons_zero, List.getElem?_cons_succ] at e0 e1 e2 e3
 exact ⟨h.lt, e0, e1, e2, e3⟩
theorem wsC_app (a b : List (List UInt8)) : wsC (a ++ b) = wsC a ++ wsC b := by simp [wsC]
set_option maxRecDepth 100000 in
set_option maxHeartbeats 6400000 in
theorem tell_op (a : Ac) (hw : a.wf) (hd : a.d = 2) (hp : opPre a) (A : Option Addr) (c : Nat) (w : World) (hr : VRow w A a.row) (hL : LayS w) :
 Calls Tryz.prog 40 #[a.agg A c] w fun r w' => TellP (actW a) w.heap.size r w' ∧ Below w.heap.size w w' := by
 have hO := actW_op hd
 have hB : opB a = a.row.all mayB := by
  cases h : a.row.all mayB
  · exact Bool.eq_false_iff.2 fun e => by rw [(opB_pre.1 e).2] at h; cases h
  · exact opB_pre.2 ⟨hp, h⟩
 rw [hB] at hO
 obtain ⟨d, k, tb, row, n, m, q, nm⟩ := a
 obtain ⟨⟨k1, k3⟩, hl8, h1, h2, h3, h4⟩ := hp
 obtain ⟨_, _, htb, _, _⟩ := hw
 simp only at hd k1 k3 hl8 h1 h2 h3 h4 htb hr hO
 subst hd h1 h2 h3
 obtain rfl := empty_of_size h4
 clear h4 hB
 unfold Ac.agg
 simp only
 generalize actW ⟨2, k, tb, row, 0, 0, 0, ByteArray.empty⟩ = O at hO ⊢
 have HO := hd_ hO
 have HOP := hd_ (fun W : World => ops_any W)
 have HNU := hd_ (fun (W : World) (hW : Below w.heap.size w W) => number_any tb htb W (hL.ext hW))
 have HCK := hd_ (fun (v : V) (hv : v.wf) (W : World) (hW : Below w.heap.size w W) => check_any v hv W (hL.ext hW).tabs)
 have HVL := hd_ (fun (v : V) (hv : v.wf) (W : World) (hW : Below w.heap.size w W) => valueT_any v hv W (hL.ext hW))
 have HVR := hd_ hr
 obtain ⟨i0, hi0, hz0, hz1, hz2⟩ := info_parts info_txt
 have HKK : Hid (1 ≤ k ∧ k ≤ 3) := ⟨k1, k3⟩
 have hlI : (row.length : Int) ≤ 8 := by omega
 clear hO hL hr htb
 go_enter Tryz.func40, Tryz.ntmps40
 go_wp2_with fail
 refine (need_yes _).mono ?_
 rintro r w1 ⟨rfl, rfl⟩
 go_upto_region 3 with fail
 have hBk := Blk.new w #[.int .u8 2, .int .u8 k, .int .i64 tb, .slice A row.length c, .int .i64 0, .int .i64 0, .int .i64 0, .string ByteArray.empty] 42
 have hBw : Below w.heap.size w (w.alloc (.cells #[.int .u8 2, .int .u8 k, .int .i64 tb, .slice A row.length c, .int .i64 0, .int .i64 0, .int .i64 0, .string ByteArray.empty] 42)) := bel1 _ _
 generalize w.alloc (.cells #[.int .u8 2, .int .u8 k, .int .i64 tb, .slice A row.length c, .int .i64 0, .int .i64 0, .int .i64 0, .string ByteArray.empty] 42) = w1 at hBk hBw ⊢
 have HBK := hd_ hBk
 have HBW := hd_ hBw
 clear hBk hBw
 refine region_grow [false, false, false, true, false, false, false, false, false, false, false, false, false, false, false, false, false, false, false, false, false, false, false, false, false, false, false, false, false, false, false, false, false, false, false, false, false, false, false, false, false, false, false, false, false, false, false, false, false, false, false, false, false, true, true, true, true, true, true, true, true, true, true, true, false, false, false, false, false, false, false, false, false, false, false, false, false, false, false, false, false, false, false, false, false, false, false, false, false, false, false, false, false, false, false, false, false, false, false, false, false, false, false, false, false, false, false, false, false, false, false, false, false, false, false, false, false, false, false, false, false, false, false, false, false, false, false, false, false, false, false, false, false, false, false, false, false, false, false, false, false, false, false, false, false, false, false, false, false, false, false, false, false, false, false, false, false, false, false, false, false, false, false, false, false, false, false, false, false] [53, 54, 55, 56, 57, 58, 59, 60, 61, 62, 63, 3] [.new (fun g => .slice (some ⟨g, 0, none⟩) 4 4) opsC 9, .val (.pointer (some ⟨w.heap.size, 1, none⟩)), .val (.pointer (some ⟨w.heap.size, 1, none⟩)), .val (.int .u8 k), kOpsAt k, .val (.string (bsO (opW k))), .val (.pointer (some ⟨w.heap.size, 1, none⟩)), .val (.pointer (some ⟨w.heap.size, 2, none⟩)), .val (.int .i64 tb), .val (.string (bsO (Lib.itoa tb))), kRow w.heap.size [opW k, Lib.itoa tb], kRow w.heap.size [opW k, Lib.itoa tb]] [11] (by kernel_rfl) (by kernel_rfl) (by kernel_rfl) (by kernel_rfl) (by kernel_rfl) ⟨?_, ?_, ?_, ?_, ?_, ?_, ?_, ?_, ?_, ?_, ?_, ?_, trivial⟩ ?done
 case done =>
  intro x w2 hb2
  unfold kRow
  simp only [StepGoal, overlay, upd, cond_true, cond_false, List.getD_cons_zero, List.getD_cons_succ, Nat.zero_add, Nat.reduceAdd, Nat.reduceEqDiff, reduceIte]
  intro v hv
  have hv' : w2.ownsRow w.heap.size 9 1 v (2 + 0) (wsC (opW k :: Lib.itoa tb :: (row.take 0).map valW)) := hv
  have hbw2 := bt HBW.out hb2
  obtain ⟨y0, y1, y2, y3, y4, y5, y6, y7, y8⟩ := blkA (HBK.out.ext hb2)
  have HC : Hid ((row.take 0).all mayB = true) := rfl
  clear hv hb2 y0 y1 y2 y5 y6 y7 y8
  go_wp2_with fail
  go_loopw [3, 68] (fun lv i wr => ∃ j : Nat, j ≤ row.length ∧ i = .int .i64 j ∧ Hid ((row.take j).all mayB = true) ∧ wr.ownsRow w.heap.size 9 1 lv (2 + j) (wsC (opW k :: Lib.itoa tb :: (row.take j).map valW)) ∧ Below w.heap.size w wr) (fun _ i _ => row.length - (intOf i).toNat)
  case atStart => exact ⟨0, by omega, rfl, HC, hv', hbw2⟩
  case round =>
   obtain ⟨j, hj, rfl, HJ, hown, hbw⟩ := hrel
   clear hv' hbw2
   by_cases hlt : j < row.length
   · obtain ⟨b, off, v, rfl, hb, hlk, hmem, hwf, c0, c1, c2, c3⟩ := (HVR.out.ext hbw).at_ hlt
     have HLK := hd_ hlk
     have HCV := hd_ (HCK.out v hwf)
     have HVV := hd_ (HVL.out v hwf)
     have htk : row.take (j + 1) = row.take j ++ [v] := by
      obtain ⟨h1, h2⟩ := List.getElem?_eq_some_iff.1 hlk
      rw [List.take_succ_eq_append_getElem h1, h2]
     have HTK := hd_ htk
     have hltI : (j : Int) < row.length := by omega
     cases hmv : mayB v with
     | false =>
      have hN : O = none := by
       rw [HO.out, if_neg]
       intro e
       have := List.all_eq_true.1 e v hmem
       rw [hmv] at this; cases this
      have HN := hd_ hN
      rw [hmv] at HCV
      obtain ⟨vk, vn, vr, vt⟩ := v
      unfold V.agg at HCV
      simp only at c0 c1 c2 c3
      clear hlk hmem hwf htk hmv hN
      go_wp2_with fail
      refine (HCV.out _ (hbw.alloc hbw.size _)).mono ?_
      rintro r w3 ⟨rfl, hb3⟩
      have hbw3 := (hbw.alloc hbw.size _).trans (hb3.mono (by have := hbw.size; simp; omega))
      clear hb3 hown hbw
      simp only [okE]
      go_wp2_with fail
      refine (need_no _).mono ?_
      rintro r w4 ⟨rfl, rfl⟩
      unfold gaveW
      go_wp2_with fail
      exact ⟨rfl, by rw [HN.out]; rfl, hbw3⟩
     | true =>
      rw [hmv] at HCV
      have HTJ : Hid ((row.take (j + 1)).all mayB = true) := by
       show _ = _
       rw [HTK.out, List.all_append, HJ.out]
       simp [hmv]
      have hvt := valT_yes hmv
      rw [hvt] at HVV
      obtain ⟨q, hq⟩ : ∃ q, q = valW v := ⟨_, rfl⟩
      rw [← hq] at HVV
      have HQ := hd_ hq
      have HMP : Hid (wsC (opW k :: Lib.itoa tb :: (row.take (j + 1)).map valW) = wsC (opW k :: Lib.itoa tb :: (row.take j).map valW) ++ [.string (bsO q)]) := by
       show _ = _
       rw [HTK.out, List.map_append, HQ.out]
       simp [wsC]
      obtain ⟨vk, vn, vr, vt⟩ := v
      unfold V.agg at HCV HVV
      simp only at c0 c1 c2 c3
      clear hlk hmem hwf htk hmv hvt hq
      go_wp2_with fail
      refine (HCV.out _ (hbw.alloc hbw.size _)).mono ?_
      rintro r w3 ⟨rfl, hb3⟩
      obtain ⟨lB, e0, e1, e2, e3⟩ := blkV ((Blk.new wr #[.int .u8 vk, .int .i64 vn, .int .u64 vr, .string vt] 48).ext hb3)
      have hbw3 := (hbw.alloc hbw.size _).trans (hb3.mono (by have := hbw.size; simp; omega))
      have hown3 := own_ext (hown.alloc _) hb3
      clear hb3 hown hbw c0 c1 c2 c3
      simp only [okE]
      go_wp2_with fail
      refine (need_yes _).mono ?_
      rintro r w4 ⟨rfl, rfl⟩
      go_wp2_with fail
      refine (HVV.out _ hbw3).mono ?_
      rintro r w5 ⟨rfl, hb5⟩
      have hbw5 := bt hbw3 hb5
      have hown5 := own_ext hown3 hb5
      clear hb5 hown3 hbw3 e0 e1 e2 e3 lB
      have hj8 : j ≤ 8 := by omega
      go_wp2_with (at_builtin; refine wpList_append_own _ rfl _ _ 63 rfl w.heap.size 9 i0 (.string ByteArray.empty) 1 16 Tryz.underlying63 hi0 hz0 hz1 hz2 rfl (by decide) _ (2 + j) (wsC (opW k :: Lib.itoa tb :: (row.take j).map valW)) rfl (World.ownsRow.alloc hown5 _) ⟨w5.heap.size, 0, none⟩ 1 1 [.string (bsO q)] rfl rfl ?xc1 ?xc2 ?xc3 ?xc4 ?xc5 ?_)
      case xc1 => exact cell_one_new _ _ _
      case xc2 => simp [Value.oneCell']
      case xc3 => simp only [maxLen]; omega
      case xc4 => omega
      case xc5 => have := hbw5.size; simp; omega
      intro v' w6 hown6 hg6 _
      rw [← List.map_take, ← HMP.out] at hown6
      have hbw6 : Below w.heap.size w w6 := (hbw5.alloc hbw5.size _).grown hg6 (by have := hbw5.size; simp; omega) (own_ge hown5)
      clear hown5 hg6 hbw5
      go_wp2_with fail
      go_roundw
      case rel => exact ⟨j + 1, by omega, by go_num, HTJ, hown6, hbw6⟩
      case measure => simp [intOf]; omega
   · have hjn : j = row.length := by omega
     subst hjn
     have hN : O = some (opW k :: Lib.itoa tb :: row.map valW) := by
      have := HJ.out
      rw [List.take_length] at this
      rw [HO.out, if_pos this]
     have HN := hd_ hN
     rw [List.take_length] at hown
     clear hN
     go_wp2_with fail
     go_ret
     refine ⟨?_, hbw⟩
     rw [HN.out]
     refine ⟨_, rfl, ?_⟩
     rw [show (opW k :: Lib.itoa tb :: row.map valW).length = 2 + row.length by simp; omega]
     exact hown
 all_goals
  intro x w2 hb2
  have hbw2 := bt HBW.out hb2
  obtain ⟨y0, y1, y2, y3, y4, y5, y6, y7, y8⟩ := blkA (HBK.out.ext hb2)
  have k0 : 0 ≤ k := by have := HKK.out; omega
  have k4 : k < 4 := by have := HKK.out; omega
  first
   | (intro K hK
      rw [if_pos (by rfl)]; simp only [overlay, upd, cond_true, cond_false, List.getD_cons_zero, List.getD_cons_succ, Nat.reduceEqDiff, reduceIte]
      go_simp
      first
       | exact hK.out _ _ (Below.refl _ _) rfl
       | exact hK.out _ _ (by repeat (first | exact Below.refl _ _ | assumption | refine Below.drew ?_ | refine below_drewN ?_ _ | refine Below.alloc ?_ (by simp <;> omega) _)) (own_new _ _ [opW k, Lib.itoa tb] hbw2.size (by simp))
       | ((with_reducible refine (HOP.out _).mono ?_); rintro e wa ⟨rfl, hbk, hba⟩; go_wp2_with fail; exact hK.out _ _ hba ⟨_, rfl, hbk⟩)
       | ((with_reducible refine (HNU.out _ hbw2).mono ?_); rintro e wa ⟨rfl, hba⟩; go_wp2_with fail; exact hK.out _ _ hba rfl))
   | (intro bq hq K hK
      have hlt := hq.lt
      rw [if_pos (by rfl)]; simp only [overlay, upd, cond_true, cond_false, List.getD_cons_zero, List.getD_cons_succ, Nat.reduceEqDiff, reduceIte]
      go_simp
      first
       | exact hK.out _ _ (Below.refl _ _) ⟨_, rfl, hq⟩
       | ((with_reducible refine (HNU.out _ hbw2).mono ?_); rintro e wa ⟨rfl, hba⟩; go_wp2_with fail; exact hK.out _ _ hba rfl))
   | (rintro v ⟨g, rfl, hg⟩ K hK
      have hce := ops_cell hg HKK.out
      rw [if_pos (by rfl)]; simp only [overlay, upd, cond_true, cond_false, List.getD_cons_zero, List.getD_cons_succ, Nat.reduceEqDiff, reduceIte]
      go_simp
      exact hK.out _ _ (Below.refl _ _) rfl)
   | (intro v hv bq hq v4 h4 v5 hv5 K hK
      rw [if_pos (by rfl)]; simp only [overlay, upd, cond_true, cond_false, List.getD_cons_zero, List.getD_cons_succ, Nat.reduceEqDiff, reduceIte]
      go_simp
      exact hK.out _ _ (Below.refl _ _) hv5)
theorem zero_form (w : World) : (zeroValue 129).run Tryz.prog w = .ok ZF w := by kernel_rfl
theorem MF.look {w : World} {M n : Nat} {l : List (Int × Value)} (h : MF w M n l) (k : Int) (hk : 0 ≤ k ∧ k ≤ 255) : (Instr.lookup 131 (.map (some M)) (.int .u8 k) true).run Tryz.prog w = .ok (match lookI l k with | some v => .tuple #[v, .bool true] | none => .tuple #[ZF, .bool false]) w := by
 obtain ⟨D, ⟨es, clock, hh, F, hs, hD⟩, h2, h3⟩ := h
 subst hD
 rcases Maps.fit_look true (Maps.int_keyed Tryz.underlying5) Tryz.underlying131 (zero_form w) hh F (key_u8 hk) with ⟨hrun, _, hat⟩ | ⟨e0, y, _, _, hrun, hRv, hat, _⟩
 · have hn : lookI l k = none := by
    cases hl : lookI l k with
    | none => rfl
    | some v =>
     have e1 := h3 k (.lit (.bool true))
     rw [hl, hat] at e1
     cases e1
   rw [hn]
   simpa using hrun
 · have hy : y.1 = .held e0.val := by
    unfold RW at hRv
    simp only [Option.some.injEq] at hRv
    rw [← hRv]
   have hn : lookI l k = some e0.val := by
    cases hl : lookI l k with
    | none =>
     have e1 := h3 k (.lit (.bool true))
     rw [hl, hat, hy] at e1
     cases e1
    | some v =>
     have e1 := h3 k (.lit (.bool true))
     rw [hl, hat, hy] at e1
     simp only [Option.map_some, Option.getD_some, DataW.held.injEq] at e1
     rw [e1]
   rw [hn]
   simpa using hrun
theorem MF.putne {w : World} {M n : Nat} {l : List (Int × Value)} (h : MF w M n l) {g : Nat} {Z : Array Value} {t : TypeId} (hg : Blk w g Z t) (F : Array Value) : MF (putBlk w g F t) M n l := by
 obtain ⟨D, ⟨es, clock, hh, rest⟩, h2⟩ := h
 refine ⟨D, ⟨es, clock, ?_, rest⟩, h2⟩
 have hne : g ≠ M := by
  intro e
  unfold Blk at hg
  rw [e, hh] at hg
  cases hg
 unfold putBlk
 simp only
 rw [Array.getElem?_setIfInBounds_ne hne]
 exact hh
def fxC (o : Option (List UInt8 × Nat × Bool)) : Array Value := match o with
 | some (w, c, f) => #[.string (bsO w), .int .i64 c, .bool f]
 | none => #[.string ⟨#[]⟩, .int .i64 0, .bool false]
theorem formOf_hi {k : Int} (h : 16 < k) : formOf k = none := by
 unfold formOf
 rw [List.find?_eq_none.2]
 · rfl
 · intro x hx
   have key : ∀ y ∈ formL, y.1 ≤ 16 := by decide
   have := key x hx
   simp
   omega
theorem forms_look (k : Int) (h0 : 0 ≤ k) : (match lookI formsL.reverse k with | some v => Value.tuple #[v, .bool true] | none => Value.tuple #[ZF, .bool false]) = .tuple #[.agg (fxC (formOf k)), .bool (formOf k).isSome] := by
 by_cases h16 : 16 < k
 · rw [formOf_hi h16]
   have : lookI formsL.reverse k = none := by
    unfold lookI
    rw [List.find?_eq_none.2]
    · rfl
    · intro x hx
      have key : ∀ y ∈ formL, y.1 ≤ 16 := by decide
      have hx' : x ∈ formsL := by simpa using hx
      obtain ⟨y, hy, rfl⟩ := List.mem_map.1 hx'
      have := key y hy
      simp
      omega
   rw [this]
   rfl
 · have hc : k = 0 ∨ k = 1 ∨ k = 2 ∨ k = 3 ∨ k = 4 ∨ k = 5 ∨ k = 6 ∨ k = 7 ∨ k = 8 ∨ k = 9 ∨ k = 10 ∨ k = 11 ∨ k = 12 ∨ k = 13 ∨ k = 14 ∨ k = 15 ∨ k = 16 := by omega
   rcases hc with rfl | rfl | rfl | rfl | rfl | rfl | rfl | rfl | rfl | rfl | rfl | rfl | rfl | rfl | rfl | rfl | rfl <;> rfl
def kForms : Known := .mem (fun v w => ∃ M, v = .map (some M) ∧ MF w M 15 formsL.reverse) (fun _ _ _ ⟨M, h1, h2⟩ hb => ⟨M, h1, h2.ext hb⟩)
theorem nz_zero (l : List Int) : nzB l = !l.all (· == 0) := by
 unfold nzB
 induction l with
 | nil => rfl
 | cons x l ih => rw [List.any_cons, List.all_cons, ih]; cases h : (x == 0) <;> simp_all
def kPair (N : Nat) (Z : Array Value) (t : TypeId) : Known := .mem (fun v w => ∃ g, v = .pointer (some ⟨g, 0, none⟩) ∧ N ≤ g ∧ Blk w g Z t) (fun _ _ _ ⟨g, h1, h2, h3⟩ hb => ⟨g, h1, h2, h3.ext hb⟩)
def KP (N : Nat) (Z F : Array Value) (t : TypeId) (k : Known) : Prop := ∀ v w g, N ≤ g → Blk w g Z t → k.holds v w → k.holds v (putBlk w g F t)
theorem KP.val {N : Nat} {Z F : Array Value} {t : TypeId} (c : Value) : KP N Z F t (.val c) := fun _ _ _ _ _ h => h
def PairBody (P : Program) (ops : Array Oper) (Q : Exit → Act → World → Prop) (mask : List Bool) (L : List Value) (df : List Deferred) (w : World) (g : Nat) (F : Array Value) (t : TypeId) (d : Nat) (o : Oper) (x : Nat → Value) : Prop :=
 ∀ K' : Act → World → Prop, Shut (∀ v, K' ⟨(overlay (upd x d v) 0 mask L).toArray, df⟩ (putBlk w g F t)) →
  if Region.wanted o (yielded ops (overlay x 0 mask L).toArray) = true then Oper.wp P o ⟨(overlay x 0 mask L).toArray, df⟩ w K' Q else K' (Act.put ⟨(overlay x 0 mask L).toArray, df⟩ o.dst undef) w
def StepsP (P : Program) (ops : Array Oper) (Q : Exit → Act → World → Prop) (mask : List Bool) (L : List Value) (df : List Deferred) (ps : List Known) (dst : Nat → Nat) (a s : Nat) (Z F : Array Value) (t : TypeId) (w0 : World) : Nat → List Oper → Prop
 | _, [] => True
 | i, o :: os => (if i = s then ∀ x w g, Below w0.heap.size w0 w → w0.heap.size ≤ g → Blk w g Z t → StepGoal ps dst w (fun x => PairBody P ops Q mask L df w g F t (dst s) o (upd x (dst a) (.pointer (some ⟨g, 0, none⟩)))) ((depsOf o).filter fun j => !decide (j = a)) x
  else ∀ x w, Below w0.heap.size w0 w → StepGoal ps dst w (StepBody P ops Q mask L df (ps.getD i kAny) w (dst i) o) ((depsOf o).filter fun j => !decide (j = a) && !decide (j = s)) x) ∧ StepsP P ops Q mask L df ps dst a s Z F t w0 (i + 1) os
theorem StepsP.at_ {P : Program} {ops : Array Oper} {Q : Exit → Act → World → Prop} {mask : List Bool} {L : List Value} {df : List Deferred} {ps : List Known} {dst : Nat → Nat} {a s : Nat} {Z F : Array Value} {t : TypeId} {w0 : World} :
 ∀ (os : List Oper) (n i : Nat) (o : Oper), StepsP P ops Q mask L df ps dst a s Z F t w0 n os → os[i]? = some o → (if n + i = s then ∀ x w g, Below w0.heap.size w0 w → w0.heap.size ≤ g → Blk w g Z t → StepGoal ps dst w (fun x => PairBody P ops Q mask L df w g F t (dst s) o (upd x (dst a) (.pointer (some ⟨g, 0, none⟩)))) ((depsOf o).filter fun j => !decide (j = a)) x
  else ∀ x w, Below w0.heap.size w0 w → StepGoal ps dst w (StepBody P ops Q mask L df (ps.getD (n + i) kAny) w (dst (n + i)) o) ((depsOf o).filter fun j => !decide (j = a) && !decide (j = s)) x)
 | [], _, _, _, _, h => by simp at h
 | o' :: os, n, 0, o, hs, h => by
  simp only [List.getElem?_cons_zero, Option.some.injEq] at h
  subst h
  exact hs.1
 | o' :: os, n, i + 1, o, hs, h => by
  have := StepsP.at_ os (n + 1) i o hs.2 (by simpa using h)
  rw [show n + 1 + i = n + (i + 1) by omega] at this
  exact this
theorem region_pair {P : Program} {id : Nat} {ops : Array Oper} {Q : Exit → Act → World → Prop} {L : List Value} {df : List Deferred} {w0 : World} (a s : Nat) (Z F : Array Value) (t : TypeId) (mask : List Bool) (dsts : List Nat) (ps : List Known) (fin : List Nat)
 (hpa : ps.getD a kAny = kPair w0.heap.size Z t) (hkp : ∀ i, i ≠ a → i ≠ s → KP w0.heap.size Z F t (ps.getD i kAny))
 (hm : P.follows .mixedOrders = true) (ha : a < ops.size) (hs0 : s < ops.size) (hb : backB ops = true) (hsa : (match ops[s]? with | some o => (depsOf o).contains a | none => false) = true) (hdl : dsts = (List.range ops.size).map (dstN ops)) (hd : distB ops = true) (hfin : fin.all (fun j => decide (j < ops.size) && !decide (j = a) && !decide (j = s)) = true)
 (hs : StepsP P ops Q mask L df ps (fun i => dsts.getD i 0) a s Z F t w0 0 ops.toList)
 (hdone : ∀ x w g, Below w0.heap.size w0 w → w0.heap.size ≤ g → Blk w g F t → StepGoal ps (fun i => dsts.getD i 0) w (fun x => Q .normal ⟨(overlay (upd x (dsts.getD a 0) (.pointer (some ⟨g, 0, none⟩))) 0 mask L).toArray, df⟩ w) fin x) :
 (Code.region id ops true).wp P Q ⟨L.toArray, df⟩ w0 := by
 have hdg : ∀ i, i < ops.size → dsts.getD i 0 = dstN ops i := by
  intro i hi
  rw [hdl, List.getD_eq_getElem?_getD, List.getElem?_map, List.getElem?_range hi]
  rfl
 have hne : ∀ i j, i < ops.size → j < ops.size → i ≠ j → dsts.getD i 0 ≠ dsts.getD j 0 := by
  intro i j hi hj hij
  rw [hdg i hi, hdg j hj]
  have h1 := List.all_eq_true.1 (List.all_eq_true.1 hd i (List.mem_range.2 hi)) j (List.mem_range.2 hj)
  simpa [hij] using h1
 have hlt : ∀ i o, ops[i]? = some o → ∀ j ∈ depsOf o, j < i := by
  intro i o ho j hj
  obtain ⟨e, he, hbd, rfl⟩ := mem_deps (i := j) (o := o) (by simpa using hj)
  exact back_lt hb ho he hbd
 have has : a ≠ s := by
  intro e
  subst e
  have ho : ops[a]? = some ops[a] := Array.getElem?_eq_getElem ha
  rw [ho] at hsa
  have := hlt a _ ho a (by simpa using hsa)
  omega
 refine wp_region_any hm (wpAny_inv (fun listed ac w => ∃ x : Nat → Value, ac = ⟨(overlay x 0 mask L).toArray, df⟩ ∧ Below w0.heap.size w0 w ∧ (∀ i, i < ops.size → listed.getD i false = true → i ≠ a → i ≠ s → (ps.getD i kAny).holds (x (dsts.getD i 0)) w) ∧ (listed.getD s false = true → listed.getD a false = true) ∧ (listed.getD a false = true → ∃ g, x (dsts.getD a 0) = .pointer (some ⟨g, 0, none⟩) ∧ w0.heap.size ≤ g ∧ (listed.getD s false = true → Blk w g F t) ∧ (listed.getD s false = false → Blk w g Z t))) ?_ ?_ _ _ _ _ (by simp) (by simp) ?_)
 · rintro listed ac w i hsz ⟨x, rfl, hbw, hk, hsl, hp⟩ hi
   obtain ⟨hun, o, ho, hall⟩ := mem_ready.1 hi
   have his : i < ops.size := (Array.getElem?_eq_some_iff.1 ho).1
   have hun' : listed.getD i false = false := by
    rw [Array.getD_eq_getD_getElem?] at hun ⊢
    rw [Array.getElem?_eq_getElem (by omega)] at hun ⊢
    exact hun
   have hset : ∀ j, j ≠ i → (listed.setIfInBounds i true).getD j false = listed.getD j false := by
    intro j hj
    rw [Array.getD_eq_getD_getElem?, Array.getD_eq_getD_getElem?, Array.getElem?_setIfInBounds_ne (Ne.symm hj)]
   have hseti : (listed.setIfInBounds i true).getD i false = true := by
    rw [Array.getD_eq_getD_getElem?, Array.getElem?_setIfInBounds_self_of_lt (by omega)]
    rfl
   have hdl' : ∀ j ∈ depsOf o, listed.getD j false = true ∧ j < ops.size := by
    intro j hj
    obtain ⟨e, he, rfl⟩ := List.mem_map.1 hj
    obtain ⟨he1, he2⟩ := List.mem_filter.1 he
    have hl := hall e (by simpa using he1) he2
    refine ⟨hl, ?_⟩
    rcases Nat.lt_or_ge e.on listed.size with h' | h'
    · omega
    · rw [Array.getD_eq_getD_getElem?, Array.getElem?_eq_none h'] at hl; cases hl
   have hst := StepsP.at_ ops.toList 0 i o hs (by rw [Array.getElem?_toList]; exact ho)
   rw [Nat.zero_add] at hst
   by_cases hxs : i = s
   · subst hxs
     rw [if_pos rfl] at hst
     have hla : listed.getD a false = true := by
      rw [ho] at hsa
      exact (hdl' a (by simpa using hsa)).1
     obtain ⟨g, hg1, hg2, hg3, hg4⟩ := hp hla
     have hZ := hg4 hun'
     have hbd := StepGoal.use ((depsOf o).filter fun j => !decide (j = a)) x (fun j hj => by
      obtain ⟨hj1, hj2⟩ := List.mem_filter.1 hj
      have hja : j ≠ a := by simpa using hj2
      have hji : j ≠ i := by have := hlt i o ho j hj1; omega
      exact hk j (hdl' j hj1).2 (hdl' j hj1).1 hja hji) (hst x w g hbw hg2 hZ)
     have e1 : upd x (dsts.getD a 0) (.pointer (some ⟨g, 0, none⟩)) = x := by rw [← hg1]; exact upd_self x _
     simp only [e1] at hbd
     refine wpOp_step ho (fun K' hK => hbd K' (fun v => hK _ _ ⟨upd x (dsts.getD i 0) v, rfl, putBlk_below _ _ hbw hg2, fun j hj hlj hja hji => ?_, fun _ => by rw [hset a has]; exact hla, fun _ => ⟨g, by rw [upd_ne (hne a i ha his has)]; exact hg1, hg2, fun _ => ?_, fun h => ?_⟩⟩))
     · rw [hset j hji] at hlj
       rw [upd_ne (hne j i hj his hji)]
       exact hkp j hja hji _ w g hg2 hZ (hk j hj hlj hja hji)
     · exact putBlk_blk _ _ hZ.lt
     · rw [hseti] at h; cases h
   · rw [if_neg hxs] at hst
     have hbd := StepGoal.use ((depsOf o).filter fun j => !decide (j = a) && !decide (j = s)) x (fun j hj => by
      obtain ⟨hj1, hj2⟩ := List.mem_filter.1 hj
      simp only [Bool.and_eq_true, Bool.not_eq_true', decide_eq_false_iff_not] at hj2
      exact hk j (hdl' j hj1).2 (hdl' j hj1).1 hj2.1 hj2.2) (hst x w hbw)
     refine wpOp_step ho (fun K' hK => hbd K' (fun v w' hb' hv => hK _ _ ⟨upd x (dsts.getD i 0) v, rfl, hbw.trans (hb'.mono hbw.size), fun j hj hlj hja hjs => ?_, fun h => ?_, fun h => ?_⟩))
     · by_cases hji : j = i
       · subst hji; rw [upd_eq]; exact hv
       · rw [hset j hji] at hlj
         rw [upd_ne (hne j i hj his hji)]
         exact Known.ext (hk j hj hlj hja hjs) hb'
     · rw [hset s (Ne.symm hxs)] at h
       by_cases hia : a = i
       · subst hia; exact hseti
       · rw [hset a hia]; exact hsl h
     · rw [hset s (Ne.symm hxs)]
       by_cases hia : a = i
       · subst hia
         rw [hpa] at hv
         obtain ⟨g, hg1, hg2, hg3⟩ := hv
         exact ⟨g, by rw [upd_eq]; exact hg1, hg2, fun h' => (by rw [hsl h'] at hun'; cases hun'), fun _ => hg3⟩
       · rw [hset a hia] at h
         obtain ⟨g, hg1, hg2, hg3, hg4⟩ := hp h
         exact ⟨g, by rw [upd_ne (hne a i ha his hia)]; exact hg1, hg2, fun h' => (hg3 h').ext hb', fun h' => (hg4 h').ext hb'⟩
 · rintro listed ac w hsz ⟨x, rfl, hbw, hk, hsl, hp⟩ hr
   have hal := all_listed hb hsz hr
   obtain ⟨g, hg1, hg2, hg3, _⟩ := hp (hal (a + 1) a (by omega) ha)
   have hx := StepGoal.use fin x (fun j hj => by
    have h1 := List.all_eq_true.1 hfin j hj
    simp only [Bool.and_eq_true, decide_eq_true_eq, Bool.not_eq_true', decide_eq_false_iff_not] at h1
    exact hk j h1.1.1 (hal (j + 1) j (by omega) h1.1.1) h1.1.2 h1.2) (hdone x w g hbw hg2 (hg3 (hal (s + 1) s (by omega) hs0)))
   have e1 : upd x (dsts.getD a 0) (.pointer (some ⟨g, 0, none⟩)) = x := by rw [← hg1]; exact upd_self x _
   simp only [e1] at hx
   exact hx
 · refine ⟨fun j => L.getD j undef, ?_, (Below.refl _ _).drew, fun i hi h => ?_, fun h => ?_, fun h => ?_⟩
   · have := overlay_self L [] mask
     rw [List.nil_append, List.length_nil] at this
     rw [this]
   · rw [Array.getD_eq_getD_getElem?] at h
     simp [hi] at h
   · rw [Array.getD_eq_getD_getElem?] at h
     simp [hs0] at h
   · rw [Array.getD_eq_getD_getElem?] at h
     simp [ha] at h
theorem set5 {arr : Array Value} {p0 p1 p2 p3 p4 : Value} {rest : List Value} (h : arr.toList = p0 :: p1 :: p2 :: p3 :: p4 :: rest) (x c d : Value) :
 (((arr.setIfInBounds 2 x).setIfInBounds 3 c).setIfInBounds 4 d).toList.take 5 = [p0, p1, x, c, d] ∧ (((arr.setIfInBounds 3 c).setIfInBounds 4 d).setIfInBounds 2 x).toList.take 5 = [p0, p1, x, c, d] := by
 constructor <;> simp [h]
theorem shape_blk {w : World} {b : Nat} {cs : Array Value} {t : TypeId} (h : Blk w b cs t) : w.shape? b = some (t, cs.size) := by
 unfold Blk at h
 unfold World.shape?
 rw [h]
theorem putBlk_drew (w : World) (b : Nat) (cs : Array Value) (t : TypeId) : (putBlk w b cs t).drew = putBlk w.drew b cs t := rfl
theorem own_five {w : World} {B g cap : Nat} {arr : Array Value} {L : List Value} (hB : B ≤ g) (h : Blk w g arr 9) (hs : arr.size = cap) (hc : 5 ≤ cap) (hm : cap ≤ maxLen) (ht : arr.toList.take 5 = L) (hl : L.length = 5) : w.ownsRow B 9 1 (.slice (some ⟨g, 0, none⟩) 5 cap) 5 L :=
 ⟨by rw [hl], Or.inr ⟨g, cap, arr, rfl, hB, h, hc, hm, by omega, ht⟩⟩
set_option maxRecDepth 100000 in
set_option maxHeartbeats 1600000 in
theorem insert_any (B vb : Nat) (lv a b c d x : Value) (w : World) (hown : w.ownsRow B 9 1 lv 4 [a, b, c, d]) (hv : Blk w vb #[x] 9) (hne : lv.ownBlock ≠ some vb) (hB : B ≤ w.heap.size) (h1 : ∀ u ∈ [a, b, c, d], u.oneCell' = true) (hx : x.oneCell' = true) :
 Calls Tryz.prog 84 #[lv, .int .i64 2, .slice (some ⟨vb, 0, none⟩) 1 1] w fun r w' => (∃ lv', r = .returned lv' ∧ w'.ownsRow B 9 1 lv' 5 [a, b, x, c, d]) ∧ Below B w w' := by
 obtain ⟨hlen, ⟨rfl, h0⟩ | ⟨g, cap, cur, rfl, hBg, hg, h4, hm, hsz, htk⟩⟩ := hown
 · cases h0
 have hgb : Blk w g cur 9 := hg
 have hne' : vb ≠ g := fun e => hne (by rw [e]; rfl)
 have hsz' : cur.size = cap := by omega
 have hcl : ∀ j v, ([a, b, c, d] : List Value)[j]? = some v → w.cell? ⟨g, 0 + j, none⟩ = some v := by
  intro j v hj
  rw [hgb.cell, Nat.zero_add, ← Array.getElem?_toList]
  rw [← htk, List.getElem?_take] at hj
  split at hj
  · exact hj
  · cases hj
 have hvl : ∀ j v, ([x] : List Value)[j]? = some v → w.cell? ⟨vb, 0 + j, none⟩ = some v := by
  intro j v hj
  rw [hv.cell, Nat.zero_add]
  simpa using hj
 by_cases h5 : 5 ≤ cap
 · obtain ⟨rest, e5⟩ : ∃ e rest, cur.toList = a :: b :: c :: d :: e :: rest := by
    have hl : cur.toList.length = cap := by simpa using hsz'
    match hcu : cur.toList, hl with
    | [], hl => simp at hl; omega
    | [_], hl => simp at hl; omega
    | [_, _], hl => simp at hl; omega
    | [_, _, _], hl => simp at hl; omega
    | [_, _, _, _], hl => simp at hl; omega
    | p0 :: p1 :: p2 :: p3 :: e :: rest, _ =>
     rw [hcu] at htk
     simp only [Nat.reduceMul, List.take_succ_cons, List.take_zero, List.cons.injEq, and_true] at htk
     obtain ⟨rfl, rfl, rfl, rfl⟩ := htk
     exact ⟨e, rest, rfl⟩
   obtain ⟨rest, e5⟩ := e5
   have hI := Tryz.slices_Insert_string_shift g 0 4 cap 2 vb 0 1 1 [a, b, c, d] [x] w (by omega) (by omega) h5 (by unfold maxLen at hm; omega) hne' rfl rfl hcl
    (fun j hj => by rw [hgb.cell, Nat.zero_add, Array.getElem?_eq_getElem (by omega)]; rfl) (fun j hj => hgb.frozen _) hvl h1 (by simpa using hx) 9 9 1 cur.size (shape_blk hv) (shape_blk hgb) (by omega) (hv.frozen _) (hv.frozen _)
   refine hI.mono ?_
   rintro r w' ⟨rfl, rfl⟩
   obtain ⟨w3, rfl, lt⟩ := blk_put hgb
   have hw : ((putBlk w3 g cur 9).drew.setCells g (0 + (2 + 1)) ([a, b, c, d].drop 2)).setCells g (0 + 2) [x] = putBlk w3.drew g (((cur.setIfInBounds 3 c).setIfInBounds 4 d).setIfInBounds 2 x) 9 := by
    rw [putBlk_drew]
    have lt' : g < w3.drew.heap.size := lt
    show ((((putBlk w3.drew g cur 9).setCell ⟨g, 3, none⟩ c).setCell ⟨g, 4, none⟩ d).setCell ⟨g, 2, none⟩ x) = _
    rw [putBlk_set _ _ lt', putBlk_set _ _ lt', putBlk_set _ _ lt']
   rw [hw]
   refine ⟨⟨_, rfl, own_five hBg (putBlk_blk _ _ (show g < w3.drew.heap.size from lt)) (by simp [hsz']) h5 hm (set5 e5 x c d).2 rfl⟩, ?_⟩
   exact putBlk_belows (cs := cur) (by rw [← putBlk_drew]; exact (Below.refl B _).drew) hBg _
 · have h4' : cap = 4 := by omega
   subst h4'
   have hI := Tryz.slices_Insert_string_grow g 0 4 4 2 vb 0 1 1 [a, b, c, d] [x] w (by omega) (by omega) (by omega) (by omega) (by omega) rfl rfl hcl hvl h1 (by simpa using hx)
   have hgc := grownCap_ge w 5 4 9
   have hgm := grownCap_le_maxLen w 5 4 9 (by unfold maxLen; omega)
   refine hI.mono ?_
   rintro r w' ⟨rfl, rfl⟩
   obtain ⟨gc, hgcc⟩ : ∃ gc, gc = grownCap w (4 + 1) 4 9 := ⟨_, rfl⟩
   rw [← hgcc]
   change 5 ≤ grownCap w (4 + 1) 4 _ at hgc
   change grownCap w (4 + 1) 4 _ ≤ _ at hgm
   rw [← hgcc] at hgc hgm
   clear hgcc
   obtain ⟨arr, harr⟩ : ∃ arr : Array Value, arr = ([a, b, c, d].take 2).toArray ++ Builtin.zeroCells (Value.string ⟨#[]⟩).cells (4 + 1 - 2) ++ Builtin.zeroCells (Value.string ⟨#[]⟩).cells (gc - (4 + 1)) := ⟨_, rfl⟩
   rw [← harr]
   have hz3 : Builtin.zeroCells (Value.string ⟨#[]⟩).cells (4 + 1 - 2) = #[.string ⟨#[]⟩, .string ⟨#[]⟩, .string ⟨#[]⟩] := by kernel_rfl
   have hl5 : arr.toList = a :: b :: .string ⟨#[]⟩ :: .string ⟨#[]⟩ :: .string ⟨#[]⟩ :: (Builtin.zeroCells (Value.string ⟨#[]⟩).cells (gc - (4 + 1))).toList := by
    rw [harr, hz3]
    simp
   have hsa : arr.size = gc := by
    rw [harr, hz3]
    have : (Builtin.zeroCells (Value.string ⟨#[]⟩).cells (gc - (4 + 1))).size = gc - 5 := by
     unfold Builtin.zeroCells
     simp [Value.cells]
    simp [this]
    omega
   have hnb := Blk.new w arr 9
   have hbb : Below w.heap.size w (w.alloc (.cells arr 9)) := (by repeat (first | exact Below.refl _ _ | assumption | refine Below.drew ?_ | refine below_drewN ?_ _ | refine Below.alloc ?_ (by simp <;> omega) _))
   obtain ⟨w3, hw3, lt⟩ := blk_put hnb
   have hw : (((w.alloc (.cells arr 9)).drew.setCells w.heap.size 2 [x]).drew).setCells w.heap.size (2 + 1) ([a, b, c, d].drop 2) = putBlk w3.drew.drew w.heap.size (((arr.setIfInBounds 2 x).setIfInBounds 3 c).setIfInBounds 4 d) 9 := by
    rw [hw3, putBlk_drew]
    have lt1 : w.heap.size < w3.drew.heap.size := lt
    have lt2 : w.heap.size < w3.drew.drew.heap.size := lt
    show (((((putBlk w3.drew w.heap.size arr 9).setCell ⟨w.heap.size, 2, none⟩ x).drew).setCell ⟨w.heap.size, 3, none⟩ c).setCell ⟨w.heap.size, 4, none⟩ d) = _
    rw [putBlk_set _ _ lt1, putBlk_drew, putBlk_set _ _ lt2, putBlk_set _ _ lt2]
   rw [hw]
   refine ⟨⟨_, rfl, own_five hB (putBlk_blk _ _ (show w.heap.size < w3.drew.drew.heap.size from lt)) (by simp [hsa]) hgc hgm (set5 hl5 x c d).1 rfl⟩, ?_⟩
   refine putBlk_belows (cs := arr) ?_ hB _
   rw [← putBlk_drew, ← putBlk_drew, ← hw3]
   exact ((hbb.mono hB).drew).drew
end Go.Proofs.YtfekohonidggjaaGreatDoor
