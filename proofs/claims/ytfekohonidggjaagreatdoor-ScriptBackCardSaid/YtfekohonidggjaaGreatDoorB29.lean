/- Texts joined by a tool: contracts and walks of this claim. -/
import Derived.Test.YtfekohonidggjaaGreatDoorB28
import Derived.Test.YtfekohonidggjaaGreatDoorB27
import Derived.Lib.IndexMore
namespace Go.Proofs.YtfekohonidggjaaGreatDoor
open Go.RowKit
theorem cutC_index : ∀ w : List UInt8, match cutC w with
  | some (a, b) => Lib.indexByte w 58 = a.length ∧ w = a ++ 58 :: b
  | none => Lib.indexByte w 58 = -1
 | [] => rfl
 | c :: r => by
  have ih := cutC_index r
  unfold cutC Lib.indexByte
  by_cases hc : c = 58
  · subst hc
    simp
  · rw [if_neg hc]
    cases h : cutC r with
    | none =>
     rw [h] at ih
     simp only at ih
     simp [hc, ih]
    | some x =>
     obtain ⟨a, b⟩ := x
     rw [h] at ih
     simp only at ih
     simp only [Option.map_some, List.length_cons, List.cons_append]
     refine ⟨?_, by rw [← ih.2]⟩
     simp [hc, ih.1]
theorem cut_C (w : List UInt8) : Lib.cut w [58] = match cutC w with
  | some (a, b) => (a, b, true)
  | none => (w, [], false) := by
 have h := cutC_index w
 unfold Lib.cut
 rw [Lib.index_one]
 cases hc : cutC w with
 | none =>
  rw [hc] at h
  simp only at h
  rw [h]
  rfl
 | some x =>
  obtain ⟨a, b⟩ := x
  rw [hc] at h
  simp only at h
  rw [h.1, if_pos (by omega)]
  simp only [Int.toNat_natCast, List.length_singleton, Prod.mk.injEq, and_true]
  rw [h.2]
  exact ⟨by simp, by simp⟩
def kindsB : List ByteArray := [bsO [], bsO (kindW 1 false), bsO (kindW 2 false), bsO (kindW 3 false), bsO (kindW 4 false), bsO (kindW 5 false)]
def kiW (b : List UInt8) : Int := Lib.idxOfS kindsB (bsO (Lib.trimSuffix b [63]))
theorem kiW_some {b : List UInt8} {k : Int} {nl : Bool} (h : kindAt b = some (k, nl)) : kiW b = k ∧ Lib.hasSuffix b [63] = nl ∧ 1 ≤ k ∧ k ≤ 5 := by
 obtain ⟨hk, rfl⟩ := kindAt_some.1 h
 have : k = 1 ∨ k = 2 ∨ k = 3 ∨ k = 4 ∨ k = 5 := by omega
 rcases this with rfl | rfl | rfl | rfl | rfl <;> cases nl <;> exact ⟨by decide, by decide, by decide, by decide⟩
theorem suffix_split (b : List UInt8) : (Lib.hasSuffix b [63] = true ∧ b = Lib.trimSuffix b [63] ++ [63]) ∨ (Lib.hasSuffix b [63] = false ∧ b = Lib.trimSuffix b [63]) := by
 unfold Lib.trimSuffix
 cases h : Lib.hasSuffix b [63] with
 | false => exact Or.inr ⟨rfl, by simp⟩
 | true =>
  refine Or.inl ⟨rfl, ?_⟩
  unfold Lib.hasSuffix at h
  obtain ⟨t, ht⟩ := List.isSuffixOf_iff_suffix.1 h
  simp only [if_true]
  rw [← ht]
  simp
theorem kiW_pos {b : List UInt8} (h : 0 < kiW b) : ∃ nl, kindAt b = some (kiW b, nl) ∧ Lib.hasSuffix b [63] = nl := by
 have key : ∀ t : List UInt8, 0 < Lib.idxOfS kindsB (bsO t) → ∃ k : Int, Lib.idxOfS kindsB (bsO t) = k ∧ (1 ≤ k ∧ k ≤ 5) ∧ t = kindW k false := by
  intro t ht
  unfold Lib.idxOfS kindsB at ht ⊢
  simp only [Lib.idxFromS] at ht ⊢
  split at ht
  · omega
  · split at ht
    · next e => exact ⟨1, by simp [*], by omega, (bsO_inj e).symm⟩
    · split at ht
      · next e => exact ⟨2, by simp [*], by omega, (bsO_inj e).symm⟩
      · split at ht
        · next e => exact ⟨3, by simp [*], by omega, (bsO_inj e).symm⟩
        · split at ht
          · next e => exact ⟨4, by simp [*], by omega, (bsO_inj e).symm⟩
          · split at ht
            · next e => exact ⟨5, by simp [*], by omega, (bsO_inj e).symm⟩
            · omega
 obtain ⟨k, hk, hr, he⟩ := key _ h
 have hkk : kiW b = k := hk
 rcases suffix_split b with ⟨h1, h2⟩ | ⟨h1, h2⟩
 · refine ⟨true, ?_, h1⟩
   rw [hkk]
   exact kindAt_some.2 ⟨hr, by rw [h2, he, kind_null hr]⟩
 · refine ⟨false, ?_, h1⟩
   rw [hkk]
   exact kindAt_some.2 ⟨hr, by rw [h2, he]⟩
theorem tabR_five {t nm x y z : List UInt8} {cs : List (List UInt8)} : tabR (t :: nm :: x :: y :: z :: cs) = if t = tTable then (match longZ x, longZ y, longZ z, colsR cs with
 | some k, some r, some p, some l => some ⟨bsO nm, l, k, r, p, none, 0⟩
 | _, _, _, _ => none) else none := rfl
theorem tabR_few {ws : List (List UInt8)} (h : ws.length < 5) : tabR ws = none := by
 rcases ws with _ | ⟨a, _ | ⟨b, _ | ⟨c, _ | ⟨d, _ | ⟨e, l⟩⟩⟩⟩⟩
 · rfl
 · rfl
 · rfl
 · rfl
 · rfl
 · simp at h
   omega
def kLong (x : List UInt8) : Known := .mem (fun v _ => ∃ n, longZ x = some n ∧ v = .int .i64 n) (fun _ _ _ h _ => h)
def kTab (nm x y z : List UInt8) : Known := .mem (fun v _ => ∃ k r p, (longZ x = some k ∧ longZ y = some r ∧ longZ z = some p) ∧ v = .agg #[.string (bsO nm), .slice none 0 0, .int .i64 k, .int .i64 r, .int .i64 p]) (fun _ _ _ h _ => h)
def RTabP (o : Option Ta) (B : Nat) (r : Ending) (w' : World) : Prop := match o with
 | some t => ∃ A c, r = .returned (.agg (Ta.cells ⟨t.nm, t.cs, t.key, t.ref, t.par, A, c⟩)) ∧ CRow w' A t.cs ∧ ∀ p, A = some p → B ≤ p.block
 | none => r = gaveW
theorem info_colT : (Tryz.prog.info? 111).map (fun i => (i.zero, i.size, i.bytes)) = some (some (.agg #[.string ⟨#[]⟩, .int .u8 0, .bool false]), 3, 24) := by kernel_rfl
theorem colsR_app : ∀ (a : List (List UInt8)) (l : List Co) (x : List UInt8) (c : Co), colsR a = some l → colR x = some c → colsR (a ++ [x]) = some (l ++ [c])
 | [], l, x, v, h, hx => by
  unfold colsR at h
  simp only [Option.some.injEq] at h
  subst h
  simp [colsR, hx]
 | y :: a, l, x, v, h, hx => by
  unfold colsR at h
  cases hy : colR y with
  | none => rw [hy] at h; cases h
  | some u =>
   cases ha : colsR a with
   | none => rw [hy, ha] at h; cases h
   | some m =>
    rw [hy, ha] at h
    simp only [Option.some.injEq] at h
    subst h
    have := colsR_app a m x v ha hx
    simp [colsR, hy, this]
theorem colsR_no : ∀ (a : List (List UInt8)) (x : List UInt8), x ∈ a → colR x = none → colsR a = none
 | [], x, h, _ => by cases h
 | y :: a, x, h, hx => by
  unfold colsR
  rcases List.mem_cons.1 h with rfl | h
  · rw [hx]
  · rw [colsR_no a x h hx]
    cases colR y <;> rfl
theorem colsR_len : ∀ (a : List (List UInt8)) (l : List Co), colsR a = some l → l.length = a.length
 | [], l, h => by
  unfold colsR at h
  simp only [Option.some.injEq] at h
  subst h
  rfl
 | y :: a, l, h => by
  unfold colsR at h
  cases hy : colR y with
  | none => rw [hy] at h; cases h
  | some u =>
   cases ha : colsR a with
   | none => rw [hy, ha] at h; cases h
   | some m =>
    rw [hy, ha] at h
    simp only [Option.some.injEq] at h
    subst h
    simp [colsR_len a m ha]
theorem kinds_cells {w : World} {g : Nat} (h : Blk w g #[kd [], kd (kindW 1 false), kd (kindW 2 false), kd (kindW 3 false), kd (kindW 4 false), kd (kindW 5 false)] 9) : ∀ j, j < kindsB.length → w.cell? ⟨g, 0 + j, none⟩ = some (.string (kindsB.getD j ByteArray.empty)) := by
 intro j hj
 rw [Nat.zero_add, h.cell]
 have hj6 : j < 6 := hj
 have : j = 0 ∨ j = 1 ∨ j = 2 ∨ j = 3 ∨ j = 4 ∨ j = 5 := by omega
 rcases this with rfl | rfl | rfl | rfl | rfl | rfl <;> rfl
theorem colR_wf {x : List UInt8} (hx : x.length ≤ 4294967281) {c : Co} (h : colR x = some c) : c.wf := ((colR_some (by omega)).1 h).1.1
set_option maxRecDepth 100000 in
set_option maxHeartbeats 6400000 in
theorem readTable_any (s : ByteArray) (hs : s.size < 4294967281) (w : World) (hL : LayS w) :
  Calls Tryz.prog 90 #[.string s] w fun r w' => RTabP (readT s.data.toList) w.heap.size r w' ∧ Below w.heap.size w w' := by
 have hb0 : Below w.heap.size w (w.alloc (.cells #[.string ⟨#[]⟩, .slice none 0 0, .int .i64 0, .int .i64 0, .int .i64 0] 66)) := bel1 _ _
 have hR0 := Blk.new w #[.string ⟨#[]⟩, .slice none 0 0, .int .i64 0, .int .i64 0, .int .i64 0] 66
 have HWD := hd_ (words_any s hs (w.alloc (.cells #[.string ⟨#[]⟩, .slice none 0 0, .int .i64 0, .int .i64 0, .int .i64 0] 66)) (hL.ext hb0))
 have HB0 := hd_ hb0
 have HR0 := hd_ hR0
 have HL := hd_ hL
 have hlen : s.data.toList.length = s.size := by simp
 have HLEN := hd_ hlen
 clear hb0 hR0 hL hlen
 generalize hO : readT s.data.toList = O
 go_enter Tryz.func90, Tryz.ntmps90
 go_wp2_with fail
 generalize w.alloc (.cells #[.string ⟨#[]⟩, .slice none 0 0, .int .i64 0, .int .i64 0, .int .i64 0] 66) = W0 at HWD HB0 HR0 ⊢
 cases hwf : wordsF s.data.toList with
 | none =>
  have hN : O = none := by rw [← hO]; unfold readT; rw [hwf]
  have HN := hd_ hN
  rw [hwf] at HWD
  clear hN hO hwf
  refine HWD.out.mono ?_
  rintro r w1 ⟨hr, hb1⟩
  obtain rfl : r = gaveW := hr
  unfold gaveW
  go_wp2_with fail
  exact ⟨rfl, by rw [HN.out]; rfl, bt HB0.out hb1⟩
 | some ws =>
  have hR : O = tabR ws := by rw [← hO]; unfold readT; rw [hwf]
  rw [hwf] at HWD
  obtain ⟨hne, _, hjn⟩ := wordsF_some.1 hwf
  have hwl : ∀ x ∈ ws, x.length ≤ 4294967280 := fun x hx => by
   have := jn_len 32 ws x hx
   rw [hjn] at this
   have := HLEN.out
   omega
  have hlw : ws.length ≤ 4294967290 := by
   have := jn_ge 32 ws
   rw [hjn] at this
   have := HLEN.out
   omega
  clear hO hwf hjn hne
  have HR := hd_ hR
  have HWL := hd_ hwl
  clear hR hwl
  refine HWD.out.mono ?_
  rintro r w1 ⟨⟨g, rfl, hrow, hgb⟩, hb1⟩
  have HBW := hd_ (bt HB0.out hb1)
  have HR1 := hd_ (HR0.out.ext hb1)
  have HROW := hd_ hrow
  have hl1 : W0.heap.size ≤ w1.heap.size := hb1.size
  have hg0 : W0.heap.size ≤ g := hgb
  clear hb1 hrow hgb HWD
  by_cases h5 : ws.length < 5
  · have hN : O = none := by rw [HR.out, tabR_few h5]
    have HN := hd_ hN
    have h5I : ¬ (5 : Int) ≤ ws.length := by omega
    clear hN
    go_wp2_with fail
    refine (need_no _).mono ?_
    rintro r w3 ⟨rfl, rfl⟩
    unfold gaveW
    go_wp2_with fail
    exact ⟨rfl, by rw [HN.out]; rfl, HBW.out⟩
  · obtain ⟨t, nm, x, y, z, cs, rfl⟩ : ∃ t nm x y z cs, ws = t :: nm :: x :: y :: z :: cs := by
     rcases ws with _ | ⟨a, _ | ⟨b, _ | ⟨c, _ | ⟨d, _ | ⟨e, l⟩⟩⟩⟩⟩
     · simp at h5
     · simp at h5
     · simp at h5
     · simp at h5
     · simp at h5
     · exact ⟨a, b, c, d, e, l, rfl⟩
    have h5I : (5 : Int) ≤ (t :: nm :: x :: y :: z :: cs).length := by simp; omega
    have hrow1 := HROW.out
    have e0 := hrow1.at_ (j := 0) (x := t) rfl
    have hgl := hrow1.lt
    by_cases htt : t = tTable
    · have hcmp : ((bsO t).toList == [116, 97, 98, 108, 101]) = true := by rw [htt, ByteArray.toList_eq]; rfl
      rw [tabR_five, if_pos htt] at HR
      clear hrow1 htt
      go_wp2_with fail
      refine (need_yes _).mono ?_
      rintro r w3 ⟨rfl, rfl⟩
      clear hcmp e0 hgl h5I h5
      have HLG := hd_ (fun (v : List UInt8) (hv : v.length ≤ 4294967280) (W : World) (hW : Below w.heap.size w W) => (show Calls Tryz.prog 99 #[.string (bsO v)] W fun r w' => r = orGave ((longZ v).map fun n => .int .i64 n) ∧ Below W.heap.size W w' from longS_any (bsO v) (by rw [bsO_size]; omega) W (HL.out.ext hW)))
      go_upto_region 3 with fail
      refine region_last 17 _ [false, false, false, false, true, false, false, false, false, false, false, false, false, false, false, false, false, false, false, false, false, false, false, false, true, true, true, true, true, true, true, true, true, true, true, true, true, true, true, true, false, false, false, false, false, false, false, false, false, false, false, false, false, false, false, false, false, false, false, false, false, false, false, false, false, false, false, false, false, false, false, false, false, false, false, false, false, false, false] [24, 25, 26, 27, 28, 29, 30, 31, 32, 33, 34, 35, 36, 37, 38, 39, 4] [.val (.slice (some ⟨g, 0, none⟩) (cs.length + 1 + 1 + 1 + 1 + 1) (cs.length + 1 + 1 + 1 + 1 + 1)), .val (.pointer (some ⟨g, 1, none⟩)), .val (.string (bsO nm)), .val (.slice (some ⟨g, 0, none⟩) (cs.length + 1 + 1 + 1 + 1 + 1) (cs.length + 1 + 1 + 1 + 1 + 1)), .val (.pointer (some ⟨g, 2, none⟩)), .val (.string (bsO x)), kLong x, .val (.slice (some ⟨g, 0, none⟩) (cs.length + 1 + 1 + 1 + 1 + 1) (cs.length + 1 + 1 + 1 + 1 + 1)), .val (.pointer (some ⟨g, 3, none⟩)), .val (.string (bsO y)), kLong y, .val (.slice (some ⟨g, 0, none⟩) (cs.length + 1 + 1 + 1 + 1 + 1) (cs.length + 1 + 1 + 1 + 1 + 1)), .val (.pointer (some ⟨g, 4, none⟩)), .val (.string (bsO z)), kLong z, kTab nm x y z, kPair w3.heap.size #[.string ⟨#[]⟩, .slice none 0 0, .int .i64 0, .int .i64 0, .int .i64 0] 66] [15, 16] (by kernel_rfl) rfl rfl (by kernel_rfl) (by kernel_rfl) (by kernel_rfl) (by kernel_rfl) (by kernel_rfl) ⟨?_, ?_, ?_, ?_, ?_, ?_, ?_, ?_, ?_, ?_, ?_, ?_, ?_, ?_, ?_, ?_, ?_, trivial⟩ ?done
      case done =>
       intro xx w4 hb4
       simp only [StepGoal, List.getD_cons_zero, List.getD_cons_succ]
       rintro _ ⟨kk, rr, pp, hkrp, rfl⟩ _ ⟨a1, rfl, ha1, hA1⟩ K hK
       have HKRP := hd_ hkrp
       have hneR : a1 ≠ w.heap.size := by have := HR1.out.lt; omega
       have hneG : g ≠ a1 := by have := HROW.out.lt; omega
       have hwa : w.heap.size ≤ a1 := by have := HBW.out.size; omega
       have hR4 := HR1.out.ext hb4
       have hB4 := bt HBW.out hb4
       have hW4 := HROW.out.ext hb4
       obtain ⟨w5, rfl, lt⟩ := blk_put hA1
       obtain ⟨pc, pf, pS⟩ := putBlk_facts (w := w5) 66 lt
       have HA2 := hd_ (putBlk_blk (w := w5) (b := a1) #[.string (bsO nm), .slice none 0 0, .int .i64 kk, .int .i64 rr, .int .i64 pp] 66 lt)
       have HR2 := hd_ (putBlk_old hR4 (Ne.symm hneR) #[.string (bsO nm), .slice none 0 0, .int .i64 kk, .int .i64 rr, .int .i64 pp])
       have HB2 := hd_ (putBlk_belows hB4 hwa #[.string (bsO nm), .slice none 0 0, .int .i64 kk, .int .i64 rr, .int .i64 pp])
       have HW2 : Hid (WRow (putBlk w5 a1 #[.string (bsO nm), .slice none 0 0, .int .i64 kk, .int .i64 rr, .int .i64 pp] 66) g (t :: nm :: x :: y :: z :: cs)) := putBlk_old hW4 hneG #[.string (bsO nm), .slice none 0 0, .int .i64 kk, .int .i64 rr, .int .i64 pp]
       clear hb4 hA1 hR4 hB4 hW4 hkrp
       rw [if_pos (by rfl)]; simp only [overlay, upd, cond_true, cond_false, Nat.reduceEqDiff, reduceIte]
       go_simp
       refine hK.out _ _ ?_
       clear hK pc pf pS lt
       generalize putBlk w5 a1 #[.string (bsO nm), .slice none 0 0, .int .i64 kk, .int .i64 rr, .int .i64 pp] 66 = W2 at HA2 HR2 HB2 HW2 ⊢
       have HO : Hid (O = match colsR cs with
         | some l => some ⟨bsO nm, l, kk, rr, pp, none, 0⟩
         | none => none) := by
        show _ = _
        rw [HR.out, HKRP.out.1, HKRP.out.2.1, HKRP.out.2.2]
        cases colsR cs <;> rfl
       have hl2 : a1 < W2.heap.size := HA2.out.lt
       have hr2 : w.heap.size < W2.heap.size := HR2.out.lt
       have HW2L : Hid (g < W2.heap.size) := HW2.out.lt
       by_cases h0 : cs.length = 0
       · obtain rfl := List.eq_nil_of_length_eq_zero h0
         have hN : O = some ⟨bsO nm, [], kk, rr, pp, none, 0⟩ := by rw [HO.out]; rfl
         have HN := hd_ hN
         have hA := HA2.out
         have hR := HR2.out
         have hB := HB2.out
         clear hN h0 HA2 HR2 HB2 HW2
         simp only [List.length_nil, Nat.zero_add, Nat.reduceAdd]
         obtain ⟨w9, rfl, lt9⟩ := blk_put hR
         obtain ⟨pc, pf, pS⟩ := putBlk_facts (w := w9) 66 lt9
         obtain ⟨y0, y1, y2, y3, y4⟩ := blk5 hA
         have hla := hA.lt
         have HBF := hd_ (putBlk_belows hB (Nat.le_refl _) #[.string (bsO nm), .slice none 0 0, .int .i64 kk, .int .i64 rr, .int .i64 pp])
         clear hA hR hB
         go_wp2_with fail
         refine wp_loop_rounds 1 ?_
         rw [rounds_succ]
         go_wp2_with fail
         refine bodyPost_ret (v := .agg (Ta.cells ⟨bsO nm, [], kk, rr, pp, none, 0⟩)) (by simp [results, Tryz.results90, go_sem, Ta.cells, pc]) rfl ?_
         refine ⟨?_, HBF.out⟩
         rw [HN.out]
         exact ⟨none, 0, rfl, ⟨(fun v hv => by cases hv), by simp, fun h => absurd rfl h⟩, fun p hp => by cases hp⟩
       · have h0' : ¬ cs = [] := fun e => h0 (by rw [e]; rfl)
         have hpv : 0 < cs.length := by omega
         have h5J : (5 : Int) ≤ (cs.length : Int) + 1 + 1 + 1 + 1 + 1 := by omega
         go_wp2_with fail
         have hn40 : cs.length ≤ 4294967290 := by simp at hlw; omega
         obtain ⟨ic, hic, hc0, hc1, hc2⟩ := info_parts info_colT
         clear h0 h0' h5J
         go_loopw [43] (fun i wr => ∃ (j : Nat) (dn : List Co) (rA : Option Addr) (rc : Nat), j ≤ cs.length ∧ i = .int .i64 j ∧ Hid (colsR (cs.take j) = some dn ∧ (∀ v ∈ dn, v.wf)) ∧ wr.ownsRow W2.heap.size 111 3 (.slice rA j rc) j (ccells dn) ∧ Hid (Blk wr a1 #[.string (bsO nm), .slice rA j rc, .int .i64 kk, .int .i64 rr, .int .i64 pp] 66) ∧ Hid (Blk wr w.heap.size #[.string ⟨#[]⟩, .slice none 0 0, .int .i64 0, .int .i64 0, .int .i64 0] 66) ∧ Hid (WRow wr g (t :: nm :: x :: y :: z :: cs)) ∧ Below w.heap.size w wr ∧ W2.heap.size ≤ wr.heap.size) (fun i _ => cs.length - (intOf i).toNat)
         case atStart => exact ⟨0, [], none, 0, by omega, rfl, ⟨rfl, fun v hv => by cases hv⟩, World.ownsRow_nil _ _ _ _, HA2.out, HR2.out, HW2.out, HB2.out, Nat.le_refl _⟩
         case round =>
          obtain ⟨j, dn, rA, rc, hj, rfl, HCO, hown, HAr, HRr, HWr, hbw, hsz⟩ := hrel
          clear HA2 HR2 HW2 HB2
          by_cases hlt : j < cs.length
          · obtain ⟨v, hv⟩ : ∃ v, v = cs[j] := ⟨_, rfl⟩
            have hget := List.getElem?_eq_getElem hlt
            rw [← hv] at hget
            have hvl : v.length ≤ 4294967280 := HWL.out v (by rw [hv]; simp)
            have hxc := HWr.out.at_ (j := 5 + j) (x := v) (by rw [show 5 + j = j + 1 + 1 + 1 + 1 + 1 by omega]; simpa using hget)
            have hgl := HWr.out.lt
            have htk : cs.take (j + 1) = cs.take j ++ [v] := by rw [List.take_succ_eq_append_getElem hlt, ← hv]
            have HTK := hd_ htk
            have HMV := hd_ (List.mem_of_getElem? hget)
            have hltI : (j : Int) < cs.length := by omega
            obtain ⟨ml, hml⟩ := (HL.out.ext hbw).ml
            have hCT := Tryz.strings_Cut (bsO v) ⟨#[58]⟩ ml wr (by rw [bsO_size]; omega) hml
            rw [show (bsO v).data.toList = v from rfl, show (⟨#[58]⟩ : ByteArray).data.toList = [58] from rfl, cut_C] at hCT
            have HVL := hd_ hvl
            have HOW := hd_ hown
            have HBr := hd_ hbw
            clear hv hget htk hml hvl hown hbw
            cases hcc : cutC v with
            | none =>
             rw [hcc] at hCT
             have hN : O = none := by rw [HO.out, colsR_no cs v HMV.out (by unfold colR; rw [hcc])]
             have HN := hd_ hN
             have HCT := hd_ hCT
             have HKI := hd_ (fun W : World => kinds_any W)
             clear hcc hN hCT
             go_wp2_with fail
             refine HCT.out.mono ?_
             rintro r w4 ⟨rfl, nd, rfl⟩
             have HB4 : Hid (Below w.heap.size w (wr.drewN nd)) := below_drewN HBr.out nd
             clear hxc hgl HCT
             generalize wr.drewN nd = w4 at HB4 ⊢
             have hCS := Tryz.strings_CutSuffix ⟨#[]⟩ ⟨#[63]⟩ w4 (by decide)
             have HCS := hd_ hCS
             clear hCS
             go_wp2_with fail
             refine HCS.out.mono ?_
             rintro r w5 ⟨rfl, rfl⟩
             go_wp2_with fail
             refine (HKI.out _).mono ?_
             rintro r w6 ⟨rfl, hbk, hb6⟩
             have hB6 := bt HB4.out hb6
             have hIX := Tryz.slices_Index_string w5.heap.size 0 6 6 kindsB ⟨#[]⟩ w6 (by decide) (by omega) (kinds_cells hbk)
             have HIX := hd_ hIX
             clear hIX hb6 hbk
             go_wp2_with fail
             refine HIX.out.mono ?_
             rintro r w7 ⟨rfl, rfl⟩
             go_wp2_with fail
             refine (need_no _).mono ?_
             rintro r w8 ⟨rfl, rfl⟩
             unfold gaveW
             go_wp2_with fail
             exact ⟨rfl, by rw [HN.out]; rfl, hB6⟩
            | some ab =>
             obtain ⟨ca, cb⟩ := ab
             rw [hcc] at hCT
             have HCT : Hid (Calls Tryz.prog 47 #[.string (bsO v), .string ⟨#[58]⟩] wr fun r w' => r = .returned (.tuple #[.string (bsO ca), .string (bsO cb), .bool true]) ∧ ∃ n, w' = wr.drewN n) := hCT
             have HCC := hd_ hcc
             clear hcc hCT
             go_wp2_with fail
             refine HCT.out.mono ?_
             rintro r w4 ⟨rfl, nd, rfl⟩
             have hd4 : Below wr.heap.size wr (wr.drewN nd) := below_drewN (Below.refl _ _) nd
             have HO4 := hd_ (own_ext HOW.out hd4)
             have HA4 := hd_ (HAr.out.ext hd4)
             have HR4 := hd_ (HRr.out.ext hd4)
             have HW4 := hd_ (HWr.out.ext hd4)
             have HB4 := hd_ (bt HBr.out hd4)
             have hs4 : W2.heap.size ≤ (wr.drewN nd).heap.size := hsz
             clear hd4 hxc hgl HAr HRr HWr HBr HOW HCT
             generalize wr.drewN nd = w4 at HO4 HA4 HR4 HW4 HB4 hs4 ⊢
             have HKI := hd_ (fun W : World => kinds_any W)
             have hsz4 : cb.length ≤ 4294967280 := by
              have h1 := (cutC_some.1 HCC.out).1
              have h2 := HVL.out
              rw [h1] at h2
              simp only [List.length_append, List.length_cons] at h2
              omega
             have hCS : Calls Tryz.prog 124 #[.string (bsO cb), .string ⟨#[63]⟩] w4 fun r w' => r = .returned (.tuple #[.string (bsO (Lib.trimSuffix cb [63])), .bool (Lib.hasSuffix cb [63])]) ∧ w' = w4 := Tryz.strings_CutSuffix (bsO cb) ⟨#[63]⟩ w4 (by rw [bsO_size]; omega)
             have HCS := hd_ hCS
             clear hCS hsz4
             go_wp2_with fail
             refine HCS.out.mono ?_
             rintro r w5 ⟨rfl, rfl⟩
             go_wp2_with fail
             refine (HKI.out _).mono ?_
             rintro r w6 ⟨rfl, hbk, hb6⟩
             have hIX : Calls Tryz.prog 125 #[.slice (some ⟨w5.heap.size, 0, none⟩) 6 6, .string (bsO (Lib.trimSuffix cb [63]))] w6 fun e w' => e = .returned (.int .i64 (kiW cb)) ∧ w' = w6 := Tryz.slices_Index_string w5.heap.size 0 6 6 kindsB (bsO (Lib.trimSuffix cb [63])) w6 (by decide) (by omega) (kinds_cells hbk)
             have HIX := hd_ hIX
             have HO6 := hd_ (own_ext HO4.out hb6)
             have HA6 := hd_ (HA4.out.ext hb6)
             have HR6 := hd_ (HR4.out.ext hb6)
             have HW6 := hd_ (HW4.out.ext hb6)
             have HB6 := hd_ (bt HB4.out hb6)
             have hs6 : W2.heap.size ≤ w6.heap.size := Nat.le_trans hs4 hb6.size
             clear hIX hb6 hbk HO4 HA4 HR4 HW4 HB4 hs4 HCS
             go_wp2_with fail
             refine HIX.out.mono ?_
             rintro r w7 ⟨rfl, rfl⟩
             obtain ⟨kv, hkv⟩ : ∃ kv, kv = kiW cb := ⟨_, rfl⟩
             have HKV := hd_ hkv
             rw [← hkv]
             clear hkv HIX
             by_cases hpos : 0 < kv
             · obtain ⟨nl, hka, hsf⟩ := kiW_pos (b := cb) (by rw [← HKV.out]; exact hpos)
               have hkr := kiW_some hka
               rw [← HKV.out] at hkr hka
               have hwu : IntKind.u8.wrap kv = kv := by
                have hh : kv = 1 ∨ kv = 2 ∨ kv = 3 ∨ kv = 4 ∨ kv = 5 := by omega
                rcases hh with h | h | h | h | h <;> rw [h] <;> rfl
               have hcr : colR v = some ⟨bsO ca, kv, nl⟩ := by
                unfold colR
                rw [HCC.out]
                simp [hka]
               have HCO2 : Hid (colsR (cs.take (j + 1)) = some (dn ++ [⟨bsO ca, kv, nl⟩]) ∧ ∀ c ∈ dn ++ [⟨bsO ca, kv, nl⟩], c.wf) := by
                refine ⟨by rw [HTK.out]; exact colsR_app _ _ _ _ HCO.out.1 hcr, fun c hc => ?_⟩
                rcases List.mem_append.1 hc with hc | hc
                · exact HCO.out.2 c hc
                · simp only [List.mem_singleton] at hc; subst hc; exact colR_wf (by have := HVL.out; omega) hcr
               have hdec : decide (0 < kv) = true := decide_eq_true hpos
               rw [hsf]
               obtain ⟨y0, y1, y2, y3, y4⟩ := blk5 HA6.out
               have hla := HA6.out.lt
               clear hka hkr hcr
               go_wp2_with fail
               refine (need_yes _).mono ?_
               rintro r w8 ⟨rfl, rfl⟩
               have hown6 := HO6.out
               go_wp2_with (at_builtin; refine wpList_append_own _ rfl _ _ 64 rfl W2.heap.size 111 ic _ 3 24 Tryz.underlying64 hic hc0 hc1 hc2 rfl (by decide) (.slice rA j rc) j (ccells dn) rfl (World.ownsRow.alloc hown6 _) ⟨w8.heap.size, 0, none⟩ 1 1 [.string (bsO ca), .int .u8 kv, .bool nl] rfl rfl ?k1 ?k2 ?k3 ?k4 ?k5 ?_)
               case k1 =>
                have hq := Blk.new w8 #[.string (bsO ca), .int .u8 kv, .bool nl] 111
                have q0 := hq.cell 0
                have q1 := hq.cell 1
                have q2 := hq.cell 2
                intro i u hu
                match i, hu with
                | 0, hu => simp at hu; subst hu; exact q0
                | 1, hu => simp at hu; subst hu; exact q1
                | 2, hu => simp at hu; subst hu; exact q2
               case k2 => simp [Value.oneCell']
               case k3 => simp only [maxLen]; omega
               case k4 => omega
               case k5 => simp; omega
               intro v8 w9 hown9 hg9 _
               obtain ⟨g8, c8, rfl, hbg8, _⟩ := hown9.form (by omega)
               have hgn : ∀ b, b < W2.heap.size → (Value.slice rA j rc).ownBlock ≠ some b := fun b hb e => by have := own_ge hown6 b e; omega
               have hA9 := blk_grown (HA6.out.old (.cells #[.string (bsO ca), .int .u8 kv, .bool nl] 111)) hg9 (hgn a1 hl2)
               have hR9 := blk_grown (HR6.out.old (.cells #[.string (bsO ca), .int .u8 kv, .bool nl] 111)) hg9 (hgn w.heap.size hr2)
               have hW9 : WRow w9 g (t :: nm :: x :: y :: z :: cs) := blk_grown (Blk.old HW6.out (.cells #[.string (bsO ca), .int .u8 kv, .bool nl] 111)) hg9 (hgn g (by have := HW2L.out; omega))
               have hb9 : Below w.heap.size w w9 := (HB6.out.alloc HB6.out.size (.cells #[.string (bsO ca), .int .u8 kv, .bool nl] 111)).grown hg9 (by have := HB6.out.size; simp; omega) (fun b hb => by have := own_ge hown6 b hb; omega)
               have hs9 : W2.heap.size ≤ w9.heap.size := Nat.le_trans hs6 (Nat.le_trans (by simp) hg9.size)
               have hmp : ccells (dn ++ [⟨bsO ca, kv, nl⟩]) = ccells dn ++ [.string (bsO ca), .int .u8 kv, .bool nl] := by simp [ccells]
               rw [← hmp] at hown9
               clear hown6 HO6 HA6 HR6 HW6 HB6 hmp y0 y1 y2 y3 y4 hla
               obtain ⟨w10, rfl, lt10⟩ := blk_put hA9
               obtain ⟨pc, pf, pS⟩ := putBlk_facts (w := w10) 66 lt10
               have HF := hd_ (And.intro (own_putlt hown9 hl2 #[.string (bsO nm), .slice (some ⟨g8, 0, none⟩) (j + 1) c8, .int .i64 kk, .int .i64 rr, .int .i64 pp]) (And.intro (putBlk_blk (w := w10) (b := a1) #[.string (bsO nm), .slice (some ⟨g8, 0, none⟩) (j + 1) c8, .int .i64 kk, .int .i64 rr, .int .i64 pp] 66 lt10) (And.intro (putBlk_old hR9 (Ne.symm hneR) #[.string (bsO nm), .slice (some ⟨g8, 0, none⟩) (j + 1) c8, .int .i64 kk, .int .i64 rr, .int .i64 pp]) (And.intro (show WRow (putBlk w10 a1 #[.string (bsO nm), .slice (some ⟨g8, 0, none⟩) (j + 1) c8, .int .i64 kk, .int .i64 rr, .int .i64 pp] 66) g (t :: nm :: x :: y :: z :: cs) from putBlk_old hW9 hneG #[.string (bsO nm), .slice (some ⟨g8, 0, none⟩) (j + 1) c8, .int .i64 kk, .int .i64 rr, .int .i64 pp]) (And.intro (putBlk_belows hb9 hwa #[.string (bsO nm), .slice (some ⟨g8, 0, none⟩) (j + 1) c8, .int .i64 kk, .int .i64 rr, .int .i64 pp]) (show W2.heap.size ≤ (putBlk w10 a1 #[.string (bsO nm), .slice (some ⟨g8, 0, none⟩) (j + 1) c8, .int .i64 kk, .int .i64 rr, .int .i64 pp] 66).heap.size by rw [putBlk_size] at hs9 ⊢; exact hs9))))))
               clear hown9 hg9 hgn hA9 hR9 hW9 hb9 hs9
               go_wp2_with fail
               clear pc pf pS
               go_roundw
               case rel =>
                obtain ⟨h1, h2, h3, h4, h5, h6⟩ := HF.out
                exact ⟨j + 1, _, some ⟨g8, 0, none⟩, c8, by omega, by go_num, HCO2, h1, h2, h3, h4, h5, h6⟩
               case measure => simp [intOf]; omega
             · have hN : O = none := by
                have hcn : colR v = none := by
                 unfold colR
                 rw [HCC.out]
                 cases hka : kindAt cb with
                 | none => simp [hka]
                 | some kn =>
                  obtain ⟨k1, n1⟩ := kn
                  have := kiW_some hka
                  rw [← HKV.out] at this
                  omega
                rw [HO.out, colsR_no cs v HMV.out hcn]
               have HN := hd_ hN
               have hdec : decide (0 < kv) = false := decide_eq_false hpos
               clear hN
               go_wp2_with fail
               refine (need_no _).mono ?_
               rintro r w8 ⟨rfl, rfl⟩
               unfold gaveW
               go_wp2_with fail
               exact ⟨rfl, by rw [HN.out]; rfl, HB6.out⟩
          · obtain rfl : j = cs.length := by omega
            have hco := HCO.out.1
            rw [List.take_length] at hco
            have hln := colsR_len _ _ hco
            have hN : O = some ⟨bsO nm, dn, kk, rr, pp, none, 0⟩ := by rw [HO.out, hco]
            have HN := hd_ hN
            have HPB : Hid (∀ p, rA = some p → w.heap.size ≤ p.block) := fun p hp => by subst hp; have := own_ge hown p.block rfl; omega
            clear hN hco
            obtain ⟨w9, rfl, lt9⟩ := blk_put HRr.out
            obtain ⟨pc, pf, pS⟩ := putBlk_facts (w := w9) 66 lt9
            obtain ⟨y0, y1, y2, y3, y4⟩ := blk5 HAr.out
            have hla := HAr.out.lt
            have HBF := hd_ (putBlk_belows hbw (Nat.le_refl _) #[.string (bsO nm), .slice rA cs.length rc, .int .i64 kk, .int .i64 rr, .int .i64 pp])
            have HVF := hd_ (CRow.of_own HCO.out.2 (by omega) hln.symm (own_putlt hown hr2 #[.string (bsO nm), .slice rA cs.length rc, .int .i64 kk, .int .i64 rr, .int .i64 pp]))
            clear hown hbw HRr HAr
            go_wp2_with fail
            refine bodyPost_ret (v := .agg (Ta.cells ⟨bsO nm, dn, kk, rr, pp, rA, rc⟩)) (by simp [results, Tryz.results90, go_sem, Ta.cells, pc, hln]) rfl ?_
            refine ⟨?_, HBF.out⟩
            rw [HN.out]
            exact ⟨rA, rc, rfl, HVF.out, HPB.out⟩
      all_goals
       intro xx w4 hb4
       have hbw4 := bt HBW.out hb4
       have hrow4 := HROW.out.ext hb4
       have e1 := hrow4.at_ (j := 1) (x := nm) rfl
       have e2 := hrow4.at_ (j := 2) (x := x) rfl
       have e3 := hrow4.at_ (j := 3) (x := y) rfl
       have e4 := hrow4.at_ (j := 4) (x := z) rfl
       have hgl := hrow4.lt
       have i1 : (1 : Int) < (cs.length : Int) + 1 + 1 + 1 + 1 + 1 := by omega
       have i2 : (2 : Int) < (cs.length : Int) + 1 + 1 + 1 + 1 + 1 := by omega
       have i3 : (3 : Int) < (cs.length : Int) + 1 + 1 + 1 + 1 + 1 := by omega
       have i4 : (4 : Int) < (cs.length : Int) + 1 + 1 + 1 + 1 + 1 := by omega
       first
        | (intro K hK
           rw [if_pos (by rfl)]; simp only [overlay, upd, cond_true, cond_false, List.getD_cons_zero, List.getD_cons_succ, Nat.reduceEqDiff, reduceIte]
           go_simp
           first
            | exact hK.out _ _ (Below.refl _ _) rfl
            | exact hK.out _ _ (by repeat (first | exact Below.refl _ _ | assumption | refine Below.drew ?_ | refine below_drewN ?_ _ | refine Below.alloc ?_ (by simp <;> omega) _)) ⟨_, rfl, hb4.size, Blk.new _ _ _⟩
            | (with_reducible refine (HLG.out x (HWL.out x (by simp)) _ hbw4).mono ?_
               cases hv : longZ x with
               | none =>
                rintro e wa ⟨rfl, hba⟩
                have hN : O = none := by
                 rw [HR.out]
                 split
                 · simp_all
                 · rfl
                have HN := hd_ hN
                simp only [Option.map_none, orGave]
                unfold gaveW
                clear hN hv
                go_wp2_with fail
                exact ⟨rfl, by rw [HN.out]; rfl, hbw4.trans (hba.mono hbw4.size)⟩
               | some n =>
                rintro e wa ⟨rfl, hba⟩
                simp only [Option.map_some, orGave]
                go_wp2_with fail
                exact hK.out _ _ hba ⟨n, hv, rfl⟩))
        | (intro v hv K hK
           rw [if_pos (by rfl)]; simp only [overlay, upd, cond_true, cond_false, List.getD_cons_zero, List.getD_cons_succ, Nat.reduceEqDiff, reduceIte]
           go_simp
           first
            | (with_reducible refine (HLG.out y (HWL.out y (by simp)) _ hbw4).mono ?_
               cases hv : longZ y with
               | none =>
                rintro e wa ⟨rfl, hba⟩
                have hN : O = none := by
                 rw [HR.out]
                 split
                 · simp_all
                 · rfl
                have HN := hd_ hN
                simp only [Option.map_none, orGave]
                unfold gaveW
                clear hN hv
                go_wp2_with fail
                exact ⟨rfl, by rw [HN.out]; rfl, hbw4.trans (hba.mono hbw4.size)⟩
               | some n =>
                rintro e wa ⟨rfl, hba⟩
                simp only [Option.map_some, orGave]
                go_wp2_with fail
                exact hK.out _ _ hba ⟨n, hv, rfl⟩)
            | (with_reducible refine (HLG.out z (HWL.out z (by simp)) _ hbw4).mono ?_
               cases hv : longZ z with
               | none =>
                rintro e wa ⟨rfl, hba⟩
                have hN : O = none := by
                 rw [HR.out]
                 split
                 · simp_all
                 · rfl
                have HN := hd_ hN
                simp only [Option.map_none, orGave]
                unfold gaveW
                clear hN hv
                go_wp2_with fail
                exact ⟨rfl, by rw [HN.out]; rfl, hbw4.trans (hba.mono hbw4.size)⟩
               | some n =>
                rintro e wa ⟨rfl, hba⟩
                simp only [Option.map_some, orGave]
                go_wp2_with fail
                exact hK.out _ _ hba ⟨n, hv, rfl⟩))
        | (rintro v ⟨k1, hk1, rfl⟩ v2 ⟨k2, hk2, rfl⟩ v3 ⟨k3, hk3, rfl⟩ K hK
           rw [if_pos (by rfl)]; simp only [overlay, upd, cond_true, cond_false, List.getD_cons_zero, List.getD_cons_succ, Nat.reduceEqDiff, reduceIte]
           go_simp
           exact hK.out _ _ (Below.refl _ _) ⟨k1, k2, k3, ⟨hk1, hk2, hk3⟩, rfl⟩)
    · have hcmp : ((bsO t).toList == [116, 97, 98, 108, 101]) = false := by
       refine Bool.eq_false_iff.2 fun e => htt ?_
       rw [ByteArray.toList_eq] at e
       simpa [bsO, tTable] using e
      have hN : O = none := by rw [HR.out, tabR_five, if_neg htt]
      have HN := hd_ hN
      clear hN hrow1 htt
      go_wp2_with fail
      refine (need_no _).mono ?_
      rintro r w3 ⟨rfl, rfl⟩
      unfold gaveW
      go_wp2_with fail
      exact ⟨rfl, by rw [HN.out]; rfl, HBW.out⟩
end Go.Proofs.YtfekohonidggjaaGreatDoor
