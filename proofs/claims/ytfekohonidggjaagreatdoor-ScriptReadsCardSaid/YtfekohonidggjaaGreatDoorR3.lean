/- Joined texts. -/
import Derived.Test.YtfekohonidggjaaGreatDoorR2
import Derived.Test.YtfekohonidggjaaGreatDoorB32
namespace Go.Proofs.YtfekohonidggjaaGreatDoor
open Go.RowKit
set_option maxRecDepth 100000
set_option maxHeartbeats 6400000
theorem refreadact_any (s : ByteArray) (hs : s.size < 1000000) (w : World) (hL : LayS w) :
  Calls Tryz.prog 20 #[.string s] w fun r w' => RActP (readA s.data.toList) w.heap.size r w' ∧ Below w.heap.size w w' := by
 have hb0 : Below w.heap.size w (w.alloc (.cells #[.int .u8 0, .int .u8 0, .int .i64 0, .slice none 0 0, .int .i64 0, .int .i64 0, .int .i64 0, .string ⟨#[]⟩] 42)) := bel1 _ _
 have HZ0 := hd_ (Blk.new w #[.int .u8 0, .int .u8 0, .int .i64 0, .slice none 0 0, .int .i64 0, .int .i64 0, .int .i64 0, .string ⟨#[]⟩] 42)
 have HB0 := hd_ hb0
 have HL := hd_ hL
 have HWD := hd_ (refwords_any s (by omega) (w.alloc (.cells #[.int .u8 0, .int .u8 0, .int .i64 0, .slice none 0 0, .int .i64 0, .int .i64 0, .int .i64 0, .string ⟨#[]⟩] 42)))
 clear hb0 hL
 go_enter Tryz.func20, Tryz.ntmps20
 go_wp2_with fail
 refine HWD.out.mono ?_
 rintro r w1 ⟨hr, hb1⟩
 rcases hr with ⟨ws, sv, hws, rfl, hown⟩ | ⟨sv, hws, rfl⟩
 · have hsl : s.data.toList.length = s.size := by simp
   obtain ⟨hne, _, hjn⟩ := wordsF_some.1 hws
   have hsz : ∀ y ∈ ws, y.length ≤ 4294967280 := fun y hy => by
    have := jn_len 32 ws y hy
    rw [hjn] at this
    omega
   have hlw : ws.length ≤ 1000000 := by
    have := jn_ge 32 ws
    rw [hjn] at this
    omega
   obtain ⟨x, rest, rfl⟩ : ∃ x rest, ws = x :: rest := by
    cases ws with
    | nil => exact absurd rfl hne
    | cons x rest => exact ⟨x, rest, rfl⟩
   obtain ⟨g, cap, rfl, _, hglt⟩ := hown.form (by simp)
   have hwr : WRo w1 g (x :: rest) := ⟨hglt, fun j y hj => by
    have hc := hown.cells (g := g) rfl j (.string (bsO y)) (by unfold wsC; rw [List.getElem?_map, hj]; rfl)
    rw [addr_addS, Nat.zero_add] at hc
    exact hc⟩
   have HROP := hd_ (refreadop_any x rest (by simp at hlw; omega) hsz g cap w1 hwr (HL.out.ext (bt HB0.out hb1)))
   have HWS := hd_ hws
   have HSZ := hd_ hsz
   have HWR := hd_ hwr
   have HZ1 := hd_ (HZ0.out.ext hb1)
   have HB1 := hd_ (bt HB0.out hb1)
   clear hws hwr hown hne hjn hsz hb1 HZ0 HB0 HWD
   simp only [List.length_cons] at hlw ⊢
   go_wp2_with fail
   refine HROP.out.mono ?_
   rintro r w2 ⟨hr, hb2⟩
   rcases hr with ⟨k0, a, P, pc, ho, hop, rfl, hvr, hpb⟩ | ⟨hno, d, k, tb, P, ln, pc, n, m, q, nm, rfl⟩
   · have hra := readA_op HWS.out ho hop
     have HRA := hd_ hra
     obtain ⟨haw, hat⟩ := (readA_some (by omega)).1 hra
     obtain ⟨d, k, tb, row, n, m, q, nm⟩ := a
     unfold Ac.agg
     simp only at hvr ⊢
     have hbn : Below w2.heap.size w2 (w2.alloc (.cells #[.int .u8 d, .int .u8 k, .int .i64 tb, .slice P row.length pc, .int .i64 n, .int .i64 m, .int .i64 q, .string nm] 42)) := bel1 _ _
     have HB3 := hd_ (bt HB1.out (bt hb2 hbn))
     have HZ3 := hd_ (HZ1.out.ext (bt hb2 hbn))
     have HA3 := hd_ (Blk.new w2 #[.int .u8 d, .int .u8 k, .int .i64 tb, .slice P row.length pc, .int .i64 n, .int .i64 m, .int .i64 q, .string nm] 42)
     have HV3 := hd_ (hvr.ext hbn)
     have HAC := hd_ (refact_any ⟨d, k, tb, row, n, m, q, nm⟩ haw P pc _ HV3.out (HL.out.ext HB3.out))
     rw [hat] at HAC
     unfold actP Ac.agg at HAC
     simp only at HAC
     rw [show bsO s.data.toList = s from rfl] at HAC
     have HPB : Hid (∀ p, P = some p → w.heap.size < p.block) := fun p hp => by have := hpb p hp; have := HZ1.out.lt; omega
     have hlz : w.heap.size < w2.heap.size := (HZ1.out.ext hb2).lt
     clear hra hat haw hbn hb2 hvr hpb ho hop HROP
     go_upto_region 5 with fail
     generalize w2.alloc (.cells #[.int .u8 d, .int .u8 k, .int .i64 tb, .slice P row.length pc, .int .i64 n, .int .i64 m, .int .i64 q, .string nm] 42) = w3 at HB3 HZ3 HA3 HV3 HAC ⊢
     obtain ⟨y8, y0, y1, y2, y3, y4, y5, y6, y7⟩ := blkA HA3.out
     go_wp2_with fail
     refine HAC.out.mono ?_
     rintro r w4 ⟨rfl, hb4⟩
     have HB4 := hd_ (bt HB3.out hb4)
     have HZ4 := hd_ (HZ3.out.ext hb4)
     have HA4 := hd_ (HA3.out.ext hb4)
     have HV4 := hd_ (HV3.out.ext hb4)
     clear hb4 HAC HB3 HZ3 HA3 HV3 y8 y0 y1 y2 y3 y4 y5 y6 y7
     obtain ⟨y8, y0, y1, y2, y3, y4, y5, y6, y7⟩ := blkA HA4.out
     obtain ⟨wz, rfl, lt⟩ := blk_put HZ4.out
     obtain ⟨pc', pf, pS⟩ := putBlk_facts (w := wz) 42 lt
     have HBF := hd_ (putBlk_belows HB4.out (Nat.le_refl _) #[.int .u8 d, .int .u8 k, .int .i64 tb, .slice P row.length pc, .int .i64 n, .int .i64 m, .int .i64 q, .string nm])
     have HVF : Hid (VRow (putBlk wz w.heap.size #[.int .u8 d, .int .u8 k, .int .i64 tb, .slice P row.length pc, .int .i64 n, .int .i64 m, .int .i64 q, .string nm] 42) P row) := by
      have h := VRow.putAt HV4.out w.heap.size #[.int .u8 d, .int .u8 k, .int .i64 tb, .slice P row.length pc, .int .i64 n, .int .i64 m, .int .i64 q, .string nm] 42 HPB.out
      rw [putputS] at h
      exact h
     clear HB4 HZ4 HA4 HV4
     go_wp2_with fail
     refine bodyPost_ret (v := .tuple #[.agg #[.int .u8 d, .int .u8 k, .int .i64 tb, .slice P row.length pc, .int .i64 n, .int .i64 m, .int .i64 q, .string nm], .int .i64 0]) (by simp [results, Tryz.results20, go_sem, pc']) rfl ?_
     refine ⟨?_, HBF.out⟩
     rw [HRA.out]
     exact ⟨P, pc, rfl, HVF.out, fun p hp => Nat.le_of_lt (HPB.out p hp)⟩
   · have HNO := hd_ hno
     have hbn : Below w2.heap.size w2 (w2.alloc (.cells #[.int .u8 d, .int .u8 k, .int .i64 tb, .slice P ln pc, .int .i64 n, .int .i64 m, .int .i64 q, .string nm] 42)) := bel1 _ _
     have HB3 := hd_ (bt HB1.out (bt hb2 hbn))
     have HZ3 := hd_ (HZ1.out.ext (bt hb2 hbn))
     have HW3 := hd_ (HWR.out.ext (bt hb2 hbn))
     have hA3 := Blk.new w2 #[.int .u8 d, .int .u8 k, .int .i64 tb, .slice P ln pc, .int .i64 n, .int .i64 m, .int .i64 q, .string nm] 42
     have hlz : w.heap.size < w2.heap.size := (HZ1.out.ext hb2).lt
     have hlg : g < w2.heap.size := (HWR.out.ext hb2).1
     clear hno hbn hb2 HROP HZ1 HB1 HWR
     go_upto_region 5 with fail
     generalize w2.alloc (.cells #[.int .u8 d, .int .u8 k, .int .i64 tb, .slice P ln pc, .int .i64 n, .int .i64 m, .int .i64 q, .string nm] 42) = w3 at HB3 HZ3 HW3 hA3 ⊢
     generalize w2.heap.size = b6 at hA3 hlz hlg ⊢
     obtain ⟨w4, rfl, lt⟩ := blk_put hA3
     obtain ⟨pc', pf, pS⟩ := putBlk_facts (w := w4) 42 lt
     have HA4 := hd_ (putBlk_blk (w := w4) (b := b6) #[.int .u8 0, .int .u8 0, .int .i64 0, .slice none 0 0, .int .i64 0, .int .i64 0, .int .i64 0, .string ⟨#[]⟩] 42 lt)
     have HZ4 := hd_ (putBlk_old HZ3.out (by omega) #[.int .u8 0, .int .u8 0, .int .i64 0, .slice none 0 0, .int .i64 0, .int .i64 0, .int .i64 0, .string ⟨#[]⟩])
     have HB4 := hd_ (putBlk_belows HB3.out (by omega) #[.int .u8 0, .int .u8 0, .int .i64 0, .slice none 0 0, .int .i64 0, .int .i64 0, .int .i64 0, .string ⟨#[]⟩])
     have HW4 : Hid (WRo (putBlk w4 b6 #[.int .u8 0, .int .u8 0, .int .i64 0, .slice none 0 0, .int .i64 0, .int .i64 0, .int .i64 0, .string ⟨#[]⟩] 42) g (x :: rest)) := ⟨by have := HW3.out.1; rw [putBlk_size] at this ⊢; exact this, fun j y hj => (putBlk_cell_ne (by omega) _ _ _ _).trans (HW3.out.2 j y hj)⟩
     clear hA3 HB3 HZ3 HW3
     go_upto_region 7 with fail
     clear pc' pf pS lt
     generalize putBlk w4 b6 #[.int .u8 0, .int .u8 0, .int .i64 0, .slice none 0 0, .int .i64 0, .int .i64 0, .int .i64 0, .string ⟨#[]⟩] 42 = w5 at HA4 HZ4 HB4 HW4 ⊢
     go_wp2_with fail
     have HKD := hd_ (fun (v : Int) (hv : 0 ≤ v ∧ v ≤ 255) (W : World) => refkind_any v hv W)
     have hd1 : dkW x (1 : Nat) = 0 := by
      unfold dkW
      cases hf : formAt x with
      | none => rfl
      | some y =>
       obtain ⟨d0, c0, f0⟩ := y
       have := formAt_rg hf
       simp only
       rw [if_neg (by omega)]
     go_loopw [8] (fun v wr => ∃ j : Nat, (1 ≤ j ∧ j ≤ 17) ∧ v = .int .u8 j ∧ Hid (Blk wr w.heap.size #[.int .u8 0, .int .u8 0, .int .i64 0, .slice none 0 0, .int .i64 0, .int .i64 0, .int .i64 0, .string ⟨#[]⟩] 42) ∧ Hid (Blk wr b6 #[.int .u8 (dkW x j), .int .u8 0, .int .i64 0, .slice none 0 0, .int .i64 0, .int .i64 0, .int .i64 0, .string ⟨#[]⟩] 42) ∧ Hid (WRo wr g (x :: rest)) ∧ Below w.heap.size w wr) (fun v _ => 17 - (intOf v).toNat)
     case atStart => exact ⟨1, by omega, rfl, HZ4.out, (by show Blk _ _ _ _; rw [hd1]; exact HA4.out), HW4.out, HB4.out⟩
     case round =>
      obtain ⟨j, ⟨hj1, hj17⟩, rfl, HZr, HAr, HWr, hbw⟩ := hrel
      clear HZ4 HA4 HW4 HB4 hd1
      by_cases hj : j ≤ 16
      · have hjI : (j : Int) ≤ 16 := by omega
        go_wp2_with fail
        refine (HKD.out j (by omega) _).mono ?_
        rintro r w6 ⟨rfl, hb6⟩
        cases hfo : formOf (j : Int) with
        | none =>
         unfold kindV
         simp only
         have hju : IntKind.u8.wrap ((j : Int) + 1) = (j : Int) + 1 := by rw [IntKind.wrap_u8]; omega
         have hdn : dkW x ((j + 1 : Nat) : Int) = dkW x j := by
          unfold dkW
          cases hf : formAt x with
          | none => rfl
          | some y =>
           obtain ⟨d0, c0, f0⟩ := y
           have hk := formAt_rg hf
           have hne : d0 ≠ j := fun e => by rw [e, hfo] at hk; cases hk.1
           simp only
           by_cases h : d0 < j
           · rw [if_pos h, if_pos (by omega)]
           · rw [if_neg h, if_neg (by omega)]
         have hbn : Below w6.heap.size w6 (w6.alloc (.cells #[.string ⟨#[]⟩, .int .i64 0, .bool false] 78)) := bel1 _ _
         have HZ7 := hd_ (HZr.out.ext (bt hb6 hbn))
         have HA7 : Hid (Blk (w6.alloc (.cells #[.string ⟨#[]⟩, .int .i64 0, .bool false] 78)) b6 #[.int .u8 (dkW x ((j + 1 : Nat) : Int)), .int .u8 0, .int .i64 0, .slice none 0 0, .int .i64 0, .int .i64 0, .int .i64 0, .string ⟨#[]⟩] 42) := by
          show Blk _ _ _ _
          rw [hdn]
          exact HAr.out.ext (bt hb6 hbn)
         have HW7 := hd_ (HWr.out.ext (bt hb6 hbn))
         have HB7 := hd_ (bt hbw (bt hb6 hbn))
         clear hbn hb6 hfo hdn HZr HAr HWr hbw
         go_upto_region 11 with fail
         generalize w6.alloc (.cells #[.string ⟨#[]⟩, .int .i64 0, .bool false] 78) = w7 at HZ7 HA7 HW7 HB7 ⊢
         refine region_grow [false, false, false, false, false, false, false, false, false, false, false, false, false, false, false, false, false, false, false, false, false, false, false, false, false, false, false, false, false, false, false, false, false, false, false, false, false, false, false, false, false, false, false, false, true, true, true, true, true, true, true, true, true, false, false, false, false, false, false, false, false, false, false, false, false, false, false, false, false, false, false, false, false, false, false, false, false, false, false, false, false, false, false, false, false, false, false, false, false, false, false, false, false, false, false, false, false, false, false, false, false, false, false, false, false, false, false, false, false, false, false, false, false, false, false, false, false, false, false, false, false, false, false, false, false, false, false, false, false, false] [44, 45, 46, 47, 48, 49, 50, 51, 52] [.val (.bool false), .val (.bool false), kU, kU, kU, kU, kU, kU, .val (.bool false)] [8] (by kernel_rfl) (by kernel_rfl) (by kernel_rfl) (by kernel_rfl) (by kernel_rfl) ⟨?_, ?_, ?_, ?_, ?_, ?_, ?_, ?_, ?_, trivial⟩ ?doneN
         case doneN =>
          intro z w8 hb8
          simp only [StepGoal, overlay, upd, k_1, k_2, k_3, k_4, Nat.zero_add, Nat.reduceAdd, Nat.reduceEqDiff, reduceIte]
          have HZ8 := hd_ (HZ7.out.ext hb8)
          have HA8 := hd_ (HA7.out.ext hb8)
          have HW8 := hd_ (HW7.out.ext hb8)
          have HB8 := hd_ (bt HB7.out hb8)
          clear hb8 HZ7 HA7 HW7 HB7
          go_wp2_with fail
          go_roundw
          case rel => exact ⟨j + 1, by omega, by go_num, HZ8, HA8, HW8, HB8.out⟩
          case measure => simp [intOf]; omega
         all_goals
          intro z w8 hb8
          first
           | (intro K hK
              rw [if_pos (by rfl)]; simp only [overlay, upd, k_1, k_2, k_3, k_4, Nat.reduceEqDiff, reduceIte]
              go_simp
              exact hK.out _ _ (Below.refl _ _) rfl)
           | (intro K hK
              rw [if_neg (by intro e; cases e)]
              exact hK.out undef _ (Below.refl _ _) rfl)
        | some y =>
         obtain ⟨wd, c, f⟩ := y
         unfold kindV
         simp only
         have hju : IntKind.u8.wrap ((j : Int) + 1) = (j : Int) + 1 := by rw [IntKind.wrap_u8]; omega
         have hbn : Below w6.heap.size w6 (w6.alloc (.cells #[.string (bsO wd), .int .i64 c, .bool f] 78)) := bel1 _ _
         have hlg6 : g < w6.heap.size := (HWr.out.ext hb6).1
         have HZ7 := hd_ (HZr.out.ext (bt hb6 hbn))
         have HA7 := hd_ (HAr.out.ext (bt hb6 hbn))
         have HW7 := hd_ (HWr.out.ext (bt hb6 hbn))
         have HB7 := hd_ (bt hbw (bt hb6 hbn))
         have HK7 := hd_ (Blk.new w6 #[.string (bsO wd), .int .i64 c, .bool f] 78)
         have HFO := hd_ hfo
         clear hbn hb6 hfo HZr HAr HWr hbw
         go_upto_region 11 with fail
         generalize w6.alloc (.cells #[.string (bsO wd), .int .i64 c, .bool f] 78) = w7 at HZ7 HA7 HW7 HB7 HK7 ⊢
         generalize w6.heap.size = q9 at HK7 hlg6 ⊢
         refine region_grow [false, false, false, false, false, false, false, false, false, false, false, false, false, false, false, false, false, false, false, false, false, false, false, false, false, false, false, false, false, false, false, false, false, false, false, false, false, false, false, false, false, false, false, false, true, true, true, true, true, true, true, true, true, false, false, false, false, false, false, false, false, false, false, false, false, false, false, false, false, false, false, false, false, false, false, false, false, false, false, false, false, false, false, false, false, false, false, false, false, false, false, false, false, false, false, false, false, false, false, false, false, false, false, false, false, false, false, false, false, false, false, false, false, false, false, false, false, false, false, false, false, false, false, false, false, false, false, false, false, false] [44, 45, 46, 47, 48, 49, 50, 51, 52] [.val (.bool true), .val (.bool true), .val (.pointer (some ⟨q9, 0, none⟩)), .val (.string (bsO wd)), .val (.slice (some ⟨g, 0, none⟩) (rest.length + 1) cap), .val (.pointer (some ⟨g, 0, none⟩)), .val (.string (bsO x)), .val (.bool (decide (wd = x))), .val (.bool (decide (wd = x)))] [8] (by kernel_rfl) (by kernel_rfl) (by kernel_rfl) (by kernel_rfl) (by kernel_rfl) ⟨?_, ?_, ?_, ?_, ?_, ?_, ?_, ?_, ?_, trivial⟩ ?doneS
         case doneS =>
          intro z w8 hb8
          simp only [StepGoal, overlay, upd, k_1, k_2, k_3, k_4, Nat.zero_add, Nat.reduceAdd, Nat.reduceEqDiff, reduceIte]
          have HZ8 := hd_ (HZ7.out.ext hb8)
          have hA8 := HA7.out.ext hb8
          have HW8 := hd_ (HW7.out.ext hb8)
          have hB8 := bt HB7.out hb8
          clear hb8 HZ7 HA7 HW7 HB7 HK7
          by_cases hx : wd = x
          · rw [decide_eq_true hx]
            have hdj : dkW x ((j + 1 : Nat) : Int) = j := by
             have hf := (formAt_of HFO.out).1
             rw [hx] at hf
             unfold dkW
             rw [hf]
             simp only
             rw [if_pos (by omega)]
            obtain ⟨w9, rfl, lt⟩ := blk_put hA8
            obtain ⟨pc', pf, pS⟩ := putBlk_facts (w := w9) 42 lt
            have HZ9 := hd_ (putBlk_old HZ8.out (by omega) #[.int .u8 j, .int .u8 0, .int .i64 0, .slice none 0 0, .int .i64 0, .int .i64 0, .int .i64 0, .string ⟨#[]⟩])
            have HA9 : Hid (Blk (putBlk w9 b6 #[.int .u8 j, .int .u8 0, .int .i64 0, .slice none 0 0, .int .i64 0, .int .i64 0, .int .i64 0, .string ⟨#[]⟩] 42) b6 #[.int .u8 (dkW x ((j + 1 : Nat) : Int)), .int .u8 0, .int .i64 0, .slice none 0 0, .int .i64 0, .int .i64 0, .int .i64 0, .string ⟨#[]⟩] 42) := by
             show Blk _ _ _ _
             rw [hdj]
             exact putBlk_blk _ _ lt
            have HB9 := hd_ (putBlk_belows hB8 (by omega) #[.int .u8 j, .int .u8 0, .int .i64 0, .slice none 0 0, .int .i64 0, .int .i64 0, .int .i64 0, .string ⟨#[]⟩])
            have HW9 : Hid (WRo (putBlk w9 b6 #[.int .u8 j, .int .u8 0, .int .i64 0, .slice none 0 0, .int .i64 0, .int .i64 0, .int .i64 0, .string ⟨#[]⟩] 42) g (x :: rest)) := ⟨by have := HW8.out.1; rw [putBlk_size] at this ⊢; exact this, fun j y hj => (putBlk_cell_ne (by omega) _ _ _ _).trans (HW8.out.2 j y hj)⟩
            clear hA8 hB8 HZ8 HW8 hdj hx
            go_wp2_with fail
            clear pc' pf pS lt
            go_roundw
            case rel => exact ⟨j + 1, by omega, by go_num, HZ9, HA9, HW9, HB9.out⟩
            case measure => simp [intOf]; omega
          · rw [decide_eq_false hx]
            have hdj : dkW x ((j + 1 : Nat) : Int) = dkW x j := by
             unfold dkW
             cases hf : formAt x with
             | none => rfl
             | some y =>
              obtain ⟨d0, c0, f0⟩ := y
              have hk := formAt_rg hf
              have hne : d0 ≠ j := fun e => by
               have h1 := hk.1
               rw [e, HFO.out] at h1
               injection h1 with h1
               injection h1 with h1 _
               exact hx h1
              simp only
              by_cases h : d0 < j
              · rw [if_pos h, if_pos (by omega)]
              · rw [if_neg h, if_neg (by omega)]
            have HA9 : Hid (Blk w8 b6 #[.int .u8 (dkW x ((j + 1 : Nat) : Int)), .int .u8 0, .int .i64 0, .slice none 0 0, .int .i64 0, .int .i64 0, .int .i64 0, .string ⟨#[]⟩] 42) := by
             show Blk _ _ _ _
             rw [hdj]
             exact hA8
            have HB9 := hd_ hB8
            clear hA8 hB8 hdj hx
            go_wp2_with fail
            go_roundw
            case rel => exact ⟨j + 1, by omega, by go_num, HZ8, HA9, HW8, HB9.out⟩
            case measure => simp [intOf]; omega
         all_goals
          intro z w8 hb8
          have hk8 := HK7.out.ext hb8
          have hw8 := HW7.out.ext hb8
          have k0 := hk8.cell 0
          simp only [List.getElem?_toArray, List.getElem?_cons_zero] at k0
          have kl := hk8.lt
          have g0 := hw8.2 0 x rfl
          have gl := hw8.1
          have h01 : (0 : Int) < (rest.length : Int) + 1 := by omega
          have hcmp : ((bsO wd).toList == (bsO x).toList) = decide (wd = x) := str_eqb
          first
           | (intro K hK
              rw [if_pos (by rfl)]; simp only [overlay, upd, k_1, k_2, k_3, k_4, Nat.reduceEqDiff, reduceIte]
              go_simp
              exact hK.out _ _ (Below.refl _ _) rfl)
      · obtain rfl : j = 17 := by omega
        have hj17I : ¬ (((17 : Nat) : Int)) ≤ 16 := by omega
        have hdr := dkW_rg x
        have HC : Hid (∀ u v t : Int, numV (cutW (kfW (dkW x ((17 : Nat) : Int))) rest) 0 u → numV (cutW (kfW (dkW x ((17 : Nat) : Int))) rest) 1 v → numV (cutW (kfW (dkW x ((17 : Nat) : Int))) rest) 2 t → ∀ b : Ac, readA s.data.toList = some b → b = ⟨dkW x ((17 : Nat) : Int), 0, 0, [], u, v, t, bsO (nmW (kfW (dkW x ((17 : Nat) : Int))) rest)⟩) := fun u v t hu hv ht b h => cand_of HWS.out HNO.out hu hv ht h
        generalize dkW x ((17 : Nat) : Int) = d0 at hdr HAr HC
        obtain ⟨kw, kc, ki, hkv⟩ : ∃ kw kc ki, kindV (formOf d0) = .tuple #[.agg #[.string kw, .int .i64 kc, .bool (kfW d0)], .bool ki] := by
         unfold kfW
         cases formOf d0 with
         | none => exact ⟨_, 0, false, rfl⟩
         | some y => exact ⟨_, _, true, rfl⟩
        have HK0 := hd_ (fun (W : World) => HKD.out d0 (by omega) W)
        rw [hkv] at HK0
        have HNML : Hid ((nmW (kfW d0) rest).length ≤ 4294967280) := nmW_len (fun y hy => HSZ.out y (by simp [hy]))
        have HCL : Hid ((cutW (kfW d0) rest).length ≤ 1000000) := Nat.le_trans (cutW_len _ _) (by omega)
        clear hkv HKD hj hj1 hj17
        generalize kfW d0 = kf at HC HK0 HNML HCL
        obtain ⟨y8, y0, y1, y2, y3, y4, y5, y6, y7⟩ := blkA HAr.out
        go_wp2_with fail
        refine (HK0.out _).mono ?_
        rintro r w6 ⟨rfl, hb6⟩
        have hbn : Below w6.heap.size w6 (w6.alloc (.cells #[.string kw, .int .i64 kc, .bool kf] 78)) := bel1 _ _
        have HZ7 := hd_ (HZr.out.ext (bt hb6 hbn))
        have HA7 := hd_ (HAr.out.ext (bt hb6 hbn))
        have HW7 := hd_ (HWr.out.ext (bt hb6 hbn))
        have HB7 := hd_ (bt hbw (bt hb6 hbn))
        have HF7 := hd_ (Blk.new w6 #[.string kw, .int .i64 kc, .bool kf] 78)
        clear hbn hb6 HZr HAr HWr hbw HK0 y8 y0 y1 y2 y3 y4 y5 y6 y7
        go_upto_region 14 with fail
        generalize w6.alloc (.cells #[.string kw, .int .i64 kc, .bool kf] 78) = w7 at HZ7 HA7 HW7 HB7 HF7 ⊢
        generalize w6.heap.size = q9 at HF7 ⊢
        obtain ⟨cb, hcb⟩ : ∃ cb, cb = (kf && decide (rest.length = 4)) := ⟨_, rfl⟩
        have HCB := hd_ hcb
        clear hcb
        go_cut [67] (fun v wx => v = .bool cb ∧ wx = w7)
        case first =>
         have f2 := HF7.out.cell 2
         have f9 := HF7.out.lt
         simp only [List.getElem?_toArray, List.getElem?_cons_zero, List.getElem?_cons_succ] at f2
         cases kf with
         | true =>
          by_cases h4 : rest.length = 4
          · have h4I : ((rest.length : Int) + 1 = 5) := by omega
            have h4B : ((rest.length : Int) + 1 == 5) = true := by simp [h4I]
            go_wp2_with fail
            go_meet
            exact ⟨by rw [HCB.out]; simp [h4], rfl⟩
          · have h4I : ¬ ((rest.length : Int) + 1 = 5) := by omega
            have h4B : ((rest.length : Int) + 1 == 5) = false := by simpa using h4I
            go_wp2_with fail
            go_meet
            exact ⟨by rw [HCB.out]; simp [h4], rfl⟩
         | false =>
          go_wp2_with fail
          go_meet
          exact ⟨by rw [HCB.out]; rfl, rfl⟩
        case rest =>
         obtain ⟨rfl, rfl⟩ := hcut
         clear HF7
         have HCW := hd_ (cutW_no (f := kf) (l := rest))
         go_upto_if 67 with fail
         go_cut [4] (fun v wx => ∃ g' cap', v = .slice (some ⟨g', 0, none⟩) ((cutW kf rest).length + 1) cap' ∧ Hid (WRo wx g' (x :: cutW kf rest)) ∧ Hid (Blk wx b6 #[.int .u8 d0, .int .u8 0, .int .i64 0, .slice none 0 0, .int .i64 0, .int .i64 0, .int .i64 0, .string (bsO (nmW kf rest))] 42) ∧ Hid (Blk wx w.heap.size #[.int .u8 0, .int .u8 0, .int .i64 0, .slice none 0 0, .int .i64 0, .int .i64 0, .int .i64 0, .string ⟨#[]⟩] 42) ∧ Hid (Below w.heap.size w wx))
         case first =>
          cases cb with
          | true =>
           have hcnd := HCB.out.symm
           simp only [Bool.and_eq_true, decide_eq_true_eq] at hcnd
           obtain ⟨rfl, h4⟩ := hcnd
           clear HCB
           obtain ⟨p1, p2, p3, p4, rfl⟩ : ∃ p1 p2 p3 p4, rest = [p1, p2, p3, p4] := by
            match rest, h4 with
            | [p1, p2, p3, p4], _ => exact ⟨p1, p2, p3, p4, rfl⟩
           simp only [List.length_cons, List.length_nil, Nat.zero_add, Nat.reduceAdd]
           obtain ⟨w8, rfl, lt⟩ := blk_put HA7.out
           obtain ⟨pc, pf, pS⟩ := putBlk_facts (w := w8) 42 lt
           have HA8 := hd_ (putBlk_blk (w := w8) (b := b6) #[.int .u8 d0, .int .u8 0, .int .i64 0, .slice none 0 0, .int .i64 0, .int .i64 0, .int .i64 0, .string (bsO p2)] 42 lt)
           have HZ8 := hd_ (putBlk_old HZ7.out (by omega) #[.int .u8 d0, .int .u8 0, .int .i64 0, .slice none 0 0, .int .i64 0, .int .i64 0, .int .i64 0, .string (bsO p2)])
           have HB8 := hd_ (putBlk_belows HB7.out (by omega) #[.int .u8 d0, .int .u8 0, .int .i64 0, .slice none 0 0, .int .i64 0, .int .i64 0, .int .i64 0, .string (bsO p2)])
           have HW8 : Hid (WRo (putBlk w8 b6 #[.int .u8 d0, .int .u8 0, .int .i64 0, .slice none 0 0, .int .i64 0, .int .i64 0, .int .i64 0, .string (bsO p2)] 42) g [x, p1, p2, p3, p4]) := ⟨by have := HW7.out.1; rw [putBlk_size] at this ⊢; exact this, fun j y hj => (putBlk_cell_ne (by omega) _ _ _ _).trans (HW7.out.2 j y hj)⟩
           have e2 := HW7.out.2 2 p2 rfl
           have eg := HW7.out.1
           clear HW7 HA7 HZ7 HB7 h4
           go_upto_region 16 with fail
           clear pc pf pS lt e2 eg
           generalize putBlk w8 b6 #[.int .u8 d0, .int .u8 0, .int .i64 0, .slice none 0 0, .int .i64 0, .int .i64 0, .int .i64 0, .string (bsO p2)] 42 = w9 at HA8 HZ8 HB8 HW8 ⊢
           refine region_last 13 _ [false, false, false, false, false, false, false, false, false, false, false, false, false, false, false, false, false, false, false, false, false, false, false, false, false, false, false, false, false, false, false, false, false, false, false, false, false, false, false, false, false, false, false, false, false, false, false, false, false, false, false, false, false, false, false, false, false, false, false, false, false, false, false, false, false, false, false, false, false, false, false, false, true, true, true, true, true, true, true, true, true, true, true, true, true, false, false, false, false, false, false, false, false, false, false, false, false, false, false, false, false, false, false, false, false, false, false, false, false, false, false, false, false, false, false, false, false, false, false, false, false, false, false, false, false, false, false, false, false, false] [72, 73, 74, 75, 76, 77, 78, 79, 80, 81, 82, 83, 84] [.val (.slice (some ⟨g, 0, none⟩) 5 cap), .val (.pointer (some ⟨g, 0, none⟩)), .val (.string (bsO x)), .val (.slice (some ⟨g, 0, none⟩) 5 cap), .val (.pointer (some ⟨g, 1, none⟩)), .val (.string (bsO p1)), .val (.slice (some ⟨g, 0, none⟩) 5 cap), .val (.pointer (some ⟨g, 3, none⟩)), .val (.string (bsO p3)), .val (.slice (some ⟨g, 0, none⟩) 5 cap), .val (.pointer (some ⟨g, 4, none⟩)), .val (.string (bsO p4)), .new (fun g => .slice (some ⟨g, 0, none⟩) 4 4) #[.string (bsO x), .string (bsO p1), .string (bsO p3), .string (bsO p4)] 9] [12] (by kernel_rfl) rfl rfl (by kernel_rfl) (by kernel_rfl) (by kernel_rfl) (by kernel_rfl) (by kernel_rfl) ⟨?_, ?_, ?_, ?_, ?_, ?_, ?_, ?_, ?_, ?_, ?_, ?_, ?_, trivial⟩ ?done16
           case done16 =>
            intro z wa hba
            simp only [StepGoal, List.getD_cons_zero, List.getD_cons_succ]
            intro bq hq K hK
            rw [if_pos (by rfl)]; simp only [overlay, upd, cond_true, cond_false, Nat.reduceEqDiff, reduceIte]
            go_simp
            refine hK.out _ _ ?_
            clear hK
            have HWn : Hid (WRo wa bq [x, p1, p3, p4]) := ⟨hq.lt, fun j y hj => (hq.cell j).trans (by
             rw [show (#[.string (bsO x), .string (bsO p1), .string (bsO p3), .string (bsO p4)] : Array Value) = (([x, p1, p3, p4] : List (List UInt8)).map (fun y => Value.string (bsO y))).toArray from rfl, List.getElem?_toArray, List.getElem?_map, hj]
             rfl)⟩
            have HA9 := hd_ (HA8.out.ext hba)
            have HZ9 := hd_ (HZ8.out.ext hba)
            have HB9 := hd_ (bt HB8.out hba)
            go_wp2_with fail
            go_meet
            exact ⟨bq, 4, rfl, HWn, HA9, HZ9, HB9⟩
           all_goals
            intro z wa hba
            have hw9 := HW8.out.ext hba
            have e0 := hw9.2 0 x rfl
            have e1 := hw9.2 1 p1 rfl
            have e3 := hw9.2 3 p3 rfl
            have e4 := hw9.2 4 p4 rfl
            have eg := hw9.1
            first
             | (intro K hK
                rw [if_pos (by rfl)]; simp only [overlay, upd, k_1, k_2, k_3, k_4, Nat.reduceEqDiff, reduceIte]
                go_simp
                first
                 | exact hK.out _ _ (Below.refl _ _) rfl
                 | exact hK.out _ _ (bel1 _ _) ⟨_, rfl, Blk.new _ _ _⟩)
          | false =>
           have hcnd : ¬ (kf = true ∧ rest.length = 4) := fun e => by
            have := HCB.out
            rw [e.1, e.2] at this
            cases this
           obtain ⟨c1, c2⟩ := HCW.out hcnd
           rw [← c1] at HW7
           have HA7' : Hid (Blk wc b6 #[.int .u8 d0, .int .u8 0, .int .i64 0, .slice none 0 0, .int .i64 0, .int .i64 0, .int .i64 0, .string (bsO (nmW kf rest))] 42) := by
            show Blk _ _ _ _
            rw [c2]
            exact HA7.out
           have hcl : rest.length = (cutW kf rest).length := by rw [c1]
           clear hcnd c2 HCB HA7
           rw [hcl]
           clear hcl c1
           go_wp2_with fail
           go_meet
           exact ⟨g, cap, rfl, HW7, HA7', HZ7, HB7⟩
         case rest =>
          obtain ⟨g', cap', rfl, HW8, HA8, HZ8, HB8⟩ := hcut
          clear HCW HW7 HA7 HZ7 HB7 HCB
          generalize cutW kf rest = L at HC HCL HW8 ⊢
          generalize nmW kf rest = NM at HC HNML HA8 ⊢
          have hbn : Below wc.heap.size wc (wc.alloc (.cells #[.int .i64 0, .int .i64 0, .int .i64 0] 25)) := bel1 _ _
          have hg' := HW8.out.1
          have hb6q := HA8.out.lt
          have HW9 := hd_ (HW8.out.ext hbn)
          have HA9 := hd_ (HA8.out.ext hbn)
          have HZ9 := hd_ (HZ8.out.ext hbn)
          have HB9 := hd_ (bt HB8.out hbn)
          have HN9 := hd_ (Blk.new wc #[.int .i64 0, .int .i64 0, .int .i64 0] 25)
          have HNB := hd_ (fun (t : List UInt8) (W : World) => refnumber_any (bsO t) W)
          clear hbn HW8 HA8 HZ8 HB8
          go_upto_region 18 with fail
          generalize wc.alloc (.cells #[.int .i64 0, .int .i64 0, .int .i64 0] 25) = w10 at HW9 HA9 HZ9 HB9 HN9 ⊢
          generalize wc.heap.size = qn at hg' hb6q HN9 ⊢
          go_upto_block 2 with fail
          go_cut [] (fun wx => ∃ u0 u1 u2 : Int, Hid (i64B u0 ∧ i64B u1 ∧ i64B u2) ∧ Hid (numV L 0 u0 ∧ numV L 1 u1 ∧ numV L 2 u2) ∧ Hid (Blk wx qn #[.int .i64 u0, .int .i64 u1, .int .i64 u2] 25) ∧ Hid (Blk wx b6 #[.int .u8 d0, .int .u8 0, .int .i64 0, .slice none 0 0, .int .i64 0, .int .i64 0, .int .i64 0, .string (bsO NM)] 42) ∧ Hid (Blk wx w.heap.size #[.int .u8 0, .int .u8 0, .int .i64 0, .slice none 0 0, .int .i64 0, .int .i64 0, .int .i64 0, .string ⟨#[]⟩] 42) ∧ Hid (Below w.heap.size w wx))
          case first =>
           go_wp2_with fail
           go_loopw [14] (fun v wr => ∃ (j : Nat) (u0 u1 u2 : Int), (1 ≤ j ∧ j ≤ 4 ∧ j ≤ L.length + 1) ∧ v = .int .i64 j ∧ Hid (NumsTo L j u0 u1 u2) ∧ Hid (Blk wr qn #[.int .i64 u0, .int .i64 u1, .int .i64 u2] 25) ∧ Hid (WRo wr g' (x :: L)) ∧ Hid (Blk wr b6 #[.int .u8 d0, .int .u8 0, .int .i64 0, .slice none 0 0, .int .i64 0, .int .i64 0, .int .i64 0, .string (bsO NM)] 42) ∧ Hid (Blk wr w.heap.size #[.int .u8 0, .int .u8 0, .int .i64 0, .slice none 0 0, .int .i64 0, .int .i64 0, .int .i64 0, .string ⟨#[]⟩] 42) ∧ Hid (Below w.heap.size w wr)) (fun v _ => 4 - (intOf v).toNat)
           case atStart => exact ⟨1, 0, 0, 0, by omega, rfl, NumsTo.zero L, HN9, HW9, HA9, HZ9, HB9⟩
           case round =>
            obtain ⟨j, u0, u1, u2, ⟨hj1, hj4, hjL⟩, rfl, HT, HNr, HWr, HAr, HZr, HBr⟩ := hrel
            clear HN9 HW9 HA9 HZ9 HB9
            by_cases hlt : j ≤ L.length ∧ j ≤ 3
            · obtain ⟨hlt, h3⟩ := hlt
              obtain ⟨y, hy⟩ : ∃ y, L[j - 1]? = some y := ⟨_, List.getElem?_eq_getElem (by omega)⟩
              have hyc := HWr.out.2 j y (by
               obtain ⟨i, rfl⟩ : ∃ i, j = i + 1 := ⟨j - 1, by omega⟩
               simpa using hy)
              have hgl := HWr.out.1
              have hlI : (j : Int) < (L.length : Int) + 1 := by omega
              have h3I : (j : Int) ≤ 3 := by omega
              have hj0 : (0 : Int) ≤ j := by omega
              have hw1 : IntKind.i64.wrap ((j : Int) - 1) = (j : Int) - 1 := by rw [IntKind.wrap_i64]; omega
              have hw2 : IntKind.i64.wrap ((j : Int) + 1) = (j : Int) + 1 := by rw [IntKind.wrap_i64]; omega
              have hk0 : (0 : Int) ≤ (j : Int) - 1 := by omega
              have hk3 : (j : Int) - 1 < 3 := by omega
              have hkt : ((j : Int) - 1).toNat = j - 1 := by omega
              go_wp2_with fail
              refine (HNB.out y _).mono ?_
              rintro r w11 ⟨⟨xv, hxv, hor⟩, hb11⟩
              obtain ⟨ok, rfl, hok⟩ : ∃ ok, r = .returned (.tuple #[.int .i64 xv, .bool ok]) ∧ ∀ u, longZ y = some u → xv = u := by
               have hor : (longZ y = some xv ∧ _) ∨ (longZ y = none ∧ _) := hor
               rcases hor with ⟨h, rfl⟩ | ⟨h, rfl⟩
               · exact ⟨true, rfl, fun u e => by rw [h] at e; injection e⟩
               · exact ⟨false, rfl, fun u e => by rw [h] at e; cases e⟩
              obtain ⟨a0, a1, a2, harr, hT2⟩ := HT.out.step hj1 h3 hy hok hxv
              have HT2 := hd_ hT2
              have HW11 := hd_ (HWr.out.ext hb11)
              have HA11 := hd_ (HAr.out.ext hb11)
              have HZ11 := hd_ (HZr.out.ext hb11)
              have HB11 := hd_ (bt HBr.out hb11)
              have hn11 := HNr.out.ext hb11
              obtain ⟨w12, rfl, lt⟩ := blk_put hn11
              obtain ⟨pc, pf, pS⟩ := putBlk_facts (w := w12) 25 lt
              have pS1 : (putBlk w12 qn #[.int .i64 u0, .int .i64 u1, .int .i64 u2] 25).setCell ⟨qn, j - 1, none⟩ (.int .i64 xv) = putBlk w12 qn #[.int .i64 a0, .int .i64 a1, .int .i64 a2] 25 := by rw [pS, harr]
              have HN12 := hd_ (putBlk_blk (w := w12) (b := qn) #[.int .i64 a0, .int .i64 a1, .int .i64 a2] 25 lt)
              have HA12 := hd_ (putBlk_old HA11.out (by omega) #[.int .i64 a0, .int .i64 a1, .int .i64 a2])
              have HZ12 := hd_ (putBlk_old HZ11.out (by omega) #[.int .i64 a0, .int .i64 a1, .int .i64 a2])
              have HB12 := hd_ (putBlk_belows HB11.out (by omega) #[.int .i64 a0, .int .i64 a1, .int .i64 a2])
              have HW12 : Hid (WRo (putBlk w12 qn #[.int .i64 a0, .int .i64 a1, .int .i64 a2] 25) g' (x :: L)) := ⟨by have := HW11.out.1; rw [putBlk_size] at this ⊢; exact this, fun j y hj => (putBlk_cell_ne (by omega) _ _ _ _).trans (HW11.out.2 j y hj)⟩
              obtain ⟨ux, hux⟩ : ∃ ux : Int, (#[.int .i64 u0, .int .i64 u1, .int .i64 u2] : Array Value)[j - 1]? = some (.int .i64 ux) := by
               have hj : j = 1 ∨ j = 2 ∨ j = 3 := by omega
               rcases hj with rfl | rfl | rfl
               · exact ⟨u0, rfl⟩
               · exact ⟨u1, rfl⟩
               · exact ⟨u2, rfl⟩
              have hcj := (pc #[.int .i64 u0, .int .i64 u1, .int .i64 u2] (j - 1)).trans hux
              clear hor hok hxv hb11 hn11 HW11 HA11 HZ11 HB11 HNr HWr HAr HZr HBr HT hyc hgl hy pS harr hT2 pc hux
              go_wp2_with fail
              clear pf pS1 lt hlI h3I hcj
              go_roundw
              case rel => exact ⟨j + 1, a0, a1, a2, by omega, by go_num, HT2, HN12, HW12, HA12, HZ12, HB12⟩
              case measure => simp [intOf]; omega
            · have HX : Hid (numV L 0 u0 ∧ numV L 1 u1 ∧ numV L 2 u2) := HT.out.fin (by omega) hj1 hj4
              have HY : Hid (i64B u0 ∧ i64B u1 ∧ i64B u2) := HT.out.1
              by_cases hl : j ≤ L.length
              · have hlI : (j : Int) < (L.length : Int) + 1 := by omega
                have h3I : ¬ (j : Int) ≤ 3 := by omega
                clear hlt
                go_wp2_with fail
                go_meet
                exact ⟨u0, u1, u2, HY, HX, HNr, HAr, HZr, HBr⟩
              · have hlI : ¬ (j : Int) < (L.length : Int) + 1 := by omega
                clear hlt
                go_wp2_with fail
                go_meet
                exact ⟨u0, u1, u2, HY, HX, HNr, HAr, HZr, HBr⟩
          case rest =>
           clear HN9 HW9 HA9 HZ9 HB9
           obtain ⟨u0, u1, u2, HT, HV, HNr, HAr, HZr, HBr⟩ := hcut
           have HCC : Hid (∀ b, readA s.data.toList = some b → b = ⟨d0, 0, 0, [], u0, u1, u2, bsO NM⟩) := fun b h => HC.out _ _ _ HV.out.1 HV.out.2.1 HV.out.2.2 b h
           have hwf : Ac.wf ⟨d0, 0, 0, [], u0, u1, u2, bsO NM⟩ := by
            unfold Ac.wf
            simp only
            refine ⟨⟨hdr.1, by omega⟩, by omega, ⟨by decide, by decide⟩, (fun v hv => by cases hv), HT.out.1, HT.out.2.1, HT.out.2.2, ?_⟩
            rw [bsO_size]
            have := HNML.out
            omega
           have HWF := hd_ hwf
           clear hwf HT HV HC HNB HCL HNML
           obtain ⟨w13, rfl, lt⟩ := blk_put HAr.out
           obtain ⟨pc, pf, pS⟩ := putBlk_facts (w := w13) 42 lt
           have hne : qn ≠ b6 := by omega
           have hc := fun (ds : Array Value) (i : Nat) => ((putBlk_cell_ne (w := w13) (b := b6) (g := qn) hne #[.int .u8 d0, .int .u8 0, .int .i64 0, .slice none 0 0, .int .i64 0, .int .i64 0, .int .i64 0, .string (bsO NM)] ds 42 i).trans (HNr.out.cell i))
           have hc0 : ∀ ds, (putBlk w13 b6 ds 42).cell? ⟨qn, 0, none⟩ = some (.int .i64 u0) := fun ds => hc ds 0
           have hc1 : ∀ ds, (putBlk w13 b6 ds 42).cell? ⟨qn, 1, none⟩ = some (.int .i64 u1) := fun ds => hc ds 1
           have hc2 : ∀ ds, (putBlk w13 b6 ds 42).cell? ⟨qn, 2, none⟩ = some (.int .i64 u2) := fun ds => hc ds 2
           clear hc
           have HA14 := hd_ (putBlk_blk (w := w13) (b := b6) #[.int .u8 d0, .int .u8 0, .int .i64 0, .slice none 0 0, .int .i64 u0, .int .i64 u1, .int .i64 u2, .string (bsO NM)] 42 lt)
           have HZ14 := hd_ (putBlk_old HZr.out (by omega) #[.int .u8 d0, .int .u8 0, .int .i64 0, .slice none 0 0, .int .i64 u0, .int .i64 u1, .int .i64 u2, .string (bsO NM)])
           have HB14 := hd_ (putBlk_belows HBr.out (by omega) #[.int .u8 d0, .int .u8 0, .int .i64 0, .slice none 0 0, .int .i64 u0, .int .i64 u1, .int .i64 u2, .string (bsO NM)])
           clear HAr HZr HBr HNr
           go_upto_region 26 with fail
           clear pc pf pS hc0 hc1 hc2 lt
           generalize putBlk w13 b6 #[.int .u8 d0, .int .u8 0, .int .i64 0, .slice none 0 0, .int .i64 u0, .int .i64 u1, .int .i64 u2, .string (bsO NM)] 42 = w14 at HA14 HZ14 HB14 ⊢
           have HAC := hd_ (refact_any ⟨d0, 0, 0, [], u0, u1, u2, bsO NM⟩ HWF.out none 0 w14 (VRow.nil_ _) (HL.out.ext HB14.out))
           unfold Ac.agg at HAC
           simp only [List.length_nil] at HAC
           obtain ⟨y8, y0, y1, y2, y3, y4, y5, y6, y7⟩ := blkA HA14.out
           cases hat : actT ⟨d0, 0, 0, [], u0, u1, u2, bsO NM⟩ with
           | none =>
            have HN : Hid (readA s.data.toList = none) := by
             show _ = _
             cases hr : readA s.data.toList with
             | none => rfl
             | some b =>
              have h1 := ((readA_some (by omega)).1 hr).2
              rw [HCC.out b hr, hat] at h1
              cases h1
            rw [hat] at HAC
            unfold actP at HAC
            simp only at HAC
            clear hat
            go_wp2_with fail
            refine HAC.out.mono ?_
            rintro r w15 ⟨rfl, hb15⟩
            have HB15 := hd_ (bt HB14.out hb15)
            have HZ15 := hd_ (HZ14.out.ext hb15)
            clear hb15 HAC HB14 HZ14 HA14 y8 y0 y1 y2 y3 y4 y5 y6 y7
            obtain ⟨wz, rfl, lt⟩ := blk_put HZ15.out
            obtain ⟨pc, pf, pS⟩ := putBlk_facts (w := wz) 42 lt
            have HBF := hd_ (putBlk_belows HB15.out (Nat.le_refl _) #[.int .u8 0, .int .u8 0, .int .i64 0, .slice none 0 0, .int .i64 0, .int .i64 0, .int .i64 0, .string ⟨#[]⟩])
            clear HB15 HZ15
            go_wp2_with fail
            refine bodyPost_ret (v := .tuple #[.agg zAct, .int .i64 310]) (by simp [results, Tryz.results20, go_sem, zAct, pc]) rfl ?_
            exact ⟨by rw [HN.out]; rfl, HBF.out⟩
           | some t =>
            rw [hat] at HAC
            unfold actP at HAC
            simp only at HAC
            by_cases hts : t = s.data.toList
            · have HRA : Hid (readA s.data.toList = some ⟨d0, 0, 0, [], u0, u1, u2, bsO NM⟩) := (readA_some (by omega)).2 ⟨HWF.out, by rw [hat, hts]⟩
              rw [hts, show bsO s.data.toList = s from rfl] at HAC
              clear hat hts
              go_wp2_with fail
              refine HAC.out.mono ?_
              rintro r w15 ⟨rfl, hb15⟩
              have HB15 := hd_ (bt HB14.out hb15)
              have HZ15 := hd_ (HZ14.out.ext hb15)
              have HA15 := hd_ (HA14.out.ext hb15)
              clear hb15 HAC HB14 HZ14 HA14 y8 y0 y1 y2 y3 y4 y5 y6 y7
              obtain ⟨y8, y0, y1, y2, y3, y4, y5, y6, y7⟩ := blkA HA15.out
              obtain ⟨wz, rfl, lt⟩ := blk_put HZ15.out
              obtain ⟨pc', pf, pS⟩ := putBlk_facts (w := wz) 42 lt
              have HBF := hd_ (putBlk_belows HB15.out (Nat.le_refl _) #[.int .u8 d0, .int .u8 0, .int .i64 0, .slice none 0 0, .int .i64 u0, .int .i64 u1, .int .i64 u2, .string (bsO NM)])
              clear HB15 HZ15 HA15
              go_wp2_with fail
              refine bodyPost_ret (v := .tuple #[.agg #[.int .u8 d0, .int .u8 0, .int .i64 0, .slice none 0 0, .int .i64 u0, .int .i64 u1, .int .i64 u2, .string (bsO NM)], .int .i64 0]) (by simp [results, Tryz.results20, go_sem, pc']) rfl ?_
              refine ⟨?_, HBF.out⟩
              rw [HRA.out]
              exact ⟨none, 0, rfl, VRow.nil_ _, fun p hp => by cases hp⟩
            · have hcmp : ((bsO t).toList == s.toList) = false := by
               rw [show s = bsO s.data.toList from rfl, str_eqb]
               exact decide_eq_false hts
              have HN : Hid (readA s.data.toList = none) := by
               show _ = _
               cases hr : readA s.data.toList with
               | none => rfl
               | some b =>
                have h1 := ((readA_some (by omega)).1 hr).2
                rw [HCC.out b hr, hat] at h1
                injection h1 with h1
                exact absurd h1 hts
              clear hat hts
              go_wp2_with fail
              refine HAC.out.mono ?_
              rintro r w15 ⟨rfl, hb15⟩
              have HB15 := hd_ (bt HB14.out hb15)
              have HZ15 := hd_ (HZ14.out.ext hb15)
              clear hb15 HAC HB14 HZ14 HA14 y8 y0 y1 y2 y3 y4 y5 y6 y7
              obtain ⟨wz, rfl, lt⟩ := blk_put HZ15.out
              obtain ⟨pc, pf, pS⟩ := putBlk_facts (w := wz) 42 lt
              have HBF := hd_ (putBlk_belows HB15.out (Nat.le_refl _) #[.int .u8 0, .int .u8 0, .int .i64 0, .slice none 0 0, .int .i64 0, .int .i64 0, .int .i64 0, .string ⟨#[]⟩])
              clear HB15 HZ15
              go_wp2_with fail
              refine bodyPost_ret (v := .tuple #[.agg zAct, .int .i64 310]) (by simp [results, Tryz.results20, go_sem, zAct, pc]) rfl ?_
              exact ⟨by rw [HN.out]; rfl, HBF.out⟩
 · have HN : Hid (readA s.data.toList = none) := by show _ = _; unfold readA; rw [hws]
   have HZ1 := HZ0.out.ext hb1
   have hb' := bt HB0.out hb1
   obtain ⟨wz, rfl, lt⟩ := blk_put HZ1
   obtain ⟨pc, pf, pS⟩ := putBlk_facts (w := wz) 42 lt
   have HBF := hd_ (putBlk_belows hb' (Nat.le_refl _) #[.int .u8 0, .int .u8 0, .int .i64 0, .slice none 0 0, .int .i64 0, .int .i64 0, .int .i64 0, .string ⟨#[]⟩])
   clear hb' hb1 HZ1 hws
   go_wp2_with fail
   refine bodyPost_ret (v := .tuple #[.agg zAct, .int .i64 310]) (by simp [results, Tryz.results20, go_sem, zAct, pc]) rfl ?_
   exact ⟨by rw [HN.out]; rfl, HBF.out⟩
theorem RdI.none_ (w : World) : RdI w.heap.size [] none 0 [] none 0 w := ⟨Nat.le_refl _, World.ownsRow_nil _ _ _ _, World.ownsRow_nil _ _ _ _, (fun _ ht => nomatch ht), (fun _ ht => nomatch ht)⟩
end Go.Proofs.YtfekohonidggjaaGreatDoor
