/- Texts joined by a tool: contracts and walks of this claim. -/
import Derived.Test.YtfekohonidggjaaGreatDoorB24
namespace Go.Proofs.YtfekohonidggjaaGreatDoor
open Go.RowKit
theorem rowR_app : ∀ (a : List (List UInt8)) (l : List V) (x : List UInt8) (v : V), rowR a = some l → readV x = some v → rowR (a ++ [x]) = some (l ++ [v])
 | [], l, x, v, h, hx => by
  unfold rowR at h
  simp only [Option.some.injEq] at h
  subst h
  simp [rowR, hx]
 | y :: a, l, x, v, h, hx => by
  unfold rowR at h
  cases hy : readV y with
  | none => rw [hy] at h; cases h
  | some u =>
   cases ha : rowR a with
   | none => rw [hy, ha] at h; cases h
   | some m =>
    rw [hy, ha] at h
    simp only [Option.some.injEq] at h
    subst h
    have := rowR_app a m x v ha hx
    simp [rowR, hy, this]
theorem rowR_none : ∀ (a : List (List UInt8)) (x : List UInt8), x ∈ a → readV x = none → rowR a = none
 | [], x, h, _ => by cases h
 | y :: a, x, h, hx => by
  unfold rowR
  rcases List.mem_cons.1 h with rfl | h
  · rw [hx]
  · rw [rowR_none a x h hx]
    cases readV y <;> rfl
theorem rowR_len : ∀ (a : List (List UInt8)) (l : List V), rowR a = some l → l.length = a.length
 | [], l, h => by
  unfold rowR at h
  simp only [Option.some.injEq] at h
  subst h
  rfl
 | y :: a, l, h => by
  unfold rowR at h
  cases hy : readV y with
  | none => rw [hy] at h; cases h
  | some u =>
   cases ha : rowR a with
   | none => rw [hy, ha] at h; cases h
   | some m =>
    rw [hy, ha] at h
    simp only [Option.some.injEq] at h
    subst h
    simp [rowR_len a m ha]
def ActP (o : Option Ac) (B : Nat) (r : Ending) (w' : World) : Prop := match o with
 | some a => ∃ A c, r = .returned (a.agg A c) ∧ VRow w' A a.row ∧ ∀ p, A = some p → B ≤ p.block
 | none => r = gaveW
theorem own_putlt {w : World} {b base e size n : Nat} {v : Value} {xs : List Value} {cs : Array Value} {t : TypeId} (h : (putBlk w b cs t).ownsRow base e size v n xs) (hb : b < base) (ds : Array Value) : (putBlk w b ds t).ownsRow base e size v n xs := by
 obtain ⟨h0, h1 | ⟨g, cap, cur, h1, h2, h3, h4⟩⟩ := h
 · exact ⟨h0, Or.inl h1⟩
 · exact ⟨h0, Or.inr ⟨g, cap, cur, h1, h2, putBlk_old (h3 : Blk _ g cur e) (by omega) ds, h4⟩⟩
theorem tailNil {P : Program} {ops : Array Oper} {Q : Exit → Act → World → Prop} {a : Act} {w : World} (h : Q .normal a w) : TailB P ops Q [] a w := by unfold TailB; exact h
theorem readV_wf {x : List UInt8} (hx : x.length ≤ 35184372088832) {v : V} (h : readV x = some v) : v.wf := ((readV_some (by omega)).1 h).1
set_option maxRecDepth 100000 in
set_option maxHeartbeats 6400000 in
theorem rdOp_any (k : Int) (hk : 1 ≤ k ∧ k ≤ 3) (ws : List (List UInt8)) (hw : ∀ x ∈ ws, x.length ≤ 35184372088832) (hlw : ws.length ≤ 281474976710656) (g off a : Nat) (w : World) (hL : LayS w) (hl : WsAt w g off ws) (ha : Blk w a #[.int .i64 (k - 1)] 3) :
 Calls Tryz.prog 133 #[.slice (some ⟨g, off, none⟩) ws.length ws.length, .pointer (some ⟨a, 0, none⟩)] w fun r w' => ActP (opR k ws) w.heap.size r w' ∧ Below w.heap.size w w' := by
 have HLG := hd_ (fun (x : List UInt8) (hx : x ∈ ws) (W : World) (hW : Below w.heap.size w W) => (show Calls Tryz.prog 99 #[.string (bsO x)] W fun r w' => r = orGave ((longZ x).map fun v => .int .i64 v) ∧ Below W.heap.size W w' from longS_any (bsO x) (by rw [bsO_size]; have := hw x hx; omega) W (hL.ext hW)))
 have HRV := hd_ (fun (x : List UInt8) (hx : x ∈ ws) (W : World) (hW : Below w.heap.size w W) => (show Calls Tryz.prog 57 #[.string (bsO x)] W fun r w' => r = orGave ((readV x).map V.agg) ∧ Below W.heap.size W w' from readValue_any (bsO x) (by rw [bsO_size]; exact hw x hx) W (hL.ext hW)))
 have HWF := hd_ (fun (x : List UInt8) (hx : x ∈ ws) (v : V) (h : readV x = some v) => readV_wf (hw x hx) h)
 obtain ⟨iv, hiv, hv0, hv1, hv2⟩ := info_parts info_V
 have HWS := hd_ hl
 have HA := hd_ ha
 generalize hO : opR k ws = O
 have HO := hd_ hO
 have HK := hd_ hk
 clear hO hL hl ha hw hk
 rcases ws with _ | ⟨t, vs⟩
 · have hN : O = none := by rw [← HO.out]; rfl
   have HN := hd_ hN
   clear hN
   simp only [List.length_nil]
   go_enter Tryz.func133, Tryz.ntmps133
   go_wp2_with fail
   refine (need_no _).mono ?_
   rintro r w1 ⟨rfl, rfl⟩
   unfold gaveW
   go_wp2_with fail
   exact ⟨rfl, by rw [HN.out]; rfl, (by repeat (first | exact Below.refl _ _ | assumption | refine Below.drew ?_ | refine below_drewN ?_ _ | refine Below.alloc ?_ (by simp <;> omega) _))⟩
 · simp only [List.length_cons]
   have hpos : (0 : Int) < (vs.length + 1 : Nat) := by omega
   have hR0 := Blk.new w #[.int .u8 0, .int .u8 0, .int .i64 0, .slice none 0 0, .int .i64 0, .int .i64 0, .int .i64 0, .string ⟨#[]⟩] 42
   have hb0 : Below w.heap.size w (w.alloc (.cells #[.int .u8 0, .int .u8 0, .int .i64 0, .slice none 0 0, .int .i64 0, .int .i64 0, .int .i64 0, .string ⟨#[]⟩] 42)) := bel1 _ _
   have HR0 := hd_ hR0
   have HB0 := hd_ hb0
   clear hR0 hb0
   go_enter Tryz.func133, Tryz.ntmps133
   go_wp2_with fail
   generalize w.alloc (.cells #[.int .u8 0, .int .u8 0, .int .i64 0, .slice none 0 0, .int .i64 0, .int .i64 0, .int .i64 0, .string ⟨#[]⟩] 42) = W0 at HR0 HB0 ⊢
   refine (need_yes _).mono ?_
   rintro r w1 ⟨rfl, rfl⟩
   go_upto_region 2 with fail
   have hwr : IntKind.i64.wrap (k - 1 + 1) = k := by have := HK.out; rw [IntWalk.i64_in _ (by omega)]; omega
   have hwk : IntKind.i64.wrap k = k := IntWalk.i64_in _ (by have := HK.out; omega)
   have hwu : IntKind.u8.wrap k = k := by
    have hh : k = 1 ∨ k = 2 ∨ k = 3 := by have := HK.out; omega
    rcases hh with rfl | rfl | rfl <;> rfl
   cases hv : longZ t with
   | none =>
    have hLT := HLG.out t (by simp)
    rw [hv] at hLT
    simp only [Option.map_none, orGave] at hLT
    have HLT := hd_ hLT
    have hN : O = none := by rw [← HO.out]; simp [opR, hv]
    have HN := hd_ hN
    clear hLT hv hN
    refine region_last 10 _ [false, false, false, false, true, false, false, false, false, false, false, true, true, true, true, true, true, true, true, true, false, false, false, false, false, false, false, false, false, false, false, false, false, false, false, false, false, false, false, false, false, false, false] [11, 12, 13, 14, 15, 16, 17, 18, 19, 4] [.val (.int .i64 (k - 1)), .val (.int .i64 k), .val (.int .u8 k), .val (.slice (some ⟨g, off, none⟩) (vs.length + 1) (vs.length + 1)), .val (.pointer (some ⟨g, off, none⟩)), .val (.string (bsO t)), .mem (fun _ _ => False) (fun _ _ _ h _ => h), .mem (fun _ _ => False) (fun _ _ _ h _ => h), .mem (fun _ _ => False) (fun _ _ _ h _ => h), kPair w1.heap.size #[.int .u8 0, .int .u8 0, .int .i64 0, .slice none 0 0, .int .i64 0, .int .i64 0, .int .i64 0, .string ⟨#[]⟩] 42] [6] (by kernel_rfl) rfl rfl (by kernel_rfl) (by kernel_rfl) (by kernel_rfl) (by kernel_rfl) (by kernel_rfl) ⟨?_, ?_, ?_, ?_, ?_, ?_, ?_, ?_, ?_, ?_, trivial⟩ ?done
    case done =>
     intro x w2 hb2 v hv
     exact hv.elim
    all_goals
     intro x w2 hb2
     have hbw2 := bt HB0.out hb2
     obtain ⟨a0, _, aL⟩ := blk1c (HA.out.ext hbw2)
     have hxc := (HWS.out.ext hbw2).2 0 t rfl
     have hgl := (HWS.out.ext hbw2).1
     simp only [Nat.add_zero] at hxc
     first
      | (intro K hK
         rw [if_pos (by rfl)]; simp only [overlay, upd, cond_true, cond_false, List.getD_cons_zero, List.getD_cons_succ, Nat.reduceEqDiff, reduceIte]
         go_simp
         first
          | exact hK.out _ _ (Below.refl _ _) rfl
          | exact hK.out _ _ (by repeat (first | exact Below.refl _ _ | assumption | refine Below.drew ?_ | refine below_drewN ?_ _ | refine Below.alloc ?_ (by simp <;> omega) _)) ⟨_, rfl, hb2.size, Blk.new _ _ _⟩
          | ((with_reducible refine (HLT.out _ hbw2).mono ?_); rintro e wa ⟨rfl, hba⟩; unfold gaveW; go_wp2_with fail; exact ⟨rfl, by rw [HN.out]; rfl, hbw2.trans (hba.mono hbw2.size)⟩))
      | (intro v hv
         exact hv.elim)
   | some tb =>
    have hLT := HLG.out t (by simp)
    rw [hv] at hLT
    simp only [Option.map_some, orGave] at hLT
    have HLT := hd_ hLT
    have HV := hd_ hv
    clear hLT hv
    refine region_last 10 _ [false, false, false, false, true, false, false, false, false, false, false, true, true, true, true, true, true, true, true, true, false, false, false, false, false, false, false, false, false, false, false, false, false, false, false, false, false, false, false, false, false, false, false] [11, 12, 13, 14, 15, 16, 17, 18, 19, 4] [.val (.int .i64 (k - 1)), .val (.int .i64 k), .val (.int .u8 k), .val (.slice (some ⟨g, off, none⟩) (vs.length + 1) (vs.length + 1)), .val (.pointer (some ⟨g, off, none⟩)), .val (.string (bsO t)), .val (.int .i64 tb), .val (.agg #[.int .u8 k, .int .i64 tb, .slice none 0 0]), .val (.agg #[.int .u8 2, .int .u8 k, .int .i64 tb, .slice none 0 0, .int .i64 0, .int .i64 0, .int .i64 0, .string ⟨#[]⟩]), kPair w1.heap.size #[.int .u8 0, .int .u8 0, .int .i64 0, .slice none 0 0, .int .i64 0, .int .i64 0, .int .i64 0, .string ⟨#[]⟩] 42] [8, 9] (by kernel_rfl) rfl rfl (by kernel_rfl) (by kernel_rfl) (by kernel_rfl) (by kernel_rfl) (by kernel_rfl) ⟨?_, ?_, ?_, ?_, ?_, ?_, ?_, ?_, ?_, ?_, trivial⟩ ?done
    case done =>
     intro x w2 hb2
     simp only [StepGoal, List.getD_cons_zero, List.getD_cons_succ]
     rintro _ ⟨a1, rfl, ha1, hA1⟩ K hK
     have HR2 := hd_ (HR0.out.ext hb2)
     have HB2 := hd_ (bt HB0.out hb2)
     have hne : a1 ≠ w.heap.size := by have := HR0.out.lt; omega
     obtain ⟨w3, rfl, lt⟩ := blk_put hA1
     obtain ⟨pc, pf, pS⟩ := putBlk_facts (w := w3) 42 lt
     have HA1 := hd_ (putBlk_blk (w := w3) (b := a1) #[.int .u8 2, .int .u8 k, .int .i64 tb, .slice none 0 0, .int .i64 0, .int .i64 0, .int .i64 0, .string ⟨#[]⟩] 42 lt)
     have HR1 := hd_ (putBlk_old HR2.out (Ne.symm hne) #[.int .u8 2, .int .u8 k, .int .i64 tb, .slice none 0 0, .int .i64 0, .int .i64 0, .int .i64 0, .string ⟨#[]⟩])
     have HB1 := hd_ (putBlk_belows HB2.out (by have := HB0.out.size; omega) #[.int .u8 2, .int .u8 k, .int .i64 tb, .slice none 0 0, .int .i64 0, .int .i64 0, .int .i64 0, .string ⟨#[]⟩])
     have hWS1 := (HWS.out.ext HB2.out).put (b := a1) (by have := HWS.out.1; have := HB0.out.size; omega) #[.int .u8 2, .int .u8 k, .int .i64 tb, .slice none 0 0, .int .i64 0, .int .i64 0, .int .i64 0, .string ⟨#[]⟩]
     have HW1 := hd_ hWS1
     have hl1 : a1 < (putBlk w3 a1 #[.int .u8 2, .int .u8 k, .int .i64 tb, .slice none 0 0, .int .i64 0, .int .i64 0, .int .i64 0, .string ⟨#[]⟩] 42).heap.size := HA1.out.lt
     have hwa : w.heap.size ≤ a1 := by have := HB0.out.size; omega
     clear hb2 hA1 HR2 HB2 hWS1 ha1
     rw [if_pos (by rfl)]; simp only [overlay, upd, cond_true, cond_false, Nat.reduceEqDiff, reduceIte]
     go_simp
     refine hK.out _ _ ?_
     clear hK pc pf pS lt
     generalize putBlk w3 a1 #[.int .u8 2, .int .u8 k, .int .i64 tb, .slice none 0 0, .int .i64 0, .int .i64 0, .int .i64 0, .string ⟨#[]⟩] 42 = W2 at HA1 HR1 HB1 HW1 hl1 ⊢
     by_cases h0 : vs.length = 0
     · obtain rfl := List.eq_nil_of_length_eq_zero h0
       have hN : O = some ⟨2, k, tb, [], 0, 0, 0, bsO []⟩ := by rw [← HO.out]; simp [opR, HV.out, rowR]
       have HN := hd_ hN
       clear hN h0
       simp only [List.length_nil, Nat.zero_add]
       go_wp2_with fail
       refine (need_yes _).mono ?_
       rintro r w4 ⟨rfl, rfl⟩
       have hA := HA1.out
       have hR := HR1.out
       have hB := HB1.out
       clear HA1 HR1 HB1 HW1 hl1
       obtain ⟨w9, rfl, lt9⟩ := blk_put hR
       obtain ⟨pc, pf, pS⟩ := putBlk_facts (w := w9) 42 lt9
       obtain ⟨lA, y0, y1, y2, y3, y4, y5, y6, y7⟩ := blkA hA
       have HBF := hd_ (putBlk_belows hB (Nat.le_refl _) #[.int .u8 2, .int .u8 k, .int .i64 tb, .slice none 0 0, .int .i64 0, .int .i64 0, .int .i64 0, .string ⟨#[]⟩])
       clear hA hR hB
       go_wp2_with fail
       refine wp_loop_rounds 1 ?_
       rw [rounds_succ]
       go_wp2_with fail
       refine bodyPost_ret (v := Ac.agg ⟨2, k, tb, [], 0, 0, 0, bsO []⟩ none 0) (by simp [results, Tryz.results133, go_sem, Ac.agg, pc, bsO]) rfl ?_
       refine ⟨?_, HBF.out⟩
       rw [HN.out]
       exact ⟨none, 0, rfl, ⟨(fun v hv => by cases hv), by simp, fun h => absurd rfl h⟩, fun p hp => by cases hp⟩
     · have h0' : ¬ vs = [] := fun e => h0 (by rw [e]; rfl)
       have hpv : 0 < vs.length := by omega
       by_cases hl8 : vs.length ≤ 8
       · have hl8I : (vs.length : Int) ≤ 8 := by omega
         go_wp2_with fail
         refine (need_yes _).mono ?_
         rintro r w4 ⟨rfl, rfl⟩
         go_wp2_with fail
         have hbase : a1 < w4.heap.size := hl1
         have hwb : w.heap.size < w4.heap.size := HR1.out.lt
         have HLL := hd_ hl8
         clear hl8I h0 h0'
         go_loopw [28] (fun i wr => ∃ (j : Nat) (dn : List V) (rA : Option Addr) (rc : Nat), j ≤ vs.length ∧ i = .int .i64 j ∧ Hid (rowR (vs.take j) = some dn ∧ (∀ v ∈ dn, v.wf)) ∧ wr.ownsRow w4.heap.size 48 4 (.slice rA j rc) j (rowCells dn) ∧ Hid (Blk wr a1 #[.int .u8 2, .int .u8 k, .int .i64 tb, .slice rA j rc, .int .i64 0, .int .i64 0, .int .i64 0, .string ⟨#[]⟩] 42) ∧ Hid (Blk wr w.heap.size #[.int .u8 0, .int .u8 0, .int .i64 0, .slice none 0 0, .int .i64 0, .int .i64 0, .int .i64 0, .string ⟨#[]⟩] 42) ∧ Below w.heap.size w wr ∧ w4.heap.size ≤ wr.heap.size) (fun i _ => vs.length - (intOf i).toNat)
         case atStart => exact ⟨0, [], none, 0, by omega, rfl, ⟨rfl, fun v hv => by cases hv⟩, World.ownsRow_nil _ _ _ _, HA1.out, HR1.out, HB1.out, Nat.le_refl _⟩
         case round =>
          obtain ⟨j, dn, rA, rc, hj, rfl, HRO, hown, HAr, HRr, hbw, hsz⟩ := hrel
          clear HA1 HR1 HB1 HW1 hl1
          by_cases hlt : j < vs.length
          · obtain ⟨x, hx⟩ : ∃ x, x = vs[j] := ⟨_, rfl⟩
            have hget := List.getElem?_eq_getElem hlt
            rw [← hx] at hget
            have hmem : x ∈ t :: vs := by rw [hx]; exact List.mem_cons_of_mem _ (List.getElem_mem hlt)
            have hxc := (HWS.out.ext hbw).2 (j + 1) x (by simpa using hget)
            rw [show off + (j + 1) = off + 1 + j by omega] at hxc
            have hgl := (HWS.out.ext hbw).1
            have htk : vs.take (j + 1) = vs.take j ++ [x] := by rw [List.take_succ_eq_append_getElem hlt, ← hx]
            have HTK := hd_ htk
            have HMV := hd_ (List.mem_of_getElem? hget)
            have hltI : (j : Int) < vs.length := by omega
            have HBW := hd_ hbw
            have HOW := hd_ hown
            have hRV := fun (W : World) (hW : Below wr.heap.size wr W) => HRV.out x hmem W (bt hbw hW)
            have hWFx := HWF.out x hmem
            clear hx hget htk hmem hbw hown
            go_upto_region 8 with fail
            clear hxc hgl
            cases hrv : readV x with
            | none =>
             rw [hrv] at hRV
             simp only [Option.map_none, orGave] at hRV
             have HRVx := hd_ hRV
             have hN : O = none := by rw [← HO.out]; simp [opR, HV.out, rowR_none vs x HMV.out hrv]
             have HN := hd_ hN
             clear hN hRV hrv hWFx
             refine region_tail 6 [false, false, false, false, false, false, false, false, false, false, false, false, false, false, false, false, false, false, false, false, false, false, false, false, false, false, false, false, false, false, false, false, true, true, true, true, true, true, false, false, false, false, false] [32, 33, 34, 35, 36, 37] [.val (.pointer (some ⟨a1, 1, none⟩)), .val (.pointer (some ⟨a1, 3, none⟩)), .val (.slice rA j rc), .val (.string (bsO x)), .mem (fun _ _ => False) (fun _ _ _ h _ => h), .mem (fun _ _ => False) (fun _ _ _ h _ => h)] [5] (by kernel_rfl) (by decide) (by kernel_rfl) (by kernel_rfl) (by kernel_rfl) (by kernel_rfl) (by kernel_rfl) (by kernel_rfl) ⟨?_, ?_, ?_, ?_, ?_, ?_, trivial⟩ ?done
             case done =>
              intro y w5 hb5 v hv
              exact hv.elim
             all_goals
              intro y w5 hb5
              obtain ⟨_, y0, y1, y2, y3, y4, y5, y6, y7⟩ := blkA (HAr.out.ext hb5)
              first
               | (intro K hK
                  rw [if_pos (by rfl)]; simp only [overlay, upd, cond_true, cond_false, List.getD_cons_zero, List.getD_cons_succ, Nat.reduceEqDiff, reduceIte]
                  go_simp
                  first
                   | exact hK.out _ _ (Below.refl _ _) rfl
                   | exact hK.out _ _ (by repeat (first | exact Below.refl _ _ | assumption | refine Below.drew ?_ | refine below_drewN ?_ _ | refine Below.alloc ?_ (by simp <;> omega) _)) ⟨_, rfl, Blk.new _ _ _⟩
                   | ((with_reducible refine (HRVx.out _ hb5).mono ?_); rintro e wa ⟨rfl, hba⟩; unfold gaveW; go_wp2_with fail; exact ⟨rfl, by rw [HN.out]; rfl, HBW.out.trans ((hb5.mono HBW.out.size).trans (hba.mono (Nat.le_trans HBW.out.size hb5.size)))⟩))
               | (intro v hv
                  exact hv.elim)
            | some v =>
             rw [hrv] at hRV
             simp only [Option.map_some, orGave] at hRV
             have HRVx := hd_ hRV
             have hvw := hWFx v hrv
             have HRO2 : Hid (rowR (vs.take (j + 1)) = some (dn ++ [v]) ∧ ∀ u ∈ dn ++ [v], u.wf) := by
              refine ⟨by rw [HTK.out]; exact rowR_app _ _ _ _ HRO.out.1 hrv, fun u hu => ?_⟩
              rcases List.mem_append.1 hu with hu | hu
              · exact HRO.out.2 u hu
              · simp only [List.mem_singleton] at hu; subst hu; exact hvw
             obtain ⟨vk, vn, vr, vt⟩ := v
             unfold V.agg at HRVx
             simp only at HRVx
             clear hRV hrv hWFx hvw
             refine region_tail 6 [false, false, false, false, false, false, false, false, false, false, false, false, false, false, false, false, false, false, false, false, false, false, false, false, false, false, false, false, false, false, false, false, true, true, true, true, true, true, false, false, false, false, false] [32, 33, 34, 35, 36, 37] [.val (.pointer (some ⟨a1, 1, none⟩)), .val (.pointer (some ⟨a1, 3, none⟩)), .val (.slice rA j rc), .val (.string (bsO x)), .val (.agg #[.int .u8 vk, .int .i64 vn, .int .u64 vr, .string vt]), .new (fun b => .slice (some ⟨b, 0, none⟩) 1 1) #[.int .u8 vk, .int .i64 vn, .int .u64 vr, .string vt] 48] [2, 5] (by kernel_rfl) (by decide) (by kernel_rfl) (by kernel_rfl) (by kernel_rfl) (by kernel_rfl) (by kernel_rfl) (by kernel_rfl) ⟨?_, ?_, ?_, ?_, ?_, ?_, trivial⟩ ?done
             case done =>
              intro y w5 hb5
              simp only [StepGoal, List.getD_cons_zero, List.getD_cons_succ]
              intro bq hbq K1 hK1
              have hown5 := own_ext HOW.out hb5
              have hA5 := HAr.out.ext hb5
              have hR5 := HRr.out.ext hb5
              have hb5' := bt HBW.out hb5
              obtain ⟨lq, q0, q1, q2, q3⟩ := blkV hbq
              rw [if_pos (by rfl)]; simp only [overlay, upd, cond_true, cond_false, Nat.reduceEqDiff, reduceIte]
              refine wp_append_own w5 (.tmp 34) (.tmp 37) 38 rfl w4.heap.size 48 iv _ 4 40 Tryz.underlying38 hiv hv0 hv1 hv2 rfl (by decide) (.slice rA j rc) j (rowCells dn) rfl hown5 ⟨bq, 0, none⟩ 1 1 [.int .u8 vk, .int .i64 vn, .int .u64 vr, .string vt] rfl rfl (by
               intro i u hu
               match i, hu with
               | 0, hu => simp at hu; subst hu; exact q0
               | 1, hu => simp at hu; subst hu; exact q1
               | 2, hu => simp at hu; subst hu; exact q2
               | 3, hu => simp at hu; subst hu; exact q3) (by simp [Value.oneCell']) (by have := HLL.out; unfold maxLen; omega) (by have := HLL.out; omega) (Nat.le_trans hsz hb5.size) ?_
              intro v6 w6 hown6 hg6 _
              obtain ⟨g6, c6, rfl, hbg6, _⟩ := hown6.form (by omega)
              have hgn : ∀ b, b < w4.heap.size → (Value.slice rA j rc).ownBlock ≠ some b := fun b hb e => by have := own_ge hown5 b e; omega
              have hA6 := blk_grown hA5 hg6 (hgn a1 hbase)
              have hR6 := blk_grown hR5 hg6 (hgn w.heap.size hwb)
              have hb6 : Below w.heap.size w w6 := hb5'.grown hg6 hb5'.size (fun b hb => by have := own_ge hown5 b hb; omega)
              have hs6 : w4.heap.size ≤ w6.heap.size := Nat.le_trans hsz (Nat.le_trans hb5.size hg6.size)
              have hmp : rowCells (dn ++ [⟨vk, vn, vr, vt⟩]) = rowCells dn ++ [.int .u8 vk, .int .i64 vn, .int .u64 vr, .string vt] := by simp [rowCells, V.cells]
              rw [← hmp] at hown6
              obtain ⟨w7, rfl, lt7⟩ := blk_put hA6
              obtain ⟨pc, pf, pS⟩ := putBlk_facts (w := w7) 42 lt7
              have HF := hd_ (And.intro (own_putlt hown6 hbase #[.int .u8 2, .int .u8 k, .int .i64 tb, .slice (some ⟨g6, 0, none⟩) (j + 1) c6, .int .i64 0, .int .i64 0, .int .i64 0, .string ⟨#[]⟩]) (And.intro (putBlk_blk (w := w7) (b := a1) #[.int .u8 2, .int .u8 k, .int .i64 tb, .slice (some ⟨g6, 0, none⟩) (j + 1) c6, .int .i64 0, .int .i64 0, .int .i64 0, .string ⟨#[]⟩] 42 lt7) (And.intro (putBlk_old hR6 (Ne.symm hne) #[.int .u8 2, .int .u8 k, .int .i64 tb, .slice (some ⟨g6, 0, none⟩) (j + 1) c6, .int .i64 0, .int .i64 0, .int .i64 0, .string ⟨#[]⟩]) (And.intro (putBlk_belows hb6 hwa #[.int .u8 2, .int .u8 k, .int .i64 tb, .slice (some ⟨g6, 0, none⟩) (j + 1) c6, .int .i64 0, .int .i64 0, .int .i64 0, .string ⟨#[]⟩]) (show w4.heap.size ≤ (putBlk w7 a1 #[.int .u8 2, .int .u8 k, .int .i64 tb, .slice (some ⟨g6, 0, none⟩) (j + 1) c6, .int .i64 0, .int .i64 0, .int .i64 0, .string ⟨#[]⟩] 42).heap.size by rw [putBlk_size] at hs6 ⊢; exact hs6)))))
              clear hown5 hA5 hR5 hb5' hown6 hg6 hgn hA6 hR6 hb6 hs6 hmp hb5 hbq q0 q1 q2 q3 lq
              refine hK1.out _ _ ?_
              intro K2 hK2
              rw [if_pos (by rfl)]
              go_simp
              refine hK2.out _ _ ?_
              intro K3 hK3
              rw [if_pos (by rfl)]
              go_simp
              refine hK3.out _ _ ?_
              intro K4 hK4
              rw [if_pos (by rfl)]
              go_simp
              refine hK4.out _ _ (tailNil ?_)
              clear pc pf pS
              go_wp2_with fail
              go_roundw
              case rel =>
               obtain ⟨h1, h2, h3, h4, h5⟩ := HF.out
               exact ⟨j + 1, _, some ⟨g6, 0, none⟩, c6, by omega, by go_num, HRO2, h1, h2, h3, h4, h5⟩
              case measure => simp [intOf]; omega
             all_goals
              intro y w5 hb5
              obtain ⟨_, y0, y1, y2, y3, y4, y5, y6, y7⟩ := blkA (HAr.out.ext hb5)
              first
               | (intro K hK
                  rw [if_pos (by rfl)]; simp only [overlay, upd, cond_true, cond_false, List.getD_cons_zero, List.getD_cons_succ, Nat.reduceEqDiff, reduceIte]
                  go_simp
                  first
                   | exact hK.out _ _ (Below.refl _ _) rfl
                   | exact hK.out _ _ (by repeat (first | exact Below.refl _ _ | assumption | refine Below.drew ?_ | refine below_drewN ?_ _ | refine Below.alloc ?_ (by simp <;> omega) _)) ⟨_, rfl, Blk.new _ _ _⟩
                   | ((with_reducible refine (HRVx.out _ hb5).mono ?_); rintro e wa ⟨rfl, hba⟩; go_wp2_with fail; exact hK.out _ _ hba rfl))
               | (intro v hv
                  exact hv.elim)
          · obtain rfl : j = vs.length := by omega
            have hro := HRO.out.1
            rw [List.take_length] at hro
            have hln := rowR_len _ _ hro
            have hN : O = some ⟨2, k, tb, dn, 0, 0, 0, bsO []⟩ := by rw [← HO.out]; simp [opR, HV.out, HLL.out, hro]
            have HN := hd_ hN
            have HPB : Hid (∀ p, rA = some p → w.heap.size ≤ p.block) := fun p hp => by subst hp; have := own_ge hown p.block rfl; omega
            clear hN hro
            obtain ⟨w9, rfl, lt9⟩ := blk_put HRr.out
            obtain ⟨pc, pf, pS⟩ := putBlk_facts (w := w9) 42 lt9
            obtain ⟨lA, y0, y1, y2, y3, y4, y5, y6, y7⟩ := blkA HAr.out
            have HBF := hd_ (putBlk_belows hbw (Nat.le_refl _) #[.int .u8 2, .int .u8 k, .int .i64 tb, .slice rA vs.length rc, .int .i64 0, .int .i64 0, .int .i64 0, .string ⟨#[]⟩])
            have HVF := hd_ ((VRow.of_own HRO.out.2 (by have := HLL.out; omega) (own_putlt hown hwb #[.int .u8 2, .int .u8 k, .int .i64 tb, .slice rA vs.length rc, .int .i64 0, .int .i64 0, .int .i64 0, .string ⟨#[]⟩])).1)
            clear hown hbw HRr HAr
            go_wp2_with fail
            refine bodyPost_ret (v := Ac.agg ⟨2, k, tb, dn, 0, 0, 0, bsO []⟩ rA rc) (by simp [results, Tryz.results133, go_sem, Ac.agg, pc, bsO, hln]) rfl ?_
            refine ⟨?_, HBF.out⟩
            rw [HN.out]
            exact ⟨rA, rc, rfl, HVF.out, HPB.out⟩
       · have hl8I : ¬ (vs.length : Int) ≤ 8 := by omega
         have hN : O = none := by rw [← HO.out]; simp [opR, HV.out, hl8]
         have HN := hd_ hN
         clear hN
         go_wp2_with fail
         refine (need_no _).mono ?_
         rintro r w4 ⟨rfl, rfl⟩
         unfold gaveW
         go_wp2_with fail
         exact ⟨rfl, by rw [HN.out]; rfl, HB1.out⟩
    all_goals
     intro x w2 hb2
     have hbw2 := bt HB0.out hb2
     obtain ⟨a0, _, aL⟩ := blk1c (HA.out.ext hbw2)
     have hxc := (HWS.out.ext hbw2).2 0 t rfl
     have hgl := (HWS.out.ext hbw2).1
     simp only [Nat.add_zero] at hxc
     first
      | (intro K hK
         rw [if_pos (by rfl)]; simp only [overlay, upd, cond_true, cond_false, List.getD_cons_zero, List.getD_cons_succ, Nat.reduceEqDiff, reduceIte]
         go_simp
         first
          | exact hK.out _ _ (Below.refl _ _) rfl
          | exact hK.out _ _ (by repeat (first | exact Below.refl _ _ | assumption | refine Below.drew ?_ | refine below_drewN ?_ _ | refine Below.alloc ?_ (by simp <;> omega) _)) ⟨_, rfl, hb2.size, Blk.new _ _ _⟩
          | ((with_reducible refine (HLT.out _ hbw2).mono ?_); rintro e wa ⟨rfl, hba⟩; go_wp2_with fail; exact hK.out _ _ hba rfl))
      | (intro v hv
         exact hv.elim)
end Go.Proofs.YtfekohonidggjaaGreatDoor
