/- Texts joined by a tool: contracts and walks of this claim. -/
import Derived.Test.YtfekohonidggjaaGreatDoorB23
namespace Go.Proofs.YtfekohonidggjaaGreatDoor
open Go.RowKit
theorem drewN_put (w : World) (b : Nat) (cs : Array Value) (t : TypeId) (q : Nat) : (putBlk w b cs t).drewN q = putBlk (w.drewN q) b cs t := rfl
set_option maxRecDepth 100000 in
theorem del_any (B : Nat) (lv : Value) (x0 nm x1 x2 : List UInt8) (w : World) (hown : w.ownsRow B 9 1 lv 4 (wsC [x0, nm, x1, x2])) :
 Calls Tryz.prog 131 #[lv, .int .i64 1, .int .i64 2] w fun r w' => (∃ g cap, r = .returned (.slice (some ⟨g, 0, none⟩) 3 cap) ∧ WsAt w' g 0 [x0, x1, x2] ∧ B ≤ g) ∧ Below B w w' := by
 obtain ⟨hlen, ⟨rfl, h0⟩ | ⟨g, cap, cur, rfl, hBg, hg, h4, hm, hsz, htk⟩⟩ := hown
 · cases h0
 have hgb : Blk w g cur 9 := hg
 have hsz' : cur.size = cap := by omega
 obtain ⟨rest, e4⟩ : ∃ rest, cur.toList = .string (bsO x0) :: .string (bsO nm) :: .string (bsO x1) :: .string (bsO x2) :: rest := by
  have hl : cur.toList.length = cap := by simpa using hsz'
  match hcu : cur.toList, hl with
  | [], hl => simp at hl; omega
  | [_], hl => simp at hl; omega
  | [_, _], hl => simp at hl; omega
  | [_, _, _], hl => simp at hl; omega
  | p0 :: p1 :: p2 :: p3 :: rest, _ =>
   rw [hcu] at htk
   simp only [Nat.reduceMul, List.take_succ_cons, List.take_zero, wsC, List.map_cons, List.map_nil, List.cons.injEq, and_true] at htk
   obtain ⟨rfl, rfl, rfl, rfl⟩ := htk
   exact ⟨rest, rfl⟩
 have hI := Tryz.slices_Delete_string_cells g 0 4 cap 1 2 (fun j => bsO ([x0, nm, x1, x2].getD j [])) w h4 (by unfold maxLen at hm; omega) (by omega) (by omega) (fun i hi => by
  rw [hgb.cell, Nat.zero_add, ← Array.getElem?_toList, e4]
  match i, hi with
  | 0, _ => rfl
  | 1, _ => rfl
  | 2, _ => rfl
  | 3, _ => rfl) (fun j _ => hgb.frozen _)
 refine hI.mono ?_
 rintro r w' ⟨rfl, q, rfl⟩
 obtain ⟨w3, rfl, lt⟩ := blk_put hgb
 have hw : ((putBlk w3 g cur 9).drewN q).setCells g 0 (((Lib.strsOf (fun j => bsO ([x0, nm, x1, x2].getD j [])) 4).take 1 ++ (Lib.strsOf (fun j => bsO ([x0, nm, x1, x2].getD j [])) 4).drop 2 ++ List.replicate (2 - 1) []).map encStr) = putBlk (w3.drewN q) g ((((cur.setIfInBounds 0 (.string (bsO x0))).setIfInBounds 1 (.string (bsO x1))).setIfInBounds 2 (.string (bsO x2))).setIfInBounds 3 (.string (bsO []))) 9 := by
  rw [drewN_put]
  have lt' : g < (w3.drewN q).heap.size := lt
  show (((((putBlk (w3.drewN q) g cur 9).setCell ⟨g, 0, none⟩ (.string (bsO x0))).setCell ⟨g, 1, none⟩ (.string (bsO x1))).setCell ⟨g, 2, none⟩ (.string (bsO x2))).setCell ⟨g, 3, none⟩ (.string (bsO []))) = _
  rw [putBlk_set _ _ lt', putBlk_set _ _ lt', putBlk_set _ _ lt', putBlk_set _ _ lt']
 rw [hw]
 refine ⟨⟨g, cap, rfl, ?_, hBg⟩, ?_⟩
 · have hB := putBlk_blk (w := w3.drewN q) (b := g) ((((cur.setIfInBounds 0 (.string (bsO x0))).setIfInBounds 1 (.string (bsO x1))).setIfInBounds 2 (.string (bsO x2))).setIfInBounds 3 (.string (bsO []))) 9 lt
   refine ⟨hB.lt, fun j x hj => ?_⟩
   rw [hB.cell, Nat.zero_add, ← Array.getElem?_toList]
   match j, hj with
   | 0, hj => simp at hj; subst hj; simp [e4]
   | 1, hj => simp at hj; subst hj; simp [e4]
   | 2, hj => simp at hj; subst hj; simp [e4]
 · refine putBlk_belows (cs := cur) ?_ hBg _
   rw [← drewN_put]
   exact below_drewN (Below.refl _ _) q
theorem blk_below {w w' : World} {B b : Nat} {cs : Array Value} {t : TypeId} (h : Blk w b cs t) (hb : Below B w w') (hlt : b < B) : Blk w' b cs t := by
 unfold Blk at h ⊢
 rw [hb.block b hlt]
 exact h
theorem WsAt.put {w : World} {g off b : Nat} {ws : List (List UInt8)} {cs : Array Value} {t : TypeId} (h : WsAt (putBlk w b cs t) g off ws) (hne : g ≠ b) (ds : Array Value) : WsAt (putBlk w b ds t) g off ws :=
 ⟨by have := h.1; rw [putBlk_size] at this ⊢; exact this, fun j x hj => (putBlk_cell_ne hne cs ds t _).trans (h.2 j x hj)⟩
theorem formR_file {d : Int} {x0 nm x1 x2 : List UInt8} : formR d 3 true [x0, nm, x1, x2] = if fileB nm then numO d (bsO nm) (numsR 3 [x0, x1, x2]) else none := by
 unfold formR numO
 simp only [if_true]
 split
 · cases h : numsR 3 [x0, x1, x2] with
   | none => rfl
   | some x => obtain ⟨u, v, t⟩ := x; rfl
 · rfl
theorem formR_len {d : Int} {l : List (List UInt8)} (h : l.length ≠ 4) : formR d 3 true l = none := by
 unfold formR
 simp only [if_true]
 rcases l with _ | ⟨a, _ | ⟨b, _ | ⟨c, _ | ⟨e, _ | ⟨f, l⟩⟩⟩⟩⟩
 · rfl
 · rfl
 · rfl
 · rfl
 · exact absurd rfl h
 · rfl
theorem len4 {α : Type} {l : List α} (h : l.length = 4) : ∃ a b c e, l = [a, b, c, e] := by
 rcases l with _ | ⟨a, _ | ⟨b, _ | ⟨c, _ | ⟨e, _ | ⟨f, l⟩⟩⟩⟩⟩
 · cases h
 · simp at h
 · simp at h
 · simp at h
 · exact ⟨a, b, c, e, rfl⟩
 · simp at h
set_option maxRecDepth 100000 in
set_option maxHeartbeats 6400000 in
theorem rdFt_any (d : Int) (wd : List UInt8) (ws : List (List UInt8)) (hw : ∀ x ∈ ws, x.length ≤ 140737488355328) (hlw : ws.length ≤ 281474976710656) (g off cap a b : Nat) (w : World) (hL : LayS w) (hl : WsAt w g off ws) (ha : Blk w a #[.int .u8 d] 5) (hb : Blk w b #[.string (bsO wd), .int .i64 3, .bool true] 129) :
 Calls Tryz.prog 130 #[.slice (some ⟨g, off, none⟩) ws.length cap, .pointer (some ⟨a, 0, none⟩), .pointer (some ⟨b, 0, none⟩)] w fun r w' => r = acO (formR d 3 true ws) ∧ Below w.heap.size w w' := by
 generalize hO : formR d 3 true ws = O
 have HO := hd_ hO
 have HLG := hd_ (fun (x : List UInt8) (hx : x ∈ ws) (W : World) (hW : Below w.heap.size w W) => (show Calls Tryz.prog 99 #[.string (bsO x)] W fun r w' => r = orGave ((longZ x).map fun v => .int .i64 v) ∧ Below W.heap.size W w' from longS_any (bsO x) (by rw [bsO_size]; have := hw x hx; omega) W (hL.ext hW)))
 have HWS := hd_ hl
 obtain ⟨a0, _, aL⟩ := blk1c ha
 have HFB := hd_ hb
 have hR0 : Blk ((w.alloc (.cells #[.int .u8 0, .int .u8 0, .int .i64 0, .slice none 0 0, .int .i64 0, .int .i64 0, .int .i64 0, .string ⟨#[]⟩] 42)).alloc (.cells #[.int .u8 d, .int .u8 0, .int .i64 0, .slice none 0 0, .int .i64 0, .int .i64 0, .int .i64 0, .string ⟨#[]⟩] 42)) w.heap.size #[.int .u8 0, .int .u8 0, .int .i64 0, .slice none 0 0, .int .i64 0, .int .i64 0, .int .i64 0, .string ⟨#[]⟩] 42 := (Blk.new w _ _).old _
 have hA0 : Blk ((w.alloc (.cells #[.int .u8 0, .int .u8 0, .int .i64 0, .slice none 0 0, .int .i64 0, .int .i64 0, .int .i64 0, .string ⟨#[]⟩] 42)).alloc (.cells #[.int .u8 d, .int .u8 0, .int .i64 0, .slice none 0 0, .int .i64 0, .int .i64 0, .int .i64 0, .string ⟨#[]⟩] 42)) (w.heap.size + 1) #[.int .u8 d, .int .u8 0, .int .i64 0, .slice none 0 0, .int .i64 0, .int .i64 0, .int .i64 0, .string ⟨#[]⟩] 42 := by
  have := Blk.new (w.alloc (.cells #[.int .u8 0, .int .u8 0, .int .i64 0, .slice none 0 0, .int .i64 0, .int .i64 0, .int .i64 0, .string ⟨#[]⟩] 42)) #[.int .u8 d, .int .u8 0, .int .i64 0, .slice none 0 0, .int .i64 0, .int .i64 0, .int .i64 0, .string ⟨#[]⟩] 42
  simpa using this
 have hb0 : Below w.heap.size w ((w.alloc (.cells #[.int .u8 0, .int .u8 0, .int .i64 0, .slice none 0 0, .int .i64 0, .int .i64 0, .int .i64 0, .string ⟨#[]⟩] 42)).alloc (.cells #[.int .u8 d, .int .u8 0, .int .i64 0, .slice none 0 0, .int .i64 0, .int .i64 0, .int .i64 0, .string ⟨#[]⟩] 42)) := (by repeat (first | exact Below.refl _ _ | assumption | refine Below.drew ?_ | refine below_drewN ?_ _ | refine Below.alloc ?_ (by simp <;> omega) _))
 have HR0 := hd_ hR0
 have HA0 := hd_ hA0
 have HB0 := hd_ hb0
 have HWL := hd_ hw
 clear hO hL hl ha hb hR0 hA0 hb0 hw
 go_enter Tryz.func130, Tryz.ntmps130
 go_upto_region 2 with fail
 clear a0 aL
 generalize (w.alloc (.cells #[.int .u8 0, .int .u8 0, .int .i64 0, .slice none 0 0, .int .i64 0, .int .i64 0, .int .i64 0, .string ⟨#[]⟩] 42)).alloc (.cells #[.int .u8 d, .int .u8 0, .int .i64 0, .slice none 0 0, .int .i64 0, .int .i64 0, .int .i64 0, .string ⟨#[]⟩] 42) = W0 at HR0 HA0 HB0 ⊢
 obtain ⟨bL, b0, b1, b2⟩ := blkF (HFB.out.ext HB0.out)
 by_cases hlen : ws.length = 4
 · obtain ⟨x0, nm, x1, x2, rfl⟩ := len4 hlen
   clear hlen
   have HNM := hd_ (fun W : World => fnamed_any (bsO nm) (by rw [bsO_size]; exact HWL.out nm (by simp)) W)
   have hwc := (HWS.out.ext HB0.out).2 1 nm rfl
   have hgl := (HWS.out.ext HB0.out).1
   simp only [List.length_cons, List.length_nil, Nat.zero_add, Nat.reduceAdd]
   rw [formR_file] at HO
   have hA := HA0.out
   have hR := HR0.out
   have hB := HB0.out
   have hW := HWS.out.ext HB0.out
   have hneR : w.heap.size ≠ w.heap.size + 1 := by omega
   have hneG : g ≠ w.heap.size + 1 := by have := HWS.out.1; omega
   obtain ⟨w3, rfl, lt⟩ := blk_put hA
   obtain ⟨pc, pf, pS⟩ := putBlk_facts (w := w3) 42 lt
   have HAB := hd_ (putBlk_blk (w := w3) (b := w.heap.size + 1) #[.int .u8 d, .int .u8 0, .int .i64 0, .slice none 0 0, .int .i64 0, .int .i64 0, .int .i64 0, .string (bsO nm)] 42 lt)
   have HRB := hd_ (putBlk_old hR hneR #[.int .u8 d, .int .u8 0, .int .i64 0, .slice none 0 0, .int .i64 0, .int .i64 0, .int .i64 0, .string (bsO nm)])
   have HBB := hd_ (putBlk_belows hB (by omega) #[.int .u8 d, .int .u8 0, .int .i64 0, .slice none 0 0, .int .i64 0, .int .i64 0, .int .i64 0, .string (bsO nm)])
   have HWB := hd_ (hW.put hneG #[.int .u8 d, .int .u8 0, .int .i64 0, .slice none 0 0, .int .i64 0, .int .i64 0, .int .i64 0, .string (bsO nm)])
   clear hA hR hB hW HA0 HR0 HB0
   go_wp2_with fail
   refine (need_yes _).mono ?_
   rintro r w1 ⟨rfl, rfl⟩
   go_wp2_with fail
   clear pc pf pS lt b0 b1 b2 bL hwc hgl
   generalize putBlk w3 (w.heap.size + 1) #[.int .u8 d, .int .u8 0, .int .i64 0, .slice none 0 0, .int .i64 0, .int .i64 0, .int .i64 0, .string (bsO nm)] 42 = W1 at HAB HRB HBB HWB ⊢
   refine (HNM.out _).mono ?_
   have hfd : (bsO nm).data.toList = nm := rfl
   rw [hfd]
   clear hfd
   cases hfi : fileB nm with
   | false =>
    rintro r w2 ⟨rfl, hb2⟩
    have HBN := hd_ (bt HBB.out hb2)
    have hN : O = none := by rw [← HO.out, hfi]; rfl
    have HN := hd_ hN
    clear hN hfi hb2
    go_wp2_with fail
    refine (need_no _).mono ?_
    rintro r w4 ⟨rfl, rfl⟩
    unfold gaveW
    go_wp2_with fail
    exact ⟨rfl, by rw [HN.out]; rfl, HBN.out⟩
   | true =>
    rw [hfi, if_pos rfl] at HO
    rintro r w2 ⟨rfl, hb2⟩
    have HAB2 := hd_ (HAB.out.ext hb2)
    have HRB2 := hd_ (HRB.out.ext hb2)
    have HBB2 := hd_ (bt HBB.out hb2)
    have hW2 := HWB.out.ext hb2
    clear hfi hb2 HAB HRB HBB HWB
    have hCL := Tryz.slices_Clone_string g off 4 cap [bsO x0, bsO nm, bsO x1, bsO x2] w2 (by simp) (by omega) (fun j hj => by
     match j, hj with
     | 0, _ => exact hW2.2 0 x0 rfl
     | 1, _ => exact hW2.2 1 nm rfl
     | 2, _ => exact hW2.2 2 x1 rfl
     | 3, _ => exact hW2.2 3 x2 rfl)
    have HCL := hd_ hCL
    clear hCL hW2
    go_wp2_with fail
    refine (need_yes _).mono ?_
    rintro r w4 ⟨rfl, rfl⟩
    go_wp2_with fail
    refine HCL.out.mono ?_
    rintro r w5 ⟨lv, rfl, hown, _, hb5⟩
    have HDE := hd_ (del_any w4.heap.size lv x0 nm x1 x2 w5 hown)
    have HAB5 := hd_ (HAB2.out.ext hb5)
    have HRB5 := hd_ (HRB2.out.ext hb5)
    have HBB5 := hd_ (bt HBB2.out hb5)
    have HS5 := hd_ (And.intro HAB2.out.lt HRB2.out.lt)
    have HB5 := hd_ hb5
    clear hown hb5 HCL
    go_wp2_with fail
    refine HDE.out.mono ?_
    rintro r w6 ⟨⟨g6, cap6, rfl, hW6, hg6⟩, hb6⟩
    have hlA := HAB2.out.lt
    have hlR := HRB2.out.lt
    have HAB6 := hd_ (blk_below HAB5.out hb6 hlA)
    have HRB6 := hd_ (blk_below HRB5.out hb6 hlR)
    have HBB6 := hd_ (HBB5.out.trans (hb6.mono HBB2.out.size))
    have HWB6 := hd_ hW6
    have hgA : g6 ≠ w.heap.size + 1 := by omega
    obtain ⟨bL, b0, b1, b2⟩ := blkF (HFB.out.ext HBB6.out)
    clear hW6 hb6 HAB5 HRB5 HBB5 HB5 HDE HAB2 HRB2 HBB2 hlA hlR hg6 HWS HS5
    go_wp2_with fail
    refine (need_yes _).mono ?_
    rintro r w7 ⟨rfl, rfl⟩
    go_wp2_with fail
    have hPB := Blk.new w7 #[.pointer (some ⟨w.heap.size + 1, 4, none⟩), .pointer (some ⟨w.heap.size + 1, 5, none⟩), .pointer (some ⟨w.heap.size + 1, 6, none⟩)] 187
    have hbP := HBB6.out.alloc HBB6.out.size (.cells #[.pointer (some ⟨w.heap.size + 1, 4, none⟩), .pointer (some ⟨w.heap.size + 1, 5, none⟩), .pointer (some ⟨w.heap.size + 1, 6, none⟩)] 187)
    have HPB := hd_ hPB
    have HAB := hd_ (HAB6.out.old (.cells #[.pointer (some ⟨w.heap.size + 1, 4, none⟩), .pointer (some ⟨w.heap.size + 1, 5, none⟩), .pointer (some ⟨w.heap.size + 1, 6, none⟩)] 187))
    have HRB := hd_ (HRB6.out.old (.cells #[.pointer (some ⟨w.heap.size + 1, 4, none⟩), .pointer (some ⟨w.heap.size + 1, 5, none⟩), .pointer (some ⟨w.heap.size + 1, 6, none⟩)] 187))
    have HWB := hd_ (HWB6.out.ext ((by repeat (first | exact Below.refl _ _ | assumption | refine Below.drew ?_ | refine below_drewN ?_ _ | refine Below.alloc ?_ (by simp <;> omega) _)) : Below w7.heap.size w7 (w7.alloc (.cells #[.pointer (some ⟨w.heap.size + 1, 4, none⟩), .pointer (some ⟨w.heap.size + 1, 5, none⟩), .pointer (some ⟨w.heap.size + 1, 6, none⟩)] 187))))
    have HBB := hd_ hbP
    have hPs : w7.heap.size ≠ w.heap.size + 1 ∧ w7.heap.size ≠ w.heap.size := by
     have := HAB6.out.lt
     omega
    clear hPB hbP HAB6 HRB6 HBB6 HWB6 bL b0 b1 b2
    generalize w7.heap.size = Pb at HPB hPs ⊢
    generalize w7.alloc (.cells #[.pointer (some ⟨w.heap.size + 1, 4, none⟩), .pointer (some ⟨w.heap.size + 1, 5, none⟩), .pointer (some ⟨w.heap.size + 1, 6, none⟩)] 187) = W2 at HPB HAB HRB HBB HWB ⊢
    refine wp_loop_rounds 4 ?_
    obtain ⟨pL, p0, p1, p2⟩ := blk3p HPB.out
    have hxc := HWB.out.2 0 x0 rfl
    have hgl := HWB.out.1
    simp only [Nat.zero_add] at hxc
    rw [rounds_succ]
    go_wp2_with fail
    refine (HLG.out x0 (by simp) _ HBB.out).mono ?_
    clear hxc hgl pL p0 p1 p2
    cases hv0 : longZ x0 with
    | none =>
     rintro r w2 ⟨rfl, hb2⟩
     have HBN := hd_ (bt HBB.out hb2)
     have hN : O = none := by rw [← HO.out]; simp [numsR, numO, hv0]
     have HN := hd_ hN
     clear hN hv0 hb2
     simp only [Option.map_none, orGave]
     unfold gaveW
     go_wp2_with fail
     exact ⟨rfl, by rw [HN.out]; rfl, HBN.out⟩
    | some v0 =>
     rintro r w2 ⟨rfl, hb2⟩
     have HX0 := hd_ hv0
     have hA := HAB.out.ext hb2
     have hP := HPB.out.ext hb2
     have hR := HRB.out.ext hb2
     have hW := HWB.out.ext hb2
     have hB := bt HBB.out hb2
     clear HAB HPB HRB HBB HWB hb2 hv0
     simp only [Option.map_some, orGave]
     obtain ⟨w3, rfl, lt⟩ := blk_put hA
     obtain ⟨pc, pf, pS⟩ := putBlk_facts (w := w3) 42 lt
     have HAB := hd_ (putBlk_blk (w := w3) (b := w.heap.size + 1) #[.int .u8 d, .int .u8 0, .int .i64 0, .slice none 0 0, .int .i64 v0, .int .i64 0, .int .i64 0, .string (bsO nm)] 42 lt)
     have HPB := hd_ (putBlk_old hP hPs.1 #[.int .u8 d, .int .u8 0, .int .i64 0, .slice none 0 0, .int .i64 v0, .int .i64 0, .int .i64 0, .string (bsO nm)])
     have HRB := hd_ (putBlk_old hR (by omega) #[.int .u8 d, .int .u8 0, .int .i64 0, .slice none 0 0, .int .i64 v0, .int .i64 0, .int .i64 0, .string (bsO nm)])
     have HWB := hd_ (hW.put hgA #[.int .u8 d, .int .u8 0, .int .i64 0, .slice none 0 0, .int .i64 v0, .int .i64 0, .int .i64 0, .string (bsO nm)])
     have HBB := hd_ (putBlk_belows hB (by omega) #[.int .u8 d, .int .u8 0, .int .i64 0, .slice none 0 0, .int .i64 v0, .int .i64 0, .int .i64 0, .string (bsO nm)])
     clear hA hP hR hB hW
     go_wp2_with fail
     clear pc pf pS lt
     generalize putBlk w3 (w.heap.size + 1) #[.int .u8 d, .int .u8 0, .int .i64 0, .slice none 0 0, .int .i64 v0, .int .i64 0, .int .i64 0, .string (bsO nm)] 42 = W3 at HAB HPB HRB HBB HWB ⊢
     obtain ⟨pL, p0, p1, p2⟩ := blk3p HPB.out
     have hxc := HWB.out.2 1 x1 rfl
     have hgl := HWB.out.1
     simp only [Nat.zero_add] at hxc
     rw [rounds_succ]
     go_wp2_with fail
     refine (HLG.out x1 (by simp) _ HBB.out).mono ?_
     clear hxc hgl pL p0 p1 p2
     cases hv1 : longZ x1 with
     | none =>
      rintro r w2 ⟨rfl, hb2⟩
      have HBN := hd_ (bt HBB.out hb2)
      have hN : O = none := by rw [← HO.out]; simp [numsR, numO, HX0.out, hv1]
      have HN := hd_ hN
      clear hN hv1 hb2
      simp only [Option.map_none, orGave]
      unfold gaveW
      go_wp2_with fail
      exact ⟨rfl, by rw [HN.out]; rfl, HBN.out⟩
     | some v1 =>
      rintro r w2 ⟨rfl, hb2⟩
      have HX1 := hd_ hv1
      have hA := HAB.out.ext hb2
      have hP := HPB.out.ext hb2
      have hR := HRB.out.ext hb2
      have hW := HWB.out.ext hb2
      have hB := bt HBB.out hb2
      clear HAB HPB HRB HBB HWB hb2 hv1
      simp only [Option.map_some, orGave]
      obtain ⟨w3, rfl, lt⟩ := blk_put hA
      obtain ⟨pc, pf, pS⟩ := putBlk_facts (w := w3) 42 lt
      have HAB := hd_ (putBlk_blk (w := w3) (b := w.heap.size + 1) #[.int .u8 d, .int .u8 0, .int .i64 0, .slice none 0 0, .int .i64 v0, .int .i64 v1, .int .i64 0, .string (bsO nm)] 42 lt)
      have HPB := hd_ (putBlk_old hP hPs.1 #[.int .u8 d, .int .u8 0, .int .i64 0, .slice none 0 0, .int .i64 v0, .int .i64 v1, .int .i64 0, .string (bsO nm)])
      have HRB := hd_ (putBlk_old hR (by omega) #[.int .u8 d, .int .u8 0, .int .i64 0, .slice none 0 0, .int .i64 v0, .int .i64 v1, .int .i64 0, .string (bsO nm)])
      have HWB := hd_ (hW.put hgA #[.int .u8 d, .int .u8 0, .int .i64 0, .slice none 0 0, .int .i64 v0, .int .i64 v1, .int .i64 0, .string (bsO nm)])
      have HBB := hd_ (putBlk_belows hB (by omega) #[.int .u8 d, .int .u8 0, .int .i64 0, .slice none 0 0, .int .i64 v0, .int .i64 v1, .int .i64 0, .string (bsO nm)])
      clear hA hP hR hB hW
      go_wp2_with fail
      clear pc pf pS lt
      generalize putBlk w3 (w.heap.size + 1) #[.int .u8 d, .int .u8 0, .int .i64 0, .slice none 0 0, .int .i64 v0, .int .i64 v1, .int .i64 0, .string (bsO nm)] 42 = W4 at HAB HPB HRB HBB HWB ⊢
      obtain ⟨pL, p0, p1, p2⟩ := blk3p HPB.out
      have hxc := HWB.out.2 2 x2 rfl
      have hgl := HWB.out.1
      simp only [Nat.zero_add] at hxc
      rw [rounds_succ]
      go_wp2_with fail
      refine (HLG.out x2 (by simp) _ HBB.out).mono ?_
      clear hxc hgl pL p0 p1 p2
      cases hv2 : longZ x2 with
      | none =>
       rintro r w2 ⟨rfl, hb2⟩
       have HBN := hd_ (bt HBB.out hb2)
       have hN : O = none := by rw [← HO.out]; simp [numsR, numO, HX0.out, HX1.out, hv2]
       have HN := hd_ hN
       clear hN hv2 hb2
       simp only [Option.map_none, orGave]
       unfold gaveW
       go_wp2_with fail
       exact ⟨rfl, by rw [HN.out]; rfl, HBN.out⟩
      | some v2 =>
       rintro r w2 ⟨rfl, hb2⟩
       have HX2 := hd_ hv2
       have hA := HAB.out.ext hb2
       have hP := HPB.out.ext hb2
       have hR := HRB.out.ext hb2
       have hW := HWB.out.ext hb2
       have hB := bt HBB.out hb2
       clear HAB HPB HRB HBB HWB hb2 hv2
       simp only [Option.map_some, orGave]
       obtain ⟨w3, rfl, lt⟩ := blk_put hA
       obtain ⟨pc, pf, pS⟩ := putBlk_facts (w := w3) 42 lt
       have HAB := hd_ (putBlk_blk (w := w3) (b := w.heap.size + 1) #[.int .u8 d, .int .u8 0, .int .i64 0, .slice none 0 0, .int .i64 v0, .int .i64 v1, .int .i64 v2, .string (bsO nm)] 42 lt)
       have HPB := hd_ (putBlk_old hP hPs.1 #[.int .u8 d, .int .u8 0, .int .i64 0, .slice none 0 0, .int .i64 v0, .int .i64 v1, .int .i64 v2, .string (bsO nm)])
       have HRB := hd_ (putBlk_old hR (by omega) #[.int .u8 d, .int .u8 0, .int .i64 0, .slice none 0 0, .int .i64 v0, .int .i64 v1, .int .i64 v2, .string (bsO nm)])
       have HWB := hd_ (hW.put hgA #[.int .u8 d, .int .u8 0, .int .i64 0, .slice none 0 0, .int .i64 v0, .int .i64 v1, .int .i64 v2, .string (bsO nm)])
       have HBB := hd_ (putBlk_belows hB (by omega) #[.int .u8 d, .int .u8 0, .int .i64 0, .slice none 0 0, .int .i64 v0, .int .i64 v1, .int .i64 v2, .string (bsO nm)])
       clear hA hP hR hB hW
       go_wp2_with fail
       clear pc pf pS lt
       generalize putBlk w3 (w.heap.size + 1) #[.int .u8 d, .int .u8 0, .int .i64 0, .slice none 0 0, .int .i64 v0, .int .i64 v1, .int .i64 v2, .string (bsO nm)] 42 = W5 at HAB HPB HRB HBB HWB ⊢
       have hN : O = some ⟨d, 0, 0, [], v0, v1, v2, bsO nm⟩ := by rw [← HO.out]; simp [numsR, numO, HX0.out, HX1.out, HX2.out]
       have HN := hd_ hN
       clear hN
       have hA := HAB.out
       have hR := HRB.out
       have hB := HBB.out
       have hne : w.heap.size ≠ w.heap.size + 1 := by omega
       clear HAB HPB HRB HBB
       obtain ⟨w9, rfl, lt9⟩ := blk_put hR
       obtain ⟨pc, pf, pS⟩ := putBlk_facts (w := w9) 42 lt9
       obtain ⟨lA, y0, y1, y2, y3, y4, y5, y6, y7⟩ := blkA hA
       have HBF := hd_ (putBlk_belows hB (Nat.le_refl _) #[.int .u8 d, .int .u8 0, .int .i64 0, .slice none 0 0, .int .i64 v0, .int .i64 v1, .int .i64 v2, .string (bsO nm)])
       clear hA hR hB
       rw [rounds_succ]
       go_wp2_with fail
       refine bodyPost_ret (v := Ac.agg ⟨d, 0, 0, [], v0, v1, v2, bsO nm⟩ none 0) (by simp [results, Tryz.results130, go_sem, Ac.agg, pc]) rfl ?_
       exact ⟨by rw [HN.out]; rfl, HBF.out⟩
 · have hN : O = none := by rw [← HO.out, formR_len hlen]
   have HN := hd_ hN
   have hne : ((ws.length : Int) == 4) = false := by simp only [beq_eq_false_iff_ne, ne_eq]; omega
   clear hN hlen
   go_wp2_with fail
   refine (need_no _).mono ?_
   rintro r w1 ⟨rfl, rfl⟩
   unfold gaveW
   go_wp2_with fail
   exact ⟨rfl, by rw [HN.out]; rfl, HB0.out⟩
def TailB (P : Program) (ops : Array Oper) (Q : Exit → Act → World → Prop) : List Oper → Act → World → Prop
 | [], a, w => Q .normal a w
 | o :: os, a, w => ∀ K' : Act → World → Prop, Shut (∀ a' w', TailB P ops Q os a' w' → K' a' w') →
  if Region.wanted o (yielded ops a.tmps) = true then Oper.wp P o a w K' Q else K' (Act.put a o.dst undef) w
def chainB (ops : Array Oper) (n : Nat) : Bool := (List.range ops.size).all fun i => decide (i ≤ n) || match ops[i]? with | some o => (depsOf o).contains (i - 1) | none => false
theorem region_tail {P : Program} {id : Nat} {ops : Array Oper} {Q : Exit → Act → World → Prop} {L : List Value} {df : List Deferred} {w0 : World} (n : Nat) (mask : List Bool) (dsts : List Nat) (ps : List Known) (fin : List Nat)
 (hm : P.follows .mixedOrders = true) (hn : n < ops.size) (hb : backB ops = true) (hf : feedB ops n = true) (hch : chainB ops n = true) (hdl : dsts = (List.range n).map (dstN ops)) (hd : distB (ops.extract 0 n) = true) (hfin : fin.all (fun j => decide (j < n)) = true)
 (hs : Steps P ops Q mask L df ps (fun i => dsts.getD i 0) w0 0 (ops.toList.take n))
 (hdone : ∀ x w, Below w0.heap.size w0 w → StepGoal ps (fun i => dsts.getD i 0) w (fun x => TailB P ops Q (ops.toList.drop n) ⟨(overlay x 0 mask L).toArray, df⟩ w) fin x) :
 (Code.region id ops true).wp P Q ⟨L.toArray, df⟩ w0 := by
 have hdg : ∀ i, i < n → dsts.getD i 0 = dstN ops i := by
  intro i hi
  rw [hdl, List.getD_eq_getElem?_getD, List.getElem?_map, List.getElem?_range hi]
  rfl
 have hdist : ∀ i j, i < n → j < n → i ≠ j → dstN ops i ≠ dstN ops j := by
  intro i j hi hj hne
  have hsz : (ops.extract 0 n).size = n := by simp; omega
  have h1 := List.all_eq_true.1 (List.all_eq_true.1 hd i (List.mem_range.2 (by omega))) j (List.mem_range.2 (by omega))
  have e : ∀ q, q < n → dstN (ops.extract 0 n) q = dstN ops q := by
   intro q hq
   unfold dstN
   rw [Array.getElem?_extract, if_pos (by omega), Nat.zero_add]
  rw [e i hi, e j hj] at h1
  simpa [hne] using h1
 have hch' : ∀ i o, n < i → ops[i]? = some o → ∃ e ∈ o.after, Region.binds .any e = true ∧ e.on = i - 1 := by
  intro i o hi ho
  have his : i < ops.size := (Array.getElem?_eq_some_iff.1 ho).1
  have h1 := List.all_eq_true.1 hch i (List.mem_range.2 his)
  rw [ho] at h1
  simp only [Bool.or_eq_true, decide_eq_true_eq] at h1
  rcases h1 with h1 | h1
  · omega
  · exact mem_deps h1
 let dc : Array Bool → Prop := fun listed => ∀ i o, ops[i]? = some o → listed.getD i false = true → ∀ e ∈ o.after, Region.binds .any e = true → listed.getD e.on false = true
 have hon : ops[n]? = some ops[n] := Array.getElem?_eq_getElem hn
 have hcl : ∀ listed : Array Bool, dc listed → (∀ e ∈ ops[n].after, Region.binds .any e = true → listed.getD e.on false = true) → ∀ m i, i + m = n → 0 < m → listed.getD i false = true := by
  intro listed hdc hl m
  induction m using Nat.strongRecOn with
  | _ m ih =>
   intro i him hm0
   have h1 := List.all_eq_true.1 hf i (List.mem_range.2 (by omega))
   obtain ⟨j, hj, h2⟩ := List.any_eq_true.1 h1
   have hj' := List.mem_range.1 hj
   have hjs : j < ops.size := by omega
   have ho : ops[j]? = some ops[j] := Array.getElem?_eq_getElem hjs
   rw [ho] at h2
   obtain ⟨e, he, hbd, hei⟩ := mem_deps h2
   have hlt : e.on < j := back_lt hb ho he hbd
   subst hei
   by_cases hjn : j = n
   · subst hjn
     exact hl e he hbd
   · exact hdc j _ ho (ih (n - j) (by omega) j (by omega) (by omega)) e he hbd
 -- an operation behind n that is listed has n listed
 have hup : ∀ listed : Array Bool, dc listed → ∀ m i, i = n + m → i < ops.size → listed.getD i false = true → listed.getD n false = true := by
  intro listed hdc m
  induction m with
  | zero => intro i hi _ h; rw [hi] at h; exact h
  | succ m ih =>
   intro i hi his h
   obtain ⟨e, he, hbd, hei⟩ := hch' i ops[i] (by omega) (Array.getElem?_eq_getElem his)
   have := hdc i ops[i] (Array.getElem?_eq_getElem his) h e he hbd
   exact ih e.on (by omega) (by omega) this
 refine wp_region_any hm (wpAny_inv (fun listed a w => dc listed ∧ ((∃ j, n < j ∧ j ≤ ops.size ∧ (∀ i, i < j → listed.getD i false = true) ∧ (∀ i, j ≤ i → i < ops.size → listed.getD i false = false) ∧ TailB P ops Q (ops.toList.drop j) a w) ∨ (listed.getD n false = false ∧ ∃ x : Nat → Value, a = ⟨(overlay x 0 mask L).toArray, df⟩ ∧ Below w0.heap.size w0 w ∧ ∀ i, i < n → listed.getD i false = true → (ps.getD i kAny).holds (x (dsts.getD i 0)) w))) ?_ ?_ _ _ _ _ (by simp) (by simp) ?_)
 · rintro listed a w i hsz ⟨hdc, hor⟩ hi
   obtain ⟨hun, o, ho, hall⟩ := mem_ready.1 hi
   have his : i < ops.size := (Array.getElem?_eq_some_iff.1 ho).1
   have hun' : listed.getD i false = false := by
    rw [Array.getD_eq_getD_getElem?] at hun ⊢
    rw [Array.getElem?_eq_getElem (by omega)] at hun ⊢
    exact hun
   have hset : ∀ j, j ≠ i → (listed.setIfInBounds i true).getD j false = listed.getD j false := by
    intro j hji
    rw [Array.getD_eq_getD_getElem?, Array.getD_eq_getD_getElem?, Array.getElem?_setIfInBounds_ne (Ne.symm hji)]
   have hself : (listed.setIfInBounds i true).getD i false = true := by
    rw [Array.getD_eq_getD_getElem?, Array.getElem?_setIfInBounds_self_of_lt (by omega)]
    rfl
   have hdc' : dc (listed.setIfInBounds i true) := by
    intro j oj hoj hlj e he hbd
    have key : listed.getD e.on false = true := by
     by_cases hji : j = i
     · subst hji
       rw [ho] at hoj
       cases hoj
       exact hall e he hbd
     · rw [hset j hji] at hlj
       exact hdc j oj hoj hlj e he hbd
    by_cases hei : e.on = i
    · rw [hei] at key
      rw [hun'] at key
      cases key
    · rw [hset _ hei]
      exact key
   rcases hor with ⟨j, hnj, hjs, hl1, hl2, hT⟩ | ⟨hln, x, rfl, hbw, hk⟩
   · have hij : j ≤ i := by
      rcases Nat.lt_or_ge i j with h | h
      · rw [hl1 i h] at hun'; cases hun'
      · exact h
     have hie : i = j := by
      by_cases h : i = j
      · exact h
      · exfalso
        obtain ⟨e, he, hbd, hei⟩ := hch' i o (by omega) ho
        have h1 := hall e he hbd
        rw [hl2 e.on (by omega) (by omega)] at h1
        cases h1
     subst hie
     have hdr : ops.toList.drop i = o :: ops.toList.drop (i + 1) := by
      have hi' : i < ops.toList.length := by simpa using his
      rw [List.drop_eq_getElem_cons hi']
      congr 1
      have := (Array.getElem?_eq_some_iff.1 ho).2
      simpa using this
     rw [hdr] at hT
     refine wpOp_step ho (fun K' hK => hT K' (fun a' w' hq => hK _ _ ⟨hdc', Or.inl ⟨i + 1, by omega, by omega, ?_, ?_, hq⟩⟩))
     · intro q hq
       by_cases hqi : q = i
       · rw [hqi]; exact hself
       · rw [hset q hqi]; exact hl1 q (by omega)
     · intro q hq hqs
       rw [hset q (by omega)]
       exact hl2 q (by omega) hqs
   · by_cases hin : i = n
     · subst hin
       have hoo : o = ops[i] := by
        have := (Array.getElem?_eq_some_iff.1 ho).2
        exact this.symm
       have hallA : ∀ q, q < i → listed.getD q false = true := fun q hq => hcl listed hdc (fun e he hbd => hall e (by rw [hoo]; exact he) hbd) (i - q) q (by omega) (by omega)
       have hbd := StepGoal.use fin x (fun j hj => by
        have hjs : j < i := of_decide_eq_true (List.all_eq_true.1 hfin j hj)
        exact hk j hjs (hallA j hjs)) (hdone x w hbw)
       have hdr : ops.toList.drop i = o :: ops.toList.drop (i + 1) := by
        have hi' : i < ops.toList.length := by simpa using his
        rw [List.drop_eq_getElem_cons hi']
        congr 1
        have := (Array.getElem?_eq_some_iff.1 ho).2
        simpa using this
       rw [hdr] at hbd
       refine wpOp_step ho (fun K' hK => hbd K' (fun a' w' hq => hK _ _ ⟨hdc', Or.inl ⟨i + 1, by omega, by omega, ?_, ?_, hq⟩⟩))
       · intro q hq
         by_cases hqi : q = i
         · rw [hqi]; exact hself
         · rw [hset q hqi]; exact hallA q (by omega)
       · intro q hq hqs
         rw [hset q (by omega)]
         cases hv : listed.getD q false with
         | false => rfl
         | true =>
          have := hup listed hdc (q - i) q (by omega) hqs hv
          rw [hln] at this; cases this
     · have hilt : i < n := by
        rcases Nat.lt_or_ge i n with h | h
        · exact h
        · exfalso
          obtain ⟨e, he, hbd, hei⟩ := hch' i o (by omega) ho
          have h1 := hall e he hbd
          have h2 := hup listed hdc (e.on - n) e.on (by omega) (by omega) h1
          rw [hln] at h2; cases h2
       have hst := Steps.at_ (ops.toList.take n) 0 i o hs (by rw [List.getElem?_take_of_lt hilt, Array.getElem?_toList]; exact ho) x w hbw
       rw [Nat.zero_add] at hst
       have hbd := StepGoal.use (depsOf o) x (fun j hj => by
        obtain ⟨e, he, rfl⟩ := List.mem_map.1 hj
        obtain ⟨he1, he2⟩ := List.mem_filter.1 he
        have hl := hall e (by simpa using he1) he2
        refine hk e.on ?_ hl
        have hlt : e.on < i := back_lt hb ho (by simpa using he1) he2
        omega) hst
       refine wpOp_step ho (fun K' hK => hbd K' (fun v w' hb' hv => hK _ _ ⟨hdc', Or.inr ⟨?_, upd x (dsts.getD i 0) v, rfl, hbw.trans (hb'.mono hbw.size), fun j hj hlj => ?_⟩⟩))
       · rw [hset n (by omega)]; exact hln
       · by_cases hji : j = i
         · subst hji; rw [upd_eq]; exact hv
         · have hne : dsts.getD j 0 ≠ dsts.getD i 0 := by
            rw [hdg j hj, hdg i hilt]
            exact hdist j i hj hilt hji
           rw [upd_ne hne]
           rw [hset j hji] at hlj
           exact Known.ext (hk j hj hlj) hb'
 · rintro listed a w hsz ⟨hdc, hor⟩ hr
   have hal := all_listed hb hsz hr
   rcases hor with ⟨j, hnj, hjs, hl1, hl2, hT⟩ | ⟨hln, _⟩
   · have hje : j = ops.size := by
      rcases Nat.lt_or_ge j ops.size with h | h
      · have := hal (j + 1) j (by omega) h
        rw [hl2 j (Nat.le_refl _) h] at this; cases this
      · omega
     subst hje
     rw [List.drop_eq_nil_of_le (by simp)] at hT
     exact hT
   · rw [hal (n + 1) n (by omega) hn] at hln
     cases hln
 · refine ⟨fun i o _ h => ?_, Or.inr ⟨?_, fun j => L.getD j undef, ?_, (Below.refl _ _).drew, fun i hi h => ?_⟩⟩
   · exfalso
     rw [Array.getD_eq_getD_getElem?] at h
     by_cases hi : i < ops.size
     · simp [hi] at h
     · simp [Nat.not_lt.1 hi] at h
   · rw [Array.getD_eq_getD_getElem?]
     simp [hn]
   · have := overlay_self L [] mask
     rw [List.nil_append, List.length_nil] at this
     rw [this]
   · rw [Array.getD_eq_getD_getElem?] at h
     simp [show i < ops.size by omega] at h
end Go.Proofs.YtfekohonidggjaaGreatDoor
