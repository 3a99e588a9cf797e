/- Texts joined by a tool: contracts and walks of this claim. -/
import Derived.Test.YtfekohonidggjaaGreatDoorB18
import Derived.Test.YtfekohonidggjaaGreatDoorB22
namespace Go.Proofs.YtfekohonidggjaaGreatDoor
open Go.RowKit
def WsAt (w : World) (g off : Nat) (ws : List (List UInt8)) : Prop := g < w.heap.size ∧ ∀ (j : Nat) x, ws[j]? = some x → w.cell? ⟨g, off + j, none⟩ = some (.string (bsO x))
theorem WsAt.ext {w w' : World} {g off : Nat} {ws : List (List UInt8)} (h : WsAt w g off ws) (hb : Below w.heap.size w w') : WsAt w' g off ws :=
 ⟨Nat.lt_of_lt_of_le h.1 hb.size, fun j x hj => (hb.cell (p := ⟨g, off + j, none⟩) h.1).trans (h.2 j x hj)⟩
theorem blk3p {w : World} {b : Nat} {a0 a1 a2 : Value} {t : TypeId} (h : Blk w b #[a0, a1, a2] t) : b < w.heap.size ∧ w.cell? ⟨b, 0, none⟩ = some a0 ∧ w.cell? ⟨b, 1, none⟩ = some a1 ∧ w.cell? ⟨b, 2, none⟩ = some a2 := by
 have e0 := h.cell 0
 have e1 := h.cell 1
 have e2 := h.cell 2
 simp only [List.getElem?_toArray, List.getElem?_cons_zero, List.getElem?_cons_succ] at e0 e1 e2
 exact ⟨h.lt, e0, e1, e2⟩
theorem len0 {α : Type} {l : List α} (h : l.length = 0) : ∃ _ : Unit, l = [] := ⟨(), List.eq_nil_of_length_eq_zero h⟩
theorem len1 {α : Type} {l : List α} (h : l.length = 1) : ∃ a, l = [a] := by
 rcases l with _ | ⟨a, _ | ⟨b, l⟩⟩
 · cases h
 · exact ⟨a, rfl⟩
 · simp at h
theorem len2 {α : Type} {l : List α} (h : l.length = 2) : ∃ a b, l = [a, b] := by
 rcases l with _ | ⟨a, _ | ⟨b, _ | ⟨c, l⟩⟩⟩
 · cases h
 · simp at h
 · exact ⟨a, b, rfl⟩
 · simp at h
theorem len3 {α : Type} {l : List α} (h : l.length = 3) : ∃ a b c, l = [a, b, c] := by
 rcases l with _ | ⟨a, _ | ⟨b, _ | ⟨c, _ | ⟨e, l⟩⟩⟩⟩
 · cases h
 · simp at h
 · simp at h
 · exact ⟨a, b, c, rfl⟩
 · simp at h
def acO (o : Option Ac) : Ending := orGave (o.map fun a => a.agg none 0)
def numO (d : Int) (nm : ByteArray) (o : Option (Int × Int × Int)) : Option Ac := o.map fun x => ⟨d, 0, 0, [], x.1, x.2.1, x.2.2, nm⟩
theorem formR_no {d : Int} {c : Nat} {l : List (List UInt8)} : formR d c false l = numO d (bsO []) (numsR c l) := by
 unfold formR numO
 simp only [Bool.false_eq_true, if_false]
 cases h : numsR c l with
 | none => rfl
 | some x => obtain ⟨u, v, t⟩ := x; rfl
theorem nums_len {c : Nat} {l : List (List UInt8)} (hc : c ≤ 3) (h : l.length ≠ c) : numsR c l = none := by
 have : c = 0 ∨ c = 1 ∨ c = 2 ∨ c = 3 := by omega
 rcases this with rfl | rfl | rfl | rfl
 · rcases l with _ | ⟨a, l⟩
   · exact absurd rfl h
   · rfl
 · rcases l with _ | ⟨a, _ | ⟨b, l⟩⟩
   · rfl
   · exact absurd rfl h
   · rfl
 · rcases l with _ | ⟨a, _ | ⟨b, _ | ⟨c, l⟩⟩⟩
   · rfl
   · rfl
   · exact absurd rfl h
   · rfl
 · rcases l with _ | ⟨a, _ | ⟨b, _ | ⟨c, _ | ⟨e, l⟩⟩⟩⟩
   · rfl
   · rfl
   · rfl
   · exact absurd rfl h
   · rfl
set_option maxRecDepth 100000 in
set_option maxHeartbeats 6400000 in
theorem rdF0_any (d : Int) (wd : List UInt8) (ws : List (List UInt8)) (hw : ∀ x ∈ ws, x.length ≤ 281474976710656) (hlw : ws.length ≤ 281474976710656) (g off cap a b : Nat) (w : World) (hL : LayS w) (hl : WsAt w g off ws) (ha : Blk w a #[.int .u8 d] 5) (hb : Blk w b #[.string (bsO wd), .int .i64 0, .bool false] 129) :
 Calls Tryz.prog 130 #[.slice (some ⟨g, off, none⟩) ws.length cap, .pointer (some ⟨a, 0, none⟩), .pointer (some ⟨b, 0, none⟩)] w fun r w' => r = acO (formR d 0 false ws) ∧ Below w.heap.size w w' := by
 rw [formR_no]
 generalize hO : numO d (bsO []) (numsR 0 ws) = O
 have HO := hd_ hO
 have HLG := hd_ (fun (x : List UInt8) (hx : x ∈ ws) (W : World) (hW : Below w.heap.size w W) => (show Calls Tryz.prog 99 #[.string (bsO x)] W fun r w' => r = orGave ((longZ x).map fun v => .int .i64 v) ∧ Below W.heap.size W w' from longS_any (bsO x) (by rw [bsO_size]; exact hw x hx) W (hL.ext hW)))
 have HWS := hd_ hl
 obtain ⟨a0, _, aL⟩ := blk1c ha
 obtain ⟨bL, b0, b1, b2⟩ := blkF hb
 have HFB := hd_ hb
 have hR0 : Blk ((w.alloc (.cells #[.int .u8 0, .int .u8 0, .int .i64 0, .slice none 0 0, .int .i64 0, .int .i64 0, .int .i64 0, .string ⟨#[]⟩] 42)).alloc (.cells #[.int .u8 d, .int .u8 0, .int .i64 0, .slice none 0 0, .int .i64 0, .int .i64 0, .int .i64 0, .string ⟨#[]⟩] 42)) w.heap.size #[.int .u8 0, .int .u8 0, .int .i64 0, .slice none 0 0, .int .i64 0, .int .i64 0, .int .i64 0, .string ⟨#[]⟩] 42 := (Blk.new w _ _).old _
 have hA0 : Blk ((w.alloc (.cells #[.int .u8 0, .int .u8 0, .int .i64 0, .slice none 0 0, .int .i64 0, .int .i64 0, .int .i64 0, .string ⟨#[]⟩] 42)).alloc (.cells #[.int .u8 d, .int .u8 0, .int .i64 0, .slice none 0 0, .int .i64 0, .int .i64 0, .int .i64 0, .string ⟨#[]⟩] 42)) (w.heap.size + 1) #[.int .u8 d, .int .u8 0, .int .i64 0, .slice none 0 0, .int .i64 0, .int .i64 0, .int .i64 0, .string ⟨#[]⟩] 42 := by
  have := Blk.new (w.alloc (.cells #[.int .u8 0, .int .u8 0, .int .i64 0, .slice none 0 0, .int .i64 0, .int .i64 0, .int .i64 0, .string ⟨#[]⟩] 42)) #[.int .u8 d, .int .u8 0, .int .i64 0, .slice none 0 0, .int .i64 0, .int .i64 0, .int .i64 0, .string ⟨#[]⟩] 42
  simpa using this
 have hb0 : Below w.heap.size w ((w.alloc (.cells #[.int .u8 0, .int .u8 0, .int .i64 0, .slice none 0 0, .int .i64 0, .int .i64 0, .int .i64 0, .string ⟨#[]⟩] 42)).alloc (.cells #[.int .u8 d, .int .u8 0, .int .i64 0, .slice none 0 0, .int .i64 0, .int .i64 0, .int .i64 0, .string ⟨#[]⟩] 42)) := (by repeat (first | exact Below.refl _ _ | assumption | refine Below.drew ?_ | refine below_drewN ?_ _ | refine Below.alloc ?_ (by simp <;> omega) _))
 have HR0 := hd_ hR0
 have HA0 := hd_ hA0
 have HB0 := hd_ hb0
 clear hO hL hl ha hb hR0 hA0 hb0
 go_enter Tryz.func130, Tryz.ntmps130
 go_upto_region 2 with fail
 clear a0 aL bL b0 b1 b2
 generalize (w.alloc (.cells #[.int .u8 0, .int .u8 0, .int .i64 0, .slice none 0 0, .int .i64 0, .int .i64 0, .int .i64 0, .string ⟨#[]⟩] 42)).alloc (.cells #[.int .u8 d, .int .u8 0, .int .i64 0, .slice none 0 0, .int .i64 0, .int .i64 0, .int .i64 0, .string ⟨#[]⟩] 42) = W0 at HR0 HA0 HB0 ⊢
 obtain ⟨bL, b0, b1, b2⟩ := blkF (HFB.out.ext HB0.out)
 by_cases hlen : ws.length = 0
 · obtain ⟨_, rfl⟩ := len0 hlen
   clear hlen
   simp only [List.length_nil]
   go_wp2_with fail
   refine (need_yes _).mono ?_
   rintro r w1 ⟨rfl, rfl⟩
   go_wp2_with fail
   have hPB := Blk.new w1 #[.pointer (some ⟨w.heap.size + 1, 4, none⟩), .pointer (some ⟨w.heap.size + 1, 5, none⟩), .pointer (some ⟨w.heap.size + 1, 6, none⟩)] 187
   have hbP := HB0.out.alloc HB0.out.size (.cells #[.pointer (some ⟨w.heap.size + 1, 4, none⟩), .pointer (some ⟨w.heap.size + 1, 5, none⟩), .pointer (some ⟨w.heap.size + 1, 6, none⟩)] 187)
   have HPB := hd_ hPB
   have HAB := hd_ (HA0.out.old (.cells #[.pointer (some ⟨w.heap.size + 1, 4, none⟩), .pointer (some ⟨w.heap.size + 1, 5, none⟩), .pointer (some ⟨w.heap.size + 1, 6, none⟩)] 187))
   have HRB := hd_ (HR0.out.old (.cells #[.pointer (some ⟨w.heap.size + 1, 4, none⟩), .pointer (some ⟨w.heap.size + 1, 5, none⟩), .pointer (some ⟨w.heap.size + 1, 6, none⟩)] 187))
   have HBB := hd_ hbP
   have hPs : w1.heap.size ≠ w.heap.size + 1 ∧ w1.heap.size ≠ w.heap.size := by
    have := HA0.out.lt
    omega
   clear hPB hbP HA0 HR0 HB0 bL b0 b1 b2
   generalize w1.heap.size = Pb at HPB hPs ⊢
   generalize w1.alloc (.cells #[.pointer (some ⟨w.heap.size + 1, 4, none⟩), .pointer (some ⟨w.heap.size + 1, 5, none⟩), .pointer (some ⟨w.heap.size + 1, 6, none⟩)] 187) = W1 at HPB HAB HRB HBB ⊢
   refine wp_loop_rounds 1 ?_
   have hN : O = some ⟨d, 0, 0, [], 0, 0, 0, bsO []⟩ := by rw [← HO.out]; simp [numsR, numO]
   have HN := hd_ hN
   clear hN
   have hA := HAB.out
   have hR := HRB.out
   have hB := HBB.out
   have hne : w.heap.size ≠ w.heap.size + 1 := by omega
   clear HAB HPB HRB HBB
   obtain ⟨w9, rfl, lt9⟩ := blk_put hR
   obtain ⟨pc, pf, pS⟩ := putBlk_facts (w := w9) 42 lt9
   obtain ⟨lA, y0, y1, y2, y3, y4, y5, y6, y7⟩ := blkA hA
   have HBF := hd_ (putBlk_belows hB (Nat.le_refl _) #[.int .u8 d, .int .u8 0, .int .i64 0, .slice none 0 0, .int .i64 0, .int .i64 0, .int .i64 0, .string ⟨#[]⟩])
   clear hA hR hB
   rw [rounds_succ]
   go_wp2_with fail
   refine bodyPost_ret (v := Ac.agg ⟨d, 0, 0, [], 0, 0, 0, bsO []⟩ none 0) (by simp [results, Tryz.results130, go_sem, Ac.agg, pc, bsO]) rfl ?_
   exact ⟨by rw [HN.out]; rfl, HBF.out⟩
 · have hN : O = none := by rw [← HO.out, nums_len (by omega) hlen]; rfl
   have HN := hd_ hN
   have hne : ((ws.length : Int) == 0) = false := by simp only [beq_eq_false_iff_ne, ne_eq]; omega
   clear hN hlen
   go_wp2_with fail
   refine (need_no _).mono ?_
   rintro r w1 ⟨rfl, rfl⟩
   unfold gaveW
   go_wp2_with fail
   exact ⟨rfl, by rw [HN.out]; rfl, HB0.out⟩
set_option maxRecDepth 100000 in
set_option maxHeartbeats 6400000 in
theorem rdF1_any (d : Int) (wd : List UInt8) (ws : List (List UInt8)) (hw : ∀ x ∈ ws, x.length ≤ 281474976710656) (hlw : ws.length ≤ 281474976710656) (g off cap a b : Nat) (w : World) (hL : LayS w) (hl : WsAt w g off ws) (ha : Blk w a #[.int .u8 d] 5) (hb : Blk w b #[.string (bsO wd), .int .i64 1, .bool false] 129) :
 Calls Tryz.prog 130 #[.slice (some ⟨g, off, none⟩) ws.length cap, .pointer (some ⟨a, 0, none⟩), .pointer (some ⟨b, 0, none⟩)] w fun r w' => r = acO (formR d 1 false ws) ∧ Below w.heap.size w w' := by
 rw [formR_no]
 generalize hO : numO d (bsO []) (numsR 1 ws) = O
 have HO := hd_ hO
 have HLG := hd_ (fun (x : List UInt8) (hx : x ∈ ws) (W : World) (hW : Below w.heap.size w W) => (show Calls Tryz.prog 99 #[.string (bsO x)] W fun r w' => r = orGave ((longZ x).map fun v => .int .i64 v) ∧ Below W.heap.size W w' from longS_any (bsO x) (by rw [bsO_size]; exact hw x hx) W (hL.ext hW)))
 have HWS := hd_ hl
 obtain ⟨a0, _, aL⟩ := blk1c ha
 obtain ⟨bL, b0, b1, b2⟩ := blkF hb
 have HFB := hd_ hb
 have hR0 : Blk ((w.alloc (.cells #[.int .u8 0, .int .u8 0, .int .i64 0, .slice none 0 0, .int .i64 0, .int .i64 0, .int .i64 0, .string ⟨#[]⟩] 42)).alloc (.cells #[.int .u8 d, .int .u8 0, .int .i64 0, .slice none 0 0, .int .i64 0, .int .i64 0, .int .i64 0, .string ⟨#[]⟩] 42)) w.heap.size #[.int .u8 0, .int .u8 0, .int .i64 0, .slice none 0 0, .int .i64 0, .int .i64 0, .int .i64 0, .string ⟨#[]⟩] 42 := (Blk.new w _ _).old _
 have hA0 : Blk ((w.alloc (.cells #[.int .u8 0, .int .u8 0, .int .i64 0, .slice none 0 0, .int .i64 0, .int .i64 0, .int .i64 0, .string ⟨#[]⟩] 42)).alloc (.cells #[.int .u8 d, .int .u8 0, .int .i64 0, .slice none 0 0, .int .i64 0, .int .i64 0, .int .i64 0, .string ⟨#[]⟩] 42)) (w.heap.size + 1) #[.int .u8 d, .int .u8 0, .int .i64 0, .slice none 0 0, .int .i64 0, .int .i64 0, .int .i64 0, .string ⟨#[]⟩] 42 := by
  have := Blk.new (w.alloc (.cells #[.int .u8 0, .int .u8 0, .int .i64 0, .slice none 0 0, .int .i64 0, .int .i64 0, .int .i64 0, .string ⟨#[]⟩] 42)) #[.int .u8 d, .int .u8 0, .int .i64 0, .slice none 0 0, .int .i64 0, .int .i64 0, .int .i64 0, .string ⟨#[]⟩] 42
  simpa using this
 have hb0 : Below w.heap.size w ((w.alloc (.cells #[.int .u8 0, .int .u8 0, .int .i64 0, .slice none 0 0, .int .i64 0, .int .i64 0, .int .i64 0, .string ⟨#[]⟩] 42)).alloc (.cells #[.int .u8 d, .int .u8 0, .int .i64 0, .slice none 0 0, .int .i64 0, .int .i64 0, .int .i64 0, .string ⟨#[]⟩] 42)) := (by repeat (first | exact Below.refl _ _ | assumption | refine Below.drew ?_ | refine below_drewN ?_ _ | refine Below.alloc ?_ (by simp <;> omega) _))
 have HR0 := hd_ hR0
 have HA0 := hd_ hA0
 have HB0 := hd_ hb0
 clear hO hL hl ha hb hR0 hA0 hb0
 go_enter Tryz.func130, Tryz.ntmps130
 go_upto_region 2 with fail
 clear a0 aL bL b0 b1 b2
 generalize (w.alloc (.cells #[.int .u8 0, .int .u8 0, .int .i64 0, .slice none 0 0, .int .i64 0, .int .i64 0, .int .i64 0, .string ⟨#[]⟩] 42)).alloc (.cells #[.int .u8 d, .int .u8 0, .int .i64 0, .slice none 0 0, .int .i64 0, .int .i64 0, .int .i64 0, .string ⟨#[]⟩] 42) = W0 at HR0 HA0 HB0 ⊢
 obtain ⟨bL, b0, b1, b2⟩ := blkF (HFB.out.ext HB0.out)
 by_cases hlen : ws.length = 1
 · obtain ⟨x0, rfl⟩ := len1 hlen
   clear hlen
   simp only [List.length_cons, List.length_nil, Nat.zero_add]
   go_wp2_with fail
   refine (need_yes _).mono ?_
   rintro r w1 ⟨rfl, rfl⟩
   go_wp2_with fail
   have hPB := Blk.new w1 #[.pointer (some ⟨w.heap.size + 1, 4, none⟩), .pointer (some ⟨w.heap.size + 1, 5, none⟩), .pointer (some ⟨w.heap.size + 1, 6, none⟩)] 187
   have hbP := HB0.out.alloc HB0.out.size (.cells #[.pointer (some ⟨w.heap.size + 1, 4, none⟩), .pointer (some ⟨w.heap.size + 1, 5, none⟩), .pointer (some ⟨w.heap.size + 1, 6, none⟩)] 187)
   have HPB := hd_ hPB
   have HAB := hd_ (HA0.out.old (.cells #[.pointer (some ⟨w.heap.size + 1, 4, none⟩), .pointer (some ⟨w.heap.size + 1, 5, none⟩), .pointer (some ⟨w.heap.size + 1, 6, none⟩)] 187))
   have HRB := hd_ (HR0.out.old (.cells #[.pointer (some ⟨w.heap.size + 1, 4, none⟩), .pointer (some ⟨w.heap.size + 1, 5, none⟩), .pointer (some ⟨w.heap.size + 1, 6, none⟩)] 187))
   have HBB := hd_ hbP
   have hPs : w1.heap.size ≠ w.heap.size + 1 ∧ w1.heap.size ≠ w.heap.size := by
    have := HA0.out.lt
    omega
   clear hPB hbP HA0 HR0 HB0 bL b0 b1 b2
   generalize w1.heap.size = Pb at HPB hPs ⊢
   generalize w1.alloc (.cells #[.pointer (some ⟨w.heap.size + 1, 4, none⟩), .pointer (some ⟨w.heap.size + 1, 5, none⟩), .pointer (some ⟨w.heap.size + 1, 6, none⟩)] 187) = W1 at HPB HAB HRB HBB ⊢
   refine wp_loop_rounds 2 ?_
   obtain ⟨pL, p0, p1, p2⟩ := blk3p HPB.out
   have hxc := (HWS.out.ext HBB.out).2 0 x0 rfl
   have hgl := (HWS.out.ext HBB.out).1
   simp only [Nat.add_zero] at hxc
   rw [rounds_succ]
   go_wp2_with fail
   refine (HLG.out x0 (by simp) _ HBB.out).mono ?_
   clear hxc hgl pL p0 p1 p2
   cases hv0 : longZ x0 with
   | none =>
    rintro r w2 ⟨rfl, hb2⟩
    have HBN := hd_ (bt HBB.out hb2)
    have hN : O = none := by rw [← HO.out]; simp [numsR, numO, hv0]
    have HN := hd_ hN
    clear hN hv0 hb2
    simp only [Option.map_none, orGave]
    unfold gaveW
    go_wp2_with fail
    exact ⟨rfl, by rw [HN.out]; rfl, HBN.out⟩
   | some v0 =>
    rintro r w2 ⟨rfl, hb2⟩
    have HX0 := hd_ hv0
    have hA := HAB.out.ext hb2
    have hP := HPB.out.ext hb2
    have hR := HRB.out.ext hb2
    have hB := bt HBB.out hb2
    clear HAB HPB HRB HBB hb2 hv0
    simp only [Option.map_some, orGave]
    obtain ⟨w3, rfl, lt⟩ := blk_put hA
    obtain ⟨pc, pf, pS⟩ := putBlk_facts (w := w3) 42 lt
    have HAB := hd_ (putBlk_blk (w := w3) (b := w.heap.size + 1) #[.int .u8 d, .int .u8 0, .int .i64 0, .slice none 0 0, .int .i64 v0, .int .i64 0, .int .i64 0, .string ⟨#[]⟩] 42 lt)
    have HPB := hd_ (putBlk_old hP hPs.1 #[.int .u8 d, .int .u8 0, .int .i64 0, .slice none 0 0, .int .i64 v0, .int .i64 0, .int .i64 0, .string ⟨#[]⟩])
    have HRB := hd_ (putBlk_old hR (by omega) #[.int .u8 d, .int .u8 0, .int .i64 0, .slice none 0 0, .int .i64 v0, .int .i64 0, .int .i64 0, .string ⟨#[]⟩])
    have HBB := hd_ (putBlk_belows hB (by omega) #[.int .u8 d, .int .u8 0, .int .i64 0, .slice none 0 0, .int .i64 v0, .int .i64 0, .int .i64 0, .string ⟨#[]⟩])
    clear hA hP hR hB
    go_wp2_with fail
    clear pc pf pS lt
    generalize putBlk w3 (w.heap.size + 1) #[.int .u8 d, .int .u8 0, .int .i64 0, .slice none 0 0, .int .i64 v0, .int .i64 0, .int .i64 0, .string ⟨#[]⟩] 42 = W2 at HAB HPB HRB HBB ⊢
    have hN : O = some ⟨d, 0, 0, [], v0, 0, 0, bsO []⟩ := by rw [← HO.out]; simp [numsR, numO, HX0.out]
    have HN := hd_ hN
    clear hN
    have hA := HAB.out
    have hR := HRB.out
    have hB := HBB.out
    have hne : w.heap.size ≠ w.heap.size + 1 := by omega
    clear HAB HPB HRB HBB
    obtain ⟨w9, rfl, lt9⟩ := blk_put hR
    obtain ⟨pc, pf, pS⟩ := putBlk_facts (w := w9) 42 lt9
    obtain ⟨lA, y0, y1, y2, y3, y4, y5, y6, y7⟩ := blkA hA
    have HBF := hd_ (putBlk_belows hB (Nat.le_refl _) #[.int .u8 d, .int .u8 0, .int .i64 0, .slice none 0 0, .int .i64 v0, .int .i64 0, .int .i64 0, .string ⟨#[]⟩])
    clear hA hR hB
    rw [rounds_succ]
    go_wp2_with fail
    refine bodyPost_ret (v := Ac.agg ⟨d, 0, 0, [], v0, 0, 0, bsO []⟩ none 0) (by simp [results, Tryz.results130, go_sem, Ac.agg, pc, bsO]) rfl ?_
    exact ⟨by rw [HN.out]; rfl, HBF.out⟩
 · have hN : O = none := by rw [← HO.out, nums_len (by omega) hlen]; rfl
   have HN := hd_ hN
   have hne : ((ws.length : Int) == 1) = false := by simp only [beq_eq_false_iff_ne, ne_eq]; omega
   clear hN hlen
   go_wp2_with fail
   refine (need_no _).mono ?_
   rintro r w1 ⟨rfl, rfl⟩
   unfold gaveW
   go_wp2_with fail
   exact ⟨rfl, by rw [HN.out]; rfl, HB0.out⟩
set_option maxRecDepth 100000 in
set_option maxHeartbeats 6400000 in
theorem rdF2_any (d : Int) (wd : List UInt8) (ws : List (List UInt8)) (hw : ∀ x ∈ ws, x.length ≤ 281474976710656) (hlw : ws.length ≤ 281474976710656) (g off cap a b : Nat) (w : World) (hL : LayS w) (hl : WsAt w g off ws) (ha : Blk w a #[.int .u8 d] 5) (hb : Blk w b #[.string (bsO wd), .int .i64 2, .bool false] 129) :
 Calls Tryz.prog 130 #[.slice (some ⟨g, off, none⟩) ws.length cap, .pointer (some ⟨a, 0, none⟩), .pointer (some ⟨b, 0, none⟩)] w fun r w' => r = acO (formR d 2 false ws) ∧ Below w.heap.size w w' := by
 rw [formR_no]
 generalize hO : numO d (bsO []) (numsR 2 ws) = O
 have HO := hd_ hO
 have HLG := hd_ (fun (x : List UInt8) (hx : x ∈ ws) (W : World) (hW : Below w.heap.size w W) => (show Calls Tryz.prog 99 #[.string (bsO x)] W fun r w' => r = orGave ((longZ x).map fun v => .int .i64 v) ∧ Below W.heap.size W w' from longS_any (bsO x) (by rw [bsO_size]; exact hw x hx) W (hL.ext hW)))
 have HWS := hd_ hl
 obtain ⟨a0, _, aL⟩ := blk1c ha
 obtain ⟨bL, b0, b1, b2⟩ := blkF hb
 have HFB := hd_ hb
 have hR0 : Blk ((w.alloc (.cells #[.int .u8 0, .int .u8 0, .int .i64 0, .slice none 0 0, .int .i64 0, .int .i64 0, .int .i64 0, .string ⟨#[]⟩] 42)).alloc (.cells #[.int .u8 d, .int .u8 0, .int .i64 0, .slice none 0 0, .int .i64 0, .int .i64 0, .int .i64 0, .string ⟨#[]⟩] 42)) w.heap.size #[.int .u8 0, .int .u8 0, .int .i64 0, .slice none 0 0, .int .i64 0, .int .i64 0, .int .i64 0, .string ⟨#[]⟩] 42 := (Blk.new w _ _).old _
 have hA0 : Blk ((w.alloc (.cells #[.int .u8 0, .int .u8 0, .int .i64 0, .slice none 0 0, .int .i64 0, .int .i64 0, .int .i64 0, .string ⟨#[]⟩] 42)).alloc (.cells #[.int .u8 d, .int .u8 0, .int .i64 0, .slice none 0 0, .int .i64 0, .int .i64 0, .int .i64 0, .string ⟨#[]⟩] 42)) (w.heap.size + 1) #[.int .u8 d, .int .u8 0, .int .i64 0, .slice none 0 0, .int .i64 0, .int .i64 0, .int .i64 0, .string ⟨#[]⟩] 42 := by
  have := Blk.new (w.alloc (.cells #[.int .u8 0, .int .u8 0, .int .i64 0, .slice none 0 0, .int .i64 0, .int .i64 0, .int .i64 0, .string ⟨#[]⟩] 42)) #[.int .u8 d, .int .u8 0, .int .i64 0, .slice none 0 0, .int .i64 0, .int .i64 0, .int .i64 0, .string ⟨#[]⟩] 42
  simpa using this
 have hb0 : Below w.heap.size w ((w.alloc (.cells #[.int .u8 0, .int .u8 0, .int .i64 0, .slice none 0 0, .int .i64 0, .int .i64 0, .int .i64 0, .string ⟨#[]⟩] 42)).alloc (.cells #[.int .u8 d, .int .u8 0, .int .i64 0, .slice none 0 0, .int .i64 0, .int .i64 0, .int .i64 0, .string ⟨#[]⟩] 42)) := (by repeat (first | exact Below.refl _ _ | assumption | refine Below.drew ?_ | refine below_drewN ?_ _ | refine Below.alloc ?_ (by simp <;> omega) _))
 have HR0 := hd_ hR0
 have HA0 := hd_ hA0
 have HB0 := hd_ hb0
 clear hO hL hl ha hb hR0 hA0 hb0
 go_enter Tryz.func130, Tryz.ntmps130
 go_upto_region 2 with fail
 clear a0 aL bL b0 b1 b2
 generalize (w.alloc (.cells #[.int .u8 0, .int .u8 0, .int .i64 0, .slice none 0 0, .int .i64 0, .int .i64 0, .int .i64 0, .string ⟨#[]⟩] 42)).alloc (.cells #[.int .u8 d, .int .u8 0, .int .i64 0, .slice none 0 0, .int .i64 0, .int .i64 0, .int .i64 0, .string ⟨#[]⟩] 42) = W0 at HR0 HA0 HB0 ⊢
 obtain ⟨bL, b0, b1, b2⟩ := blkF (HFB.out.ext HB0.out)
 by_cases hlen : ws.length = 2
 · obtain ⟨x0, x1, rfl⟩ := len2 hlen
   clear hlen
   simp only [List.length_cons, List.length_nil, Nat.zero_add, Nat.reduceAdd]
   go_wp2_with fail
   refine (need_yes _).mono ?_
   rintro r w1 ⟨rfl, rfl⟩
   go_wp2_with fail
   have hPB := Blk.new w1 #[.pointer (some ⟨w.heap.size + 1, 4, none⟩), .pointer (some ⟨w.heap.size + 1, 5, none⟩), .pointer (some ⟨w.heap.size + 1, 6, none⟩)] 187
   have hbP := HB0.out.alloc HB0.out.size (.cells #[.pointer (some ⟨w.heap.size + 1, 4, none⟩), .pointer (some ⟨w.heap.size + 1, 5, none⟩), .pointer (some ⟨w.heap.size + 1, 6, none⟩)] 187)
   have HPB := hd_ hPB
   have HAB := hd_ (HA0.out.old (.cells #[.pointer (some ⟨w.heap.size + 1, 4, none⟩), .pointer (some ⟨w.heap.size + 1, 5, none⟩), .pointer (some ⟨w.heap.size + 1, 6, none⟩)] 187))
   have HRB := hd_ (HR0.out.old (.cells #[.pointer (some ⟨w.heap.size + 1, 4, none⟩), .pointer (some ⟨w.heap.size + 1, 5, none⟩), .pointer (some ⟨w.heap.size + 1, 6, none⟩)] 187))
   have HBB := hd_ hbP
   have hPs : w1.heap.size ≠ w.heap.size + 1 ∧ w1.heap.size ≠ w.heap.size := by
    have := HA0.out.lt
    omega
   clear hPB hbP HA0 HR0 HB0 bL b0 b1 b2
   generalize w1.heap.size = Pb at HPB hPs ⊢
   generalize w1.alloc (.cells #[.pointer (some ⟨w.heap.size + 1, 4, none⟩), .pointer (some ⟨w.heap.size + 1, 5, none⟩), .pointer (some ⟨w.heap.size + 1, 6, none⟩)] 187) = W1 at HPB HAB HRB HBB ⊢
   refine wp_loop_rounds 3 ?_
   obtain ⟨pL, p0, p1, p2⟩ := blk3p HPB.out
   have hxc := (HWS.out.ext HBB.out).2 0 x0 rfl
   have hgl := (HWS.out.ext HBB.out).1
   simp only [Nat.add_zero] at hxc
   rw [rounds_succ]
   go_wp2_with fail
   refine (HLG.out x0 (by simp) _ HBB.out).mono ?_
   clear hxc hgl pL p0 p1 p2
   cases hv0 : longZ x0 with
   | none =>
    rintro r w2 ⟨rfl, hb2⟩
    have HBN := hd_ (bt HBB.out hb2)
    have hN : O = none := by rw [← HO.out]; simp [numsR, numO, hv0]
    have HN := hd_ hN
    clear hN hv0 hb2
    simp only [Option.map_none, orGave]
    unfold gaveW
    go_wp2_with fail
    exact ⟨rfl, by rw [HN.out]; rfl, HBN.out⟩
   | some v0 =>
    rintro r w2 ⟨rfl, hb2⟩
    have HX0 := hd_ hv0
    have hA := HAB.out.ext hb2
    have hP := HPB.out.ext hb2
    have hR := HRB.out.ext hb2
    have hB := bt HBB.out hb2
    clear HAB HPB HRB HBB hb2 hv0
    simp only [Option.map_some, orGave]
    obtain ⟨w3, rfl, lt⟩ := blk_put hA
    obtain ⟨pc, pf, pS⟩ := putBlk_facts (w := w3) 42 lt
    have HAB := hd_ (putBlk_blk (w := w3) (b := w.heap.size + 1) #[.int .u8 d, .int .u8 0, .int .i64 0, .slice none 0 0, .int .i64 v0, .int .i64 0, .int .i64 0, .string ⟨#[]⟩] 42 lt)
    have HPB := hd_ (putBlk_old hP hPs.1 #[.int .u8 d, .int .u8 0, .int .i64 0, .slice none 0 0, .int .i64 v0, .int .i64 0, .int .i64 0, .string ⟨#[]⟩])
    have HRB := hd_ (putBlk_old hR (by omega) #[.int .u8 d, .int .u8 0, .int .i64 0, .slice none 0 0, .int .i64 v0, .int .i64 0, .int .i64 0, .string ⟨#[]⟩])
    have HBB := hd_ (putBlk_belows hB (by omega) #[.int .u8 d, .int .u8 0, .int .i64 0, .slice none 0 0, .int .i64 v0, .int .i64 0, .int .i64 0, .string ⟨#[]⟩])
    clear hA hP hR hB
    go_wp2_with fail
    clear pc pf pS lt
    generalize putBlk w3 (w.heap.size + 1) #[.int .u8 d, .int .u8 0, .int .i64 0, .slice none 0 0, .int .i64 v0, .int .i64 0, .int .i64 0, .string ⟨#[]⟩] 42 = W2 at HAB HPB HRB HBB ⊢
    obtain ⟨pL, p0, p1, p2⟩ := blk3p HPB.out
    have hxc := (HWS.out.ext HBB.out).2 1 x1 rfl
    have hgl := (HWS.out.ext HBB.out).1
    rw [rounds_succ]
    go_wp2_with fail
    refine (HLG.out x1 (by simp) _ HBB.out).mono ?_
    clear hxc hgl pL p0 p1 p2
    cases hv1 : longZ x1 with
    | none =>
     rintro r w2 ⟨rfl, hb2⟩
     have HBN := hd_ (bt HBB.out hb2)
     have hN : O = none := by rw [← HO.out]; simp [numsR, numO, HX0.out, hv1]
     have HN := hd_ hN
     clear hN hv1 hb2
     simp only [Option.map_none, orGave]
     unfold gaveW
     go_wp2_with fail
     exact ⟨rfl, by rw [HN.out]; rfl, HBN.out⟩
    | some v1 =>
     rintro r w2 ⟨rfl, hb2⟩
     have HX1 := hd_ hv1
     have hA := HAB.out.ext hb2
     have hP := HPB.out.ext hb2
     have hR := HRB.out.ext hb2
     have hB := bt HBB.out hb2
     clear HAB HPB HRB HBB hb2 hv1
     simp only [Option.map_some, orGave]
     obtain ⟨w3, rfl, lt⟩ := blk_put hA
     obtain ⟨pc, pf, pS⟩ := putBlk_facts (w := w3) 42 lt
     have HAB := hd_ (putBlk_blk (w := w3) (b := w.heap.size + 1) #[.int .u8 d, .int .u8 0, .int .i64 0, .slice none 0 0, .int .i64 v0, .int .i64 v1, .int .i64 0, .string ⟨#[]⟩] 42 lt)
     have HPB := hd_ (putBlk_old hP hPs.1 #[.int .u8 d, .int .u8 0, .int .i64 0, .slice none 0 0, .int .i64 v0, .int .i64 v1, .int .i64 0, .string ⟨#[]⟩])
     have HRB := hd_ (putBlk_old hR (by omega) #[.int .u8 d, .int .u8 0, .int .i64 0, .slice none 0 0, .int .i64 v0, .int .i64 v1, .int .i64 0, .string ⟨#[]⟩])
     have HBB := hd_ (putBlk_belows hB (by omega) #[.int .u8 d, .int .u8 0, .int .i64 0, .slice none 0 0, .int .i64 v0, .int .i64 v1, .int .i64 0, .string ⟨#[]⟩])
     clear hA hP hR hB
     go_wp2_with fail
     clear pc pf pS lt
     generalize putBlk w3 (w.heap.size + 1) #[.int .u8 d, .int .u8 0, .int .i64 0, .slice none 0 0, .int .i64 v0, .int .i64 v1, .int .i64 0, .string ⟨#[]⟩] 42 = W3 at HAB HPB HRB HBB ⊢
     have hN : O = some ⟨d, 0, 0, [], v0, v1, 0, bsO []⟩ := by rw [← HO.out]; simp [numsR, numO, HX0.out, HX1.out]
     have HN := hd_ hN
     clear hN
     have hA := HAB.out
     have hR := HRB.out
     have hB := HBB.out
     have hne : w.heap.size ≠ w.heap.size + 1 := by omega
     clear HAB HPB HRB HBB
     obtain ⟨w9, rfl, lt9⟩ := blk_put hR
     obtain ⟨pc, pf, pS⟩ := putBlk_facts (w := w9) 42 lt9
     obtain ⟨lA, y0, y1, y2, y3, y4, y5, y6, y7⟩ := blkA hA
     have HBF := hd_ (putBlk_belows hB (Nat.le_refl _) #[.int .u8 d, .int .u8 0, .int .i64 0, .slice none 0 0, .int .i64 v0, .int .i64 v1, .int .i64 0, .string ⟨#[]⟩])
     clear hA hR hB
     rw [rounds_succ]
     go_wp2_with fail
     refine bodyPost_ret (v := Ac.agg ⟨d, 0, 0, [], v0, v1, 0, bsO []⟩ none 0) (by simp [results, Tryz.results130, go_sem, Ac.agg, pc, bsO]) rfl ?_
     exact ⟨by rw [HN.out]; rfl, HBF.out⟩
 · have hN : O = none := by rw [← HO.out, nums_len (by omega) hlen]; rfl
   have HN := hd_ hN
   have hne : ((ws.length : Int) == 2) = false := by simp only [beq_eq_false_iff_ne, ne_eq]; omega
   clear hN hlen
   go_wp2_with fail
   refine (need_no _).mono ?_
   rintro r w1 ⟨rfl, rfl⟩
   unfold gaveW
   go_wp2_with fail
   exact ⟨rfl, by rw [HN.out]; rfl, HB0.out⟩
set_option maxRecDepth 100000 in
set_option maxHeartbeats 6400000 in
theorem rdF3_any (d : Int) (wd : List UInt8) (ws : List (List UInt8)) (hw : ∀ x ∈ ws, x.length ≤ 281474976710656) (hlw : ws.length ≤ 281474976710656) (g off cap a b : Nat) (w : World) (hL : LayS w) (hl : WsAt w g off ws) (ha : Blk w a #[.int .u8 d] 5) (hb : Blk w b #[.string (bsO wd), .int .i64 3, .bool false] 129) :
 Calls Tryz.prog 130 #[.slice (some ⟨g, off, none⟩) ws.length cap, .pointer (some ⟨a, 0, none⟩), .pointer (some ⟨b, 0, none⟩)] w fun r w' => r = acO (formR d 3 false ws) ∧ Below w.heap.size w w' := by
 rw [formR_no]
 generalize hO : numO d (bsO []) (numsR 3 ws) = O
 have HO := hd_ hO
 have HLG := hd_ (fun (x : List UInt8) (hx : x ∈ ws) (W : World) (hW : Below w.heap.size w W) => (show Calls Tryz.prog 99 #[.string (bsO x)] W fun r w' => r = orGave ((longZ x).map fun v => .int .i64 v) ∧ Below W.heap.size W w' from longS_any (bsO x) (by rw [bsO_size]; exact hw x hx) W (hL.ext hW)))
 have HWS := hd_ hl
 obtain ⟨a0, _, aL⟩ := blk1c ha
 obtain ⟨bL, b0, b1, b2⟩ := blkF hb
 have HFB := hd_ hb
 have hR0 : Blk ((w.alloc (.cells #[.int .u8 0, .int .u8 0, .int .i64 0, .slice none 0 0, .int .i64 0, .int .i64 0, .int .i64 0, .string ⟨#[]⟩] 42)).alloc (.cells #[.int .u8 d, .int .u8 0, .int .i64 0, .slice none 0 0, .int .i64 0, .int .i64 0, .int .i64 0, .string ⟨#[]⟩] 42)) w.heap.size #[.int .u8 0, .int .u8 0, .int .i64 0, .slice none 0 0, .int .i64 0, .int .i64 0, .int .i64 0, .string ⟨#[]⟩] 42 := (Blk.new w _ _).old _
 have hA0 : Blk ((w.alloc (.cells #[.int .u8 0, .int .u8 0, .int .i64 0, .slice none 0 0, .int .i64 0, .int .i64 0, .int .i64 0, .string ⟨#[]⟩] 42)).alloc (.cells #[.int .u8 d, .int .u8 0, .int .i64 0, .slice none 0 0, .int .i64 0, .int .i64 0, .int .i64 0, .string ⟨#[]⟩] 42)) (w.heap.size + 1) #[.int .u8 d, .int .u8 0, .int .i64 0, .slice none 0 0, .int .i64 0, .int .i64 0, .int .i64 0, .string ⟨#[]⟩] 42 := by
  have := Blk.new (w.alloc (.cells #[.int .u8 0, .int .u8 0, .int .i64 0, .slice none 0 0, .int .i64 0, .int .i64 0, .int .i64 0, .string ⟨#[]⟩] 42)) #[.int .u8 d, .int .u8 0, .int .i64 0, .slice none 0 0, .int .i64 0, .int .i64 0, .int .i64 0, .string ⟨#[]⟩] 42
  simpa using this
 have hb0 : Below w.heap.size w ((w.alloc (.cells #[.int .u8 0, .int .u8 0, .int .i64 0, .slice none 0 0, .int .i64 0, .int .i64 0, .int .i64 0, .string ⟨#[]⟩] 42)).alloc (.cells #[.int .u8 d, .int .u8 0, .int .i64 0, .slice none 0 0, .int .i64 0, .int .i64 0, .int .i64 0, .string ⟨#[]⟩] 42)) := (by repeat (first | exact Below.refl _ _ | assumption | refine Below.drew ?_ | refine below_drewN ?_ _ | refine Below.alloc ?_ (by simp <;> omega) _))
 have HR0 := hd_ hR0
 have HA0 := hd_ hA0
 have HB0 := hd_ hb0
 clear hO hL hl ha hb hR0 hA0 hb0
 go_enter Tryz.func130, Tryz.ntmps130
 go_upto_region 2 with fail
 clear a0 aL bL b0 b1 b2
 generalize (w.alloc (.cells #[.int .u8 0, .int .u8 0, .int .i64 0, .slice none 0 0, .int .i64 0, .int .i64 0, .int .i64 0, .string ⟨#[]⟩] 42)).alloc (.cells #[.int .u8 d, .int .u8 0, .int .i64 0, .slice none 0 0, .int .i64 0, .int .i64 0, .int .i64 0, .string ⟨#[]⟩] 42) = W0 at HR0 HA0 HB0 ⊢
 obtain ⟨bL, b0, b1, b2⟩ := blkF (HFB.out.ext HB0.out)
 by_cases hlen : ws.length = 3
 · obtain ⟨x0, x1, x2, rfl⟩ := len3 hlen
   clear hlen
   simp only [List.length_cons, List.length_nil, Nat.zero_add, Nat.reduceAdd]
   go_wp2_with fail
   refine (need_yes _).mono ?_
   rintro r w1 ⟨rfl, rfl⟩
   go_wp2_with fail
   have hPB := Blk.new w1 #[.pointer (some ⟨w.heap.size + 1, 4, none⟩), .pointer (some ⟨w.heap.size + 1, 5, none⟩), .pointer (some ⟨w.heap.size + 1, 6, none⟩)] 187
   have hbP := HB0.out.alloc HB0.out.size (.cells #[.pointer (some ⟨w.heap.size + 1, 4, none⟩), .pointer (some ⟨w.heap.size + 1, 5, none⟩), .pointer (some ⟨w.heap.size + 1, 6, none⟩)] 187)
   have HPB := hd_ hPB
   have HAB := hd_ (HA0.out.old (.cells #[.pointer (some ⟨w.heap.size + 1, 4, none⟩), .pointer (some ⟨w.heap.size + 1, 5, none⟩), .pointer (some ⟨w.heap.size + 1, 6, none⟩)] 187))
   have HRB := hd_ (HR0.out.old (.cells #[.pointer (some ⟨w.heap.size + 1, 4, none⟩), .pointer (some ⟨w.heap.size + 1, 5, none⟩), .pointer (some ⟨w.heap.size + 1, 6, none⟩)] 187))
   have HBB := hd_ hbP
   have hPs : w1.heap.size ≠ w.heap.size + 1 ∧ w1.heap.size ≠ w.heap.size := by
    have := HA0.out.lt
    omega
   clear hPB hbP HA0 HR0 HB0 bL b0 b1 b2
   generalize w1.heap.size = Pb at HPB hPs ⊢
   generalize w1.alloc (.cells #[.pointer (some ⟨w.heap.size + 1, 4, none⟩), .pointer (some ⟨w.heap.size + 1, 5, none⟩), .pointer (some ⟨w.heap.size + 1, 6, none⟩)] 187) = W1 at HPB HAB HRB HBB ⊢
   refine wp_loop_rounds 4 ?_
   obtain ⟨pL, p0, p1, p2⟩ := blk3p HPB.out
   have hxc := (HWS.out.ext HBB.out).2 0 x0 rfl
   have hgl := (HWS.out.ext HBB.out).1
   simp only [Nat.add_zero] at hxc
   rw [rounds_succ]
   go_wp2_with fail
   refine (HLG.out x0 (by simp) _ HBB.out).mono ?_
   clear hxc hgl pL p0 p1 p2
   cases hv0 : longZ x0 with
   | none =>
    rintro r w2 ⟨rfl, hb2⟩
    have HBN := hd_ (bt HBB.out hb2)
    have hN : O = none := by rw [← HO.out]; simp [numsR, numO, hv0]
    have HN := hd_ hN
    clear hN hv0 hb2
    simp only [Option.map_none, orGave]
    unfold gaveW
    go_wp2_with fail
    exact ⟨rfl, by rw [HN.out]; rfl, HBN.out⟩
   | some v0 =>
    rintro r w2 ⟨rfl, hb2⟩
    have HX0 := hd_ hv0
    have hA := HAB.out.ext hb2
    have hP := HPB.out.ext hb2
    have hR := HRB.out.ext hb2
    have hB := bt HBB.out hb2
    clear HAB HPB HRB HBB hb2 hv0
    simp only [Option.map_some, orGave]
    obtain ⟨w3, rfl, lt⟩ := blk_put hA
    obtain ⟨pc, pf, pS⟩ := putBlk_facts (w := w3) 42 lt
    have HAB := hd_ (putBlk_blk (w := w3) (b := w.heap.size + 1) #[.int .u8 d, .int .u8 0, .int .i64 0, .slice none 0 0, .int .i64 v0, .int .i64 0, .int .i64 0, .string ⟨#[]⟩] 42 lt)
    have HPB := hd_ (putBlk_old hP hPs.1 #[.int .u8 d, .int .u8 0, .int .i64 0, .slice none 0 0, .int .i64 v0, .int .i64 0, .int .i64 0, .string ⟨#[]⟩])
    have HRB := hd_ (putBlk_old hR (by omega) #[.int .u8 d, .int .u8 0, .int .i64 0, .slice none 0 0, .int .i64 v0, .int .i64 0, .int .i64 0, .string ⟨#[]⟩])
    have HBB := hd_ (putBlk_belows hB (by omega) #[.int .u8 d, .int .u8 0, .int .i64 0, .slice none 0 0, .int .i64 v0, .int .i64 0, .int .i64 0, .string ⟨#[]⟩])
    clear hA hP hR hB
    go_wp2_with fail
    clear pc pf pS lt
    generalize putBlk w3 (w.heap.size + 1) #[.int .u8 d, .int .u8 0, .int .i64 0, .slice none 0 0, .int .i64 v0, .int .i64 0, .int .i64 0, .string ⟨#[]⟩] 42 = W2 at HAB HPB HRB HBB ⊢
    obtain ⟨pL, p0, p1, p2⟩ := blk3p HPB.out
    have hxc := (HWS.out.ext HBB.out).2 1 x1 rfl
    have hgl := (HWS.out.ext HBB.out).1
    rw [rounds_succ]
    go_wp2_with fail
    refine (HLG.out x1 (by simp) _ HBB.out).mono ?_
    clear hxc hgl pL p0 p1 p2
    cases hv1 : longZ x1 with
    | none =>
     rintro r w2 ⟨rfl, hb2⟩
     have HBN := hd_ (bt HBB.out hb2)
     have hN : O = none := by rw [← HO.out]; simp [numsR, numO, HX0.out, hv1]
     have HN := hd_ hN
     clear hN hv1 hb2
     simp only [Option.map_none, orGave]
     unfold gaveW
     go_wp2_with fail
     exact ⟨rfl, by rw [HN.out]; rfl, HBN.out⟩
    | some v1 =>
     rintro r w2 ⟨rfl, hb2⟩
     have HX1 := hd_ hv1
     have hA := HAB.out.ext hb2
     have hP := HPB.out.ext hb2
     have hR := HRB.out.ext hb2
     have hB := bt HBB.out hb2
     clear HAB HPB HRB HBB hb2 hv1
     simp only [Option.map_some, orGave]
     obtain ⟨w3, rfl, lt⟩ := blk_put hA
     obtain ⟨pc, pf, pS⟩ := putBlk_facts (w := w3) 42 lt
     have HAB := hd_ (putBlk_blk (w := w3) (b := w.heap.size + 1) #[.int .u8 d, .int .u8 0, .int .i64 0, .slice none 0 0, .int .i64 v0, .int .i64 v1, .int .i64 0, .string ⟨#[]⟩] 42 lt)
     have HPB := hd_ (putBlk_old hP hPs.1 #[.int .u8 d, .int .u8 0, .int .i64 0, .slice none 0 0, .int .i64 v0, .int .i64 v1, .int .i64 0, .string ⟨#[]⟩])
     have HRB := hd_ (putBlk_old hR (by omega) #[.int .u8 d, .int .u8 0, .int .i64 0, .slice none 0 0, .int .i64 v0, .int .i64 v1, .int .i64 0, .string ⟨#[]⟩])
     have HBB := hd_ (putBlk_belows hB (by omega) #[.int .u8 d, .int .u8 0, .int .i64 0, .slice none 0 0, .int .i64 v0, .int .i64 v1, .int .i64 0, .string ⟨#[]⟩])
     clear hA hP hR hB
     go_wp2_with fail
     clear pc pf pS lt
     generalize putBlk w3 (w.heap.size + 1) #[.int .u8 d, .int .u8 0, .int .i64 0, .slice none 0 0, .int .i64 v0, .int .i64 v1, .int .i64 0, .string ⟨#[]⟩] 42 = W3 at HAB HPB HRB HBB ⊢
     obtain ⟨pL, p0, p1, p2⟩ := blk3p HPB.out
     have hxc := (HWS.out.ext HBB.out).2 2 x2 rfl
     have hgl := (HWS.out.ext HBB.out).1
     rw [rounds_succ]
     go_wp2_with fail
     refine (HLG.out x2 (by simp) _ HBB.out).mono ?_
     clear hxc hgl pL p0 p1 p2
     cases hv2 : longZ x2 with
     | none =>
      rintro r w2 ⟨rfl, hb2⟩
      have HBN := hd_ (bt HBB.out hb2)
      have hN : O = none := by rw [← HO.out]; simp [numsR, numO, HX0.out, HX1.out, hv2]
      have HN := hd_ hN
      clear hN hv2 hb2
      simp only [Option.map_none, orGave]
      unfold gaveW
      go_wp2_with fail
      exact ⟨rfl, by rw [HN.out]; rfl, HBN.out⟩
     | some v2 =>
      rintro r w2 ⟨rfl, hb2⟩
      have HX2 := hd_ hv2
      have hA := HAB.out.ext hb2
      have hP := HPB.out.ext hb2
      have hR := HRB.out.ext hb2
      have hB := bt HBB.out hb2
      clear HAB HPB HRB HBB hb2 hv2
      simp only [Option.map_some, orGave]
      obtain ⟨w3, rfl, lt⟩ := blk_put hA
      obtain ⟨pc, pf, pS⟩ := putBlk_facts (w := w3) 42 lt
      have HAB := hd_ (putBlk_blk (w := w3) (b := w.heap.size + 1) #[.int .u8 d, .int .u8 0, .int .i64 0, .slice none 0 0, .int .i64 v0, .int .i64 v1, .int .i64 v2, .string ⟨#[]⟩] 42 lt)
      have HPB := hd_ (putBlk_old hP hPs.1 #[.int .u8 d, .int .u8 0, .int .i64 0, .slice none 0 0, .int .i64 v0, .int .i64 v1, .int .i64 v2, .string ⟨#[]⟩])
      have HRB := hd_ (putBlk_old hR (by omega) #[.int .u8 d, .int .u8 0, .int .i64 0, .slice none 0 0, .int .i64 v0, .int .i64 v1, .int .i64 v2, .string ⟨#[]⟩])
      have HBB := hd_ (putBlk_belows hB (by omega) #[.int .u8 d, .int .u8 0, .int .i64 0, .slice none 0 0, .int .i64 v0, .int .i64 v1, .int .i64 v2, .string ⟨#[]⟩])
      clear hA hP hR hB
      go_wp2_with fail
      clear pc pf pS lt
      generalize putBlk w3 (w.heap.size + 1) #[.int .u8 d, .int .u8 0, .int .i64 0, .slice none 0 0, .int .i64 v0, .int .i64 v1, .int .i64 v2, .string ⟨#[]⟩] 42 = W4 at HAB HPB HRB HBB ⊢
      have hN : O = some ⟨d, 0, 0, [], v0, v1, v2, bsO []⟩ := by rw [← HO.out]; simp [numsR, numO, HX0.out, HX1.out, HX2.out]
      have HN := hd_ hN
      clear hN
      have hA := HAB.out
      have hR := HRB.out
      have hB := HBB.out
      have hne : w.heap.size ≠ w.heap.size + 1 := by omega
      clear HAB HPB HRB HBB
      obtain ⟨w9, rfl, lt9⟩ := blk_put hR
      obtain ⟨pc, pf, pS⟩ := putBlk_facts (w := w9) 42 lt9
      obtain ⟨lA, y0, y1, y2, y3, y4, y5, y6, y7⟩ := blkA hA
      have HBF := hd_ (putBlk_belows hB (Nat.le_refl _) #[.int .u8 d, .int .u8 0, .int .i64 0, .slice none 0 0, .int .i64 v0, .int .i64 v1, .int .i64 v2, .string ⟨#[]⟩])
      clear hA hR hB
      rw [rounds_succ]
      go_wp2_with fail
      refine bodyPost_ret (v := Ac.agg ⟨d, 0, 0, [], v0, v1, v2, bsO []⟩ none 0) (by simp [results, Tryz.results130, go_sem, Ac.agg, pc, bsO]) rfl ?_
      exact ⟨by rw [HN.out]; rfl, HBF.out⟩
 · have hN : O = none := by rw [← HO.out, nums_len (by omega) hlen]; rfl
   have HN := hd_ hN
   have hne : ((ws.length : Int) == 3) = false := by simp only [beq_eq_false_iff_ne, ne_eq]; omega
   clear hN hlen
   go_wp2_with fail
   refine (need_no _).mono ?_
   rintro r w1 ⟨rfl, rfl⟩
   unfold gaveW
   go_wp2_with fail
   exact ⟨rfl, by rw [HN.out]; rfl, HB0.out⟩
end Go.Proofs.YtfekohonidggjaaGreatDoor
