/- Texts joined by a tool: contracts and walks of this claim. -/
import Derived.Test.YtfekohonidggjaaGreatDoorB17
namespace Go.Proofs.YtfekohonidggjaaGreatDoor
open Go.RowKit
theorem tell_any (a : Ac) (hw : a.wf) (A : Option Addr) (c : Nat) (w : World) (hr : VRow w A a.row) (hL : LayS w) :
 Calls Tryz.prog 40 #[a.agg A c] w fun r w' => TellP (actW a) w.heap.size r w' ∧ Below w.heap.size w w' := by
 by_cases hd : a.d = 2
 · by_cases hp : opPre a
   · exact tell_op a hw hd hp A c w hr hL
   · exact tell_pre a hd hp A c w
 · exact tell_form a hw hd A c w hL
theorem jn_le (b : UInt8) (M : Nat) : ∀ (ws : List (List UInt8)), (∀ w ∈ ws, w.length ≤ M) → (jnW b ws).length ≤ ws.length * (M + 1)
 | [], _ => by simp [jnW]
 | [w], h => by
  have := h w (by simp)
  simp only [jnW, List.length_singleton]
  omega
 | w :: u :: ws, h => by
  have h1 := h w (by simp)
  have h2 := jn_le b M (u :: ws) (fun x hx => h x (by simp [hx]))
  simp only [jnW, List.length_append, List.length_cons] at h2 ⊢
  rw [Nat.add_mul, Nat.one_mul]
  omega
theorem jn_ge (b : UInt8) : ∀ (ws : List (List UInt8)), ws.length ≤ (jnW b ws).length + 1
 | [] => by simp
 | [w] => by simp
 | w :: u :: ws => by
  have h2 := jn_ge b (u :: ws)
  simp only [jnW, List.length_append, List.length_cons] at h2 ⊢
  omega
theorem itoa_len {v : Int} (h : i64B v) : (Lib.itoa v).length ≤ 20 := (longZ_len (longZ_itoa h)).2.1
theorem valW_len {v : V} (hw : v.wf) (h : mayB v = true) : (valW v).length ≤ 300 := by
 obtain ⟨_, _, h3, h4, _, _, _⟩ := hw
 have hl : v.t.data.toList.length = v.t.size := by simp
 unfold mayB at h
 unfold valW
 split
 · decide
 · split
   · split <;> decide
   · split
     · have := itoa_len (v := v.n) ⟨h3, h4⟩; omega
     · split
       · simp [hexN_length]
       · rename_i k0 k1 k2 k3
         rw [if_neg k0, if_neg k1, if_neg k2, if_neg k3] at h
         split
         · next k4 =>
           rw [if_pos k4] at h
           simp only [Bool.and_eq_true, decide_eq_true_eq] at h
           simp only [List.length_cons, hexL_length]
           omega
         · next k4 =>
           rw [if_neg k4] at h
           split at h
           · simp only [Bool.and_eq_true, decide_eq_true_eq] at h
             simp only [List.length_cons, hexL_length]
             omega
           · cases h
theorem form_len {d : Int} {w : List UInt8} {c : Nat} {f : Bool} (h : formOf d = some (w, c, f)) : w.length ≤ 10 := by
 have key : ∀ y ∈ formL, y.2.1.length ≤ 10 := by decide
 unfold formOf at h
 cases hf : formL.find? (·.1 == d) with
 | none => rw [hf] at h; cases h
 | some x =>
  rw [hf] at h
  simp only [Option.map_some, Option.some.injEq] at h
  have := key x (List.mem_of_find?_eq_some hf)
  rw [h] at this
  exact this
theorem actW_len {a : Ac} {ws : List (List UInt8)} (hw : a.wf) (h : actW a = some ws) : (jnW 32 ws).length ≤ 10000 := by
 obtain ⟨_, _, htb, hrow, hn, hm, hq, _⟩ := hw
 have key : ws.length ≤ 10 ∧ ∀ w ∈ ws, w.length ≤ 300 := by
  by_cases hd : a.d = 2
  · rw [actW_op hd] at h
    split at h
    · next ho =>
      obtain ⟨⟨_, hl, _⟩, hall⟩ := opB_pre.1 ho
      simp only [Option.some.injEq] at h
      subst h
      refine ⟨by simp; omega, fun w hm => ?_⟩
      simp only [List.mem_cons, List.mem_map] at hm
      rcases hm with rfl | rfl | ⟨v, hv, rfl⟩
      · unfold opW tOp1 tOp2 tOp3
        split
        · decide
        · split <;> decide
      · have := itoa_len htb; omega
      · exact valW_len (hrow v hv) (List.all_eq_true.1 hall v hv)
    · cases h
  · rw [actW_form hd] at h
    cases hfo : formOf a.d with
    | none => rw [hfo] at h; cases h
    | some x =>
     obtain ⟨w, c, f⟩ := x
     rw [hfo] at h
     simp only at h
     split at h
     · next ho =>
       simp only [Bool.and_eq_true] at ho
       simp only [Option.some.injEq] at h
       subst h
       have h1 := form_len hfo
       have h2 := itoa_len hn
       have h3 := itoa_len hm
       have h4 := itoa_len hq
       unfold tailW
       cases f with
       | false =>
        simp only [Bool.false_eq_true, if_false]
        unfold numsW
        refine ⟨by simp; omega, fun y hy => ?_⟩
        simp only [List.mem_cons] at hy
        rcases hy with rfl | hy
        · omega
        · have := List.mem_of_mem_take hy
          simp only [List.mem_cons, List.not_mem_nil, or_false] at this
          rcases this with rfl | rfl | rfl <;> omega
       | true =>
        simp only [if_true]
        refine ⟨by simp, fun y hy => ?_⟩
        simp only [List.mem_cons, List.not_mem_nil, or_false] at hy
        rcases hy with rfl | rfl | rfl | rfl | rfl
        · omega
        · omega
        · have h5 : fileB a.nm.data.toList = true := ho.2.2
          unfold fileB at h5
          simp only [Bool.and_eq_true, decide_eq_true_eq] at h5
          omega
        · omega
        · omega
     · cases h
 have := jn_le 32 300 ws key.2
 have h2 : ws.length * (300 + 1) ≤ 10 * 301 := Nat.mul_le_mul_right _ key.1
 omega
theorem join_own (B : Nat) (lv : Value) (ws : List (List UInt8)) (b : UInt8) (w : World) (h : w.ownsRow B 9 1 lv ws.length (wsC ws)) (hne : ws ≠ []) (hl : (jnW b ws).length ≤ 140737488355327) :
 Calls Tryz.prog 32 #[lv, .string ⟨#[b]⟩] w fun r w' => r = .returned (.string (bsO (jnW b ws))) ∧ Below w.heap.size w w' := by
 obtain ⟨hlen, ⟨rfl, h0⟩ | ⟨g, cap, cur, rfl, hBg, hg, h4, hm, hsz, htk⟩⟩ := h
 · exact absurd (List.eq_nil_of_length_eq_zero h0) hne
 have hgb : Blk w g cur 9 := hg
 have hj : Lib.join ((ws.map bsO).map (·.data.toList)) [b] = jnW b ws := by
  rw [List.map_map, show ((fun x : ByteArray => x.data.toList) ∘ bsO) = id from rfl, List.map_id, join_jn]
 have hJ := Tryz.strings_Join g 0 cap (ws.map bsO) ⟨#[b]⟩ w (fun j x hx => by
  rw [hgb.cell, Nat.zero_add, ← Array.getElem?_toList]
  have h1 : (wsC ws)[j]? = some (.string x) := by
   unfold wsC
   rw [List.getElem?_map] at hx ⊢
   cases hy : ws[j]? with
   | none => rw [hy] at hx; cases hx
   | some y => rw [hy] at hx; simp only [Option.map_some, Option.some.injEq] at hx ⊢; rw [← hx]
  rw [← htk, List.getElem?_take] at h1
  split at h1
  · exact h1
  · cases h1) hgb.lt (by have := jn_ge b ws; simp; omega) (by simpa using h4) (by
    show (Lib.join ((ws.map bsO).map (·.data.toList)) [b]).length ≤ _
    rw [hj]; omega)
 rw [List.length_map] at hJ
 refine hJ.mono ?_
 rintro r w' ⟨rfl, hb⟩
 refine ⟨?_, hb⟩
 show Ending.returned (.string ⟨(Lib.join ((ws.map bsO).map (·.data.toList)) [b]).toArray⟩) = _
 rw [hj]
 rfl
def AdQ (a : Ac) (b : Nat) (W : World) (r : Ending) (w' : World) : Prop :=
 (∃ s w1, actT a = some s ∧ r = .returned (.tuple #[]) ∧ Below W.heap.size W w1 ∧ w' = putBlk w1 b #[.string (bsO s)] 9) ∨ (actT a = none ∧ r = gaveW ∧ Below W.heap.size W w')
def Am.arr (a : Ac) (A : Option Addr) (c : Nat) : Array Value := #[.int .u8 a.d, .int .u8 a.k, .int .i64 a.tb, .slice A a.row.length c, .int .i64 a.n, .int .i64 a.m, .int .i64 a.q, .string a.nm]
set_option maxRecDepth 100000 in
set_option maxHeartbeats 1600000 in
theorem adDo_any (x : Ac) (hw : x.wf) (A : Option Addr) (c : Nat) (a b : Nat) (W : World) (hr : VRow W A x.row) (hL : LayS W) (ha : Blk W a (Am.arr x A c) 42) (hb : Blk W b #[.string ⟨#[]⟩] 9) :
 Calls Tryz.prog 39 #[.pointer (some ⟨a, 0, none⟩), .pointer (some ⟨b, 0, none⟩)] W (AdQ x b W) := by
 have HT := hd_ (tell_any x hw A c W hr hL)
 unfold Am.arr at ha
 obtain ⟨lA, y0, y1, y2, y3, y4, y5, y6, y7⟩ := blkA ha
 have HB := hd_ hb
 have HLN := hd_ (fun ws h => actW_len (a := x) (ws := ws) hw h)
 have hne : ∀ ws, actW x = some ws → ws ≠ [] := fun ws h => (actW_words hw h).1
 have HNE := hd_ hne
 clear hL hb ha hr hne
 unfold Ac.agg at HT
 go_enter Tryz.func39, Tryz.ntmps39
 go_wp2_with fail
 cases ho : actW x with
 | none =>
  rw [ho] at HT
  have HR : Hid (actT x = none) := by show _ = _; unfold actT; rw [ho]; rfl
  clear ho
  refine HT.out.mono ?_
  rintro q w1 ⟨hq, hb1⟩
  obtain rfl : q = gaveW := hq
  unfold gaveW
  go_wp2_with fail
  exact ⟨rfl, Or.inr ⟨HR.out, rfl, hb1⟩⟩
 | some ws =>
  rw [ho] at HT
  have HR : Hid (actT x = some (jnW 32 ws)) := by show _ = _; unfold actT; rw [ho]; rfl
  have hlen := HLN.out ws ho
  have hnw := HNE.out ws ho
  clear ho
  refine HT.out.mono ?_
  rintro q w1 ⟨⟨lv, rfl, hown⟩, hb1⟩
  have HJ := hd_ (join_own _ lv ws 32 w1 hown hnw (by omega))
  have HB1 := hd_ (HB.out.ext hb1)
  have HBB := hd_ hb1
  clear hown hnw hlen hb1
  go_wp2_with fail
  refine HJ.out.mono ?_
  rintro q w2 ⟨rfl, hb2⟩
  have hB1 := HB1.out.ext hb2
  have hbb := bt HBB.out hb2
  obtain ⟨w3, rfl, lt⟩ := blk_put hB1
  obtain ⟨pc, pf, pS⟩ := putBlk_facts (w := w3) 9 lt
  have HBX := hd_ hbb
  clear hb2 hB1 hbb
  go_wp2_with fail
  go_end0
  exact Or.inl ⟨_, _, HR.out, rfl, HBX.out, by rw [putputS]⟩
theorem AdQ_end {x : Ac} {b n : Nat} {W : World} (hn : Blk W n #[.bool false] 4) (hne : n ≠ b) : mayEnd n (AdQ x b W) := by
 rintro r w' (⟨v, w1, _, rfl, hb, rfl⟩ | ⟨_, rfl, hb⟩)
 · exact ⟨Or.inl rfl, putBlk_ne (hn.ext hb) hne⟩
 · exact ⟨Or.inr rfl, hn.ext hb⟩
def actP (o : Option (List UInt8)) : Value := match o with
 | some s => .tuple #[.string (bsO s), .int .i64 0]
 | none => .tuple #[.string ⟨#[]⟩, .int .i64 2]
set_option maxRecDepth 100000 in
set_option maxHeartbeats 1600000 in
theorem act_any (x : Ac) (hw : x.wf) (A : Option Addr) (c : Nat) (w : World) (hr : VRow w A x.row) (hL : LayS w) :
 Calls Tryz.prog 15 #[x.agg A c] w fun r w' => r = .returned (actP (actT x)) ∧ Below w.heap.size w w' := by
 have hA : Below w.heap.size w ((w.alloc (.cells (Am.arr x A c) 42)).alloc (.cells #[.string ⟨#[]⟩] 9)) := (by repeat (first | exact Below.refl _ _ | assumption | refine Below.drew ?_ | refine below_drewN ?_ _ | refine Below.alloc ?_ (by simp <;> omega) _))
 have hS : Blk ((w.alloc (.cells (Am.arr x A c) 42)).alloc (.cells #[.string ⟨#[]⟩] 9)) w.heap.size (Am.arr x A c) 42 := (Blk.new w _ _).old _
 have hV : Blk ((w.alloc (.cells (Am.arr x A c) 42)).alloc (.cells #[.string ⟨#[]⟩] 9)) (w.heap.size + 1) #[.string ⟨#[]⟩] 9 := (by repeat (first | exact Blk.at (by simp) | assumption | refine Blk.drew ?_ | refine Blk.old ?_ _))
 have hsz : ((w.alloc (.cells (Am.arr x A c) 42)).alloc (.cells #[.string ⟨#[]⟩] 9)).heap.size = w.heap.size + 2 := by simp
 have hWW : ((w.alloc (.cells (Am.arr x A c) 42)).alloc (.cells #[.string ⟨#[]⟩] 9)) = ((w.alloc (.cells #[.int .u8 x.d, .int .u8 x.k, .int .i64 x.tb, .slice A x.row.length c, .int .i64 x.n, .int .i64 x.m, .int .i64 x.q, .string x.nm] 42)).alloc (.cells #[.string ⟨#[]⟩] 9)) := rfl
 rw [hWW] at hA hS hV hsz
 generalize hW : ((w.alloc (.cells #[.int .u8 x.d, .int .u8 x.k, .int .i64 x.tb, .slice A x.row.length c, .int .i64 x.n, .int .i64 x.m, .int .i64 x.q, .string x.nm] 42)).alloc (.cells #[.string ⟨#[]⟩] 9)) = W at hA hS hV hsz
 have hb3 : Below W.heap.size W (W.alloc (.cells #[.bool false] 4)) := bel1 _ _
 have hn3 := Blk.new W #[.bool false] 4
 have HCA := hd_ (caught_act (.pointer (some ⟨w.heap.size, 0, none⟩)) (.pointer (some ⟨w.heap.size + 1, 0, none⟩)) W _ (adDo_any x hw A c w.heap.size (w.heap.size + 1) (W.alloc (.cells #[.bool false] 4)) ((hr.ext hA).ext hb3) ((hL.ext hA).ext hb3) (hS.ext hb3) (hV.ext hb3)) (AdQ_end hn3 (by omega)))
 have HV := hd_ (hV.ext hb3)
 have HSZ := hd_ hsz
 have HA := hd_ hA
 have HB3 := hd_ hb3
 clear hA hS hV hsz hL hb3 hn3 hr hWW
 unfold Ac.agg
 go_enter Tryz.func15, Tryz.ntmps15
 go_wp2_with fail
 clear hW
 refine HCA.out.mono ?_
 rintro r w1 ⟨w4, ⟨hq, rfl, rfl⟩ | ⟨hq, rfl, rfl⟩⟩
 · rcases hq with ⟨v, w5, hr, _, hb, rfl⟩ | ⟨_, h, _⟩
   · have hv5 := HV.out.ext hb
     obtain ⟨pc, pf, pS⟩ := putBlk_facts (w := w5) 9 hv5.lt
     have hBB : Below w.heap.size w (putBlk w5 (w.heap.size + 1) #[.string (bsO v)] 9) := putBlk_below _ _ (bt HA.out (bt HB3.out hb)) (by omega)
     have HR := hd_ hr
     have HBB := hd_ hBB
     have l5 := hv5.lt
     clear hr hBB hb hv5
     go_wp2_with fail
     refine bodyPost_ret (v := .tuple #[.string (bsO v), .int .i64 0]) (by simp [results, Tryz.results15, go_sem, pc]) rfl ?_
     exact ⟨by rw [HR.out]; rfl, HBB.out⟩
   · cases h
 · rcases hq with ⟨v, w5, _, h, _⟩ | ⟨hr, _, hb⟩
   · cases h
   · have hv5 := HV.out.ext hb
     have HR := hd_ hr
     have hz := putBlk_ne (cs := #[.bool true]) (t := 4) (b := W.heap.size) hv5 (by rw [HSZ.out]; omega)
     have hBB : Below w.heap.size w (putBlk w4 W.heap.size #[.bool true] 4) := putBlk_below _ _ (bt HA.out (bt HB3.out hb)) (by rw [HSZ.out]; omega)
     have HBB := hd_ hBB
     obtain ⟨z0, z1, z2⟩ := blk1c hz
     have hself := cell_same hz
     clear hr hBB hb hv5 hz
     go_wp2_with fail
     refine bodyPost_ret (v := .tuple #[.string ⟨#[]⟩, .int .i64 2]) (by simp [results, Tryz.results15, go_sem, z0]) rfl ?_
     exact ⟨by rw [HR.out]; rfl, HBB.out⟩
def opN (k : Int) : List UInt8 := if k = 1 then tOp1 else if k = 2 then tOp2 else if k = 3 then tOp3 else []
set_option maxRecDepth 100000 in
theorem refop_any (k : Int) (hk : 0 ≤ k ∧ k ≤ 255) (w : World) :
 Calls Tryz.prog 41 #[.int .u8 k] w fun r w' => r = .returned (.string (bsO (opN k))) ∧ Below w.heap.size w w' := by
 have hb0 : Below w.heap.size w (w.alloc (.cells #[.string ⟨#[]⟩, .string ⟨#[105, 110, 115, 101, 114, 116]⟩, .string ⟨#[117, 112, 100, 97, 116, 101]⟩, .string ⟨#[100, 101, 108, 101, 116, 101]⟩] 9)) := bel1 _ _
 have HB0 := hd_ hb0
 have HK0 := hd_ (Blk.new w #[.string ⟨#[]⟩, .string ⟨#[105, 110, 115, 101, 114, 116]⟩, .string ⟨#[117, 112, 100, 97, 116, 101]⟩, .string ⟨#[100, 101, 108, 101, 116, 101]⟩] 9)
 clear hb0
 by_cases h4 : 4 ≤ k
 · have hN : Hid (opN k = []) := by show _ = _; unfold opN; rw [if_neg (by omega), if_neg (by omega), if_neg (by omega)]
   go_enter Tryz.func41, Tryz.ntmps41
   go_wp2_with fail
   go_ret
   exact ⟨by rw [hN.out]; rfl, HB0.out⟩
 · have : k = 0 ∨ k = 1 ∨ k = 2 ∨ k = 3 := by omega
   clear hk h4
   rcases this with rfl | rfl | rfl | rfl
   all_goals
    go_enter Tryz.func41, Tryz.ntmps41
    go_upto_region 2 with fail
    generalize w.alloc (.cells #[.string ⟨#[]⟩, .string ⟨#[105, 110, 115, 101, 114, 116]⟩, .string ⟨#[117, 112, 100, 97, 116, 101]⟩, .string ⟨#[100, 101, 108, 101, 116, 101]⟩] 9) = w1 at HB0 HK0 ⊢
    obtain ⟨bl, y0, y1, y2, y3⟩ := (⟨HK0.out.lt, HK0.out.cell 0, HK0.out.cell 1, HK0.out.cell 2, HK0.out.cell 3⟩ : w.heap.size < w1.heap.size ∧ w1.cell? ⟨w.heap.size, 0, none⟩ = some (.string ⟨#[]⟩) ∧ w1.cell? ⟨w.heap.size, 1, none⟩ = some (.string ⟨#[105, 110, 115, 101, 114, 116]⟩) ∧ w1.cell? ⟨w.heap.size, 2, none⟩ = some (.string ⟨#[117, 112, 100, 97, 116, 101]⟩) ∧ w1.cell? ⟨w.heap.size, 3, none⟩ = some (.string ⟨#[100, 101, 108, 101, 116, 101]⟩))
    go_wp2_with fail
    go_ret
    exact ⟨rfl, HB0.out⟩
set_option maxRecDepth 100000 in
theorem refnoop_any (k tb : Int) (A : Option Addr) (n c : Nat) (w : World) :
 Calls Tryz.prog 45 #[.agg #[.int .u8 k, .int .i64 tb, .slice A n c]] w fun r w' => r = .returned (.bool (decide (k = 0 ∧ tb = 0 ∧ n = 0))) ∧ Below w.heap.size w w' := by
 have hb0 : Below w.heap.size w (w.alloc (.cells #[.int .u8 k, .int .i64 tb, .slice A n c] 40)) := bel1 _ _
 have HB0 := hd_ hb0
 have HK0 := hd_ (Blk.new w #[.int .u8 k, .int .i64 tb, .slice A n c] 40)
 clear hb0
 generalize hM : decide (k = 0 ∧ tb = 0 ∧ n = 0) = M
 have HM := hd_ hM
 clear hM
 go_enter Tryz.func45, Tryz.ntmps45
 go_upto_region 1 with fail
 generalize w.alloc (.cells #[.int .u8 k, .int .i64 tb, .slice A n c] 40) = w1 at HB0 HK0 ⊢
 obtain ⟨bl, y0, y1, y2⟩ := (⟨HK0.out.lt, HK0.out.cell 0, HK0.out.cell 1, HK0.out.cell 2⟩ : w.heap.size < w1.heap.size ∧ w1.cell? ⟨w.heap.size, 0, none⟩ = some (.int .u8 k) ∧ w1.cell? ⟨w.heap.size, 1, none⟩ = some (.int .i64 tb) ∧ w1.cell? ⟨w.heap.size, 2, none⟩ = some (.slice A n c))
 by_cases h1 : k = 0
 · by_cases h2 : tb = 0
   · by_cases h3 : n = 0
     · have hN : Hid (M = true) := by show _ = _; rw [← HM.out]; simp [h1, h2, h3]
       subst h1; subst h2; subst h3
       go_wp2_with fail
       go_ret
       exact ⟨by rw [hN.out]; rfl, HB0.out⟩
     · have hN : Hid (M = false) := by show _ = _; rw [← HM.out]; simp [h3]
       have h3b : ((n : Int) == 0) = false := by simp; exact h3
       subst h1; subst h2
       clear h3
       go_wp2_with fail
       go_ret
       exact ⟨by rw [hN.out]; rfl, HB0.out⟩
   · have hN : Hid (M = false) := by show _ = _; rw [← HM.out]; simp [h2]
     have h2b : (tb == 0) = false := by simp [h2]
     subst h1
     clear h2
     go_wp2_with fail
     go_ret
     exact ⟨by rw [hN.out]; rfl, HB0.out⟩
 · have hN : Hid (M = false) := by show _ = _; rw [← HM.out]; simp [h1]
   have h1b : (k == 0) = false := by simp [h1]
   clear h1
   go_wp2_with fail
   go_ret
   exact ⟨by rw [hN.out]; rfl, HB0.out⟩
end Go.Proofs.YtfekohonidggjaaGreatDoor
