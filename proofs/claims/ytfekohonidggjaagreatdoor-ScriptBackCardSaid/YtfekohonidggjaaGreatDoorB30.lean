/- Texts joined by a tool: contracts and walks of this claim. -/
import Derived.Test.YtfekohonidggjaaGreatDoorB29
namespace Go.Proofs.YtfekohonidggjaaGreatDoor
open Go.RowKit
def rdArr (a c : Value) (st : Ls) (n : Nat) : Array Value := #[a, .int .i64 st.seg, .int .i64 st.bd, .int .i64 st.r0, .int .i64 st.r1, .int .i64 st.r2, c, .int .i64 n, .bool st.acts]
def HeadQ (st : Ls) (l : List UInt8) (a c : Value) (b : Nat) (w : World) (r : Ending) (w' : World) : Prop :=
 (∃ st', headF st l = some st' ∧ r = .returned (.tuple #[]) ∧ w.grownBy w' (some b) ∧ Blk w' b (rdArr a c st' st.n) 85) ∨
 (headF st l = none ∧ r = gaveW ∧ w.grownBy w' (some b) ∧ ∃ x, Blk w' b (rdArr a c x st.n) 85)
theorem gr_below {w w' : World} {row : Option Nat} (h : Below w.heap.size w w') : w.grownBy w' row := ⟨h.os, h.tape, h.output, h.size, fun k hk _ => h.block k hk⟩
theorem gr_trans {w w1 w2 : World} {row : Option Nat} (h : w.grownBy w1 row) (g : w1.grownBy w2 row) : w.grownBy w2 row := ⟨g.os.trans h.os, g.tape.trans h.tape, g.output.trans h.output, Nat.le_trans h.size g.size, fun k hk hr => (g.block k (Nat.lt_of_lt_of_le hk h.size) hr).trans (h.block k hk hr)⟩
theorem gr_put (w : World) (b : Nat) (cs ds : Array Value) (t : TypeId) : (putBlk w b cs t).grownBy (putBlk w b ds t) (some b) := by
 refine ⟨rfl, rfl, rfl, by rw [putBlk_size, putBlk_size]; exact Nat.le_refl _, fun k hk hr => ?_⟩
 have hne : k ≠ b := fun e => hr (by rw [e])
 unfold putBlk
 simp only
 rw [Array.getElem?_setIfInBounds_ne (Ne.symm hne), Array.getElem?_setIfInBounds_ne (Ne.symm hne)]
theorem gr_low {B b : Nat} {w w' : World} (h : w.grownBy w' (some b)) (hb : B ≤ b) (hB : B ≤ w.heap.size) : Below B w w' :=
 ⟨h.os, h.tape, h.output, h.size, fun c hc => h.block c (by omega) (by simp; omega)⟩
def hdN : Nat → List UInt8
 | 0 => tSeg
 | 1 => tBound
 | _ => tRooms
def hdK : Nat → Nat
 | 0 => 2
 | 1 => 2
 | _ => 4
def namesC : Array Value := #[.string ⟨#[115, 101, 103]⟩, .string ⟨#[98, 111, 117, 110, 100]⟩, .string ⟨#[114, 111, 111, 109, 115]⟩]
def lensC : Array Value := #[.int .i64 2, .int .i64 2, .int .i64 4]
theorem headF_name {st : Ls} {l : List UInt8} {x : List UInt8} {ws : List (List UInt8)} (h : wordsF l = some (x :: ws)) (hn : st.n < 3) (hx : ¬ (x = hdN st.n ∧ (x :: ws).length = hdK st.n)) : headF st l = none := by
 unfold headF
 rw [h]
 obtain ⟨seg, bd, r0, r1, r2, ts, l, n, acts⟩ := st
 simp only at hn hx ⊢
 have : n = 0 ∨ n = 1 ∨ n = 2 := by omega
 rcases this with rfl | rfl | rfl
 · rcases ws with _ | ⟨y, _ | ⟨z, ws⟩⟩ <;> simp [hdN, hdK] at hx ⊢
   exact fun e => absurd e hx
 · rcases ws with _ | ⟨y, _ | ⟨z, ws⟩⟩ <;> simp [hdN, hdK] at hx ⊢
   exact fun e => absurd e hx
 · rcases ws with _ | ⟨y, _ | ⟨z, _ | ⟨u, _ | ⟨v, ws⟩⟩⟩⟩ <;> simp [hdN, hdK] at hx ⊢
   exact fun e => absurd e hx
theorem headF_seg {st : Ls} {l x : List UInt8} (h : wordsF l = some [tSeg, x]) (hn : st.n = 0) : headF st l = match longZ x with
  | some v => if segB v then some { st with seg := v, n := 1 } else none
  | none => none := by
 unfold headF
 rw [h, hn]
 simp
 cases longZ x <;> rfl
theorem headF_bd {st : Ls} {l x : List UInt8} (h : wordsF l = some [tBound, x]) (hn : st.n = 1) : headF st l = match longZ x with
  | some v => if bdB v then some { st with bd := v, n := 2 } else none
  | none => none := by
 unfold headF
 rw [h, hn]
 simp
 cases longZ x <;> rfl
theorem headF_rm {st : Ls} {l x y z : List UInt8} (h : wordsF l = some [tRooms, x, y, z]) (hn : st.n = 2) : headF st l = match longZ x, longZ y, longZ z with
  | some u, some v, some t => if rmB u && (rmB v && rmB t) then some { st with r0 := u, r1 := v, r2 := t, n := 3 } else none
  | _, _, _ => none := by
 unfold headF
 rw [h, hn]
 simp
 cases longZ x <;> cases longZ y <;> cases longZ z <;> rfl
def kNmAt (n : Nat) : Known := .mem (fun v w => ∃ g, v = .pointer (some ⟨g, n, none⟩) ∧ Blk w g namesC 9) (fun _ _ _ ⟨g, h1, h2⟩ hb => ⟨g, h1, h2.ext hb⟩)
def kLnAt (n : Nat) : Known := .mem (fun v w => ∃ g, v = .pointer (some ⟨g, n, none⟩) ∧ Blk w g lensC 3) (fun _ _ _ ⟨g, h1, h2⟩ hb => ⟨g, h1, h2.ext hb⟩)
def kNeed (q : Bool) : Known := .mem (fun _ _ => q = true) (fun _ _ _ h _ => h)
theorem names_cell {w : World} {g n : Nat} (h : Blk w g namesC 9) (hn : n < 3) : w.cell? ⟨g, n, none⟩ = some (.string (bsO (hdN n))) := by
 rw [h.cell]
 have : n = 0 ∨ n = 1 ∨ n = 2 := by omega
 rcases this with rfl | rfl | rfl <;> rfl
theorem lens_cell {w : World} {g n : Nat} (h : Blk w g lensC 3) (hn : n < 3) : w.cell? ⟨g, n, none⟩ = some (.int .i64 (hdK n)) := by
 rw [h.cell]
 have : n = 0 ∨ n = 1 ∨ n = 2 := by omega
 rcases this with rfl | rfl | rfl <;> rfl
theorem blk9 {w : World} {b : Nat} {a0 a1 a2 a3 a4 a5 a6 a7 a8 : Value} {t : TypeId} (h : Blk w b #[a0, a1, a2, a3, a4, a5, a6, a7, a8] t) :
  b < w.heap.size ∧ w.cell? ⟨b, 0, none⟩ = some a0 ∧ w.cell? ⟨b, 1, none⟩ = some a1 ∧ w.cell? ⟨b, 2, none⟩ = some a2 ∧ w.cell? ⟨b, 3, none⟩ = some a3 ∧ w.cell? ⟨b, 4, none⟩ = some a4 ∧ w.cell? ⟨b, 5, none⟩ = some a5 ∧ w.cell? ⟨b, 6, none⟩ = some a6 ∧ w.cell? ⟨b, 7, none⟩ = some a7 ∧ w.cell? ⟨b, 8, none⟩ = some a8 :=
 ⟨h.lt, h.cell 0, h.cell 1, h.cell 2, h.cell 3, h.cell 4, h.cell 5, h.cell 6, h.cell 7, h.cell 8⟩
set_option maxRecDepth 100000 in
set_option maxHeartbeats 1600000 in
theorem hd1_any (ws : List (List UInt8)) (g a k : Nat) (x : List UInt8) (hx : ws[k]? = some x) (hxl : x.length ≤ 4294967280) (W : World) (hL : LayS W) (ha : Blk W a #[.slice (some ⟨g, 0, none⟩) ws.length ws.length] 63) (hg : WRow W g ws) :
  Calls Tryz.prog 122 #[.int .i64 k, .pointer (some ⟨a, 0, none⟩)] W fun r w' => r = orGave ((longZ x).map fun n => .int .i64 n) ∧ Below W.heap.size W w' := by
 have HLG := hd_ (longS_any (bsO x) (by rw [bsO_size]; omega) W hL)
 rw [show (bsO x).data.toList = x from rfl] at HLG
 obtain ⟨y0, y1, y2⟩ := blk1c ha
 have c0 := hg.at_ hx
 have gl := hg.lt
 obtain ⟨hk, -⟩ := List.getElem?_eq_some_iff.1 hx
 have k0 : (0 : Int) ≤ k := by omega
 have k1 : (k : Int) < ws.length := by omega
 clear hx hL ha hg hk
 go_enter Tryz.func122, Tryz.ntmps122
 go_wp2_with fail
 refine HLG.out.mono ?_
 cases hv : longZ x with
 | none =>
  rintro r w1 ⟨rfl, hb⟩
  simp only [Option.map_none, orGave]
  unfold gaveW
  go_wp2_with fail
  exact ⟨rfl, by rw [hv]; rfl, hb⟩
 | some n =>
  rintro r w1 ⟨rfl, hb⟩
  simp only [Option.map_some, orGave]
  go_wp2_with fail
  go_ret
  exact ⟨by rw [hv]; rfl, hb⟩
set_option maxRecDepth 100000 in
set_option maxHeartbeats 6400000 in
theorem head_any (st : Ls) (hn : st.n < 3) (s : ByteArray) (hs : s.size < 4294967281) (a c : Value) (b B : Nat) (hBb : B ≤ b) (w : World) (hL : ∀ W, Below B w W → LayS W) (hB : Blk w b (rdArr a c st st.n) 85) :
  Calls Tryz.prog 88 #[.pointer (some ⟨b, 0, none⟩), .string s] w (HeadQ st s.data.toList a c b w) := by
 have hBw : B ≤ w.heap.size := by have := hB.lt; omega
 have HWD := hd_ (words_any s hs w (hL w (Below.refl _ _)))
 have HL := hd_ hL
 have HB := hd_ hB
 have HLEN : Hid (s.data.toList.length = s.size) := by show _ = _; simp
 have hbl := hB.lt
 clear hL hB
 go_enter Tryz.func88, Tryz.ntmps88
 go_wp2_with fail
 cases hwf : wordsF s.data.toList with
 | none =>
  have HN : Hid (headF st s.data.toList = none) := by show _ = _; unfold headF; rw [hwf]
  rw [hwf] at HWD
  clear hwf
  refine HWD.out.mono ?_
  rintro r w1 ⟨hr, hb1⟩
  obtain rfl : r = gaveW := hr
  unfold gaveW
  go_wp2_with fail
  exact ⟨rfl, Or.inr ⟨HN.out, rfl, gr_below hb1, st, HB.out.ext hb1⟩⟩
 | some ws =>
  rw [hwf] at HWD
  obtain ⟨hne, _, hjn⟩ := wordsF_some.1 hwf
  have HWL : Hid (∀ x ∈ ws, x.length ≤ 4294967280) := fun x hx => by
   have := jn_len 32 ws x hx
   rw [hjn] at this
   have := HLEN.out
   omega
  obtain ⟨x0, wr, rfl⟩ : ∃ x0 wr, ws = x0 :: wr := by
   cases ws with
   | nil => exact absurd rfl hne
   | cons x0 wr => exact ⟨x0, wr, rfl⟩
  have HWF := hd_ hwf
  clear hwf hne hjn
  refine HWD.out.mono ?_
  rintro r w1 ⟨⟨g, rfl, hrow, hgb⟩, hb1⟩
  obtain ⟨m, hm⟩ : ∃ m, m = (x0 :: wr).length := ⟨_, rfl⟩
  rw [← hm]
  have hm0 : 0 < m := by rw [hm]; simp
  have HM := hd_ hm
  have hB1 := HB.out.ext hb1
  have HA2 := hd_ (Blk.new w1 #[.slice (some ⟨g, 0, none⟩) m m] 63)
  have HB2 := hd_ (hB1.old (.cells #[.slice (some ⟨g, 0, none⟩) m m] 63))
  have HW2 : Hid (WRow (w1.alloc (.cells #[.slice (some ⟨g, 0, none⟩) m m] 63)) g (x0 :: wr)) := Blk.old hrow _
  have HBW := hd_ (hb1.alloc hb1.size (.cells #[.slice (some ⟨g, 0, none⟩) m m] 63))
  have hgb0 := hgb
  have hg1 := hrow.lt
  clear hb1 hB1 hrow hm HWD
  go_upto_region 2 with fail
  have hla : w1.heap.size < (w1.alloc (.cells #[.slice (some ⟨g, 0, none⟩) m m] 63)).heap.size := by simp
  have hsw : w.heap.size ≤ w1.heap.size := by have := HBW.out; exact Nat.le_trans hgb0 (Nat.le_of_lt hg1)
  generalize w1.alloc (.cells #[.slice (some ⟨g, 0, none⟩) m m] 63) = W1 at HA2 HB2 HW2 HBW hla ⊢
  generalize w1.heap.size = la at HA2 hla hsw ⊢
  have hbla : b ≠ la := by omega
  obtain ⟨q, hq⟩ : ∃ q, q = decide (m = hdK st.n) := ⟨_, rfl⟩
  have HQ := hd_ hq
  have hq1 : ((m : Int) == (hdK st.n : Int)) = q := by
   rw [hq]
   by_cases e : m = hdK st.n
   · simp [e]
   · have : ¬ (m : Int) = (hdK st.n : Int) := by omega
     simp [e, this]
  have hq2 : decide ((m : Int) = (hdK st.n : Int)) = q := by
   rw [hq]
   by_cases e : m = hdK st.n
   · simp [e]
   · have : ¬ (m : Int) = (hdK st.n : Int) := by omega
     simp [e, this]
  clear hq
  by_cases hx0 : x0 = hdN st.n
  · have hcmp : ((bsO x0).toList == (bsO (hdN st.n)).toList) = true := by rw [hx0]; simp
    have HX0 := hd_ hx0
    clear hx0
    refine region_grow [false, false, false, false, false, false, false, false, false, false, true, true, true, true, true, true, true, true, true, true, true, true, true, true, true, true, true, true, true, true, true, true, true, true, false, false, false, false, false, false, false, false, false, false, false, false, false, false, false, false, false, false, false, false, false, false, false, false, false, false, false, false, false, false, false, false, false, false, false, false, false, false, false, false, false, false, false, false, false, false, false, false, false, false, false, false, false, false, false, false, false, false, false, false, false, false, false, false, false, false, false, false, false, false, false, false, false, false, false, false, false, false, false, false, false, false, false] [10, 11, 12, 13, 14, 15, 16, 17, 18, 19, 20, 21, 22, 23, 24, 25, 26, 27, 28, 29, 30, 31, 32, 33] [.val (.slice (some ⟨g, 0, none⟩) m m), .val (.pointer (some ⟨g, 0, none⟩)), .val (.string (bsO x0)), .new (fun g => .slice (some ⟨g, 0, none⟩) 3 3) namesC 9, .val (.pointer (some ⟨b, 0, none⟩)), .val (.pointer (some ⟨b, 0, none⟩)), .val (.pointer (some ⟨b, 7, none⟩)), .val (.int .i64 st.n), kNmAt st.n, .val (.string (bsO (hdN st.n))), .val (.bool true), .val (.bool true), .val (.slice (some ⟨g, 0, none⟩) m m), .val (.int .i64 m), .new (fun g => .slice (some ⟨g, 0, none⟩) 3 3) lensC 3, .val (.pointer (some ⟨b, 0, none⟩)), .val (.pointer (some ⟨b, 0, none⟩)), .val (.pointer (some ⟨b, 7, none⟩)), .val (.int .i64 st.n), kLnAt st.n, .val (.int .i64 (hdK st.n)), .val (.bool q), .val (.bool q), kNeed q] [23] (by kernel_rfl) (by kernel_rfl) (by kernel_rfl) (by kernel_rfl) (by kernel_rfl) ⟨?_, ?_, ?_, ?_, ?_, ?_, ?_, ?_, ?_, ?_, ?_, ?_, ?_, ?_, ?_, ?_, ?_, ?_, ?_, ?_, ?_, ?_, ?_, ?_, trivial⟩ ?done
    case done =>
     intro x w2 hb2
     simp only [StepGoal, overlay, upd, cond_true, cond_false, List.getD_cons_zero, List.getD_cons_succ, Nat.zero_add, Nat.reduceAdd, Nat.reduceEqDiff, reduceIte]
     intro v hqt
     clear hq1 hq2
     have hlen : (x0 :: wr).length = hdK st.n := by
      have h1 := HQ.out
      rw [hqt, HM.out] at h1
      exact of_decide_eq_true h1.symm
     have hX0 := HX0.out
     have hgb2 : g ≠ b := by omega
     have HD : Hid (∀ W, w2.grownBy W (some b) → ∀ (k : Nat) (x : List UInt8), (x0 :: wr)[k]? = some x → Calls Tryz.prog 122 #[.int .i64 k, .pointer (some ⟨la, 0, none⟩)] W fun r w' => r = orGave ((longZ x).map fun n => .int .i64 n) ∧ Below W.heap.size W w') := fun W hW k x hx => by
      refine hd1_any (x0 :: wr) g la k x hx (HWL.out x (List.mem_of_getElem? hx)) W (HL.out W ?_) ?_ ?_
      · exact gr_low (gr_trans (gr_below (bt HBW.out hb2)) hW) hBb hBw
      · rw [← HM.out]
        exact blk_grown (HA2.out.ext hb2) hW (by simp; omega)
      · exact blk_grown (HW2.out.ext hb2) hW (by simp; omega)
     have hn3 : st.n = 0 ∨ st.n = 1 ∨ st.n = 2 := by omega
     rcases hn3 with h | h | h
     · rw [h] at hlen hX0
       obtain ⟨x1, rfl⟩ : ∃ x1, wr = [x1] := by
        rcases wr with _ | ⟨x1, _ | ⟨x2, wr⟩⟩
        · simp [hdK] at hlen
        · exact ⟨x1, rfl⟩
        · simp [hdK] at hlen
       have HR := hd_ (headF_seg (x := x1) (by rw [HWF.out, hX0]; rfl) h)
       clear hlen hX0 hcmp
       have hB := HB2.out.ext hb2
       rw [h] at hB
       unfold rdArr at hB
       obtain ⟨bl, y0, y1, y2, y3, y4, y5, y6, y7, y8⟩ := blk9 hB
       have HG2 : Hid (w.grownBy w2 (some b)) := gr_below (bt HBW.out hb2)
       have HBB := hd_ hB
       have HD1 := HD.out w2 (gr_below (Below.refl _ _)) 1 x1 rfl
       clear hB hb2
       go_wp2_with fail
       refine HD1.mono ?_
       cases hv : longZ x1 with
       | none =>
        rintro r w3 ⟨rfl, hb3⟩
        simp only [Option.map_none, orGave]
        have HN : Hid (headF st s.data.toList = none) := by show _ = _; rw [HR.out, hv]
        unfold gaveW
        go_wp2_with fail
        exact ⟨rfl, Or.inr ⟨HN.out, rfl, gr_trans HG2.out (gr_below hb3), st, by rw [h]; exact HBB.out.ext hb3⟩⟩
       | some v =>
        rintro r w3 ⟨rfl, hb3⟩
        simp only [Option.map_some, orGave]
        have hB3 := HBB.out.ext hb3
        have hg3 := gr_trans HG2.out (gr_below (row := some b) hb3)
        obtain ⟨w5, rfl, lt⟩ := blk_put hB3
        obtain ⟨pc, pf, pS⟩ := putBlk_facts (w := w5) 85 lt
        have HGF := hd_ (gr_trans hg3 (gr_put w5 b #[a, .int .i64 st.seg, .int .i64 st.bd, .int .i64 st.r0, .int .i64 st.r1, .int .i64 st.r2, c, .int .i64 0, .bool st.acts] #[a, .int .i64 v, .int .i64 st.bd, .int .i64 st.r0, .int .i64 st.r1, .int .i64 st.r2, c, .int .i64 0, .bool st.acts] 85))
        have HBF := hd_ (putBlk_blk (w := w5) (b := b) #[a, .int .i64 v, .int .i64 st.bd, .int .i64 st.r0, .int .i64 st.r1, .int .i64 st.r2, c, .int .i64 0, .bool st.acts] 85 lt)
        clear hb3 hB3 hg3 y0 y1 y2 y3 y4 y5 y6 y7 y8
        by_cases b1 : 1 ≤ v
        · by_cases b2 : v ≤ 65536
          · have HN : Hid (headF st s.data.toList = some { st with seg := v, n := 1 }) := by show _ = _; rw [HR.out, hv]; simp [segB, b1, b2]
            clear hv
            go_wp2_with fail
            refine (need_yes _).mono ?_
            rintro r w6 ⟨rfl, rfl⟩
            go_wp2_with fail
            go_end0
            exact Or.inl ⟨_, HN.out, rfl, HGF.out, by rw [h]; exact HBF.out⟩
          · have HN : Hid (headF st s.data.toList = none) := by show _ = _; rw [HR.out, hv]; simp [segB, b2]
            clear hv
            go_wp2_with fail
            refine (need_no _).mono ?_
            rintro r w6 ⟨rfl, rfl⟩
            unfold gaveW
            go_wp2_with fail
            exact ⟨rfl, Or.inr ⟨HN.out, rfl, HGF.out, { st with seg := v, n := 1 }, by rw [h]; exact HBF.out⟩⟩
        · have HN : Hid (headF st s.data.toList = none) := by show _ = _; rw [HR.out, hv]; simp [segB, b1]
          clear hv
          go_wp2_with fail
          refine (need_no _).mono ?_
          rintro r w6 ⟨rfl, rfl⟩
          unfold gaveW
          go_wp2_with fail
          exact ⟨rfl, Or.inr ⟨HN.out, rfl, HGF.out, { st with seg := v, n := 1 }, by rw [h]; exact HBF.out⟩⟩
     · rw [h] at hlen hX0
       obtain ⟨x1, rfl⟩ : ∃ x1, wr = [x1] := by
        rcases wr with _ | ⟨x1, _ | ⟨x2, wr⟩⟩
        · simp [hdK] at hlen
        · exact ⟨x1, rfl⟩
        · simp [hdK] at hlen
       have HR := hd_ (headF_bd (x := x1) (by rw [HWF.out, hX0]; rfl) h)
       clear hlen hX0 hcmp
       have hB := HB2.out.ext hb2
       rw [h] at hB
       unfold rdArr at hB
       obtain ⟨bl, y0, y1, y2, y3, y4, y5, y6, y7, y8⟩ := blk9 hB
       have HG2 : Hid (w.grownBy w2 (some b)) := gr_below (bt HBW.out hb2)
       have HBB := hd_ hB
       have HD1 := HD.out w2 (gr_below (Below.refl _ _)) 1 x1 rfl
       clear hB hb2
       go_wp2_with fail
       refine HD1.mono ?_
       cases hv : longZ x1 with
       | none =>
        rintro r w3 ⟨rfl, hb3⟩
        simp only [Option.map_none, orGave]
        have HN : Hid (headF st s.data.toList = none) := by show _ = _; rw [HR.out, hv]
        unfold gaveW
        go_wp2_with fail
        exact ⟨rfl, Or.inr ⟨HN.out, rfl, gr_trans HG2.out (gr_below hb3), st, by rw [h]; exact HBB.out.ext hb3⟩⟩
       | some v =>
        rintro r w3 ⟨rfl, hb3⟩
        simp only [Option.map_some, orGave]
        have hB3 := HBB.out.ext hb3
        have hg3 := gr_trans HG2.out (gr_below (row := some b) hb3)
        obtain ⟨w5, rfl, lt⟩ := blk_put hB3
        obtain ⟨pc, pf, pS⟩ := putBlk_facts (w := w5) 85 lt
        have HGF := hd_ (gr_trans hg3 (gr_put w5 b #[a, .int .i64 st.seg, .int .i64 st.bd, .int .i64 st.r0, .int .i64 st.r1, .int .i64 st.r2, c, .int .i64 1, .bool st.acts] #[a, .int .i64 st.seg, .int .i64 v, .int .i64 st.r0, .int .i64 st.r1, .int .i64 st.r2, c, .int .i64 1, .bool st.acts] 85))
        have HBF := hd_ (putBlk_blk (w := w5) (b := b) #[a, .int .i64 st.seg, .int .i64 v, .int .i64 st.r0, .int .i64 st.r1, .int .i64 st.r2, c, .int .i64 1, .bool st.acts] 85 lt)
        clear hb3 hB3 hg3 y0 y1 y2 y3 y4 y5 y6 y7 y8
        by_cases b1 : 1 ≤ v
        · by_cases b2 : v ≤ 4096
          · have HN : Hid (headF st s.data.toList = some { st with bd := v, n := 2 }) := by show _ = _; rw [HR.out, hv]; simp [bdB, b1, b2]
            clear hv
            go_wp2_with fail
            refine (need_yes _).mono ?_
            rintro r w6 ⟨rfl, rfl⟩
            go_wp2_with fail
            go_end0
            exact Or.inl ⟨_, HN.out, rfl, HGF.out, by rw [h]; exact HBF.out⟩
          · have HN : Hid (headF st s.data.toList = none) := by show _ = _; rw [HR.out, hv]; simp [bdB, b2]
            clear hv
            go_wp2_with fail
            refine (need_no _).mono ?_
            rintro r w6 ⟨rfl, rfl⟩
            unfold gaveW
            go_wp2_with fail
            exact ⟨rfl, Or.inr ⟨HN.out, rfl, HGF.out, { st with bd := v, n := 2 }, by rw [h]; exact HBF.out⟩⟩
        · have HN : Hid (headF st s.data.toList = none) := by show _ = _; rw [HR.out, hv]; simp [bdB, b1]
          clear hv
          go_wp2_with fail
          refine (need_no _).mono ?_
          rintro r w6 ⟨rfl, rfl⟩
          unfold gaveW
          go_wp2_with fail
          exact ⟨rfl, Or.inr ⟨HN.out, rfl, HGF.out, { st with bd := v, n := 2 }, by rw [h]; exact HBF.out⟩⟩
     · rw [h] at hlen hX0
       obtain ⟨x1, x2, x3, rfl⟩ : ∃ x1 x2 x3, wr = [x1, x2, x3] := by
        rcases wr with _ | ⟨x1, _ | ⟨x2, _ | ⟨x3, _ | ⟨x4, wr⟩⟩⟩⟩
        · simp [hdK] at hlen
        · simp [hdK] at hlen
        · simp [hdK] at hlen
        · exact ⟨x1, x2, x3, rfl⟩
        · simp [hdK] at hlen
       have HR := hd_ (headF_rm (x := x1) (y := x2) (z := x3) (by rw [HWF.out, hX0]; rfl) h)
       clear hlen hX0 hcmp
       have hB := HB2.out.ext hb2
       rw [h] at hB
       unfold rdArr at hB
       obtain ⟨bl, y0, y1, y2, y3, y4, y5, y6, y7, y8⟩ := blk9 hB
       have HG2 : Hid (w.grownBy w2 (some b)) := gr_below (bt HBW.out hb2)
       have HBB := hd_ hB
       clear hB hb2
       go_wp2_with fail
       refine wp_loop_rounds 4 ?_
       rw [rounds_succ]
       go_upto_region 7 with fail
       have HQ2 : Hid (w2.grownBy w2 (some b)) := gr_below (Below.refl _ _)
       clear y0 y1 y2 y3 y4 y5 y6 y7 y8
       refine region_last 10 _ [false, false, false, false, false, false, false, false, false, false, false, false, false, false, false, false, false, false, false, false, false, false, false, false, false, false, false, false, false, false, false, false, false, false, false, false, false, false, false, false, false, true, true, true, true, true, true, true, true, true, true, false, false, false, false, false, false, false, false, false, false, false, false, false, false, false, false, false, false, false, false, false, false, false, false, false, false, false, false, false, false, false, false, false, false, false, false, false, false, false, false, false, false, false, false, false, false, false, false, false, false, false, false, false, false, false, false, false, false, false, false, false, false, false, false, false, false] [41, 42, 43, 44, 45, 46, 47, 48, 49, 50] [.val (.pointer (some ⟨b, 0, none⟩)), .val (.int .i64 0), .val (.func (Fn.func 122) #[] #[.pointer (some ⟨la, 0, none⟩)]), .val (.int .i64 0), .val (.int .i64 1), kLong x1, .val (.pointer (some ⟨b, 0, none⟩)), .val (.pointer (some ⟨b, 0, none⟩)), .val (.pointer (some ⟨b, 3, none⟩)), .val (.pointer (some ⟨b, 3, none⟩))] [9, 5] (by kernel_rfl) rfl rfl (by kernel_rfl) (by kernel_rfl) (by kernel_rfl) (by kernel_rfl) (by kernel_rfl) ⟨?_, ?_, ?_, ?_, ?_, ?_, ?_, ?_, ?_, ?_, trivial⟩ ?done
       case done =>
        intro xx w4 hb4
        simp only [StepGoal, List.getD_cons_zero, List.getD_cons_succ]
        rintro _ ⟨v1, hvv1, rfl⟩ K hK
        have hB4 := HBB.out.ext hb4
        have hg4 := gr_trans HG2.out (gr_below (row := some b) hb4)
        have hq4 := gr_trans HQ2.out (gr_below (row := some b) hb4)
        obtain ⟨w5, rfl, lt⟩ := blk_put hB4
        obtain ⟨pc, pf, pS⟩ := putBlk_facts (w := w5) 85 lt
        have HGF := hd_ (gr_trans hg4 (gr_put w5 b #[a, .int .i64 st.seg, .int .i64 st.bd, .int .i64 st.r0, .int .i64 st.r1, .int .i64 st.r2, c, .int .i64 2, .bool st.acts] #[a, .int .i64 st.seg, .int .i64 st.bd, .int .i64 v1, .int .i64 st.r1, .int .i64 st.r2, c, .int .i64 2, .bool st.acts] 85))
        have HQF := hd_ (gr_trans hq4 (gr_put w5 b #[a, .int .i64 st.seg, .int .i64 st.bd, .int .i64 st.r0, .int .i64 st.r1, .int .i64 st.r2, c, .int .i64 2, .bool st.acts] #[a, .int .i64 st.seg, .int .i64 st.bd, .int .i64 v1, .int .i64 st.r1, .int .i64 st.r2, c, .int .i64 2, .bool st.acts] 85))
        have HBF := hd_ (putBlk_blk (w := w5) (b := b) #[a, .int .i64 st.seg, .int .i64 st.bd, .int .i64 v1, .int .i64 st.r1, .int .i64 st.r2, c, .int .i64 2, .bool st.acts] 85 lt)
        clear hb4 hB4 hg4 hq4 HG2 HQ2 HBB
        rw [if_pos (by rfl)]; simp only [overlay, upd, cond_true, cond_false, Nat.reduceEqDiff, reduceIte]
        go_simp
        refine hK.out _ _ ?_
        clear hK
        generalize putBlk w5 b #[a, .int .i64 st.seg, .int .i64 st.bd, .int .i64 v1, .int .i64 st.r1, .int .i64 st.r2, c, .int .i64 2, .bool st.acts] 85 = W1 at HGF HQF HBF ⊢
        clear pc pf pS lt
        obtain ⟨bl, y0, y1, y2, y3, y4, y5, y6, y7, y8⟩ := blk9 HBF.out
        by_cases b1 : 0 ≤ v1
        · by_cases b2 : v1 ≤ 16777216
          · have rmv1 : rmB v1 = true := by simp [rmB, b1, b2]
            go_wp2_with fail
            refine (need_yes _).mono ?_
            rintro r w6 ⟨rfl, rfl⟩
            have HG2 := HGF
            have HQ2 := HQF
            have HBB := HBF
            clear HGF HQF HBF
            go_wp2_with fail
            rw [rounds_succ]
            go_upto_region 7 with fail
            refine region_last 10 _ [false, false, false, false, false, false, false, false, false, false, false, false, false, false, false, false, false, false, false, false, false, false, false, false, false, false, false, false, false, false, false, false, false, false, false, false, false, false, false, false, false, true, true, true, true, true, true, true, true, true, true, false, false, false, false, false, false, false, false, false, false, false, false, false, false, false, false, false, false, false, false, false, false, false, false, false, false, false, false, false, false, false, false, false, false, false, false, false, false, false, false, false, false, false, false, false, false, false, false, false, false, false, false, false, false, false, false, false, false, false, false, false, false, false, false, false, false] [41, 42, 43, 44, 45, 46, 47, 48, 49, 50] [.val (.pointer (some ⟨b, 0, none⟩)), .val (.int .i64 1), .val (.func (Fn.func 122) #[] #[.pointer (some ⟨la, 0, none⟩)]), .val (.int .i64 1), .val (.int .i64 2), kLong x2, .val (.pointer (some ⟨b, 0, none⟩)), .val (.pointer (some ⟨b, 0, none⟩)), .val (.pointer (some ⟨b, 3, none⟩)), .val (.pointer (some ⟨b, 4, none⟩))] [9, 5] (by kernel_rfl) rfl rfl (by kernel_rfl) (by kernel_rfl) (by kernel_rfl) (by kernel_rfl) (by kernel_rfl) ⟨?_, ?_, ?_, ?_, ?_, ?_, ?_, ?_, ?_, ?_, trivial⟩ ?done
            case done =>
             intro xx w4 hb4
             simp only [StepGoal, List.getD_cons_zero, List.getD_cons_succ]
             rintro _ ⟨v2, hvv2, rfl⟩ K hK
             have hB4 := HBB.out.ext hb4
             have hg4 := gr_trans HG2.out (gr_below (row := some b) hb4)
             have hq4 := gr_trans HQ2.out (gr_below (row := some b) hb4)
             obtain ⟨w5, rfl, lt⟩ := blk_put hB4
             obtain ⟨pc, pf, pS⟩ := putBlk_facts (w := w5) 85 lt
             have HGF := hd_ (gr_trans hg4 (gr_put w5 b #[a, .int .i64 st.seg, .int .i64 st.bd, .int .i64 v1, .int .i64 st.r1, .int .i64 st.r2, c, .int .i64 2, .bool st.acts] #[a, .int .i64 st.seg, .int .i64 st.bd, .int .i64 v1, .int .i64 v2, .int .i64 st.r2, c, .int .i64 2, .bool st.acts] 85))
             have HQF := hd_ (gr_trans hq4 (gr_put w5 b #[a, .int .i64 st.seg, .int .i64 st.bd, .int .i64 v1, .int .i64 st.r1, .int .i64 st.r2, c, .int .i64 2, .bool st.acts] #[a, .int .i64 st.seg, .int .i64 st.bd, .int .i64 v1, .int .i64 v2, .int .i64 st.r2, c, .int .i64 2, .bool st.acts] 85))
             have HBF := hd_ (putBlk_blk (w := w5) (b := b) #[a, .int .i64 st.seg, .int .i64 st.bd, .int .i64 v1, .int .i64 v2, .int .i64 st.r2, c, .int .i64 2, .bool st.acts] 85 lt)
             clear hb4 hB4 hg4 hq4 HG2 HQ2 HBB
             rw [if_pos (by rfl)]; simp only [overlay, upd, cond_true, cond_false, Nat.reduceEqDiff, reduceIte]
             go_simp
             refine hK.out _ _ ?_
             clear hK
             generalize putBlk w5 b #[a, .int .i64 st.seg, .int .i64 st.bd, .int .i64 v1, .int .i64 v2, .int .i64 st.r2, c, .int .i64 2, .bool st.acts] 85 = W2 at HGF HQF HBF ⊢
             clear pc pf pS lt
             obtain ⟨bl, y0, y1, y2, y3, y4, y5, y6, y7, y8⟩ := blk9 HBF.out
             by_cases b1 : 0 ≤ v2
             · by_cases b2 : v2 ≤ 16777216
               · have rmv2 : rmB v2 = true := by simp [rmB, b1, b2]
                 go_wp2_with fail
                 refine (need_yes _).mono ?_
                 rintro r w6 ⟨rfl, rfl⟩
                 have HG2 := HGF
                 have HQ2 := HQF
                 have HBB := HBF
                 clear HGF HQF HBF
                 go_wp2_with fail
                 rw [rounds_succ]
                 go_upto_region 7 with fail
                 refine region_last 10 _ [false, false, false, false, false, false, false, false, false, false, false, false, false, false, false, false, false, false, false, false, false, false, false, false, false, false, false, false, false, false, false, false, false, false, false, false, false, false, false, false, false, true, true, true, true, true, true, true, true, true, true, false, false, false, false, false, false, false, false, false, false, false, false, false, false, false, false, false, false, false, false, false, false, false, false, false, false, false, false, false, false, false, false, false, false, false, false, false, false, false, false, false, false, false, false, false, false, false, false, false, false, false, false, false, false, false, false, false, false, false, false, false, false, false, false, false, false] [41, 42, 43, 44, 45, 46, 47, 48, 49, 50] [.val (.pointer (some ⟨b, 0, none⟩)), .val (.int .i64 2), .val (.func (Fn.func 122) #[] #[.pointer (some ⟨la, 0, none⟩)]), .val (.int .i64 2), .val (.int .i64 3), kLong x3, .val (.pointer (some ⟨b, 0, none⟩)), .val (.pointer (some ⟨b, 0, none⟩)), .val (.pointer (some ⟨b, 3, none⟩)), .val (.pointer (some ⟨b, 5, none⟩))] [9, 5] (by kernel_rfl) rfl rfl (by kernel_rfl) (by kernel_rfl) (by kernel_rfl) (by kernel_rfl) (by kernel_rfl) ⟨?_, ?_, ?_, ?_, ?_, ?_, ?_, ?_, ?_, ?_, trivial⟩ ?done
                 case done =>
                  intro xx w4 hb4
                  simp only [StepGoal, List.getD_cons_zero, List.getD_cons_succ]
                  rintro _ ⟨v3, hvv3, rfl⟩ K hK
                  have hB4 := HBB.out.ext hb4
                  have hg4 := gr_trans HG2.out (gr_below (row := some b) hb4)
                  have hq4 := gr_trans HQ2.out (gr_below (row := some b) hb4)
                  obtain ⟨w5, rfl, lt⟩ := blk_put hB4
                  obtain ⟨pc, pf, pS⟩ := putBlk_facts (w := w5) 85 lt
                  have HGF := hd_ (gr_trans hg4 (gr_put w5 b #[a, .int .i64 st.seg, .int .i64 st.bd, .int .i64 v1, .int .i64 v2, .int .i64 st.r2, c, .int .i64 2, .bool st.acts] #[a, .int .i64 st.seg, .int .i64 st.bd, .int .i64 v1, .int .i64 v2, .int .i64 v3, c, .int .i64 2, .bool st.acts] 85))
                  have HQF := hd_ (gr_trans hq4 (gr_put w5 b #[a, .int .i64 st.seg, .int .i64 st.bd, .int .i64 v1, .int .i64 v2, .int .i64 st.r2, c, .int .i64 2, .bool st.acts] #[a, .int .i64 st.seg, .int .i64 st.bd, .int .i64 v1, .int .i64 v2, .int .i64 v3, c, .int .i64 2, .bool st.acts] 85))
                  have HBF := hd_ (putBlk_blk (w := w5) (b := b) #[a, .int .i64 st.seg, .int .i64 st.bd, .int .i64 v1, .int .i64 v2, .int .i64 v3, c, .int .i64 2, .bool st.acts] 85 lt)
                  clear hb4 hB4 hg4 hq4 HG2 HQ2 HBB
                  rw [if_pos (by rfl)]; simp only [overlay, upd, cond_true, cond_false, Nat.reduceEqDiff, reduceIte]
                  go_simp
                  refine hK.out _ _ ?_
                  clear hK
                  generalize putBlk w5 b #[a, .int .i64 st.seg, .int .i64 st.bd, .int .i64 v1, .int .i64 v2, .int .i64 v3, c, .int .i64 2, .bool st.acts] 85 = W3 at HGF HQF HBF ⊢
                  clear pc pf pS lt
                  obtain ⟨bl, y0, y1, y2, y3, y4, y5, y6, y7, y8⟩ := blk9 HBF.out
                  by_cases b1 : 0 ≤ v3
                  · by_cases b2 : v3 ≤ 16777216
                    · have rmv3 : rmB v3 = true := by simp [rmB, b1, b2]
                      go_wp2_with fail
                      refine (need_yes _).mono ?_
                      rintro r w6 ⟨rfl, rfl⟩
                      have HG2 := HGF
                      have HQ2 := HQF
                      have HBB := HBF
                      clear HGF HQF HBF
                      have HN : Hid (headF st s.data.toList = some { st with r0 := v1, r1 := v2, r2 := v3, n := 3 }) := by show _ = _; rw [HR.out, hvv1, hvv2, hvv3]; simp [rmv1, rmv2, rmv3]
                      go_wp2_with fail
                      rw [rounds_succ]
                      go_wp2_with fail
                      go_end0
                      exact Or.inl ⟨_, HN.out, rfl, HG2.out, by rw [h]; exact HBB.out⟩
                    · have rmv3 : rmB v3 = false := by simp [rmB, b2]
                      have HN : Hid (headF st s.data.toList = none) := by
                       show _ = _
                       rw [HR.out]
                       split
                       · simp_all
                       · rfl
                      go_wp2_with fail
                      refine (need_no _).mono ?_
                      rintro r w6 ⟨rfl, rfl⟩
                      unfold gaveW
                      go_wp2_with fail
                      exact ⟨rfl, Or.inr ⟨HN.out, rfl, HGF.out, { st with r0 := v1, r1 := v2, r2 := v3 }, by rw [h]; exact HBF.out⟩⟩
                  · have rmv3 : rmB v3 = false := by simp [rmB, b1]
                    have HN : Hid (headF st s.data.toList = none) := by
                     show _ = _
                     rw [HR.out]
                     split
                     · simp_all
                     · rfl
                    go_wp2_with fail
                    refine (need_no _).mono ?_
                    rintro r w6 ⟨rfl, rfl⟩
                    unfold gaveW
                    go_wp2_with fail
                    exact ⟨rfl, Or.inr ⟨HN.out, rfl, HGF.out, { st with r0 := v1, r1 := v2, r2 := v3 }, by rw [h]; exact HBF.out⟩⟩
                 case refine_6 =>
                  intro xx w4 hb4
                  have hB4 := HBB.out.ext hb4
                  have hg4 := gr_trans HG2.out (gr_below (row := some b) hb4)
                  have hq4 := gr_trans HQ2.out (gr_below (row := some b) hb4)
                  have HD1 := HD.out w4 hq4 3 x3 rfl
                  have bl := hB4.lt
                  intro K hK
                  rw [if_pos (by rfl)]; simp only [overlay, upd, cond_true, cond_false, List.getD_cons_zero, List.getD_cons_succ, Nat.reduceEqDiff, reduceIte]
                  go_simp
                  refine HD1.mono ?_
                  cases hv : longZ x3 with
                  | none =>
                   rintro e wa ⟨rfl, hba⟩
                   have HN : Hid (headF st s.data.toList = none) := by
                    show _ = _
                    rw [HR.out]
                    split
                    · simp_all
                    · rfl
                   simp only [Option.map_none, orGave]
                   unfold gaveW
                   go_wp2_with fail
                   refine ⟨rfl, Or.inr ⟨HN.out, rfl, gr_trans hg4 (gr_below hba), ?_⟩⟩
                   rw [h]
                   first
                    | exact ⟨st, hB4.ext hba⟩
                    | exact ⟨{ st with r0 := v1 }, hB4.ext hba⟩
                    | exact ⟨{ st with r0 := v1, r1 := v2 }, hB4.ext hba⟩
                  | some n =>
                   rintro e wa ⟨rfl, hba⟩
                   simp only [Option.map_some, orGave]
                   go_wp2_with fail
                   exact hK.out _ _ hba ⟨n, hv, rfl⟩
                 all_goals
                  intro xx w4 hb4
                  have hB4 := HBB.out.ext hb4
                  have hg4 := gr_trans HG2.out (gr_below (row := some b) hb4)
                  have hq4 := gr_trans HQ2.out (gr_below (row := some b) hb4)
                  have HD1 := HD.out w4 hq4 3 x3 rfl
                  have bl := hB4.lt
                  first
                   | (intro K hK
                      rw [if_pos (by rfl)]; simp only [overlay, upd, cond_true, cond_false, List.getD_cons_zero, List.getD_cons_succ, Nat.reduceEqDiff, reduceIte]
                      go_simp
                      exact hK.out _ _ (Below.refl _ _) rfl)
                   | (rintro v ⟨_, _, rfl⟩ K hK
                      rw [if_pos (by rfl)]; simp only [overlay, upd, cond_true, cond_false, List.getD_cons_zero, List.getD_cons_succ, Nat.reduceEqDiff, reduceIte]
                      go_simp
                      exact hK.out _ _ (Below.refl _ _) rfl)
               · have rmv2 : rmB v2 = false := by simp [rmB, b2]
                 have HN : Hid (headF st s.data.toList = none) := by
                  show _ = _
                  rw [HR.out]
                  split
                  · simp_all
                  · rfl
                 go_wp2_with fail
                 refine (need_no _).mono ?_
                 rintro r w6 ⟨rfl, rfl⟩
                 unfold gaveW
                 go_wp2_with fail
                 exact ⟨rfl, Or.inr ⟨HN.out, rfl, HGF.out, { st with r0 := v1, r1 := v2 }, by rw [h]; exact HBF.out⟩⟩
             · have rmv2 : rmB v2 = false := by simp [rmB, b1]
               have HN : Hid (headF st s.data.toList = none) := by
                show _ = _
                rw [HR.out]
                split
                · simp_all
                · rfl
               go_wp2_with fail
               refine (need_no _).mono ?_
               rintro r w6 ⟨rfl, rfl⟩
               unfold gaveW
               go_wp2_with fail
               exact ⟨rfl, Or.inr ⟨HN.out, rfl, HGF.out, { st with r0 := v1, r1 := v2 }, by rw [h]; exact HBF.out⟩⟩
            case refine_6 =>
             intro xx w4 hb4
             have hB4 := HBB.out.ext hb4
             have hg4 := gr_trans HG2.out (gr_below (row := some b) hb4)
             have hq4 := gr_trans HQ2.out (gr_below (row := some b) hb4)
             have HD1 := HD.out w4 hq4 2 x2 rfl
             have bl := hB4.lt
             intro K hK
             rw [if_pos (by rfl)]; simp only [overlay, upd, cond_true, cond_false, List.getD_cons_zero, List.getD_cons_succ, Nat.reduceEqDiff, reduceIte]
             go_simp
             refine HD1.mono ?_
             cases hv : longZ x2 with
             | none =>
              rintro e wa ⟨rfl, hba⟩
              have HN : Hid (headF st s.data.toList = none) := by
               show _ = _
               rw [HR.out]
               split
               · simp_all
               · rfl
              simp only [Option.map_none, orGave]
              unfold gaveW
              go_wp2_with fail
              refine ⟨rfl, Or.inr ⟨HN.out, rfl, gr_trans hg4 (gr_below hba), ?_⟩⟩
              rw [h]
              first
               | exact ⟨st, hB4.ext hba⟩
               | exact ⟨{ st with r0 := v1 }, hB4.ext hba⟩
               | exact ⟨{ st with r0 := v1, r1 := v2 }, hB4.ext hba⟩
             | some n =>
              rintro e wa ⟨rfl, hba⟩
              simp only [Option.map_some, orGave]
              go_wp2_with fail
              exact hK.out _ _ hba ⟨n, hv, rfl⟩
            all_goals
             intro xx w4 hb4
             have hB4 := HBB.out.ext hb4
             have hg4 := gr_trans HG2.out (gr_below (row := some b) hb4)
             have hq4 := gr_trans HQ2.out (gr_below (row := some b) hb4)
             have HD1 := HD.out w4 hq4 2 x2 rfl
             have bl := hB4.lt
             first
              | (intro K hK
                 rw [if_pos (by rfl)]; simp only [overlay, upd, cond_true, cond_false, List.getD_cons_zero, List.getD_cons_succ, Nat.reduceEqDiff, reduceIte]
                 go_simp
                 exact hK.out _ _ (Below.refl _ _) rfl)
              | (rintro v ⟨_, _, rfl⟩ K hK
                 rw [if_pos (by rfl)]; simp only [overlay, upd, cond_true, cond_false, List.getD_cons_zero, List.getD_cons_succ, Nat.reduceEqDiff, reduceIte]
                 go_simp
                 exact hK.out _ _ (Below.refl _ _) rfl)
          · have rmv1 : rmB v1 = false := by simp [rmB, b2]
            have HN : Hid (headF st s.data.toList = none) := by
             show _ = _
             rw [HR.out]
             split
             · simp_all
             · rfl
            go_wp2_with fail
            refine (need_no _).mono ?_
            rintro r w6 ⟨rfl, rfl⟩
            unfold gaveW
            go_wp2_with fail
            exact ⟨rfl, Or.inr ⟨HN.out, rfl, HGF.out, { st with r0 := v1 }, by rw [h]; exact HBF.out⟩⟩
        · have rmv1 : rmB v1 = false := by simp [rmB, b1]
          have HN : Hid (headF st s.data.toList = none) := by
           show _ = _
           rw [HR.out]
           split
           · simp_all
           · rfl
          go_wp2_with fail
          refine (need_no _).mono ?_
          rintro r w6 ⟨rfl, rfl⟩
          unfold gaveW
          go_wp2_with fail
          exact ⟨rfl, Or.inr ⟨HN.out, rfl, HGF.out, { st with r0 := v1 }, by rw [h]; exact HBF.out⟩⟩
       case refine_6 =>
        intro xx w4 hb4
        have hB4 := HBB.out.ext hb4
        have hg4 := gr_trans HG2.out (gr_below (row := some b) hb4)
        have hq4 := gr_trans HQ2.out (gr_below (row := some b) hb4)
        have HD1 := HD.out w4 hq4 1 x1 rfl
        have bl := hB4.lt
        intro K hK
        rw [if_pos (by rfl)]; simp only [overlay, upd, cond_true, cond_false, List.getD_cons_zero, List.getD_cons_succ, Nat.reduceEqDiff, reduceIte]
        go_simp
        refine HD1.mono ?_
        cases hv : longZ x1 with
        | none =>
         rintro e wa ⟨rfl, hba⟩
         have HN : Hid (headF st s.data.toList = none) := by
          show _ = _
          rw [HR.out]
          split
          · simp_all
          · rfl
         simp only [Option.map_none, orGave]
         unfold gaveW
         go_wp2_with fail
         refine ⟨rfl, Or.inr ⟨HN.out, rfl, gr_trans hg4 (gr_below hba), ?_⟩⟩
         rw [h]
         first
          | exact ⟨st, hB4.ext hba⟩
          | exact ⟨{ st with r0 := v1 }, hB4.ext hba⟩
          | exact ⟨{ st with r0 := v1, r1 := v2 }, hB4.ext hba⟩
        | some n =>
         rintro e wa ⟨rfl, hba⟩
         simp only [Option.map_some, orGave]
         go_wp2_with fail
         exact hK.out _ _ hba ⟨n, hv, rfl⟩
       all_goals
        intro xx w4 hb4
        have hB4 := HBB.out.ext hb4
        have hg4 := gr_trans HG2.out (gr_below (row := some b) hb4)
        have hq4 := gr_trans HQ2.out (gr_below (row := some b) hb4)
        have HD1 := HD.out w4 hq4 1 x1 rfl
        have bl := hB4.lt
        first
         | (intro K hK
            rw [if_pos (by rfl)]; simp only [overlay, upd, cond_true, cond_false, List.getD_cons_zero, List.getD_cons_succ, Nat.reduceEqDiff, reduceIte]
            go_simp
            exact hK.out _ _ (Below.refl _ _) rfl)
         | (rintro v ⟨_, _, rfl⟩ K hK
            rw [if_pos (by rfl)]; simp only [overlay, upd, cond_true, cond_false, List.getD_cons_zero, List.getD_cons_succ, Nat.reduceEqDiff, reduceIte]
            go_simp
            exact hK.out _ _ (Below.refl _ _) rfl)
    all_goals
     intro x w2 hb2
     have hA := HA2.out.ext hb2
     have hB := HB2.out.ext hb2
     have hW := HW2.out.ext hb2
     obtain ⟨ay0, ay1, ay2⟩ := blk1c hA
     obtain ⟨bl, y0, y1, y2, y3, y4, y5, y6, y7, y8⟩ := blk9 hB
     have e0 := hW.at_ (j := 0) (x := x0) rfl
     have gl := hW.lt
     have m0 : (0 : Int) < m := by omega
     have n0 : (0 : Int) ≤ st.n := by omega
     have n3 : (st.n : Int) < 3 := by omega
     first
      | (intro K hK
         rw [if_pos (by rfl)]; simp only [overlay, upd, cond_true, cond_false, List.getD_cons_zero, List.getD_cons_succ, Nat.reduceEqDiff, reduceIte]
         go_simp
         first
          | exact hK.out _ _ (Below.refl _ _) rfl
          | exact hK.out _ _ (by repeat (first | exact Below.refl _ _ | assumption | refine Below.drew ?_ | refine below_drewN ?_ _ | refine Below.alloc ?_ (by simp <;> omega) _)) ⟨_, rfl, Blk.new _ _ _⟩
          | (cases q with
             | true =>
              refine (need_yes _).mono ?_
              rintro r w3 ⟨rfl, rfl⟩
              go_wp2_with fail
              exact hK.out _ _ (Below.refl _ _) rfl
             | false =>
              have HN : Hid (headF st s.data.toList = none) := headF_name HWF.out hn (fun e => by
               have h1 := HQ.out
               have h2 := e.2
               rw [HM.out] at h1
               exact absurd (decide_eq_true h2) (by rw [← h1]; simp))
              have hbw2 := bt HBW.out hb2
              refine (need_no _).mono ?_
              rintro r w3 ⟨rfl, rfl⟩
              unfold gaveW
              go_wp2_with fail
              exact ⟨rfl, Or.inr ⟨HN.out, rfl, gr_below hbw2, st, hB⟩⟩))
      | (intro bq hq K hK
         have hlt := hq.lt
         rw [if_pos (by rfl)]; simp only [overlay, upd, cond_true, cond_false, List.getD_cons_zero, List.getD_cons_succ, Nat.reduceEqDiff, reduceIte]
         go_simp
         exact hK.out _ _ (Below.refl _ _) ⟨_, rfl, hq⟩)
      | (rintro v ⟨g2, rfl, hg2⟩ K hK
         have hce := names_cell hg2 hn
         rw [if_pos (by rfl)]; simp only [overlay, upd, cond_true, cond_false, List.getD_cons_zero, List.getD_cons_succ, Nat.reduceEqDiff, reduceIte]
         go_simp
         exact hK.out _ _ (Below.refl _ _) rfl)
      | (rintro v ⟨g2, rfl, hg2⟩ K hK
         have hce := lens_cell hg2 hn
         rw [if_pos (by rfl)]; simp only [overlay, upd, cond_true, cond_false, List.getD_cons_zero, List.getD_cons_succ, Nat.reduceEqDiff, reduceIte]
         go_simp
         exact hK.out _ _ (Below.refl _ _) rfl)
  · have hcmp : ((bsO x0).toList == (bsO (hdN st.n)).toList) = false := by
     refine Bool.eq_false_iff.2 fun e => hx0 ?_
     rw [ByteArray.toList_eq, ByteArray.toList_eq] at e
     simpa [bsO] using e
    have HN : Hid (headF st s.data.toList = none) := headF_name HWF.out hn (fun e => hx0 e.1)
    clear hx0 hq1 hq2 HQ
    refine region_grow [false, false, false, false, false, false, false, false, false, false, true, true, true, true, true, true, true, true, true, true, true, true, true, true, true, true, true, true, true, true, true, true, true, true, false, false, false, false, false, false, false, false, false, false, false, false, false, false, false, false, false, false, false, false, false, false, false, false, false, false, false, false, false, false, false, false, false, false, false, false, false, false, false, false, false, false, false, false, false, false, false, false, false, false, false, false, false, false, false, false, false, false, false, false, false, false, false, false, false, false, false, false, false, false, false, false, false, false, false, false, false, false, false, false, false, false, false] [10, 11, 12, 13, 14, 15, 16, 17, 18, 19, 20, 21, 22, 23, 24, 25, 26, 27, 28, 29, 30, 31, 32, 33] [.val (.slice (some ⟨g, 0, none⟩) m m), .val (.pointer (some ⟨g, 0, none⟩)), .val (.string (bsO x0)), .new (fun g => .slice (some ⟨g, 0, none⟩) 3 3) namesC 9, .val (.pointer (some ⟨b, 0, none⟩)), .val (.pointer (some ⟨b, 0, none⟩)), .val (.pointer (some ⟨b, 7, none⟩)), .val (.int .i64 st.n), kNmAt st.n, .val (.string (bsO (hdN st.n))), .val (.bool false), .val (.bool false), .val undef, .val undef, .val undef, .val undef, .val undef, .val undef, .val undef, .val undef, .val undef, .val undef, .val (.bool false), kNeed false] [23] (by kernel_rfl) (by kernel_rfl) (by kernel_rfl) (by kernel_rfl) (by kernel_rfl) ⟨?_, ?_, ?_, ?_, ?_, ?_, ?_, ?_, ?_, ?_, ?_, ?_, ?_, ?_, ?_, ?_, ?_, ?_, ?_, ?_, ?_, ?_, ?_, ?_, trivial⟩ ?done
    case done =>
     intro x w2 hb2
     simp only [StepGoal, overlay, upd, cond_true, cond_false, List.getD_cons_zero, List.getD_cons_succ, Nat.zero_add, Nat.reduceAdd, Nat.reduceEqDiff, reduceIte]
     intro v hqt
     cases hqt
    all_goals
     intro x w2 hb2
     have hA := HA2.out.ext hb2
     have hB := HB2.out.ext hb2
     have hW := HW2.out.ext hb2
     obtain ⟨ay0, ay1, ay2⟩ := blk1c hA
     obtain ⟨bl, y0, y1, y2, y3, y4, y5, y6, y7, y8⟩ := blk9 hB
     have e0 := hW.at_ (j := 0) (x := x0) rfl
     have gl := hW.lt
     have m0 : (0 : Int) < m := by omega
     have n0 : (0 : Int) ≤ st.n := by omega
     have n3 : (st.n : Int) < 3 := by omega
     first
      | (intro K hK
         rw [if_pos (by rfl)]; simp only [overlay, upd, cond_true, cond_false, List.getD_cons_zero, List.getD_cons_succ, Nat.reduceEqDiff, reduceIte]
         go_simp
         first
          | exact hK.out _ _ (Below.refl _ _) rfl
          | exact hK.out _ _ (by repeat (first | exact Below.refl _ _ | assumption | refine Below.drew ?_ | refine below_drewN ?_ _ | refine Below.alloc ?_ (by simp <;> omega) _)) ⟨_, rfl, Blk.new _ _ _⟩
          | (refine (need_no _).mono ?_
             have hbw2 := bt HBW.out hb2
             rintro r w3 ⟨rfl, rfl⟩
             unfold gaveW
             go_wp2_with fail
             exact ⟨rfl, Or.inr ⟨HN.out, rfl, gr_below hbw2, st, hB⟩⟩))
      | (intro K hK
         rw [if_neg (by intro e; cases e)]
         exact hK.out undef _ (Below.refl _ _) rfl)
      | (intro bq hq K hK
         have hlt := hq.lt
         rw [if_pos (by rfl)]; simp only [overlay, upd, cond_true, cond_false, List.getD_cons_zero, List.getD_cons_succ, Nat.reduceEqDiff, reduceIte]
         go_simp
         exact hK.out _ _ (Below.refl _ _) ⟨_, rfl, hq⟩)
      | (rintro v ⟨g2, rfl, hg2⟩ K hK
         have hce := names_cell hg2 hn
         rw [if_pos (by rfl)]; simp only [overlay, upd, cond_true, cond_false, List.getD_cons_zero, List.getD_cons_succ, Nat.reduceEqDiff, reduceIte]
         go_simp
         exact hK.out _ _ (Below.refl _ _) rfl)
end Go.Proofs.YtfekohonidggjaaGreatDoor
