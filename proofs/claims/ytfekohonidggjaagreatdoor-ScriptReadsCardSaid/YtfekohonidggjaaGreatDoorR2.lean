/- Joined texts. -/
import Derived.Test.YtfekohonidggjaaGreatDoorR1
import Derived.Test.YtfekohonidggjaaGreatDoorB27
import Derived.Test.YtfekohonidggjaaGreatDoorB21
namespace Go.Proofs.YtfekohonidggjaaGreatDoor
open Go.RowKit
set_option maxRecDepth 100000
set_option maxHeartbeats 6400000
def RefWordsP (l : List UInt8) (w : World) (r : Ending) (w' : World) : Prop :=
 (∃ ws sv, wordsF l = some ws ∧ r = .returned (.tuple #[sv, .bool true]) ∧ w'.ownsRow w.heap.size 9 1 sv ws.length (wsC ws)) ∨ (∃ sv, wordsF l = none ∧ r = .returned (.tuple #[sv, .bool false]))
theorem ext_one {s : ByteArray} {j : Nat} {c : UInt8} (h : j < s.size) (hc : s[j]'h = c) : s.extract j (j + 1) = bsO [c] := by
 rw [← bsO_of (s.extract j (j + 1))]
 congr 1
 have := Lib.extract_toList s j (j + 1)
 rw [Lib.toList_data] at this
 rw [this, show j + 1 - j = 1 by omega, List.drop_eq_getElem_cons (by simpa using h)]
 simp
 exact hc
theorem refwords_any (s : ByteArray) (hs : s.size ≤ 8796093022) (w : World) :
  Calls Tryz.prog 53 #[.string s] w fun r w' => RefWordsP s.data.toList w r w' ∧ Below w.heap.size w w' := by
 obtain ⟨i0, hi0, hz0, hz1, hz2⟩ := info_parts info_txt
 have hlen := len_data s
 have HLEN := hd_ hlen
 clear hlen
 go_enter Tryz.func53, Tryz.ntmps53
 go_wp2_with fail
 go_loopw [4, 5, 6] (fun lv wv iv wr => ∃ (j : Nat) (ws : List (List UInt8)) (x : List UInt8), j ≤ s.size ∧ iv = .int .i64 j ∧ wv = .string (bsO x) ∧ ws.length ≤ j ∧ x.length ≤ j ∧ Hid (spW 32 s.data.toList = ws ++ spW 32 (x ++ s.data.toList.drop j) ∧ [] ∉ ws ∧ (32 : UInt8) ∉ x) ∧ wr.ownsRow w.heap.size 9 1 lv ws.length (wsC ws) ∧ Below w.heap.size w wr) (fun _ _ i _ => s.size - (intOf i).toNat)
 case atStart => exact ⟨0, [], [], by omega, rfl, rfl, by simp, by simp, (by simp : _ ∧ _ ∧ _), ⟨by simp [wsC], .inl ⟨rfl, rfl⟩⟩, Below.refl _ _⟩
 case round =>
  obtain ⟨j, ws, x, hj, rfl, rfl, hwl, hxl, HI, hown, hbw⟩ := hrel
  by_cases hlt : j < s.size
  · obtain ⟨c, hidx, -, -, hget⟩ := byteA hlt
    have hext := ext_one hlt hidx
    have hdr : s.data.toList.drop j = c :: s.data.toList.drop (j + 1) := by
     obtain ⟨hjl, e⟩ := List.getElem?_eq_some_iff.1 hget
     rw [List.drop_eq_getElem_cons hjl, e]
    have HDR := hd_ hdr
    obtain ⟨m, hm⟩ : ∃ m : Int, (c.toNat : Int) = m := ⟨_, rfl⟩
    have HMM := hd_ hm
    have hltI : (j : Int) < s.size := by omega
    have hj0 : (0 : Int) ≤ j := by omega
    have hw1 : IntKind.i64.wrap ((j : Int) + 1) = (j : Int) + 1 := IntWalk.i64_in _ (by omega)
    clear hdr hget
    by_cases h32 : m = 32
    · have hcc : c = 32 := UInt8.toNat_inj.1 (by show c.toNat = 32; omega)
      have HCC := hd_ hcc
      have b1 : (m != 32) = false := by simp [h32]
      clear hcc hext
      have hem := txt_empty (t := bsO x)
      rw [bsO_size] at hem
      by_cases hx0 : x.length = 0
      · rw [decide_eq_true hx0] at hem
        have hn : wordsF s.data.toList = none := by
         obtain ⟨k1, _, _⟩ := HI.out
         unfold wordsF
         rw [if_pos]
         rw [k1, List.eq_nil_of_length_eq_zero hx0, HDR.out, HCC.out]
         simp [spW]
        have HN := hd_ hn
        clear hn
        go_wp2_with fail
        go_ret2
        exact ⟨Or.inr ⟨_, HN.out, rfl⟩, hbw⟩
      · rw [decide_eq_false hx0] at hem
        have hst : spW 32 s.data.toList = (ws ++ [x]) ++ spW 32 ([] ++ s.data.toList.drop (j + 1)) ∧ [] ∉ ws ++ [x] ∧ (32 : UInt8) ∉ ([] : List UInt8) := by
         obtain ⟨k1, k2, k3⟩ := HI.out
         refine ⟨?_, ?_, by simp⟩
         · rw [k1, HDR.out, HCC.out, sp_app 32 x _ k3]
           simp
         · simp only [List.mem_append, List.mem_singleton, not_or]
           exact ⟨k2, fun e => hx0 (by rw [← e]; rfl)⟩
        have HST := hd_ hst
        clear hst
        go_wp2_with (at_builtin; refine wpList_append_own _ rfl _ _ 63 rfl w.heap.size 9 i0 (.string ByteArray.empty) 1 16 Tryz.underlying63 hi0 hz0 hz1 hz2 rfl (by decide) _ ws.length (wsC ws) rfl (hown.alloc _) ⟨wr.heap.size, 0, none⟩ 1 1 [.string (bsO x)] rfl rfl ?c1 ?c2 ?c3 ?c4 ?c5 ?_)
        case c1 => exact cell_one_new _ _ _
        case c2 => simp [Value.oneCell']
        case c3 => simp only [maxLen]; omega
        case c4 => omega
        case c5 => have := hbw.size; simp; omega
        intro v' w1 hown1 hg1 _
        have hown2 : w1.ownsRow w.heap.size 9 1 v' (ws ++ [x]).length (wsC (ws ++ [x])) := by
         rw [List.length_append]
         simp only [wsC, List.map_append, List.map_cons, List.map_nil]
         exact hown1
        have hbw1 : Below w.heap.size w w1 := (hbw.alloc hbw.size _).grown hg1 (by have := hbw.size; simp; omega) (own_ge hown)
        clear hown1 hg1 hbw hown
        go_wp2_with fail
        go_roundw
        case rel => exact ⟨j + 1, ws ++ [x], [], by omega, by go_num, rfl, by simp; omega, by simp, HST, hown2, hbw1⟩
        case measure => simp [intOf]; omega
    · have b1 : (m != 32) = true := by simpa using h32
      have hst : spW 32 s.data.toList = ws ++ spW 32 ((x ++ [c]) ++ s.data.toList.drop (j + 1)) ∧ [] ∉ ws ∧ (32 : UInt8) ∉ (x ++ [c]) := by
       obtain ⟨k1, k2, k3⟩ := HI.out
       refine ⟨by rw [k1, HDR.out]; simp, k2, ?_⟩
       simp only [List.mem_append, List.mem_singleton, not_or]
       exact ⟨k3, fun e => h32 (by rw [← HMM.out, ← e]; rfl)⟩
      have HST := hd_ hst
      have hcat : (bsO x).size + (s.extract j (j + 1)).size ≤ 9223372036854775807 := by rw [hext, bsO_size, bsO_size]; simp; omega
      have hnew : bsO x ++ s.extract j (j + 1) = bsO (x ++ [c]) := by rw [hext, bsO_app]
      have HN := hd_ hnew
      clear hst hext hnew
      go_wp2_with fail
      go_roundw
      case rel => exact ⟨j + 1, ws, x ++ [c], by omega, by go_num, by rw [← HN.out], by omega, by simp; omega, HST, hown, hbw⟩
      case measure => simp [intOf]; omega
  · have hjn : j = s.size := by omega
    subst hjn
    have hst : spW 32 s.data.toList = ws ++ [x] ∧ [] ∉ ws := by
     obtain ⟨k1, k2, k3⟩ := HI.out
     rw [List.drop_eq_nil_of_le (by rw [HLEN.out]; exact Nat.le_refl _), List.append_nil, sp_one 32 x k3] at k1
     exact ⟨k1, k2⟩
    have HST := hd_ hst
    clear hst
    have hem := txt_empty (t := bsO x)
    rw [bsO_size] at hem
    have hxs : x.length = 0 ∨ ¬ x.length = 0 := by omega
    go_wp2_with (at_builtin; refine wpList_append_own _ rfl _ _ 63 rfl w.heap.size 9 i0 (.string ByteArray.empty) 1 16 Tryz.underlying63 hi0 hz0 hz1 hz2 rfl (by decide) _ ws.length (wsC ws) rfl (hown.alloc _) ⟨wr.heap.size, 0, none⟩ 1 1 [.string (bsO x)] rfl rfl ?d1 ?d2 ?d3 ?d4 ?d5 ?_)
    case d1 => exact cell_one_new _ _ _
    case d2 => simp [Value.oneCell']
    case d3 => simp only [maxLen]; omega
    case d4 => omega
    case d5 => have := hbw.size; simp; omega
    intro v' w1 hown1 hg1 _
    have hown2 : w1.ownsRow w.heap.size 9 1 v' (ws ++ [x]).length (wsC (ws ++ [x])) := by
     rw [List.length_append]
     simp only [wsC, List.map_append, List.map_cons, List.map_nil]
     exact hown1
    have hbw1 : Below w.heap.size w w1 := (hbw.alloc hbw.size _).grown hg1 (by have := hbw.size; simp; omega) (own_ge hown)
    clear hown1 hg1 hbw hown
    rcases hxs with hx0 | hx0
    · rw [decide_eq_true hx0] at hem
      have hn : wordsF s.data.toList = none := by
       unfold wordsF
       rw [if_pos]
       rw [HST.out.1, List.eq_nil_of_length_eq_zero hx0]
       simp
      have HN := hd_ hn
      clear hn
      go_wp2_with fail
      go_ret2
      exact ⟨Or.inr ⟨_, HN.out, rfl⟩, hbw1⟩
    · rw [decide_eq_false hx0] at hem
      have hn : wordsF s.data.toList = some (ws ++ [x]) := by
       unfold wordsF
       rw [HST.out.1, if_neg]
       simp only [List.mem_append, List.mem_singleton, not_or]
       exact ⟨HST.out.2, fun e => hx0 (by rw [← e]; rfl)⟩
      have HN := hd_ hn
      clear hn
      go_wp2_with fail
      go_ret2
      exact ⟨Or.inl ⟨_, _, HN.out, rfl, hown2⟩, hbw1⟩
def zAct : Array Value := #[.int .u8 0, .int .u8 0, .int .i64 0, .slice none 0 0, .int .i64 0, .int .i64 0, .int .i64 0, .string ⟨#[]⟩]
def RActP (o : Option Ac) (B : Nat) (r : Ending) (w' : World) : Prop := match o with
 | some a => ∃ A c, r = .returned (.tuple #[a.agg A c, .int .i64 0]) ∧ VRow w' A a.row ∧ ∀ p, A = some p → B ≤ p.block
 | none => r = .returned (.tuple #[.agg zAct, .int .i64 310])
theorem VRow.putAt {w : World} {A : Option Addr} {l : List V} (h : VRow w A l) (b : Nat) (ds : Array Value) (t : TypeId) (hA : ∀ p, A = some p → b < p.block) : VRow (putBlk w b ds t) A l := by
 refine ⟨h.1, h.2.1, fun hl => ?_⟩
 obtain ⟨g, off, rfl, hlt, hc⟩ := h.2.2 hl
 have hg := hA _ rfl
 have hne : g ≠ b := by simp only at hg; omega
 have hcell : ∀ i, (putBlk w b ds t).cell? ⟨g, i, none⟩ = w.cell? ⟨g, i, none⟩ := fun i => by
  unfold World.cell? putBlk
  simp only
  rw [Array.getElem?_setIfInBounds_ne (fun e => hne e.symm)]
 refine ⟨g, off, rfl, by rw [putBlk_size]; exact hlt, fun i v hi => ?_⟩
 obtain ⟨c0, c1, c2, c3⟩ := hc i v hi
 exact ⟨(hcell _).trans c0, (hcell _).trans c1, (hcell _).trans c2, (hcell _).trans c3⟩
def WRo (w : World) (g : Nat) (ws : List (List UInt8)) : Prop := g < w.heap.size ∧ ∀ j x, ws[j]? = some x → w.cell? ⟨g, j, none⟩ = some (.string (bsO x))
theorem WRo.ext {w w' : World} {g : Nat} {ws : List (List UInt8)} (h : WRo w g ws) (hb : Below w.heap.size w w') : WRo w' g ws := ⟨Nat.lt_of_lt_of_le h.1 hb.size, fun j x hj => (hb.cell (p := ⟨g, j, none⟩) h.1).trans (h.2 j x hj)⟩
def fkW (x : List UInt8) (j : Int) : Int := match opAt x with
 | some k => if k < j then k else 0
 | none => 0
theorem opAt_opN {x : List UInt8} {j : Int} (hj : 1 ≤ j ∧ j ≤ 3) : x = opN j ↔ opAt x = some j := by
 have : j = 1 ∨ j = 2 ∨ j = 3 := by omega
 unfold opAt opN
 rcases this with rfl | rfl | rfl
 · constructor
   · rintro rfl; rfl
   · intro h
     by_cases h1 : x = tOp1
     · exact h1
     · rw [if_neg h1] at h
       by_cases h2 : x = tOp2
       · rw [if_pos h2] at h; cases h
       · rw [if_neg h2] at h
         by_cases h3 : x = tOp3
         · rw [if_pos h3] at h; cases h
         · rw [if_neg h3] at h; cases h
 · constructor
   · rintro rfl; rfl
   · intro h
     by_cases h1 : x = tOp1
     · rw [if_pos h1] at h; cases h
     · rw [if_neg h1] at h
       by_cases h2 : x = tOp2
       · exact h2
       · rw [if_neg h2] at h
         by_cases h3 : x = tOp3
         · rw [if_pos h3] at h; cases h
         · rw [if_neg h3] at h; cases h
 · constructor
   · rintro rfl; rfl
   · intro h
     by_cases h1 : x = tOp1
     · rw [if_pos h1] at h; cases h
     · rw [if_neg h1] at h
       by_cases h2 : x = tOp2
       · rw [if_pos h2] at h; cases h
       · rw [if_neg h2] at h
         by_cases h3 : x = tOp3
         · exact h3
         · rw [if_neg h3] at h; cases h
theorem opAt_range {x : List UInt8} {k : Int} (h : opAt x = some k) : 1 ≤ k ∧ k ≤ 3 := by
 unfold opAt at h
 split at h
 · injection h with h; omega
 · split at h
   · injection h with h; omega
   · split at h
     · injection h with h; omega
     · cases h
theorem fkW_yes {x : List UInt8} {j : Int} (hj : 1 ≤ j ∧ j ≤ 3) (h : x = opN j) : fkW x (j + 1) = j := by
 have := (opAt_opN hj).1 h
 unfold fkW
 rw [this]
 simp only
 rw [if_pos (by omega)]
theorem fkW_no {x : List UInt8} {j : Int} (hj : 1 ≤ j ∧ j ≤ 3) (h : ¬ x = opN j) : fkW x (j + 1) = fkW x j := by
 unfold fkW
 cases ho : opAt x with
 | none => rfl
 | some k =>
  have hk : k ≠ j := fun e => h ((opAt_opN hj).2 (by rw [ho, e]))
  simp only
  by_cases h1 : k < j
  · rw [if_pos h1, if_pos (by omega)]
  · rw [if_neg h1, if_neg (by omega)]
theorem fkW_end (x : List UInt8) : fkW x 4 = (opAt x).getD 0 := by
 unfold fkW
 cases ho : opAt x with
 | none => rfl
 | some k =>
  have := opAt_range ho
  simp only
  rw [if_pos (by omega)]
  rfl
theorem str_eqb {a b : List UInt8} : ((bsO a).toList == (bsO b).toList) = decide (a = b) := by
 rw [ByteArray.toList_eq, ByteArray.toList_eq]
 show (a == b) = _
 by_cases h : a = b
 · simp [h]
 · simp [h]
theorem rowR_app_no : ∀ (a : List (List UInt8)) (x : List UInt8), rowR a = none → rowR (a ++ [x]) = none
 | [], x, h => by unfold rowR at h; cases h
 | y :: a, x, h => by
  unfold rowR at h
  show rowR (y :: (a ++ [x])) = none
  unfold rowR
  cases hy : readV y with
  | none => rfl
  | some u =>
   rw [hy] at h
   cases ha : rowR a with
   | none => rw [rowR_app_no a x ha]
   | some m => rw [ha] at h; cases h
def zV : V := ⟨0, 0, 0, bsO []⟩
def RopP (x : List UInt8) (rest : List (List UInt8)) (B : Nat) (r : Ending) (w' : World) : Prop :=
 (∃ k a A c, opAt x = some k ∧ opR k rest = some a ∧ r = .returned (.tuple #[a.agg A c, .bool true]) ∧ VRow w' A a.row ∧ ∀ p, A = some p → B ≤ p.block) ∨
 ((∀ k, opAt x = some k → opR k rest = none) ∧ ∃ d k tb A l c n m q nm, r = .returned (.tuple #[.agg #[.int .u8 d, .int .u8 k, .int .i64 tb, .slice A l c, .int .i64 n, .int .i64 m, .int .i64 q, .string nm], .bool false]))
theorem refreadop_any (x : List UInt8) (rest : List (List UInt8)) (hl : rest.length ≤ 1000000) (hsz : ∀ y ∈ x :: rest, y.length ≤ 4294967280) (g cap : Nat) (w : World) (hw : WRo w g (x :: rest)) (hL : LayS w) :
  Calls Tryz.prog 54 #[.slice (some ⟨g, 0, none⟩) (rest.length + 1) cap] w fun r w' => RopP x rest w.heap.size r w' ∧ Below w.heap.size w w' := by
 have W : ∀ W2 : World, W2 = (w.alloc (.cells #[.int .u8 0, .int .u8 0, .int .i64 0, .slice none 0 0, .int .i64 0, .int .i64 0, .int .i64 0, .string ⟨#[]⟩] 42)).alloc (.cells #[.int .u8 2, .int .u8 0, .int .i64 0, .slice none 0 0, .int .i64 0, .int .i64 0, .int .i64 0, .string ⟨#[]⟩] 42) → Blk W2 w.heap.size #[.int .u8 0, .int .u8 0, .int .i64 0, .slice none 0 0, .int .i64 0, .int .i64 0, .int .i64 0, .string ⟨#[]⟩] 42 ∧ Blk W2 (w.heap.size + 1) #[.int .u8 2, .int .u8 0, .int .i64 0, .slice none 0 0, .int .i64 0, .int .i64 0, .int .i64 0, .string ⟨#[]⟩] 42 ∧ Below w.heap.size w W2 := by
  rintro W2 rfl
  exact ⟨(by repeat (first | exact Blk.at (by simp) | assumption | refine Blk.drew ?_ | refine Blk.old ?_ _)), (by repeat (first | exact Blk.at (by simp) | assumption | refine Blk.drew ?_ | refine Blk.old ?_ _)), (by repeat (first | exact Below.refl _ _ | assumption | refine Below.drew ?_ | refine below_drewN ?_ _ | refine Below.alloc ?_ (by simp <;> omega) _))⟩
 have HW := hd_ hw
 have HL := hd_ hL
 have HSZ := hd_ hsz
 have HOP := hd_ (fun (k : Int) (hk : 0 ≤ k ∧ k ≤ 255) (W : World) => refop_any k hk W)
 clear hw hL hsz
 go_enter Tryz.func54, Tryz.ntmps54
 go_upto_region 2 with fail
 obtain ⟨hz, hk, hb⟩ := W _ rfl
 clear W
 generalize (w.alloc (.cells #[.int .u8 0, .int .u8 0, .int .i64 0, .slice none 0 0, .int .i64 0, .int .i64 0, .int .i64 0, .string ⟨#[]⟩] 42)).alloc (.cells #[.int .u8 2, .int .u8 0, .int .i64 0, .slice none 0 0, .int .i64 0, .int .i64 0, .int .i64 0, .string ⟨#[]⟩] 42) = w2 at hz hk hb ⊢
 have HZ2 := hd_ hz
 have HK2 := hd_ hk
 have HB2 := hd_ hb
 clear hz hk hb
 go_wp2_with fail
 go_loopw [5] (fun v wr => ∃ j : Nat, (1 ≤ j ∧ j ≤ 4) ∧ v = .int .u8 j ∧ Hid (Blk wr w.heap.size #[.int .u8 0, .int .u8 0, .int .i64 0, .slice none 0 0, .int .i64 0, .int .i64 0, .int .i64 0, .string ⟨#[]⟩] 42) ∧ Hid (Blk wr (w.heap.size + 1) #[.int .u8 2, .int .u8 (fkW x j), .int .i64 0, .slice none 0 0, .int .i64 0, .int .i64 0, .int .i64 0, .string ⟨#[]⟩] 42) ∧ Below w.heap.size w wr) (fun v _ => 4 - (intOf v).toNat)
 case atStart =>
  refine ⟨1, by omega, rfl, HZ2.out, ?_, HB2.out⟩
  have h0 : fkW x (1 : Nat) = 0 := by
   unfold fkW
   cases ho : opAt x with
   | none => rfl
   | some k =>
    have := opAt_range ho
    simp only
    rw [if_neg (by omega)]
  show Blk _ _ _ _
  rw [h0]
  exact HK2.out
 case round =>
  obtain ⟨j, ⟨hj1, hj4⟩, rfl, HZr, HKr, hbw⟩ := hrel
  clear HZ2 HK2 HB2
  by_cases hj : j ≤ 3
  · have hjI : (j : Int) ≤ 3 := by omega
    go_upto_region 5 with fail
    refine region_grow [false, false, false, false, false, false, false, false, false, false, false, false, false, false, false, false, true, true, true, true, true, true, false, false, false, false, false, false, false, false, false, false, false, false, false, false, false, false, false, false, false, false, false, false, false, false, false, false, false, false, false, false, false, false, false, false, false, false, false, false, false, false, false, false, false, false, false, false, false, false, false, false, false, false, false, false, false, false, false] [16, 17, 18, 19, 20, 21] [.val (.slice (some ⟨g, 0, none⟩) (rest.length + 1) cap), .val (.pointer (some ⟨g, 0, none⟩)), .val (.string (bsO x)), .val (.int .u8 j), .val (.string (bsO (opN j))), .val (.bool (decide (x = opN j)))] [5] (by kernel_rfl) (by kernel_rfl) (by kernel_rfl) (by kernel_rfl) (by kernel_rfl) ⟨?_, ?_, ?_, ?_, ?_, ?_, trivial⟩ ?done
    case done =>
     intro z w3 hb3
     simp only [StepGoal, overlay, upd, k_1, k_2, k_3, k_4, Nat.zero_add, Nat.reduceAdd, Nat.reduceEqDiff, reduceIte]
     have HZ3 := hd_ (HZr.out.ext hb3)
     have hk3 := HKr.out.ext hb3
     have hb3' := bt hbw hb3
     clear hb3 HZr HKr hbw
     have hju : IntKind.u8.wrap ((j : Int) + 1) = (j : Int) + 1 := by
      have : j = 1 ∨ j = 2 ∨ j = 3 := by omega
      rcases this with rfl | rfl | rfl <;> rfl
     by_cases hx : x = opN j
     · rw [decide_eq_true hx]
       have hf := fkW_yes (x := x) (j := j) (by omega) hx
       obtain ⟨w4, rfl, lt⟩ := blk_put hk3
       obtain ⟨pc, pf, pS⟩ := putBlk_facts (w := w4) 42 lt
       have HZ4 := hd_ (putBlk_old HZ3.out (by omega) #[.int .u8 2, .int .u8 j, .int .i64 0, .slice none 0 0, .int .i64 0, .int .i64 0, .int .i64 0, .string ⟨#[]⟩])
       have HK4 : Hid (Blk (putBlk w4 (w.heap.size + 1) #[.int .u8 2, .int .u8 j, .int .i64 0, .slice none 0 0, .int .i64 0, .int .i64 0, .int .i64 0, .string ⟨#[]⟩] 42) (w.heap.size + 1) #[.int .u8 2, .int .u8 (fkW x ((j + 1 : Nat) : Int)), .int .i64 0, .slice none 0 0, .int .i64 0, .int .i64 0, .int .i64 0, .string ⟨#[]⟩] 42) := by
        show Blk _ _ _ _
        rw [show (((j + 1 : Nat) : Int)) = (j : Int) + 1 by omega, hf]
        exact putBlk_blk _ _ lt
       have HB4 := hd_ (putBlk_belows hb3' (by omega) #[.int .u8 2, .int .u8 j, .int .i64 0, .slice none 0 0, .int .i64 0, .int .i64 0, .int .i64 0, .string ⟨#[]⟩])
       clear hk3 hb3' hf hx HZ3
       go_wp2_with fail
       clear pc pf pS lt
       generalize putBlk w4 (w.heap.size + 1) #[.int .u8 2, .int .u8 j, .int .i64 0, .slice none 0 0, .int .i64 0, .int .i64 0, .int .i64 0, .string ⟨#[]⟩] 42 = w5 at HZ4 HK4 HB4 ⊢
       go_roundw
       case rel => exact ⟨j + 1, by omega, by go_num, HZ4, HK4, HB4.out⟩
       case measure => simp [intOf]; omega
     · rw [decide_eq_false hx]
       have hf := fkW_no (x := x) (j := j) (by omega) hx
       have HK4 : Hid (Blk w3 (w.heap.size + 1) #[.int .u8 2, .int .u8 (fkW x ((j + 1 : Nat) : Int)), .int .i64 0, .slice none 0 0, .int .i64 0, .int .i64 0, .int .i64 0, .string ⟨#[]⟩] 42) := by
        show Blk _ _ _ _
        rw [show (((j + 1 : Nat) : Int)) = (j : Int) + 1 by omega, hf]
        exact hk3
       clear hk3 hf hx
       go_wp2_with fail
       go_roundw
       case rel => exact ⟨j + 1, by omega, by go_num, HZ3, HK4, hb3'⟩
       case measure => simp [intOf]; omega
    all_goals
     intro z w3 hb3
     have hx0 := (HW.out.ext (bt hbw hb3)).2 0 x rfl
     have hg0 := (HW.out.ext (bt hbw hb3)).1
     have hcmp : ((bsO x).toList == (bsO (opN j)).toList) = decide (x = opN j) := str_eqb
     have h01 : (0 : Int) < (rest.length : Int) + 1 := by omega
     first
      | (intro K hK
         rw [if_pos (by rfl)]; simp only [overlay, upd, k_1, k_2, k_3, k_4, Nat.reduceEqDiff, reduceIte]
         go_simp
         first
          | exact hK.out _ _ (Below.refl _ _) rfl
          | ((with_reducible refine (HOP.out j (by omega) _).mono ?_); rintro e wa ⟨rfl, hba⟩; go_wp2_with fail; exact hK.out _ _ hba rfl))
  · obtain rfl : j = 4 := by omega
    have hfk : fkW x ((4 : Nat) : Int) = (opAt x).getD 0 := fkW_end x
    rw [hfk] at HKr
    have hj4I : ¬ (((4 : Nat) : Int)) ≤ 3 := by omega
    clear hfk hj hj1 hj4
    cases ho : opAt x with
    | none =>
     rw [ho] at HKr
     simp only [Option.getD_none] at HKr
     have HNO : Hid (∀ k, opAt x = some k → opR k rest = none) := fun k h => by rw [ho] at h; cases h
     clear ho
     obtain ⟨wz, rfl, lt⟩ := blk_put HZr.out
     obtain ⟨pc, pf, pS⟩ := putBlk_facts (w := wz) 42 lt
     obtain ⟨y8, y0, y1, y2, y3, y4, y5, y6, y7⟩ := blkA HKr.out
     have HBF := hd_ (putBlk_belows hbw (Nat.le_refl _) #[.int .u8 0, .int .u8 0, .int .i64 0, .slice none 0 0, .int .i64 0, .int .i64 0, .int .i64 0, .string ⟨#[]⟩])
     clear hbw HZr HKr
     go_wp2_with fail
     refine bodyPost_ret (v := .tuple #[.agg #[.int .u8 0, .int .u8 0, .int .i64 0, .slice none 0 0, .int .i64 0, .int .i64 0, .int .i64 0, .string ⟨#[]⟩], .bool false]) (by simp [results, Tryz.results54, go_sem, pc]) rfl ?_
     exact ⟨Or.inr ⟨HNO.out, _, _, _, _, _, _, _, _, _, _, rfl⟩, HBF.out⟩
    | some k =>
     rw [ho] at HKr
     simp only [Option.getD_some] at HKr
     have hk13 := opAt_range ho
     have hk0 : (k == 0) = false := by simp; omega
     have HO := hd_ ho
     clear ho
     rcases rest with _ | ⟨t, vs⟩
     · have HNO : Hid (∀ k, opAt x = some k → opR k ([] : List (List UInt8)) = none) := fun k h => rfl
       clear hk13
       obtain ⟨wz, rfl, lt⟩ := blk_put HZr.out
       obtain ⟨pc, pf, pS⟩ := putBlk_facts (w := wz) 42 lt
       obtain ⟨y8, y0, y1, y2, y3, y4, y5, y6, y7⟩ := blkA HKr.out
       have HBF := hd_ (putBlk_belows hbw (Nat.le_refl _) #[.int .u8 0, .int .u8 0, .int .i64 0, .slice none 0 0, .int .i64 0, .int .i64 0, .int .i64 0, .string ⟨#[]⟩])
       clear hbw HZr HKr
       go_wp2_with fail
       refine bodyPost_ret (v := .tuple #[.agg #[.int .u8 0, .int .u8 0, .int .i64 0, .slice none 0 0, .int .i64 0, .int .i64 0, .int .i64 0, .string ⟨#[]⟩], .bool false]) (by simp [results, Tryz.results54, go_sem, pc]) rfl ?_
       exact ⟨Or.inr ⟨HNO.out, _, _, _, _, _, _, _, _, _, _, rfl⟩, HBF.out⟩
     · by_cases h8 : vs.length ≤ 8
       · simp only [List.length_cons] at hl ⊢
         have h2I : ¬ ((vs.length : Int) + 1 + 1) < 2 := by omega
         have h10 : ¬ (10 : Int) < (vs.length : Int) + 1 + 1 := by omega
         have HNM := hd_ (fun (W : World) => refnumber_any (bsO t) W)
         have hx1 := (HW.out.ext hbw).2 1 t rfl
         have hg1 := (HW.out.ext hbw).1
         obtain ⟨y8, y0, y1, y2, y3, y4, y5, y6, y7⟩ := blkA HKr.out
         have h11 : (1 : Int) < (vs.length : Int) + 1 + 1 := by omega
         go_wp2_with fail
         refine (HNM.out _).mono ?_
         rintro r w3 ⟨⟨xv, hxv, hor⟩, hb3⟩
         obtain ⟨ok, rfl, hok1, hok0⟩ : ∃ ok, r = .returned (.tuple #[.int .i64 xv, .bool ok]) ∧ (ok = true → longZ t = some xv) ∧ (ok = false → longZ t = none) := by
          rcases hor with ⟨h, rfl⟩ | ⟨h, rfl⟩
          · exact ⟨true, rfl, (fun _ => h), (fun e => nomatch e)⟩
          · exact ⟨false, rfl, (fun e => nomatch e), (fun _ => h)⟩
         have HOK1 := hd_ hok1
         have HOK0 := hd_ hok0
         have HZ3 := hd_ (HZr.out.ext hb3)
         have hk3 := HKr.out.ext hb3
         have hb3' := bt hbw hb3
         obtain ⟨w4, rfl, lt⟩ := blk_put hk3
         obtain ⟨pc, pf, pS⟩ := putBlk_facts (w := w4) 42 lt
         have HZ4 := hd_ (putBlk_old HZ3.out (by omega) #[.int .u8 2, .int .u8 k, .int .i64 xv, .slice none 0 0, .int .i64 0, .int .i64 0, .int .i64 0, .string ⟨#[]⟩])
         have HK4 := hd_ (putBlk_blk (w := w4) (b := w.heap.size + 1) #[.int .u8 2, .int .u8 k, .int .i64 xv, .slice none 0 0, .int .i64 0, .int .i64 0, .int .i64 0, .string ⟨#[]⟩] 42 lt)
         have HB4 := hd_ (putBlk_belows hb3' (by omega) #[.int .u8 2, .int .u8 k, .int .i64 xv, .slice none 0 0, .int .i64 0, .int .i64 0, .int .i64 0, .string ⟨#[]⟩])
         clear hor hok1 hok0 hb3 hk3 hb3' HZ3 hbw HZr HKr hx1 hg1 y8 y0 y1 y2 y3 y4 y5 y6 y7 HNM
         go_upto_region 11 with fail
         clear pc pf pS lt
         generalize putBlk w4 (w.heap.size + 1) #[.int .u8 2, .int .u8 k, .int .i64 xv, .slice none 0 0, .int .i64 0, .int .i64 0, .int .i64 0, .string ⟨#[]⟩] 42 = w5 at HZ4 HK4 HB4 ⊢
         have hsz5 : w.heap.size + 2 ≤ w5.heap.size := HK4.out.lt
         obtain ⟨ti, hi0, hz0, hz1, hz2⟩ := info_parts info_V
         go_wp2_with fail
         go_loopw [7, 8] (fun b i wr => ∃ (j : Nat) (dn : List V) (okb : Bool) (rA : Option Addr) (rc : Nat), j ≤ vs.length ∧ i = .int .i64 (2 + j) ∧ b = .bool okb ∧ Hid (okb = true → longZ t = some xv ∧ rowR (vs.take j) = some dn) ∧ Hid (okb = false → longZ t = none ∨ rowR (vs.take j) = none) ∧ dn.length = j ∧ Hid (∀ v ∈ dn, v.wf) ∧ wr.ownsRow (w.heap.size + 2) 48 4 (.slice rA j rc) j (rowCells dn) ∧ Hid (Blk wr w.heap.size #[.int .u8 0, .int .u8 0, .int .i64 0, .slice none 0 0, .int .i64 0, .int .i64 0, .int .i64 0, .string ⟨#[]⟩] 42) ∧ Hid (Blk wr (w.heap.size + 1) #[.int .u8 2, .int .u8 k, .int .i64 xv, .slice rA j rc, .int .i64 0, .int .i64 0, .int .i64 0, .string ⟨#[]⟩] 42) ∧ Below w.heap.size w wr) (fun _ i _ => vs.length + 2 - (intOf i).toNat)
         case atStart => exact ⟨0, [], ok, none, 0, by omega, rfl, rfl, fun e => ⟨HOK1.out e, rfl⟩, fun e => Or.inl (HOK0.out e), rfl, (fun v hv => by cases hv), World.ownsRow_nil _ _ _ _, HZ4.out, HK4.out, HB4.out⟩
         case round =>
          obtain ⟨j, dn, okb, rA, rc, hj, rfl, rfl, HT, HF, hdl, HWF, hown, HZr, HKr, hbw⟩ := hrel
          clear HZ4 HK4 HB4 HOK1 HOK0
          by_cases hlt : j < vs.length
          · obtain ⟨y, hy⟩ : ∃ y, y = vs[j] := ⟨_, rfl⟩
            have hget := List.getElem?_eq_getElem hlt
            rw [← hy] at hget
            have hyl : y.length ≤ 4294967280 := HSZ.out y (by rw [hy]; simp)
            have htk : vs.take (j + 1) = vs.take j ++ [y] := by rw [List.take_succ_eq_append_getElem hlt, ← hy]
            have HTK := hd_ htk
            have HMY := hd_ (List.mem_of_getElem? hget)
            have hxc := (HW.out.ext hbw).2 (j + 2) y (by simpa using hget)
            have hgl := (HW.out.ext hbw).1
            have hj2 : (2 + (j : Int)) < (vs.length : Int) + 1 + 1 := by omega
            have hj20 : (0 : Int) ≤ 2 + (j : Int) := by omega
            have hjt : (2 + (j : Int)).toNat = j + 2 := by omega
            obtain ⟨u, e, hrp, huw, he⟩ : ∃ (u : V) (e : Int), readP (readV y) = .tuple #[u.agg, .int .i64 e] ∧ u.wf ∧ ((e = 0 ∧ readV y = some u) ∨ (e = 310 ∧ readV y = none)) := by
             cases hv : readV y with
             | some u => exact ⟨u, 0, rfl, ((readV_some (by omega)).1 hv).1, Or.inl ⟨rfl, rfl⟩⟩
             | none => exact ⟨zV, 310, rfl, ⟨by decide, by decide, by decide, by decide, by decide, by decide, by decide⟩, Or.inr ⟨rfl, rfl⟩⟩
            have HRV := hd_ (refReadValue_any (bsO y) (by rw [bsO_size]; omega) wr (HL.out.ext hbw).tabs)
            rw [show (bsO y).data.toList = y from rfl, hrp] at HRV
            have HE := hd_ he
            have HUW := hd_ huw
            obtain ⟨vk, vn, vr, vt⟩ := u
            unfold V.agg at HRV
            simp only at HRV
            clear hy hget htk hyl hrp huw he
            go_wp2_with fail
            refine HRV.out.mono ?_
            rintro r w6 ⟨rfl, hb6⟩
            have hbn : Below w6.heap.size w6 (w6.alloc (.cells #[.int .u8 vk, .int .i64 vn, .int .u64 vr, .string vt] 48)) := bel1 _ _
            have hb67 := bt hb6 hbn
            have HV7 := hd_ (Blk.new w6 #[.int .u8 vk, .int .i64 vn, .int .u64 vr, .string vt] 48)
            have HZ7 := hd_ (HZr.out.ext hb67)
            have HK7 := hd_ (HKr.out.ext hb67)
            have hown7 := own_ext hown hb67
            have HB7 := hd_ (bt hbw hb67)
            clear hbn hb67 hb6 hown hbw HZr HKr hxc hgl HRV
            go_upto_region 15 with fail
            generalize w6.alloc (.cells #[.int .u8 vk, .int .i64 vn, .int .u64 vr, .string vt] 48) = w7 at HV7 HZ7 HK7 hown7 HB7 ⊢
            generalize w6.heap.size = q6 at HV7 ⊢
            obtain ⟨nb, hnb⟩ : ∃ nb, nb = (okb && (e == 0)) := ⟨_, rfl⟩
            have HNB := hd_ hnb
            clear hnb
            go_cut [7] (fun v wx => v = .bool nb ∧ wx = w7)
            case first =>
             rcases HE.out with ⟨rfl, _⟩ | ⟨rfl, _⟩
             all_goals
              cases okb
              all_goals
               go_wp2_with fail
               go_meet
               exact ⟨by rw [HNB.out]; rfl, rfl⟩
            case rest =>
             obtain ⟨rfl, hwc⟩ := hcut
             have hwc' := hwc.symm
             subst hwc'
             have HT2 : Hid (nb = true → longZ t = some xv ∧ rowR (vs.take (j + 1)) = some (dn ++ [⟨vk, vn, vr, vt⟩])) := fun h => by
              rw [HNB.out] at h
              obtain ⟨h1, h2⟩ := Bool.and_eq_true _ _ ▸ h
              rcases HE.out with ⟨_, hv⟩ | ⟨h3, _⟩
              · exact ⟨(HT.out h1).1, by rw [HTK.out]; exact rowR_app _ _ _ _ (HT.out h1).2 hv⟩
              · rw [h3] at h2; cases h2
             have HF2 : Hid (nb = false → longZ t = none ∨ rowR (vs.take (j + 1)) = none) := fun h => by
              rw [HNB.out] at h
              rcases HE.out with ⟨h3, _⟩ | ⟨_, hv⟩
              · rw [h3] at h
                have h4 : okb = false := by simpa using h
                exact (HF.out h4).imp id (fun h => by rw [HTK.out]; exact rowR_app_no _ _ h)
              · exact Or.inr (rowR_none _ y (by rw [HTK.out]; simp) hv)
             clear HE HNB
             obtain ⟨y8, y0, y1, y2, y3, y4, y5, y6, y7⟩ := blkA HK7.out
             obtain ⟨v9, v0, v1, v2, v3⟩ := blkV HV7.out
             have hl7 := HK7.out.lt
             have hj8 : j ≤ 8 := by omega
             go_wp2_with (at_builtin; refine wpList_append_own _ rfl _ _ 38 rfl (w.heap.size + 2) 48 ti _ 4 40 Tryz.underlying38 hi0 hz0 hz1 hz2 rfl (by decide) (.slice rA j rc) j (rowCells dn) rfl (World.ownsRow.alloc hown7 _) ⟨w7.heap.size, 0, none⟩ 1 1 [.int .u8 vk, .int .i64 vn, .int .u64 vr, .string vt] rfl rfl ?aqc1 ?aqc2 ?aqc3 ?aqc4 ?aqc5 ?_)
             case aqc2 => simp [Value.oneCell']
             case aqc3 => simp only [maxLen]; omega
             case aqc4 => omega
             case aqc5 => first | omega | (simp; omega)
             intro v8 w9 hown9 hg9 _
             obtain ⟨g8, c8, rfl, hbg8, _⟩ := hown9.form (by omega)
             have HZ9 := blk_grown (HZ7.out.old (.cells #[.int .u8 vk, .int .i64 vn, .int .u64 vr, .string vt] 48)) hg9 (own_ne hown7 HZ7.out (by decide))
             have hK9 := blk_grown (HK7.out.old (.cells #[.int .u8 vk, .int .i64 vn, .int .u64 vr, .string vt] 48)) hg9 (own_ne hown7 HK7.out (by decide))
             have hb9 : Below w.heap.size w w9 := (HB7.out.alloc HB7.out.size (.cells #[.int .u8 vk, .int .i64 vn, .int .u64 vr, .string vt] 48)).grown hg9 (by have := HB7.out.size; simp; omega) (fun b hb => by have := own_ge hown7 b hb; omega)
             have hmp : rowCells (dn ++ [⟨vk, vn, vr, vt⟩]) = rowCells dn ++ [.int .u8 vk, .int .i64 vn, .int .u64 vr, .string vt] := by simp [rowCells, V.cells]
             rw [← hmp] at hown9
             have HWF2 : Hid (∀ v ∈ dn ++ [(⟨vk, vn, vr, vt⟩ : V)], v.wf) := fun v hv => by
              rcases List.mem_append.1 hv with h | h
              · exact HWF.out v h
              · simp only [List.mem_singleton] at h; subst h; exact HUW.out
             clear hown7 HZ7 HK7 HV7 HB7 hmp hg9 y8 y0 y1 y2 y3 y4 y5 y6 y7 v9 v0 v1 v2 v3
             obtain ⟨wa, rfl, lt⟩ := blk_put hK9
             obtain ⟨pc, pf, pS⟩ := putBlk_facts (w := wa) 42 lt
             have HO9 := hd_ (own_putlt hown9 (by omega) #[.int .u8 2, .int .u8 k, .int .i64 xv, .slice (some ⟨g8, 0, none⟩) (j + 1) c8, .int .i64 0, .int .i64 0, .int .i64 0, .string ⟨#[]⟩])
             have HK9 := hd_ (putBlk_blk (w := wa) (b := w.heap.size + 1) #[.int .u8 2, .int .u8 k, .int .i64 xv, .slice (some ⟨g8, 0, none⟩) (j + 1) c8, .int .i64 0, .int .i64 0, .int .i64 0, .string ⟨#[]⟩] 42 lt)
             have HZ9 := hd_ (putBlk_old HZ9 (by omega) #[.int .u8 2, .int .u8 k, .int .i64 xv, .slice (some ⟨g8, 0, none⟩) (j + 1) c8, .int .i64 0, .int .i64 0, .int .i64 0, .string ⟨#[]⟩])
             have HB9 := hd_ (putBlk_belows hb9 (by omega) #[.int .u8 2, .int .u8 k, .int .i64 xv, .slice (some ⟨g8, 0, none⟩) (j + 1) c8, .int .i64 0, .int .i64 0, .int .i64 0, .string ⟨#[]⟩])
             clear hown9 hK9 hb9
             go_wp2_with fail
             clear pc pf pS lt
             go_roundw
             case rel => exact ⟨j + 1, _, nb, some ⟨g8, 0, none⟩, c8, by omega, by go_num, rfl, HT2, HF2, by simp [hdl], HWF2, HO9.out, HZ9, HK9, HB9.out⟩
             case measure => simp [intOf]; omega
          · obtain rfl : j = vs.length := by omega
            have HTe := HT.out
            have HFe := HF.out
            rw [List.take_length] at HTe HFe
            have HP : Hid (RopP x (t :: vs) w.heap.size (.returned (.tuple #[.agg #[.int .u8 2, .int .u8 k, .int .i64 xv, .slice rA vs.length rc, .int .i64 0, .int .i64 0, .int .i64 0, .string ⟨#[]⟩], .bool okb])) (putBlk wr w.heap.size #[.int .u8 2, .int .u8 k, .int .i64 xv, .slice rA vs.length rc, .int .i64 0, .int .i64 0, .int .i64 0, .string ⟨#[]⟩] 42)) := by
             cases okb with
             | true =>
              obtain ⟨g1, g2⟩ := HTe rfl
              refine Or.inl ⟨k, ⟨2, k, xv, dn, 0, 0, 0, bsO []⟩, rA, rc, HO.out, by simp [opR, g1, g2, h8], ?_, ?_, ?_⟩
              · unfold Ac.agg
                rw [hdl]
                rfl
              · obtain ⟨wq, hwq, ltq⟩ := blk_put HZr.out
                have ho := hown
                rw [hwq] at ho
                have := own_putlt ho (by omega) #[.int .u8 2, .int .u8 k, .int .i64 xv, .slice rA vs.length rc, .int .i64 0, .int .i64 0, .int .i64 0, .string ⟨#[]⟩]
                rw [show putBlk wr w.heap.size #[.int .u8 2, .int .u8 k, .int .i64 xv, .slice rA vs.length rc, .int .i64 0, .int .i64 0, .int .i64 0, .string ⟨#[]⟩] 42 = putBlk wq w.heap.size #[.int .u8 2, .int .u8 k, .int .i64 xv, .slice rA vs.length rc, .int .i64 0, .int .i64 0, .int .i64 0, .string ⟨#[]⟩] 42 by rw [hwq, putputS]]
                exact (VRow.of_own HWF.out (by rw [hdl]; omega) this).1
              · intro p hp
                subst hp
                have := own_ge hown p.block rfl
                omega
             | false =>
              refine Or.inr ⟨fun k' _ => ?_, _, _, _, _, _, _, _, _, _, _, rfl⟩
              rcases HFe rfl with h | h
              · simp [opR, h]
              · cases hz : longZ t with
                | none => simp [opR, hz]
                | some tb => simp [opR, hz, h]
            obtain ⟨y8, y0, y1, y2, y3, y4, y5, y6, y7⟩ := blkA HKr.out
            obtain ⟨wz, rfl, lt⟩ := blk_put HZr.out
            obtain ⟨pc, pf, pS⟩ := putBlk_facts (w := wz) 42 lt
            rw [putputS] at HP
            have HBF := hd_ (putBlk_belows hbw (Nat.le_refl _) #[.int .u8 2, .int .u8 k, .int .i64 xv, .slice rA vs.length rc, .int .i64 0, .int .i64 0, .int .i64 0, .string ⟨#[]⟩])
            have hjI : ¬ (2 + (vs.length : Int)) < (vs.length : Int) + 1 + 1 := by omega
            clear hown hbw HZr HKr HTe HFe
            go_wp2_with fail
            refine bodyPost_ret (v := .tuple #[.agg #[.int .u8 2, .int .u8 k, .int .i64 xv, .slice rA vs.length rc, .int .i64 0, .int .i64 0, .int .i64 0, .string ⟨#[]⟩], .bool okb]) (by simp [results, Tryz.results54, go_sem, pc]) rfl ?_
            exact ⟨HP.out, HBF.out⟩
       · have HNO : Hid (∀ k, opAt x = some k → opR k (t :: vs) = none) := fun k h => by
          cases hz : longZ t with
          | none => simp [opR, hz]
          | some tb => simp [opR, hz, h8]
         simp only [List.length_cons] at hl ⊢
         have h2I : ¬ ((vs.length : Int) + 1 + 1) < 2 := by omega
         have h10 : (10 : Int) < (vs.length : Int) + 1 + 1 := by omega
         clear hk13 h8
         obtain ⟨wz, rfl, lt⟩ := blk_put HZr.out
         obtain ⟨pc, pf, pS⟩ := putBlk_facts (w := wz) 42 lt
         obtain ⟨y8, y0, y1, y2, y3, y4, y5, y6, y7⟩ := blkA HKr.out
         have HBF := hd_ (putBlk_belows hbw (Nat.le_refl _) #[.int .u8 0, .int .u8 0, .int .i64 0, .slice none 0 0, .int .i64 0, .int .i64 0, .int .i64 0, .string ⟨#[]⟩])
         clear hbw HZr HKr
         go_wp2_with fail
         refine bodyPost_ret (v := .tuple #[.agg #[.int .u8 0, .int .u8 0, .int .i64 0, .slice none 0 0, .int .i64 0, .int .i64 0, .int .i64 0, .string ⟨#[]⟩], .bool false]) (by simp [results, Tryz.results54, go_sem, pc]) rfl ?_
         exact ⟨Or.inr ⟨HNO.out, _, _, _, _, _, _, _, _, _, _, rfl⟩, HBF.out⟩
def numV (l : List (List UInt8)) (i : Nat) (x : Int) : Prop := match l[i]? with
 | some w => ∀ u, longZ w = some u → x = u
 | none => x = 0
theorem nums_vals {c : Nat} {l : List (List UInt8)} {u v t x y z : Int} (h : numsR c l = some (u, v, t)) (hx : numV l 0 x) (hy : numV l 1 y) (hz : numV l 2 z) : x = u ∧ y = v ∧ z = t := by
 unfold numsR at h
 split at h
 · simp only [Option.some.injEq, Prod.mk.injEq] at h
   obtain ⟨rfl, rfl, rfl⟩ := h
   exact ⟨hx, hy, hz⟩
 · split at h
   · next w hw =>
     simp only [Option.some.injEq, Prod.mk.injEq] at h
     obtain ⟨rfl, rfl, rfl⟩ := h
     exact ⟨hx _ hw, hy, hz⟩
   · cases h
 · split at h
   · next w1 w2 h1 h2 =>
     simp only [Option.some.injEq, Prod.mk.injEq] at h
     obtain ⟨rfl, rfl, rfl⟩ := h
     exact ⟨hx _ h1, hy _ h2, hz⟩
   · cases h
 · split at h
   · next w1 w2 w3 h1 h2 h3 =>
     simp only [Option.some.injEq, Prod.mk.injEq] at h
     obtain ⟨rfl, rfl, rfl⟩ := h
     exact ⟨hx _ h1, hy _ h2, hz _ h3⟩
   · cases h
 · cases h
def cutW (f : Bool) (l : List (List UInt8)) : List (List UInt8) := match f, l with
 | true, [x, _, y, z] => [x, y, z]
 | _, l => l
def nmW (f : Bool) (l : List (List UInt8)) : List UInt8 := match f, l with
 | true, [_, nm, _, _] => nm
 | _, _ => []
theorem form_cand {d : Int} {c : Nat} {f : Bool} {l : List (List UInt8)} {a : Ac} {x y z : Int} (h : formR d c f l = some a) (hx : numV (cutW f l) 0 x) (hy : numV (cutW f l) 1 y) (hz : numV (cutW f l) 2 z) : a = ⟨d, 0, 0, [], x, y, z, bsO (nmW f l)⟩ := by
 unfold formR at h
 cases f with
 | true =>
  simp only [if_true] at h
  split at h
  · next x0 nm y0 z0 =>
    split at h
    · split at h
      · next u v t hn =>
        simp only [Option.some.injEq] at h
        obtain ⟨rfl, rfl, rfl⟩ := nums_vals hn hx hy hz
        exact h.symm
      · cases h
    · cases h
  · cases h
 | false =>
  simp only [Bool.false_eq_true, if_false] at h
  split at h
  · next u v t hn =>
    simp only [Option.some.injEq] at h
    obtain ⟨rfl, rfl, rfl⟩ := nums_vals hn hx hy hz
    exact h.symm
  · cases h
theorem readA_op {l x : List UInt8} {rest : List (List UInt8)} {k : Int} {a : Ac} (hw : wordsF l = some (x :: rest)) (ho : opAt x = some k) (h : opR k rest = some a) : readA l = some a := by
 unfold readA
 rw [hw]
 show wordsR (x :: rest) = _
 unfold wordsR
 simp only [ho, h]
theorem readA_noop {l x : List UInt8} {rest : List (List UInt8)} (hw : wordsF l = some (x :: rest)) (hno : ∀ k, opAt x = some k → opR k rest = none) {a : Ac} (h : readA l = some a) : ∃ d c f, formAt x = some (d, c, f) ∧ formR d c f rest = some a := by
 unfold readA at h
 rw [hw] at h
 have h : wordsR (x :: rest) = some a := h
 unfold wordsR at h
 cases ho : opAt x with
 | some k =>
  simp only [ho, hno k ho] at h
  cases h
 | none =>
  simp only [ho] at h
  cases hf : formAt x with
  | none => simp only [hf] at h; cases h
  | some y =>
   obtain ⟨d, c, f⟩ := y
   simp only [hf] at h
   exact ⟨d, c, f, rfl, h⟩
def dkW (x : List UInt8) (j : Int) : Int := match formAt x with
 | some (d, _, _) => if d < j then d else 0
 | none => 0
theorem formAt_rg {x : List UInt8} {d : Int} {c : Nat} {f : Bool} (h : formAt x = some (d, c, f)) : formOf d = some (x, c, f) ∧ 1 ≤ d ∧ d ≤ 16 := by
 unfold formAt at h
 obtain ⟨y, hy, e⟩ := Option.map_eq_some_iff.1 h
 have hm := List.mem_of_find?_eq_some hy
 have hx : y.2.1 = x := by have := List.find?_some hy; simpa using this
 have key : ∀ z ∈ formL, formOf z.1 = some (z.2.1, z.2.2) ∧ 1 ≤ z.1 ∧ z.1 ≤ 16 := by decide
 obtain ⟨k1, k2, k3⟩ := key y hm
 simp only [Prod.mk.injEq] at e
 obtain ⟨e1, e2⟩ := e
 rw [e1, hx, e2] at k1
 exact ⟨k1, by omega, by omega⟩
def NumsTo (L : List (List UInt8)) (j : Nat) (x y z : Int) : Prop := (i64B x ∧ i64B y ∧ i64B z) ∧ (1 < j → numV L 0 x) ∧ (2 < j → numV L 1 y) ∧ (3 < j → numV L 2 z) ∧ (j ≤ 1 → x = 0) ∧ (j ≤ 2 → y = 0) ∧ (j ≤ 3 → z = 0)
theorem numV_none {L : List (List UInt8)} {i : Nat} (h : L[i]? = none) : numV L i 0 := by
 unfold numV
 rw [h]
theorem numV_some {L : List (List UInt8)} {i : Nat} {w : List UInt8} {x : Int} (h : L[i]? = some w) (hx : ∀ u, longZ w = some u → x = u) : numV L i x := by
 unfold numV
 rw [h]
 exact hx
theorem NumsTo.zero (L : List (List UInt8)) : NumsTo L 1 0 0 0 :=
 have hz : i64B 0 := ⟨by decide, by decide⟩
 ⟨⟨hz, hz, hz⟩, fun h => absurd h (by omega), fun h => absurd h (by omega), fun h => absurd h (by omega), fun _ => rfl, fun _ => rfl, fun _ => rfl⟩
theorem NumsTo.fin {L : List (List UInt8)} {j : Nat} {x y z : Int} (h : NumsTo L j x y z) (hj : j = 4 ∨ j = L.length + 1) (h1 : 1 ≤ j) (h4 : j ≤ 4) : numV L 0 x ∧ numV L 1 y ∧ numV L 2 z := by
 obtain ⟨_, a, b, c, d, e, f⟩ := h
 refine ⟨?_, ?_, ?_⟩
 · by_cases h : 1 < j
   · exact a h
   · rw [d (by omega)]
     exact numV_none (List.getElem?_eq_none (by omega))
 · by_cases h : 2 < j
   · exact b h
   · rw [e (by omega)]
     exact numV_none (List.getElem?_eq_none (by omega))
 · by_cases h : 3 < j
   · exact c h
   · rw [f (by omega)]
     exact numV_none (List.getElem?_eq_none (by omega))
theorem NumsTo.step {L : List (List UInt8)} {j : Nat} {x y z v : Int} {w : List UInt8} (h : NumsTo L j x y z) (h1 : 1 ≤ j) (h3 : j ≤ 3) (hw : L[j - 1]? = some w) (hok : ∀ u, longZ w = some u → v = u) (hv : i64B v) :
  ∃ a b c : Int, (#[.int .i64 x, .int .i64 y, .int .i64 z] : Array Value).setIfInBounds (j - 1) (.int .i64 v) = #[.int .i64 a, .int .i64 b, .int .i64 c] ∧ NumsTo L (j + 1) a b c := by
 have hn := numV_some hw hok
 obtain ⟨⟨i0, i1, i2⟩, a, b, c, d, e, f⟩ := h
 have hj : j = 1 ∨ j = 2 ∨ j = 3 := by omega
 rcases hj with rfl | rfl | rfl
 · exact ⟨v, y, z, rfl, ⟨hv, i1, i2⟩, fun _ => hn, fun h => absurd h (by omega), fun h => absurd h (by omega), fun h => absurd h (by omega), fun _ => e (by omega), fun _ => f (by omega)⟩
 · exact ⟨x, v, z, rfl, ⟨i0, hv, i2⟩, fun _ => a (by omega), fun _ => hn, fun h => absurd h (by omega), fun h => absurd h (by omega), fun h => absurd h (by omega), fun _ => f (by omega)⟩
 · exact ⟨x, y, v, rfl, ⟨i0, i1, hv⟩, fun _ => a (by omega), fun _ => b (by omega), fun _ => hn, fun h => absurd h (by omega), fun h => absurd h (by omega), fun h => absurd h (by omega)⟩
theorem dkW_rg (x : List UInt8) : 0 ≤ dkW x ((17 : Nat) : Int) ∧ dkW x ((17 : Nat) : Int) ≤ 16 := by
 unfold dkW
 cases hf : formAt x with
 | none => simp
 | some y =>
  obtain ⟨d, c, f⟩ := y
  have := formAt_rg hf
  simp only
  split <;> omega
theorem dkW_some {x : List UInt8} {d : Int} {c : Nat} {f : Bool} (h : formAt x = some (d, c, f)) : dkW x ((17 : Nat) : Int) = d := by
 have := formAt_rg h
 unfold dkW
 rw [h]
 simp only
 rw [if_pos (by omega)]
def kfW (d : Int) : Bool := match formOf d with
 | some y => y.2.2
 | none => false
theorem cand_of {l x : List UInt8} {rest : List (List UInt8)} (hw : wordsF l = some (x :: rest)) (hno : ∀ k, opAt x = some k → opR k rest = none) {u v t : Int} (hu : numV (cutW (kfW (dkW x ((17 : Nat) : Int))) rest) 0 u)
  (hv : numV (cutW (kfW (dkW x ((17 : Nat) : Int))) rest) 1 v) (ht : numV (cutW (kfW (dkW x ((17 : Nat) : Int))) rest) 2 t) {b : Ac} (h : readA l = some b) : b = ⟨dkW x ((17 : Nat) : Int), 0, 0, [], u, v, t, bsO (nmW (kfW (dkW x ((17 : Nat) : Int))) rest)⟩ := by
 obtain ⟨d, c, f, h1, h2⟩ := readA_noop hw hno h
 have hd := dkW_some h1
 have hk : kfW d = f := by
  unfold kfW
  rw [(formAt_rg h1).1]
 rw [hd, hk] at hu hv ht
 rw [hd, hk]
 exact form_cand h2 hu hv ht
theorem cutW_len (f : Bool) (l : List (List UInt8)) : (cutW f l).length ≤ l.length := by
 unfold cutW
 split <;> simp
theorem nmW_len {f : Bool} {l : List (List UInt8)} {B : Nat} (h : ∀ y ∈ l, y.length ≤ B) : (nmW f l).length ≤ B := by
 unfold nmW
 split
 · exact h _ (by simp)
 · simp
theorem cutW_no {f : Bool} {l : List (List UInt8)} (h : ¬ (f = true ∧ l.length = 4)) : cutW f l = l ∧ nmW f l = [] := by
 constructor
 · unfold cutW
   split
   · exact absurd ⟨rfl, rfl⟩ h
   · rfl
 · unfold nmW
   split
   · exact absurd ⟨rfl, rfl⟩ h
   · rfl
end Go.Proofs.YtfekohonidggjaaGreatDoor
