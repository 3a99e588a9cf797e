/- Texts joined by a tool: contracts and walks of this claim. -/
import Derived.Test.YtfekohonidggjaaGreatDoorB13
import Derived.Lib.SplitLaws
import Derived.Lib.IndexLaws
import Derived.Maps.OwnSet
namespace Go.Proofs.YtfekohonidggjaaGreatDoor
open Go.RowKit
theorem indexB_one (s : ByteArray) (b : UInt8) : Lib.indexB s ⟨#[b]⟩ = Lib.indexByte s.data.toList b := Lib.index_one s.data.toList b
theorem split_sp (b : UInt8) : ∀ (k : Nat) (s : ByteArray), Lib.countB s ⟨#[b]⟩ = k → (Lib.splitB ⟨#[b]⟩ 0 k s).map (·.data.toList) = spW b s.data.toList
 | 0, s, h => by
  have hn : b ∉ s.data.toList := by
   rcases Lib.indexB_cases s ⟨#[b]⟩ with hx | ⟨i, hx, _⟩
   · rw [indexB_one] at hx
     intro hm
     obtain ⟨j, hj, e⟩ := List.getElem_of_mem hm
     exact Lib.indexByte_none hx j (by rw [List.getElem?_eq_getElem hj, e])
   · rw [Lib.countB_hit s ⟨#[b]⟩ i (Nat.le_refl 1) hx] at h; omega
  rw [Lib.splitB_zero, sp_one b _ hn]
  rfl
 | k + 1, s, h => by
  rcases Lib.indexB_cases s ⟨#[b]⟩ with hx | ⟨i, hx, hr⟩
  · rw [Lib.countB_miss s _ hx] at h; omega
  · have h1 := Lib.countB_hit s ⟨#[b]⟩ i (Nat.le_refl 1) hx
    have hsz : (⟨#[b]⟩ : ByteArray).size = 1 := rfl
    rw [hsz] at h1 hr
    rw [Lib.splitB_hit _ 0 k s i hx, hsz, List.map_cons, split_sp b k (s.extract (i + 1) s.size) (by omega)]
    rw [indexB_one] at hx
    obtain ⟨h2, h3⟩ := Lib.indexByte_some hx
    have hlen : s.data.toList.length = s.size := by simp
    have e1 : (s.extract 0 (i + 0)).data.toList = s.data.toList.take i := by
     have := Lib.extract_toList s 0 (i + 0)
     rw [Lib.toList_data] at this
     rw [this]; rfl
    have e2 : (s.extract (i + 1) s.size).data.toList = s.data.toList.drop (i + 1) := by
     have := Lib.extract_toList s (i + 1) s.size
     rw [Lib.toList_data] at this
     rw [this]
     exact List.take_of_length_le (by simp)
    have hsp : s.data.toList = s.data.toList.take i ++ b :: s.data.toList.drop (i + 1) := by
     obtain ⟨hi, e⟩ := List.getElem?_eq_some_iff.1 h2
     rw [← e, List.getElem_cons_drop, List.take_append_drop]
    rw [e1, e2]
    conv => rhs; rw [hsp]
    rw [sp_app b]
    intro hm
    obtain ⟨j, hj, e⟩ := List.getElem_of_mem hm
    have hj' : j < i := by simp at hj; omega
    refine h3 j hj' ?_
    rw [List.getElem_take] at e
    rw [List.getElem?_eq_getElem (by omega), e]
theorem count_sp (b : UInt8) (s : ByteArray) : (spW b s.data.toList).length = Lib.countB s ⟨#[b]⟩ + 1 := by
 rw [← split_sp b _ s rfl, List.length_map]
 exact Lib.splitB_all ⟨#[b]⟩ (Nat.le_refl 1) 0 _ s rfl
def WRow (w : World) (g : Nat) (ws : List (List UInt8)) : Prop := Blk w g ((ws.map fun x => Value.string (bsO x)).toArray) 9
theorem split_cells (b : UInt8) (s : ByteArray) : ((Lib.splitB ⟨#[b]⟩ 0 (Lib.countB s ⟨#[b]⟩) s).map Value.string).toArray = ((spW b s.data.toList).map fun x => Value.string (bsO x)).toArray := by
 rw [← split_sp b _ s rfl, List.map_map]
 rfl
theorem WRow.ext {w w' : World} {g : Nat} {ws : List (List UInt8)} (h : WRow w g ws) (hb : Below w.heap.size w w') : WRow w' g ws := Blk.ext h hb
theorem WRow.at_ {w : World} {g : Nat} {ws : List (List UInt8)} (h : WRow w g ws) {j : Nat} {x : List UInt8} (hj : ws[j]? = some x) : w.cell? ⟨g, j, none⟩ = some (.string (bsO x)) := by
 have := Blk.cell h j
 rw [this]
 simp [hj]
theorem mem_bsO {ws : List (List UInt8)} : (bsO [] ∈ ws.map bsO) ↔ ([] ∈ ws) := by
 rw [List.mem_map]
 exact ⟨fun ⟨x, h, e⟩ => by rw [← bsO_inj e]; exact h, fun h => ⟨[], h, rfl⟩⟩
def WordsP (o : Option (List (List UInt8))) (w : World) (r : Ending) (w' : World) : Prop := match o with
 | some ws => ∃ g, r = .returned (.slice (some ⟨g, 0, none⟩) ws.length ws.length) ∧ WRow w' g ws ∧ w.heap.size ≤ g
 | none => r = gaveW
set_option maxRecDepth 100000 in
set_option maxHeartbeats 1600000 in
theorem words_any (s : ByteArray) (hs : s.size < 4294967281) (w : World) (hL : LayS w) :
 Calls Tryz.prog 93 #[.string s] w fun r w' => WordsP (wordsF s.data.toList) w r w' ∧ Below w.heap.size w w' := by
 obtain ⟨m, hm⟩ := hL.ml
 have hsp := Tryz.strings_Split s ⟨#[32]⟩ m w hs hm (by decide)
 rw [split_cells, ← count_sp] at hsp
 have HSP := hd_ hsp
 generalize hws : spW 32 s.data.toList = ws at HSP
 have hrow : WRow (w.alloc (.cells ((ws.map fun x => Value.string (bsO x)).toArray) 9)) w.heap.size ws := Blk.new _ _ _
 have hbel : Below w.heap.size w (w.alloc (.cells ((ws.map fun x => Value.string (bsO x)).toArray) 9)) := (by repeat (first | exact Below.refl _ _ | assumption | refine Below.drew ?_ | refine below_drewN ?_ _ | refine Below.alloc ?_ (by simp <;> omega) _))
 generalize hW : w.alloc (.cells ((ws.map fun x => Value.string (bsO x)).toArray) 9) = W at HSP hrow hbel
 have hct := Tryz.slices_Contains_string w.heap.size 0 ws.length ws.length (ws.map bsO) ⟨#[]⟩ W (by simp) (by
  have h1 : ws.length ≤ s.size + 1 := by
   rw [← hws, count_sp]
   have := Lib.countB_le ⟨#[32]⟩ (by decide) s.size s (Nat.le_refl _)
   omega
  omega) (fun j hj => by
   rw [List.length_map] at hj
   rw [Nat.zero_add, hrow.at_ (List.getElem?_eq_getElem hj), List.getD_eq_getElem?_getD, List.getElem?_map, List.getElem?_eq_getElem hj]
   rfl)
 rw [List.take_of_length_le (by simp)] at hct
 have HCT := hd_ hct
 have HROW := hd_ hrow
 have HBEL := hd_ hbel
 have HWS := hd_ hws
 clear hsp hrow hbel hct hL hm hws hW
 by_cases hin : [] ∈ ws
 · have hc : Lib.containsS (ws.map bsO) ⟨#[]⟩ = true := (Lib.containsS_iff _ _).2 (mem_bsO.2 hin)
   have hF : wordsF s.data.toList = none := by unfold wordsF; rw [HWS.out, if_pos hin]
   have HF := hd_ hF
   rw [hc] at HCT
   clear hin hc hF
   go_enter Tryz.func93, Tryz.ntmps93
   go_wp2_with fail
   refine HSP.out.mono ?_
   rintro r w1 ⟨rfl, rfl⟩
   go_wp2_with fail
   refine HCT.out.mono ?_
   rintro r w2 ⟨rfl, rfl⟩
   go_wp2_with fail
   refine (need_no _).mono ?_
   rintro r w2 ⟨rfl, rfl⟩
   unfold gaveW
   go_wp2_with fail
   exact ⟨rfl, by rw [HF.out]; rfl, HBEL.out⟩
 · have hc : Lib.containsS (ws.map bsO) ⟨#[]⟩ = false := Bool.eq_false_iff.2 fun h => hin (mem_bsO.1 ((Lib.containsS_iff _ _).1 h))
   have hF : wordsF s.data.toList = some ws := by unfold wordsF; rw [HWS.out, if_neg hin]
   have HF := hd_ hF
   rw [hc] at HCT
   clear hin hc hF
   go_enter Tryz.func93, Tryz.ntmps93
   go_wp2_with fail
   refine HSP.out.mono ?_
   rintro r w1 ⟨rfl, rfl⟩
   go_wp2_with fail
   refine HCT.out.mono ?_
   rintro r w2 ⟨rfl, rfl⟩
   go_wp2_with fail
   refine (need_yes _).mono ?_
   rintro r w2 ⟨rfl, rfl⟩
   go_wp2_with fail
   go_ret
   exact ⟨by rw [HF.out]; exact ⟨_, rfl, HROW.out, Nat.le_refl _⟩, HBEL.out⟩
theorem info_txt : (Tryz.prog.info? 9).map (fun i => (i.zero, i.size, i.bytes)) = some (some (.string ByteArray.empty), 1, 16) := by kernel_rfl
def wsC (ws : List (List UInt8)) : List Value := ws.map fun x => Value.string (bsO x)
theorem jn_snoc (b : UInt8) : ∀ (ws : List (List UInt8)) (x : List UInt8), ws ≠ [] → jnW b (ws ++ [x]) = jnW b ws ++ b :: x
 | [], _, h => absurd rfl h
 | [w], x, _ => by simp [jnW]
 | w :: u :: ws, x, _ => by
  have ih := jn_snoc b (u :: ws) x (by simp)
  rw [List.cons_append] at ih
  simp only [List.cons_append, jnW]
  rw [ih]
  simp
theorem jn_take_le (b : UInt8) : ∀ (ws : List (List UInt8)) (k : Nat), (jnW b (ws.take k)).length ≤ (jnW b ws).length
 | [], k => by simp [jnW]
 | w :: ws, 0 => by simp [jnW]
 | [w], k + 1 => by simp
 | w :: u :: ws, 1 => by simp [jnW]
 | w :: u :: ws, k + 2 => by
  have ih := jn_take_le b (u :: ws) (k + 1)
  simp only [List.take_succ_cons, jnW] at ih ⊢
  simp only [List.length_append, List.length_cons]
  omega
set_option maxRecDepth 100000 in
set_option maxHeartbeats 1600000 in
theorem refjoin_any (ws : List (List UInt8)) (A : Option Addr) (c : Nat) (w : World) (hn : ws.length ≤ 1000000) (hz : (jnW 32 ws).length ≤ 9223372036854775806) (hA : ws ≠ [] → ∃ b o, A = some ⟨b, o, none⟩ ∧ b < w.heap.size ∧ ∀ j x, ws[j]? = some x → w.cell? ⟨b, o + j, none⟩ = some (.string (bsO x))) :
 Calls Tryz.prog 43 #[.slice A ws.length c] w fun r w' => r = .returned (.string (bsO (jnW 32 ws))) ∧ Below w.heap.size w w' := by
 have HA := hd_ hA
 have HZ := hd_ hz
 clear hA hz
 go_enter Tryz.func43, Tryz.ntmps43
 go_wp2_with fail
 go_loopw [3, 4] (fun sv iv wr => ∃ (j : Nat), j ≤ ws.length ∧ iv = .int .i64 j ∧ sv = .string (bsO (jnW 32 (ws.take j))) ∧ wr = w) (fun _ i _ => ws.length - (intOf i).toNat)
 case atStart => exact ⟨0, by omega, rfl, rfl, rfl⟩
 case round =>
  obtain ⟨j, hj, rfl, rfl, hwr⟩ := hrel
  subst hwr
  by_cases hlt : j < ws.length
  · obtain ⟨b, o, rfl, hb, hc⟩ := HA.out (by intro e; rw [e] at hlt; simp at hlt)
    have hx := List.getElem?_eq_getElem hlt
    obtain ⟨x, hxx⟩ : ∃ x, x = ws[j] := ⟨_, rfl⟩
    rw [← hxx] at hx
    have c0 := hc j x hx
    have htk : ws.take (j + 1) = ws.take j ++ [x] := by rw [List.take_succ_eq_append_getElem hlt, ← hxx]
    have hle := jn_take_le 32 ws (j + 1)
    have hz := HZ.out
    have hltI : (j : Int) < ws.length := by omega
    rcases Nat.eq_zero_or_pos j with h0 | h0
    · subst h0
      have hj0 : jnW 32 (ws.take (0 + 1)) = x := by rw [htk]; rfl
      have hcat : (bsO (jnW 32 (ws.take 0))).size + (bsO x).size ≤ 9223372036854775807 := by
       rw [hj0] at hle
       rw [bsO_size, bsO_size]
       show 0 + _ ≤ _
       omega
      have hnew : bsO (jnW 32 (ws.take 0)) ++ bsO x = bsO (jnW 32 (ws.take (0 + 1))) := by rw [hj0, bsO_app]; rfl
      have HN := hd_ hnew
      have hg : ¬ (0 : Int) < ((0 : Nat) : Int) := by omega
      rw [Nat.add_zero] at c0
      clear hnew hj0 htk hx hc hle hz hxx
      generalize bsO (jnW 32 (ws.take 0)) = y at *
      go_wp2_with fail
      go_roundw
      case rel => exact ⟨0 + 1, by omega, by go_num, by rw [← HN.out], by first | rfl | trivial⟩
      case measure => simp [intOf]; omega
    · have hne : ws.take j ≠ [] := by
       intro e
       have := congrArg List.length e
       rw [List.length_take, List.length_nil] at this
       omega
      have hjn : jnW 32 (ws.take (j + 1)) = jnW 32 (ws.take j) ++ 32 :: x := by rw [htk, jn_snoc 32 _ _ hne]
      have hl : (jnW 32 (ws.take j)).length + (x.length + 1) ≤ 9223372036854775806 := by
       rw [hjn, List.length_append, List.length_cons] at hle
       omega
      have hcat1 : (bsO (jnW 32 (ws.take j))).size + (⟨#[32]⟩ : ByteArray).size ≤ 9223372036854775807 := by
       rw [bsO_size]
       show _ + 1 ≤ _
       omega
      have hn1 : bsO (jnW 32 (ws.take j)) ++ (⟨#[32]⟩ : ByteArray) = bsO (jnW 32 (ws.take j) ++ [32]) := bsO_app _ [32]
      have hcat2 : (bsO (jnW 32 (ws.take j)) ++ (⟨#[32]⟩ : ByteArray)).size + (bsO x).size ≤ 9223372036854775807 := by
       rw [hn1, bsO_size, bsO_size, List.length_append]
       simp only [List.length_singleton]
       omega
      have hnew : bsO (jnW 32 (ws.take j)) ++ (⟨#[32]⟩ : ByteArray) ++ bsO x = bsO (jnW 32 (ws.take (j + 1))) := by rw [hn1, bsO_app, hjn]; simp
      have HN := hd_ hnew
      have hg : (0 : Int) < (j : Int) := by omega
      clear hnew hjn htk hx hc hle hz hn1 hl hxx
      generalize bsO (jnW 32 (ws.take j)) = y at *
      go_wp2_with fail
      go_roundw
      case rel => exact ⟨j + 1, by omega, by go_num, by rw [← HN.out], by first | rfl | trivial⟩
      case measure => simp [intOf]; omega
  · have hjn : j = ws.length := by omega
    subst hjn
    rw [List.take_of_length_le (Nat.le_refl _)]
    go_wp2_with fail
    go_ret
    exact ⟨rfl, Below.refl _ _⟩
def RW (v : Value) : Option (DataW Value × List MemPlace) := some (.held v, [])
def lookI (l : List (Int × Value)) (k : Int) : Option Value := (l.find? (·.1 == k)).map (·.2)
def formV (w : List UInt8) (n : Nat) (f : Bool) : Value := .agg #[.string (bsO w), .int .i64 n, .bool f]
def ZF : Value := .agg #[.string ⟨#[]⟩, .int .i64 0, .bool false]
def formsL : List (Int × Value) := formL.map fun x => (x.1, formV x.2.1 x.2.2.1 x.2.2.2)
def MF (w : World) (M n : Nat) (l : List (Int × Value)) : Prop :=
 ∃ D : DataW Value, w.ownsMap Tryz.prog 5 RW M n D ∧ Maps.IsMap D ∧ ∀ (k : Int) z, D.atKey (.int .u8 k) z = ((lookI l k).map DataW.held).getD z
theorem MF.ext {w w' : World} {M n : Nat} {l : List (Int × Value)} (h : MF w M n l) (hb : Below w.heap.size w w') : MF w' M n l := by
 obtain ⟨D, h1, h2, h3⟩ := h
 exact ⟨D, own_map_below h1 hb, h2, h3⟩
theorem MF.new (w : World) : MF (w.alloc (.map #[] 0)) w.heap.size 0 [] := ⟨.map [], World.ownsMap_made _ _ _ _, Maps.isMap_empty, fun _ _ => rfl⟩
theorem key_u8 {k : Int} (h : 0 ≤ k ∧ k ≤ 255) : keyOf Tryz.prog 5 (.int .u8 k) = some (.int .u8 k) :=
 Maps.keyOf_int_mk Tryz.underlying5 (by simp only [Lit.wf, IntKind.min, IntKind.max, IntKind.signed, IntKind.bits, Bool.and_eq_true, decide_eq_true_eq, Bool.false_eq_true, if_false]; omega)
theorem MF.put {w : World} {M n : Nat} {l : List (Int × Value)} (h : MF w M n l) (hn : n < 1000) (k : Int) (hk : 0 ≤ k ∧ k ≤ 255) (v : Value) :
 ∃ w', (Instr.mapUpdate 131 (.map (some M)) (.int .u8 k) v).run Tryz.prog w = .ok () w' ∧ MF w' M (n + 1) ((k, v) :: l) ∧ w.grownBy w' (some M) := by
 obtain ⟨D, h1, h2, h3⟩ := h
 obtain ⟨w', e, h4, h5⟩ := World.ownsMap.update h1 (Maps.int_keyed Tryz.underlying5) Tryz.underlying131 (by unfold maxLen; omega) (key_u8 hk) (show RW v = some (.held v, []) from rfl)
 refine ⟨w', e, ⟨_, h4, h2.put _ _, fun j z => ?_⟩, h5⟩
 by_cases hj : j = k
 · subst hj
   rw [Maps.atKey_put_same h2 (show WideAt.IsKeyLit (.int .u8 j) from trivial)]
   simp [lookI]
 · rw [Maps.atKey_put_other (fun e => hj (by injection e))]
   rw [h3]
   have : ¬ k = j := fun e => hj e.symm
   simp [lookI, this]
set_option maxRecDepth 100000 in
set_option maxHeartbeats 3200000 in
theorem forms_any (w : World) :
 Calls Tryz.prog 80 #[] w fun r w' => r = .returned (.map (some w.heap.size)) ∧ MF w' w.heap.size 15 formsL.reverse ∧ Below w.heap.size w w' := by
 have hmm := @run_makeMap Tryz.prog
 have h0 := MF.new w
 have b0 : Below w.heap.size w (w.alloc (.map #[] 0)) := (by repeat (first | exact Below.refl _ _ | assumption | refine Below.drew ?_ | refine below_drewN ?_ _ | refine Below.alloc ?_ (by simp <;> omega) _))
 obtain ⟨w1, e1, h1, g1⟩ := MF.put h0 (by omega) 1 (by omega) (.agg #[.string ⟨#[98, 101, 103, 105, 110]⟩, .int .i64 0, .bool false])
 have b1 := b0.grown g1 (by have := b0.size; omega) (fun g hg => by injection hg with hg; omega)
 clear h0 b0 g1
 obtain ⟨w2, e2, h2, g2⟩ := MF.put h1 (by omega) 3 (by omega) (.agg #[.string ⟨#[99, 111, 109, 109, 105, 116]⟩, .int .i64 0, .bool false])
 have b2 := b1.grown g2 (by have := b1.size; omega) (fun g hg => by injection hg with hg; omega)
 clear h1 b1 g2
 obtain ⟨w3, e3, h3, g3⟩ := MF.put h2 (by omega) 4 (by omega) (.agg #[.string ⟨#[97, 98, 111, 114, 116]⟩, .int .i64 0, .bool false])
 have b3 := b2.grown g3 (by have := b2.size; omega) (fun g hg => by injection hg with hg; omega)
 clear h2 b2 g3
 obtain ⟨w4, e4, h4, g4⟩ := MF.put h3 (by omega) 5 (by omega) (.agg #[.string ⟨#[115, 116, 101, 112]⟩, .int .i64 0, .bool false])
 have b4 := b3.grown g4 (by have := b3.size; omega) (fun g hg => by injection hg with hg; omega)
 clear h3 b3 g4
 obtain ⟨w5, e5, h5, g5⟩ := MF.put h4 (by omega) 6 (by omega) (.agg #[.string ⟨#[102, 101, 116, 99, 104]⟩, .int .i64 3, .bool false])
 have b5 := b4.grown g5 (by have := b4.size; omega) (fun g hg => by injection hg with hg; omega)
 clear h4 b4 g5
 obtain ⟨w6, e6, h6, g6⟩ := MF.put h5 (by omega) 7 (by omega) (.agg #[.string ⟨#[112, 117, 98, 108, 105, 115, 104]⟩, .int .i64 0, .bool false])
 have b6 := b5.grown g6 (by have := b5.size; omega) (fun g hg => by injection hg with hg; omega)
 clear h5 b5 g6
 obtain ⟨w7, e7, h7, g7⟩ := MF.put h6 (by omega) 8 (by omega) (.agg #[.string ⟨#[116, 101, 108, 108]⟩, .int .i64 0, .bool false])
 have b7 := b6.grown g7 (by have := b6.size; omega) (fun g hg => by injection hg with hg; omega)
 clear h6 b6 g7
 obtain ⟨w8, e8, h8, g8⟩ := MF.put h7 (by omega) 9 (by omega) (.agg #[.string ⟨#[114, 101, 116, 97, 105, 110]⟩, .int .i64 1, .bool false])
 have b8 := b7.grown g8 (by have := b7.size; omega) (fun g hg => by injection hg with hg; omega)
 clear h7 b7 g8
 obtain ⟨w9, e9, h9, g9⟩ := MF.put h8 (by omega) 10 (by omega) (.agg #[.string ⟨#[102, 108, 117, 115, 104]⟩, .int .i64 0, .bool false])
 have b9 := b8.grown g9 (by have := b8.size; omega) (fun g hg => by injection hg with hg; omega)
 clear h8 b8 g9
 obtain ⟨w10, e10, h10, g10⟩ := MF.put h9 (by omega) 11 (by omega) (.agg #[.string ⟨#[99, 111, 109, 112, 97, 99, 116]⟩, .int .i64 0, .bool false])
 have b10 := b9.grown g10 (by have := b9.size; omega) (fun g hg => by injection hg with hg; omega)
 clear h9 b9 g10
 obtain ⟨w11, e11, h11, g11⟩ := MF.put h10 (by omega) 12 (by omega) (.agg #[.string ⟨#[102, 117, 115, 101]⟩, .int .i64 2, .bool false])
 have b11 := b10.grown g11 (by have := b10.size; omega) (fun g hg => by injection hg with hg; omega)
 clear h10 b10 g11
 obtain ⟨w12, e12, h12, g12⟩ := MF.put h11 (by omega) 13 (by omega) (.agg #[.string ⟨#[99, 114, 97, 115, 104]⟩, .int .i64 3, .bool false])
 have b12 := b11.grown g12 (by have := b11.size; omega) (fun g hg => by injection hg with hg; omega)
 clear h11 b11 g12
 obtain ⟨w13, e13, h13, g13⟩ := MF.put h12 (by omega) 14 (by omega) (.agg #[.string ⟨#[102, 108, 105, 112]⟩, .int .i64 3, .bool true])
 have b13 := b12.grown g13 (by have := b12.size; omega) (fun g hg => by injection hg with hg; omega)
 clear h12 b12 g13
 obtain ⟨w14, e14, h14, g14⟩ := MF.put h13 (by omega) 15 (by omega) (.agg #[.string ⟨#[114, 111, 111, 109]⟩, .int .i64 2, .bool false])
 have b14 := b13.grown g14 (by have := b13.size; omega) (fun g hg => by injection hg with hg; omega)
 clear h13 b13 g14
 obtain ⟨w15, e15, h15, g15⟩ := MF.put h14 (by omega) 16 (by omega) (.agg #[.string ⟨#[111, 112, 101, 110]⟩, .int .i64 1, .bool false])
 have b15 := b14.grown g15 (by have := b14.size; omega) (fun g hg => by injection hg with hg; omega)
 clear h14 b14 g15
 have HF := hd_ h15
 have HB := hd_ b15
 clear h15 b15
 go_enter Tryz.func80, Tryz.ntmps80
 go_wp2_with fail
 go_ret
 exact ⟨rfl, HF.out, HB.out⟩
theorem all_app1 {l : List UInt8} {c : UInt8} : (l ++ [c]).all fileC = (l.all fileC && fileC c) := by simp
theorem fileB_bad {l a r : List UInt8} {c : UInt8} (h : l = a ++ c :: r) (hc : fileC c = false) : fileB l = false := by
 unfold fileB
 rw [h]
 simp [hc]
theorem fileB_end {s : ByteArray} (h : s.data.toList.all fileC = true) : fileB s.data.toList = (decide (1 ≤ s.size) && decide (s.size ≤ 64)) := by
 unfold fileB
 rw [h, len_data, Bool.true_and]
theorem fileC_cases (c : UInt8) : (fileC c = true ∧ ((97 ≤ c.toNat ∧ c.toNat ≤ 122) ∨ ((48 ≤ c.toNat ∧ c.toNat ≤ 57)) ∨ c.toNat = 46 ∨ c.toNat = 45)) ∨ (fileC c = false ∧ ((c.toNat < 45) ∨ c.toNat = 47 ∨ (57 < c.toNat ∧ c.toNat < 97) ∨ 122 < c.toNat)) := by
 cases h : fileC c
 · right
   refine ⟨rfl, ?_⟩
   unfold fileC at h
   simp only [decide_eq_false_iff_not] at h
   omega
 · left
   refine ⟨rfl, ?_⟩
   unfold fileC at h
   simpa using h
set_option maxRecDepth 100000 in
set_option maxHeartbeats 3200000 in
theorem refName_any (s : ByteArray) (w : World) (hs : s.size ≤ 140737488355328) :
 Calls Tryz.prog 46 #[.string s] w fun r w' => r = .returned (.bool (fileB s.data.toList)) ∧ Below w.heap.size w w' := by
 generalize hR : fileB s.data.toList = R
 have HR := hd_ hR
 clear hR
 go_enter Tryz.func46, Tryz.ntmps46
 go_wp2_with fail
 go_loop [3] (fun i => ∃ (j : Nat), j ≤ s.size ∧ i = .int .i64 j ∧ Hid ((s.data.toList.take j).all fileC = true)) (fun i => s.size - (intOf i).toNat)
 case atStart => exact ⟨0, by omega, rfl, (rfl : _ = _)⟩
 case round =>
  obtain ⟨j, hj, rfl, HS⟩ := hrel
  by_cases hlt : j < s.size
  · obtain ⟨c, hidx, htk, hsp, -⟩ := byteA hlt
    have HTK := hd_ htk
    have HSP := hd_ hsp
    have hltI : (j : Int) < s.size := by omega
    have hcs := fileC_cases c
    obtain ⟨m, hm⟩ : ∃ m : Int, (c.toNat : Int) = m := ⟨_, rfl⟩
    clear htk hsp
    rcases hcs with ⟨hc, hcl⟩ | ⟨hc, hcl⟩
    · have hnx : (s.data.toList.take (j + 1)).all fileC = true := by rw [HTK.out, all_app1, HS.out, hc]; rfl
      have HNX := hd_ hnx
      clear hc hnx
      rcases hcl with hcl | hcl | hcl | hcl
      · have a1 : (97 : Int) ≤ m := by omega
        have a2 : m ≤ 122 := by omega
        clear hcl
        go_wp2_with fail
        go_round
        case rel => exact ⟨j + 1, by omega, by go_num, HNX⟩
        case measure => simp [intOf]; omega
      · have a1 : ¬ (97 : Int) ≤ m := by omega
        have a2 : (48 : Int) ≤ m := by omega
        have a3 : m ≤ 57 := by omega
        clear hcl
        go_wp2_with fail
        go_round
        case rel => exact ⟨j + 1, by omega, by go_num, HNX⟩
        case measure => simp [intOf]; omega
      · have a1 : m = 46 := by omega
        rw [a1] at hm
        clear hcl
        go_wp2_with fail
        go_round
        case rel => exact ⟨j + 1, by omega, by go_num, HNX⟩
        case measure => simp [intOf]; omega
      · have a1 : m = 45 := by omega
        rw [a1] at hm
        clear hcl
        go_wp2_with fail
        go_round
        case rel => exact ⟨j + 1, by omega, by go_num, HNX⟩
        case measure => simp [intOf]; omega
    · have hF : R = false := by rw [← HR.out]; exact fileB_bad HSP.out hc
      have HF := hd_ hF
      have b1 : (m == 46) = false := by simp; omega
      have b2 : (m == 45) = false := by simp; omega
      clear hF hc
      rcases hcl with hcl | hcl | hcl | hcl
      · have a1 : ¬ (97 : Int) ≤ m := by omega
        have a2 : ¬ (48 : Int) ≤ m := by omega
        clear hcl
        go_wp2_with fail
        go_ret
        exact ⟨by rw [HF.out]; rfl, Below.refl _ _⟩
      · have a1 : ¬ (97 : Int) ≤ m := by omega
        have a2 : ¬ (48 : Int) ≤ m := by omega
        clear hcl
        go_wp2_with fail
        go_ret
        exact ⟨by rw [HF.out]; rfl, Below.refl _ _⟩
      · have a1 : ¬ (97 : Int) ≤ m := by omega
        have a2 : (48 : Int) ≤ m := by omega
        have a3 : ¬ m ≤ 57 := by omega
        clear hcl
        go_wp2_with fail
        go_ret
        exact ⟨by rw [HF.out]; rfl, Below.refl _ _⟩
      · have a1 : (97 : Int) ≤ m := by omega
        have a2 : ¬ m ≤ 122 := by omega
        have a3 : (48 : Int) ≤ m := by omega
        have a4 : ¬ m ≤ 57 := by omega
        clear hcl
        go_wp2_with fail
        go_ret
        exact ⟨by rw [HF.out]; rfl, Below.refl _ _⟩
  · have hjn : j = s.size := by omega
    subst hjn
    have hall := HS.out
    rw [List.take_of_length_le (by simp)] at hall
    have hE : R = (decide (1 ≤ s.size) && decide (s.size ≤ 64)) := by rw [← HR.out]; exact fileB_end hall
    have HE := hd_ hE
    clear hall hE
    by_cases h1 : 1 ≤ s.size
    · have h1I : (1 : Int) ≤ s.size := by omega
      by_cases h64 : s.size ≤ 64
      · have h2I : (s.size : Int) ≤ 64 := by omega
        go_wp2_with fail
        go_ret
        exact ⟨by rw [HE.out, decide_eq_true h1, decide_eq_true h64]; rfl, Below.refl _ _⟩
      · have h2I : ¬ (s.size : Int) ≤ 64 := by omega
        go_wp2_with fail
        go_ret
        exact ⟨by rw [HE.out, decide_eq_false h64, Bool.and_false]; rfl, Below.refl _ _⟩
    · have h1I : ¬ (1 : Int) ≤ s.size := by omega
      go_wp2_with fail
      go_ret
      exact ⟨by rw [HE.out, decide_eq_false h1]; rfl, Below.refl _ _⟩
set_option maxRecDepth 100000 in
set_option maxHeartbeats 3200000 in
theorem diskMay_any (s : ByteArray) (w : World) (hs : s.size ≤ 140737488355328) :
 Calls Tryz.prog 171 #[.string s] w fun r w' => r = .returned (.bool (fileB s.data.toList)) ∧ Below w.heap.size w w' := by
 have hcv := Lib.run_convert_string_bytes (P := Tryz.prog) w 9 114 5 s Tryz.underlying9 Tryz.underlying114 Tryz.underlying5
 have hcell := Lib.bytesWorld_cell w 5 s
 have hbl := below_bytes w 5 s
 have hsz := Lib.bytesWorld_size w 5 s
 generalize Lib.bytesWorld w 5 s = W at hcv hcell hbl hsz
 have HBL := hd_ hbl
 have HCELL := hd_ hcell
 have HSZ := hd_ hsz
 clear hcell hsz hbl
 generalize hR : fileB s.data.toList = R
 have HR := hd_ hR
 clear hR
 go_enter Tryz.func171, Tryz.ntmps171
 go_wp2_with fail
 clear hcv
 go_loop [8] (fun i => ∃ (j : Nat), j ≤ s.size ∧ i = .int .i64 j ∧ Hid ((s.data.toList.take j).all fileC = true)) (fun i => s.size - (intOf i).toNat)
 case atStart => exact ⟨0, by omega, rfl, (rfl : _ = _)⟩
 case round =>
  obtain ⟨j, hj, rfl, HS⟩ := hrel
  by_cases hlt : j < s.size
  · obtain ⟨c, hidx, htk, hsp, hget⟩ := byteA hlt
    have c0 := HCELL.out j hlt
    rw [List.getD_eq_getElem?_getD, hget, Option.getD_some] at c0
    have c1 : W.cell? ⟨w.heap.size, 0 + j, none⟩ = some (.int .u8 c.toNat) := by rw [Nat.zero_add]; exact c0
    clear hidx hget
    have HTK := hd_ htk
    have HSP := hd_ hsp
    have hltI : (j : Int) < s.size := by omega
    have hcs := fileC_cases c
    obtain ⟨m, hm⟩ : ∃ m : Int, (c.toNat : Int) = m := ⟨_, rfl⟩
    rw [hm] at c0 c1
    clear htk hsp
    rcases hcs with ⟨hc, hcl⟩ | ⟨hc, hcl⟩
    · have hnx : (s.data.toList.take (j + 1)).all fileC = true := by rw [HTK.out, all_app1, HS.out, hc]; rfl
      have HNX := hd_ hnx
      clear hc hnx
      rcases hcl with hcl | hcl | hcl | hcl
      · have a1 : ¬ m < 97 := by omega
        have a2 : ¬ 122 < m := by omega
        clear hcl
        go_wp2_with fail
        go_round
        case rel => exact ⟨j + 1, by omega, by go_num, HNX⟩
        case measure => simp [intOf]; omega
      · have a1 : m < 97 := by omega
        have a2 : ¬ m < 48 := by omega
        have a3 : ¬ 57 < m := by omega
        clear hcl
        go_wp2_with fail
        go_round
        case rel => exact ⟨j + 1, by omega, by go_num, HNX⟩
        case measure => simp [intOf]; omega
      · have a1 : m = 46 := by omega
        rw [a1] at hm c0 c1
        clear hcl
        go_wp2_with fail
        go_round
        case rel => exact ⟨j + 1, by omega, by go_num, HNX⟩
        case measure => simp [intOf]; omega
      · have a1 : m = 45 := by omega
        rw [a1] at hm c0 c1
        clear hcl
        go_wp2_with fail
        go_round
        case rel => exact ⟨j + 1, by omega, by go_num, HNX⟩
        case measure => simp [intOf]; omega
    · have hF : R = false := by rw [← HR.out]; exact fileB_bad HSP.out hc
      have HF := hd_ hF
      have b1 : (m != 46) = true := by simp; omega
      have b2 : (m != 45) = true := by simp; omega
      clear hF hc
      rcases hcl with hcl | hcl | hcl | hcl
      · have a1 : m < 97 := by omega
        have a2 : m < 48 := by omega
        clear hcl
        go_wp2_with fail
        go_ret
        exact ⟨by rw [HF.out]; rfl, HBL.out⟩
      · have a1 : m < 97 := by omega
        have a2 : m < 48 := by omega
        clear hcl
        go_wp2_with fail
        go_ret
        exact ⟨by rw [HF.out]; rfl, HBL.out⟩
      · have a1 : m < 97 := by omega
        have a2 : ¬ m < 48 := by omega
        have a3 : 57 < m := by omega
        clear hcl
        go_wp2_with fail
        go_ret
        exact ⟨by rw [HF.out]; rfl, HBL.out⟩
      · have a1 : ¬ m < 97 := by omega
        have a2 : 122 < m := by omega
        have a3 : ¬ m < 48 := by omega
        have a4 : 57 < m := by omega
        clear hcl
        go_wp2_with fail
        go_ret
        exact ⟨by rw [HF.out]; rfl, HBL.out⟩
  · have hjn : j = s.size := by omega
    subst hjn
    have hall := HS.out
    rw [List.take_of_length_le (by simp)] at hall
    have hE : R = (decide (1 ≤ s.size) && decide (s.size ≤ 64)) := by rw [← HR.out]; exact fileB_end hall
    have HE := hd_ hE
    clear hall hE
    by_cases h1 : 1 ≤ s.size
    · have h1I : (1 : Int) ≤ s.size := by omega
      by_cases h64 : s.size ≤ 64
      · have h2I : (s.size : Int) ≤ 64 := by omega
        go_wp2_with fail
        go_ret
        exact ⟨by rw [HE.out, decide_eq_true h1, decide_eq_true h64]; rfl, HBL.out⟩
      · have h2I : ¬ (s.size : Int) ≤ 64 := by omega
        go_wp2_with fail
        go_ret
        exact ⟨by rw [HE.out, decide_eq_false h64, Bool.and_false]; rfl, HBL.out⟩
    · have h1I : ¬ (1 : Int) ≤ s.size := by omega
      go_wp2_with fail
      go_ret
      exact ⟨by rw [HE.out, decide_eq_false h1]; rfl, HBL.out⟩
theorem live1_any (s : ByteArray) (hs : s.size ≤ 140737488355328) (w : World) : Calls Tryz.prog 170 #[.string s] w fun r w' => r = .returned (.bool (!fileB s.data.toList)) ∧ Below w.heap.size w w' := by
 have HM := hd_ (diskMay_any s w hs)
 generalize fileB s.data.toList = b at *
 go_enter Tryz.func170, Tryz.ntmps170
 go_wp2_with fail
 refine HM.out.mono ?_
 rintro r w1 ⟨rfl, hb⟩
 go_wp2_with fail
 go_ret
 exact ⟨rfl, hb⟩
set_option maxRecDepth 100000 in
set_option maxHeartbeats 1600000 in
theorem indexF1_any (s : ByteArray) (hs : s.size ≤ 140737488355328) (g c : Nat) (w : World) (hg : Blk w g #[.string s] 9) :
 Calls Tryz.prog 187 #[.slice (some ⟨g, 0, none⟩) 1 c, .func (Fn.func 170) #[] #[]] w fun r w' => r = .returned (.int .i64 (if fileB s.data.toList then -1 else 0)) ∧ Below w.heap.size w w' := by
 obtain ⟨y0, y1, y2⟩ := blk1c hg
 have HM := hd_ (live1_any s hs w)
 clear hg
 generalize fileB s.data.toList = b at *
 cases b
 all_goals go_enter Tryz.func187, Tryz.ntmps187
 · go_wp2_with fail
   refine wp_loop_rounds 3 ?_
   rw [rounds_succ]
   go_wp2_with fail
   refine HM.out.mono ?_
   rintro r w1 ⟨rfl, hb⟩
   go_wp2_with fail
   go_ret
   exact ⟨rfl, hb⟩
 · go_wp2_with fail
   refine wp_loop_rounds 3 ?_
   rw [rounds_succ]
   go_wp2_with fail
   refine HM.out.mono ?_
   rintro r w1 ⟨rfl, hb⟩
   go_wp2_with fail
   rw [rounds_succ]
   go_wp2_with fail
   go_ret
   exact ⟨rfl, hb⟩
theorem containsF1_any (s : ByteArray) (hs : s.size ≤ 140737488355328) (g c : Nat) (w : World) (hg : Blk w g #[.string s] 9) :
 Calls Tryz.prog 169 #[.slice (some ⟨g, 0, none⟩) 1 c, .func (Fn.func 170) #[] #[]] w fun r w' => r = .returned (.bool (!fileB s.data.toList)) ∧ Below w.heap.size w w' := by
 have HI := hd_ (indexF1_any s hs g c w hg)
 clear hg
 generalize fileB s.data.toList = b at *
 cases b
 all_goals
  go_enter Tryz.func169, Tryz.ntmps169
  go_wp2_with fail
  refine HI.out.mono ?_
  rintro r w1 ⟨rfl, hb⟩
  go_wp2_with fail
  go_ret
  exact ⟨rfl, hb⟩
def dkC (M1 M2 : Nat) (l : Value) (room : Int) : Array Value := #[.map (some M1), .map (some M2), l, .int .i64 room, .int .i64 (-1), .bool false]
theorem blk6 {w : World} {b : Nat} {a0 a1 a2 a3 a4 a5 : Value} {t : TypeId} (h : Blk w b #[a0, a1, a2, a3, a4, a5] t) :
 b < w.heap.size ∧ w.cell? ⟨b, 0, none⟩ = some a0 ∧ w.cell? ⟨b, 1, none⟩ = some a1 ∧ w.cell? ⟨b, 2, none⟩ = some a2 ∧ w.cell? ⟨b, 3, none⟩ = some a3 ∧ w.cell? ⟨b, 4, none⟩ = some a4 ∧ w.cell? ⟨b, 5, none⟩ = some a5 := by
 have h0 := h.cell 0
 have h1 := h.cell 1
 have h2 := h.cell 2
 have h3 := h.cell 3
 have h4 := h.cell 4
 have h5 := h.cell 5
 simp only [List.getElem?_toArray, List.getElem?_cons_zero, List.getElem?_cons_succ] at h0 h1 h2 h3 h4 h5
 exact ⟨h.lt, h0, h1, h2, h3, h4, h5⟩
set_option maxRecDepth 100000 in
set_option maxHeartbeats 1600000 in
theorem live_any (s : ByteArray) (hs : s.size ≤ 140737488355328) (D M1 M2 g c : Nat) (l : Value) (room : Int) (w : World) (hD : Blk w D (dkC M1 M2 l room) 211) (hg : Blk w g #[.string s] 9) :
 Calls Tryz.prog 148 #[.pointer (some ⟨D, 0, none⟩), .slice (some ⟨g, 0, none⟩) 1 c] w fun r w' => r = .returned (.int .i64 (if fileB s.data.toList then 0 else 2)) ∧ Below w.heap.size w w' := by
 have HI := hd_ (containsF1_any s hs g c w hg)
 unfold dkC at hD
 obtain ⟨d9, d0, d1, d2, d3, d4, d5⟩ := blk6 hD
 clear hg hD
 generalize fileB s.data.toList = b at *
 cases b
 all_goals
  go_enter Tryz.func148, Tryz.ntmps148
  go_wp2_with fail
  refine HI.out.mono ?_
  rintro r w1 ⟨rfl, hb⟩
  go_wp2_with fail
  go_ret
  exact ⟨rfl, hb⟩
set_option maxRecDepth 100000 in
theorem burn_any (D M1 M2 : Nat) (l : Value) (room : Int) (w : World) (hD : Blk w D (dkC M1 M2 l room) 211) :
 Calls Tryz.prog 172 #[.pointer (some ⟨D, 0, none⟩)] w fun r w' => r = .returned (.int .i64 0) ∧ w' = w := by
 have hself := fun i v (e : (dkC M1 M2 l room).setIfInBounds i v = dkC M1 M2 l room) => show w.setCell ⟨D, i, none⟩ v = w by
  obtain ⟨w3, rfl, lt⟩ := blk_put hD
  rw [(putBlk_facts (w := w3) 211 lt).2.2, e]
 have h4 := hself 4 (.int .i64 (-1)) rfl
 have hfz := hD.frozen
 unfold dkC at hD
 obtain ⟨d9, d0, d1, d2, d3, d4, d5⟩ := blk6 hD
 clear hself hD
 go_enter Tryz.func172, Tryz.ntmps172
 go_wp2_with fail
 rw [show (-min 2 1 : Int) = -1 by decide, h4]
 go_ret
 exact ⟨rfl, rfl⟩
end Go.Proofs.YtfekohonidggjaaGreatDoor
