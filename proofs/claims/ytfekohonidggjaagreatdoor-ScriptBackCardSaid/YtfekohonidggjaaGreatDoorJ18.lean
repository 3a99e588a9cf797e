/- Several texts in one: see each part's head. -/
import Derived.Maps.OwnSet
import Derived.Test.YtfekohonidggjaaGreatDoorJ17
/- Contracts: the forms of acts, as a map of the call's own. -/
namespace Go.Proofs.YtfekohonidggjaaGreatDoor
open Go.RowKit

/-- How an element of whatever type is held. -/
def RW (v : Value) : Option (DataW Value × List MemPlace) := some (.held v, [])
def lookI (l : List (Int × Value)) (k : Int) : Option Value := (l.find? (·.1 == k)).map (·.2)
def formV (w : List UInt8) (n : Nat) (f : Bool) : Value := .agg #[.string (bsO w), .int .i64 n, .bool f]
def ZF : Value := .agg #[.string ⟨#[]⟩, .int .i64 0, .bool false]
def formsL : List (Int × Value) := formL.map fun x => (x.1, formV x.2.1 x.2.2.1 x.2.2.2)
/-- A map of forms of the call's own: what it has, newest first. -/
def MF (w : World) (M n : Nat) (l : List (Int × Value)) : Prop :=
  ∃ D : DataW Value, w.ownsMap Tryz.prog 5 RW M n D ∧ Maps.IsMap D ∧ ∀ (k : Int) z, D.atKey (.int .u8 k) z = ((lookI l k).map DataW.held).getD z
theorem MF.ext {w w' : World} {M n : Nat} {l : List (Int × Value)} (h : MF w M n l) (hb : Below w.heap.size w w') : MF w' M n l := by
  obtain ⟨D, h1, h2, h3⟩ := h
  exact ⟨D, own_map_below h1 hb, h2, h3⟩
theorem MF.new (w : World) : MF (w.alloc (.map #[] 0)) w.heap.size 0 [] := ⟨.map [], World.ownsMap_made _ _ _ _, Maps.isMap_empty, fun _ _ => rfl⟩
theorem key_u8 {k : Int} (h : 0 ≤ k ∧ k ≤ 255) : keyOf Tryz.prog 5 (.int .u8 k) = some (.int .u8 k) :=
  Maps.keyOf_int_mk Tryz.underlying5 (by simp only [Lit.wf, IntKind.min, IntKind.max, IntKind.signed, IntKind.bits, Bool.and_eq_true, decide_eq_true_eq, Bool.false_eq_true, if_false]; omega)
theorem MF.put {w : World} {M n : Nat} {l : List (Int × Value)} (h : MF w M n l) (hn : n < 1000) (k : Int) (hk : 0 ≤ k ∧ k ≤ 255) (v : Value) :
    ∃ w', (Instr.mapUpdate 131 (.map (some M)) (.int .u8 k) v).run Tryz.prog w = .ok () w' ∧ MF w' M (n + 1) ((k, v) :: l) ∧ w.grownBy w' (some M) := by
  obtain ⟨D, h1, h2, h3⟩ := h
  obtain ⟨w', e, h4, h5⟩ := World.ownsMap.update h1 (Maps.int_keyed Tryz.underlying5) Tryz.underlying131 (by unfold maxLen; omega) (key_u8 hk) (show RW v = some (.held v, []) from rfl)
  refine ⟨w', e, ⟨_, h4, h2.put _ _, fun j z => ?_⟩, h5⟩
  by_cases hj : j = k
  · subst hj
    rw [Maps.atKey_put_same h2 (show WideAt.IsKeyLit (.int .u8 j) from trivial)]
    simp [lookI]
  · rw [Maps.atKey_put_other (fun e => hj (by injection e))]
    rw [h3]
    have : ¬ k = j := fun e => hj e.symm
    simp [lookI, this]
set_option maxRecDepth 100000 in
set_option maxHeartbeats 3200000 in
theorem forms_any (w : World) :
    Calls Tryz.prog 80 #[] w fun r w' => r = .returned (.map (some w.heap.size)) ∧ MF w' w.heap.size 15 formsL.reverse ∧ Below w.heap.size w w' := by
  have hmm := @run_makeMap Tryz.prog
  have h0 := MF.new w
  have b0 : Below w.heap.size w (w.alloc (.map #[] 0)) := (by repeat (first | exact Below.refl _ _ | assumption | refine Below.drew ?_ | refine below_drewN ?_ _ | refine Below.alloc ?_ (by simp <;> omega) _))
  obtain ⟨w1, e1, h1, g1⟩ := MF.put h0 (by omega) 1 (by omega) (.agg #[.string ⟨#[98, 101, 103, 105, 110]⟩, .int .i64 0, .bool false])
  have b1 := b0.grown g1 (by have := b0.size; omega) (fun g hg => by injection hg with hg; omega)
  clear h0 b0 g1
  obtain ⟨w2, e2, h2, g2⟩ := MF.put h1 (by omega) 3 (by omega) (.agg #[.string ⟨#[99, 111, 109, 109, 105, 116]⟩, .int .i64 0, .bool false])
  have b2 := b1.grown g2 (by have := b1.size; omega) (fun g hg => by injection hg with hg; omega)
  clear h1 b1 g2
  obtain ⟨w3, e3, h3, g3⟩ := MF.put h2 (by omega) 4 (by omega) (.agg #[.string ⟨#[97, 98, 111, 114, 116]⟩, .int .i64 0, .bool false])
  have b3 := b2.grown g3 (by have := b2.size; omega) (fun g hg => by injection hg with hg; omega)
  clear h2 b2 g3
  obtain ⟨w4, e4, h4, g4⟩ := MF.put h3 (by omega) 5 (by omega) (.agg #[.string ⟨#[115, 116, 101, 112]⟩, .int .i64 0, .bool false])
  have b4 := b3.grown g4 (by have := b3.size; omega) (fun g hg => by injection hg with hg; omega)
  clear h3 b3 g4
  obtain ⟨w5, e5, h5, g5⟩ := MF.put h4 (by omega) 6 (by omega) (.agg #[.string ⟨#[102, 101, 116, 99, 104]⟩, .int .i64 3, .bool false])
  have b5 := b4.grown g5 (by have := b4.size; omega) (fun g hg => by injection hg with hg; omega)
  clear h4 b4 g5
  obtain ⟨w6, e6, h6, g6⟩ := MF.put h5 (by omega) 7 (by omega) (.agg #[.string ⟨#[112, 117, 98, 108, 105, 115, 104]⟩, .int .i64 0, .bool false])
  have b6 := b5.grown g6 (by have := b5.size; omega) (fun g hg => by injection hg with hg; omega)
  clear h5 b5 g6
  obtain ⟨w7, e7, h7, g7⟩ := MF.put h6 (by omega) 8 (by omega) (.agg #[.string ⟨#[116, 101, 108, 108]⟩, .int .i64 0, .bool false])
  have b7 := b6.grown g7 (by have := b6.size; omega) (fun g hg => by injection hg with hg; omega)
  clear h6 b6 g7
  obtain ⟨w8, e8, h8, g8⟩ := MF.put h7 (by omega) 9 (by omega) (.agg #[.string ⟨#[114, 101, 116, 97, 105, 110]⟩, .int .i64 1, .bool false])
  have b8 := b7.grown g8 (by have := b7.size; omega) (fun g hg => by injection hg with hg; omega)
  clear h7 b7 g8
  obtain ⟨w9, e9, h9, g9⟩ := MF.put h8 (by omega) 10 (by omega) (.agg #[.string ⟨#[102, 108, 117, 115, 104]⟩, .int .i64 0, .bool false])
  have b9 := b8.grown g9 (by have := b8.size; omega) (fun g hg => by injection hg with hg; omega)
  clear h8 b8 g9
  obtain ⟨w10, e10, h10, g10⟩ := MF.put h9 (by omega) 11 (by omega) (.agg #[.string ⟨#[99, 111, 109, 112, 97, 99, 116]⟩, .int .i64 0, .bool false])
  have b10 := b9.grown g10 (by have := b9.size; omega) (fun g hg => by injection hg with hg; omega)
  clear h9 b9 g10
  obtain ⟨w11, e11, h11, g11⟩ := MF.put h10 (by omega) 12 (by omega) (.agg #[.string ⟨#[102, 117, 115, 101]⟩, .int .i64 2, .bool false])
  have b11 := b10.grown g11 (by have := b10.size; omega) (fun g hg => by injection hg with hg; omega)
  clear h10 b10 g11
  obtain ⟨w12, e12, h12, g12⟩ := MF.put h11 (by omega) 13 (by omega) (.agg #[.string ⟨#[99, 114, 97, 115, 104]⟩, .int .i64 3, .bool false])
  have b12 := b11.grown g12 (by have := b11.size; omega) (fun g hg => by injection hg with hg; omega)
  clear h11 b11 g12
  obtain ⟨w13, e13, h13, g13⟩ := MF.put h12 (by omega) 14 (by omega) (.agg #[.string ⟨#[102, 108, 105, 112]⟩, .int .i64 3, .bool true])
  have b13 := b12.grown g13 (by have := b12.size; omega) (fun g hg => by injection hg with hg; omega)
  clear h12 b12 g13
  obtain ⟨w14, e14, h14, g14⟩ := MF.put h13 (by omega) 15 (by omega) (.agg #[.string ⟨#[114, 111, 111, 109]⟩, .int .i64 2, .bool false])
  have b14 := b13.grown g14 (by have := b13.size; omega) (fun g hg => by injection hg with hg; omega)
  clear h13 b13 g14
  obtain ⟨w15, e15, h15, g15⟩ := MF.put h14 (by omega) 16 (by omega) (.agg #[.string ⟨#[111, 112, 101, 110]⟩, .int .i64 1, .bool false])
  have b15 := b14.grown g15 (by have := b14.size; omega) (fun g hg => by injection hg with hg; omega)
  clear h14 b14 g15
  have HF := Lib.hid h15
  have HB := Lib.hid b15
  clear h15 b15
  go_enter Tryz.func80, Tryz.ntmps80
  go_wp2_with fail
  go_ret
  exact ⟨rfl, HF.out, HB.out⟩
end Go.Proofs.YtfekohonidggjaaGreatDoor

/- Contracts: which names a file may have: disk.may, the reference's Name. -/
namespace Go.Proofs.YtfekohonidggjaaGreatDoor
open Go.RowKit

theorem all_app1 {l : List UInt8} {c : UInt8} : (l ++ [c]).all fileC = (l.all fileC && fileC c) := by simp
theorem fileB_bad {l a r : List UInt8} {c : UInt8} (h : l = a ++ c :: r) (hc : fileC c = false) : fileB l = false := by
  unfold fileB
  rw [h]
  simp [hc]
theorem fileB_end {s : ByteArray} (h : s.data.toList.all fileC = true) : fileB s.data.toList = (decide (1 ≤ s.size) && decide (s.size ≤ 64)) := by
  unfold fileB
  rw [h, len_data, Bool.true_and]
/-- Where a byte stands: one of four kinds that may be, or none. -/
theorem fileC_cases (c : UInt8) : (fileC c = true ∧ ((97 ≤ c.toNat ∧ c.toNat ≤ 122) ∨ ((48 ≤ c.toNat ∧ c.toNat ≤ 57)) ∨ c.toNat = 46 ∨ c.toNat = 45)) ∨ (fileC c = false ∧ ((c.toNat < 45) ∨ c.toNat = 47 ∨ (57 < c.toNat ∧ c.toNat < 97) ∨ 122 < c.toNat)) := by
  cases h : fileC c
  · right
    refine ⟨rfl, ?_⟩
    unfold fileC at h
    simp only [decide_eq_false_iff_not] at h
    omega
  · left
    refine ⟨rfl, ?_⟩
    unfold fileC at h
    simpa using h
set_option maxRecDepth 100000 in
set_option maxHeartbeats 3200000 in
theorem diskMay_any (s : ByteArray) (w : World) (hs : s.size ≤ 140737488355328) :
    Calls Tryz.prog 171 #[.string s] w fun r w' => r = .returned (.bool (fileB s.data.toList)) ∧ Below w.heap.size w w' := by
  have hcv := Lib.run_convert_string_bytes (P := Tryz.prog) w 9 114 5 s Tryz.underlying9 Tryz.underlying114 Tryz.underlying5
  have hcell := Lib.bytesWorld_cell w 5 s
  have hbl := below_bytes w 5 s
  have hsz := Lib.bytesWorld_size w 5 s
  generalize Lib.bytesWorld w 5 s = W at hcv hcell hbl hsz
  have HBL := Lib.hid hbl
  have HCELL := Lib.hid hcell
  have HSZ := Lib.hid hsz
  clear hcell hsz hbl
  generalize hR : fileB s.data.toList = R
  have HR := Lib.hid hR
  clear hR
  go_enter Tryz.func171, Tryz.ntmps171
  go_wp2_with fail
  clear hcv
  go_loop [8] (fun i => ∃ (j : Nat), j ≤ s.size ∧ i = .int .i64 j ∧ Hid ((s.data.toList.take j).all fileC = true)) (fun i => s.size - (intOf i).toNat)
  case atStart => exact ⟨0, by omega, rfl, (rfl : _ = _)⟩
  case round =>
    obtain ⟨j, hj, rfl, HS⟩ := hrel
    by_cases hlt : j < s.size
    · obtain ⟨c, hidx, htk, hsp, hget⟩ := byteA hlt
      have c0 := HCELL.out j hlt
      rw [List.getD_eq_getElem?_getD, hget, Option.getD_some] at c0
      have c1 : W.cell? ⟨w.heap.size, 0 + j, none⟩ = some (.int .u8 c.toNat) := by rw [Nat.zero_add]; exact c0
      clear hidx hget
      have HTK := Lib.hid htk
      have HSP := Lib.hid hsp
      have hltI : (j : Int) < s.size := by omega
      have hcs := fileC_cases c
      obtain ⟨m, hm⟩ : ∃ m : Int, (c.toNat : Int) = m := ⟨_, rfl⟩
      rw [hm] at c0 c1
      clear htk hsp
      rcases hcs with ⟨hc, hcl⟩ | ⟨hc, hcl⟩
      · have hnx : (s.data.toList.take (j + 1)).all fileC = true := by rw [HTK.out, all_app1, HS.out, hc]; rfl
        have HNX := Lib.hid hnx
        clear hc hnx
        rcases hcl with hcl | hcl | hcl | hcl
        · have a1 : ¬ m < 97 := by omega
          have a2 : ¬ 122 < m := by omega
          clear hcl
          go_wp2_with fail
          go_round
          case rel => exact ⟨j + 1, by omega, by go_num, HNX⟩
          case measure => simp [intOf]; omega
        · have a1 : m < 97 := by omega
          have a2 : ¬ m < 48 := by omega
          have a3 : ¬ 57 < m := by omega
          clear hcl
          go_wp2_with fail
          go_round
          case rel => exact ⟨j + 1, by omega, by go_num, HNX⟩
          case measure => simp [intOf]; omega
        · have a1 : m = 46 := by omega
          rw [a1] at hm c0 c1
          clear hcl
          go_wp2_with fail
          go_round
          case rel => exact ⟨j + 1, by omega, by go_num, HNX⟩
          case measure => simp [intOf]; omega
        · have a1 : m = 45 := by omega
          rw [a1] at hm c0 c1
          clear hcl
          go_wp2_with fail
          go_round
          case rel => exact ⟨j + 1, by omega, by go_num, HNX⟩
          case measure => simp [intOf]; omega
      · have hF : R = false := by rw [← HR.out]; exact fileB_bad HSP.out hc
        have HF := Lib.hid hF
        have b1 : (m != 46) = true := by simp; omega
        have b2 : (m != 45) = true := by simp; omega
        clear hF hc
        rcases hcl with hcl | hcl | hcl | hcl
        · have a1 : m < 97 := by omega
          have a2 : m < 48 := by omega
          clear hcl
          go_wp2_with fail
          go_ret
          exact ⟨by rw [HF.out]; rfl, HBL.out⟩
        · have a1 : m < 97 := by omega
          have a2 : m < 48 := by omega
          clear hcl
          go_wp2_with fail
          go_ret
          exact ⟨by rw [HF.out]; rfl, HBL.out⟩
        · have a1 : m < 97 := by omega
          have a2 : ¬ m < 48 := by omega
          have a3 : 57 < m := by omega
          clear hcl
          go_wp2_with fail
          go_ret
          exact ⟨by rw [HF.out]; rfl, HBL.out⟩
        · have a1 : ¬ m < 97 := by omega
          have a2 : 122 < m := by omega
          have a3 : ¬ m < 48 := by omega
          have a4 : 57 < m := by omega
          clear hcl
          go_wp2_with fail
          go_ret
          exact ⟨by rw [HF.out]; rfl, HBL.out⟩
    · have hjn : j = s.size := by omega
      subst hjn
      have hall := HS.out
      rw [List.take_of_length_le (by simp)] at hall
      have hE : R = (decide (1 ≤ s.size) && decide (s.size ≤ 64)) := by rw [← HR.out]; exact fileB_end hall
      have HE := Lib.hid hE
      clear hall hE
      by_cases h1 : 1 ≤ s.size
      · have h1I : (1 : Int) ≤ s.size := by omega
        by_cases h64 : s.size ≤ 64
        · have h2I : (s.size : Int) ≤ 64 := by omega
          go_wp2_with fail
          go_ret
          exact ⟨by rw [HE.out, decide_eq_true h1, decide_eq_true h64]; rfl, HBL.out⟩
        · have h2I : ¬ (s.size : Int) ≤ 64 := by omega
          go_wp2_with fail
          go_ret
          exact ⟨by rw [HE.out, decide_eq_false h64, Bool.and_false]; rfl, HBL.out⟩
      · have h1I : ¬ (1 : Int) ≤ s.size := by omega
        go_wp2_with fail
        go_ret
        exact ⟨by rw [HE.out, decide_eq_false h1]; rfl, HBL.out⟩
end Go.Proofs.YtfekohonidggjaaGreatDoor

/- Contracts: a new disk takes a file of a name that may be (script.named). -/
namespace Go.Proofs.YtfekohonidggjaaGreatDoor
open Go.RowKit

theorem live1_any (s : ByteArray) (hs : s.size ≤ 140737488355328) (w : World) : Calls Tryz.prog 170 #[.string s] w fun r w' => r = .returned (.bool (!fileB s.data.toList)) ∧ Below w.heap.size w w' := by
  have HM := Lib.hid (diskMay_any s w hs)
  generalize fileB s.data.toList = b at *
  go_enter Tryz.func170, Tryz.ntmps170
  go_wp2_with fail
  refine HM.out.mono ?_
  rintro r w1 ⟨rfl, hb⟩
  go_wp2_with fail
  go_ret
  exact ⟨rfl, hb⟩
set_option maxRecDepth 100000 in
set_option maxHeartbeats 1600000 in
theorem indexF1_any (s : ByteArray) (hs : s.size ≤ 140737488355328) (g c : Nat) (w : World) (hg : Blk w g #[.string s] 9) :
    Calls Tryz.prog 187 #[.slice (some ⟨g, 0, none⟩) 1 c, .func (Fn.func 170) #[] #[]] w fun r w' => r = .returned (.int .i64 (if fileB s.data.toList then -1 else 0)) ∧ Below w.heap.size w w' := by
  obtain ⟨y0, y1, y2⟩ := blk1c hg
  have HM := Lib.hid (live1_any s hs w)
  clear hg
  generalize fileB s.data.toList = b at *
  cases b
  all_goals go_enter Tryz.func187, Tryz.ntmps187
  · go_wp2_with fail
    refine wp_loop_rounds 3 ?_
    rw [rounds_succ]
    go_wp2_with fail
    refine HM.out.mono ?_
    rintro r w1 ⟨rfl, hb⟩
    go_wp2_with fail
    go_ret
    exact ⟨rfl, hb⟩
  · go_wp2_with fail
    refine wp_loop_rounds 3 ?_
    rw [rounds_succ]
    go_wp2_with fail
    refine HM.out.mono ?_
    rintro r w1 ⟨rfl, hb⟩
    go_wp2_with fail
    rw [rounds_succ]
    go_wp2_with fail
    go_ret
    exact ⟨rfl, hb⟩
theorem containsF1_any (s : ByteArray) (hs : s.size ≤ 140737488355328) (g c : Nat) (w : World) (hg : Blk w g #[.string s] 9) :
    Calls Tryz.prog 169 #[.slice (some ⟨g, 0, none⟩) 1 c, .func (Fn.func 170) #[] #[]] w fun r w' => r = .returned (.bool (!fileB s.data.toList)) ∧ Below w.heap.size w w' := by
  have HI := Lib.hid (indexF1_any s hs g c w hg)
  clear hg
  generalize fileB s.data.toList = b at *
  cases b
  all_goals
    go_enter Tryz.func169, Tryz.ntmps169
    go_wp2_with fail
    refine HI.out.mono ?_
    rintro r w1 ⟨rfl, hb⟩
    go_wp2_with fail
    go_ret
    exact ⟨rfl, hb⟩
/-- A disk as it is made: the maps' blocks, no call yet, its room, no fuse. -/
def dkC (M1 M2 : Nat) (l : Value) (room : Int) : Array Value := #[.map (some M1), .map (some M2), l, .int .i64 room, .int .i64 (-1), .bool false]
theorem blk6 {w : World} {b : Nat} {a0 a1 a2 a3 a4 a5 : Value} {t : TypeId} (h : Blk w b #[a0, a1, a2, a3, a4, a5] t) :
    b < w.heap.size ∧ w.cell? ⟨b, 0, none⟩ = some a0 ∧ w.cell? ⟨b, 1, none⟩ = some a1 ∧ w.cell? ⟨b, 2, none⟩ = some a2 ∧ w.cell? ⟨b, 3, none⟩ = some a3 ∧ w.cell? ⟨b, 4, none⟩ = some a4 ∧ w.cell? ⟨b, 5, none⟩ = some a5 := by
  have h0 := h.cell 0
  have h1 := h.cell 1
  have h2 := h.cell 2
  have h3 := h.cell 3
  have h4 := h.cell 4
  have h5 := h.cell 5
  simp only [List.getElem?_toArray, List.getElem?_cons_zero, List.getElem?_cons_succ] at h0 h1 h2 h3 h4 h5
  exact ⟨h.lt, h0, h1, h2, h3, h4, h5⟩
set_option maxRecDepth 100000 in
set_option maxHeartbeats 1600000 in
theorem live_any (s : ByteArray) (hs : s.size ≤ 140737488355328) (D M1 M2 g c : Nat) (l : Value) (room : Int) (w : World) (hD : Blk w D (dkC M1 M2 l room) 211) (hg : Blk w g #[.string s] 9) :
    Calls Tryz.prog 148 #[.pointer (some ⟨D, 0, none⟩), .slice (some ⟨g, 0, none⟩) 1 c] w fun r w' => r = .returned (.int .i64 (if fileB s.data.toList then 0 else 2)) ∧ Below w.heap.size w w' := by
  have HI := Lib.hid (containsF1_any s hs g c w hg)
  unfold dkC at hD
  obtain ⟨d9, d0, d1, d2, d3, d4, d5⟩ := blk6 hD
  clear hg hD
  generalize fileB s.data.toList = b at *
  cases b
  all_goals
    go_enter Tryz.func148, Tryz.ntmps148
    go_wp2_with fail
    refine HI.out.mono ?_
    rintro r w1 ⟨rfl, hb⟩
    go_wp2_with fail
    go_ret
    exact ⟨rfl, hb⟩
set_option maxRecDepth 100000 in
theorem burn_any (D M1 M2 : Nat) (l : Value) (room : Int) (w : World) (hD : Blk w D (dkC M1 M2 l room) 211) :
    Calls Tryz.prog 172 #[.pointer (some ⟨D, 0, none⟩)] w fun r w' => r = .returned (.int .i64 0) ∧ w' = w := by
  have hself := fun i v (e : (dkC M1 M2 l room).setIfInBounds i v = dkC M1 M2 l room) => show w.setCell ⟨D, i, none⟩ v = w by
    obtain ⟨w3, rfl, lt⟩ := blk_put hD
    rw [(putBlk_facts (w := w3) 211 lt).2.2, e]
  have h4 := hself 4 (.int .i64 (-1)) rfl
  have hfz := hD.frozen
  unfold dkC at hD
  obtain ⟨d9, d0, d1, d2, d3, d4, d5⟩ := blk6 hD
  clear hself hD
  go_enter Tryz.func172, Tryz.ntmps172
  go_wp2_with fail
  rw [show (-min 2 1 : Int) = -1 by decide, h4]
  go_ret
  exact ⟨rfl, rfl⟩
end Go.Proofs.YtfekohonidggjaaGreatDoor

/- Contracts: script.named. -/
namespace Go.Proofs.YtfekohonidggjaaGreatDoor
open Go.RowKit

theorem zero_file (w : World) : (zeroValue 215).run Tryz.prog w = .ok (.agg #[.string ⟨#[]⟩]) w := by kernel_rfl
theorem file_text (t : ByteArray) (w : World) : (Instr.field 215 (.agg #[.string t]) 0).run Tryz.prog w = .ok (.string t) w := by kernel_rfl
theorem key_str (s : ByteArray) (hs : s.size ≤ 140737488355328) : keyOf Tryz.prog 9 (.string s) = some (.string s.data.toList) := WideMaps.keyOf_string_mk Tryz.underlying9 (by unfold maxLen; omega)
def MN (w : World) (M : Nat) : Prop := w.ownsMap Tryz.prog 9 RW M 0 (.map [])
theorem file_look {w : World} {M : Nat} (s : ByteArray) (hs : s.size ≤ 140737488355328) (h : MN w M) : (Instr.lookup 208 (.map (some M)) (.string s) false).run Tryz.prog w = .ok (.agg #[.string ⟨#[]⟩]) w := by
  obtain ⟨u, ps, hrun, hu⟩ := World.ownsMap.lookup h (Maps.string_keyed Tryz.underlying9) Tryz.underlying208 (zero_file w) (zd := .held (.agg #[.string ⟨#[]⟩])) (zp := []) rfl (key_str s hs)
  rw [show (DataW.map (H := Value) []).atKey (Lit.string s.data.toList) (DataW.held (Value.agg #[Value.string ⟨#[]⟩])) = DataW.held (Value.agg #[Value.string ⟨#[]⟩]) from rfl] at hu
  unfold RW at hu
  simp only [Option.some.injEq, Prod.mk.injEq, DataW.held.injEq] at hu
  have this := hu.1
  rw [this] at hrun
  exact hrun
theorem file_put {w : World} {M : Nat} (s : ByteArray) (hs : s.size ≤ 140737488355328) (h : MN w M) (v : Value) : ∃ w', (Instr.mapUpdate 208 (.map (some M)) (.string s) v).run Tryz.prog w = .ok () w' ∧ w.grownBy w' (some M) := by
  obtain ⟨w', e, _, g⟩ := World.ownsMap.update h (Maps.string_keyed Tryz.underlying9) Tryz.underlying208 (by unfold maxLen; omega) (key_str s hs) (show RW v = some (.held v, []) from rfl)
  exact ⟨w', e, g⟩
set_option maxRecDepth 100000 in
set_option maxHeartbeats 1600000 in
theorem lay_any (s : ByteArray) (hs : s.size ≤ 140737488355328) (a b M : Nat) (w : World) (ha : Blk w a #[.string s] 9) (hb : Blk w b #[.string ⟨#[]⟩] 9) (hM : MN w M) :
    Calls Tryz.prog 150 #[.map (some M), .int .i64 0, .pointer (some ⟨a, 0, none⟩), .pointer (some ⟨b, 0, none⟩)] w fun r w' => r = .returned (.tuple #[]) ∧ w.grownBy w' (some M) := by
  have hMd : MN w.drew M := World.ownsMap.drew hM
  have hlk := file_look s hs hMd
  obtain ⟨w', hup, hg⟩ := file_put s hs hMd (.agg #[.string ⟨#[]⟩])
  obtain ⟨y0, y1, y2⟩ := blk1c ha
  obtain ⟨z0, z1, z2⟩ := blk1c hb
  have HG := Lib.hid hg
  have hfd := file_text ⟨#[]⟩
  clear ha hb hM hMd hg
  go_enter Tryz.func150, Tryz.ntmps150
  go_wp2_with fail
  go_region
  go_wp2_with fail
  go_end0
  exact ⟨rfl, only_trans (only_below (Below.drew (Below.refl _ _)) _) HG.out⟩
set_option maxRecDepth 100000 in
set_option maxHeartbeats 1600000 in
theorem lay2_any {T : TypeId} (s : ByteArray) (hs : s.size ≤ 140737488355328) (a b f M : Nat) (w : World) (ha : Blk w a #[.string s] 9) (hb : Blk w b #[.string ⟨#[]⟩] 9) (hf : Blk w f #[.func (Fn.func 150) #[] #[.pointer (some ⟨a, 0, none⟩), .pointer (some ⟨b, 0, none⟩)]] T) (hM : MN w M) :
    Calls Tryz.prog 152 #[.map (some M), .pointer (some ⟨f, 0, none⟩), .pointer (some ⟨b, 0, none⟩)] w fun r w' => r = .returned (.tuple #[]) ∧ w.grownBy w' (some M) := by
  have HL := Lib.hid (lay_any s hs a b M w ha hb hM)
  obtain ⟨z0, z1, z2⟩ := blk1c hb
  obtain ⟨f0, f1, f2⟩ := blk1c hf
  clear ha hb hM hf
  go_enter Tryz.func152, Tryz.ntmps152
  go_wp2_with fail
  refine HL.out.mono ?_
  rintro r w1 ⟨rfl, hg⟩
  go_wp2_with fail
  go_end0
  exact ⟨rfl, hg⟩
end Go.Proofs.YtfekohonidggjaaGreatDoor
