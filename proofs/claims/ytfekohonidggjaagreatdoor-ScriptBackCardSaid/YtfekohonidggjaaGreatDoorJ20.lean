/- Several texts in one: see each part's head. -/
import Derived.Test.YtfekohonidggjaaGreatDoorJ14
import Derived.Test.YtfekohonidggjaaGreatDoorJ13
import Derived.Test.YtfekohonidggjaaGreatDoorJ19
/- Acts in memory; two alike. -/
namespace Go.Proofs.YtfekohonidggjaaGreatDoor
open Go.RowKit

def Ac.agg (a : Ac) (A : Option Addr) (c : Nat) : Value := .agg #[.int .u8 a.d, .int .u8 a.k, .int .i64 a.tb, .slice A a.row.length c, .int .i64 a.n, .int .i64 a.m, .int .i64 a.q, .string a.nm]
/-- An act, and where its row lies. -/
structure Am where
  a : Ac
  A : Option Addr
  c : Nat
def Am.cells (x : Am) : List Value := [.int .u8 x.a.d, .int .u8 x.a.k, .int .i64 x.a.tb, .slice x.A x.a.row.length x.c, .int .i64 x.a.n, .int .i64 x.a.m, .int .i64 x.a.q, .string x.a.nm]
def AmRow (w : World) (A : Option Addr) (l : List Am) : Prop :=
  (∀ x ∈ l, x.a.wf ∧ VRow w x.A x.a.row) ∧ l.length ≤ 1599289640401 ∧ (l ≠ [] → ∃ b off, A = some ⟨b, off, none⟩ ∧ b < w.heap.size ∧ ∀ i x, l[i]? = some x → ∀ j, j < 8 → w.cell? ⟨b, off + (i * 8 + j), none⟩ = x.cells[j]?)
theorem AmRow.ext {w w' : World} {A : Option Addr} {l : List Am} (h : AmRow w A l) (hb : Below w.heap.size w w') : AmRow w' A l := by
  refine ⟨fun x hx => ⟨(h.1 x hx).1, (h.1 x hx).2.ext hb⟩, h.2.1, fun hl => ?_⟩
  obtain ⟨b, off, rfl, hlt, hc⟩ := h.2.2 hl
  exact ⟨b, off, rfl, Nat.lt_of_lt_of_le hlt hb.size, fun i v hi j hj => (hb.cell (p := ⟨b, _, none⟩) hlt).trans (hc i v hi j hj)⟩
theorem AmRow.at_ {w : World} {A : Option Addr} {l : List Am} (h : AmRow w A l) {k : Nat} (hk : k < l.length) :
    ∃ (b off : Nat) (x : Am), A = some ⟨b, off, none⟩ ∧ b < w.heap.size ∧ l[k]? = some x ∧ x ∈ l ∧ x.a.wf ∧ VRow w x.A x.a.row ∧
      w.cell? ⟨b, off + k * 8, none⟩ = some (.int .u8 x.a.d) ∧ w.cell? ⟨b, off + k * 8 + 1, none⟩ = some (.int .u8 x.a.k) ∧ w.cell? ⟨b, off + k * 8 + 2, none⟩ = some (.int .i64 x.a.tb) ∧ w.cell? ⟨b, off + k * 8 + 3, none⟩ = some (.slice x.A x.a.row.length x.c) ∧ w.cell? ⟨b, off + k * 8 + 4, none⟩ = some (.int .i64 x.a.n) ∧ w.cell? ⟨b, off + k * 8 + 5, none⟩ = some (.int .i64 x.a.m) ∧ w.cell? ⟨b, off + k * 8 + 6, none⟩ = some (.int .i64 x.a.q) ∧ w.cell? ⟨b, off + k * 8 + 7, none⟩ = some (.string x.a.nm) := by
  obtain ⟨b, off, rfl, hlt, hc⟩ := h.2.2 (by intro e; simp [e] at hk)
  have hv := List.getElem?_eq_getElem hk
  have hm := h.1 _ (List.getElem_mem hk)
  have hh := hc k _ hv
  exact ⟨b, off, l[k], rfl, hlt, hv, List.getElem_mem hk, hm.1, hm.2, hh 0 (by omega), hh 1 (by omega), hh 2 (by omega), hh 3 (by omega), hh 4 (by omega), hh 5 (by omega), hh 6 (by omega), hh 7 (by omega)⟩
theorem blkA {w : World} {b : Nat} {d k tb : Int} {A : Option Addr} {l c : Nat} {n m q : Int} {nm : ByteArray} {t : TypeId} (h : Blk w b #[.int .u8 d, .int .u8 k, .int .i64 tb, .slice A l c, .int .i64 n, .int .i64 m, .int .i64 q, .string nm] t) :
    b < w.heap.size ∧ w.cell? ⟨b, 0, none⟩ = some (.int .u8 d) ∧ w.cell? ⟨b, 1, none⟩ = some (.int .u8 k) ∧ w.cell? ⟨b, 2, none⟩ = some (.int .i64 tb) ∧ w.cell? ⟨b, 3, none⟩ = some (.slice A l c) ∧ w.cell? ⟨b, 4, none⟩ = some (.int .i64 n) ∧ w.cell? ⟨b, 5, none⟩ = some (.int .i64 m) ∧ w.cell? ⟨b, 6, none⟩ = some (.int .i64 q) ∧ w.cell? ⟨b, 7, none⟩ = some (.string nm) := by
  have e0 := h.cell 0
  have e1 := h.cell 1
  have e2 := h.cell 2
  have e3 := h.cell 3
  have e4 := h.cell 4
  have e5 := h.cell 5
  have e6 := h.cell 6
  have e7 := h.cell 7
  simp only [List.getElem?_toArray, List.getElem?_cons_zero, List.getElem?_cons_succ] at e0 e1 e2 e3 e4 e5 e6 e7
  exact ⟨h.lt, e0, e1, e2, e3, e4, e5, e6, e7⟩
set_option maxRecDepth 100000 in
set_option maxHeartbeats 1600000 in
theorem same1_yes (a : Ac) (A B : Option Addr) (c e : Nat) (w : World) (hr : VRow w A a.row) (hs : VRow w B a.row) :
    Calls Tryz.prog 23 #[a.agg A c, a.agg B e] w fun r w' => r = .returned (.bool true) ∧ Below w.heap.size w w' := by
  have HS := Lib.hid (fun (W : World) (hW : Below w.heap.size w W) => same_any a.row a.row A B c e W (hr.ext hW) (hs.ext hW))
  simp only [decide_true] at HS
  clear hr hs
  obtain ⟨d, k, tb, row, n, m, q, nm⟩ := a
  unfold Ac.agg
  simp only at HS ⊢
  go_enter Tryz.func23, Tryz.ntmps23
  go_wp2_with fail
  refine (HS.out _ (by repeat (first | exact Below.refl _ _ | assumption | refine Below.drew ?_ | refine below_drewN ?_ _ | refine Below.alloc ?_ (by simp <;> omega) _))).mono ?_
  rintro r w1 ⟨rfl, hb⟩
  go_wp2_with fail
  go_ret
  exact ⟨rfl, ((by repeat (first | exact Below.refl _ _ | assumption | refine Below.drew ?_ | refine below_drewN ?_ _ | refine Below.alloc ?_ (by simp <;> omega) _)) : Below w.heap.size w ((w.alloc (.cells #[.int .u8 d, .int .u8 k, .int .i64 tb, .slice A row.length c, .int .i64 n, .int .i64 m, .int .i64 q, .string nm] 42)).alloc (.cells #[.int .u8 d, .int .u8 k, .int .i64 tb, .slice B row.length e, .int .i64 n, .int .i64 m, .int .i64 q, .string nm] 42))).trans (hb.mono (by simp; omega))⟩
end Go.Proofs.YtfekohonidggjaaGreatDoor

/- Contracts: script.tell of an op. -/
namespace Go.Proofs.YtfekohonidggjaaGreatDoor
open Go.RowKit

def TellP (o : Option (List (List UInt8))) (B : Nat) (r : Ending) (w' : World) : Prop := match o with
  | some ws => ∃ lv, r = .returned lv ∧ w'.ownsRow B 9 1 lv ws.length (wsC ws)
  | none => r = gaveW
/-- What an op must have ahead of its values. -/
def opPre (a : Ac) : Prop := (1 ≤ a.k ∧ a.k ≤ 3) ∧ a.row.length ≤ 8 ∧ a.n = 0 ∧ a.m = 0 ∧ a.q = 0 ∧ a.nm.size = 0
theorem opB_pre {a : Ac} : opB a = true ↔ (opPre a ∧ a.row.all mayB = true) := by
  unfold opB opPre
  simp only [Bool.and_eq_true, decide_eq_true_eq]
  constructor
  · rintro ⟨h1, h2, ⟨h3, h4, h5⟩, h6, h7⟩; exact ⟨⟨h1, h2, h3, h4, h5, h6⟩, h7⟩
  · rintro ⟨⟨h1, h2, h3, h4, h5, h6⟩, h7⟩; exact ⟨h1, h2, ⟨h3, h4, h5⟩, h6, h7⟩
theorem actW_op {a : Ac} (hd : a.d = 2) : actW a = if opB a then some (opW a.k :: Lib.itoa a.tb :: a.row.map valW) else none := by
  unfold actW; rw [if_pos hd]
theorem actW_pre {a : Ac} (hd : a.d = 2) (h : ¬ opPre a) : actW a = none := by
  rw [actW_op hd, if_neg]
  intro e
  exact h (opB_pre.1 e).1
set_option maxRecDepth 100000 in
set_option maxHeartbeats 3200000 in
theorem tell_pre (a : Ac) (hd : a.d = 2) (hn : ¬ opPre a) (A : Option Addr) (c : Nat) (w : World) :
    Calls Tryz.prog 40 #[a.agg A c] w fun r w' => TellP (actW a) w.heap.size r w' ∧ Below w.heap.size w w' := by
  have hN := actW_pre hd hn
  obtain ⟨d, k, tb, row, n, m, q, nm⟩ := a
  generalize actW ⟨d, k, tb, row, n, m, q, nm⟩ = O at hN
  have HN := Lib.hid hN
  simp only at hd
  subst hd
  unfold opPre at hn
  simp only at hn
  unfold Ac.agg
  simp only
  clear hN
  by_cases k1 : 1 ≤ k
  · by_cases k3 : k ≤ 3
    · by_cases hl : row.length ≤ 8
      · have hlI : (row.length : Int) ≤ 8 := by omega
        by_cases h1 : n = 0
        · subst h1
          by_cases h2 : m = 0
          · subst h2
            by_cases h3 : q = 0
            · subst h3
              by_cases h4 : nm.size = 0
              · exact absurd ⟨⟨k1, k3⟩, hl, rfl, rfl, rfl, h4⟩ hn
              · have hem := txt_empty (t := nm)
                rw [decide_eq_false h4] at hem
                clear hn
                go_enter Tryz.func40, Tryz.ntmps40
                go_wp2_with fail
                refine (need_no _).mono ?_
                rintro r w2 ⟨rfl, rfl⟩
                unfold gaveW
                go_wp2_with fail
                exact ⟨rfl, by rw [HN.out]; rfl, (by repeat (first | exact Below.refl _ _ | assumption | refine Below.drew ?_ | refine below_drewN ?_ _ | refine Below.alloc ?_ (by simp <;> omega) _))⟩
            · have hb : (q == 0) = false := by simpa using h3
              clear hn
              go_enter Tryz.func40, Tryz.ntmps40
              go_wp2_with fail
              refine (need_no _).mono ?_
              rintro r w2 ⟨rfl, rfl⟩
              unfold gaveW
              go_wp2_with fail
              exact ⟨rfl, by rw [HN.out]; rfl, (by repeat (first | exact Below.refl _ _ | assumption | refine Below.drew ?_ | refine below_drewN ?_ _ | refine Below.alloc ?_ (by simp <;> omega) _))⟩
          · have hb : (m == 0) = false := by simpa using h2
            clear hn
            go_enter Tryz.func40, Tryz.ntmps40
            go_wp2_with fail
            refine (need_no _).mono ?_
            rintro r w2 ⟨rfl, rfl⟩
            unfold gaveW
            go_wp2_with fail
            exact ⟨rfl, by rw [HN.out]; rfl, (by repeat (first | exact Below.refl _ _ | assumption | refine Below.drew ?_ | refine below_drewN ?_ _ | refine Below.alloc ?_ (by simp <;> omega) _))⟩
        · have hb : (n == 0) = false := by simpa using h1
          clear hn
          go_enter Tryz.func40, Tryz.ntmps40
          go_wp2_with fail
          refine (need_no _).mono ?_
          rintro r w2 ⟨rfl, rfl⟩
          unfold gaveW
          go_wp2_with fail
          exact ⟨rfl, by rw [HN.out]; rfl, (by repeat (first | exact Below.refl _ _ | assumption | refine Below.drew ?_ | refine below_drewN ?_ _ | refine Below.alloc ?_ (by simp <;> omega) _))⟩
      · have hlI : ¬ (row.length : Int) ≤ 8 := by omega
        clear hn
        go_enter Tryz.func40, Tryz.ntmps40
        go_wp2_with fail
        refine (need_no _).mono ?_
        rintro r w2 ⟨rfl, rfl⟩
        unfold gaveW
        go_wp2_with fail
        exact ⟨rfl, by rw [HN.out]; rfl, (by repeat (first | exact Below.refl _ _ | assumption | refine Below.drew ?_ | refine below_drewN ?_ _ | refine Below.alloc ?_ (by simp <;> omega) _))⟩
    · clear hn
      go_enter Tryz.func40, Tryz.ntmps40
      go_wp2_with fail
      refine (need_no _).mono ?_
      rintro r w2 ⟨rfl, rfl⟩
      unfold gaveW
      go_wp2_with fail
      exact ⟨rfl, by rw [HN.out]; rfl, (by repeat (first | exact Below.refl _ _ | assumption | refine Below.drew ?_ | refine below_drewN ?_ _ | refine Below.alloc ?_ (by simp <;> omega) _))⟩
  · clear hn
    go_enter Tryz.func40, Tryz.ntmps40
    go_wp2_with fail
    refine (need_no _).mono ?_
    rintro r w2 ⟨rfl, rfl⟩
    unfold gaveW
    go_wp2_with fail
    exact ⟨rfl, by rw [HN.out]; rfl, (by repeat (first | exact Below.refl _ _ | assumption | refine Below.drew ?_ | refine below_drewN ?_ _ | refine Below.alloc ?_ (by simp <;> omega) _))⟩
end Go.Proofs.YtfekohonidggjaaGreatDoor

/- Contracts: script.tell of an op. -/
namespace Go.Proofs.YtfekohonidggjaaGreatDoor
open Go.RowKit

theorem own_new (w : World) (B : Nat) (ws : List (List UInt8)) (hB : B ≤ w.heap.size) (hl : ws.length ≤ 1000000) : (w.alloc (.cells (wsC ws).toArray 9)).ownsRow B 9 1 (.slice (some ⟨w.heap.size, 0, none⟩) ws.length ws.length) ws.length (wsC ws) := by
  refine ⟨by simp [wsC], Or.inr ⟨w.heap.size, ws.length, (wsC ws).toArray, rfl, hB, ?_, Nat.le_refl _, by unfold maxLen; omega, by simp [wsC], List.take_of_length_le (by simp [wsC])⟩⟩
  exact Blk.new w _ _
/-- Words in a slice of the call's own. -/
def kRow (B : Nat) (ws : List (List UInt8)) : Known := .mem (fun v w => w.ownsRow B 9 1 v ws.length (wsC ws)) (fun _ _ _ h hb => own_ext h hb)
def opsC : Array Value := #[.string ⟨#[]⟩, .string (bsO tOp1), .string (bsO tOp2), .string (bsO tOp3)]
def kOpsAt (k : Int) : Known := .mem (fun v w => ∃ g, v = .pointer (some ⟨g, k.toNat, none⟩) ∧ Blk w g opsC 9) (fun _ _ _ ⟨g, h1, h2⟩ hb => ⟨g, h1, h2.ext hb⟩)
theorem ops_cell {w : World} {g : Nat} {k : Int} (h : Blk w g opsC 9) (hk : 1 ≤ k ∧ k ≤ 3) : w.cell? ⟨g, k.toNat, none⟩ = some (.string (bsO (opW k))) := by
  rw [h.cell]
  have : k = 1 ∨ k = 2 ∨ k = 3 := by omega
  rcases this with rfl | rfl | rfl <;> rfl
theorem blkV {w : World} {b : Nat} {k n r : Int} {s : ByteArray} {t : TypeId} (h : Blk w b #[.int .u8 k, .int .i64 n, .int .u64 r, .string s] t) :
    b < w.heap.size ∧ w.cell? ⟨b, 0, none⟩ = some (.int .u8 k) ∧ w.cell? ⟨b, 1, none⟩ = some (.int .i64 n) ∧ w.cell? ⟨b, 2, none⟩ = some (.int .u64 r) ∧ w.cell? ⟨b, 3, none⟩ = some (.string s) := by
  have e0 := h.cell 0
  have e1 := h.cell 1
  have e2 := h.cell 2
  have e3 := h.cell 3
  simp only [List.getElem?_toArray, List.getElem?_cons_zero, List.getElem?_cons_succ] at e0 e1 e2 e3
  exact ⟨h.lt, e0, e1, e2, e3⟩
theorem wsC_app (a b : List (List UInt8)) : wsC (a ++ b) = wsC a ++ wsC b := by simp [wsC]
set_option maxRecDepth 100000 in
set_option maxHeartbeats 6400000 in
theorem tell_op (a : Ac) (hw : a.wf) (hd : a.d = 2) (hp : opPre a) (A : Option Addr) (c : Nat) (w : World) (hr : VRow w A a.row) (hL : LayS w) :
    Calls Tryz.prog 40 #[a.agg A c] w fun r w' => TellP (actW a) w.heap.size r w' ∧ Below w.heap.size w w' := by
  have hO := actW_op hd
  have hB : opB a = a.row.all mayB := by
    cases h : a.row.all mayB
    · exact Bool.eq_false_iff.2 fun e => by rw [(opB_pre.1 e).2] at h; cases h
    · exact opB_pre.2 ⟨hp, h⟩
  rw [hB] at hO
  obtain ⟨d, k, tb, row, n, m, q, nm⟩ := a
  obtain ⟨⟨k1, k3⟩, hl8, h1, h2, h3, h4⟩ := hp
  obtain ⟨_, _, htb, _, _⟩ := hw
  simp only at hd k1 k3 hl8 h1 h2 h3 h4 htb hr hO
  subst hd h1 h2 h3
  obtain rfl := empty_of_size h4
  clear h4 hB
  unfold Ac.agg
  simp only
  generalize actW ⟨2, k, tb, row, 0, 0, 0, ByteArray.empty⟩ = O at hO ⊢
  have HO := Lib.hid hO
  have HOP := Lib.hid (fun W : World => ops_any W)
  have HNU := Lib.hid (fun (W : World) (hW : Below w.heap.size w W) => number_any tb htb W (hL.ext hW))
  have HCK := Lib.hid (fun (v : V) (hv : v.wf) (W : World) (hW : Below w.heap.size w W) => check_any v hv W (hL.ext hW).tabs)
  have HVL := Lib.hid (fun (v : V) (hv : v.wf) (W : World) (hW : Below w.heap.size w W) => valueT_any v hv W (hL.ext hW))
  have HVR := Lib.hid hr
  obtain ⟨i0, hi0, hz0, hz1, hz2⟩ := info_parts info_txt
  have HKK : Hid (1 ≤ k ∧ k ≤ 3) := ⟨k1, k3⟩
  have hlI : (row.length : Int) ≤ 8 := by omega
  clear hO hL hr htb
  go_enter Tryz.func40, Tryz.ntmps40
  go_wp2_with fail
  refine (need_yes _).mono ?_
  rintro r w1 ⟨rfl, rfl⟩
  go_upto_region 3 with fail
  have hBk := Blk.new w #[.int .u8 2, .int .u8 k, .int .i64 tb, .slice A row.length c, .int .i64 0, .int .i64 0, .int .i64 0, .string ByteArray.empty] 42
  have hBw : Below w.heap.size w (w.alloc (.cells #[.int .u8 2, .int .u8 k, .int .i64 tb, .slice A row.length c, .int .i64 0, .int .i64 0, .int .i64 0, .string ByteArray.empty] 42)) := (by repeat (first | exact Below.refl _ _ | assumption | refine Below.drew ?_ | refine below_drewN ?_ _ | refine Below.alloc ?_ (by simp <;> omega) _))
  generalize w.alloc (.cells #[.int .u8 2, .int .u8 k, .int .i64 tb, .slice A row.length c, .int .i64 0, .int .i64 0, .int .i64 0, .string ByteArray.empty] 42) = w1 at hBk hBw ⊢
  have HBK := Lib.hid hBk
  have HBW := Lib.hid hBw
  clear hBk hBw
  refine region_grow [false, false, false, true, false, false, false, false, false, false, false, false, false, false, false, false, false, false, false, false, false, false, false, false, false, false, false, false, false, false, false, false, false, false, false, false, false, false, false, false, false, false, false, false, false, false, false, false, false, false, false, false, false, true, true, true, true, true, true, true, true, true, true, true, false, false, false, false, false, false, false, false, false, false, false, false, false, false, false, false, false, false, false, false, false, false, false, false, false, false, false, false, false, false, false, false, false, false, false, false, false, false, false, false, false, false, false, false, false, false, false, false, false, false, false, false, false, false, false, false, false, false, false, false, false, false, false, false, false, false, false, false, false, false, false, false, false, false, false, false, false, false, false, false, false, false, false, false, false, false, false, false, false, false, false, false, false, false, false, false, false, false, false, false, false, false, false, false, false] [53, 54, 55, 56, 57, 58, 59, 60, 61, 62, 63, 3] [.new (fun g => .slice (some ⟨g, 0, none⟩) 4 4) opsC 9, .val (.pointer (some ⟨w.heap.size, 1, none⟩)), .val (.pointer (some ⟨w.heap.size, 1, none⟩)), .val (.int .u8 k), kOpsAt k, .val (.string (bsO (opW k))), .val (.pointer (some ⟨w.heap.size, 1, none⟩)), .val (.pointer (some ⟨w.heap.size, 2, none⟩)), .val (.int .i64 tb), .val (.string (bsO (Lib.itoa tb))), kRow w.heap.size [opW k, Lib.itoa tb], kRow w.heap.size [opW k, Lib.itoa tb]] [11] (by kernel_rfl) (by kernel_rfl) (by kernel_rfl) (by kernel_rfl) (by kernel_rfl) ⟨?_, ?_, ?_, ?_, ?_, ?_, ?_, ?_, ?_, ?_, ?_, ?_, trivial⟩ ?done
  case done =>
    intro x w2 hb2
    unfold kRow
    simp only [StepGoal, overlay, upd, cond_true, cond_false, List.getD_cons_zero, List.getD_cons_succ, Nat.zero_add, Nat.reduceAdd, Nat.reduceEqDiff, reduceIte]
    intro v hv
    have hv' : w2.ownsRow w.heap.size 9 1 v (2 + 0) (wsC (opW k :: Lib.itoa tb :: (row.take 0).map valW)) := hv
    have hbw2 := bt HBW.out hb2
    obtain ⟨y0, y1, y2, y3, y4, y5, y6, y7, y8⟩ := blkA (HBK.out.ext hb2)
    have HC : Hid ((row.take 0).all mayB = true) := rfl
    clear hv hb2 y0 y1 y2 y5 y6 y7 y8
    go_wp2_with fail
    go_loopw [3, 68] (fun lv i wr => ∃ j : Nat, j ≤ row.length ∧ i = .int .i64 j ∧ Hid ((row.take j).all mayB = true) ∧ wr.ownsRow w.heap.size 9 1 lv (2 + j) (wsC (opW k :: Lib.itoa tb :: (row.take j).map valW)) ∧ Below w.heap.size w wr) (fun _ i _ => row.length - (intOf i).toNat)
    case atStart => exact ⟨0, by omega, rfl, HC, hv', hbw2⟩
    case round =>
      obtain ⟨j, hj, rfl, HJ, hown, hbw⟩ := hrel
      clear hv' hbw2
      by_cases hlt : j < row.length
      · obtain ⟨b, off, v, rfl, hb, hlk, hmem, hwf, c0, c1, c2, c3⟩ := (HVR.out.ext hbw).at_ hlt
        have HLK := Lib.hid hlk
        have HCV := Lib.hid (HCK.out v hwf)
        have HVV := Lib.hid (HVL.out v hwf)
        have htk : row.take (j + 1) = row.take j ++ [v] := by
          obtain ⟨h1, h2⟩ := List.getElem?_eq_some_iff.1 hlk
          rw [List.take_succ_eq_append_getElem h1, h2]
        have HTK := Lib.hid htk
        have hltI : (j : Int) < row.length := by omega
        cases hmv : mayB v with
        | false =>
          have hN : O = none := by
            rw [HO.out, if_neg]
            intro e
            have := List.all_eq_true.1 e v hmem
            rw [hmv] at this; cases this
          have HN := Lib.hid hN
          rw [hmv] at HCV
          obtain ⟨vk, vn, vr, vt⟩ := v
          unfold V.agg at HCV
          simp only at c0 c1 c2 c3
          clear hlk hmem hwf htk hmv hN
          go_wp2_with fail
          refine (HCV.out _ (hbw.alloc hbw.size _)).mono ?_
          rintro r w3 ⟨rfl, hb3⟩
          have hbw3 := (hbw.alloc hbw.size _).trans (hb3.mono (by have := hbw.size; simp; omega))
          clear hb3 hown hbw
          simp only [okE]
          go_wp2_with fail
          refine (need_no _).mono ?_
          rintro r w4 ⟨rfl, rfl⟩
          unfold gaveW
          go_wp2_with fail
          exact ⟨rfl, by rw [HN.out]; rfl, hbw3⟩
        | true =>
          rw [hmv] at HCV
          have HTJ : Hid ((row.take (j + 1)).all mayB = true) := by
            show _ = _
            rw [HTK.out, List.all_append, HJ.out]
            simp [hmv]
          have hvt := valT_yes hmv
          rw [hvt] at HVV
          obtain ⟨q, hq⟩ : ∃ q, q = valW v := ⟨_, rfl⟩
          rw [← hq] at HVV
          have HQ := Lib.hid hq
          have HMP : Hid (wsC (opW k :: Lib.itoa tb :: (row.take (j + 1)).map valW) = wsC (opW k :: Lib.itoa tb :: (row.take j).map valW) ++ [.string (bsO q)]) := by
            show _ = _
            rw [HTK.out, List.map_append, HQ.out]
            simp [wsC]
          obtain ⟨vk, vn, vr, vt⟩ := v
          unfold V.agg at HCV HVV
          simp only at c0 c1 c2 c3
          clear hlk hmem hwf htk hmv hvt hq
          go_wp2_with fail
          refine (HCV.out _ (hbw.alloc hbw.size _)).mono ?_
          rintro r w3 ⟨rfl, hb3⟩
          obtain ⟨lB, e0, e1, e2, e3⟩ := blkV ((Blk.new wr #[.int .u8 vk, .int .i64 vn, .int .u64 vr, .string vt] 48).ext hb3)
          have hbw3 := (hbw.alloc hbw.size _).trans (hb3.mono (by have := hbw.size; simp; omega))
          have hown3 := own_ext (hown.alloc _) hb3
          clear hb3 hown hbw c0 c1 c2 c3
          simp only [okE]
          go_wp2_with fail
          refine (need_yes _).mono ?_
          rintro r w4 ⟨rfl, rfl⟩
          go_wp2_with fail
          refine (HVV.out _ hbw3).mono ?_
          rintro r w5 ⟨rfl, hb5⟩
          have hbw5 := bt hbw3 hb5
          have hown5 := own_ext hown3 hb5
          clear hb5 hown3 hbw3 e0 e1 e2 e3 lB
          have hj8 : j ≤ 8 := by omega
          go_wp2_with (at_builtin; refine wpList_append_own _ rfl _ _ 63 rfl w.heap.size 9 i0 (.string ByteArray.empty) 1 16 Tryz.underlying63 hi0 hz0 hz1 hz2 rfl (by decide) _ (2 + j) (wsC (opW k :: Lib.itoa tb :: (row.take j).map valW)) rfl (World.ownsRow.alloc hown5 _) ⟨w5.heap.size, 0, none⟩ 1 1 [.string (bsO q)] rfl rfl ?xc1 ?xc2 ?xc3 ?xc4 ?xc5 ?_)
          case xc1 => exact cell_one_new _ _ _
          case xc2 => simp [Value.oneCell']
          case xc3 => simp only [maxLen]; omega
          case xc4 => omega
          case xc5 => have := hbw5.size; simp; omega
          intro v' w6 hown6 hg6 _
          rw [← List.map_take, ← HMP.out] at hown6
          have hbw6 : Below w.heap.size w w6 := (hbw5.alloc hbw5.size _).grown hg6 (by have := hbw5.size; simp; omega) (own_ge hown5)
          clear hown5 hg6 hbw5
          go_wp2_with fail
          go_roundw
          case rel => exact ⟨j + 1, by omega, by go_num, HTJ, hown6, hbw6⟩
          case measure => simp [intOf]; omega
      · have hjn : j = row.length := by omega
        subst hjn
        have hN : O = some (opW k :: Lib.itoa tb :: row.map valW) := by
          have := HJ.out
          rw [List.take_length] at this
          rw [HO.out, if_pos this]
        have HN := Lib.hid hN
        rw [List.take_length] at hown
        clear hN
        go_wp2_with fail
        go_ret
        refine ⟨?_, hbw⟩
        rw [HN.out]
        refine ⟨_, rfl, ?_⟩
        rw [show (opW k :: Lib.itoa tb :: row.map valW).length = 2 + row.length by simp; omega]
        exact hown
  all_goals
    intro x w2 hb2
    have hbw2 := bt HBW.out hb2
    obtain ⟨y0, y1, y2, y3, y4, y5, y6, y7, y8⟩ := blkA (HBK.out.ext hb2)
    have k0 : 0 ≤ k := by have := HKK.out; omega
    have k4 : k < 4 := by have := HKK.out; omega
    first
      | (intro K hK
         rw [if_pos (by rfl)]; simp only [overlay, upd, cond_true, cond_false, List.getD_cons_zero, List.getD_cons_succ, Nat.reduceEqDiff, reduceIte]
         go_simp
         first
           | exact hK.out _ _ (Below.refl _ _) rfl
           | exact hK.out _ _ (by repeat (first | exact Below.refl _ _ | assumption | refine Below.drew ?_ | refine below_drewN ?_ _ | refine Below.alloc ?_ (by simp <;> omega) _)) (own_new _ _ [opW k, Lib.itoa tb] hbw2.size (by simp))
           | ((with_reducible refine (HOP.out _).mono ?_); rintro e wa ⟨rfl, hbk, hba⟩; go_wp2_with fail; exact hK.out _ _ hba ⟨_, rfl, hbk⟩)
           | ((with_reducible refine (HNU.out _ hbw2).mono ?_); rintro e wa ⟨rfl, hba⟩; go_wp2_with fail; exact hK.out _ _ hba rfl))
      | (intro bq hq K hK
         have hlt := hq.lt
         rw [if_pos (by rfl)]; simp only [overlay, upd, cond_true, cond_false, List.getD_cons_zero, List.getD_cons_succ, Nat.reduceEqDiff, reduceIte]
         go_simp
         first
           | exact hK.out _ _ (Below.refl _ _) ⟨_, rfl, hq⟩
           | ((with_reducible refine (HNU.out _ hbw2).mono ?_); rintro e wa ⟨rfl, hba⟩; go_wp2_with fail; exact hK.out _ _ hba rfl))
      | (rintro v ⟨g, rfl, hg⟩ K hK
         have hce := ops_cell hg HKK.out
         rw [if_pos (by rfl)]; simp only [overlay, upd, cond_true, cond_false, List.getD_cons_zero, List.getD_cons_succ, Nat.reduceEqDiff, reduceIte]
         go_simp
         exact hK.out _ _ (Below.refl _ _) rfl)
      | (intro v hv bq hq v4 h4 v5 hv5 K hK
         rw [if_pos (by rfl)]; simp only [overlay, upd, cond_true, cond_false, List.getD_cons_zero, List.getD_cons_succ, Nat.reduceEqDiff, reduceIte]
         go_simp
         exact hK.out _ _ (Below.refl _ _) hv5)
end Go.Proofs.YtfekohonidggjaaGreatDoor
