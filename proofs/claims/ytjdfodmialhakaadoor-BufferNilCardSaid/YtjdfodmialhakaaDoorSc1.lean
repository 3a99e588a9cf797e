/- Schemas as data; names: schema.name and the reference's Name tell whether a text is one (nameB). -/
import Derived.Test.YtjdfodmialhakaaDoorEr4
import Derived.Test.YtjdfodmialhakaaDoorRegApp
import Derived.Lib.ConvBytes
namespace Go.Proofs.YtjdfodmialhakaaDoor
open Go.RowKit

/-- A column: its name, its kind, whether it may be null. -/
structure Co where
  nm : ByteArray
  k : Int
  nl : Bool
deriving DecidableEq
def Co.wf (c : Co) : Prop := c.nm.size ≤ 140737488355328 ∧ 0 ≤ c.k ∧ c.k ≤ 255
/-- A table; its columns' slice lies at A, with room c. -/
structure Ta where
  nm : ByteArray
  cs : List Co
  key : Int
  ref : Int
  par : Int
  A : Option Addr
  c : Nat
def Ta.cells (t : Ta) : Array Value := #[.string t.nm, .slice t.A t.cs.length t.c, .int .i64 t.key, .int .i64 t.ref, .int .i64 t.par]
def Ta.wf (t : Ta) : Prop := t.nm.size ≤ 140737488355328 ∧ (-9223372036854775808 ≤ t.key ∧ t.key ≤ 9223372036854775807) ∧ (-9223372036854775808 ≤ t.ref ∧ t.ref ≤ 9223372036854775807) ∧ (-9223372036854775808 ≤ t.par ∧ t.par ≤ 9223372036854775807)
def Ta.d (t : Ta) : ByteArray × List Co × Int × Int × Int := (t.nm, t.cs, t.key, t.ref, t.par)
def CRow (w : World) (A : Option Addr) (l : List Co) : Prop :=
  (∀ c ∈ l, c.wf) ∧ l.length ≤ 5864062014805 ∧ (l ≠ [] → ∃ b off, A = some ⟨b, off, none⟩ ∧ b < w.heap.size ∧ ∀ i v, l[i]? = some v →
    w.cell? ⟨b, off + i * 3, none⟩ = some (.string v.nm) ∧ w.cell? ⟨b, off + i * 3 + 1, none⟩ = some (.int .u8 v.k) ∧ w.cell? ⟨b, off + i * 3 + 2, none⟩ = some (.bool v.nl))
theorem CRow.ext {w w' : World} {A : Option Addr} {l : List Co} (h : CRow w A l) (hb : Below w.heap.size w w') : CRow w' A l := by
  refine ⟨h.1, h.2.1, fun hl => ?_⟩
  obtain ⟨b, off, rfl, hlt, hc⟩ := h.2.2 hl
  refine ⟨b, off, rfl, Nat.lt_of_lt_of_le hlt hb.size, fun i v hi => ?_⟩
  obtain ⟨c0, c1, c2⟩ := hc i v hi
  exact ⟨(hb.cell (p := ⟨b, _, none⟩) hlt).trans c0, (hb.cell (p := ⟨b, _, none⟩) hlt).trans c1, (hb.cell (p := ⟨b, _, none⟩) hlt).trans c2⟩
theorem CRow.at_ {w : World} {A : Option Addr} {l : List Co} (h : CRow w A l) {k : Nat} (hk : k < l.length) :
    ∃ (b off : Nat) (v : Co), A = some ⟨b, off, none⟩ ∧ b < w.heap.size ∧ l[k]? = some v ∧ v ∈ l ∧ v.wf ∧
      w.cell? ⟨b, off + k * 3, none⟩ = some (.string v.nm) ∧ w.cell? ⟨b, off + k * 3 + 1, none⟩ = some (.int .u8 v.k) ∧ w.cell? ⟨b, off + k * 3 + 2, none⟩ = some (.bool v.nl) := by
  obtain ⟨b, off, rfl, hlt, hc⟩ := h.2.2 (by intro e; simp [e] at hk)
  have hv := List.getElem?_eq_getElem hk
  obtain ⟨c0, c1, c2⟩ := hc k _ hv
  exact ⟨b, off, l[k], rfl, hlt, hv, List.getElem_mem hk, h.1 _ (List.getElem_mem hk), c0, c1, c2⟩
def TRow (w : World) (A : Option Addr) (c : Nat) (l : List Ta) : Prop :=
  (∀ t ∈ l, t.wf ∧ CRow w t.A t.cs) ∧ l.length ≤ 2199023255552 ∧ l.length ≤ c ∧ (l ≠ [] → ∃ b off, A = some ⟨b, off, none⟩ ∧ b < w.heap.size ∧ ∀ i t, l[i]? = some t →
    w.cell? ⟨b, off + i * 5, none⟩ = some (.string t.nm) ∧ w.cell? ⟨b, off + i * 5 + 1, none⟩ = some (.slice t.A t.cs.length t.c) ∧ w.cell? ⟨b, off + i * 5 + 2, none⟩ = some (.int .i64 t.key) ∧ w.cell? ⟨b, off + i * 5 + 3, none⟩ = some (.int .i64 t.ref) ∧ w.cell? ⟨b, off + i * 5 + 4, none⟩ = some (.int .i64 t.par))
theorem TRow.ext {w w' : World} {A : Option Addr} {c : Nat} {l : List Ta} (h : TRow w A c l) (hb : Below w.heap.size w w') : TRow w' A c l := by
  refine ⟨fun t ht => ⟨(h.1 t ht).1, (h.1 t ht).2.ext hb⟩, h.2.1, h.2.2.1, fun hl => ?_⟩
  obtain ⟨b, off, rfl, hlt, hc⟩ := h.2.2.2 hl
  refine ⟨b, off, rfl, Nat.lt_of_lt_of_le hlt hb.size, fun i v hi => ?_⟩
  obtain ⟨c0, c1, c2, c3, c4⟩ := hc i v hi
  exact ⟨(hb.cell (p := ⟨b, _, none⟩) hlt).trans c0, (hb.cell (p := ⟨b, _, none⟩) hlt).trans c1, (hb.cell (p := ⟨b, _, none⟩) hlt).trans c2, (hb.cell (p := ⟨b, _, none⟩) hlt).trans c3, (hb.cell (p := ⟨b, _, none⟩) hlt).trans c4⟩
theorem TRow.at_ {w : World} {A : Option Addr} {c : Nat} {l : List Ta} (h : TRow w A c l) {k : Nat} (hk : k < l.length) :
    ∃ (b off : Nat) (t : Ta), A = some ⟨b, off, none⟩ ∧ b < w.heap.size ∧ l[k]? = some t ∧ t ∈ l ∧ t.wf ∧ CRow w t.A t.cs ∧
      w.cell? ⟨b, off + k * 5, none⟩ = some (.string t.nm) ∧ w.cell? ⟨b, off + k * 5 + 1, none⟩ = some (.slice t.A t.cs.length t.c) ∧ w.cell? ⟨b, off + k * 5 + 2, none⟩ = some (.int .i64 t.key) ∧ w.cell? ⟨b, off + k * 5 + 3, none⟩ = some (.int .i64 t.ref) ∧ w.cell? ⟨b, off + k * 5 + 4, none⟩ = some (.int .i64 t.par) := by
  obtain ⟨b, off, rfl, hlt, hc⟩ := h.2.2.2 (by intro e; simp [e] at hk)
  have hv := List.getElem?_eq_getElem hk
  obtain ⟨c0, c1, c2, c3, c4⟩ := hc k _ hv
  have hm := h.1 _ (List.getElem_mem hk)
  exact ⟨b, off, l[k], rfl, hlt, hv, List.getElem_mem hk, hm.1, hm.2, c0, c1, c2, c3, c4⟩
theorem TRow.take {w : World} {A : Option Addr} {c : Nat} {l : List Ta} (h : TRow w A c l) (k : Nat) : TRow w A c (l.take k) := by
  refine ⟨fun t ht => h.1 t (List.mem_of_mem_take ht), by have := h.2.1; simp; omega, by have := h.2.2.1; simp; omega, fun hl => ?_⟩
  obtain ⟨b, off, rfl, hlt, hc⟩ := h.2.2.2 (by intro e; rw [e] at hl; simp at hl)
  refine ⟨b, off, rfl, hlt, fun i t hi => hc i t ?_⟩
  rw [List.getElem?_take] at hi
  split at hi
  · exact hi
  · cases hi

/-! Names. -/
def chB (v : Int) : Bool := decide ((97 ≤ v ∧ v ≤ 122) ∨ (48 ≤ v ∧ v ≤ 57))
def chars (s : ByteArray) : Bool := s.data.toList.all fun c => chB c.toNat
def nameB (s : ByteArray) : Bool := chars s && (decide (1 ≤ s.size) && decide (s.size ≤ 16))
theorem chars_step {s : ByteArray} {k : Nat} (h : k < s.size) (h1 : (s.data.toList.take k).all (fun c => chB c.toNat) = true) (h2 : chB ((s.data.toList.getD k 0).toNat : Int) = true) : Hid ((s.data.toList.take (k + 1)).all (fun c => chB c.toNat) = true) := by
  show _ = _
  have hk : k < s.data.toList.length := by simpa using h
  rw [List.take_succ_eq_append_getElem hk, List.all_append, h1]
  rw [List.getD_eq_getElem?_getD, List.getElem?_eq_getElem hk] at h2
  simpa using h2
theorem chars_end {s : ByteArray} (h1 : (s.data.toList.take s.size).all (fun c => chB c.toNat) = true) : chars s = true := by
  unfold chars
  rwa [List.take_of_length_le (by simp)] at h1
theorem chars_not {s : ByteArray} {k : Nat} (h : k < s.size) (h2 : chB ((s.data.toList.getD k 0).toNat : Int) = false) : chars s = false := by
  have hk : k < s.data.toList.length := by simpa using h
  unfold chars
  rw [List.all_eq_false]
  refine ⟨s.data.toList[k], List.getElem_mem hk, ?_⟩
  rw [List.getD_eq_getElem?_getD, List.getElem?_eq_getElem hk] at h2
  simpa using h2
theorem below_bytes (w : World) (e : TypeId) (s : ByteArray) : Below w.heap.size w (Lib.bytesWorld w e s) := by
  have h1 : Below w.heap.size w (w.drew.alloc (.cells (Lib.bytesCells w e s) e)) := (by repeat (first | exact Below.refl _ _ | assumption | refine Below.drew ?_ | refine below_drewN ?_ _ | refine Below.alloc ?_ (by simp <;> omega) _))
  refine ⟨h1.os, h1.tape, h1.output, by rw [Lib.bytesWorld_size]; omega, fun c hc => Lib.bytesWorld_at_old w e s c hc⟩
set_option maxRecDepth 100000 in
theorem name_any (s : ByteArray) (w : World) (hs : s.size ≤ 140737488355328) :
    Calls Tryd.prog 179 #[.string s] w fun r w' => r = .returned (.bool (nameB s)) ∧ Below w.heap.size w w' := by
  have hcv := Lib.run_convert_string_bytes (P := Tryd.prog) w 9 125 5 s Tryd.underlying9 Tryd.underlying125 Tryd.underlying5
  have hcell := Lib.bytesWorld_cell w 5 s
  have hbl := below_bytes w 5 s
  have hsz := Lib.bytesWorld_size w 5 s
  generalize Lib.bytesWorld w 5 s = W at hcv hcell hbl hsz
  have HBL := Lib.hid hbl
  have HCELL := Lib.hid hcell
  have HSZ := Lib.hid hsz
  generalize hM : nameB s = M
  have HM := Lib.hid hM
  clear hM hcell hsz hbl
  go_enter Tryd.func179, Tryd.ntmps179
  go_wp2
  clear hcv
  go_loop [8] (fun i => ∃ k : Nat, k ≤ s.size ∧ i = .int .i64 k ∧ Hid ((s.data.toList.take k).all (fun c => chB c.toNat) = true)) (fun i => s.size - (intOf i).toNat)
  case atStart => exact ⟨0, by omega, rfl, (by simp : _ = _)⟩
  case round =>
    obtain ⟨k, hk, rfl, HS⟩ := hrel
    by_cases hlt : k < s.size
    · have c0 := HCELL.out k hlt
      obtain ⟨v, hv⟩ : ∃ v : Int, v = ((s.data.toList.getD k 0).toNat : Int) := ⟨_, rfl⟩
      have c1 : W.cell? ⟨w.heap.size, 0 + k, none⟩ = some (.int .u8 v) := by rw [Nat.zero_add, hv]; exact c0
      have c2 : W.cell? ⟨w.heap.size, k, none⟩ = some (.int .u8 v) := by rw [hv]; exact c0
      have HV := Lib.hid hv
      clear c0 hv
      cases hc : chB v
      · have hf := chars_not hlt (by rw [← HV.out]; exact hc)
        have hMf : Hid (M = false) := by show _ = _; rw [← HM.out]; unfold nameB; rw [hf]; rfl
        have hc' := of_decide_eq_false hc
        clear hf hc HM
        by_cases h97 : v < 97
        · by_cases h48 : v < 48
          · clear hc'
            go_wp2
            go_ret
            exact ⟨ret_bool hMf.out.symm, HBL.out⟩
          · have h57 : 57 < v := by omega
            clear hc'
            go_wp2
            go_ret
            exact ⟨ret_bool hMf.out.symm, HBL.out⟩
        · have h122 : 122 < v := by omega
          have h57 : 57 < v := by omega
          clear hc'
          go_wp2
          go_ret
          exact ⟨ret_bool hMf.out.symm, HBL.out⟩
      · have hS' := chars_step hlt HS.out (by rw [← HV.out]; exact hc)
        have hc' := of_decide_eq_true hc
        clear hc
        by_cases h97 : v < 97
        · have h48 : 48 ≤ v := by omega
          have h57 : v ≤ 57 := by omega
          clear hc'
          go_wp2
          go_round
          case rel => exact ⟨k + 1, by omega, by go_num, hS'⟩
          case measure => simp [intOf]; omega
        · have h122 : v ≤ 122 := by omega
          clear hc'
          go_wp2
          go_round
          case rel => exact ⟨k + 1, by omega, by go_num, hS'⟩
          case measure => simp [intOf]; omega
    · obtain rfl : k = s.size := by omega
      have hf := chars_end HS.out
      have hMf : Hid (M = (decide (1 ≤ s.size) && decide (s.size ≤ 16))) := by show _ = _; rw [← HM.out]; unfold nameB; rw [hf]; rfl
      clear hf HM HS
      by_cases hz : s.size = 0
      · have hMf' : Hid (M = false) := by show _ = _; rw [hMf.out, decide_eq_false (by omega)]; rfl
        obtain rfl := str_empty hz
        clear hz
        go_wp2
        go_ret
        exact ⟨ret_bool hMf'.out.symm, HBL.out⟩
      · obtain ⟨hne, _⟩ := ne_empty hz
        have hne' : (!s.toList.isEmpty) = true := by rw [hne]; rfl
        have hMf' : Hid (M = decide ((s.size : Int) ≤ 16)) := by show _ = _; rw [hMf.out, decide_eq_true (show 1 ≤ s.size by omega), Bool.true_and]; exact decide_eq_decide.2 (by omega)
        by_cases h16 : s.size ≤ 16
        · go_wp2
          go_ret
          exact ⟨ret_bool (by rw [hMf'.out, decide_eq_true (by omega)]), HBL.out⟩
        · go_wp2
          go_ret
          exact ⟨ret_bool (by rw [hMf'.out, decide_eq_false (by omega)]), HBL.out⟩
end Go.Proofs.YtjdfodmialhakaaDoor
