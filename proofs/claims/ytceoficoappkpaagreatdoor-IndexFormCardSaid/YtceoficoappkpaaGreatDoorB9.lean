/- Texts joined by a tool: contracts and walks of this claim. -/
import Derived.Test.YtceoficoappkpaaGreatDoorB8
import Derived.Lib.ConvBytes
import Derived.Maps.OwnOps
import Derived.Maps.Views
namespace Go.Proofs.YtceoficoappkpaaGreatDoor
open Go.RowKit

structure Co where
 nm : ByteArray
 k : Int
 nl : Bool
deriving DecidableEq
def Co.wf (c : Co) : Prop := c.nm.size ≤ 140737488355328 ∧ 0 ≤ c.k ∧ c.k ≤ 255
structure Ta where
 nm : ByteArray
 cs : List Co
 key : Int
 ref : Int
 par : Int
 A : Option Addr
 c : Nat
def Ta.cells (t : Ta) : Array Value := #[.string t.nm, .slice t.A t.cs.length t.c, .int .i64 t.key, .int .i64 t.ref, .int .i64 t.par]
def Ta.wf (t : Ta) : Prop := t.nm.size ≤ 140737488355328 ∧ (-9223372036854775808 ≤ t.key ∧ t.key ≤ 9223372036854775807) ∧ (-9223372036854775808 ≤ t.ref ∧ t.ref ≤ 9223372036854775807) ∧ (-9223372036854775808 ≤ t.par ∧ t.par ≤ 9223372036854775807)
def Ta.d (t : Ta) : ByteArray × List Co × Int × Int × Int := (t.nm, t.cs, t.key, t.ref, t.par)
def CRow (w : World) (A : Option Addr) (l : List Co) : Prop :=
 (∀ c ∈ l, c.wf) ∧ l.length ≤ 5864062014805 ∧ (l ≠ [] → ∃ b off, A = some ⟨b, off, none⟩ ∧ b < w.heap.size ∧ ∀ i v, l[i]? = some v →
   w.cell? ⟨b, off + i * 3, none⟩ = some (.string v.nm) ∧ w.cell? ⟨b, off + i * 3 + 1, none⟩ = some (.int .u8 v.k) ∧ w.cell? ⟨b, off + i * 3 + 2, none⟩ = some (.bool v.nl))
theorem CRow.ext {w w' : World} {A : Option Addr} {l : List Co} (h : CRow w A l) (hb : Below w.heap.size w w') : CRow w' A l := by
 refine ⟨h.1, h.2.1, fun hl => ?_⟩
 obtain ⟨b, off, rfl, hlt, hc⟩ := h.2.2 hl
 refine ⟨b, off, rfl, Nat.lt_of_lt_of_le hlt hb.size, fun i v hi => ?_⟩
 obtain ⟨c0, c1, c2⟩ := hc i v hi
 exact ⟨(hb.cell (p := ⟨b, _, none⟩) hlt).trans c0, (hb.cell (p := ⟨b, _, none⟩) hlt).trans c1, (hb.cell (p := ⟨b, _, none⟩) hlt).trans c2⟩
theorem CRow.at_ {w : World} {A : Option Addr} {l : List Co} (h : CRow w A l) {k : Nat} (hk : k < l.length) :
  ∃ (b off : Nat) (v : Co), A = some ⟨b, off, none⟩ ∧ b < w.heap.size ∧ l[k]? = some v ∧ v ∈ l ∧ v.wf ∧
   w.cell? ⟨b, off + k * 3, none⟩ = some (.string v.nm) ∧ w.cell? ⟨b, off + k * 3 + 1, none⟩ = some (.int .u8 v.k) ∧ w.cell? ⟨b, off + k * 3 + 2, none⟩ = some (.bool v.nl) := by
 obtain ⟨b, off, rfl, hlt, hc⟩ := h.2.2 (by intro e; simp [e] at hk)
 have hv := List.getElem?_eq_getElem hk
 obtain ⟨c0, c1, c2⟩ := hc k _ hv
 exact ⟨b, off, l[k], rfl, hlt, hv, List.getElem_mem hk, h.1 _ (List.getElem_mem hk), c0, c1, c2⟩
def TRow (w : World) (A : Option Addr) (c : Nat) (l : List Ta) : Prop :=
 (∀ t ∈ l, t.wf ∧ CRow w t.A t.cs) ∧ l.length ≤ 2199023255552 ∧ l.length ≤ c ∧ (l ≠ [] → ∃ b off, A = some ⟨b, off, none⟩ ∧ b < w.heap.size ∧ ∀ i t, l[i]? = some t →
   w.cell? ⟨b, off + i * 5, none⟩ = some (.string t.nm) ∧ w.cell? ⟨b, off + i * 5 + 1, none⟩ = some (.slice t.A t.cs.length t.c) ∧ w.cell? ⟨b, off + i * 5 + 2, none⟩ = some (.int .i64 t.key) ∧ w.cell? ⟨b, off + i * 5 + 3, none⟩ = some (.int .i64 t.ref) ∧ w.cell? ⟨b, off + i * 5 + 4, none⟩ = some (.int .i64 t.par))
theorem TRow.ext {w w' : World} {A : Option Addr} {c : Nat} {l : List Ta} (h : TRow w A c l) (hb : Below w.heap.size w w') : TRow w' A c l := by
 refine ⟨fun t ht => ⟨(h.1 t ht).1, (h.1 t ht).2.ext hb⟩, h.2.1, h.2.2.1, fun hl => ?_⟩
 obtain ⟨b, off, rfl, hlt, hc⟩ := h.2.2.2 hl
 refine ⟨b, off, rfl, Nat.lt_of_lt_of_le hlt hb.size, fun i v hi => ?_⟩
 obtain ⟨c0, c1, c2, c3, c4⟩ := hc i v hi
 exact ⟨(hb.cell (p := ⟨b, _, none⟩) hlt).trans c0, (hb.cell (p := ⟨b, _, none⟩) hlt).trans c1, (hb.cell (p := ⟨b, _, none⟩) hlt).trans c2, (hb.cell (p := ⟨b, _, none⟩) hlt).trans c3, (hb.cell (p := ⟨b, _, none⟩) hlt).trans c4⟩
theorem TRow.at_ {w : World} {A : Option Addr} {c : Nat} {l : List Ta} (h : TRow w A c l) {k : Nat} (hk : k < l.length) :
  ∃ (b off : Nat) (t : Ta), A = some ⟨b, off, none⟩ ∧ b < w.heap.size ∧ l[k]? = some t ∧ t ∈ l ∧ t.wf ∧ CRow w t.A t.cs ∧
   w.cell? ⟨b, off + k * 5, none⟩ = some (.string t.nm) ∧ w.cell? ⟨b, off + k * 5 + 1, none⟩ = some (.slice t.A t.cs.length t.c) ∧ w.cell? ⟨b, off + k * 5 + 2, none⟩ = some (.int .i64 t.key) ∧ w.cell? ⟨b, off + k * 5 + 3, none⟩ = some (.int .i64 t.ref) ∧ w.cell? ⟨b, off + k * 5 + 4, none⟩ = some (.int .i64 t.par) := by
 obtain ⟨b, off, rfl, hlt, hc⟩ := h.2.2.2 (by intro e; simp [e] at hk)
 have hv := List.getElem?_eq_getElem hk
 obtain ⟨c0, c1, c2, c3, c4⟩ := hc k _ hv
 have hm := h.1 _ (List.getElem_mem hk)
 exact ⟨b, off, l[k], rfl, hlt, hv, List.getElem_mem hk, hm.1, hm.2, c0, c1, c2, c3, c4⟩
theorem TRow.take {w : World} {A : Option Addr} {c : Nat} {l : List Ta} (h : TRow w A c l) (k : Nat) : TRow w A c (l.take k) := by
 refine ⟨fun t ht => h.1 t (List.mem_of_mem_take ht), by have := h.2.1; simp; omega, by have := h.2.2.1; simp; omega, fun hl => ?_⟩
 obtain ⟨b, off, rfl, hlt, hc⟩ := h.2.2.2 (by intro e; rw [e] at hl; simp at hl)
 refine ⟨b, off, rfl, hlt, fun i t hi => hc i t ?_⟩
 rw [List.getElem?_take] at hi
 split at hi
 · exact hi
 · cases hi

def chB (v : Int) : Bool := decide ((97 ≤ v ∧ v ≤ 122) ∨ (48 ≤ v ∧ v ≤ 57))
def chars (s : ByteArray) : Bool := s.data.toList.all fun c => chB c.toNat
def nameB (s : ByteArray) : Bool := chars s && (decide (1 ≤ s.size) && decide (s.size ≤ 16))
theorem chars_step {s : ByteArray} {k : Nat} (h : k < s.size) (h1 : (s.data.toList.take k).all (fun c => chB c.toNat) = true) (h2 : chB ((s.data.toList.getD k 0).toNat : Int) = true) : Hid ((s.data.toList.take (k + 1)).all (fun c => chB c.toNat) = true) := by
 show _ = _
 have hk : k < s.data.toList.length := by simpa using h
 rw [List.take_succ_eq_append_getElem hk, List.all_append, h1]
 rw [List.getD_eq_getElem?_getD, List.getElem?_eq_getElem hk] at h2
 simpa using h2
theorem chars_end {s : ByteArray} (h1 : (s.data.toList.take s.size).all (fun c => chB c.toNat) = true) : chars s = true := by
 unfold chars
 rwa [List.take_of_length_le (by simp)] at h1
theorem chars_not {s : ByteArray} {k : Nat} (h : k < s.size) (h2 : chB ((s.data.toList.getD k 0).toNat : Int) = false) : chars s = false := by
 have hk : k < s.data.toList.length := by simpa using h
 unfold chars
 rw [List.all_eq_false]
 refine ⟨s.data.toList[k], List.getElem_mem hk, ?_⟩
 rw [List.getD_eq_getElem?_getD, List.getElem?_eq_getElem hk] at h2
 simpa using h2
theorem below_bytes (w : World) (e : TypeId) (s : ByteArray) : Below w.heap.size w (Lib.bytesWorld w e s) := by
 have h1 : Below w.heap.size w (w.drew.alloc (.cells (Lib.bytesCells w e s) e)) := (by repeat (first | exact Below.refl _ _ | assumption | refine Below.drew ?_ | refine below_drewN ?_ _ | refine Below.alloc ?_ (by simp <;> omega) _))
 refine ⟨h1.os, h1.tape, h1.output, by rw [Lib.bytesWorld_size]; omega, fun c hc => Lib.bytesWorld_at_old w e s c hc⟩
set_option maxRecDepth 100000 in
theorem name_any (s : ByteArray) (w : World) (hs : s.size ≤ 140737488355328) :
  Calls Tryz.prog 171 #[.string s] w fun r w' => r = .returned (.bool (nameB s)) ∧ Below w.heap.size w w' := by
 have hcv := Lib.run_convert_string_bytes (P := Tryz.prog) w 9 128 5 s Tryz.underlying9 Tryz.underlying128 Tryz.underlying5
 have hcell := Lib.bytesWorld_cell w 5 s
 have hbl := below_bytes w 5 s
 have hsz := Lib.bytesWorld_size w 5 s
 generalize Lib.bytesWorld w 5 s = W at hcv hcell hbl hsz
 have HBL := hd_ hbl
 have HCELL := hd_ hcell
 have HSZ := hd_ hsz
 generalize hM : nameB s = M
 have HM := hd_ hM
 clear hM hcell hsz hbl
 go_enter Tryz.func171, Tryz.ntmps171
 go_wp2
 clear hcv
 go_loop [8] (fun i => ∃ k : Nat, k ≤ s.size ∧ i = .int .i64 k ∧ Hid ((s.data.toList.take k).all (fun c => chB c.toNat) = true)) (fun i => s.size - (intOf i).toNat)
 case atStart => exact ⟨0, by omega, rfl, (by simp : _ = _)⟩
 case round =>
  obtain ⟨k, hk, rfl, HS⟩ := hrel
  by_cases hlt : k < s.size
  · have c0 := HCELL.out k hlt
    obtain ⟨v, hv⟩ : ∃ v : Int, v = ((s.data.toList.getD k 0).toNat : Int) := ⟨_, rfl⟩
    have c1 : W.cell? ⟨w.heap.size, 0 + k, none⟩ = some (.int .u8 v) := by rw [Nat.zero_add, hv]; exact c0
    have c2 : W.cell? ⟨w.heap.size, k, none⟩ = some (.int .u8 v) := by rw [hv]; exact c0
    have HV := hd_ hv
    clear c0 hv
    cases hc : chB v
    · have hf := chars_not hlt (by rw [← HV.out]; exact hc)
      have hMf : Hid (M = false) := by show _ = _; rw [← HM.out]; unfold nameB; rw [hf]; rfl
      have hc' := of_decide_eq_false hc
      clear hf hc HM
      by_cases h97 : v < 97
      · by_cases h48 : v < 48
        · clear hc'
          go_wp2
          go_ret
          exact ⟨ret_bool hMf.out.symm, HBL.out⟩
        · have h57 : 57 < v := by omega
          clear hc'
          go_wp2
          go_ret
          exact ⟨ret_bool hMf.out.symm, HBL.out⟩
      · have h122 : 122 < v := by omega
        have h57 : 57 < v := by omega
        clear hc'
        go_wp2
        go_ret
        exact ⟨ret_bool hMf.out.symm, HBL.out⟩
    · have hS' := chars_step hlt HS.out (by rw [← HV.out]; exact hc)
      have hc' := of_decide_eq_true hc
      clear hc
      by_cases h97 : v < 97
      · have h48 : 48 ≤ v := by omega
        have h57 : v ≤ 57 := by omega
        clear hc'
        go_wp2
        go_round
        case rel => exact ⟨k + 1, by omega, by go_num, hS'⟩
        case measure => simp [intOf]; omega
      · have h122 : v ≤ 122 := by omega
        clear hc'
        go_wp2
        go_round
        case rel => exact ⟨k + 1, by omega, by go_num, hS'⟩
        case measure => simp [intOf]; omega
  · obtain rfl : k = s.size := by omega
    have hf := chars_end HS.out
    have hMf : Hid (M = (decide (1 ≤ s.size) && decide (s.size ≤ 16))) := by show _ = _; rw [← HM.out]; unfold nameB; rw [hf]; rfl
    clear hf HM HS
    by_cases hz : s.size = 0
    · have hMf' : Hid (M = false) := by show _ = _; rw [hMf.out, decide_eq_false (by omega)]; rfl
      obtain rfl := str_empty hz
      clear hz
      go_wp2
      go_ret
      exact ⟨ret_bool hMf'.out.symm, HBL.out⟩
    · obtain ⟨hne, _⟩ := ne_empty hz
      have hne' : (!s.toList.isEmpty) = true := by rw [hne]; rfl
      have hMf' : Hid (M = decide ((s.size : Int) ≤ 16)) := by show _ = _; rw [hMf.out, decide_eq_true (show 1 ≤ s.size by omega), Bool.true_and]; exact decide_eq_decide.2 (by omega)
      by_cases h16 : s.size ≤ 16
      · go_wp2
        go_ret
        exact ⟨ret_bool (by rw [hMf'.out, decide_eq_true (by omega)]), HBL.out⟩
      · go_wp2
        go_ret
        exact ⟨ret_bool (by rw [hMf'.out, decide_eq_false (by omega)]), HBL.out⟩
end Go.Proofs.YtceoficoappkpaaGreatDoor
namespace Go.Proofs.YtceoficoappkpaaGreatDoor
open Go.RowKit
def SRow (w : World) (A : Option Addr) (l : List ByteArray) : Prop :=
 l.length ≤ 8796093022208 ∧ (l ≠ [] → ∃ b off, A = some ⟨b, off, none⟩ ∧ b < w.heap.size ∧ ∀ i v, l[i]? = some v → w.cell? ⟨b, off + i, none⟩ = some (.string v))
theorem SRow.ext {w w' : World} {A : Option Addr} {l : List ByteArray} (h : SRow w A l) (hb : Below w.heap.size w w') : SRow w' A l := by
 refine ⟨h.1, fun hl => ?_⟩
 obtain ⟨b, off, rfl, hlt, hc⟩ := h.2 hl
 exact ⟨b, off, rfl, Nat.lt_of_lt_of_le hlt hb.size, fun i v hi => (hb.cell (p := ⟨b, _, none⟩) hlt).trans (hc i v hi)⟩
theorem SRow.at_ {w : World} {A : Option Addr} {l : List ByteArray} (h : SRow w A l) {k : Nat} (hk : k < l.length) :
  ∃ (b off : Nat) (v : ByteArray), A = some ⟨b, off, none⟩ ∧ b < w.heap.size ∧ l[k]? = some v ∧ v ∈ l ∧ w.cell? ⟨b, off + k, none⟩ = some (.string v) := by
 obtain ⟨b, off, rfl, hlt, hc⟩ := h.2 (by intro e; simp [e] at hk)
 have hv := List.getElem?_eq_getElem hk
 exact ⟨b, off, l[k], rfl, hlt, hv, List.getElem_mem hk, hc k _ hv⟩
theorem SRow.of_own {w : World} {base n c : Nat} {e : TypeId} {A : Option Addr} {l : List ByteArray} (hlen : l.length ≤ 8796093022208)
  (h : w.ownsRow base e 1 (.slice A n c) n (l.map Value.string)) : SRow w A l ∧ n = l.length := by
 have hn : n = l.length := by have := h.1; simp at this; omega
 refine ⟨⟨hlen, fun hl => ?_⟩, hn⟩
 have hpos : 0 < n := by rw [hn]; exact List.length_pos_iff.2 hl
 obtain ⟨g, cap, hv, _, hlt⟩ := h.form hpos
 have hA : A = some ⟨g, 0, none⟩ := by injection hv
 subst hA
 refine ⟨g, 0, rfl, hlt, fun i v hi => ?_⟩
 have hc := h.cells (g := g) rfl i (.string v) (by rw [List.getElem?_map, hi]; rfl)
 have e : (⟨g, 0, none⟩ : Addr).add i = ⟨g, 0 + i, none⟩ := by
  unfold Addr.add; split
  · next h0 => subst h0; rfl
  · simp
 rwa [e] at hc
def namedB (l : List ByteArray) : Bool := l.all nameB && decide l.Nodup
def lks (D : DataW Unit) (l : List ByteArray) : Prop := Maps.IsMap D ∧ ∀ s : ByteArray, (s ∈ l → D.atKey (.string s.data.toList) (.lit (.int .i64 0)) = .lit (.int .i64 1)) ∧ (s ∉ l → D.atKey (.string s.data.toList) (.lit (.int .i64 0)) = .lit (.int .i64 0))
theorem str_inj {s t : ByteArray} (h : s.data.toList = t.data.toList) : s = t := by
 obtain ⟨⟨a⟩⟩ := s
 obtain ⟨⟨b⟩⟩ := t
 simp only at h
 rw [h]
theorem lks_nil : lks (.map []) [] := ⟨Maps.isMap_empty, fun s => ⟨(fun h => by cases h), fun _ => rfl⟩⟩
theorem lks_put {D : DataW Unit} {l : List ByteArray} (h : lks D l) (s : ByteArray) : lks (D.put (.string s.data.toList) (.lit (.int .i64 1))) (l ++ [s]) := by
 refine ⟨h.1.put _ _, fun t => ?_⟩
 by_cases hts : t = s
 · subst hts
   rw [Maps.atKey_put_same h.1 (show WideAt.IsKeyLit (.string t.data.toList) from trivial)]
   exact ⟨fun _ => rfl, fun hn => absurd (by simp) hn⟩
 · rw [Maps.atKey_put_other (fun e => hts (str_inj (by injection e)))]
   have : t ∈ l ++ [s] ↔ t ∈ l := by simp [hts]
   exact ⟨fun hm => (h.2 t).1 (this.1 hm), fun hm => (h.2 t).2 (fun x => hm (this.2 x))⟩
theorem named_step {l : List ByteArray} {k : Nat} {s : ByteArray} (hk : l[k]? = some s) (h : (l.take k).all nameB = true ∧ (l.take k).Nodup) (hn : nameB s = true) (hm : s ∉ l.take k) : Hid ((l.take (k + 1)).all nameB = true ∧ (l.take (k + 1)).Nodup) := by
 obtain ⟨hlt, e⟩ := List.getElem?_eq_some_iff.1 hk
 show _ ∧ _
 rw [List.take_succ_eq_append_getElem hlt, e]
 refine ⟨by rw [List.all_append, h.1]; simp [hn], ?_⟩
 rw [List.nodup_append]
 exact ⟨h.2, by simp, fun a ha b hb => by rintro rfl; simp at hb; subst hb; exact hm ha⟩
theorem take_snoc {α : Type} {l : List α} {k : Nat} {s : α} (hk : l[k]? = some s) : l.take (k + 1) = l.take k ++ [s] := by
 obtain ⟨hlt, e⟩ := List.getElem?_eq_some_iff.1 hk
 rw [List.take_succ_eq_append_getElem hlt, e]
theorem named_not1 {l : List ByteArray} {k : Nat} {s : ByteArray} (hk : l[k]? = some s) (hn : nameB s = false) : namedB l = false := by
 have : l.all nameB = false := by
  rw [List.all_eq_false]
  exact ⟨s, List.mem_of_getElem? hk, by simp [hn]⟩
 unfold namedB
 rw [this]
 rfl
theorem named_not2 {l : List ByteArray} {k : Nat} {s : ByteArray} (hk : l[k]? = some s) (hm : s ∈ l.take k) : namedB l = false := by
 unfold namedB
 rw [decide_eq_false, Bool.and_false]
 intro h
 have h2 : (l.take (k + 1)).Nodup := h.sublist (List.take_sublist _ _)
 rw [take_snoc hk, List.nodup_append] at h2
 exact h2.2.2 s hm s (by simp) rfl
theorem own_map_below {H : Type} {w w' : World} {P : Program} {k : TypeId} {R : Value → Option (DataW H × List MemPlace)} {b n : Nat} {D : DataW H} (h : w.ownsMap P k R b n D) (hb : Below w.heap.size w w') : w'.ownsMap P k R b n D := by
 have hlt := h.lt
 obtain ⟨es, clock, hh, F, hs, hD⟩ := h
 exact ⟨es, clock, (hb.block b hlt).trans hh, F, hs, hD⟩
set_option maxRecDepth 100000 in
set_option maxHeartbeats 400000 in
theorem named_any (l : List ByteArray) (A : Option Addr) (c : Nat) (w : World) (hl : SRow w A l) (hz : ∀ s ∈ l, s.size ≤ 140737488355328) :
  Calls Tryz.prog 129 #[.slice A l.length c] w fun r w' => r = .returned (.bool (namedB l)) ∧ Below w.heap.size w w' := by
 have law := Maps.string_keyed (P := Tryz.prog) Tryz.underlying9
 have hmm := @run_makeMap Tryz.prog
 have hz0 : ∀ W : World, (zeroValue 3).run Tryz.prog W = .ok (.int .i64 0) W := fun W => by kernel_rfl
 have Hz0 := hd_ hz0
 have HZ := hd_ hz
 have HN := hd_ (fun (s : ByteArray) (W : World) (h : s.size ≤ 140737488355328) => name_any s W h)
 have hlen := hl.1
 have HL := hd_ hl
 generalize hM : namedB l = M
 have HM := hd_ hM
 clear hM hl hz0 hz
 go_enter Tryz.func129, Tryz.ntmps129
 go_wp2
 clear hmm
 go_loopw [9] (fun i wr => ∃ (k : Nat) (D : DataW Unit), k ≤ l.length ∧ i = .int .i64 k ∧ Hid ((l.take k).all nameB = true ∧ (l.take k).Nodup) ∧ Hid (lks D (l.take k)) ∧ wr.ownsMap Tryz.prog 9 (plainElem Tryz.prog 3) w.heap.size k D ∧ Below w.heap.size w wr) (fun i _ => l.length - (intOf i).toNat)
 case atStart => exact ⟨0, .map [], by omega, rfl, ⟨by simp, by simp⟩, lks_nil, World.ownsMap_made _ _ _ _, (Below.refl _ _).alloc (Nat.le_refl _) _⟩
 case round =>
  obtain ⟨k, D, hk, rfl, HS, HD, hown, hbw⟩ := hrel
  by_cases hlt : k < l.length
  · obtain ⟨b, off, s, rfl, hb, hlk, hmem, c0⟩ := (HL.out.ext hbw).at_ hlt
    have hsz := HZ.out s hmem
    have HC := hd_ (HN.out s wr hsz)
    have HK := hd_ hlk
    have hkey : keyOf Tryz.prog 9 (.string s) = some (.string s.data.toList) := WideMaps.keyOf_string_mk Tryz.underlying9 (by unfold maxLen; omega)
    have HKEY := hd_ hkey
    clear hkey hmem hlk
    cases hn : nameB s
    · rw [hn] at HC
      have hMf : Hid (M = false) := by show _ = _; rw [← HM.out]; exact named_not1 HK.out hn
      clear hn
      go_wp2_with fail
      refine HC.out.mono ?_
      rintro r w1 ⟨rfl, hb1⟩
      have hbw1 := bt hbw hb1
      clear hb1
      go_wp2_with fail
      go_ret
      exact ⟨ret_bool hMf.out.symm, hbw1⟩
    · rw [hn] at HC
      have HNM := hd_ hn
      clear hn
      go_wp2_with fail
      refine HC.out.mono ?_
      rintro r w1 ⟨rfl, hb1⟩
      have hbw1 := bt hbw hb1
      have hown1 : w1.ownsMap Tryz.prog 9 (plainElem Tryz.prog 3) w.heap.size k D := own_map_below hown hb1
      clear hb1 hown hbw
      obtain ⟨c, hrun, hat, _⟩ := hown1.lookup_int law Tryz.underlying264 Tryz.underlying3 (Hz0.out _) HKEY.out
      by_cases hm : s ∈ l.take k
      · have hc1 := hat.symm.trans ((HD.out.2 s).1 hm)
        obtain rfl : c = 1 := by injection hc1 with e; injection e
        have hMf : Hid (M = false) := by show _ = _; rw [← HM.out]; exact named_not2 HK.out hm
        clear hat hm hc1
        go_wp2_with fail
        go_ret
        exact ⟨ret_bool hMf.out.symm, hbw1⟩
      · have hc1 := hat.symm.trans ((HD.out.2 s).2 hm)
        obtain rfl : c = 0 := by injection hc1 with e; injection e
        have HS' := named_step HK.out HS.out HNM.out hm
        have HTK := hd_ (take_snoc HK.out)
        clear hat hm hc1
        go_wp2_with (at_mapUpdate; refine wpList_mapUpdate_own _ rfl _ _ _ 264 rfl 9 3 law Tryz.underlying264 _ w.heap.size k _ rfl hown1 (by unfold maxLen; omega) _ _ _ rfl rfl HKEY.out _ [] (plainElem_int Tryz.underlying3 (by decide)) ?_)
        intro w2 hown2 hg2
        have hbw2 := hbw1.grown hg2 hbw1.size (fun j hj => by cases hj; exact Nat.le_refl _)
        clear hown1 hg2 hbw1 hrun
        go_wp2_with fail
        go_roundw
        case rel => exact ⟨k + 1, _, by omega, by go_num, HS', (by show lks _ _; rw [HTK.out]; exact lks_put HD.out s), hown2, hbw2⟩
        case measure => simp [intOf]; omega
  · obtain rfl : k = l.length := by omega
    have hs := HS.out
    rw [List.take_length] at hs
    have hMt : Hid (M = true) := by show _ = _; rw [← HM.out]; unfold namedB; rw [hs.1, decide_eq_true hs.2]; rfl
    clear hs hown
    go_wp2_with fail
    go_ret
    exact ⟨ret_bool hMt.out.symm, hbw⟩
def colK (c : Co) : Bool := decide (1 ≤ c.k ∧ c.k ≤ 5)
def kAt (l : List Co) (i : Int) : Int := (l[i.toNat]?.map (·.k)).getD 0
def nlAt (l : List Co) (i : Int) : Bool := (l[i.toNat]?.map (·.nl)).getD false
def colsB (t : Ta) : Bool := decide (1 ≤ t.cs.length ∧ t.cs.length ≤ 8) && (t.cs.all colK && (namedB (t.cs.map (·.nm)) && (decide (0 ≤ t.key ∧ t.key < t.cs.length) && !(nlAt t.cs t.key))))
def rootB (t : Ta) : Bool := decide (t.ref = -1 ∧ t.par = -1)
def relB (n : Nat) (t : Ta) : Bool := decide ((0 ≤ t.ref ∧ t.ref < t.cs.length) ∧ t.ref ≠ t.key ∧ 0 ≤ t.par ∧ t.par < n)
def kinB (ahead : List Ta) (t : Ta) : Bool := match ahead[t.par.toNat]? with
 | some p => decide (kAt p.cs p.key = kAt t.cs t.ref)
 | none => false
def belB (ahead : List Ta) (t : Ta) : Bool := rootB t || (relB ahead.length t && kinB ahead t)
def depI (ds : List Int) (t : Ta) : Int := if rootB t then 1 else ds.getD t.par.toNat 0 + 1
def tabB (ahead : List Ta) (ds : List Int) (t : Ta) : Bool := colsB t && (belB ahead t && decide (depI ds t ≤ 8))
def deps (l : List Ta) : List Int := l.foldl (fun ds t => ds ++ [depI ds t]) []
theorem deps_snoc (l : List Ta) (t : Ta) : deps (l ++ [t]) = deps l ++ [depI (deps l) t] := by simp [deps, List.foldl_append]
theorem deps_fold : ∀ (l : List Ta) (ds : List Int), (l.foldl (fun ds t => ds ++ [depI ds t]) ds).length = ds.length + l.length
 | [], ds => by simp
 | t :: l, ds => by rw [List.foldl_cons, deps_fold l]; simp; omega
theorem deps_length (l : List Ta) : (deps l).length = l.length := by unfold deps; rw [deps_fold]; simp
def preB (ts : List Ta) (k : Nat) : Bool := (List.range k).all fun i => match ts[i]? with
 | some t => tabB (ts.take i) (deps (ts.take i)) t
 | none => true
def schB (ts : List Ta) : Bool := decide (1 ≤ ts.length ∧ ts.length ≤ 12) && (preB ts ts.length && namedB (ts.map (·.nm)))
theorem pre_zero (ts : List Ta) : preB ts 0 = true := rfl
theorem pre_succ {ts : List Ta} {k : Nat} {t : Ta} (h : ts[k]? = some t) : preB ts (k + 1) = (preB ts k && tabB (ts.take k) (deps (ts.take k)) t) := by
 unfold preB
 rw [List.range_succ, List.all_append]
 simp only [List.all_cons, List.all_nil, Bool.and_true, h]
theorem pre_at {ts : List Ta} {k j : Nat} {t : Ta} (h : preB ts k = true) (hj : j < k) (ht : ts[j]? = some t) : tabB (ts.take j) (deps (ts.take j)) t = true := by
 have := List.all_eq_true.1 h j (List.mem_range.2 hj)
 rwa [ht] at this
theorem pre_not {ts : List Ta} {k : Nat} {t : Ta} (ht : ts[k]? = some t) (h : tabB (ts.take k) (deps (ts.take k)) t = false) : schB ts = false := by
 have hk := (List.getElem?_eq_some_iff.1 ht).1
 have : preB ts ts.length = false := by
  unfold preB
  rw [List.all_eq_false]
  exact ⟨k, List.mem_range.2 hk, by rw [ht]; simp [h]⟩
 unfold schB
 rw [this]
 simp
theorem getD_app_l {α : Type} {l m : List α} {j : Nat} {d : α} (h : j < l.length) : (l ++ m).getD j d = l.getD j d := by
 rw [List.getD_eq_getElem?_getD, List.getD_eq_getElem?_getD, List.getElem?_append_left h]
theorem getD_app_r {α : Type} {l : List α} {x d : α} {j : Nat} (h : l.length = j) : (l ++ [x]).getD j d = x := by
 rw [List.getD_eq_getElem?_getD, List.getElem?_append_right (by omega), h, Nat.sub_self]
 rfl
theorem deps_take (ts : List Ta) : ∀ (k j : Nat), j < k → k ≤ ts.length → (deps (ts.take k)).getD j 0 = (deps (ts.take (j + 1))).getD j 0
 | 0, j, h, _ => absurd h (by omega)
 | k + 1, j, h, hk => by
  by_cases e : j = k
  · subst e; rfl
  · have hlt : k < ts.length := by omega
    rw [take_snoc (List.getElem?_eq_getElem hlt), deps_snoc, getD_app_l (by rw [deps_length]; simp; omega)]
    exact deps_take ts k j (by omega) (by omega)
theorem deps_at {ts : List Ta} {j k : Nat} {t : Ta} (ht : ts[j]? = some t) (hj : j < k) (hk : k ≤ ts.length) : (deps (ts.take k)).getD j 0 = depI (deps (ts.take j)) t := by
 have hl : j < ts.length := by omega
 rw [deps_take ts k j hj hk, take_snoc ht, deps_snoc, getD_app_r (by rw [deps_length]; simp; omega)]
def depA (ts : List Ta) (j : Nat) : Int := (deps ts).getD j 0
theorem depA_at {ts : List Ta} {j : Nat} {t : Ta} (ht : ts[j]? = some t) : depA ts j = depI (deps (ts.take j)) t := by
 have hj := (List.getElem?_eq_some_iff.1 ht).1
 unfold depA
 have := deps_at ht hj (Nat.le_refl _)
 rwa [List.take_length] at this
theorem bel_par {ahead : List Ta} {t : Ta} (h : belB ahead t = true) : (t.par = -1 ∧ t.ref = -1 ∧ rootB t = true) ∨ (0 ≤ t.par ∧ t.par < ahead.length ∧ rootB t = false ∧ (0 ≤ t.ref ∧ t.ref < t.cs.length) ∧ t.ref ≠ t.key ∧ kinB ahead t = true) := by
 unfold belB at h
 rcases Bool.or_eq_true_iff.1 h with h | h
 · have h' := of_decide_eq_true h
   exact Or.inl ⟨h'.2, h'.1, h⟩
 · obtain ⟨h1, h2⟩ := Bool.and_eq_true_iff.1 h
   obtain ⟨h3, h4, h5, h6⟩ := of_decide_eq_true h1
   refine Or.inr ⟨h5, h6, ?_, h3, h4, h2⟩
   unfold rootB
   apply decide_eq_false
   omega
theorem tab_parts {ahead : List Ta} {ds : List Int} {t : Ta} (h : tabB ahead ds t = true) : colsB t = true ∧ belB ahead t = true ∧ depI ds t ≤ 8 := by
 unfold tabB at h
 obtain ⟨h1, h2⟩ := Bool.and_eq_true_iff.1 h
 obtain ⟨h3, h4⟩ := Bool.and_eq_true_iff.1 h2
 exact ⟨h1, h3, of_decide_eq_true h4⟩
theorem cols_parts {t : Ta} (h : colsB t = true) : (1 ≤ t.cs.length ∧ t.cs.length ≤ 8) ∧ t.cs.all colK = true ∧ namedB (t.cs.map (·.nm)) = true ∧ (0 ≤ t.key ∧ t.key < t.cs.length) ∧ nlAt t.cs t.key = false := by
 unfold colsB at h
 obtain ⟨h1, h⟩ := Bool.and_eq_true_iff.1 h
 obtain ⟨h2, h⟩ := Bool.and_eq_true_iff.1 h
 obtain ⟨h3, h⟩ := Bool.and_eq_true_iff.1 h
 obtain ⟨h4, h5⟩ := Bool.and_eq_true_iff.1 h
 exact ⟨of_decide_eq_true h1, h2, h3, of_decide_eq_true h4, by simpa using h5⟩
theorem dep_par {ts : List Ta} {k j : Nat} {t : Ta} (hp : preB ts k = true) (hj : j < k) (ht : ts[j]? = some t) :
  (t.par = -1 ∧ t.ref = -1 ∧ depA ts j = 1) ∨ (0 ≤ t.par ∧ t.par < j ∧ depA ts j = depA ts t.par.toNat + 1) := by
 have hjl := (List.getElem?_eq_some_iff.1 ht).1
 obtain ⟨_, hb, _⟩ := tab_parts (pre_at hp hj ht)
 rw [depA_at ht]
 unfold depI
 rcases bel_par hb with ⟨h1, h2, h3⟩ | ⟨h1, h2, h3, _⟩
 · rw [if_pos h3]; exact Or.inl ⟨h1, h2, rfl⟩
 · rw [if_neg (by simp [h3])]
   have h2' : t.par < j := by rw [List.length_take] at h2; omega
   refine Or.inr ⟨h1, h2', ?_⟩
   have hpl : t.par.toNat < ts.length := by omega
   rw [depA_at (List.getElem?_eq_getElem hpl), deps_at (List.getElem?_eq_getElem hpl) (show t.par.toNat < j by omega) (by omega)]
theorem dep_range {ts : List Ta} {k : Nat} (hp : preB ts k = true) : ∀ (n j : Nat), j < n → j < k → k ≤ ts.length → 1 ≤ depA ts j ∧ depA ts j ≤ 8
 | 0, j, h, _, _ => absurd h (by omega)
 | n + 1, j, hn, hj, hk => by
  have hjl : j < ts.length := by omega
  have ht := List.getElem?_eq_getElem hjl
  have h8 := (tab_parts (pre_at hp hj ht)).2.2
  rw [← depA_at ht] at h8
  rcases dep_par hp hj ht with ⟨_, _, e⟩ | ⟨h1, h2, e⟩
  · omega
  · have := (dep_range hp n ts[j].par.toNat (by omega) (by omega) hk).1
    omega
theorem sch_parts {ts : List Ta} (h : schB ts = true) : (1 ≤ ts.length ∧ ts.length ≤ 12) ∧ preB ts ts.length = true ∧ namedB (ts.map (·.nm)) = true := by
 unfold schB at h
 obtain ⟨h1, h2⟩ := Bool.and_eq_true_iff.1 h
 obtain ⟨h3, h4⟩ := Bool.and_eq_true_iff.1 h2
 exact ⟨of_decide_eq_true h1, h3, h4⟩
theorem sch_len {ts : List Ta} (h : ¬ (1 ≤ ts.length ∧ ts.length ≤ 12)) : schB ts = false := by unfold schB; rw [decide_eq_false h]; rfl
theorem kAt_at {l : List Co} {i : Int} {c : Co} (h : l[i.toNat]? = some c) : kAt l i = c.k := by unfold kAt; rw [h]; rfl
theorem nlAt_at {l : List Co} {i : Int} {c : Co} (h : l[i.toNat]? = some c) : nlAt l i = c.nl := by unfold nlAt; rw [h]; rfl
end Go.Proofs.YtceoficoappkpaaGreatDoor
