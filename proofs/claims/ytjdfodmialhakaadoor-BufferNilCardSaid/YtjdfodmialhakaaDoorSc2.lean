/- The reference's Name; schema.named: are names names, no two the same? -/
import Derived.Test.YtjdfodmialhakaaDoorSc1
import Derived.Maps.OwnOps
import Derived.Maps.Views
namespace Go.Proofs.YtjdfodmialhakaaDoor
open Go.RowKit

set_option maxRecDepth 100000 in
theorem refname_any (s : ByteArray) (w : World) (hs : s.size ≤ 140737488355328) :
    Calls Tryd.prog 139 #[.string s] w fun r w' => r = .returned (.bool (nameB s)) ∧ w = w' := by
  generalize hM : nameB s = M
  have HM := Lib.hid hM
  clear hM
  go_enter Tryd.func139, Tryd.ntmps139
  go_wp2
  go_loop [3] (fun i => ∃ k : Nat, k ≤ s.size ∧ i = .int .i64 k ∧ Hid ((s.data.toList.take k).all (fun c => chB c.toNat) = true)) (fun i => s.size - (intOf i).toNat)
  case atStart => exact ⟨0, by omega, rfl, (by simp : _ = _)⟩
  case round =>
    obtain ⟨k, hk, rfl, HS⟩ := hrel
    by_cases hlt : k < s.size
    · obtain ⟨v, hv⟩ : ∃ v : Int, v = ((s.data.toList.getD k 0).toNat : Int) := ⟨_, rfl⟩
      have c1 : ∀ hh, ((s[k]'hh).toNat : Int) = v := fun hh => by rw [hv, byte_at s k hh]
      have HV := Lib.hid hv
      have hlt' : (k : Int) < s.size := by omega
      clear hv
      cases hc : chB v
      · have hf := chars_not hlt (by rw [← HV.out]; exact hc)
        have hMf : Hid (M = false) := by show _ = _; rw [← HM.out]; unfold nameB; rw [hf]; rfl
        have hc' := of_decide_eq_false hc
        clear hf hc HM
        by_cases h97 : v < 97
        · have g97 : ¬ 97 ≤ v := by omega
          by_cases h48 : v < 48
          · have g48 : ¬ 48 ≤ v := by omega
            clear hc'
            go_wp2
            go_ret
            exact ⟨ret_bool hMf.out.symm, rfl⟩
          · have h57 : 57 < v := by omega
            have g57 : ¬ v ≤ 57 := by omega
            have g48 : 48 ≤ v := by omega
            clear hc'
            go_wp2
            go_ret
            exact ⟨ret_bool hMf.out.symm, rfl⟩
        · have h122 : 122 < v := by omega
          have h57 : 57 < v := by omega
          have g122 : ¬ v ≤ 122 := by omega
          have g57 : ¬ v ≤ 57 := by omega
          have g97 : 97 ≤ v := by omega
          have g48 : 48 ≤ v := by omega
          clear hc'
          go_wp2
          go_ret
          exact ⟨ret_bool hMf.out.symm, rfl⟩
      · have hS' := chars_step hlt HS.out (by rw [← HV.out]; exact hc)
        have hc' := of_decide_eq_true hc
        clear hc
        by_cases h97 : v < 97
        · have h48 : 48 ≤ v := by omega
          have h57 : v ≤ 57 := by omega
          have g97 : ¬ 97 ≤ v := by omega
          clear hc'
          go_wp2
          go_round
          case rel => exact ⟨k + 1, by omega, by go_num, hS'⟩
          case measure => simp [intOf]; omega
        · have h122 : v ≤ 122 := by omega
          have g97 : 97 ≤ v := by omega
          clear hc'
          go_wp2
          go_round
          case rel => exact ⟨k + 1, by omega, by go_num, hS'⟩
          case measure => simp [intOf]; omega
    · obtain rfl : k = s.size := by omega
      have hf := chars_end HS.out
      have hMf : Hid (M = (decide (1 ≤ s.size) && decide (s.size ≤ 16))) := by show _ = _; rw [← HM.out]; unfold nameB; rw [hf]; rfl
      clear hf HM HS
      by_cases h1 : 1 ≤ s.size
      · go_wp2
        go_ret
        exact ⟨ret_bool (by rw [hMf.out, decide_eq_true h1, Bool.true_and]; exact decide_eq_decide.2 (by omega)), rfl⟩
      · go_wp2
        go_ret
        exact ⟨ret_bool (by rw [hMf.out, decide_eq_false h1]; rfl), rfl⟩

/-! Rows of texts. -/
def SRow (w : World) (A : Option Addr) (l : List ByteArray) : Prop :=
  l.length ≤ 8796093022208 ∧ (l ≠ [] → ∃ b off, A = some ⟨b, off, none⟩ ∧ b < w.heap.size ∧ ∀ i v, l[i]? = some v → w.cell? ⟨b, off + i, none⟩ = some (.string v))
theorem SRow.ext {w w' : World} {A : Option Addr} {l : List ByteArray} (h : SRow w A l) (hb : Below w.heap.size w w') : SRow w' A l := by
  refine ⟨h.1, fun hl => ?_⟩
  obtain ⟨b, off, rfl, hlt, hc⟩ := h.2 hl
  exact ⟨b, off, rfl, Nat.lt_of_lt_of_le hlt hb.size, fun i v hi => (hb.cell (p := ⟨b, _, none⟩) hlt).trans (hc i v hi)⟩
theorem SRow.at_ {w : World} {A : Option Addr} {l : List ByteArray} (h : SRow w A l) {k : Nat} (hk : k < l.length) :
    ∃ (b off : Nat) (v : ByteArray), A = some ⟨b, off, none⟩ ∧ b < w.heap.size ∧ l[k]? = some v ∧ v ∈ l ∧ w.cell? ⟨b, off + k, none⟩ = some (.string v) := by
  obtain ⟨b, off, rfl, hlt, hc⟩ := h.2 (by intro e; simp [e] at hk)
  have hv := List.getElem?_eq_getElem hk
  exact ⟨b, off, l[k], rfl, hlt, hv, List.getElem_mem hk, hc k _ hv⟩
theorem SRow.of_own {w : World} {base n c : Nat} {e : TypeId} {A : Option Addr} {l : List ByteArray} (hlen : l.length ≤ 8796093022208)
    (h : w.ownsRow base e 1 (.slice A n c) n (l.map Value.string)) : SRow w A l ∧ n = l.length := by
  have hn : n = l.length := by have := h.1; simp at this; omega
  refine ⟨⟨hlen, fun hl => ?_⟩, hn⟩
  have hpos : 0 < n := by rw [hn]; exact List.length_pos_iff.2 hl
  obtain ⟨g, cap, hv, _, hlt⟩ := h.form hpos
  have hA : A = some ⟨g, 0, none⟩ := by injection hv
  subst hA
  refine ⟨g, 0, rfl, hlt, fun i v hi => ?_⟩
  have hc := h.cells (g := g) rfl i (.string v) (by rw [List.getElem?_map, hi]; rfl)
  have e : (⟨g, 0, none⟩ : Addr).add i = ⟨g, 0 + i, none⟩ := by
    unfold Addr.add; split
    · next h0 => subst h0; rfl
    · simp
  rwa [e] at hc
def namedB (l : List ByteArray) : Bool := l.all nameB && decide l.Nodup
def lks (D : DataW Unit) (l : List ByteArray) : Prop := Maps.IsMap D ∧ ∀ s : ByteArray, (s ∈ l → D.atKey (.string s.data.toList) (.lit (.int .i64 0)) = .lit (.int .i64 1)) ∧ (s ∉ l → D.atKey (.string s.data.toList) (.lit (.int .i64 0)) = .lit (.int .i64 0))
theorem str_inj {s t : ByteArray} (h : s.data.toList = t.data.toList) : s = t := by
  obtain ⟨⟨a⟩⟩ := s
  obtain ⟨⟨b⟩⟩ := t
  simp only at h
  rw [h]
theorem lks_nil : lks (.map []) [] := ⟨Maps.isMap_empty, fun s => ⟨(fun h => by cases h), fun _ => rfl⟩⟩
theorem lks_put {D : DataW Unit} {l : List ByteArray} (h : lks D l) (s : ByteArray) : lks (D.put (.string s.data.toList) (.lit (.int .i64 1))) (l ++ [s]) := by
  refine ⟨h.1.put _ _, fun t => ?_⟩
  by_cases hts : t = s
  · subst hts
    rw [Maps.atKey_put_same h.1 (show WideAt.IsKeyLit (.string t.data.toList) from trivial)]
    exact ⟨fun _ => rfl, fun hn => absurd (by simp) hn⟩
  · rw [Maps.atKey_put_other (fun e => hts (str_inj (by injection e)))]
    have : t ∈ l ++ [s] ↔ t ∈ l := by simp [hts]
    exact ⟨fun hm => (h.2 t).1 (this.1 hm), fun hm => (h.2 t).2 (fun x => hm (this.2 x))⟩
theorem named_step {l : List ByteArray} {k : Nat} {s : ByteArray} (hk : l[k]? = some s) (h : (l.take k).all nameB = true ∧ (l.take k).Nodup) (hn : nameB s = true) (hm : s ∉ l.take k) : Hid ((l.take (k + 1)).all nameB = true ∧ (l.take (k + 1)).Nodup) := by
  obtain ⟨hlt, e⟩ := List.getElem?_eq_some_iff.1 hk
  show _ ∧ _
  rw [List.take_succ_eq_append_getElem hlt, e]
  refine ⟨by rw [List.all_append, h.1]; simp [hn], ?_⟩
  rw [List.nodup_append]
  exact ⟨h.2, by simp, fun a ha b hb => by rintro rfl; simp at hb; subst hb; exact hm ha⟩
theorem take_snoc {α : Type} {l : List α} {k : Nat} {s : α} (hk : l[k]? = some s) : l.take (k + 1) = l.take k ++ [s] := by
  obtain ⟨hlt, e⟩ := List.getElem?_eq_some_iff.1 hk
  rw [List.take_succ_eq_append_getElem hlt, e]
theorem named_not1 {l : List ByteArray} {k : Nat} {s : ByteArray} (hk : l[k]? = some s) (hn : nameB s = false) : namedB l = false := by
  have : l.all nameB = false := by
    rw [List.all_eq_false]
    exact ⟨s, List.mem_of_getElem? hk, by simp [hn]⟩
  unfold namedB
  rw [this]
  rfl
theorem named_not2 {l : List ByteArray} {k : Nat} {s : ByteArray} (hk : l[k]? = some s) (hm : s ∈ l.take k) : namedB l = false := by
  unfold namedB
  rw [decide_eq_false, Bool.and_false]
  intro h
  have h2 : (l.take (k + 1)).Nodup := h.sublist (List.take_sublist _ _)
  rw [take_snoc hk, List.nodup_append] at h2
  exact h2.2.2 s hm s (by simp) rfl
theorem own_map_below {H : Type} {w w' : World} {P : Program} {k : TypeId} {R : Value → Option (DataW H × List MemPlace)} {b n : Nat} {D : DataW H} (h : w.ownsMap P k R b n D) (hb : Below w.heap.size w w') : w'.ownsMap P k R b n D := by
  have hlt := h.lt
  obtain ⟨es, clock, hh, F, hs, hD⟩ := h
  exact ⟨es, clock, (hb.block b hlt).trans hh, F, hs, hD⟩
set_option maxRecDepth 100000 in
set_option maxHeartbeats 400000 in
theorem named_any (l : List ByteArray) (A : Option Addr) (c : Nat) (w : World) (hl : SRow w A l) (hz : ∀ s ∈ l, s.size ≤ 140737488355328) :
    Calls Tryd.prog 171 #[.slice A l.length c] w fun r w' => r = .returned (.bool (namedB l)) ∧ Below w.heap.size w w' := by
  have law := Maps.string_keyed (P := Tryd.prog) Tryd.underlying9
  have hmm := @run_makeMap Tryd.prog
  have hz0 : ∀ W : World, (zeroValue 3).run Tryd.prog W = .ok (.int .i64 0) W := fun W => by kernel_rfl
  have Hz0 := Lib.hid hz0
  have HZ := Lib.hid hz
  have HN := Lib.hid (fun (s : ByteArray) (W : World) (h : s.size ≤ 140737488355328) => name_any s W h)
  have hlen := hl.1
  have HL := Lib.hid hl
  generalize hM : namedB l = M
  have HM := Lib.hid hM
  clear hM hl hz0 hz
  go_enter Tryd.func171, Tryd.ntmps171
  go_wp2
  clear hmm
  go_loopw [9] (fun i wr => ∃ (k : Nat) (D : DataW Unit), k ≤ l.length ∧ i = .int .i64 k ∧ Hid ((l.take k).all nameB = true ∧ (l.take k).Nodup) ∧ Hid (lks D (l.take k)) ∧ wr.ownsMap Tryd.prog 9 (plainElem Tryd.prog 3) w.heap.size k D ∧ Below w.heap.size w wr) (fun i _ => l.length - (intOf i).toNat)
  case atStart => exact ⟨0, .map [], by omega, rfl, ⟨by simp, by simp⟩, lks_nil, World.ownsMap_made _ _ _ _, (Below.refl _ _).alloc (Nat.le_refl _) _⟩
  case round =>
    obtain ⟨k, D, hk, rfl, HS, HD, hown, hbw⟩ := hrel
    by_cases hlt : k < l.length
    · obtain ⟨b, off, s, rfl, hb, hlk, hmem, c0⟩ := (HL.out.ext hbw).at_ hlt
      have hsz := HZ.out s hmem
      have HC := Lib.hid (HN.out s wr hsz)
      have HK := Lib.hid hlk
      have hkey : keyOf Tryd.prog 9 (.string s) = some (.string s.data.toList) := WideMaps.keyOf_string_mk Tryd.underlying9 (by unfold maxLen; omega)
      have HKEY := Lib.hid hkey
      clear hkey hmem hlk
      cases hn : nameB s
      · rw [hn] at HC
        have hMf : Hid (M = false) := by show _ = _; rw [← HM.out]; exact named_not1 HK.out hn
        clear hn
        go_wp2_with fail
        refine HC.out.mono ?_
        rintro r w1 ⟨rfl, hb1⟩
        have hbw1 := bt hbw hb1
        clear hb1
        go_wp2_with fail
        go_ret
        exact ⟨ret_bool hMf.out.symm, hbw1⟩
      · rw [hn] at HC
        have HNM := Lib.hid hn
        clear hn
        go_wp2_with fail
        refine HC.out.mono ?_
        rintro r w1 ⟨rfl, hb1⟩
        have hbw1 := bt hbw hb1
        have hown1 : w1.ownsMap Tryd.prog 9 (plainElem Tryd.prog 3) w.heap.size k D := own_map_below hown hb1
        clear hb1 hown hbw
        obtain ⟨c, hrun, hat, _⟩ := hown1.lookup_int law Tryd.underlying217 Tryd.underlying3 (Hz0.out _) HKEY.out
        by_cases hm : s ∈ l.take k
        · have hc1 := hat.symm.trans ((HD.out.2 s).1 hm)
          obtain rfl : c = 1 := by injection hc1 with e; injection e
          have hMf : Hid (M = false) := by show _ = _; rw [← HM.out]; exact named_not2 HK.out hm
          clear hat hm hc1
          go_wp2_with fail
          go_ret
          exact ⟨ret_bool hMf.out.symm, hbw1⟩
        · have hc1 := hat.symm.trans ((HD.out.2 s).2 hm)
          obtain rfl : c = 0 := by injection hc1 with e; injection e
          have HS' := named_step HK.out HS.out HNM.out hm
          have HTK := Lib.hid (take_snoc HK.out)
          clear hat hm hc1
          go_wp2_with (at_mapUpdate; refine wpList_mapUpdate_own _ rfl _ _ _ 217 rfl 9 3 law Tryd.underlying217 _ w.heap.size k _ rfl hown1 (by unfold maxLen; omega) _ _ _ rfl rfl HKEY.out _ [] (plainElem_int Tryd.underlying3 (by decide)) ?_)
          intro w2 hown2 hg2
          have hbw2 := hbw1.grown hg2 hbw1.size (fun j hj => by cases hj; exact Nat.le_refl _)
          clear hown1 hg2 hbw1 hrun
          go_wp2_with fail
          go_roundw
          case rel => exact ⟨k + 1, _, by omega, by go_num, HS', (by show lks _ _; rw [HTK.out]; exact lks_put HD.out s), hown2, hbw2⟩
          case measure => simp [intOf]; omega
    · obtain rfl : k = l.length := by omega
      have hs := HS.out
      rw [List.take_length] at hs
      have hMt : Hid (M = true) := by show _ = _; rw [← HM.out]; unfold namedB; rw [hs.1, decide_eq_true hs.2]; rfl
      clear hs hown
      go_wp2_with fail
      go_ret
      exact ⟨ret_bool hMt.out.symm, hbw⟩
end Go.Proofs.YtjdfodmialhakaaDoor
