/- Several texts in one: see each part's head. -/
import Derived.Maps.OwnOps
import Derived.Maps.Views
import Derived.Test.YtfekohonidggjaaGreatDoorJ5
import Derived.Test.YtfekohonidggjaaGreatDoorJ4
/- The reference's Name; schema.named: are names names, no two the same? -/
namespace Go.Proofs.YtfekohonidggjaaGreatDoor
open Go.RowKit


/-! Rows of texts. -/
def SRow (w : World) (A : Option Addr) (l : List ByteArray) : Prop :=
  l.length ≤ 8796093022208 ∧ (l ≠ [] → ∃ b off, A = some ⟨b, off, none⟩ ∧ b < w.heap.size ∧ ∀ i v, l[i]? = some v → w.cell? ⟨b, off + i, none⟩ = some (.string v))
theorem SRow.ext {w w' : World} {A : Option Addr} {l : List ByteArray} (h : SRow w A l) (hb : Below w.heap.size w w') : SRow w' A l := by
  refine ⟨h.1, fun hl => ?_⟩
  obtain ⟨b, off, rfl, hlt, hc⟩ := h.2 hl
  exact ⟨b, off, rfl, Nat.lt_of_lt_of_le hlt hb.size, fun i v hi => (hb.cell (p := ⟨b, _, none⟩) hlt).trans (hc i v hi)⟩
theorem SRow.at_ {w : World} {A : Option Addr} {l : List ByteArray} (h : SRow w A l) {k : Nat} (hk : k < l.length) :
    ∃ (b off : Nat) (v : ByteArray), A = some ⟨b, off, none⟩ ∧ b < w.heap.size ∧ l[k]? = some v ∧ v ∈ l ∧ w.cell? ⟨b, off + k, none⟩ = some (.string v) := by
  obtain ⟨b, off, rfl, hlt, hc⟩ := h.2 (by intro e; simp [e] at hk)
  have hv := List.getElem?_eq_getElem hk
  exact ⟨b, off, l[k], rfl, hlt, hv, List.getElem_mem hk, hc k _ hv⟩
theorem SRow.of_own {w : World} {base n c : Nat} {e : TypeId} {A : Option Addr} {l : List ByteArray} (hlen : l.length ≤ 8796093022208)
    (h : w.ownsRow base e 1 (.slice A n c) n (l.map Value.string)) : SRow w A l ∧ n = l.length := by
  have hn : n = l.length := by have := h.1; simp at this; omega
  refine ⟨⟨hlen, fun hl => ?_⟩, hn⟩
  have hpos : 0 < n := by rw [hn]; exact List.length_pos_iff.2 hl
  obtain ⟨g, cap, hv, _, hlt⟩ := h.form hpos
  have hA : A = some ⟨g, 0, none⟩ := by injection hv
  subst hA
  refine ⟨g, 0, rfl, hlt, fun i v hi => ?_⟩
  have hc := h.cells (g := g) rfl i (.string v) (by rw [List.getElem?_map, hi]; rfl)
  have e : (⟨g, 0, none⟩ : Addr).add i = ⟨g, 0 + i, none⟩ := by
    unfold Addr.add; split
    · next h0 => subst h0; rfl
    · simp
  rwa [e] at hc
def namedB (l : List ByteArray) : Bool := l.all nameB && decide l.Nodup
def lks (D : DataW Unit) (l : List ByteArray) : Prop := Maps.IsMap D ∧ ∀ s : ByteArray, (s ∈ l → D.atKey (.string s.data.toList) (.lit (.int .i64 0)) = .lit (.int .i64 1)) ∧ (s ∉ l → D.atKey (.string s.data.toList) (.lit (.int .i64 0)) = .lit (.int .i64 0))
theorem str_inj {s t : ByteArray} (h : s.data.toList = t.data.toList) : s = t := by
  obtain ⟨⟨a⟩⟩ := s
  obtain ⟨⟨b⟩⟩ := t
  simp only at h
  rw [h]
theorem lks_nil : lks (.map []) [] := ⟨Maps.isMap_empty, fun s => ⟨(fun h => by cases h), fun _ => rfl⟩⟩
theorem lks_put {D : DataW Unit} {l : List ByteArray} (h : lks D l) (s : ByteArray) : lks (D.put (.string s.data.toList) (.lit (.int .i64 1))) (l ++ [s]) := by
  refine ⟨h.1.put _ _, fun t => ?_⟩
  by_cases hts : t = s
  · subst hts
    rw [Maps.atKey_put_same h.1 (show WideAt.IsKeyLit (.string t.data.toList) from trivial)]
    exact ⟨fun _ => rfl, fun hn => absurd (by simp) hn⟩
  · rw [Maps.atKey_put_other (fun e => hts (str_inj (by injection e)))]
    have : t ∈ l ++ [s] ↔ t ∈ l := by simp [hts]
    exact ⟨fun hm => (h.2 t).1 (this.1 hm), fun hm => (h.2 t).2 (fun x => hm (this.2 x))⟩
theorem named_step {l : List ByteArray} {k : Nat} {s : ByteArray} (hk : l[k]? = some s) (h : (l.take k).all nameB = true ∧ (l.take k).Nodup) (hn : nameB s = true) (hm : s ∉ l.take k) : Hid ((l.take (k + 1)).all nameB = true ∧ (l.take (k + 1)).Nodup) := by
  obtain ⟨hlt, e⟩ := List.getElem?_eq_some_iff.1 hk
  show _ ∧ _
  rw [List.take_succ_eq_append_getElem hlt, e]
  refine ⟨by rw [List.all_append, h.1]; simp [hn], ?_⟩
  rw [List.nodup_append]
  exact ⟨h.2, by simp, fun a ha b hb => by rintro rfl; simp at hb; subst hb; exact hm ha⟩
theorem take_snoc {α : Type} {l : List α} {k : Nat} {s : α} (hk : l[k]? = some s) : l.take (k + 1) = l.take k ++ [s] := by
  obtain ⟨hlt, e⟩ := List.getElem?_eq_some_iff.1 hk
  rw [List.take_succ_eq_append_getElem hlt, e]
theorem named_not1 {l : List ByteArray} {k : Nat} {s : ByteArray} (hk : l[k]? = some s) (hn : nameB s = false) : namedB l = false := by
  have : l.all nameB = false := by
    rw [List.all_eq_false]
    exact ⟨s, List.mem_of_getElem? hk, by simp [hn]⟩
  unfold namedB
  rw [this]
  rfl
theorem named_not2 {l : List ByteArray} {k : Nat} {s : ByteArray} (hk : l[k]? = some s) (hm : s ∈ l.take k) : namedB l = false := by
  unfold namedB
  rw [decide_eq_false, Bool.and_false]
  intro h
  have h2 : (l.take (k + 1)).Nodup := h.sublist (List.take_sublist _ _)
  rw [take_snoc hk, List.nodup_append] at h2
  exact h2.2.2 s hm s (by simp) rfl
theorem own_map_below {H : Type} {w w' : World} {P : Program} {k : TypeId} {R : Value → Option (DataW H × List MemPlace)} {b n : Nat} {D : DataW H} (h : w.ownsMap P k R b n D) (hb : Below w.heap.size w w') : w'.ownsMap P k R b n D := by
  have hlt := h.lt
  obtain ⟨es, clock, hh, F, hs, hD⟩ := h
  exact ⟨es, clock, (hb.block b hlt).trans hh, F, hs, hD⟩
set_option maxRecDepth 100000 in
set_option maxHeartbeats 400000 in
theorem named_any (l : List ByteArray) (A : Option Addr) (c : Nat) (w : World) (hl : SRow w A l) (hz : ∀ s ∈ l, s.size ≤ 140737488355328) :
    Calls Tryz.prog 147 #[.slice A l.length c] w fun r w' => r = .returned (.bool (namedB l)) ∧ Below w.heap.size w w' := by
  have law := Maps.string_keyed (P := Tryz.prog) Tryz.underlying9
  have hmm := @run_makeMap Tryz.prog
  have hz0 : ∀ W : World, (zeroValue 3).run Tryz.prog W = .ok (.int .i64 0) W := fun W => by kernel_rfl
  have Hz0 := Lib.hid hz0
  have HZ := Lib.hid hz
  have HN := Lib.hid (fun (s : ByteArray) (W : World) (h : s.size ≤ 140737488355328) => name_any s W h)
  have hlen := hl.1
  have HL := Lib.hid hl
  generalize hM : namedB l = M
  have HM := Lib.hid hM
  clear hM hl hz0 hz
  go_enter Tryz.func147, Tryz.ntmps147
  go_wp2
  clear hmm
  go_loopw [9] (fun i wr => ∃ (k : Nat) (D : DataW Unit), k ≤ l.length ∧ i = .int .i64 k ∧ Hid ((l.take k).all nameB = true ∧ (l.take k).Nodup) ∧ Hid (lks D (l.take k)) ∧ wr.ownsMap Tryz.prog 9 (plainElem Tryz.prog 3) w.heap.size k D ∧ Below w.heap.size w wr) (fun i _ => l.length - (intOf i).toNat)
  case atStart => exact ⟨0, .map [], by omega, rfl, ⟨by simp, by simp⟩, lks_nil, World.ownsMap_made _ _ _ _, (Below.refl _ _).alloc (Nat.le_refl _) _⟩
  case round =>
    obtain ⟨k, D, hk, rfl, HS, HD, hown, hbw⟩ := hrel
    by_cases hlt : k < l.length
    · obtain ⟨b, off, s, rfl, hb, hlk, hmem, c0⟩ := (HL.out.ext hbw).at_ hlt
      have hsz := HZ.out s hmem
      have HC := Lib.hid (HN.out s wr hsz)
      have HK := Lib.hid hlk
      have hkey : keyOf Tryz.prog 9 (.string s) = some (.string s.data.toList) := WideMaps.keyOf_string_mk Tryz.underlying9 (by unfold maxLen; omega)
      have HKEY := Lib.hid hkey
      clear hkey hmem hlk
      cases hn : nameB s
      · rw [hn] at HC
        have hMf : Hid (M = false) := by show _ = _; rw [← HM.out]; exact named_not1 HK.out hn
        clear hn
        go_wp2_with fail
        refine HC.out.mono ?_
        rintro r w1 ⟨rfl, hb1⟩
        have hbw1 := bt hbw hb1
        clear hb1
        go_wp2_with fail
        go_ret
        exact ⟨ret_bool hMf.out.symm, hbw1⟩
      · rw [hn] at HC
        have HNM := Lib.hid hn
        clear hn
        go_wp2_with fail
        refine HC.out.mono ?_
        rintro r w1 ⟨rfl, hb1⟩
        have hbw1 := bt hbw hb1
        have hown1 : w1.ownsMap Tryz.prog 9 (plainElem Tryz.prog 3) w.heap.size k D := own_map_below hown hb1
        clear hb1 hown hbw
        obtain ⟨c, hrun, hat, _⟩ := hown1.lookup_int law Tryz.underlying229 Tryz.underlying3 (Hz0.out _) HKEY.out
        by_cases hm : s ∈ l.take k
        · have hc1 := hat.symm.trans ((HD.out.2 s).1 hm)
          obtain rfl : c = 1 := by injection hc1 with e; injection e
          have hMf : Hid (M = false) := by show _ = _; rw [← HM.out]; exact named_not2 HK.out hm
          clear hat hm hc1
          go_wp2_with fail
          go_ret
          exact ⟨ret_bool hMf.out.symm, hbw1⟩
        · have hc1 := hat.symm.trans ((HD.out.2 s).2 hm)
          obtain rfl : c = 0 := by injection hc1 with e; injection e
          have HS' := named_step HK.out HS.out HNM.out hm
          have HTK := Lib.hid (take_snoc HK.out)
          clear hat hm hc1
          go_wp2_with (at_mapUpdate; refine wpList_mapUpdate_own _ rfl _ _ _ 229 rfl 9 3 law Tryz.underlying229 _ w.heap.size k _ rfl hown1 (by unfold maxLen; omega) _ _ _ rfl rfl HKEY.out _ [] (plainElem_int Tryz.underlying3 (by decide)) ?_)
          intro w2 hown2 hg2
          have hbw2 := hbw1.grown hg2 hbw1.size (fun j hj => by cases hj; exact Nat.le_refl _)
          clear hown1 hg2 hbw1 hrun
          go_wp2_with fail
          go_roundw
          case rel => exact ⟨k + 1, _, by omega, by go_num, HS', (by show lks _ _; rw [HTK.out]; exact lks_put HD.out s), hown2, hbw2⟩
          case measure => simp [intOf]; omega
    · obtain rfl : k = l.length := by omega
      have hs := HS.out
      rw [List.take_length] at hs
      have hMt : Hid (M = true) := by show _ = _; rw [← HM.out]; unfold namedB; rw [hs.1, decide_eq_true hs.2]; rfl
      clear hs hown
      go_wp2_with fail
      go_ret
      exact ⟨ret_bool hMt.out.symm, hbw⟩
end Go.Proofs.YtfekohonidggjaaGreatDoor

/- Schemas, the plain side: which may be (schB), depths, roots. -/
namespace Go.Proofs.YtfekohonidggjaaGreatDoor
open Go.RowKit

def colK (c : Co) : Bool := decide (1 ≤ c.k ∧ c.k ≤ 5)
def kAt (l : List Co) (i : Int) : Int := (l[i.toNat]?.map (·.k)).getD 0
def nlAt (l : List Co) (i : Int) : Bool := (l[i.toNat]?.map (·.nl)).getD false
def colsB (t : Ta) : Bool := decide (1 ≤ t.cs.length ∧ t.cs.length ≤ 8) && (t.cs.all colK && (namedB (t.cs.map (·.nm)) && (decide (0 ≤ t.key ∧ t.key < t.cs.length) && !(nlAt t.cs t.key))))
def rootB (t : Ta) : Bool := decide (t.ref = -1 ∧ t.par = -1)
def relB (n : Nat) (t : Ta) : Bool := decide ((0 ≤ t.ref ∧ t.ref < t.cs.length) ∧ t.ref ≠ t.key ∧ 0 ≤ t.par ∧ t.par < n)
def kinB (ahead : List Ta) (t : Ta) : Bool := match ahead[t.par.toNat]? with
  | some p => decide (kAt p.cs p.key = kAt t.cs t.ref)
  | none => false
def belB (ahead : List Ta) (t : Ta) : Bool := rootB t || (relB ahead.length t && kinB ahead t)
def depI (ds : List Int) (t : Ta) : Int := if rootB t then 1 else ds.getD t.par.toNat 0 + 1
def tabB (ahead : List Ta) (ds : List Int) (t : Ta) : Bool := colsB t && (belB ahead t && decide (depI ds t ≤ 8))
def deps (l : List Ta) : List Int := l.foldl (fun ds t => ds ++ [depI ds t]) []
theorem deps_snoc (l : List Ta) (t : Ta) : deps (l ++ [t]) = deps l ++ [depI (deps l) t] := by simp [deps, List.foldl_append]
theorem deps_fold : ∀ (l : List Ta) (ds : List Int), (l.foldl (fun ds t => ds ++ [depI ds t]) ds).length = ds.length + l.length
  | [], ds => by simp
  | t :: l, ds => by rw [List.foldl_cons, deps_fold l]; simp; omega
theorem deps_length (l : List Ta) : (deps l).length = l.length := by unfold deps; rw [deps_fold]; simp
/-- The first k tables fit, each behind those ahead of it. -/
def preB (ts : List Ta) (k : Nat) : Bool := (List.range k).all fun i => match ts[i]? with
  | some t => tabB (ts.take i) (deps (ts.take i)) t
  | none => true
def schB (ts : List Ta) : Bool := decide (1 ≤ ts.length ∧ ts.length ≤ 12) && (preB ts ts.length && namedB (ts.map (·.nm)))
theorem pre_zero (ts : List Ta) : preB ts 0 = true := rfl
theorem pre_succ {ts : List Ta} {k : Nat} {t : Ta} (h : ts[k]? = some t) : preB ts (k + 1) = (preB ts k && tabB (ts.take k) (deps (ts.take k)) t) := by
  unfold preB
  rw [List.range_succ, List.all_append]
  simp only [List.all_cons, List.all_nil, Bool.and_true, h]
theorem pre_at {ts : List Ta} {k j : Nat} {t : Ta} (h : preB ts k = true) (hj : j < k) (ht : ts[j]? = some t) : tabB (ts.take j) (deps (ts.take j)) t = true := by
  have := List.all_eq_true.1 h j (List.mem_range.2 hj)
  rwa [ht] at this
theorem pre_mono {ts : List Ta} {k j : Nat} (h : preB ts k = true) (hj : j ≤ k) : preB ts j = true := by
  unfold preB at h ⊢
  rw [List.all_eq_true] at h ⊢
  exact fun i hi => h i (List.mem_range.2 (by have := List.mem_range.1 hi; omega))
theorem pre_not {ts : List Ta} {k : Nat} {t : Ta} (ht : ts[k]? = some t) (h : tabB (ts.take k) (deps (ts.take k)) t = false) : schB ts = false := by
  have hk := (List.getElem?_eq_some_iff.1 ht).1
  have : preB ts ts.length = false := by
    unfold preB
    rw [List.all_eq_false]
    exact ⟨k, List.mem_range.2 hk, by rw [ht]; simp [h]⟩
  unfold schB
  rw [this]
  simp
theorem getD_app_l {α : Type} {l m : List α} {j : Nat} {d : α} (h : j < l.length) : (l ++ m).getD j d = l.getD j d := by
  rw [List.getD_eq_getElem?_getD, List.getD_eq_getElem?_getD, List.getElem?_append_left h]
theorem getD_app_r {α : Type} {l : List α} {x d : α} {j : Nat} (h : l.length = j) : (l ++ [x]).getD j d = x := by
  rw [List.getD_eq_getElem?_getD, List.getElem?_append_right (by omega), h, Nat.sub_self]
  rfl
theorem deps_take (ts : List Ta) : ∀ (k j : Nat), j < k → k ≤ ts.length → (deps (ts.take k)).getD j 0 = (deps (ts.take (j + 1))).getD j 0
  | 0, j, h, _ => absurd h (by omega)
  | k + 1, j, h, hk => by
    by_cases e : j = k
    · subst e; rfl
    · have hlt : k < ts.length := by omega
      rw [take_snoc (List.getElem?_eq_getElem hlt), deps_snoc, getD_app_l (by rw [deps_length]; simp; omega)]
      exact deps_take ts k j (by omega) (by omega)
theorem deps_at {ts : List Ta} {j k : Nat} {t : Ta} (ht : ts[j]? = some t) (hj : j < k) (hk : k ≤ ts.length) : (deps (ts.take k)).getD j 0 = depI (deps (ts.take j)) t := by
  have hl : j < ts.length := by omega
  rw [deps_take ts k j hj hk, take_snoc ht, deps_snoc, getD_app_r (by rw [deps_length]; simp; omega)]
/-- Table j's depth. -/
def depA (ts : List Ta) (j : Nat) : Int := (deps ts).getD j 0
theorem depA_at {ts : List Ta} {j : Nat} {t : Ta} (ht : ts[j]? = some t) : depA ts j = depI (deps (ts.take j)) t := by
  have hj := (List.getElem?_eq_some_iff.1 ht).1
  unfold depA
  have := deps_at ht hj (Nat.le_refl _)
  rwa [List.take_length] at this
theorem bel_par {ahead : List Ta} {t : Ta} (h : belB ahead t = true) : (t.par = -1 ∧ t.ref = -1 ∧ rootB t = true) ∨ (0 ≤ t.par ∧ t.par < ahead.length ∧ rootB t = false ∧ (0 ≤ t.ref ∧ t.ref < t.cs.length) ∧ t.ref ≠ t.key ∧ kinB ahead t = true) := by
  unfold belB at h
  rcases Bool.or_eq_true_iff.1 h with h | h
  · have h' := of_decide_eq_true h
    exact Or.inl ⟨h'.2, h'.1, h⟩
  · obtain ⟨h1, h2⟩ := Bool.and_eq_true_iff.1 h
    obtain ⟨h3, h4, h5, h6⟩ := of_decide_eq_true h1
    refine Or.inr ⟨h5, h6, ?_, h3, h4, h2⟩
    unfold rootB
    apply decide_eq_false
    omega
theorem tab_parts {ahead : List Ta} {ds : List Int} {t : Ta} (h : tabB ahead ds t = true) : colsB t = true ∧ belB ahead t = true ∧ depI ds t ≤ 8 := by
  unfold tabB at h
  obtain ⟨h1, h2⟩ := Bool.and_eq_true_iff.1 h
  obtain ⟨h3, h4⟩ := Bool.and_eq_true_iff.1 h2
  exact ⟨h1, h3, of_decide_eq_true h4⟩
theorem cols_parts {t : Ta} (h : colsB t = true) : (1 ≤ t.cs.length ∧ t.cs.length ≤ 8) ∧ t.cs.all colK = true ∧ namedB (t.cs.map (·.nm)) = true ∧ (0 ≤ t.key ∧ t.key < t.cs.length) ∧ nlAt t.cs t.key = false := by
  unfold colsB at h
  obtain ⟨h1, h⟩ := Bool.and_eq_true_iff.1 h
  obtain ⟨h2, h⟩ := Bool.and_eq_true_iff.1 h
  obtain ⟨h3, h⟩ := Bool.and_eq_true_iff.1 h
  obtain ⟨h4, h5⟩ := Bool.and_eq_true_iff.1 h
  exact ⟨of_decide_eq_true h1, h2, h3, of_decide_eq_true h4, by simpa using h5⟩
/-- What a table's depth has to do with its parent's. -/
theorem dep_par {ts : List Ta} {k j : Nat} {t : Ta} (hp : preB ts k = true) (hj : j < k) (ht : ts[j]? = some t) :
    (t.par = -1 ∧ t.ref = -1 ∧ depA ts j = 1) ∨ (0 ≤ t.par ∧ t.par < j ∧ depA ts j = depA ts t.par.toNat + 1) := by
  have hjl := (List.getElem?_eq_some_iff.1 ht).1
  obtain ⟨_, hb, _⟩ := tab_parts (pre_at hp hj ht)
  rw [depA_at ht]
  unfold depI
  rcases bel_par hb with ⟨h1, h2, h3⟩ | ⟨h1, h2, h3, _⟩
  · rw [if_pos h3]; exact Or.inl ⟨h1, h2, rfl⟩
  · rw [if_neg (by simp [h3])]
    have h2' : t.par < j := by rw [List.length_take] at h2; omega
    refine Or.inr ⟨h1, h2', ?_⟩
    have hpl : t.par.toNat < ts.length := by omega
    rw [depA_at (List.getElem?_eq_getElem hpl), deps_at (List.getElem?_eq_getElem hpl) (show t.par.toNat < j by omega) (by omega)]
theorem dep_range {ts : List Ta} {k : Nat} (hp : preB ts k = true) : ∀ (n j : Nat), j < n → j < k → k ≤ ts.length → 1 ≤ depA ts j ∧ depA ts j ≤ 8
  | 0, j, h, _, _ => absurd h (by omega)
  | n + 1, j, hn, hj, hk => by
    have hjl : j < ts.length := by omega
    have ht := List.getElem?_eq_getElem hjl
    have h8 := (tab_parts (pre_at hp hj ht)).2.2
    rw [← depA_at ht] at h8
    rcases dep_par hp hj ht with ⟨_, _, e⟩ | ⟨h1, h2, e⟩
    · omega
    · have := (dep_range hp n ts[j].par.toNat (by omega) (by omega) hk).1
      omega
theorem sch_len {ts : List Ta} (h : ¬ (1 ≤ ts.length ∧ ts.length ≤ 12)) : schB ts = false := by unfold schB; rw [decide_eq_false h]; rfl
theorem kAt_at {l : List Co} {i : Int} {c : Co} (h : l[i.toNat]? = some c) : kAt l i = c.k := by unfold kAt; rw [h]; rfl
theorem nlAt_at {l : List Co} {i : Int} {c : Co} (h : l[i.toNat]? = some c) : nlAt l i = c.nl := by unfold nlAt; rw [h]; rfl
end Go.Proofs.YtfekohonidggjaaGreatDoor

/- A law for a region that draws its order and holds two appends in a row (the first may come anywhere among the others; the second, and what stores its value, come last): each operation is run once. -/
namespace Go.Proofs.YtfekohonidggjaaGreatDoor
open Go.RowKit

def Steps2 (P : Program) (ops : Array Oper) (Q : Exit → Act → World → Prop) (mask : List Bool) (L : List Value) (df : List Deferred) (ps : List Known) (dst : Nat → Nat) (a : Nat) (J V0 : World → Prop) (V1 : Value → World → Prop) (T : World → World → Prop) : Nat → List Oper → Prop
  | _, [] => True
  | i, o :: os => (if i = a then ∀ x w, J w → V0 w → StepGoal ps dst w (TurnBody P ops Q mask L df (fun v w' => T w w' ∧ V1 v w') w (dst i) o) (depsOf o) x
      else ∀ x w, J w → StepGoal ps dst w (StepBody P ops Q mask L df (ps.getD i kAny) w (dst i) o) (depsOf o) x) ∧ Steps2 P ops Q mask L df ps dst a J V0 V1 T (i + 1) os
theorem Steps2.at_ {P : Program} {ops : Array Oper} {Q : Exit → Act → World → Prop} {mask : List Bool} {L : List Value} {df : List Deferred} {ps : List Known} {dst : Nat → Nat} {a : Nat} {J V0 : World → Prop} {V1 : Value → World → Prop} {T : World → World → Prop} :
    ∀ (os : List Oper) (n i : Nat) (o : Oper), Steps2 P ops Q mask L df ps dst a J V0 V1 T n os → os[i]? = some o → (if n + i = a then ∀ x w, J w → V0 w → StepGoal ps dst w (TurnBody P ops Q mask L df (fun v w' => T w w' ∧ V1 v w') w (dst (n + i)) o) (depsOf o) x
      else ∀ x w, J w → StepGoal ps dst w (StepBody P ops Q mask L df (ps.getD (n + i) kAny) w (dst (n + i)) o) (depsOf o) x)
  | [], _, _, _, _, h => by simp at h
  | o' :: os, n, 0, o, hs, h => by
    simp only [List.getElem?_cons_zero, Option.some.injEq] at h
    subst h
    exact hs.1
  | o' :: os, n, i + 1, o, hs, h => by
    have := Steps2.at_ os (n + 1) i o hs.2 (by simpa using h)
    rw [show n + 1 + i = n + (i + 1) by omega] at this
    exact this
end Go.Proofs.YtfekohonidggjaaGreatDoor
