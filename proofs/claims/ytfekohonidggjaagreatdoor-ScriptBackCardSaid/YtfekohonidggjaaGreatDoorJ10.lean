/- Several texts in one: see each part's head. -/
import Derived.Test.YtfekohonidggjaaGreatDoorJ9
import Derived.Test.YtfekohonidggjaaGreatDoorJ6
/- What a reader of schemas knows while it reads; rows of tables of its own. Plain laws for schema.Get and the reference's Get. -/
namespace Go.Proofs.YtfekohonidggjaaGreatDoor
open Go.RowKit

def ccells (l : List Co) : List Value := l.flatMap fun c => [Value.string c.nm, .int .u8 c.k, .bool c.nl]
def tcells (l : List Ta) : List Value := l.flatMap fun t => [Value.string t.nm, .slice t.A t.cs.length t.c, .int .i64 t.key, .int .i64 t.ref, .int .i64 t.par]
theorem flat_get {α : Type} (f : α → List Value) (m : Nat) (hf : ∀ x, (f x).length = m) : ∀ (l : List α) (i q : Nat) (x : α), l[i]? = some x → q < m → (l.flatMap f)[i * m + q]? = (f x)[q]?
  | [], i, q, x, h, _ => by simp at h
  | y :: l, 0, q, x, h, hq => by
    have e : y = x := by simpa using h
    subst e
    rw [List.flatMap_cons, Nat.zero_mul, Nat.zero_add, List.getElem?_append_left (by rw [hf]; exact hq)]
  | y :: l, i + 1, q, x, h, hq => by
    rw [List.flatMap_cons, List.getElem?_append_right (by rw [hf, Nat.succ_mul]; omega), hf]
    have := flat_get f m hf l i q x (by simpa using h) hq
    rw [← this]
    congr 1
    rw [Nat.succ_mul]
    omega
theorem addr_addS (g i : Nat) : (⟨g, 0, none⟩ : Addr).add i = ⟨g, 0 + i, none⟩ := by
  unfold Addr.add
  split
  · next h0 => subst h0; rfl
  · simp
theorem CRow.of_own {w : World} {base n c : Nat} {e : TypeId} {A : Option Addr} {l : List Co} (hw : ∀ c ∈ l, c.wf) (hlen : l.length ≤ 5864062014805) (hn : n = l.length)
    (h : w.ownsRow base e 3 (.slice A n c) n (ccells l)) : CRow w A l := by
  refine ⟨hw, hlen, fun hl => ?_⟩
  have hpos : 0 < n := by rw [hn]; exact List.length_pos_iff.2 hl
  obtain ⟨g, cap, hv, _, hlt⟩ := h.form hpos
  have hA : A = some ⟨g, 0, none⟩ := by injection hv
  subst hA
  refine ⟨g, 0, rfl, hlt, fun i v hi => ?_⟩
  have hc := h.cells (g := g) rfl
  have k := fun q hq u hu => hc (i * 3 + q) u ((flat_get (fun c : Co => [Value.string c.nm, .int .u8 c.k, .bool c.nl]) 3 (fun _ => rfl) l i q v hi hq).trans hu)
  have k0 := k 0 (by omega) _ rfl
  have k1 := k 1 (by omega) _ rfl
  have k2 := k 2 (by omega) _ rfl
  rw [addr_addS] at k0 k1 k2
  exact ⟨k0, k1, k2⟩
theorem TRow.of_own {w : World} {base n c : Nat} {e : TypeId} {A : Option Addr} {l : List Ta} (hw : ∀ t ∈ l, t.wf ∧ CRow w t.A t.cs) (hlen : l.length ≤ 2199023255552) (hn : n = l.length)
    (h : w.ownsRow base e 5 (.slice A n c) n (tcells l)) : TRow w A c l := by
  refine ⟨hw, hlen, ?_, fun hl => ?_⟩
  · rcases h.2 with ⟨h1, _⟩ | ⟨g, cap, cur, h1, _, _, h2, _⟩
    · injection h1 with _ h2 _
      rw [← hn, h2]
      exact Nat.zero_le _
    · injection h1 with _ _ h3
      rw [h3, ← hn]
      exact h2
  · have hpos : 0 < n := by rw [hn]; exact List.length_pos_iff.2 hl
    obtain ⟨g, cap, hv, _, hlt⟩ := h.form hpos
    have hA : A = some ⟨g, 0, none⟩ := by injection hv
    subst hA
    refine ⟨g, 0, rfl, hlt, fun i v hi => ?_⟩
    have hc := h.cells (g := g) rfl
    have k := fun q hq u hu => hc (i * 5 + q) u ((flat_get (fun t : Ta => [Value.string t.nm, .slice t.A t.cs.length t.c, .int .i64 t.key, .int .i64 t.ref, .int .i64 t.par]) 5 (fun _ => rfl) l i q v hi hq).trans hu)
    have k0 := k 0 (by omega) _ rfl
    have k1 := k 1 (by omega) _ rfl
    have k2 := k 2 (by omega) _ rfl
    have k3 := k 3 (by omega) _ rfl
    have k4 := k 4 (by omega) _ rfl
    rw [addr_addS] at k0 k1 k2 k3 k4
    exact ⟨k0, k1, k2, k3, k4⟩
/-- A table of the reader's own, its columns' row ahead of block B. -/
def TOk (B : Nat) (t : Ta) (w : World) : Prop := t.wf ∧ (∀ c ∈ t.cs, c.wf) ∧ t.cs.length ≤ 60000 ∧ (∀ g, (Value.slice t.A t.cs.length t.c).ownBlock = some g → g < B) ∧ ∃ base, w.ownsRow base 111 3 (.slice t.A t.cs.length t.c) t.cs.length (ccells t.cs)
theorem own_low {w w' : World} {B base : Nat} {e : TypeId} {size n : Nat} {v : Value} {xs : List Value} (h : w.ownsRow base e size v n xs) (hb : Below B w w') (hv : ∀ g, v.ownBlock = some g → g < B) : w'.ownsRow base e size v n xs := by
  refine ⟨h.1, ?_⟩
  rcases h.2 with h0 | ⟨g, cap, cur, rfl, hbg, hh, h4⟩
  · exact .inl h0
  · exact .inr ⟨g, cap, cur, rfl, hbg, (hb.block g (hv g rfl)).trans hh, h4⟩
theorem blk_low {w w' : World} {B x : Nat} {cs : Array Value} {t : TypeId} (h : Blk w x cs t) (hb : Below B w w') (hx : x < B) : Blk w' x cs t := (hb.block x hx).trans h
theorem TOk.low {B : Nat} {t : Ta} {w w' : World} (h : TOk B t w) (hb : Below B w w') : TOk B t w' := by
  obtain ⟨h1, h2, h3, h4, base, h5⟩ := h
  exact ⟨h1, h2, h3, h4, base, own_low h5 hb h4⟩
theorem TOk.mono {B B' : Nat} {t : Ta} {w : World} (h : TOk B t w) (hB : B ≤ B') : TOk B' t w := by
  obtain ⟨h1, h2, h3, h4, h5⟩ := h
  exact ⟨h1, h2, h3, fun g hg => Nat.lt_of_lt_of_le (h4 g hg) hB, h5⟩
theorem TOk.crow {B : Nat} {t : Ta} {w : World} (h : TOk B t w) : t.wf ∧ CRow w t.A t.cs := by
  obtain ⟨h1, h2, h3, _, base, h5⟩ := h
  exact ⟨h1, CRow.of_own h2 (by omega) rfl h5⟩
/-- What lies in memory ahead of block B: the answer's place r0, the schema read so far at sb. -/
def GI (w0 : World) (r0 sb B : Nat) (A : Option Addr) (c : Nat) (T : List Ta) (w : World) : Prop :=
  (w0.heap.size ≤ r0 ∧ w0.heap.size ≤ sb ∧ r0 < B ∧ sb < B ∧ r0 ≠ sb ∧ T.length ≤ 255) ∧ Blk w r0 #[.slice none 0 0] 24 ∧ Blk w sb #[.slice A T.length c] 24 ∧ w.ownsRow w0.heap.size 66 5 (.slice A T.length c) T.length (tcells T) ∧ (∀ g, (Value.slice A T.length c).ownBlock = some g → g < B) ∧ (∀ t ∈ T, TOk B t w) ∧ Below w0.heap.size w0 w
theorem GI.low {w0 : World} {r0 sb B : Nat} {A : Option Addr} {c : Nat} {T : List Ta} {w w' : World} (h : GI w0 r0 sb B A c T w) (hb : Below B w w') : GI w0 r0 sb B A c T w' := by
  obtain ⟨h0, h1, h2, h3, h4, h5, h6⟩ := h
  exact ⟨h0, blk_low h1 hb h0.2.2.1, blk_low h2 hb h0.2.2.2.1, own_low h3 hb h4, h4, fun t ht => (h5 t ht).low hb, h6.trans (hb.mono (by omega))⟩
theorem GI.mono {w0 : World} {r0 sb B B' : Nat} {A : Option Addr} {c : Nat} {T : List Ta} {w : World} (h : GI w0 r0 sb B A c T w) (hB : B ≤ B') : GI w0 r0 sb B' A c T w := by
  obtain ⟨h0, h1, h2, h3, h4, h5, h6⟩ := h
  exact ⟨by omega, h1, h2, h3, fun g hg => Nat.lt_of_lt_of_le (h4 g hg) hB, fun t ht => (h5 t ht).mono hB, h6⟩
theorem GI.trow {w0 : World} {r0 sb B : Nat} {A : Option Addr} {c : Nat} {T : List Ta} {w : World} (h : GI w0 r0 sb B A c T w) : TRow w A c T :=
  TRow.of_own (fun t ht => (h.2.2.2.2.2.1 t ht).crow) (by have := h.1.2.2.2.2.2; omega) rfl h.2.2.2.1

/-! Plain laws. -/
theorem tab_d {t u : Ta} (h : t.d = u.d) : t.nm = u.nm ∧ t.cs = u.cs ∧ t.key = u.key ∧ t.ref = u.ref ∧ t.par = u.par := by
  unfold Ta.d at h
  simpa using h
theorem map_d_take {s t : List Ta} (h : s.map Ta.d = t.map Ta.d) (k : Nat) : (s.take k).map Ta.d = (t.take k).map Ta.d := by rw [List.map_take, List.map_take, h]
theorem map_d_get {s t : List Ta} (h : s.map Ta.d = t.map Ta.d) {k : Nat} {x : Ta} (hk : s[k]? = some x) : ∃ y, t[k]? = some y ∧ x.d = y.d := by
  have h1 : (t.map Ta.d)[k]? = some x.d := by rw [← h, List.getElem?_map, hk]; rfl
  rw [List.getElem?_map] at h1
  cases hy : t[k]? with
  | none => rw [hy] at h1; cases h1
  | some y => rw [hy] at h1; exact ⟨y, rfl, (Option.some.inj h1).symm⟩
theorem depI_d {ds : List Int} {t u : Ta} (h : t.d = u.d) : depI ds t = depI ds u := by
  obtain ⟨_, _, _, h4, h5⟩ := tab_d h
  unfold depI rootB
  rw [h4, h5]
theorem deps_d : ∀ {s t : List Ta}, s.map Ta.d = t.map Ta.d → deps s = deps t := by
  have hf : ∀ (s t : List Ta) (ds : List Int), s.map Ta.d = t.map Ta.d → s.foldl (fun ds t => ds ++ [depI ds t]) ds = t.foldl (fun ds t => ds ++ [depI ds t]) ds := by
    intro s
    induction s with
    | nil => intro t ds h; cases t with
      | nil => rfl
      | cons y t => cases h
    | cons x s ih => intro t ds h; cases t with
      | nil => cases h
      | cons y t =>
        injection h with h1 h2
        rw [List.foldl_cons, List.foldl_cons, depI_d h1]
        exact ih t _ h2
  intro s t h
  exact hf s t [] h
theorem tabB_d {a a' : List Ta} {ds : List Int} {t u : Ta} (ha : a.map Ta.d = a'.map Ta.d) (h : t.d = u.d) : tabB a ds t = tabB a' ds u := by
  have hl : a.length = a'.length := by have := congrArg List.length ha; simpa using this
  obtain ⟨h1, h2, h3, h4, h5⟩ := tab_d h
  have hk : kinB a t = kinB a' u := by
    unfold kinB
    rw [h5]
    cases hx : a[u.par.toNat]? with
    | none =>
      have : a'[u.par.toNat]? = none := by rw [List.getElem?_eq_none_iff] at hx ⊢; omega
      rw [this]
    | some x =>
      obtain ⟨y, hy, hd⟩ := map_d_get ha hx
      obtain ⟨_, e2, e3, _, _⟩ := tab_d hd
      rw [hy]
      simp only
      rw [e2, e3, h2, h4]
  unfold tabB
  rw [depI_d h]
  have hc : colsB t = colsB u := by unfold colsB; rw [h2, h3]
  have hb : belB a t = belB a' u := by unfold belB rootB relB; rw [hk, hl, h2, h3, h4, h5]
  rw [hc, hb]
theorem schB_d {s t : List Ta} (h : s.map Ta.d = t.map Ta.d) : schB s = schB t := by
  have hl : s.length = t.length := by have := congrArg List.length h; simpa using this
  have hn : s.map (·.nm) = t.map (·.nm) := by
    have e : ∀ l : List Ta, l.map (·.nm) = (l.map Ta.d).map (·.1) := fun l => by rw [List.map_map]; rfl
    rw [e, e, h]
  have hp : preB s s.length = preB t t.length := by
    unfold preB
    rw [hl]
    apply List.all_congr rfl
    intro i
    cases hx : s[i]? with
    | none =>
      have : t[i]? = none := by rw [List.getElem?_eq_none_iff] at hx ⊢; omega
      rw [this]
    | some x =>
      obtain ⟨y, hy, hd⟩ := map_d_get h hx
      rw [hy]
      simp only
      rw [deps_d (map_d_take h i)]
      exact tabB_d (map_d_take h i) hd
  unfold schB
  rw [hl, hn, ← hl, hp, hl]
end Go.Proofs.YtfekohonidggjaaGreatDoor

/- Contracts: numbers with a point as digits; bytes as digits; need. -/
namespace Go.Proofs.YtfekohonidggjaaGreatDoor
open Go.RowKit

/-- A reading's end: the panic's value. -/
def gaveW : Ending := .panicked [{ v := .iface 126 (.agg #[]), recovered := false }]
theorem need_yes (w : World) : Calls Tryz.prog 78 #[.bool true] w fun r w' => r = .returned (.tuple #[]) ∧ w' = w := by
  go_enter Tryz.func78, Tryz.ntmps78
  go_wp2_with fail
  go_end0
  exact ⟨rfl, rfl⟩
set_option maxRecDepth 100000 in
theorem need_no (w : World) : Calls Tryz.prog 78 #[.bool false] w fun r w' => r = gaveW ∧ w' = w := by
  go_enter Tryz.func78, Tryz.ntmps78
  go_wp2_with fail
  exact ⟨rfl, rfl, rfl⟩
theorem canonZ_range (b : Int) (h0 : 0 ≤ b) (h1 : b ≤ 18446744073709551615) : 0 ≤ canonZ b ∧ canonZ b ≤ 18446744073709551615 := by
  unfold canonZ
  split <;> omega
theorem realtext_any (b : Int) (h0 : 0 ≤ b) (h1 : b ≤ 18446744073709551615) (w : World) :
    Calls Tryz.prog 64 #[.int .u64 b] w fun r w' => r = .returned (.string (bsO (hexN 16 (canonZ b).toNat))) ∧ Below w.heap.size w w' := by
  obtain ⟨c0, c1⟩ := canonZ_range b h0 h1
  have HC := Lib.hid (canon_any b h0 h1)
  have HX := Lib.hid (hex16 (canonZ b) c0 c1)
  generalize canonZ b = c at *
  go_enter Tryz.func64, Tryz.ntmps64
  go_wp2_with fail
  refine (HC.out w).mono ?_
  rintro r w1 ⟨rfl, rfl⟩
  go_wp2_with fail
  refine (HX.out w).mono ?_
  rintro r w1 ⟨rfl, hb⟩
  go_wp2_with fail
  go_ret
  exact ⟨rfl, hb⟩
def realV (l : List UInt8) : Value := match realR l with
  | some x => .tuple #[.int .u64 x, .int .i64 0]
  | none => .tuple #[.int .u64 0, .int .i64 2]
theorem unxR_lt {l : List UInt8} {u : Nat} (h : unxR l = some u) : u < 18446744073709551616 := by
  unfold unxR at h
  split at h
  · next hl =>
    have h1 := unxA_lt _ _ _ h
    have h3 : 16 ^ l.length ≤ 16 ^ 16 := Nat.pow_le_pow_right (by decide) hl.2
    have h4 : (16 : Nat) ^ 16 = 18446744073709551616 := by decide
    omega
  · cases h
set_option maxRecDepth 100000 in
set_option maxHeartbeats 800000 in
theorem realread_any (s : ByteArray) (w : World) :
    Calls Tryz.prog 96 #[.string s] w fun r w' => r = .returned (realV s.data.toList) ∧ Below w.heap.size w w' := by
  have hlen : s.data.toList.length = s.size := by simp
  have HLEN := Lib.hid hlen
  clear hlen
  generalize hR : realV s.data.toList = R
  have HR := Lib.hid hR
  clear hR
  have HU := Lib.hid (unhex_any s)
  cases hu : unxR s.data.toList with
  | none =>
    have hn : realR s.data.toList = none := by
      unfold realR
      split
      · next h16 =>
        have : unxA 0 s.data.toList = none := by
          unfold unxR at hu
          rw [if_pos (by omega)] at hu
          exact hu
        rw [this]
      · rfl
    have HN := Lib.hid hn
    have e : unxV s.data.toList = .tuple #[.int .u64 0, .int .i64 2] := by unfold unxV; rw [hu]
    rw [e] at HU
    clear hu hn e
    go_enter Tryz.func96, Tryz.ntmps96
    go_wp2_with fail
    refine (HU.out w).mono ?_
    rintro r w1 ⟨rfl, hb⟩
    go_wp2_with fail
    go_ret2
    exact ⟨by rw [← HR.out]; unfold realV; rw [HN.out]; rfl, hb⟩
  | some u =>
    have hlt := unxR_lt hu
    have e : unxV s.data.toList = .tuple #[.int .u64 u, .int .i64 0] := by unfold unxV; rw [hu]
    rw [e] at HU
    have hA : Hid (unxA 0 s.data.toList = some u) := by
      show _ = _
      unfold unxR at hu
      split at hu
      · exact hu
      · cases hu
    have HC := Lib.hid (canon_any u (by omega) (by omega))
    clear e hu
    by_cases h16 : s.size = 16
    · have h16' : (s.size : Int) = 16 := by omega
      by_cases hc : canonZ u = u
      · have HCC := Lib.hid hc
        rw [hc] at HC
        clear hc
        go_enter Tryz.func96, Tryz.ntmps96
        go_wp2_with fail
        refine (HU.out w).mono ?_
        rintro r w1 ⟨rfl, hb⟩
        go_wp2_with fail
        refine (HC.out w1).mono ?_
        rintro r w2 ⟨rfl, rfl⟩
        go_wp2_with fail
        go_ret2
        exact ⟨by rw [← HR.out]; unfold realV realR; rw [HLEN.out, if_pos h16, hA.out]; simp only [HCC.out, if_true]; rfl, hb⟩
      · have HCC := Lib.hid hc
        generalize hz : canonZ u = z at *
        have HZ := Lib.hid hz
        clear hz
        go_enter Tryz.func96, Tryz.ntmps96
        go_wp2_with fail
        refine (HU.out w).mono ?_
        rintro r w1 ⟨rfl, hb⟩
        go_wp2_with fail
        refine (HC.out w1).mono ?_
        rintro r w2 ⟨rfl, rfl⟩
        go_wp2_with fail
        go_ret2
        exact ⟨by rw [← HR.out]; unfold realV realR; rw [HLEN.out, if_pos h16, hA.out]; simp only [HZ.out, if_neg HCC.out]; rfl, hb⟩
    · have h16' : ¬ (s.size : Int) = 16 := by omega
      go_enter Tryz.func96, Tryz.ntmps96
      go_wp2_with fail
      refine (HU.out w).mono ?_
      rintro r w1 ⟨rfl, hb⟩
      go_wp2_with fail
      go_ret2
      exact ⟨by rw [← HR.out]; unfold realV realR; rw [HLEN.out, if_neg h16]; rfl, hb⟩
theorem hexL_snoc (l : List UInt8) (c : UInt8) : hexL (l ++ [c]) = hexL l ++ hexN 2 c.toNat := by simp [hexL, List.flatMap_append]
theorem byteA {s : ByteArray} {j : Nat} (h : j < s.size) : ∃ c, s[j]'h = c ∧ s.data.toList.take (j + 1) = s.data.toList.take j ++ [c] ∧ s.data.toList = s.data.toList.take j ++ c :: s.data.toList.drop (j + 1) ∧ s.data.toList[j]? = some c := by
  have hl : j < s.data.toList.length := by simpa using h
  refine ⟨s[j]'h, rfl, ?_, ?_, ?_⟩
  · rw [List.take_succ_eq_append_getElem hl]; rfl
  · show s.data.toList = s.data.toList.take j ++ s.data.toList[j] :: s.data.toList.drop (j + 1)
    rw [List.getElem_cons_drop, List.take_append_drop]
  · rw [List.getElem?_eq_getElem hl]; rfl
theorem unhexL_len {l t : List UInt8} (h : unhexL l = some t) : l.length = 2 * t.length := by rw [← unhexL_some.1 h, hexL_length]
theorem unhexL_step {l : List UInt8} {a b : UInt8} {r : List UInt8} (h : l = a :: b :: r) : unhexL l = match unxR [a, b] with
    | some v => (unhexL r).map (UInt8.ofNat v :: ·)
    | none => none := by
  subst h
  rfl
theorem pairA {s : ByteArray} {j : Nat} (h : j + 2 ≤ s.size) : ∃ a b, s.data.toList.drop j = a :: b :: s.data.toList.drop (j + 2) ∧ (s.extract j (j + 2)).data.toList = [a, b] := by
  have hl : s.data.toList.length = s.size := by simp
  refine ⟨s.data.toList[j]'(by omega), s.data.toList[j + 1]'(by omega), ?_, ?_⟩
  · rw [List.drop_eq_getElem_cons (by omega : j < s.data.toList.length), List.drop_eq_getElem_cons (by omega : j + 1 < s.data.toList.length)]
  · have e : (s.extract j (j + 2)).data.toList = (s.data.toList.drop j).take 2 := by
      have := Lib.extract_toList s j (j + 2)
      rw [Lib.toList_data, show j + 2 - j = 2 by omega] at this
      exact this
    rw [e, List.drop_eq_getElem_cons (by omega : j < s.data.toList.length), List.drop_eq_getElem_cons (by omega : j + 1 < s.data.toList.length)]
    rfl
theorem own_ext {w w' : World} {base n size : Nat} {e : TypeId} {v : Value} {xs : List Value} (h : w.ownsRow base e size v n xs) (hb : Below w.heap.size w w') : w'.ownsRow base e size v n xs := own_low h hb (fun g hg => (h.lt g hg).2)
theorem u8_nat {v : Nat} : ((UInt8.ofNat v).toNat : Int) = (v : Int) % 256 := by
  rw [UInt8.toNat_ofNat']; omega
end Go.Proofs.YtfekohonidggjaaGreatDoor
