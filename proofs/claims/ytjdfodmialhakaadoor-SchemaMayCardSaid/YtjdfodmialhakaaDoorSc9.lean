/- schema.Put. -/
import Derived.Test.YtjdfodmialhakaaDoorSc8
import Derived.Test.YtjdfodmialhakaaDoorSc5
import Derived.Test.YtjdfodmialhakaaDoorSc6
namespace Go.Proofs.YtjdfodmialhakaaDoor
open Go.RowKit

def putSR (ts : List Ta) : Value := .tuple #[.string ⟨(if schB ts then putS ts else []).toArray⟩, .int .i64 (okE (schB ts))]
theorem sch_tab {ts : List Ta} (h : schB ts = true) {k : Nat} {t : Ta} (ht : ts[k]? = some t) : nameB t.nm = true ∧ colsB t = true ∧ (-1 ≤ t.ref ∧ t.ref < 8) ∧ (-1 ≤ t.par ∧ t.par < 12) ∧ (0 ≤ t.key ∧ t.key < 8) := by
  obtain ⟨⟨_, h12⟩, hp, hn⟩ := sch_parts h
  have hk := (List.getElem?_eq_some_iff.1 ht).1
  obtain ⟨hc, hb, _⟩ := tab_parts (pre_at hp hk ht)
  obtain ⟨⟨_, h8⟩, _, _, ⟨k0, k1⟩, _⟩ := cols_parts hc
  unfold namedB at hn
  have hnm := List.all_eq_true.1 (Bool.and_eq_true_iff.1 hn).1 t.nm (List.mem_map.2 ⟨t, List.mem_of_getElem? ht, rfl⟩)
  refine ⟨hnm, hc, ?_, ?_, by omega, by omega⟩
  · rcases bel_par hb with ⟨h1, h2, _⟩ | ⟨h1, h2, _, h3, _⟩ <;> omega
  · rcases bel_par hb with ⟨h1, h2, _⟩ | ⟨h1, h2, _, h3, _⟩
    · omega
    · rw [List.length_take] at h2; omega
/-- The bytes ahead of the table k. -/
def hdS (ts : List Ta) (k : Nat) : List UInt8 := UInt8.ofNat ts.length :: (ts.take k).flatMap tabL
theorem hdS_len {ts : List Ta} (h : schB ts = true) (k : Nat) : (hdS ts k).length ≤ 2500 := by
  have h12 := (sch_parts h).1.2
  have h1 := flat_len_le tabL 200 (ts.take k) (fun t ht => by
    obtain ⟨i, hi, e⟩ := List.mem_iff_getElem.1 (List.mem_of_mem_take ht)
    have := sch_tab h (k := i) (t := t) (by rw [List.getElem?_eq_getElem hi, e])
    exact tabL_len this.1 this.2.1)
  unfold hdS
  rw [List.length_cons]
  have : (ts.take k).length ≤ 12 := by simp; omega
  have h3 : 200 * (ts.take k).length ≤ 2400 := by omega
  omega
theorem hdS_snoc {ts : List Ta} {k : Nat} {t : Ta} (ht : ts[k]? = some t) : hdS ts (k + 1) = hdS ts k ++ tabL t := by
  unfold hdS
  rw [take_snoc ht, List.flatMap_append]
  simp
/-- The bytes of table t, up to its column j. -/
def tbS (t : Ta) (j : Nat) : List UInt8 := txL t.nm ++ (UInt8.ofNat t.cs.length :: (t.cs.take j).flatMap colL)
theorem tbS_snoc {t : Ta} {j : Nat} {c : Co} (h : t.cs[j]? = some c) : tbS t (j + 1) = tbS t j ++ (txL c.nm ++ [UInt8.ofNat c.k.toNat, if c.nl then 1 else 0]) := by
  unfold tbS
  rw [take_snoc h, List.flatMap_append]
  simp [colL]
theorem tbS_end (t : Ta) : tabL t = tbS t t.cs.length ++ [UInt8.ofNat t.key.toNat, UInt8.ofNat (t.ref + 1).toNat, UInt8.ofNat (t.par + 1).toNat] := by
  unfold tbS tabL
  rw [List.take_length]
  simp
theorem tbS_len {t : Ta} (hn : nameB t.nm = true) (hc : colsB t = true) (j : Nat) : (tbS t j).length ≤ 200 := by
  have h := tabL_len hn hc
  have e : tbS t j <+: tabL t := by
    rw [tbS_end]
    unfold tbS
    rw [List.take_length, List.append_assoc]
    refine List.prefix_append_right_inj _ |>.2 ?_
    rw [List.cons_append]
    refine List.cons_prefix_cons.2 ⟨rfl, ?_⟩
    have : t.cs.flatMap colL = (t.cs.take j).flatMap colL ++ (t.cs.drop j).flatMap colL := by rw [← List.flatMap_append, List.take_append_drop]
    rw [this, List.append_assoc]
    exact List.prefix_append _ _
  exact Nat.le_trans e.length_le h
theorem byteN {n : Nat} (h : n < 256) : ((UInt8.ofNat n).toNat : Int) = (n : Int) := by
  rw [UInt8.toNat_ofNat']
  omega
theorem byteI {v : Int} (h0 : 0 ≤ v) (h1 : v < 256) : ((UInt8.ofNat v.toNat).toNat : Int) = v := by
  rw [UInt8.toNat_ofNat']
  omega
theorem kt_val {T : World → World → Prop} (c : Value) : ∀ v w w', T w w' → (Known.val c).holds v w → (Known.val c).holds v w' := fun _ _ _ _ h => h
theorem kt_any {T : World → World → Prop} : ∀ v w w', T w w' → kAny.holds v w → kAny.holds v w' := fun _ _ _ _ h => h
/-- A new block of bytes, apart from the row v0. -/
def newB (v0 : Value) (cs : Array Value) (n : Nat) : Known := .mem (fun v w => ∃ g, v = .slice (some ⟨g, 0, none⟩) n n ∧ Blk w g cs 5 ∧ ¬ some g = v0.ownBlock) (fun _ _ _ ⟨g, h1, h2, h3⟩ hb => ⟨g, h1, h2.ext hb, h3⟩)
theorem kt_new {T : World → World → Prop} {v0 : Value} {cs : Array Value} {n : Nat} (hT : ∀ w w', T w w' → w.grownBy w' v0.ownBlock) : ∀ v w w', T w w' → (newB v0 cs n).holds v w → (newB v0 cs n).holds v w' := by
  rintro v w w' ht ⟨g, h1, h2, h3⟩
  exact ⟨g, h1, ((hT _ _ ht).block g h2.lt h3).trans h2, h3⟩
def obl (v : Value) (W : World) : Prop := ∀ g, v.ownBlock = some g → g < W.heap.size
theorem obl_own {w : World} {base : Nat} {e : TypeId} {size n : Nat} {v : Value} {xs : List Value} (h : w.ownsRow base e size v n xs) : obl v w := by
  intro g hg
  rcases h.2 with ⟨rfl, _⟩ | ⟨g', cap, cur, rfl, _, hh, _⟩
  · cases hg
  · simp only [Value.ownBlock, Option.some.injEq] at hg
    subst hg
    rcases Nat.lt_or_ge g' w.heap.size with h' | h'
    · exact h'
    · rw [Array.getElem?_eq_none h'] at hh; cases hh
theorem obl_ne {v : Value} {W : World} (h : obl v W) : ¬ some W.heap.size = v.ownBlock := by
  intro e
  have := h _ e.symm
  omega
theorem cells_blk2 {w : World} {b : Nat} {a c : Value} {t : TypeId} (h : Blk w b #[a, c] t) : ∀ j u, [a, c][j]? = some u → w.cell? ((⟨b, 0, none⟩ : Addr).add j) = some u := by
  intro j u hu
  match j with
  | 0 => exact (h.cell 0).trans (by simpa using hu)
  | 1 => exact (h.cell 1).trans (by simpa using hu)
  | j + 2 => simp at hu
theorem cells_blk3 {w : World} {b : Nat} {a c d : Value} {t : TypeId} (h : Blk w b #[a, c, d] t) : ∀ j u, [a, c, d][j]? = some u → w.cell? ((⟨b, 0, none⟩ : Addr).add j) = some u := by
  intro j u hu
  match j with
  | 0 => exact (h.cell 0).trans (by simpa using hu)
  | 1 => exact (h.cell 1).trans (by simpa using hu)
  | 2 => exact (h.cell 2).trans (by simpa using hu)
  | j + 3 => simp at hu
set_option maxRecDepth 100000 in
set_option maxHeartbeats 3200000 in
theorem putsch_yes (ts : List Ta) (A : Option Addr) (c : Nat) (w : World) (hT : Tabs w) (ht : TRow w A c ts) (hs : schB ts = true) :
    Calls Tryd.prog 75 #[.agg #[.slice A ts.length c]] w fun r w' => r = .returned (.tuple #[.string ⟨(putS ts).toArray⟩, .int .i64 0]) ∧ Below w.heap.size w w' := by
  have HCK := Lib.hid (fun (W : World) (hW : Below w.heap.size w W) => check13_any ts A c W (ht.ext hW))
  rw [hs, okE_t' rfl] at HCK
  have HTX := Lib.hid (fun (s : ByteArray) (W : World) (hW : Below w.heap.size w W) (hn : nameB s = true) => text_any s W (hT.ext hW) hn)
  have HTR := Lib.hid ht
  have h12 := (sch_parts hs).1
  obtain ⟨h1, h2⟩ := h12
  have HS := Lib.hid hs
  have hwl : IntKind.u8.wrap (ts.length : Int) = ts.length := by simp [IntKind.wrap, IntKind.bits, IntKind.signed]; omega
  obtain ⟨i0, hi0, hz0, hz1, hz2⟩ := info_parts info_u8
  clear ht hT hs
  go_enter Tryd.func75, Tryd.ntmps75
  go_wp2_with fail
  refine (HCK.out _ (by repeat (first | exact Below.refl _ _ | assumption | refine Below.drew ?_ | refine below_drewN ?_ _ | refine Below.alloc ?_ (by simp <;> omega) _))).mono ?_
  rintro r w1 ⟨rfl, hb1⟩
  have hbw : Below w.heap.size w w1 := bt (by repeat (first | exact Below.refl _ _ | assumption | refine Below.drew ?_ | refine below_drewN ?_ _ | refine Below.alloc ?_ (by simp <;> omega) _)) hb1
  have HB := Lib.hid ((Blk.new w #[.slice A ts.length c] 103).ext hb1)
  have h00 := HB.out.cell 0
  simp only [List.getElem?_toArray, List.getElem?_cons_zero] at h00
  have hlB := HB.out.lt
  clear hb1 HCK
  go_wp2_with fail
  have HO0 : Hid ((w1.alloc (.cells #[.int .u8 ts.length] 5)).ownsRow w.heap.size 5 1 (.slice (some ⟨w1.heap.size, 0, none⟩) (hdS ts 0).length 1) (hdS ts 0).length (bv (hdS ts 0))) := by
    have h := own_of_blk (base := w.heap.size) (Blk.new w1 #[.int .u8 ts.length] 5) (by have := hbw.size; omega) (by simp [maxLen])
    show World.ownsRow _ _ _ _ _ _ _
    have e : bv (hdS ts 0) = [Value.int .u8 (ts.length : Int)] := by
      simp only [hdS, List.take_zero, List.flatMap_nil, bv, List.map_cons, List.map_nil]
      rw [byteN (by omega)]
    rw [e]
    exact h
  have hC0 : Below w.heap.size w (w1.alloc (.cells #[.int .u8 ts.length] 5)) := bt hbw (by repeat (first | exact Below.refl _ _ | assumption | refine Below.drew ?_ | refine below_drewN ?_ _ | refine Below.alloc ?_ (by simp <;> omega) _))
  have HL0 : Hid ((hdS ts 0).length = 1) := by show _ = _; simp [hdS]
  generalize w1.alloc (.cells #[.int .u8 ts.length] 5) = W0 at HO0 hC0 ⊢
  generalize w1.heap.size = b0 at HO0 ⊢
  clear HB h00 hlB hbw
  go_loopw [5, 24] (fun v i wr => ∃ (k : Nat) (A' : Option Addr) (c' : Nat), k ≤ ts.length ∧ i = .int .i64 k ∧ v = .slice A' (hdS ts k).length c' ∧ Hid (wr.ownsRow w.heap.size 5 1 (.slice A' (hdS ts k).length c') (hdS ts k).length (bv (hdS ts k))) ∧ Below w.heap.size w wr) (fun _ i _ => ts.length - (intOf i).toNat)
  case atStart => exact ⟨0, some ⟨b0, 0, none⟩, 1, by omega, rfl, by rw [HL0.out], HO0, hC0⟩
  case round =>
    clear HO0 hC0 HL0
    obtain ⟨k, A', c', hk, rfl, rfl, HO, hbw⟩ := hrel
    by_cases hlt : k < ts.length
    · obtain ⟨b, off, t, rfl, hb, hlk, hmem, hwf, hcr, c0, c1, c2, c3, c4⟩ := (HTR.out.ext hbw).at_ hlt
      have hcr0 := (HTR.out.1 t hmem).2
      obtain ⟨hnm, hcb, ⟨r0, r1⟩, ⟨p0, p1⟩, ⟨k0, k1⟩⟩ := sch_tab HS.out hlk
      obtain ⟨⟨cl1, cl8⟩, hck, hcn, _, _⟩ := cols_parts hcb
      have HSN := Lib.hid (hdS_snoc hlk)
      have hBl := hdS_len HS.out k
      have HFL := Lib.hid (fun j => tbS_len hnm hcb j)
      have HFS := Lib.hid (fun j (c : Co) (h : t.cs[j]? = some c) => tbS_snoc h)
      have HFE := Lib.hid (tbS_end t)
      have hF0 : Hid (tbS t 0 = txL t.nm ++ [UInt8.ofNat t.cs.length]) := by show _ = _; simp [tbS]
      obtain ⟨F, hF⟩ : ∃ F, F = tbS t := ⟨_, rfl⟩
      rw [← hF] at HFL HFS HFE hF0
      obtain ⟨B, hB⟩ : ∃ B, B = hdS ts k := ⟨_, rfl⟩
      rw [← hB] at HSN hBl HO ⊢
      rw [HFE.out] at HSN
      have HNM := Lib.hid hnm
      have HCK := Lib.hid hck
      have HCN := Lib.hid hcn
      have HCR := Lib.hid hcr0
      obtain ⟨nm, cs, key, ref, par, TA, tc⟩ := t
      simp only at c0 c1 c2 c3 c4 r0 r1 p0 p1 k0 k1 cl1 cl8 HSN HFS hF0 HNM HCK HCN HCR
      have hkl : (k : Int) < ts.length := by omega
      clear hlk hwf hcr hcr0 hnm hck hcn hcb hF hB HFE hmem
      go_upto_region 8 with fail
      have HTB := Lib.hid (Blk.new wr #[.string nm, .slice TA cs.length tc, .int .i64 key, .int .i64 ref, .int .i64 par] 116)
      have hbw1 : Below w.heap.size w (wr.alloc (.cells #[.string nm, .slice TA cs.length tc, .int .i64 key, .int .i64 ref, .int .i64 par] 116)) := bt hbw (by repeat (first | exact Below.refl _ _ | assumption | refine Below.drew ?_ | refine below_drewN ?_ _ | refine Below.alloc ?_ (by simp <;> omega) _))
      have HO1 := Lib.hid (HO.out.alloc (.cells #[.string nm, .slice TA cs.length tc, .int .i64 key, .int .i64 ref, .int .i64 par] 116))
      generalize wr.alloc (.cells #[.string nm, .slice TA cs.length tc, .int .i64 key, .int .i64 ref, .int .i64 par] 116) = W1 at HTB hbw1 HO1 ⊢
      generalize wr.heap.size = tb at HTB ⊢
      clear c0 c1 c2 c3 c4 HO hbw
      obtain ⟨TX, hTX⟩ : ∃ q : ByteArray, q = ⟨(txL nm).toArray⟩ := ⟨_, rfl⟩
      have HTN := Lib.hid (fun (W : World) (hW : Below w.heap.size w W) => HTX.out nm W hW HNM.out)
      rw [← hTX] at HTN
      have hTz : TX.size ≤ 19 := by
        rw [hTX]
        have := txL_len nm
        have h2 := (name_parts HNM.out).2.2
        simp only [ByteArray.size, List.size_toArray]
        omega
      have HTE : Hid (TX.data.toList = txL nm) := by show _ = _; rw [hTX]
      have hwc : IntKind.u8.wrap (cs.length : Int) = cs.length := by simp [IntKind.wrap, IntKind.bits, IntKind.signed]; omega
      obtain ⟨n, hn⟩ : ∃ n, n = B.length := ⟨_, rfl⟩
      rw [← hn] at HO1 hBl ⊢
      have HNB := Lib.hid hn
      clear hTX hn
      refine region_two 10 4 _ _ [false, false, false, false, false, false, false, false, false, false, false, false, false, false, false, false, false, false, false, false, false, false, false, false, false, false, false, false, true, true, true, true, true, true, true, true, true, true, false, false, false, false, false, false, false, false, false, false, false, false, false, false, false, false, false, false, false, false, false, false, false, false, false, false, false, false, false, false, false, false, false, false, false, false, false, false] [28, 29, 30, 31, 32, 33, 34, 35, 36, 37] [.val (.slice A' n c'), .val (.pointer (some ⟨tb, 0, none⟩)), .val (.string nm), .val (.string TX), kAny, .val (.pointer (some ⟨tb, 1, none⟩)), .val (.slice TA cs.length tc), .val (.int .i64 cs.length), .val (.int .u8 cs.length), newB (.slice A' n c') #[.int .u8 cs.length] 1]
        (fun W => Blk W tb #[.string nm, .slice TA cs.length tc, .int .i64 key, .int .i64 ref, .int .i64 par] 116 ∧ obl (.slice A' n c') W ∧ Below w.heap.size w W)
        (fun W => W.ownsRow w.heap.size 5 1 (.slice A' n c') n (bv B))
        (fun v W => ∃ A2 c2, v = .slice A2 (n + TX.size) c2 ∧ W.ownsRow w.heap.size 5 1 v (n + TX.size) (bv B ++ Lib.strCells TX))
        (fun W W' => W.ownsRow w.heap.size 5 1 (.slice A' n c') n (bv B) ∧ W.grownBy W' (Value.slice A' n c').ownBlock) [9] ?hJ ?hV ?hV1 ?hJT ?hKT ?hJ0 HO1.out (by kernel_rfl) (by kernel_rfl) rfl rfl (by decide) (by kernel_rfl) (by kernel_rfl) (by kernel_rfl) (by kernel_rfl) rfl (by kernel_rfl) (by kernel_rfl) ⟨?_, ?_, ?_, ?_, ?app, ?_, ?_, ?_, ?_, ?_, trivial⟩ ?done
      case hJ => exact fun W W' h hb => ⟨h.1.ext hb, fun g hg => Nat.lt_of_lt_of_le (h.2.1 g hg) hb.size, bt h.2.2 hb⟩
      case hV => exact fun W W' h hb => own_below h hb
      case hV1 => exact fun v W W' h hb => by obtain ⟨A2, c2, e, h⟩ := h; exact ⟨A2, c2, e, own_below h hb⟩
      case hJT => exact fun W W' ht h => ⟨h.1.grown ht.1 (by decide) ht.2, fun g hg => Nat.lt_of_lt_of_le (h.2.1 g hg) ht.2.size, h.2.2.grown ht.2 h.2.2.size (own_ge ht.1)⟩
      case hKT =>
        simp only [List.forall_mem_cons]
        exact ⟨kt_val _, kt_val _, kt_val _, kt_val _, kt_any, kt_val _, kt_val _, kt_val _, kt_val _, kt_new (fun _ _ h => h.2), fun _ h => by cases h⟩
      case hJ0 => exact ⟨HTB.out, obl_own HO1.out, hbw1⟩
      case app =>
        intro x W hJ hV
        intro K hK
        rw [if_pos (by rfl)]
        simp only [overlay, upd, cond_true, cond_false]
        have hsz := hJ.2.2.size
        refine wp_append_str W (.tmp 28) (.tmp 31) 125 9 rfl w.heap.size 5 i0 Tryd.underlying125 Tryd.underlying9 hi0 hz0 hz1 hz2 (.slice A' n c') n _ rfl hV TX rfl (by simp only [maxLen]; omega) (by omega) (by omega) ?_
        intro v' w' ho hg
        obtain ⟨A2, c2, rfl⟩ := own_form ho
        exact hK.out _ _ ⟨⟨hV, hg⟩, A2, c2, rfl, ho⟩
      case done =>
        rintro x W v ⟨hTB, _, hbW⟩ ⟨A2, c2, rfl, ho⟩
        simp only [StepGoal, newB, List.getD_cons_zero, List.getD_cons_succ]
        rintro v9 ⟨g, rfl, hg, _⟩
        intro K hK
        rw [if_pos (by rfl)]
        simp only [overlay, upd, cond_true, cond_false, Nat.reduceEqDiff, reduceIte]
        have hsz := hbW.size
        refine wp_append_own W (.tmp 32) (.tmp 37) 125 rfl w.heap.size 5 i0 _ 1 1 Tryd.underlying125 hi0 hz0 hz1 hz2 rfl (by decide) (.slice A2 (n + TX.size) c2) (n + TX.size) _ rfl ho ⟨g, 0, none⟩ 1 1 [.int .u8 cs.length] rfl rfl (cells_blk1 hg) (by simp [Value.oneCell']) (by simp only [maxLen]; omega) (by omega) (by omega) ?_
        intro v' w' ho' hg' _
        obtain ⟨A3, c3, rfl⟩ := own_form ho'
        have HTB2 := Lib.hid (hTB.grown ho (by decide) hg')
        have hbw2 : Below w.heap.size w w' := hbW.grown hg' hbW.size (own_ge ho)
        have HL2 : Hid ((B ++ F 0).length = n + TX.size + 1) := by
          show _ = _
          rw [hF0.out, ← HTE.out, HNB.out, List.length_append, List.length_append, show TX.data.toList.length = TX.size by simp]
          simp only [List.length_cons, List.length_nil]
          omega
        have HO2 : Hid (w'.ownsRow w.heap.size 5 1 (.slice A3 (B ++ F 0).length c3) (B ++ F 0).length (bv (B ++ F 0))) := by
          show World.ownsRow _ _ _ _ _ _ _
          rw [HL2.out, hF0.out, bv_app, bv_app, ← HTE.out, ← bv_str, ← List.append_assoc]
          have e : bv [UInt8.ofNat cs.length] = [Value.int .u8 (cs.length : Int)] := by
            simp only [bv, List.map_cons, List.map_nil]
            rw [byteN (by omega)]
          rw [e]
          exact ho'
        refine hK.out _ _ ?_
        intro K2 hK2
        rw [if_pos (by rfl)]
        clear ho ho' hg hg' hTB hbW
        go_simp
        refine hK2.out _ _ ?_
        obtain ⟨y0, y1, y2, y3, y4⟩ := blk5 HTB2.out
        go_wp2_with fail
        clear y0 y1 y2 y3 y4
        go_loopw [5, 42] (fun v i wr => ∃ (j : Nat) (A' : Option Addr) (c' : Nat), j ≤ cs.length ∧ i = .int .i64 j ∧ v = .slice A' (B ++ F j).length c' ∧ Hid (wr.ownsRow w.heap.size 5 1 (.slice A' (B ++ F j).length c') (B ++ F j).length (bv (B ++ F j))) ∧ Hid (Blk wr tb #[.string nm, .slice TA cs.length tc, .int .i64 key, .int .i64 ref, .int .i64 par] 116) ∧ Below w.heap.size w wr) (fun _ i _ => cs.length - (intOf i).toNat)
        case atStart => exact ⟨0, A3, c3, by omega, rfl, by rw [HL2.out], HO2, HTB2, hbw2⟩
        case round =>
          clear HO2 HTB2 hbw2 HL2 HO1 HTB hbw1 HTN HTE hTz
          obtain ⟨j, A', c', hj, rfl, rfl, HO, HTB, hbw⟩ := hrel
          have hFl : (B ++ F j).length ≤ 2700 := by rw [List.length_append, ← HNB.out]; have := HFL.out j; omega
          by_cases hlt : j < cs.length
          · obtain ⟨cbk, coff, cc, rfl, hb, hlk, cmem, _, d0, d1, d2⟩ := (HCR.out.ext hbw).at_ hlt
            have hcn : nameB cc.nm = true := by
              have h := HCN.out
              unfold namedB at h
              exact List.all_eq_true.1 (Bool.and_eq_true_iff.1 h).1 cc.nm (List.mem_map.2 ⟨cc, cmem, rfl⟩)
            have hck := of_decide_eq_true (List.all_eq_true.1 HCK.out cc cmem)
            obtain ⟨e1, e2⟩ := hck
            have HFJ := Lib.hid (HFS.out j cc hlk)
            obtain ⟨cn, ck, cnl⟩ := cc
            simp only at hcn e1 e2 d0 d1 d2 HFJ
            obtain ⟨TX, hTX⟩ : ∃ q : ByteArray, q = ⟨(txL cn).toArray⟩ := ⟨_, rfl⟩
            have HTN := Lib.hid (fun (W : World) (hW : Below w.heap.size w W) => HTX.out cn W hW hcn)
            rw [← hTX] at HTN
            have hTz : TX.size ≤ 19 := by
              rw [hTX]
              have := txL_len cn
              have h2 := (name_parts hcn).2.2
              simp only [ByteArray.size, List.size_toArray]
              omega
            have HTE : Hid (TX.data.toList = txL cn) := by show _ = _; rw [hTX]
            obtain ⟨m, hm⟩ : ∃ m, m = (B ++ F j).length := ⟨_, rfl⟩
            rw [← hm] at HO hFl ⊢
            have HMB := Lib.hid hm
            have hjl : (j : Int) < cs.length := by omega
            clear hTX hm hlk cmem hcn
            cases cnl
            · go_upto_region 15 with fail
              have HCB := Lib.hid (Blk.new wr #[.string cn, .int .u8 ck, .bool false] 180)
              have hbw1 : Below w.heap.size w (wr.alloc (.cells #[.string cn, .int .u8 ck, .bool false] 180)) := bt hbw (by repeat (first | exact Below.refl _ _ | assumption | refine Below.drew ?_ | refine below_drewN ?_ _ | refine Below.alloc ?_ (by simp <;> omega) _))
              have HO1 := Lib.hid (HO.out.alloc (.cells #[.string cn, .int .u8 ck, .bool false] 180))
              have HTB1 := Lib.hid (HTB.out.old (.cells #[.string cn, .int .u8 ck, .bool false] 180))
              generalize wr.alloc (.cells #[.string cn, .int .u8 ck, .bool false] 180) = W1 at HCB hbw1 HO1 HTB1 ⊢
              generalize wr.heap.size = cb at HCB ⊢
              clear d0 d1 d2 HO HTB hbw
              refine region_two 9 4 _ _ [false, false, false, false, false, false, false, false, false, false, false, false, false, false, false, false, false, false, false, false, false, false, false, false, false, false, false, false, false, false, false, false, false, false, false, false, false, false, false, false, false, false, false, false, false, false, false, false, true, true, true, true, true, true, true, true, true, false, false, false, false, false, false, false, false, false, false, false, false, false, false, false, false, false, false, false] [48, 49, 50, 51, 52, 53, 54, 55, 56] [.val (.slice A' m c'), .val (.pointer (some ⟨cb, 0, none⟩)), .val (.string cn), .val (.string TX), kAny, .val (.pointer (some ⟨cb, 1, none⟩)), .val (.int .u8 ck), .val (.int .u8 0), newB (.slice A' m c') #[.int .u8 ck, .int .u8 0] 2]
                (fun W => Blk W cb #[.string cn, .int .u8 ck, .bool false] 180 ∧ Blk W tb #[.string nm, .slice (some ⟨cbk, coff, none⟩) cs.length tc, .int .i64 key, .int .i64 ref, .int .i64 par] 116 ∧ obl (.slice A' m c') W ∧ Below w.heap.size w W)
                (fun W => W.ownsRow w.heap.size 5 1 (.slice A' m c') m (bv (B ++ F j)))
                (fun v W => ∃ A2 c2, v = .slice A2 (m + TX.size) c2 ∧ W.ownsRow w.heap.size 5 1 v (m + TX.size) (bv (B ++ F j) ++ Lib.strCells TX))
                (fun W W' => W.ownsRow w.heap.size 5 1 (.slice A' m c') m (bv (B ++ F j)) ∧ W.grownBy W' (Value.slice A' m c').ownBlock) [8] ?hJ ?hV ?hV1 ?hJT ?hKT ?hJ0 HO1.out (by kernel_rfl) (by kernel_rfl) rfl rfl (by decide) (by kernel_rfl) (by kernel_rfl) (by kernel_rfl) (by kernel_rfl) rfl (by kernel_rfl) (by kernel_rfl) ⟨?_, ?_, ?_, ?_, ?app, ?_, ?_, ?_, ?_, trivial⟩ ?done
              case hJ => exact fun W W' h hb => ⟨h.1.ext hb, h.2.1.ext hb, fun g hg => Nat.lt_of_lt_of_le (h.2.2.1 g hg) hb.size, bt h.2.2.2 hb⟩
              case hV => exact fun W W' h hb => own_below h hb
              case hV1 => exact fun v W W' h hb => by obtain ⟨A2, c2, e, h⟩ := h; exact ⟨A2, c2, e, own_below h hb⟩
              case hJT => exact fun W W' ht h => ⟨h.1.grown ht.1 (by decide) ht.2, h.2.1.grown ht.1 (by decide) ht.2, fun g hg => Nat.lt_of_lt_of_le (h.2.2.1 g hg) ht.2.size, h.2.2.2.grown ht.2 h.2.2.2.size (own_ge ht.1)⟩
              case hKT =>
                simp only [List.forall_mem_cons]
                exact ⟨kt_val _, kt_val _, kt_val _, kt_val _, kt_any, kt_val _, kt_val _, kt_val _, kt_new (fun _ _ h => h.2), fun _ h => by cases h⟩
              case hJ0 => exact ⟨HCB.out, HTB1.out, obl_own HO1.out, hbw1⟩
              case app =>
                intro x W hJ hV
                intro K hK
                rw [if_pos (by rfl)]
                simp only [overlay, upd, cond_true, cond_false]
                have hsz := hJ.2.2.2.size
                refine wp_append_str W (.tmp 48) (.tmp 51) 125 9 rfl w.heap.size 5 i0 Tryd.underlying125 Tryd.underlying9 hi0 hz0 hz1 hz2 (.slice A' m c') m _ rfl hV TX rfl (by simp only [maxLen]; omega) (by omega) (by omega) ?_
                intro v' w' ho hg
                obtain ⟨A2, c2, rfl⟩ := own_form ho
                exact hK.out _ _ ⟨⟨hV, hg⟩, A2, c2, rfl, ho⟩
              case done =>
                rintro x W v ⟨_, hTB, _, hbW⟩ ⟨A2, c2, rfl, ho⟩
                simp only [StepGoal, newB, List.getD_cons_zero, List.getD_cons_succ]
                rintro v9 ⟨g, rfl, hg, _⟩
                intro K hK
                rw [if_pos (by rfl)]
                simp only [overlay, upd, cond_true, cond_false, Nat.reduceEqDiff, reduceIte]
                have hsz := hbW.size
                refine wp_append_own W (.tmp 52) (.tmp 56) 125 rfl w.heap.size 5 i0 _ 1 1 Tryd.underlying125 hi0 hz0 hz1 hz2 rfl (by decide) (.slice A2 (m + TX.size) c2) (m + TX.size) _ rfl ho ⟨g, 0, none⟩ 2 2 [.int .u8 ck, .int .u8 0] rfl rfl (cells_blk2 hg) (by simp [Value.oneCell']) (by simp only [maxLen]; omega) (by omega) (by omega) ?_
                intro v' w' ho' hg' _
                obtain ⟨A3, c3, rfl⟩ := own_form ho'
                have HTB2 := Lib.hid (hTB.grown ho (by decide) hg')
                have hbw2 : Below w.heap.size w w' := hbW.grown hg' hbW.size (own_ge ho)
                have HL2 : Hid ((B ++ F (j + 1)).length = m + TX.size + 2) := by
                  show _ = _
                  rw [HFJ.out, ← HTE.out, ← List.append_assoc, List.length_append, ← HMB.out, List.length_append, show TX.data.toList.length = TX.size by simp]
                  simp only [List.length_cons, List.length_nil]
                  omega
                have HO2 : Hid (w'.ownsRow w.heap.size 5 1 (.slice A3 (B ++ F (j + 1)).length c3) (B ++ F (j + 1)).length (bv (B ++ F (j + 1)))) := by
                  show World.ownsRow _ _ _ _ _ _ _
                  rw [HL2.out, HFJ.out, ← List.append_assoc, bv_app (B ++ F j), bv_app (txL cn), ← HTE.out, ← bv_str, ← List.append_assoc]
                  have e : bv [UInt8.ofNat ck.toNat, if false = true then 1 else 0] = [Value.int .u8 ck, Value.int .u8 0] := by
                    simp only [bv, List.map_cons, List.map_nil]
                    rw [byteI (by omega) (by omega)]
                    rfl
                  rw [e]
                  exact ho'
                refine hK.out _ _ ?_
                intro K2 hK2
                rw [if_pos (by rfl)]
                clear ho ho' hg hg' hTB hbW
                go_simp
                refine hK2.out _ _ ?_
                go_wp2_with fail
                go_roundw
                case rel => exact ⟨j + 1, A3, c3, by omega, by go_num, by rw [HL2.out], HO2, HTB2, hbw2⟩
                case measure => simp [intOf]; omega
              all_goals
                intro x W hJ
                repeat (intro v hv; obtain ⟨g, rfl, hgb, hgn⟩ := hv)
                intro K hK
                have y0 := hJ.1.cell 0
                have y1 := hJ.1.cell 1
                simp only [List.getElem?_toArray, List.getElem?_cons_zero, List.getElem?_cons_succ] at y0 y1
                rw [if_pos (by rfl)]; simp only [overlay, upd, cond_true, cond_false, List.getD_cons_zero, List.getD_cons_succ, Nat.reduceEqDiff, reduceIte]
                go_simp
                first
                  | exact hK.out _ _ (Below.refl _ _) rfl
                  | exact hK.out _ _ (by repeat (first | exact Below.refl _ _ | assumption | refine Below.drew ?_ | refine below_drewN ?_ _ | refine Below.alloc ?_ (by simp <;> omega) _)) ⟨_, rfl, Blk.new _ _ _, obl_ne hJ.2.2.1⟩
                  | ((with_reducible refine (HTN.out _ hJ.2.2.2).mono ?_); rintro e wa ⟨rfl, hba⟩; go_wp2_with fail; exact hK.out _ _ hba rfl)
            · go_upto_region 15 with fail
              have HCB := Lib.hid (Blk.new wr #[.string cn, .int .u8 ck, .bool true] 180)
              have hbw1 : Below w.heap.size w (wr.alloc (.cells #[.string cn, .int .u8 ck, .bool true] 180)) := bt hbw (by repeat (first | exact Below.refl _ _ | assumption | refine Below.drew ?_ | refine below_drewN ?_ _ | refine Below.alloc ?_ (by simp <;> omega) _))
              have HO1 := Lib.hid (HO.out.alloc (.cells #[.string cn, .int .u8 ck, .bool true] 180))
              have HTB1 := Lib.hid (HTB.out.old (.cells #[.string cn, .int .u8 ck, .bool true] 180))
              generalize wr.alloc (.cells #[.string cn, .int .u8 ck, .bool true] 180) = W1 at HCB hbw1 HO1 HTB1 ⊢
              generalize wr.heap.size = cb at HCB ⊢
              clear d0 d1 d2 HO HTB hbw
              refine region_two 9 4 _ _ [false, false, false, false, false, false, false, false, false, false, false, false, false, false, false, false, false, false, false, false, false, false, false, false, false, false, false, false, false, false, false, false, false, false, false, false, false, false, false, false, false, false, false, false, false, false, false, false, true, true, true, true, true, true, true, true, true, false, false, false, false, false, false, false, false, false, false, false, false, false, false, false, false, false, false, false] [48, 49, 50, 51, 52, 53, 54, 55, 56] [.val (.slice A' m c'), .val (.pointer (some ⟨cb, 0, none⟩)), .val (.string cn), .val (.string TX), kAny, .val (.pointer (some ⟨cb, 1, none⟩)), .val (.int .u8 ck), .val (.int .u8 1), newB (.slice A' m c') #[.int .u8 ck, .int .u8 1] 2]
                (fun W => Blk W cb #[.string cn, .int .u8 ck, .bool true] 180 ∧ Blk W tb #[.string nm, .slice (some ⟨cbk, coff, none⟩) cs.length tc, .int .i64 key, .int .i64 ref, .int .i64 par] 116 ∧ obl (.slice A' m c') W ∧ Below w.heap.size w W)
                (fun W => W.ownsRow w.heap.size 5 1 (.slice A' m c') m (bv (B ++ F j)))
                (fun v W => ∃ A2 c2, v = .slice A2 (m + TX.size) c2 ∧ W.ownsRow w.heap.size 5 1 v (m + TX.size) (bv (B ++ F j) ++ Lib.strCells TX))
                (fun W W' => W.ownsRow w.heap.size 5 1 (.slice A' m c') m (bv (B ++ F j)) ∧ W.grownBy W' (Value.slice A' m c').ownBlock) [8] ?hJ ?hV ?hV1 ?hJT ?hKT ?hJ0 HO1.out (by kernel_rfl) (by kernel_rfl) rfl rfl (by decide) (by kernel_rfl) (by kernel_rfl) (by kernel_rfl) (by kernel_rfl) rfl (by kernel_rfl) (by kernel_rfl) ⟨?_, ?_, ?_, ?_, ?app, ?_, ?_, ?_, ?_, trivial⟩ ?done
              case hJ => exact fun W W' h hb => ⟨h.1.ext hb, h.2.1.ext hb, fun g hg => Nat.lt_of_lt_of_le (h.2.2.1 g hg) hb.size, bt h.2.2.2 hb⟩
              case hV => exact fun W W' h hb => own_below h hb
              case hV1 => exact fun v W W' h hb => by obtain ⟨A2, c2, e, h⟩ := h; exact ⟨A2, c2, e, own_below h hb⟩
              case hJT => exact fun W W' ht h => ⟨h.1.grown ht.1 (by decide) ht.2, h.2.1.grown ht.1 (by decide) ht.2, fun g hg => Nat.lt_of_lt_of_le (h.2.2.1 g hg) ht.2.size, h.2.2.2.grown ht.2 h.2.2.2.size (own_ge ht.1)⟩
              case hKT =>
                simp only [List.forall_mem_cons]
                exact ⟨kt_val _, kt_val _, kt_val _, kt_val _, kt_any, kt_val _, kt_val _, kt_val _, kt_new (fun _ _ h => h.2), fun _ h => by cases h⟩
              case hJ0 => exact ⟨HCB.out, HTB1.out, obl_own HO1.out, hbw1⟩
              case app =>
                intro x W hJ hV
                intro K hK
                rw [if_pos (by rfl)]
                simp only [overlay, upd, cond_true, cond_false]
                have hsz := hJ.2.2.2.size
                refine wp_append_str W (.tmp 48) (.tmp 51) 125 9 rfl w.heap.size 5 i0 Tryd.underlying125 Tryd.underlying9 hi0 hz0 hz1 hz2 (.slice A' m c') m _ rfl hV TX rfl (by simp only [maxLen]; omega) (by omega) (by omega) ?_
                intro v' w' ho hg
                obtain ⟨A2, c2, rfl⟩ := own_form ho
                exact hK.out _ _ ⟨⟨hV, hg⟩, A2, c2, rfl, ho⟩
              case done =>
                rintro x W v ⟨_, hTB, _, hbW⟩ ⟨A2, c2, rfl, ho⟩
                simp only [StepGoal, newB, List.getD_cons_zero, List.getD_cons_succ]
                rintro v9 ⟨g, rfl, hg, _⟩
                intro K hK
                rw [if_pos (by rfl)]
                simp only [overlay, upd, cond_true, cond_false, Nat.reduceEqDiff, reduceIte]
                have hsz := hbW.size
                refine wp_append_own W (.tmp 52) (.tmp 56) 125 rfl w.heap.size 5 i0 _ 1 1 Tryd.underlying125 hi0 hz0 hz1 hz2 rfl (by decide) (.slice A2 (m + TX.size) c2) (m + TX.size) _ rfl ho ⟨g, 0, none⟩ 2 2 [.int .u8 ck, .int .u8 1] rfl rfl (cells_blk2 hg) (by simp [Value.oneCell']) (by simp only [maxLen]; omega) (by omega) (by omega) ?_
                intro v' w' ho' hg' _
                obtain ⟨A3, c3, rfl⟩ := own_form ho'
                have HTB2 := Lib.hid (hTB.grown ho (by decide) hg')
                have hbw2 : Below w.heap.size w w' := hbW.grown hg' hbW.size (own_ge ho)
                have HL2 : Hid ((B ++ F (j + 1)).length = m + TX.size + 2) := by
                  show _ = _
                  rw [HFJ.out, ← HTE.out, ← List.append_assoc, List.length_append, ← HMB.out, List.length_append, show TX.data.toList.length = TX.size by simp]
                  simp only [List.length_cons, List.length_nil]
                  omega
                have HO2 : Hid (w'.ownsRow w.heap.size 5 1 (.slice A3 (B ++ F (j + 1)).length c3) (B ++ F (j + 1)).length (bv (B ++ F (j + 1)))) := by
                  show World.ownsRow _ _ _ _ _ _ _
                  rw [HL2.out, HFJ.out, ← List.append_assoc, bv_app (B ++ F j), bv_app (txL cn), ← HTE.out, ← bv_str, ← List.append_assoc]
                  have e : bv [UInt8.ofNat ck.toNat, if true = true then 1 else 0] = [Value.int .u8 ck, Value.int .u8 1] := by
                    simp only [bv, List.map_cons, List.map_nil]
                    rw [byteI (by omega) (by omega)]
                    rfl
                  rw [e]
                  exact ho'
                refine hK.out _ _ ?_
                intro K2 hK2
                rw [if_pos (by rfl)]
                clear ho ho' hg hg' hTB hbW
                go_simp
                refine hK2.out _ _ ?_
                go_wp2_with fail
                go_roundw
                case rel => exact ⟨j + 1, A3, c3, by omega, by go_num, by rw [HL2.out], HO2, HTB2, hbw2⟩
                case measure => simp [intOf]; omega
              all_goals
                intro x W hJ
                repeat (intro v hv; obtain ⟨g, rfl, hgb, hgn⟩ := hv)
                intro K hK
                have y0 := hJ.1.cell 0
                have y1 := hJ.1.cell 1
                simp only [List.getElem?_toArray, List.getElem?_cons_zero, List.getElem?_cons_succ] at y0 y1
                rw [if_pos (by rfl)]; simp only [overlay, upd, cond_true, cond_false, List.getD_cons_zero, List.getD_cons_succ, Nat.reduceEqDiff, reduceIte]
                go_simp
                first
                  | exact hK.out _ _ (Below.refl _ _) rfl
                  | exact hK.out _ _ (by repeat (first | exact Below.refl _ _ | assumption | refine Below.drew ?_ | refine below_drewN ?_ _ | refine Below.alloc ?_ (by simp <;> omega) _)) ⟨_, rfl, Blk.new _ _ _, obl_ne hJ.2.2.1⟩
                  | ((with_reducible refine (HTN.out _ hJ.2.2.2).mono ?_); rintro e wa ⟨rfl, hba⟩; go_wp2_with fail; exact hK.out _ _ hba rfl)
          · obtain rfl : j = cs.length := by omega
            obtain ⟨m, hm⟩ : ∃ m, m = (B ++ F cs.length).length := ⟨_, rfl⟩
            rw [← hm] at HO hFl ⊢
            have HMB := Lib.hid hm
            have hwk : IntKind.u8.wrap key = key := by simp [IntKind.wrap, IntKind.bits, IntKind.signed]; omega
            have hwr : IntKind.u8.wrap (ref + 1) = ref + 1 := by simp [IntKind.wrap, IntKind.bits, IntKind.signed]; omega
            have hwp : IntKind.u8.wrap (par + 1) = par + 1 := by simp [IntKind.wrap, IntKind.bits, IntKind.signed]; omega
            have hown := HO.out
            have hsz := hbw.size
            obtain ⟨y0, y1, y2, y3, y4⟩ := blk5 HTB.out
            have hlB := HTB.out.lt
            clear hm HO hlt hj
            go_wp2_with (at_builtin; refine wpList_append_own _ rfl _ _ 125 rfl w.heap.size 5 i0 _ 1 1 Tryd.underlying125 hi0 hz0 hz1 hz2 rfl (by decide) _ m _ rfl (hown.alloc _) ⟨wr.heap.size, 0, none⟩ 3 3 [.int .u8 key, .int .u8 (ref + 1), .int .u8 (par + 1)] rfl rfl (cells_blk3 (Blk.new _ _ _)) ?c2 ?c3 ?c4 ?c5 ?_)
            case c2 => simp [Value.oneCell']
            case c3 => simp only [maxLen]; omega
            case c4 => omega
            case c5 => simp; omega
            intro v' w3 hown3 hg3 _
            obtain ⟨A3, c3, rfl⟩ := own_form hown3
            have hbw3 : Below w.heap.size w w3 := (hbw.alloc hbw.size _).grown hg3 (by simp; omega) (own_ge hown)
            have HL3 : Hid ((hdS ts (k + 1)).length = m + 3) := by
              show _ = _
              rw [HSN.out, ← List.append_assoc, List.length_append, ← HMB.out]
              rfl
            have HO3 : Hid (w3.ownsRow w.heap.size 5 1 (.slice A3 (hdS ts (k + 1)).length c3) (hdS ts (k + 1)).length (bv (hdS ts (k + 1)))) := by
              show World.ownsRow _ _ _ _ _ _ _
              rw [HL3.out, HSN.out, ← List.append_assoc, bv_app]
              have e : bv [UInt8.ofNat key.toNat, UInt8.ofNat (ref + 1).toNat, UInt8.ofNat (par + 1).toNat] = [Value.int .u8 key, Value.int .u8 (ref + 1), Value.int .u8 (par + 1)] := by
                simp only [bv, List.map_cons, List.map_nil]
                rw [byteI (by omega) (by omega), byteI (by omega) (by omega), byteI (by omega) (by omega)]
              rw [e]
              exact hown3
            clear hown3 hg3 hown hbw hsz y0 y1 y2 y3 y4 HTB hlB
            go_wp2_with fail
            go_roundw
            case rel => exact ⟨k + 1, A3, c3, by omega, by go_num, by rw [HL3.out], HO3, hbw3⟩
            case measure => simp [intOf]; omega
      all_goals
        intro x W hJ
        repeat (intro v hv; obtain ⟨g, rfl, hgb, hgn⟩ := hv)
        intro K hK
        obtain ⟨y0, y1, y2, y3, y4⟩ := blk5 hJ.1
        rw [if_pos (by rfl)]; simp only [overlay, upd, cond_true, cond_false, List.getD_cons_zero, List.getD_cons_succ, Nat.reduceEqDiff, reduceIte]
        go_simp
        first
          | exact hK.out _ _ (Below.refl _ _) rfl
          | exact hK.out _ _ (by repeat (first | exact Below.refl _ _ | assumption | refine Below.drew ?_ | refine below_drewN ?_ _ | refine Below.alloc ?_ (by simp <;> omega) _)) ⟨_, rfl, Blk.new _ _ _, obl_ne hJ.2.1⟩
          | ((with_reducible refine (HTN.out _ hJ.2.2).mono ?_); rintro e wa ⟨rfl, hba⟩; go_wp2_with fail; exact hK.out _ _ hba rfl)
    · obtain rfl : k = ts.length := by omega
      have hput : hdS ts ts.length = putS ts := by unfold hdS putS; rw [List.take_length]
      have hown := HO.out
      rw [hput] at hown ⊢
      have hpos : 0 < (putS ts).length := by simp [putS]
      obtain ⟨g, cap, hv, _, _⟩ := hown.form hpos
      have hA : A' = some ⟨g, 0, none⟩ := by injection hv
      subst hA
      have hcv := run_convert_bytes_back (P := Tryd.prog) wr 125 9 5 ⟨g, 0, none⟩ c' (putS ts) Tryd.underlying125 Tryd.underlying5 Tryd.underlying9 (fun j hj => hown.cells (g := g) rfl j _ (by unfold bv; rw [List.getElem?_map, List.getElem?_eq_getElem hj]; rfl))
      clear hown hput HO hpos hv hlt hk
      go_wp2_with fail
      go_ret2
      exact ⟨rfl, hbw⟩
theorem putsch_any (ts : List Ta) (A : Option Addr) (c : Nat) (w : World) (hT : Tabs w) (ht : TRow w A c ts) :
    Calls Tryd.prog 75 #[.agg #[.slice A ts.length c]] w fun r w' => r = .returned (putSR ts) ∧ Below w.heap.size w w' := by
  cases hs : schB ts
  · have HCK := Lib.hid (fun (W : World) (hW : Below w.heap.size w W) => check13_any ts A c W (ht.ext hW))
    rw [hs, okE_f' rfl] at HCK
    have hR : putSR ts = .tuple #[.string ⟨#[]⟩, .int .i64 2] := by unfold putSR; rw [hs]; rfl
    rw [hR]
    have hlen := ht.2.1
    clear ht hT hs hR
    go_enter Tryd.func75, Tryd.ntmps75
    go_wp2_with fail
    refine (HCK.out _ (by repeat (first | exact Below.refl _ _ | assumption | refine Below.drew ?_ | refine below_drewN ?_ _ | refine Below.alloc ?_ (by simp <;> omega) _))).mono ?_
    rintro r w1 ⟨rfl, hb1⟩
    have hbw : Below w.heap.size w w1 := bt (by repeat (first | exact Below.refl _ _ | assumption | refine Below.drew ?_ | refine below_drewN ?_ _ | refine Below.alloc ?_ (by simp <;> omega) _)) hb1
    clear hb1
    go_wp2_with fail
    go_ret2
    exact ⟨rfl, hbw⟩
  · have h := putsch_yes ts A c w hT ht hs
    have hR : putSR ts = .tuple #[.string ⟨(putS ts).toArray⟩, .int .i64 0] := by unfold putSR; rw [hs]; rfl
    rw [hR]
    exact h
end Go.Proofs.YtjdfodmialhakaaDoor
