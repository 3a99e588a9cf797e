/- Several texts in one: see each part's head. -/
import Derived.Test.YtjdfodmialhakaaDoorPlain4
/- The contract of the reference's GetRow: the same row as the code's. -/
namespace Go.Proofs.YtjdfodmialhakaaDoor
open Go.RowKit

theorem cells_new5 (w : World) (o : Obj) (a b c d : Value) (t : TypeId) : ∀ j u, [a, b, c, d][j]? = some u → ((w.alloc o).alloc (.cells #[a, b, c, d] t)).cell? ((⟨w.heap.size + 1, 0, none⟩ : Addr).add j) = some u := by
  have h := cells_new4 (w.alloc o) a b c d t
  have e : (w.alloc o).heap.size = w.heap.size + 1 := by simp
  rw [e] at h
  exact h
theorem refget_at (s : ByteArray) (hs : s.size ≤ 140737488355328) (pos : Nat) (w : World) (hT : Tabs w) :
    Calls Tryd.prog 29 #[.string (s.extract pos s.size)] w fun e w' => e = .returned (trip (getV (s.data.toList.drop pos))) ∧ Below w.heap.size w w' := by
  have := refget_any (s.extract pos s.size) (by rw [ByteArray.size_extract]; omega) w hT
  rw [tail_list, ← getV_refG] at this
  exact this
theorem ret_row {tmps : Array Value} {W : World} (a b c : Value) (h2 : tmps.getD 2 undef = a) (h3 : tmps.getD 3 undef = b) (h4 : tmps.getD 4 undef = c) :
    (results Tryd.f30 tmps).run Tryd.prog W = .ok (.tuple #[a, b, c]) W := by
  have h2' : tmps[2]?.getD undef = a := by simpa using h2
  have h3' : tmps[3]?.getD undef = b := by simpa using h3
  have h4' : tmps[4]?.getD undef = c := by simpa using h4
  simp only [results, Tryd.results30]
  simp [h2', h3', h4']
set_option maxRecDepth 100000 in
theorem refgetrow_nil (w : World) :
    Calls Tryd.prog 30 #[.string ByteArray.empty] w (RowPost w (getRow [])) := by
  go_enter Tryd.func30, Tryd.ntmps30
  go_wp2
  exact bodyPost_ret (ret_row _ _ _ rfl rfl rfl) rfl ⟨Below.refl _ _, .inr ⟨by decide, rfl⟩⟩
set_option maxRecDepth 100000 in
set_option maxHeartbeats 400000 in
theorem refgetrow_cons (s : ByteArray) (w : World) (hs : s.size ≤ 140737488355328) (hT : Tabs w) (c : UInt8) (r : List UInt8) (hl : s.data.toList = c :: r) :
    Calls Tryd.prog 30 #[.string s] w (RowPost w (getRow (c :: r))) := by
  obtain ⟨hlt, e2, e3, e4⟩ := hd_lt (p := 0) (by rw [List.drop_zero]; exact hl)
  obtain ⟨p0, e0⟩ := head_at (s := s) (i := 0) (c := c) (by rw [hl]; rfl)
  rw [Nat.zero_add] at e3
  have HTw := Lib.hid hT
  have g0 : ((s.size : Int) == 0) = false := by rw [beq_eq_false_iff_ne]; omega
  have hb : (c.toNat : Int) < 256 := by have := c.toNat_lt; omega
  have hb0 : (0 : Int) ≤ (c.toNat : Int) := by omega
  have HE3 := Lib.hid e3
  clear e2 e3 e4 hl hT
  by_cases hcount : c.toNat < 1 ∨ 8 < c.toNat
  · have e : getRow (c :: r) = (7, [], 0) := by rw [getRow, if_pos hcount]
    rw [e]
    clear e
    rcases hcount with hcount | hcount
    · have hi : (c.toNat : Int) < 1 := by omega
      clear hcount
      go_enter Tryd.func30, Tryd.ntmps30
      go_wp2
      exact bodyPost_ret (ret_row _ _ _ rfl rfl rfl) rfl ⟨Below.refl _ _, .inr ⟨by decide, rfl⟩⟩
    · have hi : (8 : Int) < c.toNat := by omega
      clear hcount
      go_enter Tryd.func30, Tryd.ntmps30
      go_wp2
      exact bodyPost_ret (ret_row _ _ _ rfl rfl rfl) rfl ⟨Below.refl _ _, .inr ⟨by decide, rfl⟩⟩
  · have e : getRow (c :: r) = joinR [] 1 (getVs c.toNat r) := by rw [getRow, if_neg hcount, joinR]; simp
    rw [e]
    clear e
    have hc1 : (1 : Int) ≤ c.toNat := by omega
    have hc8 : (c.toNat : Int) ≤ 8 := by omega
    clear hcount
    obtain ⟨R, hR⟩ : ∃ R, R = joinR [] 1 (getVs c.toNat r) := ⟨_, rfl⟩
    rw [← hR]
    have HR := Lib.hid hR
    clear hR
    obtain ⟨i0, hi0, hz0, hz1, hz2⟩ := info_parts info_V
    go_enter Tryd.func30, Tryd.ntmps30
    go_wp2
    go_loopw [5, 7, 8] (fun p out i wr => ∃ (k pos : Nat) (vs : List V), k ≤ c.toNat ∧ p = .int .i64 pos ∧ i = .int .i64 k ∧ pos ≤ s.size ∧ Hid (R = joinR vs pos (getVs (c.toNat - k) (s.data.toList.drop pos))) ∧ wr.ownsRow w.heap.size 24 4 out k (rowCells vs) ∧ Below w.heap.size w wr) (fun _ _ i _ => c.toNat - (intOf i).toNat)
    case atStart => exact ⟨0, 1, [], by omega, rfl, rfl, by omega, (by rw [← HE3.out]; exact HR.out : _ = _), World.ownsRow_nil _ _ _ _, Below.refl _ _⟩
    case round =>
      obtain ⟨k, pos, vs, hk, rfl, rfl, hpos, HRR, hown, hbw⟩ := hrel
      by_cases hlt' : k < c.toNat
      · have hli : (k : Int) < c.toNat := by omega
        obtain ⟨m, hm⟩ : ∃ m, c.toNat - k = m + 1 := ⟨c.toNat - k - 1, by omega⟩
        have hval := refget_at s hs pos wr (HTw.out.ext hbw)
        have hsl := slice_tail s pos hpos
        by_cases hv : (getV (s.data.toList.drop pos)).1 = 0
        · have hle := (getV_le (s.data.toList.drop pos) hv).1
          have hjoin := HRR.out
          rw [hm, join_ok hv, List.drop_drop] at hjoin
          rw [List.length_drop] at hle
          unfold trip at hval
          rw [hv] at hval
          generalize (getV (s.data.toList.drop pos)).2.2 = z at hval hle hjoin
          generalize (getV (s.data.toList.drop pos)).2.1 = v at hval hjoin
          have hmk : m = c.toNat - (k + 1) := by omega
          rw [hmk] at hjoin
          have HJ := Lib.hid hjoin
          have hposz : pos + z ≤ s.size := by have : s.data.toList.length = s.size := by simp
                                              omega
          obtain ⟨vk, vn, vr, vt⟩ := v
          unfold V.agg at hval
          have HVAL := Lib.hid hval
          clear hval hjoin hmk hm hv hle HRR
          go_wp2_with (first
            | (go_at_call 29; refine (HVAL.out).mono ?_; rintro e w2 ⟨rfl, hB2⟩; have hown2 := own_grown hown (only_below hB2 none) (.inl rfl); have hb2 := bt hbw hB2; clear hB2 hown hbw HVAL)
            | (at_builtin; refine wpList_append_own _ rfl _ _ 25 rfl w.heap.size 24 i0 _ 4 40 Tryd.underlying25 hi0 hz0 hz1 hz2 rfl (by decide) _ k (rowCells vs) rfl ((hown2.alloc _).alloc _) ⟨w2.heap.size + 1, 0, none⟩ 1 1 [.int .u8 vk, .int .i64 vn, .int .u64 vr, .string vt] rfl rfl (cells_new5 w2 _ _ _ _ _ _) ?c2 ?c3 ?c4 ?c5 ?_))
          case c2 => simp [Value.oneCell']
          case c3 => simp only [maxLen]; omega
          case c4 => omega
          case c5 => have := hb2.size; simp; omega
          intro v' w3 hown3 hg3 _
          have hown4 : w3.ownsRow w.heap.size 24 4 v' (k + 1) (rowCells (vs ++ [⟨vk, vn, vr, vt⟩])) := by rw [rowCells_snoc]; exact hown3
          have hbw3 : Below w.heap.size w w3 := ((hb2.alloc hb2.size _).alloc (by have := hb2.size; simp; omega) _).grown hg3 (by have := hb2.size; simp; omega) (own_ge hown2)
          clear hown3 hg3 hown2 hb2
          go_wp2
          go_roundw
          case rel => exact ⟨k + 1, pos + z, vs ++ [⟨vk, vn, vr, vt⟩], by omega, by go_num, by go_num, hposz, HJ, hown4, hbw3⟩
          case measure => simp [intOf]; omega
        · have hjoin := HRR.out
          rw [hm, join_no hv] at hjoin
          unfold trip at hval
          generalize (getV (s.data.toList.drop pos)).1 = E at hval hjoin hv
          generalize (getV (s.data.toList.drop pos)).2.2 = z at hval
          generalize (getV (s.data.toList.drop pos)).2.1 = v at hval
          obtain ⟨vk, vn, vr, vt⟩ := v
          unfold V.agg at hval
          have gE : (E == 0) = false := by rw [beq_eq_false_iff_ne]; exact hv
          have HJ := Lib.hid hjoin
          have HVAL := Lib.hid hval
          have HEV := Lib.hid hv
          clear hval hjoin hm hv HRR
          go_wp2_with (go_at_call 29; refine (HVAL.out).mono ?_; rintro e w2 ⟨rfl, hB2⟩; have hb2 := bt hbw hB2)
          refine bodyPost_ret (ret_row _ _ _ rfl rfl rfl) rfl ⟨hb2.alloc hb2.size _, .inr ⟨?_, ?_⟩⟩
          · rw [HJ.out]; exact HEV.out
          · rw [HJ.out]; rfl
      · have hli : (c.toNat : Int) ≤ k := by omega
        have hkk : k = c.toNat := by omega
        have hjoin := HRR.out
        rw [hkk, Nat.sub_self, getVs, joinR] at hjoin
        simp only [if_true, List.append_nil, Nat.add_zero] at hjoin
        rw [hkk] at hown
        have hlen : c.toNat = vs.length := by have := hown.1; rw [rowCells_length] at this; omega
        rw [hlen] at hown
        obtain ⟨A, cc, rfl⟩ : ∃ A cc, u7 = .slice A vs.length cc := by
          rcases hown.2 with ⟨rfl, h⟩ | ⟨g', cap, cur, rfl, _⟩
          · exact ⟨none, 0, by rw [h]⟩
          · exact ⟨_, _, rfl⟩
        subst hjoin
        have HOWN := Lib.hid hown
        have HKK := Lib.hid hkk
        clear hkk HRR hown hlen HR
        go_wp2
        exact bodyPost_ret (ret_row _ _ _ rfl rfl rfl) rfl ⟨hbw, .inl ⟨rfl, A, cc, rfl, HOWN.out⟩⟩
theorem refgetrow_any (s : ByteArray) (w : World) (hs : s.size ≤ 140737488355328) (hT : Tabs w) :
    Calls Tryd.prog 30 #[.string s] w (RowPost w (getRow s.data.toList)) := by
  cases hl : s.data.toList with
  | nil =>
    obtain rfl : s = ByteArray.empty := by
      obtain ⟨⟨l⟩⟩ := s
      simp only at hl
      subst hl
      rfl
    exact refgetrow_nil w
  | cons c r => exact refgetrow_cons s w hs hT c r hl
end Go.Proofs.YtjdfodmialhakaaDoor

/- The contract of code.Get: which value any bytes begin with, or why with none. -/
namespace Go.Proofs.YtjdfodmialhakaaDoor
open Go.RowKit

theorem EBlk.far' {w : World} {b : Nat} {n : Int} (h : EBlk w b n) {p : Addr} (hn : b ≠ p.block) (u : Value) : EBlk (w.setCell p u) b n := (Below.heap_setCell w p u b hn).trans h
theorem EBlk.drew {w : World} {b : Nat} {n : Int} (h : EBlk w b n) : EBlk w.drew b n := h
theorem VBlk.drew {w : World} {b : Nat} {v : V} (h : VBlk w b v) : VBlk w.drew b v := h
theorem load_E {W : World} {b : Nat} {n : Int} (h : EBlk W b n) : (loadVar 29 ⟨b, 0, none⟩).run Tryd.prog W = .ok (.int .i64 n) W := by
  have c0 := h.c0
  clear h
  go_simp
theorem door_getno {w w1 : World} {n : Int} {t0 t1 t5 t6 t7 t8 t9 t10 t11 t12 t13 t14 t15 t16 : Value}
    (hb : Below w.heap.size w w1) (hv : VBlk w1 w.heap.size V0) (he : EBlk w1 (w.heap.size + 1) 0) :
    bodyPostD Tryd.prog Tryd.f28 (fun e w' => e = .returned (trip (n, V0, 0)) ∧ Below w.heap.size w w') (Exit.panic [{ v := .iface 29 (.int .i64 n), recovered := false }])
      { tmps := #[t0, t1, .pointer (some ⟨w.heap.size, 0, none⟩), .int .i64 0, .pointer (some ⟨w.heap.size + 1, 0, none⟩), t5, t6, t7, t8, t9, t10, t11, t12, t13, t14, t15, t16],
        defers := [{ target := Target.fn (Fn.func 100) #[], args := #[.pointer (some ⟨w.heap.size + 1, 0, none⟩)] }] } w1 := by
  refine leaves_cons (f := 100) (args := #[.pointer (some ⟨w.heap.size + 1, 0, none⟩)]) (by simp) (by simp [go_sem]) ?_
  refine (caught_up ⟨w.heap.size + 1, 0, none⟩ 0 n [] _ he.c0 (he.fr 0)).mono ?_
  rintro e u' w'' ⟨rfl, rfl, rfl⟩
  have hc := load_E (he.set n)
  have hl := load_V V0 (hv.far (p := ⟨w.heap.size + 1, 0, none⟩) (by simp) (.int .i64 n))
  simp [Leaves, settle, results, Tryd.results28, asAddr, hl, hc]
  exact ⟨rfl, hb.setCell (by simp) _⟩
theorem door_getok {w w1 : World} {v : V} {m : Nat} {t0 t1 t5 t6 t7 t8 t9 t10 t11 t12 t13 t14 t15 t16 : Value}
    (hb : Below w.heap.size w w1) (hv : VBlk w1 w.heap.size v) (he : EBlk w1 (w.heap.size + 1) 0) :
    bodyPostD Tryd.prog Tryd.f28 (fun e w' => e = .returned (trip (0, v, m)) ∧ Below w.heap.size w w') Exit.ret
      { tmps := #[t0, t1, .pointer (some ⟨w.heap.size, 0, none⟩), .int .i64 m, .pointer (some ⟨w.heap.size + 1, 0, none⟩), t5, t6, t7, t8, t9, t10, t11, t12, t13, t14, t15, t16],
        defers := [{ target := Target.fn (Fn.func 100) #[], args := #[.pointer (some ⟨w.heap.size + 1, 0, none⟩)] }] } w1 := by
  refine leaves_cons (f := 100) (args := #[.pointer (some ⟨w.heap.size + 1, 0, none⟩)]) (by simp) (by simp [go_sem]) ?_
  refine (caught_idle ⟨w.heap.size + 1, 0, none⟩ _).mono ?_
  rintro e u' w'' ⟨rfl, rfl, rfl⟩
  have hc := load_E he
  have hl := load_V v hv
  simp [Leaves, settle, results, Tryd.results28, asAddr, hl, hc]
  exact ⟨rfl, hb⟩
theorem finV_no {v : V} {n : Nat} (h : ¬ (finV v n).1 = 0) : finV v n = ((finV v n).1, V0, 0) := by
  cases hm : mayB v
  · rw [finV_not hm]
  · rw [finV_yes hm] at h; exact absurd rfl h
theorem getV_no {l : List UInt8} (h : ¬ (getV l).1 = 0) : getV l = ((getV l).1, V0, 0) := by
  unfold getV at h ⊢
  repeat' split
  all_goals first | rfl | (exact finV_no (by simpa [*] using h)) | skip
def W0 (w : World) (s : ByteArray) : World := ((w.alloc (.cells #[.int .u8 0, .int .i64 0, .int .u64 0, .string ⟨#[]⟩] 24)).alloc (.cells #[.int .i64 0] 29)).alloc (.cells #[.string s, .int .i64 0] 134)
theorem W0_rd (w : World) (s : ByteArray) : Rd (W0 w s) (w.heap.size + 2) s 0 := by
  have := heap_alloc_new ((w.alloc (.cells #[.int .u8 0, .int .i64 0, .int .u64 0, .string ⟨#[]⟩] 24)).alloc (.cells #[.int .i64 0] 29)) (.cells #[.string s, .int .i64 0] 134)
  simpa [Rd, W0] using this
theorem W0_e (w : World) (s : ByteArray) : EBlk (W0 w s) (w.heap.size + 1) 0 := by
  have := EBlk.new (w.alloc (.cells #[.int .u8 0, .int .i64 0, .int .u64 0, .string ⟨#[]⟩] 24)) s
  simpa [W0] using this
theorem W0_v (w : World) (s : ByteArray) : VBlk (W0 w s) w.heap.size V0 :=
  ((VBlk.new w).ext ((Below.refl _ _).alloc (Nat.le_refl _) _)).ext ((Below.refl _ _).alloc (Nat.le_refl _) _)
theorem W0_b (w : World) (s : ByteArray) : Below w.heap.size w (W0 w s) := (((Below.refl _ _).alloc (Nat.le_refl _) _).alloc (by simp) _).alloc (by simp; omega) _
set_option maxRecDepth 100000 in
set_option maxHeartbeats 400000 in
theorem get_any (s : ByteArray) (w : World) (hs : s.size ≤ 140737488355328) (hT : Tabs w) :
    Calls Tryd.prog 28 #[.string s] w fun e w' => e = .returned (trip (getV s.data.toList)) ∧ Below w.heap.size w w' := by
  have HB0 := Lib.hid (W0_b w s)
  have HV0 := Lib.hid (W0_v w s)
  have HE0 := Lib.hid (W0_e w s)
  have HR0 := Lib.hid (W0_rd w s)
  by_cases hv : (getV s.data.toList).1 = 0
  · have hval := value_yes s (w.heap.size + 2) 0 _ (W0_rd w s) hs (by omega) (hT.ext (W0_b w s)) (by rw [List.drop_zero]; exact hv)
    rw [List.drop_zero, Nat.zero_add] at hval
    have eR : getV s.data.toList = (0, (getV s.data.toList).2.1, (getV s.data.toList).2.2) := by rw [← hv]
    rw [eR]
    generalize (getV s.data.toList).2.1 = v at hval ⊢
    generalize (getV s.data.toList).2.2 = z at hval ⊢
    obtain ⟨vk, vn, vr, vt⟩ := v
    unfold V.agg W0 at hval
    have HVAL := Lib.hid hval
    clear hval hv eR hT
    go_enter_defers Tryd.func28, Tryd.ntmps28
    go_wp2_with (go_at_call 102; refine (HVAL.out).mono ?_; rintro e w2 ⟨rfl, hR2, hG2⟩; have hsz := hG2.size; have hE2 := HE0.out.grown hG2 (by simp); have hV2 := HV0.out.grown hG2 (by simp); have hb2 := below_only HB0.out hG2 (by omega); have hz2 : w.heap.size + 2 < w2.heap.size := hR2.lt; have HR2 := Lib.hid hR2; have HE2 := Lib.hid hE2; have HV2 := Lib.hid hV2; clear hR2 hE2 hV2 hG2 hsz)
    have hE3 := HE2.out.ext ((Below.refl w2.heap.size w2).alloc (Nat.le_refl _) (.cells #[.int .u8 vk, .int .i64 vn, .int .u64 vr, .string vt] 24))
    have hV3 := HV2.out.ext ((Below.refl w2.heap.size w2).alloc (Nat.le_refl _) (.cells #[.int .u8 vk, .int .i64 vn, .int .u64 vr, .string vt] 24))
    have hR3 := HR2.out.far ((Below.refl w2.heap.size w2).alloc (Nat.le_refl _) (.cells #[.int .u8 vk, .int .i64 vn, .int .u64 vr, .string vt] 24))
    have hU3 := VBlk.mk4 w2 vk vn vr vt
    have hb3 := hb2.alloc hb2.size (.cells #[.int .u8 vk, .int .i64 vn, .int .u64 vr, .string vt] 24)
    generalize w2.alloc (.cells #[.int .u8 vk, .int .i64 vn, .int .u64 vr, .string vt] 24) = w3 at hE3 hV3 hR3 hU3 hb3 ⊢
    have hn1 : ¬ w.heap.size = w2.heap.size := by omega
    have hn2 : ¬ w.heap.size + 1 = w2.heap.size := by omega
    have hn3 : ¬ w.heap.size + 2 = w2.heap.size := by omega
    generalize w2.heap.size = b2 at hU3 hn1 hn2 hn3 ⊢
    have c1 := hR3.c1
    have d0 := hE3.c0
    have d1 := hE3.fr 0
    obtain ⟨f0, f1, f2, f3, f4⟩ := hV3.zero
    obtain ⟨u0, u1, u2, u3, u4⟩ := hU3.cells4
    have HR3 := Lib.hid hR3
    have HE3 := Lib.hid hE3
    have HV3 := Lib.hid hV3
    clear HE2 HV2 HR2 hE3 hV3 hR3 hU3 hb2 hz2 HR0 HV0 HE0 HB0
    go_region
    go_wp2
    refine door_getok (v := ⟨vk, vn, vr, vt⟩) ?_ ?_ ?_
    · exact (((((hb3.setCell (Nat.le_refl _) _).setCell (Nat.le_refl _) _).setCell (Nat.le_refl _) _).setCell (Nat.le_refl _) _).setCell (by simp) _).drew
    · exact VBlk.drew ((HV3.out.set4 vk vn vr vt).far (p := ⟨w.heap.size + 1, 0, none⟩) (by simp) _)
    · have hq : EBlk ((((w3.setCell ⟨w.heap.size, 0, none⟩ (.int .u8 vk)).setCell ⟨w.heap.size, 1, none⟩ (.int .i64 vn)).setCell ⟨w.heap.size, 2, none⟩ (.int .u64 vr)).setCell ⟨w.heap.size, 3, none⟩ (.string vt)) (w.heap.size + 1) 0 :=
        (((HE3.out.far' (p := ⟨w.heap.size, 0, none⟩) (by simp) _).far' (p := ⟨w.heap.size, 1, none⟩) (by simp) _).far' (p := ⟨w.heap.size, 2, none⟩) (by simp) _).far' (p := ⟨w.heap.size, 3, none⟩) (by simp) _
      exact EBlk.drew (hq.set 0)
  · have hval := value_not s (w.heap.size + 2) 0 _ (W0_rd w s) hs (by omega) (hT.ext (W0_b w s)) (by rw [List.drop_zero]; exact hv)
    rw [List.drop_zero] at hval
    have eR : getV s.data.toList = ((getV s.data.toList).1, V0, 0) := getV_no hv
    rw [eR]
    generalize (getV s.data.toList).1 = E at hval ⊢
    unfold W0 at hval
    have HVAL := Lib.hid hval
    clear hval hv eR hT
    go_enter_defers Tryd.func28, Tryd.ntmps28
    go_wp2_with (go_at_call 102; refine (HVAL.out).mono ?_; rintro e w2 ⟨rfl, hG2⟩; unfold gaveUp)
    exact door_getno (below_only HB0.out hG2 (by omega)) (HV0.out.grown hG2 (by simp)) (HE0.out.grown hG2 (by simp))
end Go.Proofs.YtjdfodmialhakaaDoor
