/- The contract of code.Get: which value any bytes begin with, or why with none. -/
import Derived.Test.YtjdfodmialhakaaDoorRef9
namespace Go.Proofs.YtjdfodmialhakaaDoor
open Go.RowKit

theorem EBlk.far' {w : World} {b : Nat} {n : Int} (h : EBlk w b n) {p : Addr} (hn : b ≠ p.block) (u : Value) : EBlk (w.setCell p u) b n := (Below.heap_setCell w p u b hn).trans h
theorem EBlk.drew {w : World} {b : Nat} {n : Int} (h : EBlk w b n) : EBlk w.drew b n := h
theorem VBlk.drew {w : World} {b : Nat} {v : V} (h : VBlk w b v) : VBlk w.drew b v := h
theorem load_E {W : World} {b : Nat} {n : Int} (h : EBlk W b n) : (loadVar 29 ⟨b, 0, none⟩).run Tryd.prog W = .ok (.int .i64 n) W := by
  have c0 := h.c0
  clear h
  go_simp
theorem door_getno {w w1 : World} {n : Int} {t0 t1 t5 t6 t7 t8 t9 t10 t11 t12 t13 t14 t15 t16 : Value}
    (hb : Below w.heap.size w w1) (hv : VBlk w1 w.heap.size V0) (he : EBlk w1 (w.heap.size + 1) 0) :
    bodyPostD Tryd.prog Tryd.f28 (fun e w' => e = .returned (trip (n, V0, 0)) ∧ Below w.heap.size w w') (Exit.panic [{ v := .iface 29 (.int .i64 n), recovered := false }])
      { tmps := #[t0, t1, .pointer (some ⟨w.heap.size, 0, none⟩), .int .i64 0, .pointer (some ⟨w.heap.size + 1, 0, none⟩), t5, t6, t7, t8, t9, t10, t11, t12, t13, t14, t15, t16],
        defers := [{ target := Target.fn (Fn.func 100) #[], args := #[.pointer (some ⟨w.heap.size + 1, 0, none⟩)] }] } w1 := by
  refine leaves_cons (f := 100) (args := #[.pointer (some ⟨w.heap.size + 1, 0, none⟩)]) (by simp) (by simp [go_sem]) ?_
  refine (caught_up ⟨w.heap.size + 1, 0, none⟩ 0 n [] _ he.c0 (he.fr 0)).mono ?_
  rintro e u' w'' ⟨rfl, rfl, rfl⟩
  have hc := load_E (he.set n)
  have hl := load_V V0 (hv.far (p := ⟨w.heap.size + 1, 0, none⟩) (by simp) (.int .i64 n))
  simp [Leaves, settle, results, Tryd.results28, asAddr, hl, hc]
  exact ⟨rfl, hb.setCell (by simp) _⟩
theorem door_getok {w w1 : World} {v : V} {m : Nat} {t0 t1 t5 t6 t7 t8 t9 t10 t11 t12 t13 t14 t15 t16 : Value}
    (hb : Below w.heap.size w w1) (hv : VBlk w1 w.heap.size v) (he : EBlk w1 (w.heap.size + 1) 0) :
    bodyPostD Tryd.prog Tryd.f28 (fun e w' => e = .returned (trip (0, v, m)) ∧ Below w.heap.size w w') Exit.ret
      { tmps := #[t0, t1, .pointer (some ⟨w.heap.size, 0, none⟩), .int .i64 m, .pointer (some ⟨w.heap.size + 1, 0, none⟩), t5, t6, t7, t8, t9, t10, t11, t12, t13, t14, t15, t16],
        defers := [{ target := Target.fn (Fn.func 100) #[], args := #[.pointer (some ⟨w.heap.size + 1, 0, none⟩)] }] } w1 := by
  refine leaves_cons (f := 100) (args := #[.pointer (some ⟨w.heap.size + 1, 0, none⟩)]) (by simp) (by simp [go_sem]) ?_
  refine (caught_idle ⟨w.heap.size + 1, 0, none⟩ _).mono ?_
  rintro e u' w'' ⟨rfl, rfl, rfl⟩
  have hc := load_E he
  have hl := load_V v hv
  simp [Leaves, settle, results, Tryd.results28, asAddr, hl, hc]
  exact ⟨rfl, hb⟩
theorem finV_no {v : V} {n : Nat} (h : ¬ (finV v n).1 = 0) : finV v n = ((finV v n).1, V0, 0) := by
  cases hm : mayB v
  · rw [finV_not hm]
  · rw [finV_yes hm] at h; exact absurd rfl h
theorem getV_no {l : List UInt8} (h : ¬ (getV l).1 = 0) : getV l = ((getV l).1, V0, 0) := by
  unfold getV at h ⊢
  repeat' split
  all_goals first | rfl | (exact finV_no (by simpa [*] using h)) | skip
def W0 (w : World) (s : ByteArray) : World := ((w.alloc (.cells #[.int .u8 0, .int .i64 0, .int .u64 0, .string ⟨#[]⟩] 24)).alloc (.cells #[.int .i64 0] 29)).alloc (.cells #[.string s, .int .i64 0] 134)
theorem W0_rd (w : World) (s : ByteArray) : Rd (W0 w s) (w.heap.size + 2) s 0 := by
  have := heap_alloc_new ((w.alloc (.cells #[.int .u8 0, .int .i64 0, .int .u64 0, .string ⟨#[]⟩] 24)).alloc (.cells #[.int .i64 0] 29)) (.cells #[.string s, .int .i64 0] 134)
  simpa [Rd, W0] using this
theorem W0_e (w : World) (s : ByteArray) : EBlk (W0 w s) (w.heap.size + 1) 0 := by
  have := EBlk.new (w.alloc (.cells #[.int .u8 0, .int .i64 0, .int .u64 0, .string ⟨#[]⟩] 24)) s
  simpa [W0] using this
theorem W0_v (w : World) (s : ByteArray) : VBlk (W0 w s) w.heap.size V0 :=
  ((VBlk.new w).ext ((Below.refl _ _).alloc (Nat.le_refl _) _)).ext ((Below.refl _ _).alloc (Nat.le_refl _) _)
theorem W0_b (w : World) (s : ByteArray) : Below w.heap.size w (W0 w s) := (((Below.refl _ _).alloc (Nat.le_refl _) _).alloc (by simp) _).alloc (by simp; omega) _
set_option maxRecDepth 100000 in
set_option maxHeartbeats 400000 in
theorem get_any (s : ByteArray) (w : World) (hs : s.size ≤ 140737488355328) (hT : Tabs w) :
    Calls Tryd.prog 28 #[.string s] w fun e w' => e = .returned (trip (getV s.data.toList)) ∧ Below w.heap.size w w' := by
  have HB0 := Lib.hid (W0_b w s)
  have HV0 := Lib.hid (W0_v w s)
  have HE0 := Lib.hid (W0_e w s)
  have HR0 := Lib.hid (W0_rd w s)
  by_cases hv : (getV s.data.toList).1 = 0
  · have hval := value_yes s (w.heap.size + 2) 0 _ (W0_rd w s) hs (by omega) (hT.ext (W0_b w s)) (by rw [List.drop_zero]; exact hv)
    rw [List.drop_zero, Nat.zero_add] at hval
    have eR : getV s.data.toList = (0, (getV s.data.toList).2.1, (getV s.data.toList).2.2) := by rw [← hv]
    rw [eR]
    generalize (getV s.data.toList).2.1 = v at hval ⊢
    generalize (getV s.data.toList).2.2 = z at hval ⊢
    obtain ⟨vk, vn, vr, vt⟩ := v
    unfold V.agg W0 at hval
    have HVAL := Lib.hid hval
    clear hval hv eR hT
    go_enter_defers Tryd.func28, Tryd.ntmps28
    go_wp2_with (go_at_call 102; refine (HVAL.out).mono ?_; rintro e w2 ⟨rfl, hR2, hG2⟩; have hsz := hG2.size; have hE2 := HE0.out.grown hG2 (by simp); have hV2 := HV0.out.grown hG2 (by simp); have hb2 := below_only HB0.out hG2 (by omega); have hz2 : w.heap.size + 2 < w2.heap.size := hR2.lt; have HR2 := Lib.hid hR2; have HE2 := Lib.hid hE2; have HV2 := Lib.hid hV2; clear hR2 hE2 hV2 hG2 hsz)
    have hE3 := HE2.out.ext ((Below.refl w2.heap.size w2).alloc (Nat.le_refl _) (.cells #[.int .u8 vk, .int .i64 vn, .int .u64 vr, .string vt] 24))
    have hV3 := HV2.out.ext ((Below.refl w2.heap.size w2).alloc (Nat.le_refl _) (.cells #[.int .u8 vk, .int .i64 vn, .int .u64 vr, .string vt] 24))
    have hR3 := HR2.out.far ((Below.refl w2.heap.size w2).alloc (Nat.le_refl _) (.cells #[.int .u8 vk, .int .i64 vn, .int .u64 vr, .string vt] 24))
    have hU3 := VBlk.mk4 w2 vk vn vr vt
    have hb3 := hb2.alloc hb2.size (.cells #[.int .u8 vk, .int .i64 vn, .int .u64 vr, .string vt] 24)
    generalize w2.alloc (.cells #[.int .u8 vk, .int .i64 vn, .int .u64 vr, .string vt] 24) = w3 at hE3 hV3 hR3 hU3 hb3 ⊢
    have hn1 : ¬ w.heap.size = w2.heap.size := by omega
    have hn2 : ¬ w.heap.size + 1 = w2.heap.size := by omega
    have hn3 : ¬ w.heap.size + 2 = w2.heap.size := by omega
    generalize w2.heap.size = b2 at hU3 hn1 hn2 hn3 ⊢
    have c1 := hR3.c1
    have d0 := hE3.c0
    have d1 := hE3.fr 0
    obtain ⟨f0, f1, f2, f3, f4⟩ := hV3.zero
    obtain ⟨u0, u1, u2, u3, u4⟩ := hU3.cells4
    have HR3 := Lib.hid hR3
    have HE3 := Lib.hid hE3
    have HV3 := Lib.hid hV3
    clear HE2 HV2 HR2 hE3 hV3 hR3 hU3 hb2 hz2 HR0 HV0 HE0 HB0
    go_region
    go_wp2
    refine door_getok (v := ⟨vk, vn, vr, vt⟩) ?_ ?_ ?_
    · exact (((((hb3.setCell (Nat.le_refl _) _).setCell (Nat.le_refl _) _).setCell (Nat.le_refl _) _).setCell (Nat.le_refl _) _).setCell (by simp) _).drew
    · exact VBlk.drew ((HV3.out.set4 vk vn vr vt).far (p := ⟨w.heap.size + 1, 0, none⟩) (by simp) _)
    · have hq : EBlk ((((w3.setCell ⟨w.heap.size, 0, none⟩ (.int .u8 vk)).setCell ⟨w.heap.size, 1, none⟩ (.int .i64 vn)).setCell ⟨w.heap.size, 2, none⟩ (.int .u64 vr)).setCell ⟨w.heap.size, 3, none⟩ (.string vt)) (w.heap.size + 1) 0 :=
        (((HE3.out.far' (p := ⟨w.heap.size, 0, none⟩) (by simp) _).far' (p := ⟨w.heap.size, 1, none⟩) (by simp) _).far' (p := ⟨w.heap.size, 2, none⟩) (by simp) _).far' (p := ⟨w.heap.size, 3, none⟩) (by simp) _
      exact EBlk.drew (hq.set 0)
  · have hval := value_not s (w.heap.size + 2) 0 _ (W0_rd w s) hs (by omega) (hT.ext (W0_b w s)) (by rw [List.drop_zero]; exact hv)
    rw [List.drop_zero] at hval
    have eR : getV s.data.toList = ((getV s.data.toList).1, V0, 0) := getV_no hv
    rw [eR]
    generalize (getV s.data.toList).1 = E at hval ⊢
    unfold W0 at hval
    have HVAL := Lib.hid hval
    clear hval hv eR hT
    go_enter_defers Tryd.func28, Tryd.ntmps28
    go_wp2_with (go_at_call 102; refine (HVAL.out).mono ?_; rintro e w2 ⟨rfl, hG2⟩; unfold gaveUp)
    exact door_getno (below_only HB0.out hG2 (by omega)) (HV0.out.grown hG2 (by simp)) (HE0.out.grown hG2 (by simp))
end Go.Proofs.YtjdfodmialhakaaDoor
