/- Several texts in one: see each part's head. -/
import Derived.Test.YtgklopgeimjgiaaGreatDoorJ5
import Derived.Deep.CutBlock
import Derived.Test.YtgklopgeimjgiaaGreatDoorJ4
/- The law of region_grow with any relation T of the worlds in Below's place: for regions that store into what they have made themselves. -/
namespace Go.Proofs.YtgklopgeimjgiaaGreatDoor
open Go.RowKit

def KT (T : World → World → Prop) (k : Known) : Prop := ∀ v w w', T w w' → k.holds v w → k.holds v w'
theorem KT.val {T : World → World → Prop} (c : Value) : KT T (.val c) := fun _ _ _ _ h => h
def StepBodyT (P : Program) (ops : Array Oper) (Q : Exit → Act → World → Prop) (mask : List Bool) (L : List Value) (df : List Deferred) (T : World → World → Prop) (k : Known) (w : World) (d : Nat) (o : Oper) (x : Nat → Value) : Prop :=
  ∀ K' : Act → World → Prop, Shut (∀ v w', T w w' → k.holds v w' → K' ⟨(overlay (upd x d v) 0 mask L).toArray, df⟩ w') →
    if Region.wanted o (yielded ops (overlay x 0 mask L).toArray) = true then Oper.wp P o ⟨(overlay x 0 mask L).toArray, df⟩ w K' Q else K' (Act.put ⟨(overlay x 0 mask L).toArray, df⟩ o.dst undef) w
def StepsT (P : Program) (ops : Array Oper) (Q : Exit → Act → World → Prop) (mask : List Bool) (L : List Value) (df : List Deferred) (T : World → World → Prop) (ps : List Known) (dst : Nat → Nat) (w0 : World) : Nat → List Oper → Prop
  | _, [] => True
  | i, o :: os => (∀ x w, T w0 w → StepGoal ps dst w (StepBodyT P ops Q mask L df T (ps.getD i kAny) w (dst i) o) (depsOf o) x) ∧ StepsT P ops Q mask L df T ps dst w0 (i + 1) os
theorem StepsT.at_ {P : Program} {ops : Array Oper} {Q : Exit → Act → World → Prop} {mask : List Bool} {L : List Value} {df : List Deferred} {T : World → World → Prop} {ps : List Known} {dst : Nat → Nat} {w0 : World} :
    ∀ (os : List Oper) (n i : Nat) (o : Oper), StepsT P ops Q mask L df T ps dst w0 n os → os[i]? = some o → ∀ x w, T w0 w → StepGoal ps dst w (StepBodyT P ops Q mask L df T (ps.getD (n + i) kAny) w (dst (n + i)) o) (depsOf o) x
  | [], _, _, _, _, h => by simp at h
  | o' :: os, n, 0, o, hs, h => by
    simp only [List.getElem?_cons_zero, Option.some.injEq] at h
    subst h
    exact hs.1
  | o' :: os, n, i + 1, o, hs, h => by
    have := StepsT.at_ os (n + 1) i o hs.2 (by simpa using h)
    rw [show n + 1 + i = n + (i + 1) by omega] at this
    exact this
theorem region_free {P : Program} {id : Nat} {ops : Array Oper} {Q : Exit → Act → World → Prop} {L : List Value} {df : List Deferred} {w0 : World} (T : World → World → Prop) (mask : List Bool) (dsts : List Nat) (ps : List Known) (fin : List Nat)
    (hT0 : T w0 w0.drew) (hTt : ∀ {a b c}, T a b → T b c → T a c) (hTk : ∀ k ∈ ps, KT T k)
    (hm : P.follows .mixedOrders = true) (hb : backB ops = true) (hdl : dsts = (List.range ops.size).map (dstN ops)) (hd : distB ops = true) (hfin : fin.all (fun j => decide (j < ops.size)) = true)
    (hs : StepsT P ops Q mask L df T ps (fun i => dsts.getD i 0) w0 0 ops.toList)
    (hdone : ∀ x w, T w0 w → StepGoal ps (fun i => dsts.getD i 0) w (fun x => Q .normal ⟨(overlay x 0 mask L).toArray, df⟩ w) fin x) :
    (Code.region id ops true).wp P Q ⟨L.toArray, df⟩ w0 := by
  have hKT : ∀ i, KT T (ps.getD i kAny) := by
    intro i
    rw [List.getD_eq_getElem?_getD]
    cases h : ps[i]? with
    | none => exact fun _ _ _ _ _ => trivial
    | some k => exact hTk k (List.mem_of_getElem? h)
  have hdg : ∀ i, i < ops.size → dsts.getD i 0 = dstN ops i := by
    intro i hi
    rw [hdl, List.getD_eq_getElem?_getD, List.getElem?_map, List.getElem?_range hi]
    rfl
  refine wp_region_any hm (wpAny_inv (fun listed a w => ∃ x : Nat → Value, a = ⟨(overlay x 0 mask L).toArray, df⟩ ∧ T w0 w ∧ ∀ i, i < ops.size → listed.getD i false = true → (ps.getD i kAny).holds (x (dsts.getD i 0)) w) ?_ ?_ _ _ _ _ (by simp) (by simp) ?_)
  · rintro listed a w i hsz ⟨x, rfl, hbw, hk⟩ hi
    obtain ⟨hun, o, ho, hall⟩ := mem_ready.1 hi
    have his : i < ops.size := (Array.getElem?_eq_some_iff.1 ho).1
    have hst := StepsT.at_ ops.toList 0 i o hs (by rw [Array.getElem?_toList]; exact ho) x w hbw
    rw [Nat.zero_add] at hst
    have hbd := StepGoal.use (depsOf o) x (fun j hj => by
      obtain ⟨e, he, rfl⟩ := List.mem_map.1 hj
      obtain ⟨he1, he2⟩ := List.mem_filter.1 he
      have hl := hall e (by simpa using he1) he2
      refine hk e.on ?_ hl
      rcases Nat.lt_or_ge e.on listed.size with h' | h'
      · omega
      · rw [Array.getD_eq_getD_getElem?, Array.getElem?_eq_none h'] at hl; cases hl) hst
    refine wpOp_step ho (fun K' hK => hbd K' (fun v w' hb' hv => hK _ _ ⟨upd x (dsts.getD i 0) v, rfl, hTt hbw hb', fun j hj hlj => ?_⟩))
    by_cases hji : j = i
    · subst hji; rw [upd_eq]; exact hv
    · have hne : dsts.getD j 0 ≠ dsts.getD i 0 := by
        rw [hdg j hj, hdg i his]
        have h1 := List.all_eq_true.1 (List.all_eq_true.1 hd j (List.mem_range.2 hj)) i (List.mem_range.2 his)
        simpa [hji] using h1
      rw [upd_ne hne]
      refine hKT j _ _ _ hb' (hk j hj ?_)
      rw [Array.getD_eq_getD_getElem?] at hlj ⊢
      rwa [Array.getElem?_setIfInBounds_ne (Ne.symm hji)] at hlj
  · rintro listed a w hsz ⟨x, rfl, hbw, hk⟩ hr
    have hal := all_listed hb hsz hr
    exact StepGoal.use fin x (fun j hj => by
      have hjs : j < ops.size := of_decide_eq_true (List.all_eq_true.1 hfin j hj)
      exact hk j hjs (hal (j + 1) j (by omega) hjs)) (hdone x w hbw)
  · refine ⟨fun j => L.getD j undef, ?_, hT0, fun i hi h => ?_⟩
    · have := overlay_self L [] mask
      rw [List.nil_append, List.length_nil] at this
      rw [this]
    · rw [Array.getD_eq_getD_getElem?] at h
      simp [hi] at h
end Go.Proofs.YtgklopgeimjgiaaGreatDoor

/- VerifySees: which of two values is ahead: real.Key, real.Less, cmp.Compare, cmp.Or, value.compare, value.Less; the reference's rank, Less, Text, Less: all vLess. They draw and lay blocks, and turn nothing. -/
namespace Go.Proofs.YtgklopgeimjgiaaGreatDoor
open Go.RowKit

/-- A world that has drawn more, and has more blocks: nothing that was there has turned. -/
def Gw (w w' : World) : Prop := w.drawn ≤ w'.drawn ∧ Below w.heap.size w w'
theorem Gw.refl (w : World) : Gw w w := ⟨Nat.le_refl _, Below.refl _ _⟩
theorem Gw.trans {a b c : World} (h : Gw a b) (k : Gw b c) : Gw a c := ⟨Nat.le_trans h.1 k.1, bt h.2 k.2⟩
theorem Gw.alloc {a w : World} (h : Gw a w) (o : Obj) : Gw a (w.alloc o) := ⟨h.1, h.2.alloc h.2.size o⟩
theorem Gw.drew {a w : World} (h : Gw a w) : Gw a w.drew := ⟨Nat.le_succ_of_le h.1, h.2.drew⟩
theorem Gw.drewN {a w : World} (h : Gw a w) (n : Nat) : Gw a (w.drewN n) := ⟨Nat.le_trans h.1 (Nat.le_add_right _ _), below_drewN h.2 n⟩
theorem keyZ_low {r : Int} (h : canonZ r < 9223372036854775808) : keyZ r = canonZ r + 9223372036854775808 := by unfold keyZ; rw [if_pos h]
theorem keyZ_high {r : Int} (h : ¬ canonZ r < 9223372036854775808) : keyZ r = 18446744073709551615 - canonZ r := by unfold keyZ; rw [if_neg h]
theorem canonZ_in (b : Int) (h0 : 0 ≤ b) (h1 : b ≤ 18446744073709551615) : 0 ≤ canonZ b ∧ canonZ b ≤ 18446744073709551615 := by
  unfold canonZ; split <;> omega
theorem or_top (c : Int) (h0 : 0 ≤ c) (h1 : c < 9223372036854775808) : bits .or .u64 c 9223372036854775808 = c + 9223372036854775808 := by
  rw [u64_or _ _ (by omega) (by omega) (by omega) (by omega)]
  have e : (9223372036854775808 : Int).toNat = 9223372036854775808 := by decide
  rw [e, Nat.or_comm, nat_join 63 9223372036854775808 c.toNat (by omega) (by omega)]
  omega
theorem xor_all (c : Int) (h0 : 0 ≤ c) (h1 : c ≤ 18446744073709551615) : bits .xor .u64 IntKind.u64.max c = 18446744073709551615 - c := by
  rw [show IntKind.u64.max = 18446744073709551615 by decide, u64_xor _ _ (by omega) (by omega) (by omega) (by omega)]
  have e1 : (18446744073709551615 : Int).toNat = 18446744073709551615 := by decide
  have e := congrArg BitVec.toNat (BitVec.allOnes_xor (x := BitVec.ofNat 64 c.toNat))
  rw [BitVec.toNat_xor, BitVec.toNat_not, BitVec.toNat_allOnes, BitVec.toNat_ofNat, Nat.mod_eq_of_lt (by omega)] at e
  rw [e1]
  have e2 : 18446744073709551615 ^^^ c.toNat = 18446744073709551615 - c.toNat := by simpa using e
  rw [e2]; omega
set_option maxRecDepth 100000 in
theorem realkey_any (b : Int) (h0 : 0 ≤ b) (h1 : b ≤ 18446744073709551615) (w : World) :
    Calls Tryz.prog 125 #[.int .u64 b] w fun e w' => e = .returned (.int .u64 (keyZ b)) ∧ w = w' := by
  have HCN := Lib.hid (canon_any b h0 h1 w)
  have hc := canonZ_in b h0 h1
  by_cases h : canonZ b < 9223372036854775808
  · rw [keyZ_low h]
    have ho := or_top (canonZ b) hc.1 h
    have hs : canonZ b / 9223372036854775808 = 0 := by omega
    generalize canonZ b = c at *
    go_enter Tryz.func125, Tryz.ntmps125
    go_wp2_with (go_at_call 90; refine HCN.out.mono ?_; rintro e w' ⟨rfl, rfl⟩)
    go_ret
    exact ⟨rfl, rfl⟩
  · rw [keyZ_high h]
    have ho := xor_all (canonZ b) hc.1 hc.2
    have hs : canonZ b / 9223372036854775808 = 1 := by omega
    generalize canonZ b = c at *
    go_enter Tryz.func125, Tryz.ntmps125
    go_wp2_with (go_at_call 90; refine HCN.out.mono ?_; rintro e w' ⟨rfl, rfl⟩)
    go_ret
    exact ⟨rfl, rfl⟩
set_option maxRecDepth 100000 in
theorem realless_any (a b : Int) (ha : 0 ≤ a ∧ a ≤ 18446744073709551615) (hb : 0 ≤ b ∧ b ≤ 18446744073709551615) (w : World) :
    Calls Tryz.prog 101 #[.int .u64 a, .int .u64 b] w fun e w' => e = .returned (.bool (decide (keyZ a < keyZ b))) ∧ w = w' := by
  have HA := Lib.hid (realkey_any a ha.1 ha.2)
  have HB := Lib.hid (realkey_any b hb.1 hb.2)
  generalize keyZ a = x at *
  generalize keyZ b = y at *
  clear ha hb
  go_enter Tryz.func101, Tryz.ntmps101
  go_wp2_with fail
  refine (HA.out _).mono ?_
  rintro r w1 ⟨rfl, rfl⟩
  go_wp2_with fail
  refine (HB.out _).mono ?_
  rintro r w1 ⟨rfl, rfl⟩
  go_wp2_with fail
  go_ret
  exact ⟨rfl, rfl⟩
set_option maxRecDepth 100000 in
theorem isnan_i (x : Int) (w : World) : Calls Tryz.prog 81 #[.int .i64 x] w fun e w' => e = .returned (.bool false) ∧ w = w' := by
  go_enter Tryz.func81, Tryz.ntmps81
  go_wp2
  go_ret
  exact ⟨by simp, rfl⟩
set_option maxRecDepth 100000 in
theorem isnan_6 (x : Int) (w : World) : Calls Tryz.prog 127 #[.int .i64 x] w fun e w' => e = .returned (.bool false) ∧ w = w' := by
  go_enter Tryz.func127, Tryz.ntmps127
  go_wp2
  go_ret
  exact ⟨by simp, rfl⟩
set_option maxRecDepth 100000 in
theorem isnan_8 (x : Int) (w : World) : Calls Tryz.prog 126 #[.int .u8 x] w fun e w' => e = .returned (.bool false) ∧ w = w' := by
  go_enter Tryz.func126, Tryz.ntmps126
  go_wp2
  go_ret
  exact ⟨by simp, rfl⟩
set_option maxRecDepth 100000 in
theorem compare_i (x y : Int) (w : World) : Calls Tryz.prog 58 #[.int .i64 x, .int .i64 y] w fun e w' => e = .returned (.int .i64 (Lib.compareInt x y)) ∧ w = w' := by
  go_enter Tryz.func58, Tryz.ntmps58
  go_wp2_with (go_at_call 81; refine (isnan_i _ _).mono ?_; rintro e w' ⟨rfl, rfl⟩)
  all_goals (go_ret; refine ⟨?_, rfl⟩; unfold Lib.compareInt; (repeat' split) <;> first | rfl | (exfalso; omega))
set_option maxRecDepth 100000 in
theorem compare_6 (x y : Int) (w : World) : Calls Tryz.prog 104 #[.int .i64 x, .int .i64 y] w fun e w' => e = .returned (.int .i64 (Lib.compareInt x y)) ∧ w = w' := by
  go_enter Tryz.func104, Tryz.ntmps104
  go_wp2_with (go_at_call 127; refine (isnan_6 _ _).mono ?_; rintro e w' ⟨rfl, rfl⟩)
  all_goals (go_ret; refine ⟨?_, rfl⟩; unfold Lib.compareInt; (repeat' split) <;> first | rfl | (exfalso; omega))
set_option maxRecDepth 100000 in
theorem compare_8 (x y : Int) (w : World) : Calls Tryz.prog 103 #[.int .u8 x, .int .u8 y] w fun e w' => e = .returned (.int .i64 (Lib.compareInt x y)) ∧ w = w' := by
  go_enter Tryz.func103, Tryz.ntmps103
  go_wp2_with (go_at_call 126; refine (isnan_8 _ _).mono ?_; rintro e w' ⟨rfl, rfl⟩)
  all_goals (go_ret; refine ⟨?_, rfl⟩; unfold Lib.compareInt; (repeat' split) <;> first | rfl | (exfalso; omega))
/-- The first of four numbers that is not 0. -/
def or4F (a b c d : Int) : Int := if a ≠ 0 then a else if b ≠ 0 then b else if c ≠ 0 then c else d
set_option maxRecDepth 100000 in
theorem or_any (g : Nat) (a b c d : Int) (w : World) (hg : Blk w g #[.int .i64 a, .int .i64 b, .int .i64 c, .int .i64 d] 3) :
    Calls Tryz.prog 102 #[.slice (some ⟨g, 0, none⟩) 4 4] w fun e w' => e = .returned (.int .i64 (or4F a b c d)) ∧ w = w' := by
  have z0 := hg.cell 0
  have z1 := hg.cell 1
  have z2 := hg.cell 2
  have z3 := hg.cell 3
  simp only [List.getElem?_toArray, List.getElem?_cons_zero, List.getElem?_cons_succ] at z0 z1 z2 z3
  have lg := hg.lt
  clear hg
  obtain ⟨R, hR⟩ : ∃ R, R = or4F a b c d := ⟨_, rfl⟩
  rw [← hR]
  have HR := Lib.hid hR
  clear hR
  go_enter Tryz.func102, Tryz.ntmps102
  go_wp2_with fail
  refine wp_loop_rounds 5 ?_
  by_cases h1 : a = 0
  · have q1 : (a != 0) = false := by simp [h1]
    by_cases h2 : b = 0
    · have q2 : (b != 0) = false := by simp [h2]
      by_cases h3 : c = 0
      · have q3 : (c != 0) = false := by simp [h3]
        have HF : Hid (R = d) := by show _ = _; rw [HR.out]; simp [or4F, h1, h2, h3]
        by_cases h4 : d = 0
        · have q4 : (d != 0) = false := by simp [h4]
          have HG : Hid ((0 : Int) = R) := by show _ = _; rw [HF.out, h4]
          clear h1 h2 h3 h4
          repeat (rw [rounds_succ]; go_wp2)
          go_ret
          exact ⟨ret_int HG.out, rfl⟩
        · have q4 : (d != 0) = true := by simp [h4]
          clear h1 h2 h3 h4
          repeat (rw [rounds_succ]; go_wp2)
          go_ret
          exact ⟨ret_int HF.out.symm, rfl⟩
      · have q3 : (c != 0) = true := by simp [h3]
        have HF : Hid (R = c) := by show _ = _; rw [HR.out]; simp [or4F, h1, h2, h3]
        clear h1 h2 h3
        repeat (rw [rounds_succ]; go_wp2)
        go_ret
        exact ⟨ret_int HF.out.symm, rfl⟩
    · have q2 : (b != 0) = true := by simp [h2]
      have HF : Hid (R = b) := by show _ = _; rw [HR.out]; simp [or4F, h1, h2]
      clear h1 h2
      repeat (rw [rounds_succ]; go_wp2)
      go_ret
      exact ⟨ret_int HF.out.symm, rfl⟩
  · have q1 : (a != 0) = true := by simp [h1]
    have HF : Hid (R = a) := by show _ = _; rw [HR.out]; simp [or4F, h1]
    clear h1
    repeat (rw [rounds_succ]; go_wp2)
    go_ret
    exact ⟨ret_int HF.out.symm, rfl⟩
/-- Which of two values is ahead, as a number. -/
def relsF (a b : V) : Int := if keyZ a.r < keyZ b.r then -1 else if keyZ b.r < keyZ a.r then 1 else 0
def cmpF (a b : V) : Int := or4F (Lib.compareInt a.k b.k) (Lib.compareInt a.n b.n) (relsF a b) (Lib.compareBytes a.t.data.toList b.t.data.toList)
theorem cmpF_less (a b : V) : decide (cmpF a b < 0) = vLess a b := by
  unfold cmpF vLess lexL or4F Lib.compareInt relsF
  simp only []
  generalize Lib.compareBytes a.t.data.toList b.t.data.toList = C
  generalize keyZ a.r = x
  generalize keyZ b.r = y
  by_cases k1 : a.k < b.k
  · simp [k1]
  · by_cases k2 : b.k < a.k
    · simp [k1, k2]
    · by_cases n1 : a.n < b.n
      · simp [k1, k2, n1]
      · by_cases n2 : b.n < a.n
        · simp [k1, k2, n1, n2]
        · by_cases r1 : x < y
          · simp [k1, k2, n1, n2, r1]
          · by_cases r2 : y < x
            · simp [k1, k2, n1, n2, r1, r2]
            · simp [k1, k2, n1, n2, r1, r2]
theorem KT_bel {T : World → World → Prop} (h : ∀ a b, T a b → Below a.heap.size a b) (k : Known) : KT T k := fun _ _ _ ht hk => Known.ext hk (h _ _ ht)
set_option maxRecDepth 100000 in
set_option maxHeartbeats 1600000 in
theorem vcompare_any (a b : V) (w : World) (ha : a.wf) (hb : b.wf) : Calls Tryz.prog 82 #[a.agg, b.agg] w fun e w' => e = .returned (.int .i64 (cmpF a b)) ∧ Gw w w' := by
  obtain ⟨CF, hCF⟩ : ∃ q, q = cmpF a b := ⟨_, rfl⟩
  obtain ⟨R, hR⟩ : ∃ q, q = relsF a b := ⟨_, rfl⟩
  rw [← hCF]
  unfold cmpF at hCF
  rw [← hR] at hCF
  unfold relsF at hR
  obtain ⟨ak, an, ar, at'⟩ := a
  obtain ⟨bk, bn, br, bt'⟩ := b
  have wa := ha.2.2.2.2
  have wb := hb.2.2.2.2
  unfold V.agg
  simp only at hCF hR wa wb ⊢
  have HL1 := Lib.hid (realless_any ar br ⟨wa.1, wa.2.1⟩ ⟨wb.1, wb.2.1⟩)
  have HL2 := Lib.hid (realless_any br ar ⟨wb.1, wb.2.1⟩ ⟨wa.1, wa.2.1⟩)
  have HC8 := Lib.hid (compare_8 ak bk)
  have HC6 := Lib.hid (compare_6 an bn)
  have HST := Lib.hid (fun W => Tryz.strings_Compare at' bt' W)
  generalize Lib.compareInt ak bk = C1 at hCF HC8
  generalize Lib.compareInt an bn = C2 at hCF HC6
  generalize Lib.compareBytes at'.data.toList bt'.data.toList = C4 at hCF HST
  have HCF := Lib.hid hCF
  have HR := Lib.hid hR
  have HOR := Lib.hid (or_any)
  clear ha hb hCF hR wa wb
  generalize keyZ ar = x at HL1 HL2 HR
  generalize keyZ br = y at HL1 HL2 HR
  go_enter Tryz.func82, Tryz.ntmps82
  go_upto_block 0 with fail
  have HB0 : Hid (Blk ((w.alloc (.cells #[.int .u8 ak, .int .i64 an, .int .u64 ar, .string at'] 49)).alloc (.cells #[.int .u8 bk, .int .i64 bn, .int .u64 br, .string bt'] 49)) w.heap.size #[.int .u8 ak, .int .i64 an, .int .u64 ar, .string at'] 49) := (Blk.new w _ _).old _
  have HB1 : Hid (Blk ((w.alloc (.cells #[.int .u8 ak, .int .i64 an, .int .u64 ar, .string at'] 49)).alloc (.cells #[.int .u8 bk, .int .i64 bn, .int .u64 br, .string bt'] 49)) (w.heap.size + 1) #[.int .u8 bk, .int .i64 bn, .int .u64 br, .string bt'] 49) := (by repeat (first | exact Blk.at (by simp) | assumption | refine Blk.drew ?_ | refine Blk.old ?_ _))
  have HC : Hid (Gw w ((w.alloc (.cells #[.int .u8 ak, .int .i64 an, .int .u64 ar, .string at'] 49)).alloc (.cells #[.int .u8 bk, .int .i64 bn, .int .u64 br, .string bt'] 49))) := ((Gw.refl w).alloc _).alloc _
  generalize (w.alloc (.cells #[.int .u8 ak, .int .i64 an, .int .u64 ar, .string at'] 49)).alloc (.cells #[.int .u8 bk, .int .i64 bn, .int .u64 br, .string bt'] 49) = W0 at HB0 HB1 HC ⊢
  generalize w.heap.size + 1 = B1 at HB1 ⊢
  generalize w.heap.size = B0 at HB0 ⊢
  have x2 := HB0.out.cell 2
  have y2 := HB1.out.cell 2
  have l0 := HB0.out.lt
  have l1 := HB1.out.lt
  simp only [List.getElem?_toArray, List.getElem?_cons_zero, List.getElem?_cons_succ] at x2 y2
  go_cut [5] (fun v wx => v = .int .i64 R ∧ wx = W0)
  case first =>
    by_cases h1 : x < y
    · have HG : Hid (R = -1) := by show _ = _; rw [HR.out, if_pos h1]
      clear HR
      go_wp2_with fail
      refine (HL1.out _).mono ?_
      rintro r w1 ⟨rfl, rfl⟩
      go_wp2_with fail
      go_meet
      exact ⟨by rw [HG.out], rfl⟩
    · by_cases h2 : y < x
      · have HG : Hid (R = 1) := by show _ = _; rw [HR.out, if_neg h1, if_pos h2]
        clear HR
        go_wp2_with fail
        refine (HL1.out _).mono ?_
        rintro r w1 ⟨rfl, rfl⟩
        go_wp2_with fail
        refine (HL2.out _).mono ?_
        rintro r w1 ⟨rfl, rfl⟩
        go_wp2_with fail
        go_meet
        exact ⟨by rw [HG.out], rfl⟩
      · have HG : Hid (R = 0) := by show _ = _; rw [HR.out, if_neg h1, if_neg h2]
        clear HR
        go_wp2_with fail
        refine (HL1.out _).mono ?_
        rintro r w1 ⟨rfl, rfl⟩
        go_wp2_with fail
        refine (HL2.out _).mono ?_
        rintro r w1 ⟨rfl, rfl⟩
        go_wp2_with fail
        go_meet
        exact ⟨by rw [HG.out], rfl⟩
  case rest =>
    obtain ⟨rfl, rfl⟩ := hcut
    clear x2 y2 HL1 HL2 HR
    go_upto_region 6 with fail
    refine region_free (Gw) [false, false, false, false, true, false, false, false, false, false, false, false, false, false, false, false, false, false, true, true, true, true, true, true, true, true, true, true, true, true, true, true, true, true, true, true] [18, 19, 20, 21, 22, 23, 24, 25, 26, 27, 28, 29, 30, 31, 32, 33, 34, 35, 4] [.val (.pointer (some ⟨B0, 0, none⟩)), .val (.int .u8 ak), .val (.pointer (some ⟨B1, 0, none⟩)), .val (.int .u8 bk), .val (.int .i64 C1), .val (.pointer (some ⟨B0, 1, none⟩)), .val (.int .i64 an), .val (.pointer (some ⟨B1, 1, none⟩)), .val (.int .i64 bn), .val (.int .i64 C2), .val (.int .i64 R), .val (.pointer (some ⟨B0, 3, none⟩)), .val (.string at'), .val (.pointer (some ⟨B1, 3, none⟩)), .val (.string bt'), .val (.int .i64 C4), .new (fun g => .slice (some ⟨g, 0, none⟩) 4 4) #[.int .i64 C1, .int .i64 C2, .int .i64 R, .int .i64 C4] 3, .val (.int .i64 (or4F C1 C2 R C4)), .val (.int .i64 (or4F C1 C2 R C4))] [18] ((Gw.refl _).drew) (Gw.trans) (fun k _ => KT_bel (fun _ _ h => h.2) k) (by kernel_rfl) (by kernel_rfl) (by kernel_rfl) (by kernel_rfl) (by kernel_rfl) ⟨?_, ?_, ?_, ?_, ?_, ?_, ?_, ?_, ?_, ?_, ?_, ?_, ?_, ?_, ?_, ?_, ?_, ?_, ?_, trivial⟩ ?done
    case done =>
      intro x w5 hb5
      simp only [StepGoal, overlay, upd, cond_true, cond_false, List.getD_cons_zero, List.getD_cons_succ, Nat.zero_add, Nat.reduceAdd, Nat.reduceEqDiff, reduceIte]
      go_wp2_with fail
      go_ret
      exact ⟨ret_int HCF.out.symm, HC.out.trans hb5⟩
    all_goals
      intro x w5 hb5
      first
        | intro g hg K hK
        | intro K hK
      have hA := HB0.out.ext hb5.2
      have hB := HB1.out.ext hb5.2
      have x0 := hA.cell 0
      have x1 := hA.cell 1
      have x3 := hA.cell 3
      have y0 := hB.cell 0
      have y1 := hB.cell 1
      have y3 := hB.cell 3
      have l0 := hA.lt
      have l1 := hB.lt
      simp only [List.getElem?_toArray, List.getElem?_cons_zero, List.getElem?_cons_succ] at x0 x1 x3 y0 y1 y3
      rw [if_pos (by rfl)]; simp only [overlay, upd, cond_true, cond_false, List.getD_cons_zero, List.getD_cons_succ, Nat.reduceEqDiff, reduceIte]
      go_simp
      first
        | exact hK.out _ _ (Gw.refl _) rfl
        | exact hK.out _ _ ((Gw.refl _).alloc _) ⟨_, rfl, Blk.new _ _ _⟩
        | ((with_reducible refine (HC8.out _).mono ?_); rintro e wa ⟨rfl, rfl⟩; go_wp2_with fail; exact hK.out _ _ (Gw.refl _) rfl)
        | ((with_reducible refine (HC6.out _).mono ?_); rintro e wa ⟨rfl, rfl⟩; go_wp2_with fail; exact hK.out _ _ (Gw.refl _) rfl)
        | ((with_reducible refine (HST.out _).mono ?_); rintro e wa ⟨rfl, rfl⟩; go_wp2_with fail; exact hK.out _ _ (Gw.refl _) rfl)
        | ((with_reducible refine (HOR.out _ _ _ _ _ _ hg).mono ?_); rintro e wa ⟨rfl, rfl⟩; go_wp2_with fail; exact hK.out _ _ (Gw.refl _) rfl)
set_option maxRecDepth 100000 in
theorem vless_gw (a b : V) (w : World) (ha : a.wf) (hb : b.wf) : Calls Tryz.prog 59 #[a.agg, b.agg] w fun e w' => e = .returned (.bool (vLess a b)) ∧ Gw w w' := by
  have HCP := Lib.hid (fun W => vcompare_any a b W ha hb)
  rw [← cmpF_less]
  generalize cmpF a b = C at HCP ⊢
  obtain ⟨ak, an, ar, at'⟩ := a
  obtain ⟨bk, bn, br, bt'⟩ := b
  unfold V.agg at HCP ⊢
  simp only at HCP ⊢
  clear ha hb
  go_enter Tryz.func59, Tryz.ntmps59
  go_wp2_with fail
  refine (HCP.out _).mono ?_
  rintro r w1 ⟨rfl, hb⟩
  have HB : Hid (Gw w w1) := (((Gw.refl w).alloc _).alloc _).trans hb
  clear hb HCP
  go_wp2_with fail
  go_ret
  exact ⟨rfl, HB.out⟩
end Go.Proofs.YtgklopgeimjgiaaGreatDoor
