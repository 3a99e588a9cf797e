/- Several texts in one: see each part's head. -/
import Derived.Test.YtkfhfegogmlchaaDoorJ10
import Derived.Maps.OwnSet
import Derived.Test.YtkfhfegogmlchaaDoorJ21
import Derived.Test.YtkfhfegogmlchaaDoorJ9
/- The law of region_grow with any relation T of the worlds in Below's place: for regions that store into what they have made themselves. -/
namespace Go.Proofs.YtkfhfegogmlchaaDoor
open Go.RowKit

def KT (T : World → World → Prop) (k : Known) : Prop := ∀ v w w', T w w' → k.holds v w → k.holds v w'
theorem KT.val {T : World → World → Prop} (c : Value) : KT T (.val c) := fun _ _ _ _ h => h
def StepBodyT (P : Program) (ops : Array Oper) (Q : Exit → Act → World → Prop) (mask : List Bool) (L : List Value) (df : List Deferred) (T : World → World → Prop) (k : Known) (w : World) (d : Nat) (o : Oper) (x : Nat → Value) : Prop :=
  ∀ K' : Act → World → Prop, Shut (∀ v w', T w w' → k.holds v w' → K' ⟨(overlay (upd x d v) 0 mask L).toArray, df⟩ w') →
    if Region.wanted o (yielded ops (overlay x 0 mask L).toArray) = true then Oper.wp P o ⟨(overlay x 0 mask L).toArray, df⟩ w K' Q else K' (Act.put ⟨(overlay x 0 mask L).toArray, df⟩ o.dst undef) w
def StepsT (P : Program) (ops : Array Oper) (Q : Exit → Act → World → Prop) (mask : List Bool) (L : List Value) (df : List Deferred) (T : World → World → Prop) (ps : List Known) (dst : Nat → Nat) (w0 : World) : Nat → List Oper → Prop
  | _, [] => True
  | i, o :: os => (∀ x w, T w0 w → StepGoal ps dst w (StepBodyT P ops Q mask L df T (ps.getD i kAny) w (dst i) o) (depsOf o) x) ∧ StepsT P ops Q mask L df T ps dst w0 (i + 1) os
theorem StepsT.at_ {P : Program} {ops : Array Oper} {Q : Exit → Act → World → Prop} {mask : List Bool} {L : List Value} {df : List Deferred} {T : World → World → Prop} {ps : List Known} {dst : Nat → Nat} {w0 : World} :
    ∀ (os : List Oper) (n i : Nat) (o : Oper), StepsT P ops Q mask L df T ps dst w0 n os → os[i]? = some o → ∀ x w, T w0 w → StepGoal ps dst w (StepBodyT P ops Q mask L df T (ps.getD (n + i) kAny) w (dst (n + i)) o) (depsOf o) x
  | [], _, _, _, _, h => by simp at h
  | o' :: os, n, 0, o, hs, h => by
    simp only [List.getElem?_cons_zero, Option.some.injEq] at h
    subst h
    exact hs.1
  | o' :: os, n, i + 1, o, hs, h => by
    have := StepsT.at_ os (n + 1) i o hs.2 (by simpa using h)
    rw [show n + 1 + i = n + (i + 1) by omega] at this
    exact this
theorem region_free {P : Program} {id : Nat} {ops : Array Oper} {Q : Exit → Act → World → Prop} {L : List Value} {df : List Deferred} {w0 : World} (T : World → World → Prop) (mask : List Bool) (dsts : List Nat) (ps : List Known) (fin : List Nat)
    (hT0 : T w0 w0.drew) (hTt : ∀ {a b c}, T a b → T b c → T a c) (hTk : ∀ k ∈ ps, KT T k)
    (hm : P.follows .mixedOrders = true) (hb : backB ops = true) (hdl : dsts = (List.range ops.size).map (dstN ops)) (hd : distB ops = true) (hfin : fin.all (fun j => decide (j < ops.size)) = true)
    (hs : StepsT P ops Q mask L df T ps (fun i => dsts.getD i 0) w0 0 ops.toList)
    (hdone : ∀ x w, T w0 w → StepGoal ps (fun i => dsts.getD i 0) w (fun x => Q .normal ⟨(overlay x 0 mask L).toArray, df⟩ w) fin x) :
    (Code.region id ops true).wp P Q ⟨L.toArray, df⟩ w0 := by
  have hKT : ∀ i, KT T (ps.getD i kAny) := by
    intro i
    rw [List.getD_eq_getElem?_getD]
    cases h : ps[i]? with
    | none => exact fun _ _ _ _ _ => trivial
    | some k => exact hTk k (List.mem_of_getElem? h)
  have hdg : ∀ i, i < ops.size → dsts.getD i 0 = dstN ops i := by
    intro i hi
    rw [hdl, List.getD_eq_getElem?_getD, List.getElem?_map, List.getElem?_range hi]
    rfl
  refine wp_region_any hm (wpAny_inv (fun listed a w => ∃ x : Nat → Value, a = ⟨(overlay x 0 mask L).toArray, df⟩ ∧ T w0 w ∧ ∀ i, i < ops.size → listed.getD i false = true → (ps.getD i kAny).holds (x (dsts.getD i 0)) w) ?_ ?_ _ _ _ _ (by simp) (by simp) ?_)
  · rintro listed a w i hsz ⟨x, rfl, hbw, hk⟩ hi
    obtain ⟨hun, o, ho, hall⟩ := mem_ready.1 hi
    have his : i < ops.size := (Array.getElem?_eq_some_iff.1 ho).1
    have hst := StepsT.at_ ops.toList 0 i o hs (by rw [Array.getElem?_toList]; exact ho) x w hbw
    rw [Nat.zero_add] at hst
    have hbd := StepGoal.use (depsOf o) x (fun j hj => by
      obtain ⟨e, he, rfl⟩ := List.mem_map.1 hj
      obtain ⟨he1, he2⟩ := List.mem_filter.1 he
      have hl := hall e (by simpa using he1) he2
      refine hk e.on ?_ hl
      rcases Nat.lt_or_ge e.on listed.size with h' | h'
      · omega
      · rw [Array.getD_eq_getD_getElem?, Array.getElem?_eq_none h'] at hl; cases hl) hst
    refine wpOp_step ho (fun K' hK => hbd K' (fun v w' hb' hv => hK _ _ ⟨upd x (dsts.getD i 0) v, rfl, hTt hbw hb', fun j hj hlj => ?_⟩))
    by_cases hji : j = i
    · subst hji; rw [upd_eq]; exact hv
    · have hne : dsts.getD j 0 ≠ dsts.getD i 0 := by
        rw [hdg j hj, hdg i his]
        have h1 := List.all_eq_true.1 (List.all_eq_true.1 hd j (List.mem_range.2 hj)) i (List.mem_range.2 his)
        simpa [hji] using h1
      rw [upd_ne hne]
      refine hKT j _ _ _ hb' (hk j hj ?_)
      rw [Array.getD_eq_getD_getElem?] at hlj ⊢
      rwa [Array.getElem?_setIfInBounds_ne (Ne.symm hji)] at hlj
  · rintro listed a w hsz ⟨x, rfl, hbw, hk⟩ hr
    have hal := all_listed hb hsz hr
    exact StepGoal.use fin x (fun j hj => by
      have hjs : j < ops.size := of_decide_eq_true (List.all_eq_true.1 hfin j hj)
      exact hk j hjs (hal (j + 1) j (by omega) hjs)) (hdone x w hbw)
  · refine ⟨fun j => L.getD j undef, ?_, hT0, fun i hi h => ?_⟩
    · have := overlay_self L [] mask
      rw [List.nil_append, List.length_nil] at this
      rw [this]
    · rw [Array.getD_eq_getD_getElem?] at h
      simp [hi] at h
end Go.Proofs.YtkfhfegogmlchaaDoor

/- Several texts in one: see each part's head. -/
/- BufferNil: Event where there is no transaction; Next. -/
namespace Go.Proofs.YtkfhfegogmlchaaDoor
open Go.RowKit

theorem vrow_z {w : World} {h : Nat} (hb : Blk w h #[.int .u8 0, .int .i64 0, .int .u64 0, .string ⟨#[]⟩] 97) : VRow w (some ⟨h, 0, none⟩) [ZV] := by
  refine ⟨?_, by simp, fun _ => ⟨h, 0, rfl, hb.lt, fun i x hi => ?_⟩⟩
  · intro v hv
    obtain rfl : v = ZV := by simpa using hv
    unfold V.wf ZV
    refine ⟨?_, ?_, ?_, ?_, ?_, ?_, ?_⟩ <;> simp only <;> first | omega | decide
  · match i, hi with
    | 0, hi =>
      have : x = ZV := by simpa using hi.symm
      subst this
      exact ⟨hb.cell 0, hb.cell 1, hb.cell 2, hb.cell 3⟩
    | i + 1, hi => simp at hi
theorem vrow_nil (w : World) : VRow w none [] := ⟨by simp, by simp, fun h => absurd rfl h⟩
theorem ev5_ok (h : Nat) (w : World) (hT : Tabs w) (hb : Blk w h #[.int .u8 0, .int .i64 0, .int .u64 0, .string ⟨#[]⟩] 97) :
    Calls Tryd.prog 38 #[.agg #[.int .u64 5, .int .i64 0, .int .i64 0, .int .u8 1, .int .i64 0, .slice none 0 0, .slice (some ⟨h, 0, none⟩) 1 1]] w fun r w' => r = .returned (.int .i64 0) ∧ Below w.heap.size w w' :=
  evcheck_any ⟨5, 0, 0, 1, 0, [], [ZV]⟩ none (some ⟨h, 0, none⟩) 0 1 w hT (vrow_nil w) (vrow_z hb)
set_option maxRecDepth 100000 in
set_option maxHeartbeats 800000 in
theorem event1_none (p q B h : Nat) (A : Option Addr) (w : World) (hT : Tabs w) (hp : Blk w p #[.int .u64 5, .int .i64 0, .int .i64 0, .int .u8 1, .int .i64 0, .slice none 0 0, .slice (some ⟨h, 0, none⟩) 1 1] 59) (hq : Blk w q #[.pointer (some ⟨B, 0, none⟩)] 42)
    (hb : Blk w B #[.int .i64 1, .int .i64 2, .int .u64 5, .bool true, .slice A 0 0, .int .i64 0] 85) (hh : Blk w h #[.int .u8 0, .int .i64 0, .int .u64 0, .string ⟨#[]⟩] 97) :
    Calls Tryd.prog 37 #[.pointer (some ⟨p, 0, none⟩), .pointer (some ⟨q, 0, none⟩)] w fun r w' => r = .returned (.tuple #[.bool false, .int .i64 0]) ∧ Below w.heap.size w w' := by
  have HCE := Lib.hid (fun (W : World) (hW : Below w.heap.size w W) => ev5_ok h W (hT.ext hW) (hh.ext hW))
  have HP := Lib.hid hp
  have HQ := Lib.hid hq
  have HB := Lib.hid hb
  clear hp hq hb hh hT
  go_enter Tryd.func37, Tryd.ntmps37
  go_upto_region 1 with fail
  go_cut [19] (fun v wx => v = .bool false ∧ Hid (Below w.heap.size w wx))
  case first =>
    refine region_grow [false, false, false, false, false, false, false, true, true, true, true, true, true, true, true, true, true, true, true, true, false, false, false, false, false, false, false, false, false, false, false, false, false, false, false, false, false, false, false, false, false, false, false, false, false, false, false, false, false, false, false, false, false, false, false, false, false, false, false, false, false, false, false, false, false, false, false, false, false, false, false, false, false, false, false, false, false, false, false, false, false, false, false, false, false, false, false, false, false, false, false, false, false, false, false, false, false, false, false, false, false, false, false, false, false, false, false, false, false, false, false, false, false, false, false, false, false, false] [7, 8, 9, 10, 11, 12, 13, 14, 15, 16, 17, 18, 19] [.val (.agg #[.int .u64 5, .int .i64 0, .int .i64 0, .int .u8 1, .int .i64 0, .slice none 0 0, .slice (some ⟨h, 0, none⟩) 1 1]), .val (.int .i64 0), .val (.bool false), .val (.bool false), .val (.pointer (some ⟨p, 3, none⟩)), .val (.pointer (some ⟨p, 4, none⟩)), .val (.int .i64 0), .val (.pointer (some ⟨B, 0, none⟩)), .val (.pointer (some ⟨B, 0, none⟩)), .val (.pointer (some ⟨B, 0, none⟩)), .val (.int .i64 1), .val (.bool false), .val (.bool false)] [12] (by kernel_rfl) (by kernel_rfl) (by kernel_rfl) (by kernel_rfl) (by kernel_rfl) ⟨?_, ?_, ?_, ?_, ?_, ?_, ?_, ?_, ?_, ?_, ?_, ?_, ?_, trivial⟩ ?done
    case done =>
      intro x w5 hb5
      simp only [StepGoal, overlay, upd, cond_true, cond_false, List.getD_cons_zero, List.getD_cons_succ, Nat.zero_add, Nat.reduceAdd, Nat.reduceEqDiff, reduceIte]
      go_wp2_with fail
      go_meet
      exact ⟨rfl, hb5⟩
    all_goals
      intro x w5 hb5
      intro K hK
      have hP := HP.out.ext hb5
      have hQ := HQ.out.ext hb5
      have hB := HB.out.ext hb5
      have p0 := hP.cell 0
      have p1 := hP.cell 1
      have p2 := hP.cell 2
      have p3 := hP.cell 3
      have p4 := hP.cell 4
      have p5 := hP.cell 5
      have p6 := hP.cell 6
      have q0 := hQ.cell 0
      have b0 := hB.cell 0
      have b2 := hB.cell 2
      have b3 := hB.cell 3
      have lP := hP.lt
      have lQ := hQ.lt
      have lB := hB.lt
      simp only [List.getElem?_toArray, List.getElem?_cons_zero, List.getElem?_cons_succ] at p0 p1 p2 p3 p4 p5 p6 q0 b0 b2 b3
      rw [if_pos (by rfl)]; simp only [overlay, upd, cond_true, cond_false, List.getD_cons_zero, List.getD_cons_succ, Nat.reduceEqDiff, reduceIte]
      go_simp
      first
        | exact hK.out _ _ (Below.refl _ _) rfl
        | ((with_reducible refine (HCE.out _ hb5).mono ?_); rintro e wa ⟨rfl, hba⟩; go_wp2_with fail; exact hK.out _ _ hba rfl)
  case rest =>
    obtain ⟨rfl, HC⟩ := hcut
    rename World => w1
    have HP := Lib.hid (HP.out.ext HC.out)
    have HQ := Lib.hid (HQ.out.ext HC.out)
    have HB := Lib.hid (HB.out.ext HC.out)
    have HCE : Hid (∀ W : World, Below w1.heap.size w1 W → Calls Tryd.prog 38 #[.agg #[.int .u64 5, .int .i64 0, .int .i64 0, .int .u8 1, .int .i64 0, .slice none 0 0, .slice (some ⟨h, 0, none⟩) 1 1]] W fun r w' => r = .returned (.int .i64 0) ∧ Below W.heap.size W w') := fun W hW => HCE.out W (bt HC.out hW)
    go_upto_region 3 with fail
    go_cut [32] (fun v wx => v = .bool false ∧ Hid (Below w1.heap.size w1 wx))
    case first =>
      refine region_grow [false, false, false, false, false, false, false, false, false, false, false, false, false, false, false, false, false, false, false, false, true, true, true, true, true, true, true, true, true, true, true, true, true, false, false, false, false, false, false, false, false, false, false, false, false, false, false, false, false, false, false, false, false, false, false, false, false, false, false, false, false, false, false, false, false, false, false, false, false, false, false, false, false, false, false, false, false, false, false, false, false, false, false, false, false, false, false, false, false, false, false, false, false, false, false, false, false, false, false, false, false, false, false, false, false, false, false, false, false, false, false, false, false, false, false, false, false, false] [20, 21, 22, 23, 24, 25, 26, 27, 28, 29, 30, 31, 32] [.val (.pointer (some ⟨B, 0, none⟩)), .val (.pointer (some ⟨B, 0, none⟩)), .val (.pointer (some ⟨B, 3, none⟩)), .val (.bool true), .val (.bool true), .val (.pointer (some ⟨p, 0, none⟩)), .val (.int .u64 5), .val (.pointer (some ⟨B, 0, none⟩)), .val (.pointer (some ⟨B, 0, none⟩)), .val (.pointer (some ⟨B, 2, none⟩)), .val (.int .u64 5), .val (.bool false), .val (.bool false)] [12] (by kernel_rfl) (by kernel_rfl) (by kernel_rfl) (by kernel_rfl) (by kernel_rfl) ⟨?_, ?_, ?_, ?_, ?_, ?_, ?_, ?_, ?_, ?_, ?_, ?_, ?_, trivial⟩ ?done
      case done =>
        intro x w5 hb5
        simp only [StepGoal, overlay, upd, cond_true, cond_false, List.getD_cons_zero, List.getD_cons_succ, Nat.zero_add, Nat.reduceAdd, Nat.reduceEqDiff, reduceIte]
        go_wp2_with fail
        go_meet
        exact ⟨rfl, hb5⟩
      all_goals
        intro x w5 hb5
        intro K hK
        have hP := HP.out.ext hb5
        have hQ := HQ.out.ext hb5
        have hB := HB.out.ext hb5
        have p0 := hP.cell 0
        have p1 := hP.cell 1
        have p2 := hP.cell 2
        have p3 := hP.cell 3
        have p4 := hP.cell 4
        have p5 := hP.cell 5
        have p6 := hP.cell 6
        have q0 := hQ.cell 0
        have b0 := hB.cell 0
        have b2 := hB.cell 2
        have b3 := hB.cell 3
        have lP := hP.lt
        have lQ := hQ.lt
        have lB := hB.lt
        simp only [List.getElem?_toArray, List.getElem?_cons_zero, List.getElem?_cons_succ] at p0 p1 p2 p3 p4 p5 p6 q0 b0 b2 b3
        rw [if_pos (by rfl)]; simp only [overlay, upd, cond_true, cond_false, List.getD_cons_zero, List.getD_cons_succ, Nat.reduceEqDiff, reduceIte]
        go_simp
        first
          | exact hK.out _ _ (Below.refl _ _) rfl
          | ((with_reducible refine (HCE.out _ hb5).mono ?_); rintro e wa ⟨rfl, hba⟩; go_wp2_with fail; exact hK.out _ _ hba rfl)
    case rest =>
      obtain ⟨rfl, HW⟩ := hcut
      rename World => w2
      have HP := Lib.hid (HP.out.ext HW.out)
      have HQ := Lib.hid (HQ.out.ext HW.out)
      have HB := Lib.hid (HB.out.ext HW.out)
      have HC := Lib.hid (bt HC.out HW.out)
      have p0 := HP.out.cell 0
      have q0 := HQ.out.cell 0
      have lP := HP.out.lt
      have lQ := HQ.out.lt
      simp only [List.getElem?_toArray, List.getElem?_cons_zero] at p0 q0
      go_wp2_with fail
      refine (room_none B 0 A 1 2 5 0 5 true w2 HB.out).mono ?_
      rintro r w3 ⟨rfl, rfl⟩
      go_wp2_with fail
      go_ret2
      exact ⟨rfl, HC.out⟩
set_option maxRecDepth 100000 in
theorem event_none (B h : Nat) (A : Option Addr) (w : World) (hT : Tabs w) (hb : Blk w B #[.int .i64 1, .int .i64 2, .int .u64 5, .bool true, .slice A 0 0, .int .i64 0] 85) (hh : Blk w h #[.int .u8 0, .int .i64 0, .int .u64 0, .string ⟨#[]⟩] 97) :
    Calls Tryd.prog 18 #[.pointer (some ⟨B, 0, none⟩), .agg #[.int .u64 5, .int .i64 0, .int .i64 0, .int .u8 1, .int .i64 0, .slice none 0 0, .slice (some ⟨h, 0, none⟩) 1 1]] w fun r w' => r = .returned (.tuple #[.bool false, .int .i64 0]) ∧ Below w.heap.size w w' := by
  have hC : Below w.heap.size w ((w.alloc (.cells #[.pointer (some ⟨B, 0, none⟩)] 42)).alloc (.cells #[.int .u64 5, .int .i64 0, .int .i64 0, .int .u8 1, .int .i64 0, .slice none 0 0, .slice (some ⟨h, 0, none⟩) 1 1] 59)) := (by repeat (first | exact Below.refl _ _ | assumption | refine Below.drew ?_ | refine below_drewN ?_ _ | refine Below.alloc ?_ (by simp <;> omega) _))
  have hq : Blk ((w.alloc (.cells #[.pointer (some ⟨B, 0, none⟩)] 42)).alloc (.cells #[.int .u64 5, .int .i64 0, .int .i64 0, .int .u8 1, .int .i64 0, .slice none 0 0, .slice (some ⟨h, 0, none⟩) 1 1] 59)) w.heap.size #[.pointer (some ⟨B, 0, none⟩)] 42 := (Blk.new w _ _).old _
  have hp : Blk ((w.alloc (.cells #[.pointer (some ⟨B, 0, none⟩)] 42)).alloc (.cells #[.int .u64 5, .int .i64 0, .int .i64 0, .int .u8 1, .int .i64 0, .slice none 0 0, .slice (some ⟨h, 0, none⟩) 1 1] 59)) (w.heap.size + 1) #[.int .u64 5, .int .i64 0, .int .i64 0, .int .u8 1, .int .i64 0, .slice none 0 0, .slice (some ⟨h, 0, none⟩) 1 1] 59 := (by repeat (first | exact Blk.at (by simp) | assumption | refine Blk.drew ?_ | refine Blk.old ?_ _))
  have HTK := Lib.hid (taken_event B 0 0 (w.heap.size + 1) w.heap.size A 5 (fun is W => is = false ∧ Below w.heap.size w W) _ (hb.ext hC)
    ((event1_none (w.heap.size + 1) w.heap.size B h A _ (hT.ext hC) hp hq (hb.ext hC) (hh.ext hC)).mono (by
      rintro r w1 ⟨rfl, hbel⟩
      exact ⟨false, rfl, rfl, bt hC hbel⟩)))
  clear hC hq hp hb hh hT
  go_enter Tryd.func18, Tryd.ntmps18
  go_wp2_with fail
  refine HTK.out.mono ?_
  rintro r w2 ⟨is, rfl, rfl, hq⟩
  have HQ := Lib.hid hq
  clear hq HTK
  go_wp2_with fail
  go_ret2
  exact ⟨rfl, HQ.out⟩
set_option maxRecDepth 100000 in
theorem next_ok (B n c : Nat) (A : Option Addr) (nx fa : Int) (w : World) (hb : Blk w B #[.int .i64 1, .int .i64 2, .int .u64 nx, .bool true, .slice A n c, .int .i64 fa] 85) :
    Calls Tryd.prog 21 #[.pointer (some ⟨B, 0, none⟩)] w fun r w' => r = .returned (.tuple #[.int .u64 nx, .bool true]) ∧ Below w.heap.size w w' := by
  have b2 := hb.cell 2
  have b3 := hb.cell 3
  have lB := hb.lt
  simp only [List.getElem?_toArray, List.getElem?_cons_zero, List.getElem?_cons_succ] at b2 b3
  clear hb
  go_enter Tryd.func21, Tryd.ntmps21
  go_upto_region 3 with fail
  go_quiet (fail)
  go_wp2_with fail
  go_ret2
  exact ⟨rfl, below_drewN (Below.refl _ _) _⟩
end Go.Proofs.YtkfhfegogmlchaaDoor

/- BufferNil: Len of one transaction without events. -/
namespace Go.Proofs.YtkfhfegogmlchaaDoor
open Go.RowKit

set_option maxRecDepth 100000 in
theorem len_one (B g cg base X N M : Nat) (nx fa : Int) (w : World) (hbg : Bg nx fa B g cg base X w) (ht : TxI B nx X N M w) :
    Calls Tryd.prog 10 #[.pointer (some ⟨B, 0, none⟩)] w fun r w' => r = .returned (.int .i64 0) ∧ w = w' := by
  obtain ⟨hb, ho⟩ := hbg
  obtain ⟨_, hx, _, hm⟩ := ht
  unfold TxB at hx
  have b4 := hb.cell 4
  have lB := hb.lt
  have x3 := hx.cell 3
  have lX := hx.lt
  have hgx := ho.cells (g := g) rfl 0 _ rfl
  have ea : (⟨g, 0, none⟩ : Addr).add 0 = ⟨g, 0, none⟩ := rfl
  rw [ea] at hgx
  have lg := cell_lt hgx
  have hlen : ∀ ty, (Builtin.len_ #[92] ty #[.map (some M)]).run Tryd.prog w = .ok (.int .i64 0) w := fun ty => World.ownsMap.len hm Tryd.underlying92 ty
  simp only [List.getElem?_toArray, List.getElem?_cons_zero, List.getElem?_cons_succ] at b4 x3
  clear hb ho hx hm ea
  go_enter Tryd.func10, Tryd.ntmps10
  go_wp2_with fail
  go_loopw [2, 12] (fun s i wr => s = .int .i64 0 ∧ (i = .int .i64 0 ∨ i = .int .i64 1) ∧ wr = w) (fun _ i _ => 1 - (intOf i).toNat)
  case atStart => exact ⟨rfl, Or.inl rfl, rfl⟩
  case round =>
    obtain ⟨rfl, h | h, rfl⟩ := hrel
    · subst h
      go_wp2_with fail
      go_roundw
      case rel => exact ⟨by go_num, Or.inr rfl, trivial⟩
      case measure => simp [intOf]
    · subst h
      go_wp2_with fail
      go_ret
      exact ⟨rfl, rfl⟩
end Go.Proofs.YtkfhfegogmlchaaDoor

/- BufferNil: the transaction's map: a look-up in the empty one, the event put and found. -/
namespace Go.Proofs.YtkfhfegogmlchaaDoor
open Go.RowKit

def ZE : Value := .agg #[.int .u64 0, .int .i64 0, .int .i64 0, .int .u8 0, .int .i64 0, .slice none 0 0, .slice none 0 0]
theorem zero_ev (w : World) : (zeroValue 59).run Tryd.prog w = .ok ZE w := by kernel_rfl
theorem key0 : keyOf Tryd.prog 3 (.int .i64 0) = some (.int .i64 0) := by kernel_rfl
theorem map_look0 {w : World} {M : Nat} (h : MapE w M) : (Instr.lookup 92 (.map (some M)) (.int .i64 0) true).run Tryd.prog w = .ok (.tuple #[ZE, .bool false]) w := by
  obtain ⟨es, clock, hh, F, hs, _⟩ := h
  have : es = #[] := Array.eq_empty_of_size_eq_zero (by omega)
  subst this
  rcases Maps.fit_look true (Maps.int_keyed Tryd.underlying3) Tryd.underlying92 (zero_ev w) hh F key0 with ⟨hrun, _, _⟩ | ⟨e0, y, hmem, _⟩
  · simpa using hrun
  · simp at hmem
/-- The map with the one event v. -/
def MapV (w : World) (M : Nat) (v : Value) : Prop := w.ownsMap Tryd.prog 3 RV M 1 ((DataW.map []).put (.int .i64 0) (.held v))
theorem MapV.ext {w w' : World} {M : Nat} {v : Value} (h : MapV w M v) (hb : Below w.heap.size w w') : MapV w' M v := own_map_below h hb
theorem map_put0 {w : World} {M : Nat} (h : MapE w M) (v : Value) : ∃ w', (Instr.mapUpdate 92 (.map (some M)) (.int .i64 0) v).run Tryd.prog w = .ok () w' ∧ MapV w' M v ∧ w.grownBy w' (some M) :=
  World.ownsMap.update h (Maps.int_keyed Tryd.underlying3) Tryd.underlying92 (by unfold maxLen; omega) key0 rfl
theorem map_look1 {w : World} {M : Nat} {v : Value} (h : MapV w M v) : (Instr.lookup 92 (.map (some M)) (.int .i64 0) false).run Tryd.prog w = .ok v w := by
  obtain ⟨u, ps, hrun, hu⟩ := World.ownsMap.lookup h (Maps.int_keyed Tryd.underlying3) Tryd.underlying92 (zero_ev w) (zd := .held ZE) (zp := []) rfl key0
  unfold RV at hu
  rw [Maps.atKey_put_same Maps.isMap_empty (show WideAt.IsKeyLit (.int .i64 0) from trivial)] at hu
  simp only [Option.some.injEq, Prod.mk.injEq, DataW.held.injEq] at hu
  rw [hu.1] at hrun
  exact hrun
theorem map_len1 {w : World} {M : Nat} {v : Value} (h : MapV w M v) (ty : TypeId) : (Builtin.len_ #[92] ty #[.map (some M)]).run Tryd.prog w = .ok (.int .i64 1) w :=
  World.ownsMap.len h Tryd.underlying92 ty
end Go.Proofs.YtkfhfegogmlchaaDoor

/- BufferNil: a known transaction with its end, its map apart; what stores leave of it. -/
namespace Go.Proofs.YtkfhfegogmlchaaDoor
open Go.RowKit

def StT (B g cg base X N M E cb cc b1 sb sc b2 : Nat) (s : Int) (w : World) : Prop := Bg 5 0 B g cg base X w ∧ Blk w X #[.int .u64 5, .pointer (some ⟨E, 0, none⟩), .slice (some ⟨N, 0, none⟩) 1 1, .map (some M)] 94 ∧
  Blk w E #[.int .u8 2, .int .u64 5, .slice (some ⟨cb, 0, none⟩) 1 cc, .slice (some ⟨sb, 0, none⟩) 1 sc] 50 ∧ w.ownsRow b1 3 1 (.slice (some ⟨cb, 0, none⟩) 1 cc) 1 [.int .i64 1] ∧ w.ownsRow b2 29 1 (.slice (some ⟨sb, 0, none⟩) 1 sc) 1 [.int .u64 s]
variable {B g cg base X N M E cb cc b1 sb sc b2 : Nat} {s : Int} {w w' : World}
theorem StT.ext (h : StT B g cg base X N M E cb cc b1 sb sc b2 s w) (hb : Below w.heap.size w w') : StT B g cg base X N M E cb cc b1 sb sc b2 s w' :=
  ⟨⟨h.1.1.ext hb, own_below h.1.2 hb⟩, h.2.1.ext hb, h.2.2.1.ext hb, own_below h.2.2.2.1 hb, own_below h.2.2.2.2 hb⟩
theorem StT.tx (h : StT B g cg base X N M E cb cc b1 sb sc b2 s w) : Blk w X #[.int .u64 5, .pointer (some ⟨E, 0, none⟩), .slice (some ⟨N, 0, none⟩) 1 1, .map (some M)] 94 := h.2.1
theorem StT.buf (h : StT B g cg base X N M E cb cc b1 sb sc b2 s w) : Blk w B #[.int .i64 1, .int .i64 2, .int .u64 5, .bool true, .slice (some ⟨g, 0, none⟩) 1 cg, .int .i64 0] 85 := h.1.1
theorem StT.mk (h : StT B g cg base X N M E cb cc b1 sb sc b2 s w) : Blk w E #[.int .u8 2, .int .u64 5, .slice (some ⟨cb, 0, none⟩) 1 cc, .slice (some ⟨sb, 0, none⟩) 1 sc] 50 := h.2.2.1
theorem StT.count (h : StT B g cg base X N M E cb cc b1 sb sc b2 s w) : w.cell? ⟨cb, 0, none⟩ = some (.int .i64 1) := h.2.2.2.1.cells (g := cb) rfl 0 _ rfl
theorem StT.row (h : StT B g cg base X N M E cb cc b1 sb sc b2 s w) : w.cell? ⟨g, 0, none⟩ = some (.pointer (some ⟨X, 0, none⟩)) := h.1.2.cells (g := g) rfl 0 _ rfl
theorem StT.size (h : StT B g cg base X N M E cb cc b1 sb sc b2 s w) : Calls Tryd.prog 31 #[.pointer (some ⟨X, 0, none⟩)] w fun r w' => r = .returned (.int .i64 1) ∧ w = w' :=
  size_one X E cb cc 5 5 2 1 _ _ _ w h.tx h.mk h.count (by omega) (by omega)
theorem StT.put {b : Nat} {cs : Array Value} {t : TypeId} (h : StT B g cg base X N M E cb cc b1 sb sc b2 s (putBlk w b cs t)) (lt : b < w.heap.size) (ht : t ≠ 85 ∧ t ≠ 90 ∧ t ≠ 94 ∧ t ≠ 50 ∧ t ≠ 3 ∧ t ≠ 29) (ds : Array Value) : StT B g cg base X N M E cb cc b1 sb sc b2 s (putBlk w b ds t) := by
  have hs := putBlk_blk (w := w) cs t lt
  exact ⟨⟨putBlk_old h.1.1 (blk_ne' h.1.1 hs (Ne.symm ht.1)) ds, own_put h.1.2 lt (Ne.symm ht.2.1) ds⟩, putBlk_old h.2.1 (blk_ne' h.2.1 hs (Ne.symm ht.2.2.1)) ds, putBlk_old h.2.2.1 (blk_ne' h.2.2.1 hs (Ne.symm ht.2.2.2.1)) ds, own_put h.2.2.2.1 lt (Ne.symm ht.2.2.2.2.1) ds, own_put h.2.2.2.2 lt (Ne.symm ht.2.2.2.2.2) ds⟩
theorem own_blk {base e n c size : Nat} {xs : List Value} {q : Nat} (h : w.ownsRow base e size (.slice (some ⟨q, 0, none⟩) n c) n xs) : ∃ cur, w.heap[q]? = some (.cells cur e (0, 0)) ∧ n ≤ c ∧ c ≤ maxLen ∧ cur.size = c * size ∧ cur.toList.take (n * size) = xs ∧ xs.length = n * size ∧ base ≤ q := by
  obtain ⟨hl, ⟨h1, _⟩ | ⟨q', cap, cur, h1, h2, h3, h4, h5, h6, h7⟩⟩ := h
  · cases h1
  · simp only [Value.slice.injEq, Option.some.injEq, Addr.mk.injEq, and_true] at h1
    obtain ⟨rfl, -, rfl⟩ := h1
    exact ⟨cur, h3, h4, h5, h6, h7, hl, h2⟩
theorem own_of_blk {base e n c size : Nat} {xs : List Value} {q : Nat} {cur : Array Value} (h : w.heap[q]? = some (.cells cur e (0, 0))) (h1 : n ≤ c) (h2 : c ≤ maxLen) (h3 : cur.size = c * size) (h4 : cur.toList.take (n * size) = xs) (h5 : xs.length = n * size) (h6 : base ≤ q) : w.ownsRow base e size (.slice (some ⟨q, 0, none⟩) n c) n xs :=
  ⟨h5, Or.inr ⟨q, c, cur, rfl, h6, h, h1, h2, h3, h4⟩⟩
theorem own_putne {b : Nat} {cs : Array Value} {t : TypeId} {base e n c size : Nat} {xs : List Value} {q : Nat} (h : (putBlk w b cs t).ownsRow base e size (.slice (some ⟨q, 0, none⟩) n c) n xs) (hne : q ≠ b) (ds : Array Value) : (putBlk w b ds t).ownsRow base e size (.slice (some ⟨q, 0, none⟩) n c) n xs := by
  obtain ⟨cur, h1, h2, h3, h4, h5, h6, h7⟩ := own_blk h
  exact own_of_blk (putBlk_old (h1 : Blk _ q cur e) hne ds) h2 h3 h4 h5 h6 h7
theorem StT.putN {a : Int} (ha : a ≠ 1) (h : StT B g cg base X N M E cb cc b1 sb sc b2 s (putBlk w N #[.int .i64 a] 3)) (lt : N < w.heap.size) (ds : Array Value) : StT B g cg base X N M E cb cc b1 sb sc b2 s (putBlk w N ds 3) := by
  have hs := putBlk_blk (w := w) #[.int .i64 a] 3 lt
  have hne : cb ≠ N := by
    intro e
    have h1 := h.count
    have h2 := hs.cell 0
    rw [e] at h1
    simp only [List.getElem?_toArray, List.getElem?_cons_zero] at h2
    rw [h1] at h2
    simp only [Option.some.injEq, Value.int.injEq, true_and] at h2
    exact ha h2.symm
  exact ⟨⟨putBlk_old h.1.1 (blk_ne' h.1.1 hs (by decide)) ds, own_put h.1.2 lt (by decide) ds⟩, putBlk_old h.2.1 (blk_ne' h.2.1 hs (by decide)) ds, putBlk_old h.2.2.1 (blk_ne' h.2.2.1 hs (by decide)) ds, own_putne h.2.2.2.1 hne ds, own_put h.2.2.2.2 lt (by decide) ds⟩
theorem map_at {n : Nat} {D : DataW Value} (h : w.ownsMap Tryd.prog 3 RV M n D) : ∀ cs t f, w.heap[M]? ≠ some (.cells cs t f) := by
  obtain ⟨es, clock, hh, F, hs, hD⟩ := h
  intro cs t f e
  rw [hh] at e
  cases e
theorem blk_map {n b : Nat} {D : DataW Value} {cs : Array Value} {t : TypeId} (k : Blk w b cs t) (h : w.ownsMap Tryd.prog 3 RV M n D) (hg : w.grownBy w' (some M)) : Blk w' b cs t := by
  unfold Blk at k ⊢
  rw [hg.block b (Blk.lt k) (fun e => by cases e; exact map_at h _ _ _ k)]
  exact k
theorem own_map {n : Nat} {D : DataW Value} {base e k c size : Nat} {xs : List Value} {q : Nat} (h : w.ownsRow base e size (.slice (some ⟨q, 0, none⟩) k c) k xs) (hm : w.ownsMap Tryd.prog 3 RV M n D) (hg : w.grownBy w' (some M)) : w'.ownsRow base e size (.slice (some ⟨q, 0, none⟩) k c) k xs := by
  obtain ⟨cur, h1, h2, h3, h4, h5, h6, h7⟩ := own_blk h
  exact own_of_blk (blk_map (h1 : Blk _ q cur e) hm hg) h2 h3 h4 h5 h6 h7
theorem StT.map {n : Nat} {D : DataW Value} (h : StT B g cg base X N M E cb cc b1 sb sc b2 s w) (hm : w.ownsMap Tryd.prog 3 RV M n D) (hg : w.grownBy w' (some M)) : StT B g cg base X N M E cb cc b1 sb sc b2 s w' :=
  ⟨⟨blk_map h.1.1 hm hg, own_map h.1.2 hm hg⟩, blk_map h.2.1 hm hg, blk_map h.2.2.1 hm hg, own_map h.2.2.2.1 hm hg, own_map h.2.2.2.2 hm hg⟩
end Go.Proofs.YtkfhfegogmlchaaDoor
