/- Several texts in one: see each part's head. -/
import Derived.Test.YtjdfodmialhakaaDoorDc12
import Derived.Test.YtjdfodmialhakaaDoorRegHead
import Derived.RangeFuncNested
import Derived.RangeFuncBound
import Derived.RangeFuncCalls
import Derived.RangeFuncLeaves
import Derived.Shelf.Abstract
import Derived.Shelf.RegionOpen
import Derived.WalkKit
import Derived.OwnWalkIn
import Derived.TacticsInMore
import Derived.LoopNIn
import Derived.LoopIn
import Derived.Lib.AppendStr
import Derived.Test.YtjdfodmialhakaaDoorMk3
/- Documents: the iterator over those within one. -/
namespace Go.Proofs.YtjdfodmialhakaaDoor
open Go.RowKit Go.Shelf
attribute [local go_sem] Oper.semAt_some

/-- A document's value, which reads as one in w0. -/
abbrev DA (w0 : World) := { p : Value × De // ∃ n, DRd n w0 p.1 p.2 }
def deL {w0 : World} (q : List (DA w0)) : List De := q.map (fun x => x.1.2)
/-- What a round keeps: what lay below n0, and each document that lies in a block of its own. -/
def KeepD (n0 : Nat) (W W' : World) : Prop := Below n0 W W' ∧ ∀ b cs, Blk W b cs 71 → cs.size = 3 → Blk W' b cs 71
theorem KeepD.refl (n0 : Nat) (W : World) : KeepD n0 W W := ⟨Below.refl _ _, fun _ _ h _ => h⟩
theorem KeepD.trans {n0 : Nat} {A B C : World} (h : KeepD n0 A B) (k : KeepD n0 B C) : KeepD n0 A C := ⟨h.1.trans k.1, fun b cs hb hs => k.2 b cs (h.2 b cs hb hs) hs⟩
theorem KeepD.of_below {n0 : Nat} {W W' : World} (hb : Below W.heap.size W W') (hn : n0 ≤ W.heap.size) : KeepD n0 W W' := ⟨hb.mono hn, fun _ _ h _ => h.ext hb⟩
def WalkP (w0 : World) (J Jx : List (DA w0) → World → Prop) (d : De) (pre : List (DA w0)) (W : World) (e : Ending) (W' : World) : Prop :=
  (e = .returned (.bool true) ∧ ∃ q, deL q = preD d ∧ J (pre ++ q) W' ∧ KeepD w0.heap.size W W') ∨ (e = .returned (.bool false) ∧ ∃ q, deL q <+: preD d ∧ Jx (pre ++ q) W')
theorem preTo_step {ks : List De} {k : Nat} {x : De} (h : ks[k]? = some x) : (ks.take (k + 1)).flatMap preD = (ks.take k).flatMap preD ++ preD x := by
  rw [← take_snoc1 h, List.flatMap_append]; simp
theorem preTo_len (d : De) {k : Nat} {x : De} (h : d.kids[k]? = some x) : 1 + ((d.kids.take k).flatMap preD).length + (preD x).length ≤ (preD d).length := by
  have e : (d.kids.take (k + 1)).flatMap preD ++ (d.kids.drop (k + 1)).flatMap preD = d.kids.flatMap preD := by rw [← List.flatMap_append, List.take_append_drop]
  rw [preD_eq d, ← e, preTo_step h]
  simp only [List.length_cons, List.length_append]
  omega
theorem preTo_pre (d : De) {k : Nat} {x : De} (h : d.kids[k]? = some x) {q : List De} (hq : q <+: preD x) : d :: (d.kids.take k).flatMap preD ++ q <+: preD d := by
  have e : (d.kids.take (k + 1)).flatMap preD ++ (d.kids.drop (k + 1)).flatMap preD = d.kids.flatMap preD := by rw [← List.flatMap_append, List.take_append_drop]
  obtain ⟨r, hr⟩ := hq
  rw [preD_eq d, ← e, preTo_step h, ← hr]
  exact ⟨r ++ (d.kids.drop (k + 1)).flatMap preD, by simp⟩
set_option maxRecDepth 100000 in
set_option maxHeartbeats 2000000 in
theorem walk25_in (w0 : World) (l N : Nat) (J Jx : List (DA w0) → World → Prop) (hJ : ∀ s W o, J s W → J s (W.alloc o))
    (hY : ∀ m pre (x : DA w0) W, J pre W → pre.length < N → YieldAt Fence.wide m Tryd.prog l #[x.1.1] W fun e W' =>
      (e = .returned (.bool true) ∧ J (pre ++ [x]) W' ∧ KeepD w0.heap.size W W') ∨ (e = .returned (.bool false) ∧ Jx (pre ++ [x]) W')) :
    ∀ (n m : Nat) (v : Value) (d : De) (pre : List (DA w0)) (W : World), DRd n w0 v d → Below w0.heap.size w0 W → J pre W → pre.length + (preD d).length ≤ N →
      CallsIn Fence.wide m Tryd.prog 167 #[v, .func (.yield l) #[] #[]] W (WalkP w0 J Jx d pre W)
  | 0, _, _, _, _, _, h, _, _, _ => h.elim
  | n + 1, m, v, d, pre, W, hd, hW, hj, hN => by
    have IH := Lib.hid (walk25_in w0 l N J Jx hJ hY n)
    have HD := Lib.hid hd
    obtain ⟨A, ca, K, ck, rfl, htb, hv, hk⟩ := hd
    have hlen := hk.1
    have hpl : 1 ≤ (preD d).length := by rw [preD_eq]; simp
    have HK := Lib.hid hk
    have HW := Lib.hid hW
    have HJ := Lib.hid hJ
    obtain ⟨fn, tmps, assign, body, hy, hR⟩ := hY (m - 1) pre ⟨(_, d), n + 1, HD.out⟩ (W.alloc (.cells #[.int .i64 d.tb, .slice A d.row.length ca, .slice K d.kids.length ck] 71)) (hJ _ _ _ hj) (by omega)
    have HPL := Lib.hid (fun k x (h : d.kids[k]? = some x) => preTo_len d h)
    have HPP := Lib.hid (fun k x (h : d.kids[k]? = some x) q (hq : q <+: preD x) => preTo_pre d h hq)
    have HPE := Lib.hid (preD_eq d)
    clear hk hv hW hj hY
    dsimp only at hy
    refine callsIn_of_wp Tryd.func167 rfl trivial ?_ rfl
    simp only [Tryd.ntmps167, List.size_toArray, List.length_cons, List.length_nil, Nat.reduceAdd, Nat.reduceSub, Array.replicate_succ, Array.replicate_zero, List.push_toArray, List.append_toArray, List.nil_append, List.cons_append]
    have hdd : ∀ k : Nat, (Fence.wide.depth.isSome = true → 1 ≤ k) := fun k h => by simp [Fence.wide] at h
    gi_wp2_with fail
    refine ⟨hdd _, hR.mono ?_⟩
    rintro e W2 (⟨rfl, hj2, hk2⟩ | ⟨rfl, hx2⟩)
    · have HB := Lib.hid (hk2.2 _ _ (Blk.new W #[.int .i64 d.tb, .slice A d.row.length ca, .slice K d.kids.length ck] 71) rfl)
      have HK2 : Hid (KeepD w0.heap.size W W2) := (KeepD.of_below ((by repeat (first | exact Below.refl _ _ | assumption | refine Below.drew ?_ | refine below_drewN ?_ _ | refine Below.alloc ?_ (by simp <;> omega) _))) HW.out.size).trans hk2
      have HJ2 := Lib.hid hj2
      obtain ⟨lb, _, _, d2⟩ := blk3 HB.out
      clear hy hR hk2 hj2
      gi_wp2_with fail
      gi_loopw [14] (fun i wr => ∃ (k : Nat) (q : List (DA w0)), k ≤ d.kids.length ∧ i = .int .i64 k ∧ Hid (deL q = d :: (d.kids.take k).flatMap preD) ∧ Hid (J (pre ++ q) wr) ∧ Hid (KeepD w0.heap.size W wr)) (fun i _ => d.kids.length - (intOf i).toNat)
      case atStart => exact ⟨0, [⟨(_, d), n + 1, HD.out⟩], by omega, rfl, by show _ = _; simp [deL], HJ2.out, HK2.out⟩
      case round =>
        obtain ⟨k, q, hk1, rfl, HQ, HJq, HKD⟩ := hrel
        by_cases hlt : k < d.kids.length
        · have hw0r : Below w0.heap.size w0 wr := HW.out.trans HKD.out.1
          obtain ⟨b, off, x, Ax, cax, Kx, ckx, rfl, hb, hx1, e0, e1, e2, hx⟩ := (HK.out.ext hw0r (fun v k h => h)).kidw hlt
          have hql : q.length = 1 + ((d.kids.take k).flatMap preD).length := by
            have := congrArg List.length HQ.out
            simp only [deL, List.length_map, List.length_cons] at this
            omega
          have hpk := HPL.out k x hx1
          have HI := Lib.hid (IH.out (m - 1) _ x (pre ++ q) (wr.alloc (.cells #[.int .i64 x.tb, .slice Ax x.row.length cax, .slice Kx x.kids.length ckx] 71)) hx (hw0r.trans (((by repeat (first | exact Below.refl _ _ | assumption | refine Below.drew ?_ | refine below_drewN ?_ _ | refine Below.alloc ?_ (by simp <;> omega) _)) : Below wr.heap.size wr (wr.alloc (.cells #[.int .i64 x.tb, .slice Ax x.row.length cax, .slice Kx x.kids.length ckx] 71))).mono hw0r.size)) (HJ.out _ _ _ HJq.out) (by rw [List.length_append]; omega))
          have HX1 := Lib.hid hx1
          have hszw := hw0r.size
          have HSZ := Lib.hid hszw
          clear hx hx1 hw0r hql hpk hszw
          gi_wp2_with fail
          refine ⟨trivial, hdd _, HI.out.mono ?_⟩
          rintro e W3 (⟨rfl, q3, hq3, hj3, hk3⟩ | ⟨rfl, q3, hq3, hx3⟩)
          · have HQ3 : Hid (deL (q ++ q3) = d :: (d.kids.take (k + 1)).flatMap preD) := by
              show _ = _
              rw [preTo_step HX1.out, ← hq3, ← List.cons_append, ← HQ.out]
              simp [deL]
            have HJ3 : Hid (J (pre ++ (q ++ q3)) W3) := by rw [← List.append_assoc]; exact hj3
            have HK3 : Hid (KeepD w0.heap.size W W3) := HKD.out.trans ((KeepD.of_below ((by repeat (first | exact Below.refl _ _ | assumption | refine Below.drew ?_ | refine below_drewN ?_ _ | refine Below.alloc ?_ (by simp <;> omega) _))) HSZ.out).trans hk3)
            clear hq3 hj3 hk3 HI e0 e1 e2
            gi_wp2_with fail
            go_roundw
            case rel => exact ⟨k + 1, q ++ q3, by omega, by go_num, HQ3.out, HJ3.out, HK3.out⟩
            case measure => simp [intOf]; omega
          · have HQ3 : Hid (deL (q ++ q3) <+: preD d) := by
              have := HPP.out k x HX1.out _ hq3
              rw [← HQ.out] at this
              show _ <+: _
              simpa [deL] using this
            have HX3 : Hid (Jx (pre ++ (q ++ q3)) W3) := by rw [← List.append_assoc]; exact hx3
            clear hq3 hx3 HI e0 e1 e2
            gi_wp2_with fail
            go_ret
            exact Or.inr ⟨rfl, q ++ q3, HQ3.out, HX3.out⟩
        · have HQE : Hid (deL q = preD d) := by
            show _ = _
            rw [HQ.out, List.take_of_length_le (by omega), HPE.out]
          gi_wp2_with fail
          go_ret
          exact Or.inl ⟨rfl, q, HQE.out, HJq.out, HKD.out⟩
    · have HX2 := Lib.hid hx2
      clear hx2 hy hR
      gi_wp2_with fail
      go_ret
      exact Or.inr ⟨rfl, [⟨(_, d), n + 1, HD.out⟩], by rw [HPE.out]; exact ⟨_, rfl⟩, HX2.out⟩
end Go.Proofs.YtjdfodmialhakaaDoor

/- Documents: all, as a sequence; Check. -/
namespace Go.Proofs.YtjdfodmialhakaaDoor
open Go.RowKit Go.Shelf
attribute [local go_sem] Oper.semAt_some

theorem room_none' {F : Fence} (hd : F.depth = none) (k : Nat) : F.room k := fun d h => by rw [hd] at h; cases h
theorem yield_any {F : Fence} (hd : F.depth = none) {m : Nat} (m' : Nat) {P : Program} {l : Nat} {args : Array Value} {W : World} {R : Ending → World → Prop} (h : YieldAt F m P l args W R) : YieldAt F m' P l args W R := by
  obtain ⟨fn, tmps, assign, body, hy, hR⟩ := h
  exact ⟨fn, tmps, assign, body, hy, hR.1, fun c cs _ => hR.2 c cs (room_none' hd _)⟩
theorem wide_dd (k : Nat) : Fence.wide.depth.isSome = true → 1 ≤ k := fun h => by simp [Fence.wide] at h
theorem round_dd (l k : Nat) : (Fence.wide.inRound l).depth.isSome = true → 1 ≤ k := fun h => by simp [Fence.wide] at h
set_option maxRecDepth 100000 in
set_option maxHeartbeats 1000000 in
theorem all1_stops (w0 : World) (m n Bt : Nat) (tb : Int) (A : Option Addr) (rl ca : Nat) (K : Option Addr) (kl ck : Nat) (d : De) (w : World) (hB : Blk w Bt #[.int .i64 tb, .slice A rl ca, .slice K kl ck] 71)
    (hd : DRd n w0 (.agg #[.int .i64 tb, .slice A rl ca, .slice K kl ck]) d) (hw : Below w0.heap.size w0 w) :
    SeqStopsK Fence.wide m Tryd.prog 166 #[.pointer (some ⟨Bt, 0, none⟩)] (fun x : DA w0 => #[x.1.1]) (KeepD w0.heap.size) (fun ys => deL ys = preD d) (fun pre => deL pre <+: preD d) (preD d).length w := by
  intro l J Jx W hW hJ hJx hY h0
  have HWK := Lib.hid (walk25_in w0 l (preD d).length J Jx (fun s W o hs => hJ s W _ none hs (World.grownBy_alloc W o none) (fun r e => by cases e)) (fun m' pre x W1 hj hl => yield_any rfl m' (hY pre x W1 hj hl)) n (m - 1) _ d [] W hd (hw.trans (hW.mono hw.size)) h0 (by simp))
  obtain ⟨lb, d0, d1, d2⟩ := blk3 (hB.ext hW)
  clear hJ hJx hY hW hw hd hB
  refine callsIn_of_wp Tryd.func166 rfl trivial ?_ rfl
  simp only [Tryd.ntmps166, List.size_toArray, List.length_cons, List.length_nil, Nat.reduceAdd, Nat.reduceSub, Array.replicate_succ, Array.replicate_zero, List.push_toArray, List.append_toArray, List.nil_append, List.cons_append]
  gi_wp2_with fail
  refine ⟨trivial, wide_dd _, HWK.out.mono ?_⟩
  rintro e W3 (⟨rfl, q3, hq3, hj3, hk3⟩ | ⟨rfl, q3, hq3, hx3⟩)
  · have H1 := Lib.hid hq3
    have H2 := Lib.hid hj3
    clear hq3 hj3 hk3
    gi_wp2_with fail
    go_end0
    exact ⟨⟨_, rfl⟩, .inl ⟨q3, H1.out, H2.out⟩⟩
  · have H1 := Lib.hid hq3
    have H2 := Lib.hid hx3
    clear hq3 hx3
    gi_wp2_with fail
    go_end0
    exact ⟨⟨_, rfl⟩, .inr ⟨q3, H1.out, H2.out⟩⟩
set_option maxRecDepth 100000 in
theorem all25_any (tb : Int) (A : Option Addr) (rl ca : Nat) (K : Option Addr) (kl ck : Nat) (w : World) :
    Calls Tryd.prog 121 #[.agg #[.int .i64 tb, .slice A rl ca, .slice K kl ck]] w fun e w' => e = .returned (.func (.func 166) #[] #[.pointer (some ⟨w.heap.size, 0, none⟩)]) ∧ w' = w.alloc (.cells #[.int .i64 tb, .slice A rl ca, .slice K kl ck] 71) := by
  go_enter Tryd.func121, Tryd.ntmps121
  go_wp2
  go_ret
  exact ⟨rfl, rfl⟩
theorem keepD_t {n0 : Nat} {A B C : World} (h : KeepD n0 A B) (k : KeepD n0 B C) : KeepD n0 A C := h.trans k
theorem keepD_b {n0 : Nat} {w : World} (hn : n0 ≤ w.heap.size) (W : World) (l : Nat) (o o' : Obj) (hl : w.heap.size ≤ l) (h : W.heap[l]? = some o) (hc : o.isCells = false) (hk : o.isWalk = false) : KeepD n0 W (W.putObj l o') := by
  refine ⟨belowK_b hn W l o o' hl h hc hk, fun b cs hb _ => ?_⟩
  have hne : b ≠ l := by
    intro e
    subst e
    unfold Blk at hb
    rw [h] at hb
    cases hb
    cases hc
  unfold Blk at hb ⊢
  rw [← hb]
  exact (grownBy_putObj' W l o').block b (Array.getElem?_eq_some_iff.1 hb).1 (fun e => hne (by cases e; rfl))
theorem blk_own {β : Type} (b : Nat) (cs : β → Array Value) (t : TypeId) : Own (fun s W => Blk W b (cs s) t) := fun s X Y row hs hg hrow => by
  have hs' : X.heap[b]? = some (.cells (cs s) t (0, 0)) := hs
  refine (hg.block b (Array.getElem?_eq_some_iff.1 hs').1 (fun e => ?_)).trans hs'
  obtain ⟨o, ho, hc⟩ := hrow b e.symm
  rw [hs'] at ho
  cases ho
  cases hc
theorem keepsFrom_below {B : Nat} {W W' : World} (h : Below W.heap.size W W') : KeepsFrom B W W' := ⟨h.size, fun k _ _ hk _ => (h.block k (Array.getElem?_eq_some_iff.1 hk).1).trans hk⟩
theorem size_may {d : De} (h : sizeD d = 0) : mayD d = false := by unfold mayD; rw [h]; rfl
theorem may_fits {d : De} (h : 0 < sizeD d) : mayD d = fitsB d := by unfold mayD; rw [decide_eq_true h]; rfl
theorem fits_no {d x : De} {q : List De} (hq : q <+: preD d) (hx : x ∈ q) (h : nodeB x = false) : fitsB d = false := by
  unfold fitsB
  rw [List.all_eq_false]
  exact ⟨x, hq.subset hx, by simp [h]⟩
theorem fits_yes {d : De} {q : List De} (hq : q = preD d) (h : ∀ x ∈ q, nodeB x = true) : fitsB d = true := by
  unfold fitsB
  rw [List.all_eq_true, ← hq]
  exact h
/-- The documents ahead of the k-th rise. -/
def OrdK (ks : List De) (k : Nat) : Prop := ∀ i a b, i + 1 < k → ks[i]? = some a → ks[i + 1]? = some b → a.tb ≤ b.tb
theorem OrdK.end_ {ks : List De} {k : Nat} (h : OrdK ks k) (hk : ks.length ≤ k) : ordB ks = true := by
  rw [ordB_iff]
  intro i a b ha hb
  refine h i a b ?_ ha hb
  have := (List.getElem?_eq_some_iff.1 hb).1; omega
theorem OrdK.step {ks : List De} {j : Nat} {x y : De} (h : OrdK ks (j + 1)) (hy : ks[j]? = some y) (hx : ks[j + 1]? = some x) (ho : y.tb ≤ x.tb) : OrdK ks (j + 1 + 1) := by
  intro i a b hi ha hb
  by_cases e : i = j
  · subst e; rw [hy] at ha; rw [hx] at hb; cases ha; cases hb; exact ho
  · exact h i a b (by omega) ha hb
theorem node_tb0 {d : De} (h : d.tb < 0) : nodeB d = false := by unfold nodeB; rw [decide_eq_false (by omega)]; rfl
theorem node_tb1 {d : De} (h : 12 ≤ d.tb) : nodeB d = false := by unfold nodeB; rw [decide_eq_false (show ¬ d.tb < 12 by omega)]; simp
theorem node_row {d : De} (h : rowB d.row = false) : nodeB d = false := by unfold nodeB; rw [h]; simp
theorem node_ord {d : De} (h : ordB d.kids = false) : nodeB d = false := by unfold nodeB; rw [h]; simp
theorem node_yes {d : De} (h0 : 0 ≤ d.tb) (h1 : d.tb < 12) (h2 : rowB d.row = true) (h3 : ordB d.kids = true) : nodeB d = true := by unfold nodeB; rw [decide_eq_true h0, decide_eq_true h1, h2, h3]; rfl
theorem keepsFrom_put {B : Nat} {w : World} {b : Nat} {cs ds : Array Value} {t : TypeId} (hlt : b < w.heap.size) : KeepsFrom B (putBlk w b cs t) (putBlk w b ds t) :=
  ⟨by simp [putBlk_size], fun k o _ hk ho => by
    have hne : k ≠ b := by
      intro e
      subst e
      have := putBlk_blk (w := w) cs t hlt
      unfold Blk at this
      rw [this] at hk
      cases hk
      cases ho
    rw [putBlk_other hne]
    exact hk⟩
def CkI (w : World) (ex : Nat) (pre : List (DA w)) (W : World) : Prop := ((∀ x ∈ deL pre, nodeB x = true) ∧ Blk W ex #[.int .i64 0] 29) ∧ Below w.heap.size w W
def CkX (w : World) (ex : Nat) (c : Code) (pre : List (DA w)) (W : World) : Prop := ((c = .ret ∧ ∃ x ∈ deL pre, nodeB x = false) ∧ Blk W ex #[.int .i64 2] 29) ∧ Below w.heap.size w W
theorem ckI_own {w : World} {ex B : Nat} (hB : w.heap.size ≤ B) : OwnFrom B (CkI w ex) := OwnFrom.and (OwnFrom.and (ownFrom_pure _ _) (Own.from (blk_own ex (fun _ => #[.int .i64 0]) _) _)) (ownFrom_below (Nat.le_refl _) hB)
theorem ckX_own {w : World} {ex B : Nat} (hB : w.heap.size ≤ B) (c : Code) : OwnFrom B (CkX w ex c) := OwnFrom.and (OwnFrom.and (ownFrom_pure _ _) (Own.from (blk_own ex (fun _ => #[.int .i64 2]) _) _)) (ownFrom_below (Nat.le_refl _) hB)
theorem ckX_fail {w : World} {ex B : Nat} {pre : List (DA w)} {x : DA w} {W w3 : World} (hI : CkI w ex pre W) (hex : w.heap.size ≤ ex) (hlt : ex < w3.heap.size) (hb : Below W.heap.size W (putBlk w3 ex #[.int .i64 0] 29)) (hn : nodeB x.1.2 = false) :
    KeepsFrom B W (putBlk w3 ex #[.int .i64 2] 29) ∧ CkX w ex .ret (pre ++ [x]) (putBlk w3 ex #[.int .i64 2] 29) :=
  ⟨(keepsFrom_below hb).trans (keepsFrom_put hlt), ⟨⟨rfl, x.1.2, by simp [deL], hn⟩, putBlk_blk _ _ hlt⟩, putBlk_belows (hI.2.trans (hb.mono hI.2.size)) hex _⟩
theorem ckI_go {w : World} {ex B : Nat} {pre : List (DA w)} {x : DA w} {W W' : World} (hI : CkI w ex pre W) (hb : Below W.heap.size W W') (hn : nodeB x.1.2 = true) :
    KeepsFrom B W W' ∧ KeepD w.heap.size W W' ∧ CkI w ex (pre ++ [x]) W' :=
  ⟨keepsFrom_below hb, KeepD.of_below hb hI.2.size, ⟨fun y hy => by
    simp only [deL, List.map_append, List.mem_append, List.map_cons, List.map_nil, List.mem_singleton] at hy
    rcases hy with hy | rfl
    · exact hI.1.1 y hy
    · exact hn, hI.1.2.ext hb⟩, hI.2.trans (hb.mono hI.2.size)⟩
set_option maxRecDepth 100000 in
set_option maxHeartbeats 2000000 in
theorem check25_any (n : Nat) (v : Value) (d : De) (w : World) (hT : Tabs w) (hd : DRd n w v d) :
    Calls Tryd.prog 44 #[v] w fun r w' => r = .returned (.int .i64 (okE (mayD d))) ∧ Below w.heap.size w w' := by
  obtain ⟨A, ca, K, ck, rfl⟩ := hd.form
  have HT := Lib.hid (fun (W : World) (hW : Below w.heap.size w W) => hT.ext hW)
  have HS := Lib.hid (fun (W : World) (hW : Below w.heap.size w W) => aggsize_any n _ d W (hd.ext hW))
  have HD := Lib.hid hd
  have hsz := sizeD_nn d
  have hR : (sizeD d = 0 ∧ mayD d = false) ∨ (0 < sizeD d ∧ mayD d = fitsB d) := by
    by_cases h : 0 < sizeD d
    · exact Or.inr ⟨h, may_fits h⟩
    · have h0 : sizeD d = 0 := by omega
      exact Or.inl ⟨h0, size_may h0⟩
  have HFN := Lib.hid (fun q x (hq : q <+: preD d) (hx : x ∈ q) (h : nodeB x = false) => fits_no hq hx h)
  have HFY := Lib.hid (fun q (hq : q = preD d) (h : ∀ x ∈ q, nodeB x = true) => fits_yes hq h)
  clear hd hT
  generalize mayD d = R at hR ⊢
  generalize sizeD d = q at HS hsz hR
  generalize d.tb = tb at HS HD ⊢
  generalize d.row.length = rl at HS HD ⊢
  generalize d.kids.length = kl at HS HD ⊢
  have h1 : Blk ((w.alloc (.cells #[.int .i64 tb, .slice A rl ca, .slice K kl ck] 71)).alloc (.cells #[.int .i64 0] 29)) w.heap.size #[.int .i64 tb, .slice A rl ca, .slice K kl ck] 71 := (by repeat (first | exact Blk.at (by simp) | assumption | refine Blk.drew ?_ | refine Blk.old ?_ _))
  have h2 : Blk ((w.alloc (.cells #[.int .i64 tb, .slice A rl ca, .slice K kl ck] 71)).alloc (.cells #[.int .i64 0] 29)) (w.heap.size + 1) #[.int .i64 0] 29 := (by repeat (first | exact Blk.at (by simp) | assumption | refine Blk.drew ?_ | refine Blk.old ?_ _))
  have hC : Below w.heap.size w ((w.alloc (.cells #[.int .i64 tb, .slice A rl ca, .slice K kl ck] 71)).alloc (.cells #[.int .i64 0] 29)) := (by repeat (first | exact Below.refl _ _ | assumption | refine Below.drew ?_ | refine below_drewN ?_ _ | refine Below.alloc ?_ (by simp <;> omega) _))
  rcases hR with ⟨h0, hm⟩ | ⟨h0, hm⟩
  · subst h0
    subst hm
    clear hsz HFN HFY HD HT
    go_enter Tryd.func44, Tryd.ntmps44
    go_wp2_with fail
    refine (HS.out _ hC).mono ?_
    rintro r w1 ⟨rfl, hb1⟩
    have hE := h2.ext hb1
    have hC1 := bt hC hb1
    clear hb1 HS h1 h2 hC
    have e0 := hE.cell 0
    have le := hE.lt
    have fe := hE.frozen 0
    simp only [List.getElem?_toArray, List.getElem?_cons_zero] at e0
    obtain ⟨w2, rfl, lt⟩ := blk_put hE
    obtain ⟨pc, pf, pS⟩ := putBlk_facts (w := w2) 29 lt
    have HC := Lib.hid (putBlk_belows hC1 (Nat.le_succ _) #[.int .i64 2])
    clear e0 fe hE hC1
    go_wp2_with fail
    refine bodyPost_ret (v := .int .i64 2) (by simp [results, Tryd.results44, go_sem, pc]) rfl ?_
    exact ⟨rfl, HC.out⟩
  · refine callsIn_wide (n := 9) |>.1 ?_
    refine callsIn_of_wp_marks Tryd.func44 rfl trivial ?_ rfl
    simp only [Tryd.ntmps44, List.size_toArray, List.length_cons, List.length_nil, Nat.reduceAdd, Nat.reduceSub, Array.replicate_succ, Array.replicate_zero, List.push_toArray, List.append_toArray, List.nil_append, List.cons_append]
    have hq1 : (q == 0) = false := by simp; omega
    have HM := Lib.hid hm
    clear hm
    gi_wp2_with fail
    refine ⟨trivial, callsIn_wide.2 ((HS.out _ hC).mono ?_)⟩
    rintro r w1 ⟨rfl, hb1⟩
    have HB := Lib.hid (h1.ext hb1)
    have HE := Lib.hid (h2.ext hb1)
    have HC := Lib.hid (bt hC hb1)
    have hsz1 : w.heap.size + 2 ≤ w1.heap.size := by have := hb1.size; simp at this; omega
    clear hb1 h1 h2 hC HS
    obtain ⟨lb, b0, b1, b2⟩ := blk3 HB.out
    gi_wp2_with fail
    refine ⟨trivial, callsIn_wide.2 ((all25_any tb A rl ca K kl ck w1).mono ?_)⟩
    rintro r w2 ⟨rfl, rfl⟩
    have hA : Below w1.heap.size w1 (w1.alloc (.cells #[.int .i64 tb, .slice A rl ca, .slice K kl ck] 71)) := (by repeat (first | exact Below.refl _ _ | assumption | refine Below.drew ?_ | refine below_drewN ?_ _ | refine Below.alloc ?_ (by simp <;> omega) _))
    have HX := Lib.hid (Blk.new w1 #[.int .i64 tb, .slice A rl ca, .slice K kl ck] 71)
    have HE := Lib.hid (HE.out.ext hA)
    have HC := Lib.hid (bt HC.out hA)
    have hsz2 : w1.heap.size < (w1.alloc (.cells #[.int .i64 tb, .slice A rl ca, .slice K kl ck] 71)).heap.size := by simp
    clear hA lb b0 b1 b2 HB
    generalize w1.alloc (.cells #[.int .i64 tb, .slice A rl ca, .slice K kl ck] 71) = W0 at HX HE HC hsz2 ⊢
    generalize w1.heap.size = Bt at HX hsz1 hsz2 ⊢
    have hne : w.heap.size < w.heap.size + 1 := by omega
    have hex : w.heap.size + 1 < W0.heap.size := by omega
    generalize hbe : w.heap.size + 1 = ex at HE hne hex ⊢
    have HEX := Lib.hid (show w.heap.size ≤ ex by omega)
    have HN0 : Hid (w.heap.size ≤ W0.heap.size) := HC.out.size
    generalize hbx : w.heap.size = bx
    clear hbe hne hbx
    gi_wp2_with fail
    refine wpIn_rangeFunc_ownH rfl (by omega) (gf := 166) (lb := #[.pointer (some ⟨Bt, 0, none⟩)]) rfl trivial (enters_of Tryd.func166 (by kernel_rfl) rfl)
      (all1_stops w _ n Bt tb A rl ca K kl ck d W0 HX.out HD.out HC.out) keepD_t (keepD_b HN0.out) (Below.refl _ _) (fun _ => rfl)
      (CkI w ex) (CkX w ex) (ckI_own HN0.out) (ckX_own HN0.out)
      ⟨⟨by simp [deL], HE.out⟩, HC.out⟩
      (fun x a' W => ∃ (Bx : Nat) (A' : Option Addr) (ca' : Nat) (K' : Option Addr) (ck' : Nat), (ex < Bx ∧ x.1.1 = .agg #[.int .i64 x.1.2.tb, .slice A' x.1.2.row.length ca', .slice K' x.1.2.kids.length ck'] ∧ a' = { tmps := #[.agg #[.int .i64 tb, .slice A rl ca, .slice K kl ck], .pointer (some ⟨bx, 0, none⟩), .pointer (some ⟨ex, 0, none⟩), .pointer (some ⟨Bx, 0, none⟩), undef, .agg #[.int .i64 tb, .slice A rl ca, .slice K kl ck], .int .i64 q, .bool false, .agg #[.int .i64 tb, .slice A rl ca, .slice K kl ck], .func (.func 166) #[] #[.pointer (some ⟨Bt, 0, none⟩)], x.1.1, undef, undef, undef, undef, undef, undef, undef, undef, undef, undef, undef, undef, undef, undef, undef, undef, undef, undef, undef, undef, undef, undef, undef, undef, undef, undef, undef, undef, undef, undef, undef, undef, undef, undef, undef, undef, undef, undef, undef], defers := [] }) ∧ Blk W Bx #[.int .i64 x.1.2.tb, .slice A' x.1.2.row.length ca', .slice K' x.1.2.kids.length ck'] 71)
      (fun x a' _ X Y row hs hg hr => by obtain ⟨Bx, A', ca', K', ck', h1, h2⟩ := hs; exact ⟨Bx, A', ca', K', ck', h1, blk_own Bx (fun (_ : Unit) => #[.int .i64 x.1.2.tb, .slice A' x.1.2.row.length ca', .slice K' x.1.2.kids.length ck']) 71 () X Y row h2 hg (fun r e => (hr r e).2)⟩)
      ?assign ?body ?loopend ?stop
    case assign =>
      rintro l pre ⟨⟨xv, xd⟩, hx0⟩ W K1 ⟨⟨hp, hE⟩, hB⟩ hK
      obtain ⟨nx, hx⟩ := id hx0
      have hx : DRd nx w xv xd := hx
      obtain ⟨A', ca', K', ck', hv⟩ := hx.form
      subst hv
      have HK1 := Lib.hid hK
      have HI := Lib.hid hp
      have HE := Lib.hid hE
      have HBW := Lib.hid hB
      clear hK hp hE hB hx
      gi_wp2_with fail
      exact HK1.out _ _ (keepsFrom_below ((by repeat (first | exact Below.refl _ _ | assumption | refine Below.drew ?_ | refine below_drewN ?_ _ | refine Below.alloc ?_ (by simp <;> omega) _)))) (KeepD.of_below ((by repeat (first | exact Below.refl _ _ | assumption | refine Below.drew ?_ | refine below_drewN ?_ _ | refine Below.alloc ?_ (by simp <;> omega) _))) HBW.out.size) ⟨⟨HI.out, HE.out.ext ((by repeat (first | exact Below.refl _ _ | assumption | refine Below.drew ?_ | refine below_drewN ?_ _ | refine Below.alloc ?_ (by simp <;> omega) _)))⟩, HBW.out.trans (((by repeat (first | exact Below.refl _ _ | assumption | refine Below.drew ?_ | refine below_drewN ?_ _ | refine Below.alloc ?_ (by simp <;> omega) _)) : Below W.heap.size W (W.alloc (.cells #[.int .i64 xd.tb, .slice A' xd.row.length ca', .slice K' xd.kids.length ck'] 71))).mono HBW.out.size)⟩ ⟨W.heap.size, A', ca', K', ck', ⟨HE.out.lt, rfl, rfl⟩, Blk.new _ _ _⟩
    case body =>
      rintro l pre ⟨⟨xv, xd⟩, hx0⟩ a' W hl ⟨r, hr⟩ hI ⟨Bx, A', ca', K', ck', ⟨hBx, hv, rfl⟩, hbx2⟩ hlt
      obtain ⟨nx, hx⟩ := id hx0
      have hx : DRd nx w xv xd := hx
      have hv : xv = .agg #[.int .i64 xd.tb, .slice A' xd.row.length ca', .slice K' xd.kids.length ck'] := hv
      subst hv
      obtain ⟨nx, rfl⟩ : ∃ k, nx = k + 1 := by cases nx; exact hx.elim; exact ⟨_, rfl⟩
      obtain ⟨A2, ca2, K2, ck2, hv2, htb, hrow, hkr⟩ := hx
      simp only [Value.agg.injEq, Array.mk.injEq, List.cons.injEq, Value.slice.injEq, and_true, true_and] at hv2
      obtain ⟨⟨rfl, rfl⟩, rfl, rfl⟩ := hv2
      have hB := hI.2
      have HRW := Lib.hid (fun (W' : World) (hW' : Below W.heap.size W W') => vrow_any xd.row A' ca' W' (hrow.ext (hB.trans (hW'.mono hB.size))) (HT.out W' (hB.trans (hW'.mono hB.size))))
      have HI := Lib.hid hI
      have HX2 := Lib.hid hbx2
      have HKR := Lib.hid hkr
      have hkl := hkr.1
      have HFL := Lib.hid (fun (hn : nodeB xd = false) (w3 : World) (hlt : ex < w3.heap.size) (hb : Below W.heap.size W (putBlk w3 ex #[.int .i64 0] 29)) => ckX_fail (B := W0.heap.size) (x := ⟨(.agg #[.int .i64 xd.tb, .slice A' xd.row.length ca', .slice K' xd.kids.length ck'], xd), hx0⟩) hI HEX.out hlt hb hn)
      have HGO := Lib.hid (fun (hn : nodeB xd = true) (W' : World) (hb : Below W.heap.size W W') => ckI_go (B := W0.heap.size) (x := ⟨(.agg #[.int .i64 xd.tb, .slice A' xd.row.length ca', .slice K' xd.kids.length ck'], xd), hx0⟩) hI hb hn)
      have hE := hI.1.2
      clear hrow hkr hI hB hbx2 HFN HFY HM
      obtain ⟨lx, x0, x1, x2⟩ := blk3 HX2.out
      by_cases ht0 : xd.tb < 0
      · have HF := Lib.hid (HFL.out (node_tb0 ht0))
        have HRF := Lib.hid (Below.refl W.heap.size W)
        obtain ⟨w3, he3, lt⟩ := blk_put hE
        clear HFL HGO HRW
        subst he3
        obtain ⟨pc, pf, pS⟩ := putBlk_facts (w := w3) 29 lt
        gi_wp2_with fail
        refine ⟨trivial, ?_⟩
        gi_wp2_with fail
        exact HF.out w3 lt HRF.out
      · have ht0' : 0 ≤ xd.tb := by omega
        clear ht0
        by_cases ht1 : 12 ≤ xd.tb
        · have HF := Lib.hid (HFL.out (node_tb1 ht1))
          have HRF := Lib.hid (Below.refl W.heap.size W)
          obtain ⟨w3, he3, lt⟩ := blk_put hE
          clear HFL HGO HRW
          subst he3
          obtain ⟨pc, pf, pS⟩ := putBlk_facts (w := w3) 29 lt
          gi_wp2_with fail
          refine ⟨trivial, ?_⟩
          gi_wp2_with fail
          exact HF.out w3 lt HRF.out
        · have ht1' : xd.tb < 12 := by omega
          clear ht1
          generalize hrb : rowB xd.row = rb at HRW
          cases rb
          · have HF := Lib.hid (HFL.out (node_row hrb))
            have HE := Lib.hid hE
            clear HFL HGO hrb hE
            simp only [show okE false = 2 from rfl] at HRW
            gi_wp2_with fail
            refine ⟨trivial, CallsIn.inRound l (callsIn_wide.2 ((HRW.out _ (Below.refl _ _)).mono ?_))⟩
            rintro r w2 ⟨rfl, hb2⟩
            have hE2 := HE.out.ext hb2
            have HB2 := Lib.hid hb2
            clear hb2 HRW HE lx x0 x1 x2
            obtain ⟨w3, he3, lt⟩ := blk_put hE2
            subst he3
            obtain ⟨pc, pf, pS⟩ := putBlk_facts (w := w3) 29 lt
            gi_wp2_with fail
            exact HF.out w3 lt HB2.out
          · have HRB := Lib.hid hrb
            have HE := Lib.hid hE
            clear hrb hE
            simp only [show okE true = 0 from rfl] at HRW
            gi_wp2_with fail
            refine ⟨trivial, CallsIn.inRound l (callsIn_wide.2 ((HRW.out _ (Below.refl _ _)).mono ?_))⟩
            rintro r w2 ⟨rfl, hb2⟩
            have HB2 := Lib.hid hb2
            have HX2 := Lib.hid (HX2.out.ext hb2)
            have HE := Lib.hid (HE.out.ext hb2)
            clear hb2 HRW lx x0 x1 x2
            obtain ⟨lx, _, _, x2⟩ := blk3 HX2.out
            gi_wp2_with fail
            gi_loopw [28] (fun i wr => ∃ (k : Nat) (ki : Int), k ≤ xd.kids.length ∧ 0 ≤ ki ∧ i = .int .i64 ki ∧ Hid (ki = k) ∧ Hid (OrdK xd.kids k) ∧ Hid (Below w2.heap.size w2 wr)) (fun i _ => xd.kids.length - (intOf i).toNat)
            case atStart => exact ⟨0, 0, by omega, by omega, rfl, Lib.hid rfl, fun i a b h => by omega, Below.refl _ _⟩
            case round =>
              obtain ⟨k, ki, hk1, hk0, rfl, HKI, HS, HBW⟩ := hrel
              have HX2 := Lib.hid (HX2.out.ext HBW.out)
              have HE := Lib.hid (HE.out.ext HBW.out)
              have HB2 := Lib.hid (bt HB2.out HBW.out)
              clear lx x2
              obtain ⟨lx, _, _, x2⟩ := blk3 HX2.out
              by_cases hlt : k < xd.kids.length
              · have hki : ki < xd.kids.length := by rw [HKI.out]; omega
                have HKW := Lib.hid (show KRow (DRd nx w) wr K' xd.kids from HKR.out.ext (HI.out.2.trans (HB2.out.mono HI.out.2.size)) (fun _ _ h => h))
                have HOC := Lib.hid (fun (j : Nat) (x y : De) (hy : xd.kids[j]? = some y) (hx : xd.kids[j + 1]? = some x) (h : x.tb < y.tb) => HFL.out (node_ord (OkK.no2 hy hx h)))
                rcases k with _ | j
                · obtain rfl : ki = 0 := HKI.out
                  gi_wp2_with fail
                  refine region_growIn [false, false, false, false, false, false, false, false, false, false, false, false, false, false, false, false, false, false, false, false, false, false, false, false, false, false, false, false, false, false, false, true, true, true, true, true, true, true, true, true, true, true, true, true, true, true, true, true, true, false] [31, 32, 33, 34, 35, 36, 37, 38, 39, 40, 41, 42, 43, 44, 45, 46, 47, 48] [.val (.int .i64 (0 : Int)), .val (.bool false), .val (.bool false), .val undef, .val undef, .val undef, .val undef, .val undef, .val undef, .val undef, .val undef, .val undef, .val undef, .val undef, .val undef, .val undef, .val undef, .val (.bool false)] [17] (by kernel_rfl) (by kernel_rfl) (by kernel_rfl) (by kernel_rfl) (by kernel_rfl) (by kernel_rfl) ⟨?_, ?_, ?_, ?_, ?_, ?_, ?_, ?_, ?_, ?_, ?_, ?_, ?_, ?_, ?_, ?_, ?_, ?_, trivial⟩ ?done
                  case done =>
                    intro x5 w5 hb5
                    simp only [StepGoal, overlay, upd, cond_true, cond_false, List.getD_cons_zero, List.getD_cons_succ, Nat.zero_add, Nat.reduceAdd, Nat.reduceEqDiff, reduceIte]
                    gi_wp2_with fail
                    go_roundw
                    case rel => exact ⟨0 + 1, _, by omega, by omega, rfl, Lib.hid rfl, fun i a b h => by omega, bt HBW.out hb5⟩
                    case measure => simp [intOf]; omega
                  all_goals
                    intro x5 w5 hb5
                    intro K hK
                    obtain ⟨lb, d0, d1, d2⟩ := blk3 (HX2.out.ext hb5)
                    skip
                    first
                      | (rw [if_neg (by exact Bool.false_ne_true)]; exact hK.out _ _ (Below.refl _ _) rfl)
                      | (rw [if_pos (by rfl)]; simp only [overlay, upd, cond_true, cond_false, List.getD_cons_zero, List.getD_cons_succ, Nat.reduceEqDiff, reduceIte]
                         go_simp
                         exact hK.out _ _ (Below.refl _ _) rfl)
                · obtain rfl : ki = (j : Int) + 1 := HKI.out
                  obtain ⟨b, off, x, hb, y, hy1, hx1, f0, e0, hbt⟩ : ∃ (b off : Nat) (x : De) (_ : b < wr.heap.size) (y : De), xd.kids[j]? = some y ∧ xd.kids[j + 1]? = some x ∧ wr.cell? ⟨b, off + j * 3, none⟩ = some (.int .i64 y.tb) ∧ wr.cell? ⟨b, off + (j + 1) * 3, none⟩ = some (.int .i64 x.tb) ∧ K' = some ⟨b, off, none⟩ := by
                    obtain ⟨b, off, x, _, _, _, _, rfl, hb, hx1, e0, _, _, _⟩ := HKW.out.kidw hlt
                    obtain ⟨b', off', y, _, _, _, _, he, _, hy1, f0, _, _, _⟩ := HKW.out.kidw (Nat.lt_of_succ_lt hlt)
                    simp only [Option.some.injEq, Addr.mk.injEq, and_true] at he
                    obtain ⟨rfl, rfl⟩ := he
                    exact ⟨b, off, x, hb, y, hy1, hx1, f0, e0, rfl⟩
                  subst hbt
                  have HY1 := Lib.hid hy1
                  have HX1 := Lib.hid hx1
                  have F0 := Lib.hid f0
                  have E0 := Lib.hid e0
                  clear hy1 hx1 f0 e0
                  have hw1 : IntKind.i64.wrap (j : Int) = j := IntWalk.i64_in _ (by omega)
                  have hjl : j < xd.kids.length := by omega
                  have hn1 : ((j : Int) + 1).toNat = j + 1 := by omega
                  have hn0 : (0 : Int) ≤ (j : Int) := by omega
                  gi_wp2_with fail
                  by_cases hxy : x.tb < y.tb
                  · have HF := Lib.hid (HOC.out j x y HY1.out HX1.out hxy)
                    refine region_growIn [false, false, false, false, false, false, false, false, false, false, false, false, false, false, false, false, false, false, false, false, false, false, false, false, false, false, false, false, false, false, false, true, true, true, true, true, true, true, true, true, true, true, true, true, true, true, true, true, true, false] [31, 32, 33, 34, 35, 36, 37, 38, 39, 40, 41, 42, 43, 44, 45, 46, 47, 48] [.val (.int .i64 ((j : Int) + 1)), .val (.bool true), .val (.bool true), .val (.pointer (some ⟨Bx, 2, none⟩)), .val (.slice (some ⟨b, off, none⟩) xd.kids.length ck'), .val (.int .i64 ((j : Int) + 1)), .val (.pointer (some ⟨b, off + (j + 1) * 3, none⟩)), .val (.pointer (some ⟨b, off + (j + 1) * 3, none⟩)), .val (.int .i64 x.tb), .val (.pointer (some ⟨Bx, 2, none⟩)), .val (.slice (some ⟨b, off, none⟩) xd.kids.length ck'), .val (.int .i64 ((j : Int) + 1)), .val (.int .i64 (j : Int)), .val (.pointer (some ⟨b, off + j * 3, none⟩)), .val (.pointer (some ⟨b, off + j * 3, none⟩)), .val (.int .i64 y.tb), .val (.bool true), .val (.bool true)] [17] (by kernel_rfl) (by kernel_rfl) (by kernel_rfl) (by kernel_rfl) (by kernel_rfl) (by kernel_rfl) ⟨?_, ?_, ?_, ?_, ?_, ?_, ?_, ?_, ?_, ?_, ?_, ?_, ?_, ?_, ?_, ?_, ?_, ?_, trivial⟩ ?done2
                    case done2 =>
                      intro x5 w5 hb5
                      simp only [StepGoal, overlay, upd, cond_true, cond_false, List.getD_cons_zero, List.getD_cons_succ, Nat.zero_add, Nat.reduceAdd, Nat.reduceEqDiff, reduceIte]
                      have hE2 := HE.out.ext hb5
                      have HB3 := Lib.hid (bt HB2.out hb5)
                      clear hb5
                      obtain ⟨w3, he3, lt⟩ := blk_put hE2
                      clear hE2
                      subst he3
                      obtain ⟨pc, pf, pS⟩ := putBlk_facts (w := w3) 29 lt
                      gi_wp2_with fail
                      exact HF.out w3 lt HB3.out
                    all_goals
                      intro x5 w5 hb5
                      intro K hK
                      obtain ⟨lb, d0, d1, d2⟩ := blk3 (HX2.out.ext hb5)
                      have e0 := (hb5.cell (p := ⟨b, _, none⟩) hb).trans E0.out; have f0 := (hb5.cell (p := ⟨b, _, none⟩) hb).trans F0.out; have lbb : b < w5.heap.size := Nat.lt_of_lt_of_le hb hb5.size
                      first
                        | (rw [if_neg (by exact Bool.false_ne_true)]; exact hK.out _ _ (Below.refl _ _) rfl)
                        | (rw [if_pos (by rfl)]; simp only [overlay, upd, cond_true, cond_false, List.getD_cons_zero, List.getD_cons_succ, Nat.reduceEqDiff, reduceIte]
                           go_simp
                           exact hK.out _ _ (Below.refl _ _) rfl)
                  · have hxy' : y.tb ≤ x.tb := by omega
                    refine region_growIn [false, false, false, false, false, false, false, false, false, false, false, false, false, false, false, false, false, false, false, false, false, false, false, false, false, false, false, false, false, false, false, true, true, true, true, true, true, true, true, true, true, true, true, true, true, true, true, true, true, false] [31, 32, 33, 34, 35, 36, 37, 38, 39, 40, 41, 42, 43, 44, 45, 46, 47, 48] [.val (.int .i64 ((j : Int) + 1)), .val (.bool true), .val (.bool true), .val (.pointer (some ⟨Bx, 2, none⟩)), .val (.slice (some ⟨b, off, none⟩) xd.kids.length ck'), .val (.int .i64 ((j : Int) + 1)), .val (.pointer (some ⟨b, off + (j + 1) * 3, none⟩)), .val (.pointer (some ⟨b, off + (j + 1) * 3, none⟩)), .val (.int .i64 x.tb), .val (.pointer (some ⟨Bx, 2, none⟩)), .val (.slice (some ⟨b, off, none⟩) xd.kids.length ck'), .val (.int .i64 ((j : Int) + 1)), .val (.int .i64 (j : Int)), .val (.pointer (some ⟨b, off + j * 3, none⟩)), .val (.pointer (some ⟨b, off + j * 3, none⟩)), .val (.int .i64 y.tb), .val (.bool false), .val (.bool false)] [17] (by kernel_rfl) (by kernel_rfl) (by kernel_rfl) (by kernel_rfl) (by kernel_rfl) (by kernel_rfl) ⟨?_, ?_, ?_, ?_, ?_, ?_, ?_, ?_, ?_, ?_, ?_, ?_, ?_, ?_, ?_, ?_, ?_, ?_, trivial⟩ ?done3
                    case done3 =>
                      intro x5 w5 hb5
                      simp only [StepGoal, overlay, upd, cond_true, cond_false, List.getD_cons_zero, List.getD_cons_succ, Nat.zero_add, Nat.reduceAdd, Nat.reduceEqDiff, reduceIte]
                      gi_wp2_with fail
                      go_roundw
                      case rel => exact ⟨j + 1 + 1, _, by omega, by omega, rfl, Lib.hid (by omega), HS.out.step HY1.out HX1.out hxy', bt HBW.out hb5⟩
                      case measure => simp [intOf]; omega
                    all_goals
                      intro x5 w5 hb5
                      intro K hK
                      obtain ⟨lb, d0, d1, d2⟩ := blk3 (HX2.out.ext hb5)
                      have e0 := (hb5.cell (p := ⟨b, _, none⟩) hb).trans E0.out; have f0 := (hb5.cell (p := ⟨b, _, none⟩) hb).trans F0.out; have lbb : b < w5.heap.size := Nat.lt_of_lt_of_le hb hb5.size
                      first
                        | (rw [if_neg (by exact Bool.false_ne_true)]; exact hK.out _ _ (Below.refl _ _) rfl)
                        | (rw [if_pos (by rfl)]; simp only [overlay, upd, cond_true, cond_false, List.getD_cons_zero, List.getD_cons_succ, Nat.reduceEqDiff, reduceIte]
                           go_simp
                           exact hK.out _ _ (Below.refl _ _) rfl)
              · have hki : ¬ ki < xd.kids.length := by rw [HKI.out]; omega
                have HG := Lib.hid (HGO.out (node_yes ht0' ht1' HRB.out (HS.out.end_ (by omega))) wr HB2.out)
                gi_wp2_with fail
                exact HG.out
    case loopend =>
      rintro D ys W hD hys ⟨⟨hp, hE⟩, hB⟩ hK
      have hRt : R = true := by rw [HM.out]; exact HFY.out _ hys hp
      subst hRt
      have hE' := hE
      obtain ⟨w3, rfl, lt⟩ := blk_put hE'
      obtain ⟨pc, pf, pS⟩ := putBlk_facts (w := w3) 29 lt
      have HD2 := Lib.hid hD
      have HB2 := Lib.hid hB
      have HKD := Lib.hid (show (putBlk w3 ex #[.int .i64 0] 29).heap[D]? = some (.deferred (some [])) from hK)
      clear hE hE' hB hD hK hp hys HM
      gi_wp2_with fail
      refine ⟨by simp, .inl ⟨_, _, rfl, run_takeDeferred HKD.out, ?_⟩⟩
      have hc5 := cell_kept (pc #[.int .i64 0] 0) (grownBy_putObj' _ D (.deferred none)) (fun r e => by cases e; exact ⟨_, HKD.out, rfl⟩)
      refine ⟨.int .i64 0, ?_, rfl, HB2.out.trans (belowK_b (w := w) (Nat.le_refl _) _ D _ _ (by have := HN0.out; have := HD2.out; omega) HKD.out rfl rfl)⟩
      simp [results, Tryd.results44, go_sem, hc5]
    case stop =>
      rintro D c pre W hD hpre ⟨⟨⟨rfl, x, hx, hno⟩, hE⟩, hB⟩ hK
      have hRt : R = false := by rw [HM.out]; exact HFN.out _ x hpre hx hno
      subst hRt
      have he := hE.cell 0
      have HD2 := Lib.hid hD
      have HB2 := Lib.hid hB
      have HKD := Lib.hid hK
      have HE2 := Lib.hid he
      clear hE hB hD hK hpre hx hno HM he
      gi_wp2_with fail
      refine ⟨by simp, .inl ⟨_, _, rfl, run_takeDeferred HKD.out, ?_⟩⟩
      have hc5 := cell_kept HE2.out (grownBy_putObj' _ D (.deferred none)) (fun r e => by cases e; exact ⟨_, HKD.out, rfl⟩)
      refine ⟨.int .i64 2, ?_, rfl, HB2.out.trans (belowK_b (w := w) (Nat.le_refl _) _ D _ _ (by have := HN0.out; have := HD2.out; omega) HKD.out rfl rfl)⟩
      simp [results, Tryd.results44, go_sem, hc5]
end Go.Proofs.YtjdfodmialhakaaDoor

/- Documents: Put; the plain part. -/
namespace Go.Proofs.YtjdfodmialhakaaDoor
open Go.RowKit Go.Shelf
attribute [local go_sem] Oper.semAt_some

/-- One document's bytes, whether it may be or not. -/
def nodeG (d : De) : List UInt8 := UInt8.ofNat (d.tb % 256).toNat :: ((if rowB d.row then putRowL d.row else []) ++ [UInt8.ofNat d.kids.length, UInt8.ofNat (d.kids.length / 256)])
theorem nodeG_eq {d : De} (h : nodeB d = true) : nodeG d = nodeL d := by
  unfold nodeB at h
  simp only [Bool.and_eq_true, decide_eq_true_eq] at h
  unfold nodeG nodeL
  rw [if_pos h.1.2]
  congr 3
  omega
theorem putRow_len {l : List V} (h : rowB l = true) : (putRowL l).length ≤ 817 := by
  obtain ⟨h1, h8, hall⟩ := row_may h
  have key : ∀ m : List V, (∀ v ∈ m, mayB v = true) → (m.flatMap putL).length ≤ 102 * m.length := by
    intro m
    induction m with
    | nil => intro _; simp
    | cons v m ih =>
      intro hm
      have h2 := putL_length (hm v (by simp))
      have h3 := ih (fun u hu => hm u (by simp [hu]))
      rw [List.flatMap_cons, List.length_append, List.length_cons]
      omega
  have := key l hall
  unfold putRowL
  rw [List.length_cons]
  omega
theorem nodeG_len (d : De) : (nodeG d).length ≤ 820 := by
  unfold nodeG
  split
  · next h =>
    have := putRow_len h
    simp only [List.length_cons, List.length_append, List.length_nil]
    omega
  · simp
theorem gL_len : ∀ q : List De, (q.flatMap nodeG).length ≤ 820 * q.length
  | [] => by simp
  | d :: q => by
    have h1 := nodeG_len d
    have h2 := gL_len q
    rw [List.flatMap_cons, List.length_append, List.length_cons]
    omega
theorem gL_fits {d : De} (h : fitsB d = true) : (preD d).flatMap nodeG = putD d := by
  unfold putD
  unfold fitsB at h
  rw [List.all_eq_true] at h
  generalize preD d = q at h
  induction q with
  | nil => rfl
  | cons x q ih => rw [List.flatMap_cons, List.flatMap_cons, nodeG_eq (h x (by simp)), ih (fun y hy => h y (by simp [hy]))]
theorem sizeK_pre {f : Int → De → Int} (hf : ∀ m k, 0 ≤ f m k → f m k = (preD k).length) (most : Int) : ∀ (ks : List De) (n : Int), 0 ≤ n → 0 ≤ sizeK f most n ks → sizeK f most n ks = n + (ks.flatMap preD).length
  | [], n, _, _ => by simp [sizeK]
  | k :: ks, n, hn, h => by
    simp only [sizeK] at h ⊢
    by_cases hk : f (most - n) k < 0
    · rw [if_pos hk] at h; omega
    · rw [if_neg hk] at h ⊢
      have e := hf (most - n) k (by omega)
      have := sizeK_pre hf most ks (n + f (most - n) k) (by omega) h
      rw [this, List.flatMap_cons, List.length_append, e]
      omega
theorem sizeI_pre : ∀ (deep : Nat) (most : Int) (d : De), 0 ≤ sizeI deep most d → sizeI deep most d = (preD d).length
  | 0, _, _, h => by simp [sizeI] at h
  | deep + 1, most, d, h => by
    simp only [sizeI] at h ⊢
    split at h
    · omega
    · next hm =>
      rw [if_neg hm, sizeK_pre (fun m k => sizeI_pre deep m k) most d.kids 1 (by omega) h, preD_eq, List.length_cons]
      omega
theorem pre_size {d : De} (h : 0 < sizeD d) : ((preD d).length : Int) = sizeD d := by
  unfold sizeD at h ⊢
  have := sizeI_pre 8 200 d (by omega)
  omega
theorem pre_le {d : De} (h : 0 < sizeD d) : (preD d).length ≤ 200 := by
  have h1 := pre_size h
  have h2 := sizeD_nn d
  omega
theorem may_size25 {d : De} (h : mayD d = true) : 0 < sizeD d ∧ fitsB d = true := by
  unfold mayD at h
  simpa using h
theorem putD_len {d : De} (h : mayD d = true) : (putD d).length ≤ 164000 := by
  obtain ⟨h1, h2⟩ := may_size25 h
  have h3 := gL_len (preD d)
  rw [gL_fits h2] at h3
  have h4 := pre_le h1
  omega
end Go.Proofs.YtjdfodmialhakaaDoor

/- Documents: Put. -/
namespace Go.Proofs.YtjdfodmialhakaaDoor
open Go.RowKit Go.Shelf
attribute [local go_sem] Oper.semAt_some

theorem wpListIn_append_str {F : Fence} {n : Nat} {P : Program} (w : World) {ops : Array Oper} {rest : List Oper} {o : Oper} {a : Act} {Q : Exit → Act → World → Prop} (hgd : o.guard = none) (sl x : Operand) (t u : TypeId)
    (ho : o.op = .call { callee := .builtin .append, args := #[sl, x], argTypes := #[t, u] })
    (base : Nat) (e : TypeId) (i : TypeInfo) (ht : P.underlying t = some (.slice e)) (hu : P.underlying u = some .string) (hi : P.info? e = some i) (hz : i.zero = some (.int .u8 0))
    (hsize : i.size = 1) (hby : i.bytes = 1)
    (v : Value) (k : Nat) (xs : List Value) (hs : a.eval sl = v) (hown : w.ownsRow base e 1 v k xs) (s : ByteArray) (hx : a.eval x = .string s)
    (h63 : k + s.size ≤ maxLen) (hbytes : k + s.size ≤ 140737488355328) (hbase : base ≤ w.heap.size)
    (h : ∀ v' w', w'.ownsRow base e 1 v' (k + s.size) (xs ++ Lib.strCells s) → w.grownBy w' v.ownBlock → wpListIn F n P ops Q rest (a.put o.dst v') w') : wpListIn F n P ops Q (o :: rest) a w := by
  refine wpListIn_plain hgd fun K hK' => ?_
  obtain ⟨v', w', hr, h2, h3, h4⟩ := Lib.run_append_own_string (P := P) w base t u o.type e i ht hu hi hz hsize hby v k xs hown s h63 hbytes hbase
  unfold Oper.wpIn
  refine ⟨?_, ?_⟩
  · simp [Oper.about, ho, resolve, Target.leads, Sem.run_pure]
  · rw [Oper.semAt_plain F _ _ (by rw [ho]; intro c hc'; cases hc')]
    simp [execOp, ho, resolve, invoke, builtin, hs, hx, hr, Result.andThen]
    exact hK' _ _ (h v' w' h2 h3)
theorem own_own {β : Type} (base e size n : Nat) (v : Value) (xs : List Value) : Own (fun (_ : β) W => World.ownsRow W base e size v n xs) := fun s X Y row hs hg hrow => by
  refine hs.kept hg ?_
  by_cases h : v.ownBlock = none
  · exact Or.inl h
  · right
    intro e'
    obtain ⟨b, hb⟩ : ∃ b, v.ownBlock = some b := by cases hv : v.ownBlock with | none => exact absurd hv h | some b => exact ⟨b, rfl⟩
    obtain ⟨o, ho, hc⟩ := hrow b (by rw [← e', hb])
    rcases hs.2 with ⟨rfl, _⟩ | ⟨g, cap, cur, rfl, _, hg', _⟩
    · cases hb
    · have : g = b := by simpa [Value.ownBlock] using hb
      subst this
      rw [hg'] at ho
      cases ho
      cases hc
/-- What an append turns: no block of another type. -/
theorem blk_grown {W W' : World} {b : Nat} {cs : Array Value} {t : TypeId} {base e size n : Nat} {v : Value} {xs : List Value} (h : Blk W b cs t) (ho : W.ownsRow base e size v n xs) (hne : t ≠ e) (hg : W.grownBy W' v.ownBlock) : Blk W' b cs t := by
  unfold Blk at h ⊢
  rw [← h]
  refine hg.block b (Array.getElem?_eq_some_iff.1 h).1 (fun e' => ?_)
  rcases ho.2 with ⟨rfl, _⟩ | ⟨g, cap, cur, rfl, _, hg', _⟩
  · cases e'
  · have : b = g := by simpa [Value.ownBlock] using e'
    subst this
    rw [hg'] at h
    cases h
    exact hne rfl
theorem keepsFrom_grown {B : Nat} {W W' : World} {base e size n : Nat} {v : Value} {xs : List Value} (ho : W.ownsRow base e size v n xs) (hg : W.grownBy W' v.ownBlock) : KeepsFrom B W W' :=
  ⟨hg.size, fun k o _ hk hc => by
    rw [← hk]
    refine hg.block k (Array.getElem?_eq_some_iff.1 hk).1 (fun e' => ?_)
    rcases ho.2 with ⟨rfl, _⟩ | ⟨g, cap, cur, rfl, _, hg', _⟩
    · cases e'
    · have : k = g := by simpa [Value.ownBlock] using e'
      subst this
      rw [hg'] at hk
      cases hk
      cases hc⟩
theorem blk_apart25 {w : World} {x y : Nat} {cs ds : Array Value} {t u : TypeId} (h : Blk w x cs t) (k : Blk w y ds u) (hne : t ≠ u) : x ≠ y := by
  intro e
  subst e
  unfold Blk at h k
  rw [h] at k
  simp only [Option.some.injEq, Obj.cells.injEq] at k
  exact hne k.2.1
theorem keepD_put {n0 : Nat} {w : World} {b : Nat} {cs ds : Array Value} {t : TypeId} (hlt : b < w.heap.size) (hn : n0 ≤ b) (ht : t ≠ 71) : KeepD n0 (putBlk w b cs t) (putBlk w b ds t) := by
  refine ⟨putBlk_belows (Below.refl n0 _) hn ds, fun x c hx _ => ?_⟩
  have hne : x ≠ b := fun e => blk_apart25 (putBlk_blk cs t hlt) hx ht e.symm
  unfold Blk at hx ⊢
  rw [putBlk_other hne]
  exact hx
theorem keepD_grown {n0 : Nat} {W W' : World} {base e size n : Nat} {v : Value} {xs : List Value} (ho : W.ownsRow base e size v n xs) (hg : W.grownBy W' v.ownBlock) (hb : n0 ≤ base) (hn : n0 ≤ W.heap.size) (ht : 71 ≠ e) : KeepD n0 W W' :=
  ⟨(Below.refl n0 W).grown hg hn (fun g h => Nat.le_trans hb (ho.lt g h).1), fun _ _ hx _ => blk_grown hx ho ht hg⟩
theorem byteCell_nat (n : Nat) : byteCell (UInt8.ofNat n) = .int .u8 ((n : Int) % 256) := by
  unfold byteCell
  congr 1
theorem byteCell_int (t : Int) : byteCell (UInt8.ofNat (t % 256).toNat) = .int .u8 (t % 256) := by
  rw [byteCell_nat]
  congr 1
  omega
theorem nodeG_cells (d : De) (N : List UInt8) (h : N = (if rowB d.row = true then putRowL d.row else [])) : (nodeG d).map byteCell = [.int .u8 (d.tb % 256)] ++ N.map byteCell ++ [.int .u8 ((d.kids.length : Int) % 256), .int .u8 ((d.kids.length : Int) / 256 % 256)] := by
  unfold nodeG
  rw [← h, List.map_cons, List.map_append, byteCell_int]
  simp only [List.map_cons, List.map_nil, byteCell_nat, List.cons_append]
  congr 3
theorem cells_new2 (w : World) (a b : Value) (t : TypeId) : ∀ j u, [a, b][j]? = some u → (w.alloc (.cells #[a, b] t)).cell? ((⟨w.heap.size, 0, none⟩ : Addr).add j) = some u := by
  intro j u hu
  have h := (Blk.new w #[a, b] t).cell j
  rw [List.getElem?_toArray, hu] at h
  cases j with
  | zero => exact h
  | succ j => simpa [Addr.add] using h
/-- Put's rounds: what has come lies as bytes of the call's own. -/
def gL {w : World} (pre : List (DA w)) : List UInt8 := (deL pre).flatMap nodeG
def PtI (w : World) (bb : Nat) (pre : List (DA w)) (W : World) : Prop := (∃ v, Blk W bb #[v] 125 ∧ W.ownsRow w.heap.size 5 1 v (gL pre).length ((gL pre).map byteCell)) ∧ Below w.heap.size w W
theorem ptI_own {w : World} {bb B : Nat} (hB : w.heap.size ≤ B) : OwnFrom B (PtI w bb) := by
  intro s X Y row ⟨⟨v, h1, h2⟩, h3⟩ hg hr
  exact ⟨⟨v, (blk_own bb (fun _ => #[v]) 125 : Own _) () X Y row h1 hg (fun r e => (hr r e).2), (own_own (β := Unit) _ _ _ _ v _ : Own _) () X Y row h2 hg (fun r e => (hr r e).2)⟩, ownFrom_below (Nat.le_refl _) hB s X Y row h3 hg hr⟩
set_option maxRecDepth 100000 in
theorem put25_not (n : Nat) (v : Value) (d : De) (w : World) (hT : Tabs w) (hd : DRd n w v d) (hm : mayD d = false) :
    Calls Tryd.prog 45 #[v] w fun r w' => r = .returned (.tuple #[.string ⟨#[]⟩, .int .i64 2]) ∧ Below w.heap.size w w' := by
  have HC := Lib.hid (fun (W : World) (hW : Below w.heap.size w W) => check25_any n v d W (hT.ext hW) (hd.ext hW))
  rw [hm] at HC
  simp only [show okE false = 2 from rfl] at HC
  obtain ⟨A, ca, K, ck, rfl⟩ := hd.form
  clear hd hT hm
  go_enter Tryd.func45, Tryd.ntmps45
  go_wp2_with fail
  refine (HC.out _ (by repeat (first | exact Below.refl _ _ | assumption | refine Below.drew ?_ | refine below_drewN ?_ _ | refine Below.alloc ?_ (by simp <;> omega) _))).mono ?_
  rintro r w1 ⟨rfl, hb1⟩
  have HW1 : Hid (Below w.heap.size w w1) := bt (by repeat (first | exact Below.refl _ _ | assumption | refine Below.drew ?_ | refine below_drewN ?_ _ | refine Below.alloc ?_ (by simp <;> omega) _)) hb1
  clear hb1 HC
  go_wp2_with fail
  go_ret2
  exact ⟨rfl, HW1.out⟩
set_option maxRecDepth 100000 in
set_option maxHeartbeats 2000000 in
theorem put25_yes (n : Nat) (v : Value) (d : De) (w : World) (hT : Tabs w) (hd : DRd n w v d) (hm : mayD d = true) :
    Calls Tryd.prog 45 #[v] w fun r w' => r = .returned (.tuple #[.string ⟨(putD d).toArray⟩, .int .i64 0]) ∧ Below w.heap.size w w' := by
  have HCK := Lib.hid (fun (W : World) (hW : Below w.heap.size w W) => check25_any n v d W (hT.ext hW) (hd.ext hW))
  rw [hm] at HCK
  simp only [show okE true = 0 from rfl] at HCK
  obtain ⟨A, ca, K, ck, rfl⟩ := hd.form
  have HT := Lib.hid (fun (W : World) (hW : Below w.heap.size w W) => hT.ext hW)
  have HD := Lib.hid hd
  obtain ⟨hs, hf⟩ := may_size25 hm
  have hN := pre_le hs
  have HGF := Lib.hid (gL_fits hf)
  obtain ⟨i0, hi0, hz0, hz1, hz2⟩ := info_parts info_u8
  clear hd hT hm hs hf
  generalize d.tb = tb at HCK HD ⊢
  generalize d.row.length = rl at HCK HD ⊢
  generalize d.kids.length = kl at HCK HD ⊢
  have hC0 : Below w.heap.size w (w.alloc (.cells #[.int .i64 tb, .slice A rl ca, .slice K kl ck] 71)) := (by repeat (first | exact Below.refl _ _ | assumption | refine Below.drew ?_ | refine below_drewN ?_ _ | refine Below.alloc ?_ (by simp <;> omega) _))
  have h1 : Blk (w.alloc (.cells #[.int .i64 tb, .slice A rl ca, .slice K kl ck] 71)) w.heap.size #[.int .i64 tb, .slice A rl ca, .slice K kl ck] 71 := (by repeat (first | exact Blk.at (by simp) | assumption | refine Blk.drew ?_ | refine Blk.old ?_ _))
  refine callsIn_wide (n := 9) |>.1 ?_
  refine callsIn_of_wp_marks Tryd.func45 rfl trivial ?_ rfl
  simp only [Tryd.ntmps45, List.size_toArray, List.length_cons, List.length_nil, Nat.reduceAdd, Nat.reduceSub, Array.replicate_succ, Array.replicate_zero, List.push_toArray, List.append_toArray, List.nil_append, List.cons_append]
  gi_wp2_with fail
  refine ⟨trivial, callsIn_wide.2 ((HCK.out _ hC0).mono ?_)⟩
  rintro r w1 ⟨rfl, hb1⟩
  have HB := Lib.hid (h1.ext hb1)
  have HC := Lib.hid (bt hC0 hb1)
  have hsz1 : w.heap.size + 1 ≤ w1.heap.size := by have := hb1.size; simp at this; omega
  clear hb1 h1 hC0 HCK
  obtain ⟨lb, b0, b1, b2⟩ := blk3 HB.out
  gi_wp2_with fail
  refine ⟨trivial, callsIn_wide.2 ((all25_any tb A rl ca K kl ck _).mono ?_)⟩
  rintro r w2 ⟨rfl, rfl⟩
  have hA : Below w1.heap.size w1 ((w1.alloc (.cells #[.slice none 0 0] 125)).alloc (.cells #[.int .i64 tb, .slice A rl ca, .slice K kl ck] 71)) := (by repeat (first | exact Below.refl _ _ | assumption | refine Below.drew ?_ | refine below_drewN ?_ _ | refine Below.alloc ?_ (by simp <;> omega) _))
  have HX := Lib.hid ((by repeat (first | exact Blk.at (by simp) | assumption | refine Blk.drew ?_ | refine Blk.old ?_ _)) : Blk ((w1.alloc (.cells #[.slice none 0 0] 125)).alloc (.cells #[.int .i64 tb, .slice A rl ca, .slice K kl ck] 71)) (w1.heap.size + 1) #[.int .i64 tb, .slice A rl ca, .slice K kl ck] 71)
  have HE := Lib.hid ((by repeat (first | exact Blk.at (by simp) | assumption | refine Blk.drew ?_ | refine Blk.old ?_ _)) : Blk ((w1.alloc (.cells #[.slice none 0 0] 125)).alloc (.cells #[.int .i64 tb, .slice A rl ca, .slice K kl ck] 71)) w1.heap.size #[.slice none 0 0] 125)
  have HC := Lib.hid (bt HC.out hA)
  have hsz2 : w1.heap.size + 1 < ((w1.alloc (.cells #[.slice none 0 0] 125)).alloc (.cells #[.int .i64 tb, .slice A rl ca, .slice K kl ck] 71)).heap.size := by simp
  have HEX : Hid (w.heap.size ≤ w1.heap.size) := by show _ ≤ _; omega
  have he3 : ((w1.alloc (.cells #[.slice none 0 0] 125)).heap.size) = w1.heap.size + 1 := by simp
  clear hA lb b0 b1 b2 HB
  simp only [he3]
  clear he3
  generalize ((w1.alloc (.cells #[.slice none 0 0] 125)).alloc (.cells #[.int .i64 tb, .slice A rl ca, .slice K kl ck] 71)) = W0 at HX HE HC hsz2 ⊢
  have hbt : w1.heap.size < w1.heap.size + 1 := by omega
  generalize w1.heap.size + 1 = Bt at HX hsz2 hbt ⊢
  generalize w1.heap.size = bb at HE HEX hbt hsz1 ⊢
  have HN0 : Hid (w.heap.size ≤ W0.heap.size) := HC.out.size
  generalize hbx : w.heap.size = bx
  clear hbx
  gi_wp2_with fail
  refine wpIn_rangeFunc_ownH rfl (by omega) (gf := 166) (lb := #[.pointer (some ⟨Bt, 0, none⟩)]) rfl trivial (enters_of Tryd.func166 (by kernel_rfl) rfl)
    (all1_stops w _ n Bt tb A rl ca K kl ck d W0 HX.out HD.out HC.out) keepD_t (keepD_b HN0.out) (Below.refl _ _) (fun _ => rfl)
    (PtI w bb) (fun _ _ _ => False) (ptI_own HN0.out) (fun _ _ _ _ _ h _ _ => h)
    ⟨⟨.slice none 0 0, HE.out, World.ownsRow_nil _ _ _ _⟩, HC.out⟩
    (fun x a' W => ∃ (Bx : Nat) (A' : Option Addr) (ca' : Nat) (K' : Option Addr) (ck' : Nat), (bb < Bx ∧ x.1.1 = .agg #[.int .i64 x.1.2.tb, .slice A' x.1.2.row.length ca', .slice K' x.1.2.kids.length ck'] ∧ a' = { tmps := #[.agg #[.int .i64 tb, .slice A rl ca, .slice K kl ck], .pointer (some ⟨bx, 0, none⟩), .string ⟨#[]⟩, .int .i64 0, .int .i64 0, .pointer (some ⟨bb, 0, none⟩), .pointer (some ⟨Bx, 0, none⟩), undef, undef, .agg #[.int .i64 tb, .slice A rl ca, .slice K kl ck], .int .i64 0, .int .i64 0, .bool false, undef, .agg #[.int .i64 tb, .slice A rl ca, .slice K kl ck], .func (.func 166) #[] #[.pointer (some ⟨Bt, 0, none⟩)], x.1.1, undef, undef, undef, undef, undef, undef, undef, undef, undef, undef, undef, undef, undef, undef, undef, undef, undef, undef, undef, undef, undef, undef, undef, undef, undef, undef, undef, undef], defers := [] }) ∧ Blk W Bx #[.int .i64 x.1.2.tb, .slice A' x.1.2.row.length ca', .slice K' x.1.2.kids.length ck'] 71)
    (fun x a' _ X Y row hs hg hr => by obtain ⟨Bx, A', ca', K', ck', h1, h2⟩ := hs; exact ⟨Bx, A', ca', K', ck', h1, blk_own Bx (fun (_ : Unit) => #[.int .i64 x.1.2.tb, .slice A' x.1.2.row.length ca', .slice K' x.1.2.kids.length ck']) 71 () X Y row h2 hg (fun r e => (hr r e).2)⟩)
    ?assign ?body ?loopend ?stop
  case assign =>
    rintro l pre ⟨⟨xv, xd⟩, hx0⟩ W K1 hI hK
    obtain ⟨nx, hx⟩ := id hx0
    have hx : DRd nx w xv xd := hx
    obtain ⟨A', ca', K', ck', hv⟩ := hx.form
    subst hv
    have HK1 := Lib.hid hK
    have HI := Lib.hid hI
    obtain ⟨⟨v0, hE, _⟩, _⟩ := hI
    have hltE := hE.lt
    clear hK hx hE
    gi_wp2_with fail
    refine HK1.out _ _ (keepsFrom_below ((by repeat (first | exact Below.refl _ _ | assumption | refine Below.drew ?_ | refine below_drewN ?_ _ | refine Below.alloc ?_ (by simp <;> omega) _)))) (KeepD.of_below ((by repeat (first | exact Below.refl _ _ | assumption | refine Below.drew ?_ | refine below_drewN ?_ _ | refine Below.alloc ?_ (by simp <;> omega) _))) HI.out.2.size) ?_ ⟨W.heap.size, A', ca', K', ck', ⟨hltE, rfl, rfl⟩, Blk.new _ _ _⟩
    obtain ⟨⟨v1, h1, h2⟩, h3⟩ := HI.out
    exact ⟨⟨v1, h1.ext ((by repeat (first | exact Below.refl _ _ | assumption | refine Below.drew ?_ | refine below_drewN ?_ _ | refine Below.alloc ?_ (by simp <;> omega) _))), own_below h2 ((by repeat (first | exact Below.refl _ _ | assumption | refine Below.drew ?_ | refine below_drewN ?_ _ | refine Below.alloc ?_ (by simp <;> omega) _)))⟩, h3.trans (((by repeat (first | exact Below.refl _ _ | assumption | refine Below.drew ?_ | refine below_drewN ?_ _ | refine Below.alloc ?_ (by simp <;> omega) _)) : Below W.heap.size W (W.alloc (.cells #[.int .i64 xd.tb, .slice A' xd.row.length ca', .slice K' xd.kids.length ck'] 71))).mono h3.size)⟩
  case body =>
    rintro l pre ⟨⟨xv, xd⟩, hx0⟩ a' W hl ⟨r, hr⟩ ⟨⟨v0, hE, hO⟩, hB⟩ ⟨Bx, A', ca', K', ck', ⟨hBx, hv, rfl⟩, hbx2⟩ hlt
    obtain ⟨nx, hx⟩ := id hx0
    have hx : DRd nx w xv xd := hx
    have hv : xv = .agg #[.int .i64 xd.tb, .slice A' xd.row.length ca', .slice K' xd.kids.length ck'] := hv
    subst hv
    obtain ⟨nx, rfl⟩ : ∃ k, nx = k + 1 := by cases nx; exact hx.elim; exact ⟨_, rfl⟩
    obtain ⟨A2, ca2, K2, ck2, hv2, htb, hrow, hkr⟩ := hx
    simp only [Value.agg.injEq, Array.mk.injEq, List.cons.injEq, Value.slice.injEq, and_true, true_and] at hv2
    obtain ⟨⟨rfl, rfl⟩, rfl, rfl⟩ := hv2
    have HPR := Lib.hid (fun (W' : World) (hW' : Below W.heap.size W W') => putrow_any xd.row A' ca' W' (hrow.ext (hB.trans (hW'.mono hB.size))) (HT.out W' (hB.trans (hW'.mono hB.size))))
    have hkl := hkr.1
    have hgl : (gL pre).length ≤ 820 * 200 := by
      have h1 := gL_len (deL pre)
      have h2 : (deL pre).length = pre.length := by simp [deL]
      unfold gL
      omega
    have HBW := Lib.hid hB
    have HE := Lib.hid hE
    have HO := Lib.hid hO
    have HX2 := Lib.hid hbx2
    unfold putRowR at HPR
    obtain ⟨lx, x0, x1, x2⟩ := blk3 HX2.out
    clear hkr hrow hB hE hO hbx2
    gi_wp2_with fail
    refine ⟨trivial, CallsIn.inRound l (callsIn_wide.2 ((HPR.out _ (Below.refl _ _)).mono ?_))⟩
    rintro r w2 ⟨rfl, hb2⟩
    have hszW := HBW.out.size
    have HK2 : Hid (KeepD w.heap.size W w2) := KeepD.of_below hb2 hszW
    have HF2 : Hid (KeepsFrom W0.heap.size W w2) := keepsFrom_below hb2
    have HE := Lib.hid (HE.out.ext hb2)
    have HO := Lib.hid (own_below HO.out hb2)
    have HX2 := Lib.hid (HX2.out.ext hb2)
    have hszW2 : w.heap.size ≤ w2.heap.size := Nat.le_trans hszW hb2.size
    clear hb2 lx x0 x1 x2 HPR
    obtain ⟨N0, hN0⟩ : ∃ N0, N0 = (if rowB xd.row = true then putRowL xd.row else []) := ⟨_, rfl⟩
    have hN0l : N0.length ≤ 817 := by
      rw [hN0]
      split
      · next h => exact putRow_len h
      · simp
    have HN0 := Lib.hid hN0
    rw [← hN0]
    clear hN0
    obtain ⟨S0, hS0⟩ : ∃ S0 : ByteArray, S0 = ⟨N0.toArray⟩ := ⟨_, rfl⟩
    have hS0l : S0.size ≤ 817 := by rw [hS0]; simpa [ByteArray.size] using hN0l
    have HS0 := Lib.hid (show Lib.strCells S0 = N0.map byteCell by rw [hS0]; rfl)
    have HS0s := Lib.hid (show S0.size = N0.length by rw [hS0]; simp [ByteArray.size])
    rw [← hS0]
    clear hS0
    generalize okE (rowB xd.row) = e0
    obtain ⟨lx, x0, x1, x2⟩ := blk3 HX2.out
    have le := HE.out.lt
    have eE := HE.out.cell 0
    simp only [List.getElem?_toArray, List.getElem?_cons_zero] at eE
    have hA2 : Below w2.heap.size w2 (w2.alloc (.cells #[.int .u8 (IntKind.u8.wrap xd.tb)] 5)) := (by repeat (first | exact Below.refl _ _ | assumption | refine Below.drew ?_ | refine below_drewN ?_ _ | refine Below.alloc ?_ (by simp <;> omega) _))
    have HO2 := Lib.hid (own_below HO.out hA2)
    gi_wp2_with (gi_at_builtin; refine wpListIn_append_own _ rfl _ _ 125 rfl w.heap.size 5 i0 _ 1 1 Tryd.underlying125 hi0 hz0 hz1 hz2 rfl (by decide) v0 (gL pre).length ((gL pre).map byteCell) rfl HO2.out ⟨w2.heap.size, 0, none⟩ 1 1 [.int .u8 (IntKind.u8.wrap xd.tb)] rfl rfl ?k1 (by simp [Value.oneCell']) ?b1 ?b2 ?b3 ?_)
    case k1 => exact cells_blk1 (Blk.new _ _ _)
    case b1 => simp only [maxLen]; omega
    case b2 => omega
    case b3 => simp; omega
    intro v1 w3 hown1 hg1 _
    obtain ⟨A1, c1, rfl⟩ := own_form' hown1
    have HE3 := Lib.hid (blk_grown (HE.out.ext hA2) HO2.out (by decide) hg1)
    have HX3 := Lib.hid (blk_grown (HX2.out.ext hA2) HO2.out (by decide) hg1)
    have hszA : w.heap.size ≤ (w2.alloc (.cells #[.int .u8 (IntKind.u8.wrap xd.tb)] 5)).heap.size := by simp; omega
    have HK3 : Hid (KeepD w.heap.size W w3) := (HK2.out.trans (KeepD.of_below hA2 hszW2)).trans (keepD_grown HO2.out hg1 (Nat.le_refl _) hszA (by decide))
    have HF3 : Hid (KeepsFrom W0.heap.size W w3) := (HF2.out.trans (keepsFrom_below hA2)).trans (keepsFrom_grown HO2.out hg1)
    have HO3 := Lib.hid hown1
    have hsz3 : w.heap.size ≤ w3.heap.size := Nat.le_trans hszA hg1.size
    clear hown1 hg1 hA2 HK2 HF2 HE HO HX2 HO2 hszA lx x0 x1 x2 le eE
    obtain ⟨lx, x0, x1, x2⟩ := blk3 HX3.out
    gi_wp2_with (gi_at_builtin; refine wpListIn_append_str _ rfl _ _ 125 9 rfl w.heap.size 5 i0 Tryd.underlying125 Tryd.underlying9 hi0 hz0 hz1 hz2 (.slice A1 ((gL pre).length + 1) c1) ((gL pre).length + 1) _ rfl HO3.out S0 rfl ?d1 ?d2 ?d3 ?_)
    case d1 => simp only [maxLen]; omega
    case d2 => omega
    case d3 => exact hsz3
    intro v2 w4 hown2 hg2
    obtain ⟨A4, c4, rfl⟩ := own_form' hown2
    have hE4 := blk_grown HE3.out HO3.out (by decide) hg2
    have hX4 := blk_grown HX3.out HO3.out (by decide) hg2
    have HK4 : Hid (KeepD w.heap.size W w4) := HK3.out.trans (keepD_grown HO3.out hg2 (Nat.le_refl _) hsz3 (by decide))
    have HF4 : Hid (KeepsFrom W0.heap.size W w4) := HF3.out.trans (keepsFrom_grown HO3.out hg2)
    have hown2' := hown2
    have hsz4 : w.heap.size ≤ w4.heap.size := Nat.le_trans hsz3 hg2.size
    clear hown2 hg2 HK3 HF3 HE3 HO3 HX3 lx x0 x1 x2
    obtain ⟨w5, he5, lt⟩ := blk_put hE4
    subst he5
    obtain ⟨pc, pf, pS⟩ := putBlk_facts (w := w5) 125 lt
    have hbXne : Bx ≠ bb := by omega
    have hexb := HEX.out
    have HO5 := Lib.hid (own_put hown2' lt (by decide) #[.slice A4 ((gL pre).length + 1 + S0.size) c4])
    have HX5 := Lib.hid (putBlk_old hX4 hbXne #[.slice A4 ((gL pre).length + 1 + S0.size) c4])
    have HK5 : Hid (KeepD w.heap.size W (putBlk w5 bb #[.slice A4 ((gL pre).length + 1 + S0.size) c4] 125)) := HK4.out.trans (keepD_put lt hexb (by decide))
    have HF5 : Hid (KeepsFrom W0.heap.size W (putBlk w5 bb #[.slice A4 ((gL pre).length + 1 + S0.size) c4] 125)) := HF4.out.trans (keepsFrom_put lt)
    have HE5 := Lib.hid (putBlk_blk (w := w5) #[.slice A4 ((gL pre).length + 1 + S0.size) c4] 125 lt)
    have hsz5 : w.heap.size ≤ (putBlk w5 bb #[.slice A4 ((gL pre).length + 1 + S0.size) c4] 125).heap.size := by rw [putBlk_size]; rw [putBlk_size] at hsz4; exact hsz4
    clear hown2' hX4 HK4 HF4 hE4
    obtain ⟨lx, x0, x1, x2⟩ := blk3 HX5.out
    have hA5 : Below (putBlk w5 bb #[.slice A4 ((gL pre).length + 1 + S0.size) c4] 125).heap.size (putBlk w5 bb #[.slice A4 ((gL pre).length + 1 + S0.size) c4] 125) ((putBlk w5 bb #[.slice A4 ((gL pre).length + 1 + S0.size) c4] 125).alloc (.cells #[.int .u8 ((xd.kids.length : Int) % 256), .int .u8 ((xd.kids.length : Int) / 256 % 256)] 5)) := (by repeat (first | exact Below.refl _ _ | assumption | refine Below.drew ?_ | refine below_drewN ?_ _ | refine Below.alloc ?_ (by simp <;> omega) _))
    have HO6 := Lib.hid (own_below HO5.out hA5)
    have hszB : w.heap.size ≤ ((putBlk w5 bb #[.slice A4 ((gL pre).length + 1 + S0.size) c4] 125).alloc (.cells #[.int .u8 ((xd.kids.length : Int) % 256), .int .u8 ((xd.kids.length : Int) / 256 % 256)] 5)).heap.size := by rw [World.size_alloc]; omega
    gi_wp2_with (gi_at_builtin; refine wpListIn_append_own _ rfl _ _ 125 rfl w.heap.size 5 i0 _ 1 1 Tryd.underlying125 hi0 hz0 hz1 hz2 rfl (by decide) (.slice A4 ((gL pre).length + 1 + S0.size) c4) ((gL pre).length + 1 + S0.size) _ rfl HO6.out ⟨_, 0, none⟩ 2 2 [.int .u8 ((xd.kids.length : Int) % 256), .int .u8 ((xd.kids.length : Int) / 256 % 256)] rfl rfl ?e1 (by simp [Value.oneCell']) ?e2 ?e3 ?e4 ?_)
    case e1 => exact cells_new2 _ _ _ _
    case e2 => simp only [maxLen]; omega
    case e3 => omega
    case e4 => exact hszB
    intro v3 w6 hown3 hg3 _
    obtain ⟨A6, c6, rfl⟩ := own_form' hown3
    have hE6 := blk_grown (HE5.out.ext hA5) HO6.out (by decide) hg3
    have HK6 : Hid (KeepD w.heap.size W w6) := (HK5.out.trans (KeepD.of_below hA5 hsz5)).trans (keepD_grown HO6.out hg3 (Nat.le_refl _) hszB (by decide))
    have HF6 : Hid (KeepsFrom W0.heap.size W w6) := (HF5.out.trans (keepsFrom_below hA5)).trans (keepsFrom_grown HO6.out hg3)
    have HCE := Lib.hid (show (gL (pre ++ [⟨(.agg #[.int .i64 xd.tb, .slice A' xd.row.length ca', .slice K' xd.kids.length ck'], xd), hx0⟩])).map byteCell = (gL pre).map byteCell ++ [.int .u8 (IntKind.u8.wrap xd.tb)] ++ Lib.strCells S0 ++ [.int .u8 ((xd.kids.length : Int) % 256), .int .u8 ((xd.kids.length : Int) / 256 % 256)] by
      unfold gL deL
      rw [List.map_append, List.flatMap_append, List.map_append]
      simp only [List.map_cons, List.map_nil, List.flatMap_cons, List.flatMap_nil, List.append_nil]
      rw [nodeG_cells xd N0 HN0.out, HS0.out, List.append_assoc, List.append_assoc, List.append_assoc]
      rfl)
    have hlen3 := congrArg List.length HCE.out
    rw [List.length_map] at hlen3
    simp only [List.length_append, List.length_map, List.length_cons, List.length_nil, Lib.strCells_length, Nat.zero_add] at hlen3
    have hown4 : w6.ownsRow w.heap.size 5 1 (.slice A6 ((gL pre).length + 1 + S0.size + 2) c6) (gL (pre ++ [⟨(.agg #[.int .i64 xd.tb, .slice A' xd.row.length ca', .slice K' xd.kids.length ck'], xd), hx0⟩])).length ((gL (pre ++ [⟨(.agg #[.int .i64 xd.tb, .slice A' xd.row.length ca', .slice K' xd.kids.length ck'], xd), hx0⟩])).map byteCell) := by
      rw [hlen3, HCE.out]
      simpa only [List.append_assoc, List.singleton_append, List.cons_append, List.nil_append] using hown3
    clear hlen3 hown3 hg3 HCE HK5 HF5 HE5 HO5 HO6 HX5 hA5 lx x0 x1 x2 pc pf pS lt hszB hsz5 hsz4
    obtain ⟨w7, he7, lt⟩ := blk_put hE6
    clear hE6
    subst he7
    obtain ⟨pc, pf, pS⟩ := putBlk_facts (w := w7) 125 lt
    have HFIN := Lib.hid (show KeepsFrom W0.heap.size W (putBlk w7 bb #[.slice A6 ((gL pre).length + 1 + S0.size + 2) c6] 125) ∧ KeepD w.heap.size W (putBlk w7 bb #[.slice A6 ((gL pre).length + 1 + S0.size + 2) c6] 125) ∧ PtI w bb (pre ++ [⟨(.agg #[.int .i64 xd.tb, .slice A' xd.row.length ca', .slice K' xd.kids.length ck'], xd), hx0⟩]) (putBlk w7 bb #[.slice A6 ((gL pre).length + 1 + S0.size + 2) c6] 125) from
      ⟨HF6.out.trans (keepsFrom_put lt), HK6.out.trans (keepD_put lt hexb (by decide)), ⟨_, putBlk_blk _ _ lt, own_put hown4 lt (by decide) _⟩, HBW.out.trans (HK6.out.trans (keepD_put lt hexb (by decide))).1⟩)
    clear hown4
    gi_wp2_with fail
    exact HFIN.out
  case loopend =>
    rintro D ys W hD hys ⟨⟨v, hE, hO⟩, hB⟩ hK
    have hg : gL ys = putD d := by unfold gL; rw [hys]; exact HGF.out
    obtain ⟨A9, c9, rfl⟩ := own_form' hO
    have hcv := conv_own (gL ys) hO
    clear hO
    generalize (gL ys).length = m at hcv hE
    rw [hg] at hcv
    have he := hE.cell 0
    have le := hE.lt
    simp only [List.getElem?_toArray, List.getElem?_cons_zero] at he
    have HD2 := Lib.hid hD
    have HB2 := Lib.hid hB
    have HKD := Lib.hid hK
    clear hE hB hD hK hys hg
    gi_wp2_with fail
    refine ⟨by simp, .inl ⟨_, _, rfl, run_takeDeferred HKD.out, ?_⟩⟩
    refine ⟨.tuple #[.string ⟨(putD d).toArray⟩, .int .i64 0], ?_, rfl, HB2.out.trans (belowK_b (w := w) (Nat.le_refl _) _ D _ _ (by have := HN0.out; have := HD2.out; omega) HKD.out rfl rfl)⟩
    simp [results, Tryd.results45, go_sem]
  case stop =>
    rintro D c pre W _ _ h _
    exact h.elim
end Go.Proofs.YtjdfodmialhakaaDoor
