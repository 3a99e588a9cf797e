/- Several texts in one: see each part's head. -/
import Derived.Test.YtkfhfegogmlchaaDoorJ24
/- The buffer, in general: Peek. -/
namespace Go.Proofs.YtkfhfegogmlchaaDoor
open Go.RowKit

theorem MapL.at {w : World} {M : Nat} {ev : List (Int × Value)} (h : MapL w M ev) {k : Int} {v : Value} (hk : (k, v) ∈ ev) (hb : -9223372036854775808 ≤ k ∧ k ≤ 9223372036854775807) :
    (Instr.lookup 92 (.map (some M)) (.int .i64 k) false).run Tryd.prog w = .ok v w := by
  obtain ⟨u, ps, hrun, hu⟩ := World.ownsMap.lookup h.1 (Maps.int_keyed Tryd.underlying3) Tryd.underlying92 (zero_ev w) (zd := .held ZE) (zp := []) rfl (keyI k hb)
  unfold RV at hu
  rw [mapD_at k v _ ev h.2 hk] at hu
  simp only [Option.some.injEq, Prod.mk.injEq, DataW.held.injEq] at hu
  rw [hu.1] at hrun
  exact hrun
theorem cells_newE (w : World) (cs : Array Value) (t : TypeId) : ∀ j u, cs.toList[j]? = some u → (w.alloc (.cells cs t)).cell? ((⟨w.heap.size, 0, none⟩ : Addr).add j) = some u := by
  intro j u hu
  have h := (Blk.new w cs t).cell j
  rw [Array.getElem?_toList] at hu
  rw [hu] at h
  cases j with
  | zero => exact h
  | succ j => simpa [Addr.add] using h
/-- An event of a row of the call's own. -/
structure Pk where
  e : Ev
  A : Option Addr
  c : Nat
  A2 : Option Addr
  c2 : Nat
def Pk.cells (p : Pk) : List Value := [.int .u64 p.e.tx, .int .i64 p.e.tot, .int .i64 p.e.nth, .int .u8 p.e.k, .int .i64 p.e.tb, .slice p.A p.e.bf.length p.c, .slice p.A2 p.e.af.length p.c2]
def pkCells (l : List Pk) : List Value := l.flatMap Pk.cells
def Pk.ok (w : World) (p : Pk) : Prop := RowR w p.A p.c p.e.bf ∧ RowR w p.A2 p.c2 p.e.af
def PkR (lo : Nat) (w : World) (v : Value) (l : List Pk) : Prop := w.ownsRow lo 59 7 v l.length (pkCells l) ∧ ∀ p ∈ l, p.ok w
theorem PkR.ext {lo : Nat} {w w' : World} {v : Value} {l : List Pk} (h : PkR lo w v l) (hb : Below w.heap.size w w') : PkR lo w' v l := ⟨own_below h.1 hb, fun p hp => ⟨(h.2 p hp).1.ext hb, (h.2 p hp).2.ext hb⟩⟩
theorem pkCells_snoc (l : List Pk) (p : Pk) : pkCells (l ++ [p]) = pkCells l ++ p.cells := by simp [pkCells]
theorem info_Ev1 : (Tryd.prog.info? 59).map (fun i => (i.zero, i.size, i.bytes)) = some (some (.agg #[.int .u64 0, .int .i64 0, .int .i64 0, .int .u8 0, .int .i64 0, .slice none 0 0, .slice none 0 0]), 7, 88) := by kernel_rfl
/-- The transaction is whole. -/
structure Whole (t : Tb) (f : Fi) : Prop where
  fin : t.fin = some f
  len : (t.es.length : Int) = f.cnt.sum
  all : ∀ k : Nat, (k : Int) < f.cnt.sum → ∃ e v, (e, v) ∈ t.es ∧ e.tot = k
  cn : f.cnt ≠ []
  sn : f.sq ≠ []
  sl : f.sq.length ≤ 1000
theorem RowR.grown {w w' : World} {A : Option Addr} {c : Nat} {l : List V} {b2 e2 s2 n2 : Nat} {v2 : Value} {x2 : List Value} (h : RowR w A c l) (ho : w.ownsRow b2 e2 s2 v2 n2 x2) (hne : 97 ≠ e2) (hg : w.grownBy w' v2.ownBlock) : RowR w' A c l := by
  obtain ⟨⟨b, h1⟩, h2⟩ := h
  exact ⟨⟨b, own_grown h1 hg (own_far h1 ho hne)⟩, h2⟩
def PeekG (t : Tb) (f : Fi) (w : World) (r : Ending) (w' : World) : Prop :=
  Below w.heap.size w w' ∧ ∃ v ps g1 c1 g2 c2, r = .returned (.tuple #[.agg #[.int .u8 2, .int .u64 t.n, .slice (some ⟨g1, 0, none⟩) f.cnt.length c1, .slice (some ⟨g2, 0, none⟩) f.sq.length c2], v, .int .i64 0]) ∧ PkR w.heap.size w' v ps ∧ (ps.length : Int) = f.cnt.sum ∧ ∀ (k : Nat) p, ps[k]? = some p → p.e.tot = k ∧ ∃ u, (p.e, u) ∈ t.es
set_option maxRecDepth 100000 in
set_option maxHeartbeats 3200000 in
set_option linter.unusedSimpArgs false in
theorem peek_gen (B nt : Nat) (bd nx : Int) (has : Bool) (t : Tb) (f : Fi) (l : List Tb) (w : World) (h : BuR B nt bd nx has 0 (t :: l) w) (hw : Whole t f) :
    Calls Tryd.prog 12 #[.pointer (some ⟨B, 0, none⟩)] w (PeekG t f w) := by
  obtain ⟨i3, hi3, hy0, hy1, hy2⟩ := info_parts info_Ev1
  have hHF := hw.fin
  obtain ⟨v0, hb0, A0, c0, rfl, hp0, _⟩ := h.b
  obtain ⟨g, off, rfl, _, lg, hcell⟩ := hp0 (by simp)
  have hrow : w.cell? ⟨g, off, none⟩ = some (.pointer (some ⟨t.X, 0, none⟩)) := hcell 0 t.X (by simp)
  obtain ⟨n, hn, hn1⟩ : ∃ n, n = (t :: l).length ∧ 0 < n := ⟨_, rfl, by simp⟩
  rw [List.length_map, ← hn] at hb0
  have hn2 : (0 : Int) < n := by omega
  have hFI := (h.t t (by simp)).f f hHF
  have hcb := hFI.2.2.2.1
  have hcl := hFI.2.2.2.2
  have hsum := sumF_le (h.t t (by simp))
  rw [hHF] at hsum
  simp only [sumF] at hsum
  have HTT := Lib.hid (fun (W : World) (hW : Below w.heap.size w W) => (h.ext hW).t t (by simp))
  have HRD := Lib.hid (fun (W : World) (hW : Below w.heap.size w W) => ready_any B nt bd nx 0 has (t :: l) W (h.ext hW))
  have hrd : readyL (t :: l) = true := by simp [readyL, hHF, hw.len]
  rw [hrd] at HRD
  have HFT := Lib.hid (fun (W : World) (hW : Below w.heap.size w W) => fault_ok B n c0 (some ⟨g, off, none⟩) nt bd nx 0 has W (hb0.ext hW))
  have HBB := Lib.hid hb0
  have HRW := Lib.hid hrow
  have HW := Lib.hid hw
  have HCB := Lib.hid hcb
  clear h hw hb0 hp0 hcell hFI hrd hcb hrow hn
  go_enter Tryd.func12, Tryd.ntmps12
  go_upto_region 1 with fail
  have h1 : Blk (w.alloc (.cells #[.int .u8 0, .int .u64 0, .slice none 0 0, .slice none 0 0] 50)) w.heap.size #[.int .u8 0, .int .u64 0, .slice none 0 0, .slice none 0 0] 50 := Blk.new w _ _
  have hC : Below w.heap.size w (w.alloc (.cells #[.int .u8 0, .int .u64 0, .slice none 0 0, .slice none 0 0] 50)) := (by repeat (first | exact Below.refl _ _ | assumption | refine Below.drew ?_ | refine below_drewN ?_ _ | refine Below.alloc ?_ (by simp <;> omega) _))
  have HMB := Lib.hid h1
  have HC := Lib.hid hC
  have hs0 : w.heap.size ≤ (w.alloc (.cells #[.int .u8 0, .int .u64 0, .slice none 0 0, .slice none 0 0] 50)).heap.size := hC.size
  clear h1 hC
  generalize w.alloc (.cells #[.int .u8 0, .int .u64 0, .slice none 0 0, .slice none 0 0] 50) = W0 at HMB HC hs0 ⊢
  obtain ⟨lo, hlo⟩ : ∃ lo, lo = w.heap.size := ⟨_, rfl⟩
  have HLO := Lib.hid hlo
  rw [← hlo] at HTT HRD HFT HMB HC hs0 ⊢
  generalize hmb : lo = mb at HMB ⊢
  have HMBE := Lib.hid hmb
  clear hmb hlo
  go_wp2_with fail
  refine (HFT.out W0 HC.out).mono ?_
  rintro r w1 ⟨rfl, rfl⟩
  go_wp2_with fail
  refine (HRD.out W0 HC.out).mono ?_
  rintro r w1 ⟨rfl, hb⟩
  have HMB := Lib.hid (HMB.out.ext hb)
  have HC : Hid (Below lo w w1) := HC.out.trans (hb.mono hs0)
  have hs1 : lo ≤ w1.heap.size := Nat.le_trans hs0 hb.size
  clear hb HRD HFT
  have hBk := HBB.out.ext (by rw [← HLO.out]; exact HC.out)
  have hT := HTT.out w1 HC.out
  have b4 := hBk.cell 4
  have lB := hBk.lt
  have cr := ((show Below w.heap.size w w1 by rw [← HLO.out]; exact HC.out).cell (p := ⟨g, off, none⟩) lg).trans HRW.out
  have lG := cell_lt cr
  have hSZ := hT.size HW.out.fin
  simp only [List.getElem?_toArray, List.getElem?_cons_zero, List.getElem?_cons_succ] at b4
  clear hBk hT
  go_wp2_with fail
  refine hSZ.mono ?_
  rintro r w2 ⟨rfl, rfl⟩
  clear hSZ b4 lB cr lG
  obtain ⟨m, hm⟩ : ∃ m : Nat, (m : Int) = f.cnt.sum := ⟨f.cnt.sum.toNat, by omega⟩
  have HM := Lib.hid hm
  rw [← hm] at hsum ⊢
  clear hm
  go_wp2_with fail
  go_loopw [3, 27] (fun rs i wr => ∃ (j : Nat) (ps : List Pk) (u : Value), j ≤ m ∧ u = rs ∧ i = .int .i64 j ∧ ps.length = j ∧ Hid (PkR lo wr u ps) ∧ Hid (∀ (k : Nat) p, ps[k]? = some p → p.e.tot = k ∧ ∃ u, (p.e, u) ∈ t.es) ∧ Hid (Blk wr mb #[.int .u8 0, .int .u64 0, .slice none 0 0, .slice none 0 0] 50) ∧ Hid (Below lo w wr) ∧ lo ≤ wr.heap.size) (fun _ i _ => m - (intOf i).toNat)
  case atStart => exact ⟨0, [], _, by omega, rfl, rfl, rfl, ⟨World.ownsRow_nil _ _ _ _, fun p hp => by cases hp⟩, (fun k p hp => by cases hp), HMB.out, HC.out, hs1⟩
  case round =>
    clear HMB HC hs0 hs1
    obtain ⟨j, ps, rs, hj, rfl, rfl, hjl, HP, HA, HMB, HC, hs⟩ := hrel
    by_cases hlt : j < m
    · have hlt' : (j : Int) < m := by omega
      obtain ⟨⟨tx, tot, nth, kd, tb, bf, af⟩, v, hev, hek⟩ := HW.out.all j (by rw [← HM.out]; exact hlt')
      simp only at hek
      subst hek
      have hT := HTT.out wr HC.out
      obtain ⟨A, c, A2, c2, hv, hr1, hr2⟩ := hT.e _ hev
      simp only at hv hr1 hr2
      subst hv
      have hlk := hT.m.at (k := (j : Int)) (v := .agg #[.int .u64 tx, .int .i64 j, .int .i64 nth, .int .u8 kd, .int .i64 tb, .slice A bf.length c, .slice A2 af.length c2]) (List.mem_map.2 ⟨_, hev, rfl⟩) (by omega)
      have x3 := hT.x.cell 3
      have lX := hT.x.lt
      simp only [List.getElem?_toArray, List.getElem?_cons_zero, List.getElem?_cons_succ] at x3
      have HEV := Lib.hid hev
      clear hev hT
      go_upto_region 11 with fail
      have hE : Blk (wr.alloc (.cells #[.int .u64 tx, .int .i64 j, .int .i64 nth, .int .u8 kd, .int .i64 tb, .slice A bf.length c, .slice A2 af.length c2] 59)) wr.heap.size #[.int .u64 tx, .int .i64 j, .int .i64 nth, .int .u8 kd, .int .i64 tb, .slice A bf.length c, .slice A2 af.length c2] 59 := Blk.new _ _ _
      have hCE : Below wr.heap.size wr (wr.alloc (.cells #[.int .u64 tx, .int .i64 j, .int .i64 nth, .int .u8 kd, .int .i64 tb, .slice A bf.length c, .slice A2 af.length c2] 59)) := (by repeat (first | exact Below.refl _ _ | assumption | refine Below.drew ?_ | refine below_drewN ?_ _ | refine Below.alloc ?_ (by simp <;> omega) _))
      have HE := Lib.hid hE
      have HR1 := Lib.hid (hr1.ext hCE)
      have HR2 := Lib.hid (hr2.ext hCE)
      have HP0 := HP
      have HP := Lib.hid (HP0.out.ext hCE)
      have HMB := Lib.hid (HMB.out.ext hCE)
      have HC : Hid (Below lo w (wr.alloc (.cells #[.int .u64 tx, .int .i64 j, .int .i64 nth, .int .u8 kd, .int .i64 tb, .slice A bf.length c, .slice A2 af.length c2] 59))) := HC.out.trans (hCE.mono hs)
      clear hE hCE x3 lX hlk hr1 hr2
      have hp : lo ≤ wr.heap.size := hs
      have hne : ∀ g, rs.ownBlock = some g → g < wr.heap.size := fun g hg => (HP0.out.1.lt g hg).2
      generalize wr.alloc (.cells #[.int .u64 tx, .int .i64 j, .int .i64 nth, .int .u8 kd, .int .i64 tb, .slice A bf.length c, .slice A2 af.length c2] 59) = W1 at HE HR1 HR2 HP HMB HC ⊢
      clear HP0
      generalize wr.heap.size = p at HE hp hne ⊢
      have hs1 : lo ≤ W1.heap.size := by have := HE.out.lt; omega
      have HC1 := Lib.hid (fun (W : World) (hW : Below W1.heap.size W1 W) => cloneR_val bf A c W (HR1.out.vrow.ext hW) HR1.out.2.2.2 HR1.out.2.1)
      have HC2 := Lib.hid (fun (W : World) (hW : Below W1.heap.size W1 W) => cloneR_val af A2 c2 W (HR2.out.vrow.ext hW) HR2.out.2.2.2 HR2.out.2.1)
      refine region_tail 10 [false, false, false, false, false, false, false, false, false, false, false, false, false, false, false, false, false, false, false, false, false, false, false, false, false, false, false, false, false, false, false, false, false, false, false, false, true, true, true, true, true, true, true, true, true, true, false, false, false, false, false, false, false, false, false, false, false, false, false, false, false, false, false, false, false, false, false, false, false] [36, 37, 38, 39, 40, 41, 42, 43, 44, 45] [.val (.pointer (some ⟨p, 3, none⟩)), .val (.pointer (some ⟨p, 5, none⟩)), .val (.slice A bf.length c), wClv bf, .val (.pointer (some ⟨p, 3, none⟩)), .val (.pointer (some ⟨p, 6, none⟩)), .val (.slice A2 af.length c2), wClv af, .val (.pointer (some ⟨p, 3, none⟩)), .val (.pointer (some ⟨p, 5, none⟩))] [3, 7, 9] (by kernel_rfl) (by decide) (by kernel_rfl) (by kernel_rfl) (by kernel_rfl) (by kernel_rfl) (by kernel_rfl) (by kernel_rfl) ⟨?_, ?_, ?_, ?_, ?_, ?_, ?_, ?_, ?_, ?_, trivial⟩ ?done
      case done =>
        intro x w5 hb5
        simp only [StepGoal, List.getD_cons_zero, List.getD_cons_succ]
        rintro _ ⟨A3, c3, b3, rfl, ho3, hz3⟩ _ ⟨A4, c4, b4, rfl, ho4, hz4⟩
        have hPk := HE.out.ext hb5
        have hBel : Below lo w w5 := HC.out.trans (hb5.mono hs1)
        have hR3 : RowR w5 A3 c3 bf := ⟨⟨b3, ho3⟩, hz3, HR1.out.2.2⟩
        have hR4 : RowR w5 A4 c4 af := ⟨⟨b4, ho4⟩, hz4, HR2.out.2.2⟩
        have hP5 := HP.out.ext hb5
        have hM5 := HMB.out.ext hb5
        clear hb5 HC1 HC2 HE HC ho3 ho4 HP HMB HR1 HR2
        obtain ⟨w6, rfl, lt⟩ := blk_put hPk
        have hg := put_grown w6 p #[.int .u64 tx, .int .i64 j, .int .i64 nth, .int .u8 kd, .int .i64 tb, .slice A bf.length c, .slice A2 af.length c2] #[.int .u64 tx, .int .i64 j, .int .i64 nth, .int .u8 kd, .int .i64 tb, .slice A3 bf.length c3, .slice A4 af.length c4] 59
        have HR3 := Lib.hid (hR3.keep hg (NoT.blk hPk (by decide)))
        have HR4 := Lib.hid (hR4.keep hg (NoT.blk hPk (by decide)))
        have HP : Hid (PkR lo (putBlk w6 p #[.int .u64 tx, .int .i64 j, .int .i64 nth, .int .u8 kd, .int .i64 tb, .slice A3 bf.length c3, .slice A4 af.length c4] 59) rs ps) := ⟨own_grown hP5.1 hg (Or.inr fun e => Nat.lt_irrefl _ (hne p e)), fun q hq => ⟨(hP5.2 q hq).1.keep hg (NoT.blk hPk (by decide)), (hP5.2 q hq).2.keep hg (NoT.blk hPk (by decide))⟩⟩
        have HMB := Lib.hid (blk_keep hM5 hg (NoT.blk hPk (by decide)))
        have HC := Lib.hid (putBlk_belows hBel hp #[.int .u64 tx, .int .i64 j, .int .i64 nth, .int .u8 kd, .int .i64 tb, .slice A3 bf.length c3, .slice A4 af.length c4])
        obtain ⟨pc, pf, pS⟩ := putBlk_facts (w := w6) 59 lt
        clear hPk hBel hR3 hR4 hP5 hM5 hg
        intro K1 hK1
        rw [if_pos (by rfl)]; simp only [overlay, upd, cond_true, cond_false, Nat.reduceEqDiff, reduceIte]
        go_simp
        refine hK1.out _ _ ?_
        intro K2 hK2
        rw [if_pos (by rfl)]
        go_simp
        refine hK2.out _ _ ?_
        intro K3 hK3
        rw [if_pos (by rfl)]
        go_simp
        refine hK3.out _ _ ?_
        intro K4 hK4
        rw [if_pos (by rfl)]
        go_simp
        refine hK4.out _ _ (TailB.nil ?_)
        have hs6 : lo ≤ (putBlk w6 p #[.int .u64 tx, .int .i64 j, .int .i64 nth, .int .u8 kd, .int .i64 tb, .slice A3 bf.length c3, .slice A4 af.length c4] 59).heap.size := by rw [putBlk_size]; omega
        go_wp2_with (at_builtin; refine wpList_append_own _ rfl _ _ 51 rfl lo 59 i3 _ 7 88 Tryd.underlying51 hi3 hy0 hy1 hy2 rfl (by decide) rs ps.length (pkCells ps) rfl (own_below HP.out.1 (by repeat (first | exact Below.refl _ _ | assumption | refine Below.drew ?_ | refine below_drewN ?_ _ | refine Below.alloc ?_ (by simp <;> omega) _))) ⟨_, 0, none⟩ 1 1 [.int .u64 tx, .int .i64 j, .int .i64 nth, .int .u8 kd, .int .i64 tb, .slice A3 bf.length c3, .slice A4 af.length c4] rfl rfl ?k1 (by simp [Value.oneCell']) (by simp only [maxLen]; omega) (by omega) (by simp; omega) ?_)
        case k1 => exact cells_newE _ _ _
        intro v' w2 hown hg _
        have hba : Below (putBlk w6 p #[.int .u64 tx, .int .i64 j, .int .i64 nth, .int .u8 kd, .int .i64 tb, .slice A3 bf.length c3, .slice A4 af.length c4] 59).heap.size (putBlk w6 p #[.int .u64 tx, .int .i64 j, .int .i64 nth, .int .u8 kd, .int .i64 tb, .slice A3 bf.length c3, .slice A4 af.length c4] 59) ((putBlk w6 p #[.int .u64 tx, .int .i64 j, .int .i64 nth, .int .u8 kd, .int .i64 tb, .slice A3 bf.length c3, .slice A4 af.length c4] 59).alloc (.cells #[.int .u64 tx, .int .i64 j, .int .i64 nth, .int .u8 kd, .int .i64 tb, .slice A3 bf.length c3, .slice A4 af.length c4] 59)) := (by repeat (first | exact Below.refl _ _ | assumption | refine Below.drew ?_ | refine below_drewN ?_ _ | refine Below.alloc ?_ (by simp <;> omega) _))
        have hPa := HP.out.ext hba
        have k1 : PkR lo w2 v' (ps ++ [⟨⟨tx, j, nth, kd, tb, bf, af⟩, A3, c3, A4, c4⟩]) := by
          refine ⟨by rw [pkCells_snoc]; simpa [Pk.cells, hjl] using hown, fun q hq => ?_⟩
          rcases List.mem_append.1 hq with hq | hq
          · exact ⟨(hPa.2 q hq).1.grown hPa.1 (by decide) hg, (hPa.2 q hq).2.grown hPa.1 (by decide) hg⟩
          · obtain rfl := List.mem_singleton.1 hq
            exact ⟨(HR3.out.ext hba).grown hPa.1 (by decide) hg, (HR4.out.ext hba).grown hPa.1 (by decide) hg⟩
        have K1 := Lib.hid k1
        have K2 := Lib.hid ((HMB.out.ext hba).grown hPa.1 (by decide) hg)
        have K3 : Hid (Below lo w w2) := (HC.out.trans (hba.mono hs6)).grown hg (by simp; omega) (own_ge hPa.1)
        have K4 : Hid (∀ (k : Nat) p, (ps ++ [(⟨⟨tx, j, nth, kd, tb, bf, af⟩, A3, c3, A4, c4⟩ : Pk)])[k]? = some p → p.e.tot = (k : Int) ∧ ∃ u, (p.e, u) ∈ t.es) := fun k q hq => by
          rw [List.getElem?_append] at hq
          split at hq
          · exact HA.out k q hq
          · next hk =>
            have hk0 : k = ps.length := by
              have := (List.getElem?_eq_some_iff.1 hq).1
              simp at this
              omega
            subst hk0
            have : (⟨⟨tx, j, nth, kd, tb, bf, af⟩, A3, c3, A4, c4⟩ : Pk) = q := by simpa using hq
            subst this
            exact ⟨by show (j : Int) = ((ps.length : Nat) : Int); rw [hjl], _, HEV.out⟩
        have hs2 : lo ≤ w2.heap.size := by have := hg.size; simp at this; omega
        clear hown hg hba hPa k1 HR3 HR4 HP HMB HC pc pf pS HEV HA
        have hwj : IntKind.i64.wrap ((j : Int) + 1) = (j : Int) + 1 := IntWalk.i64_in _ (by omega)
        go_wp2_with fail
        go_roundw
        case rel => exact ⟨j + 1, _, _, by omega, rfl, by go_num, by simp [hjl], K1.out, K4.out, K2.out, K3.out, hs2⟩
        case measure => simp [intOf]; omega
      all_goals
        intro x w5 hb5
        have hP := HE.out.ext hb5
        have p5 := hP.cell 5
        have p6 := hP.cell 6
        have lP := hP.lt
        simp only [List.getElem?_toArray, List.getElem?_cons_zero, List.getElem?_cons_succ] at p5 p6
        clear hP
        simp only [StepGoal, List.getD_cons_zero, List.getD_cons_succ]
        first
          | (intro K hK
             rw [if_pos (by rfl)]; simp only [overlay, upd, cond_true, cond_false, Nat.reduceEqDiff, reduceIte]
             go_simp
             first
               | exact hK.out _ _ (Below.refl _ _) rfl
               | ((with_reducible refine (HC1.out _ hb5).mono ?_); rintro e wa ⟨hba, A3, c3, rfl, ho3, hz3⟩; go_wp2_with fail; exact hK.out _ _ hba ⟨A3, c3, _, rfl, ho3, hz3⟩))
          | (rintro _ ⟨A0, c0, b0, rfl, _, _⟩
             intro K hK
             rw [if_pos (by rfl)]; simp only [overlay, upd, cond_true, cond_false, Nat.reduceEqDiff, reduceIte]
             go_simp
             first
               | exact hK.out _ _ (Below.refl _ _) rfl
               | ((with_reducible refine (HC2.out _ hb5).mono ?_); rintro e wa ⟨hba, A3, c3, rfl, ho3, hz3⟩; go_wp2_with fail; exact hK.out _ _ hba ⟨A3, c3, _, rfl, ho3, hz3⟩))
          | (rintro _ ⟨A0, c0, b0, rfl, _, _⟩ _ ⟨A7, c7, b7, rfl, _, _⟩
             intro K hK
             rw [if_pos (by rfl)]; simp only [overlay, upd, cond_true, cond_false, Nat.reduceEqDiff, reduceIte]
             go_simp
             exact hK.out _ _ (Below.refl _ _) rfl)
    · have hjm : j = m := by omega
      have hT := HTT.out wr HC.out
      have hx := hT.x
      rw [HW.out.fin] at hx
      obtain ⟨hE, ⟨b1, ho1⟩, ⟨b2, ho2⟩, _⟩ := hT.f f HW.out.fin
      have hMk := HMB.out
      have hP := HP.out
      have hCC := HC.out
      have hmb : lo ≤ mb := Nat.le_of_eq HMBE.out
      have hnlt : ¬ (j : Int) < m := by omega
      have hN2 := HW.out
      have HJM : Hid ((ps.length : Int) = f.cnt.sum) := by
        show (ps.length : Int) = _
        rw [← HM.out, hjl, hjm]
      clear HP HMB HC HTT hjm
      obtain ⟨w8, rfl, lt⟩ := blk_put hMk
      have hg := put_grown w8 mb #[.int .u8 0, .int .u64 0, .slice none 0 0, .slice none 0 0] #[.int .u8 2, .int .u64 t.n, .slice (some ⟨f.gc, 0, none⟩) f.cnt.length f.cc, .slice (some ⟨f.gs, 0, none⟩) f.sq.length f.sc] 50
      have HO1 := Lib.hid (own_keep ho1 hg (NoT.blk hMk (by decide)))
      have HO2 := Lib.hid (own_keep ho2 hg (NoT.blk hMk (by decide)))
      have HP : Hid (PkR lo (putBlk w8 mb #[.int .u8 2, .int .u64 t.n, .slice (some ⟨f.gc, 0, none⟩) f.cnt.length f.cc, .slice (some ⟨f.gs, 0, none⟩) f.sq.length f.sc] 50) rs ps) := ⟨own_keep hP.1 hg (NoT.blk hMk (by decide)), fun q hq => ⟨(hP.2 q hq).1.keep hg (NoT.blk hMk (by decide)), (hP.2 q hq).2.keep hg (NoT.blk hMk (by decide))⟩⟩
      have HC := Lib.hid (putBlk_belows hCC hmb #[.int .u8 2, .int .u64 t.n, .slice (some ⟨f.gc, 0, none⟩) f.cnt.length f.cc, .slice (some ⟨f.gs, 0, none⟩) f.sq.length f.sc])
      have HMB := Lib.hid (putBlk_blk (w := w8) #[.int .u8 2, .int .u64 t.n, .slice (some ⟨f.gc, 0, none⟩) f.cnt.length f.cc, .slice (some ⟨f.gs, 0, none⟩) f.sq.length f.sc] 50 lt)
      have hs9 : lo ≤ (putBlk w8 mb #[.int .u8 2, .int .u64 t.n, .slice (some ⟨f.gc, 0, none⟩) f.cnt.length f.cc, .slice (some ⟨f.gs, 0, none⟩) f.sq.length f.sc] 50).heap.size := by rw [putBlk_size] at hs ⊢; exact hs
      have x1 := hx.cell 1
      have lX := hx.lt
      have e0 := hE.cell 0
      have e1 := hE.cell 1
      have e2 := hE.cell 2
      have e3 := hE.cell 3
      have lE := hE.lt
      obtain ⟨pc, pf, pS⟩ := putBlk_facts (w := w8) 50 lt
      simp only [List.getElem?_toArray, List.getElem?_cons_zero, List.getElem?_cons_succ, endV] at x1 e0 e1 e2 e3
      clear hx hE hMk hP hCC hg ho1 ho2 hT hs
      go_upto_region 15 with fail
      clear x1 lX e0 e1 e2 e3 lE pc pf pS lt
      generalize putBlk w8 mb #[.int .u8 2, .int .u64 t.n, .slice (some ⟨f.gc, 0, none⟩) f.cnt.length f.cc, .slice (some ⟨f.gs, 0, none⟩) f.sq.length f.sc] 50 = W3 at HO1 HO2 HC HMB HP hs9 ⊢
      have HC1 := Lib.hid (fun (W : World) (hW : Below W3.heap.size W3 W) => cloneN_int f.cnt (some ⟨f.gc, 0, none⟩) f.cc W (NRow.of_own (by omega) (own_below HO1.out hW)).1 HW.out.cn (by omega))
      have HC2 := Lib.hid (fun (W : World) (hW : Below W3.heap.size W3 W) => cloneN_uint f.sq (some ⟨f.gs, 0, none⟩) f.sc W (NRow.of_own (by have := HW.out.sl; omega) (own_below HO2.out hW)).1 HW.out.sn HW.out.sl)
      refine region_tail 7 [false, false, false, false, false, false, false, false, false, false, false, false, false, false, false, false, false, false, false, false, false, false, false, false, false, false, false, false, false, false, false, false, false, false, false, false, false, false, false, false, false, false, false, false, false, false, false, false, false, false, false, false, false, false, false, false, false, false, false, true, true, true, true, true, true, true, false, false, false] [59, 60, 61, 62, 63, 64, 65] [.val (.pointer (some ⟨mb, 2, none⟩)), .val (.slice (some ⟨f.gc, 0, none⟩) f.cnt.length f.cc), wCl lo .i64 3 f.cnt, .val (.pointer (some ⟨mb, 3, none⟩)), .val (.slice (some ⟨f.gs, 0, none⟩) f.sq.length f.sc), wCl lo .u64 29 f.sq, .val (.pointer (some ⟨mb, 2, none⟩))] [2, 5, 6] (by kernel_rfl) (by decide) (by kernel_rfl) (by kernel_rfl) (by kernel_rfl) (by kernel_rfl) (by kernel_rfl) (by kernel_rfl) ⟨?_, ?_, ?_, ?_, ?_, ?_, ?_, trivial⟩ ?done
      case done =>
        intro x w9 hb9
        simp only [StepGoal, List.getD_cons_zero, List.getD_cons_succ]
        rintro _ ⟨g1, c1, rfl, lg1, ho1⟩ _ ⟨g2, c2, rfl, lg2, ho2⟩
        have hMk := HMB.out.ext hb9
        have hC9 : Below lo w w9 := HC.out.trans (hb9.mono hs9)
        have hP := HP.out.ext hb9
        clear hb9 HC1 HC2 HO1 HO2 HMB HC ho1 ho2 HP
        obtain ⟨wa, rfl, lta⟩ := blk_put hMk
        have hg := put_grown wa mb #[.int .u8 2, .int .u64 t.n, .slice (some ⟨f.gc, 0, none⟩) f.cnt.length f.cc, .slice (some ⟨f.gs, 0, none⟩) f.sq.length f.sc] #[.int .u8 2, .int .u64 t.n, .slice (some ⟨g1, 0, none⟩) f.cnt.length c1, .slice (some ⟨g2, 0, none⟩) f.sq.length c2] 50
        have HC := Lib.hid (putBlk_belows hC9 hmb #[.int .u8 2, .int .u64 t.n, .slice (some ⟨g1, 0, none⟩) f.cnt.length c1, .slice (some ⟨g2, 0, none⟩) f.sq.length c2])
        have HP : Hid (PkR lo (putBlk wa mb #[.int .u8 2, .int .u64 t.n, .slice (some ⟨g1, 0, none⟩) f.cnt.length c1, .slice (some ⟨g2, 0, none⟩) f.sq.length c2] 50) rs ps) := ⟨own_keep hP.1 hg (NoT.blk hMk (by decide)), fun q hq => ⟨(hP.2 q hq).1.keep hg (NoT.blk hMk (by decide)), (hP.2 q hq).2.keep hg (NoT.blk hMk (by decide))⟩⟩
        obtain ⟨pc, pf, pS⟩ := putBlk_facts (w := wa) 50 lta
        clear hMk hC9 hg hP
        intro K1 hK1
        rw [if_pos (by rfl)]; simp only [overlay, upd, cond_true, cond_false, Nat.reduceEqDiff, reduceIte]
        go_simp
        refine hK1.out _ _ ?_
        intro K2 hK2
        rw [if_pos (by rfl)]
        go_simp
        refine hK2.out _ _ ?_
        intro K3 hK3
        rw [if_pos (by rfl)]
        go_simp
        refine hK3.out _ _ (TailB.nil ?_)
        go_wp2_with fail
        refine bodyPost_ret (v := .tuple #[.agg #[.int .u8 2, .int .u64 t.n, .slice (some ⟨g1, 0, none⟩) f.cnt.length c1, .slice (some ⟨g2, 0, none⟩) f.sq.length c2], rs, .int .i64 0]) (by simp [results, Tryd.results12, go_sem, pc]) rfl ?_
        refine ⟨by rw [← HLO.out]; exact HC.out, rs, ps, g1, c1, g2, c2, rfl, by rw [← HLO.out]; exact HP.out, HJM.out, HA.out⟩
      all_goals
        intro x w9 hb9
        have hMk := HMB.out.ext hb9
        have m2 := hMk.cell 2
        have m3 := hMk.cell 3
        have lM := hMk.lt
        simp only [List.getElem?_toArray, List.getElem?_cons_zero, List.getElem?_cons_succ] at m2 m3
        have HL9 : Hid (lo ≤ w9.heap.size) := Nat.le_trans hs9 hb9.size
        clear hMk
        simp only [StepGoal, List.getD_cons_zero, List.getD_cons_succ]
        first
          | (intro K hK
             rw [if_pos (by rfl)]; simp only [overlay, upd, cond_true, cond_false, Nat.reduceEqDiff, reduceIte]
             go_simp
             first
               | exact hK.out _ _ (Below.refl _ _) rfl
               | ((with_reducible refine (HC1.out _ hb9).mono ?_); rintro e wa ⟨hba, g1, c1, rfl, lg1, ho1⟩; go_wp2_with fail; exact hK.out _ _ hba ⟨g1, c1, rfl, Nat.le_trans HL9.out lg1, own_base ho1 HL9.out⟩))
          | (rintro _ ⟨g0, c0, rfl, lg0, ho0⟩
             intro K hK
             rw [if_pos (by rfl)]; simp only [overlay, upd, cond_true, cond_false, Nat.reduceEqDiff, reduceIte]
             go_simp
             first
               | exact hK.out _ _ (Below.refl _ _) rfl
               | ((with_reducible refine (HC2.out _ hb9).mono ?_); rintro e wa ⟨hba, g1, c1, rfl, lg1, ho1⟩; go_wp2_with fail; exact hK.out _ _ hba ⟨g1, c1, rfl, Nat.le_trans HL9.out lg1, own_base ho1 HL9.out⟩))
          | (intro _ _ _ _ K hK
             rw [if_pos (by rfl)]; simp only [overlay, upd, cond_true, cond_false, Nat.reduceEqDiff, reduceIte]
             go_simp
             exact hK.out _ _ (Below.refl _ _) rfl)
end Go.Proofs.YtkfhfegogmlchaaDoor
