/- Several texts in one: see each part's head. -/
import Derived.Test.YtgklopgeimjgiaaGreatDoorJ41
import Derived.Test.YtgklopgeimjgiaaGreatDoorJ40
/- VerifySees: ops in memory; states. -/
namespace Go.Proofs.YtgklopgeimjgiaaGreatDoor
open Go.RowKit

/-- An op in memory. -/
structure Ox where
  kd : Int
  t : Int
  B : Option Addr
  c : Nat
  row : List V
def Ox.cells (o : Ox) : List Value := [.int .u8 o.kd, .int .i64 o.t, .slice o.B o.row.length o.c]
def OpRow (w : World) (P : Option Addr) (l : List Ox) : Prop :=
  (∀ o ∈ l, (0 ≤ o.kd ∧ o.kd ≤ 255) ∧ VRow w o.B o.row) ∧ l.length ≤ 4398046511104 ∧ (l ≠ [] → ∃ b off, P = some ⟨b, off, none⟩ ∧ b < w.heap.size ∧ ∀ i o, l[i]? = some o →
    w.cell? ⟨b, off + i * 3, none⟩ = some (.int .u8 o.kd) ∧ w.cell? ⟨b, off + i * 3 + 1, none⟩ = some (.int .i64 o.t) ∧ w.cell? ⟨b, off + i * 3 + 2, none⟩ = some (.slice o.B o.row.length o.c))
theorem OpRow.ext {w w' : World} {P : Option Addr} {l : List Ox} (h : OpRow w P l) (hb : Below w.heap.size w w') : OpRow w' P l := by
  refine ⟨fun o ho => ⟨(h.1 o ho).1, (h.1 o ho).2.ext hb⟩, h.2.1, fun hl => ?_⟩
  obtain ⟨b, off, rfl, hlt, hc⟩ := h.2.2 hl
  refine ⟨b, off, rfl, Nat.lt_of_lt_of_le hlt hb.size, fun i v hi => ?_⟩
  obtain ⟨c0, c1, c2⟩ := hc i v hi
  exact ⟨(hb.cell (p := ⟨b, _, none⟩) hlt).trans c0, (hb.cell (p := ⟨b, _, none⟩) hlt).trans c1, (hb.cell (p := ⟨b, _, none⟩) hlt).trans c2⟩
theorem OpRow.at_ {w : World} {P : Option Addr} {l : List Ox} (h : OpRow w P l) {k : Nat} {o : Ox} (hk : l[k]? = some o) :
    ∃ b off, P = some ⟨b, off, none⟩ ∧ b < w.heap.size ∧ (0 ≤ o.kd ∧ o.kd ≤ 255) ∧ VRow w o.B o.row ∧ w.cell? ⟨b, off + k * 3, none⟩ = some (.int .u8 o.kd) ∧ w.cell? ⟨b, off + k * 3 + 1, none⟩ = some (.int .i64 o.t) ∧ w.cell? ⟨b, off + k * 3 + 2, none⟩ = some (.slice o.B o.row.length o.c) := by
  obtain ⟨b, off, rfl, hlt, hc⟩ := h.2.2 (by intro e; subst e; simp at hk)
  obtain ⟨c0, c1, c2⟩ := hc k o hk
  obtain ⟨h1, h2⟩ := h.1 o (List.mem_of_getElem? hk)
  exact ⟨b, off, rfl, hlt, h1, h2, c0, c1, c2⟩
variable {us vs ts : List Ta} {r M x : Nat} {A A' G : Option Addr} {c c' gc : Nat} {tn tm : Int} {l : List Rw} {its : List It} {lo : Nat} {w w' : World}
theorem keyN_d (h : us.map Ta.d = ts.map Ta.d) (t : Nat) (row : List V) : keyN us t row = keyN ts t row := by
  unfold keyN
  rcases opt_d h t with ⟨h1, h2⟩ | ⟨u, v, h1, h2, e⟩
  · rw [h1, h2]
  · rw [h1, h2]
    simp only [(tab_d e).2.2.1]
theorem plN_d (h : us.map Ta.d = ts.map Ta.d) : plN us = plN ts := by
  funext x
  unfold plN
  rw [keyN_d h]
theorem doS_d (h : us.map Ta.d = ts.map Ta.d) (l : List Rw) (kd t : Int) (row : List V) : doS us l kd t row = doS ts l kd t row := by
  have e2 : rowS us = rowS ts := funext fun k => funext fun l => rowS_d h k l
  have e3 : keyS us = keyS ts := funext fun k => funext fun l => keyS_d h k l
  unfold doS
  rw [plN_d h, e2, e3]
/-- The rows behind ops. -/
noncomputable def runS (ts : List Ta) (l : List Ox) : List Rw := l.foldl (fun s o => (doS ts s o.kd o.t o.row).2) []
theorem runS_one (ts : List Ta) (l : List Ox) (o : Ox) : runS ts (l ++ [o]) = (doS ts (runS ts l) o.kd o.t o.row).2 := by unfold runS; rw [List.foldl_append]; rfl
/-- Each state stands while the other does. -/
theorem RelR.far_ref {S : List Nat} (h : RelR us r M A c tn l w) (k : RefR vs x A' c' G gc tm its lo w) (hc : Chg S w w') (hS : ∀ i ∈ S, i = x ∨ ∃ a, G = some a ∧ a.block = i) : RelR us r M A c tn l w' := by
  have hS' : ∀ i ∈ S, i ∈ x :: gS G := fun i hi => by
    rcases hS i hi with rfl | h2
    · simp
    · exact List.mem_cons_of_mem _ (gS_mem.2 h2)
  have key : ∀ i ∈ x :: gS G, ∃ cs t, w.heap[i]? = some (.cells cs t (0, 0)) ∧ t ≠ 92 := by
    intro i hi
    rcases List.mem_cons.1 hi with rfl | hi
    · exact ⟨_, _, k.b, by decide⟩
    · obtain ⟨cur, h1⟩ := own_typ k.g (gS_own.2 hi)
      exact ⟨_, _, h1, by decide⟩
  refine h.chg hc (fun hm => ?_) (fun hm => ?_) (fun i hi => k.oth i (hS' i hi))
  · obtain ⟨cs, t, h1, h2⟩ := key r (hS' r hm)
    have := h1.symm.trans h.b
    simp only [Option.some.injEq, Obj.cells.injEq] at this
    exact h2 this.2.1
  · obtain ⟨cs, t, h1, _⟩ := key M (hS' M hm)
    exact h.m.no_cells _ _ _ h1
theorem RefR.far_rel (h : RelR us r M A c tn l w) (k : RefR vs x A' c' G gc tm its lo w) (hc : Chg [r, M] w w') : RefR vs x A' c' G gc tm its lo w' := by
  refine k.chg hc (fun hm => ?_) (fun a e hm => ?_) h.oth
  · rcases List.mem_cons.1 hm with rfl | hm
    · have := k.b.symm.trans h.b
      simp only [Option.some.injEq, Obj.cells.injEq] at this
      exact absurd this.2.1 (by decide)
    · rw [List.mem_singleton] at hm
      subst hm
      exact h.m.no_cells _ _ _ k.b
  · obtain ⟨cur, h1⟩ := own_typ k.g (gS_own.2 (gS_mem.2 ⟨a, e, rfl⟩))
    rcases List.mem_cons.1 hm with e2 | hm
    · rw [e2] at h1
      have := h1.symm.trans h.b
      simp only [Option.some.injEq, Obj.cells.injEq] at this
      exact absurd this.2.1 (by decide)
    · rw [List.mem_singleton] at hm
      rw [hm] at h1
      exact h.m.no_cells _ _ _ h1
def StP (ts : List Ta) (ops : List Ox) (w : World) (q : Ending) (w' : World) : Prop :=
  Below w.heap.size w w' ∧ ∃ us r M A c tn V, q = .returned (.tuple #[.pointer (some ⟨r, 0, none⟩), V]) ∧ RelR us r M A c tn (runS ts ops) w' ∧ us.map Ta.d = ts.map Ta.d ∧ w.heap.size ≤ r ∧ w.heap.size ≤ M
/-- Both states in the middle of it. -/
def StL (us vs : List Ta) (r M : Nat) (A : Option Addr) (c x : Nat) (A' : Option Addr) (c' lo : Nat) (l : List Rw) (w w' : World) : Prop :=
  Below w.heap.size w w' ∧ (∃ tn, RelR us r M A c tn l w') ∧ ∃ G gc tm its, its.map It.x = l ∧ RefR vs x A' c' G gc tm its lo w'
set_option maxRecDepth 100000 in
set_option maxHeartbeats 1600000 in
theorem states_any (ts : List Ta) (A : Option Addr) (c : Nat) (P : Option Addr) (pc : Nat) (ops : List Ox) (w : World) (ht : TRow w A c ts) (hs : schB ts = true) (ho : OpRow w P ops) (hT : Tabs w) :
    Calls Tryz.prog 7 #[.agg #[.slice A ts.length c], .slice P ops.length pc] w (StP ts ops w) := by
  have HNW := Lib.hid (fun (W : World) (hW : Below w.heap.size w W) => relnew_any ts A c W (ht.ext hW) hs)
  have HRN := Lib.hid (fun (W : World) (hW : Below w.heap.size w W) => refnew_any ts A c W (ht.ext hW) hs)
  have HO := Lib.hid ho
  have HT := Lib.hid hT
  clear ht hs ho hT
  go_enter Tryz.func7, Tryz.ntmps7
  have h1 : Blk (w.alloc (.cells #[.slice A ts.length c] 24)) w.heap.size #[.slice A ts.length c] 24 := Blk.new w _ _
  have hC : Below w.heap.size w (w.alloc (.cells #[.slice A ts.length c] 24)) := (by repeat (first | exact Below.refl _ _ | assumption | refine Below.drew ?_ | refine below_drewN ?_ _ | refine Below.alloc ?_ (by simp <;> omega) _))
  have HC := Lib.hid hC
  have H1 := Lib.hid h1
  clear h1 hC
  go_upto_region 1 with fail
  generalize w.alloc (.cells #[.slice A ts.length c] 24) = W0 at HC H1 ⊢
  generalize hB1 : w.heap.size = B1 at H1 ⊢
  have HB1 := Lib.hid hB1
  clear hB1
  have s0 := H1.out.cell 0
  have l1 := H1.out.lt
  simp only [List.getElem?_toArray, List.getElem?_cons_zero] at s0
  go_wp2_with fail
  refine (HNW.out _ HC.out).mono ?_
  rintro q w1 ⟨hb, us, r, M, A1, c1, rfl, hr, hd, hr1, hM1⟩
  have HC1 := Lib.hid (bt HC.out hb)
  have H11 := Lib.hid (H1.out.ext hb)
  have HR1 := Lib.hid hr
  have HD := Lib.hid hd
  have HRM : Hid (w.heap.size ≤ r ∧ w.heap.size ≤ M) := ⟨Nat.le_trans HC.out.size hr1, Nat.le_trans HC.out.size hM1⟩
  clear hb hr hd hr1 hM1 s0 l1 H1 HC
  have s0 := H11.out.cell 0
  have l1 := H11.out.lt
  simp only [List.getElem?_toArray, List.getElem?_cons_zero] at s0
  go_wp2_with fail
  refine (HRN.out _ HC1.out).mono ?_
  rintro q w2 ⟨hb, vs, x, A2, c2, rfl, hx, hdv⟩
  have HST : Hid (StL us vs r M A1 c1 x A2 c2 w1.heap.size (runS ts (ops.take 0)) w w2) := ⟨bt HC1.out hb, ⟨0, HR1.out.ext hb⟩, none, 0, 0, [], rfl, hx⟩
  have HDV := Lib.hid hdv
  have HLO : Hid (w.heap.size ≤ w1.heap.size) := HC1.out.size
  generalize w1.heap.size = lo at HST HLO
  clear hb hx hdv HR1 HC1 H11 s0 l1 HNW HRN
  go_wp2_with fail
  go_loopw [9] (fun i wr => ∃ k : Nat, k ≤ ops.length ∧ i = .int .i64 k ∧ Hid (StL us vs r M A1 c1 x A2 c2 lo (runS ts (ops.take k)) w wr)) (fun i _ => ops.length - (intOf i).toNat)
  case atStart => exact ⟨0, by omega, rfl, HST.out⟩
  case round =>
    obtain ⟨k, hk, rfl, HL⟩ := hrel
    have hl9 := HO.out.2.1
    by_cases hlt : k < ops.length
    · obtain ⟨o, ho⟩ : ∃ o, ops[k]? = some o := ⟨_, List.getElem?_eq_getElem hlt⟩
      obtain ⟨b, off, rfl, hbl, hkd, hv, d0, d1, d2⟩ := HO.out.at_ ho
      have HRUN : Hid (runS ts (ops.take (k + 1)) = (doS ts (runS ts (ops.take k)) o.kd o.t o.row).2) := by
        show _ = _
        rw [List.take_add_one, ho, Option.toList_some, runS_one]
      obtain ⟨lk, hlk⟩ : ∃ lk, lk = runS ts (ops.take k) := ⟨_, rfl⟩
      rw [← hlk] at HL HRUN
      clear hlk
      obtain ⟨F, hF⟩ : ∃ F, F = doS ts lk o.kd o.t o.row := ⟨_, rfl⟩
      rw [← hF] at HRUN
      obtain ⟨hbl1, ⟨tn, hrel1⟩, G, gc, tm, its, hits, href1⟩ := HL.out
      have HDO := Lib.hid (do_any hrel1 (HT.out.ext hbl1) o.kd o.t hkd o.B o.c o.row (hv.ext hbl1))
      rw [doS_d HD.out, ← hF] at HDO
      have HRD := Lib.hid (fun (W : World) (h : RefR vs x A2 c2 G gc tm its lo W) (hW : Below w.heap.size w W) => refdo_any h (HT.out.ext hW) o.kd o.t o.B o.c o.row (hv.ext hW) (fun hne p hp => by
        obtain ⟨b2, off2, e2, h2, _⟩ := hv.2.2 hne
        rw [e2] at hp
        cases hp
        have := HLO.out
        simp only
        omega))
      rw [hits, doS_d HDV.out, ← hF] at HRD
      have HREL := Lib.hid hrel1
      have HREF := Lib.hid href1
      have HBL := Lib.hid hbl1
      have e0 := (hbl1.cell (p := ⟨b, off + k * 3, none⟩) hbl).trans d0
      have e1 := (hbl1.cell (p := ⟨b, off + k * 3 + 1, none⟩) hbl).trans d1
      have e2 := (hbl1.cell (p := ⟨b, off + k * 3 + 2, none⟩) hbl).trans d2
      have HCE := Lib.hid (And.intro hbl (And.intro d0 (And.intro d1 d2)))
      have i0 : (k : Int) < ops.length := by omega
      have lw := Nat.lt_of_lt_of_le hbl hbl1.size
      have HIT := Lib.hid hits
      have HHO := Lib.hid ho
      clear hF hrel1 href1 hits hbl1 hbl d0 d1 d2 hkd hv HL ho
      go_wp2_with fail
      refine HDO.out.mono ?_
      rintro q w3 ⟨⟨V1, V2, rfl⟩, hc3, tn3, hr3⟩
      have HB3 : Hid (Below w.heap.size w w3) := by
        refine HBL.out.trans (hc3.below (S := [r, M]) HBL.out.size (fun i hi => ?_))
        have := HRM.out
        rcases List.mem_cons.1 hi with rfl | hi
        · exact this.1
        · rw [List.mem_singleton] at hi; subst hi; exact this.2
      have HREF3 := Lib.hid (RefR.far_rel HREL.out HREF.out hc3)
      have HR3 := Lib.hid hr3
      clear hc3 hr3 e0 e1 e2 lw HREL HREF HBL HDO
      have e0 := (HB3.out.cell (p := ⟨b, off + k * 3, none⟩) HCE.out.1).trans HCE.out.2.1
      have e1 := (HB3.out.cell (p := ⟨b, off + k * 3 + 1, none⟩) HCE.out.1).trans HCE.out.2.2.1
      have e2 := (HB3.out.cell (p := ⟨b, off + k * 3 + 2, none⟩) HCE.out.1).trans HCE.out.2.2.2
      have lw := Nat.lt_of_lt_of_le HCE.out.1 HB3.out.size
      go_wp2_with fail
      refine (HRD.out _ HREF3.out HB3.out).mono ?_
      rintro q w4 ⟨⟨V3, V4, rfl⟩, ⟨S, hS, hSm⟩, G', gc', tm', its', hF', hr4⟩
      have HST4 : Hid (StL us vs r M A1 c1 x A2 c2 lo F.2 w w4) := by
        refine ⟨HB3.out.trans (hS.below (S := S) HB3.out.size (fun i hi => ?_)), ⟨tn3, HR3.out.far_ref HREF3.out hS hSm⟩, G', gc', tm', its', hF', hr4⟩
        have hh : i ∈ x :: gS G := by
          rcases hSm i hi with rfl | h2
          · simp
          · exact List.mem_cons_of_mem _ (gS_mem.2 h2)
        exact Nat.le_trans HLO.out (HREF3.out.lo_ i hh)
      clear hS hSm hF' hr4 e0 e1 e2 lw HREF3 HR3 HB3 HRD HCE
      rw [← HRUN.out] at HST4
      go_wp2_with fail
      go_roundw
      case rel => exact ⟨k + 1, by omega, by go_num, HST4.out⟩
      case measure => simp [intOf]; omega
    · have hke : k = ops.length := by omega
      have i0 : ¬ (k : Int) < ops.length := by omega
      rw [hke, List.take_length] at HL
      clear hke
      go_wp2_with fail
      go_ret2
      obtain ⟨h1, ⟨tn, h2⟩, _⟩ := HL.out
      exact ⟨h1, us, r, M, A1, c1, tn, _, rfl, h2, HD.out, HRM.out.1, HRM.out.2⟩
end Go.Proofs.YtgklopgeimjgiaaGreatDoor

/- VerifySees: fasciclelaw14.Heavy; verify.Docs without a state, and of what is no root's. -/
namespace Go.Proofs.YtgklopgeimjgiaaGreatDoor
open Go.RowKit

set_option maxRecDepth 100000 in
set_option maxHeartbeats 1600000 in
theorem heavy_any (ts : List Ta) (A P : Option Addr) (c pc : Nat) (ops : List Ox) (w : World) (ht : TRow w A c ts) (ho : OpRow w P ops) :
    Calls Tryz.prog 4 #[.agg #[.slice A ts.length c], .slice P ops.length pc] w (BoolP w) := by
  have HO := Lib.hid ho
  have hb1 : Below w.heap.size w (w.alloc (.cells #[.slice A ts.length c] 24)) := (by repeat (first | exact Below.refl _ _ | assumption | refine Below.drew ?_ | refine below_drewN ?_ _ | refine Below.alloc ?_ (by simp <;> omega) _))
  have HLG := Lib.hid (fun (W : World) (hW : Below w.heap.size w W) => large13_any ts A c W (ht.ext hW))
  have hlo := ho.2.1
  obtain ⟨no, hno⟩ : ∃ q, q = ops.length := ⟨_, rfl⟩
  rw [← hno] at hlo ⊢
  have HNO := Lib.hid hno
  clear ht ho hno
  obtain ⟨nt, hnt⟩ : ∃ q, q = ts.length := ⟨_, rfl⟩
  rw [← hnt] at hb1 HLG ⊢
  have h2 := Blk.new w #[.slice A nt c] 24
  have HB1 := Lib.hid hb1
  have H2 := Lib.hid h2
  clear hnt hb1 h2
  obtain ⟨RP, hRP⟩ : ∃ RP, RP = BoolP w := ⟨_, rfl⟩
  rw [← hRP]
  have HRP : Hid (∀ b W, Below w.heap.size w W → RP (.returned (.bool b)) W) := fun b W h => by rw [hRP]; exact ⟨⟨b, rfl⟩, h⟩
  clear hRP
  go_enter Tryz.func4, Tryz.ntmps4
  go_upto_region 1 with fail
  generalize w.alloc (.cells #[.slice A nt c] 24) = w1 at HB1 H2 ⊢
  generalize w.heap.size = b2 at H2 ⊢
  go_wp2_with fail
  go_loopw [5, 6] (fun n i wr => ∃ k m : Nat, k ≤ 400 ∧ i = .int .i64 k ∧ n = .int .i64 m ∧ m ≤ k * 40000000000000 ∧ Hid (Below w1.heap.size w1 wr)) (fun _ i _ => 400 - (intOf i).toNat)
  case atStart => exact ⟨0, 0, by omega, rfl, rfl, by omega, Below.refl _ _⟩
  case round =>
    obtain ⟨k, m, hk, rfl, rfl, hm, HW⟩ := hrel
    by_cases hl : k < no
    · by_cases h4 : k < 400
      · have hkl : k < ops.length := by have := HNO.out; omega
        obtain ⟨o, hv⟩ : ∃ o, ops[k]? = some o := ⟨_, List.getElem?_eq_getElem hkl⟩
        have hvr := (HO.out.1 o (List.mem_of_getElem? hv)).2
        obtain ⟨b, off, hP, hb, hc⟩ := HO.out.2.2 (by intro e; rw [e] at hkl; simp at hkl)
        subst hP
        have c2 := (hc k _ hv).2.2
        have hrl := hvr.2.1
        have HLN := Lib.hid (long_any o.row o.B o.c wr (hvr.ext (bt HB1.out HW.out)))
        have y2 := ((bt HB1.out HW.out).cell (p := ⟨b, off + k * 3 + 2, none⟩) hb).trans c2
        have yl := Nat.lt_of_lt_of_le hb (bt HB1.out HW.out).size
        generalize o.B = oB at HLN y2
        generalize o.c = oc at HLN y2
        generalize o.row = orow at HLN y2 hrl
        obtain ⟨rl, hrl'⟩ : ∃ q, q = orow.length := ⟨_, rfl⟩
        rw [← hrl'] at HLN y2 hrl
        generalize decide (4000 < longN orow) = bl at HLN
        have i0 : (k : Int) < no := by omega
        have i1 : (k : Int) < 400 := by omega
        have w1' : IntKind.i64.wrap ((k : Int) + 1) = (k : Int) + 1 := IntWalk.i64_in _ (by omega)
        have w2' : IntKind.i64.wrap ((m : Int) + 1) = (m : Int) + 1 := IntWalk.i64_in _ (by omega)
        have w3' : IntKind.i64.wrap ((m : Int) + 1 + rl) = (m : Int) + 1 + rl := IntWalk.i64_in _ (by omega)
        clear hc hv hvr c2 hkl hl hrl' hb
        go_wp2_with fail
        refine HLN.out.mono ?_
        rintro r w2 ⟨rfl, rfl⟩
        cases bl
        · go_wp2_with fail
          go_roundw
          case rel => exact ⟨k + 1, m + 1 + rl, by omega, by simp, by simp, by omega, HW.out⟩
          case measure =>
            show 400 - ((k : Int) + 1).toNat < 400 - (k : Int).toNat
            omega
        · have HF := Lib.hid (HRP.out true _ (bt HB1.out HW.out))
          go_wp2_with fail
          exact HF.out
      · have i0 : (k : Int) < no := by omega
        have i1 : ¬ (k : Int) < 400 := by omega
        have h8 := H2.out.ext HW.out
        have s0 := h8.cell 0
        have ls := h8.lt
        simp only [List.getElem?_toArray, List.getElem?_cons_zero] at s0
        clear h8 hl h4
        go_wp2_with fail
        refine (HLG.out _ (bt HB1.out HW.out)).mono ?_
        rintro q w3 ⟨⟨v, rfl⟩, hb3⟩
        have HF := Lib.hid (fun b => HRP.out b _ (bt (bt HB1.out HW.out) hb3))
        clear hb3 s0 ls
        cases v
        · have i3 : no > 300 := by omega
          have i4 : (no : Int) > 300 := by omega
          go_wp2_with fail
          exact HF.out _
        · go_wp2_with fail
          exact HF.out _
    · have i0 : ¬ (k : Int) < no := by omega
      have h8 := H2.out.ext HW.out
      have s0 := h8.cell 0
      have ls := h8.lt
      simp only [List.getElem?_toArray, List.getElem?_cons_zero] at s0
      clear h8 hl
      go_wp2_with fail
      refine (HLG.out _ (bt HB1.out HW.out)).mono ?_
      rintro q w3 ⟨⟨v, rfl⟩, hb3⟩
      have HF := Lib.hid (fun b => HRP.out b _ (bt (bt HB1.out HW.out) hb3))
      clear hb3 s0 ls
      cases v
      · by_cases h3 : (no : Int) > 300
        · go_wp2_with fail
          exact HF.out _
        · by_cases hm3 : (m : Int) > 3000
          · go_wp2_with fail
            exact HF.out _
          · go_wp2_with fail
            exact HF.out _
      · go_wp2_with fail
        exact HF.out _
set_option maxRecDepth 100000 in
theorem all_nil (w : World) : Calls Tryz.prog 8 #[.pointer none] w fun q w' => q = .returned (.tuple #[.slice none 0 0, .int .i64 1]) ∧ w = w' := by
  go_enter Tryz.func8, Tryz.ntmps8
  go_wp2_with fail
  go_ret2
  exact ⟨rfl, rfl⟩
set_option maxRecDepth 100000 in
/-- No state. -/
theorem docs_nil (w : World) : Calls Tryz.prog 9 #[.pointer none, .slice none 0 0] w fun q w' => q = .returned (.tuple #[.slice none 0 0, .int .i64 1]) ∧ w = w' := by
  have HN := Lib.hid (all_nil w)
  go_enter Tryz.func9, Tryz.ntmps9
  go_wp2_with fail
  refine HN.out.mono ?_
  rintro q w1 ⟨rfl, rfl⟩
  go_wp2_with fail
  go_ret2
  exact ⟨rfl, rfl⟩
def FormQ (w : World) (q : Ending) (w' : World) : Prop := q = .returned (.tuple #[.slice none 0 0, .int .i64 7]) ∧ Below w.heap.size w w'
variable {us : List Ta} {r M : Nat} {A : Option Addr} {c : Nat} {tn : Int} {l : List Rw} {w : World}
set_option maxRecDepth 100000 in
set_option maxHeartbeats 1600000 in
/-- A document of no table of roots. -/
theorem docs_form (h : RelR us r M A c tn l w) (b kt : Nat) (B : Option Addr) (rl rc : Nat) (K' : Option Addr) (kl ck' : Nat) (tb : Int) (hb : Blk w b #[.int .i64 tb, .slice B rl rc, .slice K' kl ck'] 42) (hd : isRootB us tb = false) :
    Calls Tryz.prog 9 #[.pointer (some ⟨r, 0, none⟩), .slice (some ⟨b, 0, none⟩) 1 kt] w (FormQ w) := by
  have HR := Lib.hid h
  have HALL := Lib.hid (all_any h)
  have HB := Lib.hid hb
  have HRB := Lib.hid hd
  clear h hb hd
  go_enter Tryz.func9, Tryz.ntmps9
  go_wp2_with fail
  refine HALL.out.mono ?_
  rintro q w1 ⟨Kh, kh, rfl, hI⟩
  have HB1 := Lib.hid hI.b
  have HSC := Lib.hid (relschema_any (HR.out.ext hI.b))
  generalize (docsN us l).length = nh
  clear hI HALL
  go_wp2_with fail
  refine HSC.out.mono ?_
  rintro q w2 ⟨hb2, A2, c2, vs, rfl, hos, hd⟩
  obtain ⟨n, hn⟩ : ∃ n, n = vs.length := ⟨_, rfl⟩
  rw [← hn]
  have HISR : Hid (∀ W : World, Below w2.heap.size w2 W → Calls Tryz.prog 29 #[.agg #[.slice A2 n c2], .int .i64 tb] W (fun q W' => q = .returned (.bool false) ∧ Below W.heap.size W W')) := fun W hW => by
    have h := isroot_any (hos.trow.ext hW) tb
    rw [isRootB_d hd, HRB.out, ← hn] at h
    exact h
  have HB2 := Lib.hid (bt HB1.out hb2)
  clear hb2 hos hd hn HSC
  go_upto_region 5 with fail
  have h8 := Blk.new w2 #[.slice A2 n c2] 24
  have hb3 : Below w2.heap.size w2 (w2.alloc (.cells #[.slice A2 n c2] 24)) := (by repeat (first | exact Below.refl _ _ | assumption | refine Below.drew ?_ | refine below_drewN ?_ _ | refine Below.alloc ?_ (by simp <;> omega) _))
  have HW3 := Lib.hid (bt HB2.out hb3)
  have HX3 := Lib.hid hb3
  have H8 := Lib.hid h8
  clear h8 hb3
  generalize w2.alloc (.cells #[.slice A2 n c2] 24) = w3 at HW3 HX3 H8 ⊢
  generalize w2.heap.size = b8 at H8 ⊢
  go_wp2_with fail
  go_loopw [38] (fun v wr => v = .int .i64 0 ∧ wr = w3) (fun v _ => 1 - (intOf v).toNat)
  case atStart => exact ⟨rfl, rfl⟩
  case round =>
    obtain ⟨rfl, rfl⟩ := hrel
    have h3 := HB.out.ext HW3.out
    have e0 := h3.cell 0
    have e1 := h3.cell 1
    have e2 := h3.cell 2
    have le := h3.lt
    simp only [List.getElem?_toArray, List.getElem?_cons_zero, List.getElem?_cons_succ] at e0 e1 e2
    clear h3
    go_upto_region 8 with fail
    have hb9 : Below wr.heap.size wr (wr.alloc (.cells #[.int .i64 tb, .slice B rl rc, .slice K' kl ck'] 42)) := (by repeat (first | exact Below.refl _ _ | assumption | refine Below.drew ?_ | refine below_drewN ?_ _ | refine Below.alloc ?_ (by simp <;> omega) _))
    have h9 := Blk.new wr #[.int .i64 tb, .slice B rl rc, .slice K' kl ck'] 42
    have HB9 := Lib.hid hb9
    have H9 := Lib.hid h9
    clear hb9 h9 e0 e1 e2 le
    generalize wr.alloc (.cells #[.int .i64 tb, .slice B rl rc, .slice K' kl ck'] 42) = w9 at HB9 H9 ⊢
    generalize wr.heap.size = b10 at H9 ⊢
    have h8 := H8.out.ext HB9.out
    have s0 := h8.cell 0
    have ls := h8.lt
    have d0 := H9.out.cell 0
    have ld := H9.out.lt
    simp only [List.getElem?_toArray, List.getElem?_cons_zero] at s0 d0
    clear h8
    go_wp2_with fail
    refine (HISR.out _ (bt HX3.out HB9.out)).mono ?_
    rintro q w5 ⟨rfl, hb5⟩
    have HF : Hid (FormQ w (.returned (.tuple #[.slice none 0 0, .int .i64 7])) w5) := ⟨rfl, bt (bt HW3.out HB9.out) hb5⟩
    clear hb5 s0 ls d0 ld
    go_wp2_with fail
    go_ret2
    exact HF.out
end Go.Proofs.YtgklopgeimjgiaaGreatDoor

/- VerifySees: the chapter's example: its state. -/
namespace Go.Proofs.YtgklopgeimjgiaaGreatDoor
open Go.RowKit

def vOne : V := ⟨2, 1, 0, ⟨#[]⟩⟩
def dOne : De := .mk 0 [vOne] []
theorem two_row1 (c1 c2 : Nat) : rowS (twoL c1 c2 0) 0 [vOne] = true := by kernel_rfl
theorem vOne_wf : vOne.wf := by unfold V.wf vOne; decide
theorem run_two (c1 c2 : Nat) (B : Option Addr) (c : Nat) : runS (twoL c1 c2 0) [⟨1, 0, B, c, [vOne]⟩] = [(0, [vOne])] := by
  have h := runS_one (twoL c1 c2 0) [] ⟨1, 0, B, c, [vOne]⟩
  rw [List.nil_append] at h
  rw [h]
  show (doS (twoL c1 c2 0) [] 1 0 [vOne]).2 = _
  rw [doS_ins (two_row1 c1 c2)]
  unfold insF
  rw [if_neg (by unfold HasP; simp), if_neg (by simp)]
  simp
section
variable {us : List Ta} {c1 c2 : Nat} (h : us.map Ta.d = (twoL c1 c2 0).map Ta.d)
include h
theorem two_us : ∃ u0 u1, us = [u0, u1] ∧ u0.par = -1 ∧ u1.par = 0 ∧ u0.key = 0 := by
  have e := congrArg List.length h
  rw [List.length_map, List.length_map] at e
  match us, e, h with
  | [u0, u1], _, h =>
    simp only [List.map_cons, List.map_nil, twoL, Ta.d, List.cons.injEq, Prod.mk.injEq, and_true] at h
    exact ⟨u0, u1, rfl, h.1.2.2.2.2, h.2.2.2.2.2, h.1.2.2.1⟩
theorem docs_two : docsN us [(0, [vOne])] = [dOne] := by
  obtain ⟨u0, u1, rfl, h0, h1, _⟩ := two_us h
  have hr : rootsN [u0, u1] = [0] := by
    unfold rootsN
    simp [List.range_succ, h0, h1]
  unfold docsN allD
  rw [hr]
  simp only [List.flatMap_cons, List.flatMap_nil, List.append_nil]
  rw [show ([(0, [vOne])] : List Rw).filter (fun x => decide (x.1 = 0)) = [(0, [vOne])] from rfl]
  simp only [List.map_cons, List.map_nil]
  rw [docF_succ]
  have hb : belowS (kdsN [u0, u1]) (keyN [u0, u1]) (refN [u0, u1]) [(0, [vOne])] (0, [vOne]) = [] := by
    unfold belowS
    rw [List.flatMap_eq_nil_iff]
    intro c hc
    obtain ⟨u, hu, hp⟩ := mem_kdsN.1 hc
    have hc0 : c ≠ 0 := by
      rintro rfl
      simp only [List.getElem?_cons_zero, Option.some.injEq] at hu
      subst hu
      simp at hp
      omega
    unfold ofS
    rw [List.filter_eq_nil_iff]
    intro x hx he
    rw [List.mem_singleton] at hx
    subst hx
    have := (of_decide_eq_true he).1
    exact hc0 this.symm
  rw [hb]
  rfl
theorem rt_two : rtD (keyN us) dOne = (0, vOne) := by
  obtain ⟨u0, u1, rfl, _, _, h2⟩ := two_us h
  unfold rtD keyN
  simp [dOne, De.tb, De.row, h2]
theorem nroot_two : isRootB us 1 = false := by
  obtain ⟨u0, u1, rfl, _, h1, _⟩ := two_us h
  unfold isRootB
  simp [h1]
end
/-- The example's gaps. -/
theorem gaps_two {us : List Ta} {c1 c2 : Nat} (h : us.map Ta.d = (twoL c1 c2 0).map Ta.d) (hp : preB us us.length = true) (hi : StI us [(0, [vOne])]) {rs : List (Nat × V)} (hr : rs.Nodup) :
    ((∀ x, x ∈ rs ↔ x ∈ (docsN us [(0, [vOne])] ++ []).map (rtD (keyN us))) → gapsI us [(0, [vOne])] [] rs = [(1, ((0 : Int), vOne))]) ∧
      ((∀ x, x ∈ rs ↔ x ∈ (docsN us [(0, [vOne])] ++ [dOne]).map (rtD (keyN us))) → gapsI us [(0, [vOne])] [dOne] rs = []) ∧
      ((∀ x, x ∈ rs ↔ x ∈ (docsN us [(0, [vOne])] ++ [dOne, dOne]).map (rtD (keyN us))) → gapsI us [(0, [vOne])] [dOne, dOne] rs = [(2, ((0 : Int), vOne))]) := by
  have hd := docs_two h
  have hk : 0 < (docsN us [(0, [vOne])]).length := by rw [hd]; simp
  have hrt := rt_two h
  have hg : (docsN us [(0, [vOne])])[0] = dOne := by simp [hd]
  refine ⟨fun hm => ?_, fun hm => ?_, fun hm => ?_⟩
  · have h1 := vs_want hp hi hk hr (by simpa [hd] using hm)
    rw [hg, hrt] at h1
    unfold gapsI
    simp only [hd] at h1 ⊢
    rw [show (List.take 0 [dOne] ++ List.drop (0 + 1) [dOne]) = [] from rfl] at h1
    rw [h1]
    rfl
  · have h1 := vs_none hp hi (rs := rs) (by rw [hd] at hm ⊢; exact hm)
    unfold gapsI
    rw [hd] at h1 ⊢
    rw [h1]
    rfl
  · have h1 := vs_more hp hi hk hr (by rw [hg]; rw [hd] at hm ⊢; exact hm)
    rw [hg, hrt] at h1
    unfold gapsI
    rw [hd] at h1 ⊢
    rw [show ([dOne] ++ [dOne]) = [dOne, dOne] from rfl] at h1
    rw [h1]
    rfl
set_option maxRecDepth 100000 in
theorem num_any (n : Int) (w : World) : Calls Tryz.prog 21 #[.int .i64 n] w fun q w' => q = .returned (.agg #[.int .u8 2, .int .i64 n, .int .u64 0, .string ⟨#[]⟩]) ∧ Below w.heap.size w w' := by
  go_enter Tryz.func21, Tryz.ntmps21
  go_wp2_with fail
  refine bodyPost_ret (v := .agg #[.int .u8 2, .int .i64 n, .int .u64 0, .string ⟨#[]⟩]) (by simp [results, Tryz.results21, go_sem]) rfl ?_
  exact ⟨rfl, (by repeat (first | exact Below.refl _ _ | assumption | refine Below.drew ?_ | refine below_drewN ?_ _ | refine Below.alloc ?_ (by simp <;> omega) _))⟩
end Go.Proofs.YtgklopgeimjgiaaGreatDoor
