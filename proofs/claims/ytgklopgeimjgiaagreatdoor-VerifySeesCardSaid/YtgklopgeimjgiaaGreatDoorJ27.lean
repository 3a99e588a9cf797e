/- Several texts in one: see each part's head. -/
import Derived.Test.YtgklopgeimjgiaaGreatDoorJ26
/- VerifySees: rel.ops, Do: what an op makes of a state (doS). -/
namespace Go.Proofs.YtgklopgeimjgiaaGreatDoor
open Go.RowKit

def fnV (g : Nat) : Value := .func (Fn.func g) #[] #[]
def opV (kd : Int) : Value := if kd = 1 then fnV 67 else if kd = 2 then fnV 68 else if kd = 3 then fnV 69 else .nilFunc
def opB (kd : Int) : Bool := decide (kd = 1 ∨ kd = 2 ∨ kd = 3)
def opD : DataW Value := (((DataW.map []).put (.int .u8 1) (.held (fnV 67))).put (.int .u8 2) (.held (fnV 68))).put (.int .u8 3) (.held (fnV 69))
def OpsM (w : World) (M : Nat) : Prop := w.ownsMap Tryz.prog 5 HV M 3 opD
theorem own_map_bel {P : Program} {k : TypeId} {R : Value → Option (DataW Value × List MemPlace)} {b n : Nat} {D : DataW Value} {w w' : World} (h : w.ownsMap P k R b n D) (hb : Below w.heap.size w w') : w'.ownsMap P k R b n D := by
  obtain ⟨es, clock, hh, rest⟩ := h
  exact ⟨es, clock, (hb.block b (Array.getElem?_eq_some_iff.1 hh).1).trans hh, rest⟩
theorem OpsM.ext {w w' : World} {M : Nat} (h : OpsM w M) (hb : Below w.heap.size w w') : OpsM w' M := own_map_bel h hb
theorem zero_opf (W : World) : (zeroValue 96).run Tryz.prog W = .ok .nilFunc W := by kernel_rfl
theorem OpsM.look {w : World} {M : Nat} (h : OpsM w M) {kd : Int} (h0 : 0 ≤ kd ∧ kd ≤ 255) : (Instr.lookup 98 (.map (some M)) (.int .u8 kd) true).run Tryz.prog w = .ok (.tuple #[opV kd, .bool (opB kd)]) w := by
  have hkey : keyOf Tryz.prog 5 (.int .u8 kd) = some (.int .u8 kd) := Maps.keyOf_int_mk Tryz.underlying5 (wf_lit (by decide) (by decide) (h0 : 0 ≤ kd ∧ kd ≤ 255))
  obtain ⟨v, ps, r1, e1⟩ := World.ownsMap.look_ok h (Maps.int_keyed Tryz.underlying5) Tryz.underlying98 (zero_opf w) (zd := .held .nilFunc) (zp := []) rfl hkey
  unfold HV at e1
  simp only [Option.some.injEq, Prod.mk.injEq] at e1
  have hk : ∀ a : Int, WideAt.IsKeyLit (.int .u8 a) := fun _ => trivial
  have m1 : Maps.IsMap ((DataW.map [] : DataW Value).put (.int .u8 1) (.held (fnV 67))) := Maps.isMap_empty.put _ _
  have m2 := m1.put (.int .u8 2) (.held (fnV 68))
  have key : opD.atKey (.int .u8 kd) (.held .nilFunc) = .held (opV kd) ∧ Maps.has opD (.int .u8 kd) = opB kd := by
    unfold opD opV opB
    have ne : ∀ {a b : Int}, a ≠ b → (Lit.int .u8 a) ≠ Lit.int .u8 b := fun h e => h (by injection e)
    by_cases h3 : kd = 3
    · subst h3
      exact ⟨Maps.atKey_put_same m2 (hk _) _ _, Maps.has_put_same m2 (hk _) _⟩
    · rw [Maps.atKey_put_other (ne h3), Maps.has_put_other (ne h3)]
      by_cases h2 : kd = 2
      · subst h2
        exact ⟨Maps.atKey_put_same m1 (hk _) _ _, Maps.has_put_same m1 (hk _) _⟩
      · rw [Maps.atKey_put_other (ne h2), Maps.has_put_other (ne h2)]
        by_cases h1 : kd = 1
        · subst h1
          exact ⟨Maps.atKey_put_same Maps.isMap_empty (hk _) _ _, Maps.has_put_same Maps.isMap_empty (hk _) _⟩
        · rw [Maps.atKey_put_other (ne h1), Maps.has_put_other (ne h1), if_neg h1, if_neg h2, if_neg h3]
          refine ⟨rfl, ?_⟩
          simp [Maps.has, h1, h2, h3]
  rw [key.1, DataW.held.injEq] at e1
  rw [key.2, e1.1] at r1
  exact r1
set_option maxRecDepth 100000 in
theorem ops_any (w : World) : Calls Tryz.prog 41 #[] w fun q w' => Below w.heap.size w w' ∧ ∃ M, q = .returned (.map (some M)) ∧ OpsM w' M := by
  have hk : ∀ a : Int, 0 ≤ a ∧ a ≤ 255 → keyOf Tryz.prog 5 (.int .u8 a) = some (.int .u8 a) := fun a h => Maps.keyOf_int_mk Tryz.underlying5 (wf_lit (by decide) (by decide) (h : 0 ≤ a ∧ a ≤ 255))
  have K := Maps.int_keyed Tryz.underlying5
  have U := Tryz.underlying98
  obtain ⟨w1, r1, o1, g1⟩ := World.ownsMap.update (World.ownsMap_made w Tryz.prog 5 HV) K U (by unfold maxLen; omega) (hk 1 (by omega)) (val := fnV 67) (d := .held (fnV 67)) (ps := []) rfl
  obtain ⟨w2, r2, o2, g2⟩ := World.ownsMap.update o1 K U (by unfold maxLen; omega) (hk 2 (by omega)) (val := fnV 68) (d := .held (fnV 68)) (ps := []) rfl
  obtain ⟨w3, r3, o3, g3⟩ := World.ownsMap.update o2 K U (by unfold maxLen; omega) (hk 3 (by omega)) (val := fnV 69) (d := .held (fnV 69)) (ps := []) rfl
  have hb : Below w.heap.size w w3 := by
    have b0 : Below w.heap.size w (w.alloc (.map #[] 0)) := (Below.refl _ _).alloc (Nat.le_refl _) _
    have s1 := g1.size
    have s2 := g2.size
    simp only [World.size_alloc] at s1
    have b1 := b0.grown g1 (by simp) (fun k hk => by simp only [Option.some.injEq] at hk; omega)
    have b2 := b1.grown g2 (by omega) (fun k hk => by simp only [Option.some.injEq] at hk; omega)
    exact b2.grown g3 (by omega) (fun k hk => by simp only [Option.some.injEq] at hk; omega)
  have HO : Hid (Below w.heap.size w w3 ∧ OpsM w3 w.heap.size) := ⟨hb, o3⟩
  unfold fnV at r1 r2 r3
  have hmm := @run_makeMap Tryz.prog
  clear o1 o2 o3 g1 g2 g3 hb hk K U
  go_enter Tryz.func41, Tryz.ntmps41
  go_wp2_with fail
  go_ret
  exact ⟨HO.out.1, _, rfl, HO.out.2⟩
end Go.Proofs.YtgklopgeimjgiaaGreatDoor

/- VerifySees: rel.Do: what an op makes of a state (doS). -/
namespace Go.Proofs.YtgklopgeimjgiaaGreatDoor
open Go.RowKit

variable {us : List Ta} {r M : Nat} {A : Option Addr} {c : Nat} {tn : Int} {l : List Rw} {w w' : World}
theorem keyS_nat {t : Int} {k : V} (h : keyS us t k = true) : (t.toNat : Int) = t ∧ 0 ≤ t ∧ t < us.length := by
  unfold keyS at h
  rw [Bool.and_eq_true] at h
  obtain ⟨j, u, h1, h2, _⟩ := has_at h.1
  omega
theorem doS_bad {kd t : Int} {row : List V} (h : opB kd = false ∨ plF us kd t row = none) : doS us l kd t row = (2, l) := by
  unfold doS
  rcases h with h | h
  · unfold opB at h
    have h' := of_decide_eq_false h
    rw [if_neg (fun e => h' (Or.inr (Or.inr e))), if_neg (fun e => h' (e.1.elim Or.inl (fun e => Or.inr (Or.inl e))))]
  · unfold plF at h
    by_cases h3 : kd = 3
    · rw [if_pos h3] at h ⊢
      rcases row with _ | ⟨k, _ | ⟨k2, l2⟩⟩
      · rfl
      · simp only at h ⊢
        split at h
        · cases h
        · next hn => rw [if_neg hn]
      · rfl
    · rw [if_neg h3] at h ⊢
      split at h
      · cases h
      · next hn => rw [if_neg (fun e => hn e.2)]
theorem plF_ok (hs : schB us = true) {kd t : Int} {row : List V} {p : Int × V} (h : plF us kd t row = some p) (hw : ∀ v ∈ row, v.wf) : okP p := by
  have hl := schN hs
  unfold plF at h
  by_cases h3 : kd = 3
  · rw [if_pos h3] at h
    rcases row with _ | ⟨k, _ | ⟨k2, l2⟩⟩
    · cases h
    · simp only at h
      split at h
      · next hk =>
        rw [Option.some.injEq] at h
        subst h
        have := keyS_nat hk
        exact ⟨⟨by simp only; omega, by simp only; omega⟩, hw k (by simp)⟩
      · cases h
    · cases h
  · rw [if_neg h3] at h
    split at h
    · next hr =>
      rw [Option.some.injEq] at h
      subst h
      have e := rowS_nat hr
      have h2 : rowS us (t.toNat : Nat) row = true := by rw [e]; exact hr
      have := plI_ok hs h2 hw
      unfold plI at this
      simp only at this
      rwa [e] at this
    · cases h
/-- The function that a kind has does what the kind is. -/
theorem do_op {kd t : Int} {row : List V} {p : Int × V} (hk : opB kd = true) (hp : plF us kd t row = some p) :
    ∃ g, opV kd = fnV g ∧ (∀ args w, (callFunc g args).run Tryz.prog w = .ok (.enter g args) w) ∧ ∀ {r M : Nat} {A : Option Addr} {c : Nat} {tn : Int} {l : List Rw} {w : World}, RelR us r M A c tn l w → ∀ (B : Option Addr) (rc : Nat), VRow w B row →
      Calls Tryz.prog g #[.pointer (some ⟨r, 0, none⟩), plc p.1 p.2, .slice B row.length rc] w (OpQ us r M A c tn (doS us l kd t row) w) := by
  unfold plF at hp
  have hk' := of_decide_eq_true hk
  by_cases h3 : kd = 3
  · rw [if_pos h3] at hp
    subst h3
    rcases row with _ | ⟨k, _ | ⟨k2, l2⟩⟩
    · cases hp
    · simp only at hp
      split at hp
      · next hkS =>
        rw [Option.some.injEq] at hp
        subst hp
        have hn := keyS_nat hkS
        refine ⟨69, rfl, enters_of Tryz.func69 (by kernel_rfl) rfl, fun {r M A c tn l w} h B rc hv => ?_⟩
        have hl := schN h.h
        have hd := doS_del (l := l) hkS
        have hi := doS_ok h.i 3 t hv.1
        rw [hd] at hi ⊢
        have := remove_any (p := (t.toNat, k)) h ⟨⟨by simp only; omega, by simp only; omega⟩, hv.1 k (by simp)⟩ hi (.slice B 1 rc)
        simp only [hn.1] at this
        exact this
      · cases hp
    · cases hp
  · rw [if_neg h3] at hp
    split at hp
    · next hr =>
      rw [Option.some.injEq] at hp
      subst hp
      have e := rowS_nat hr
      have h2 : rowS us (t.toNat : Nat) row = true := by rw [e]; exact hr
      rcases hk' with rfl | rfl | h'
      · refine ⟨67, rfl, enters_of Tryz.func67 (by kernel_rfl) rfl, fun {r M A c tn l w} h B rc hv => ?_⟩
        rw [doS_ins hr]
        have := insert_any (x := (t.toNat, row)) h h2 B rc hv
        simp only [e] at this
        exact this
      · refine ⟨68, rfl, enters_of Tryz.func68 (by kernel_rfl) rfl, fun {r M A c tn l w} h B rc hv => ?_⟩
        rw [doS_upd hr]
        have := update_any (x := (t.toNat, row)) h h2 B rc hv
        simp only [e] at this
        exact this
      · exact absurd h' h3
    · cases hp
def DoQ (us : List Ta) (r M : Nat) (A : Option Addr) (c : Nat) (F : Int × List Rw) (w : World) (q : Ending) (w' : World) : Prop :=
  (∃ V1 V2, q = .returned (.tuple #[V1, V2, .int .i64 F.1])) ∧ Chg [r, M] w w' ∧ ∃ tn, RelR us r M A c tn F.2 w'
/-- What a clone of what stands at a place is. -/
theorem RelR.clone (h : RelR us r M A c tn l w) {p : Int × V} (hp : okP p) : ∃ V : Value, (∀ W : World, Below w.heap.size w W → (Instr.lookup 90 (.map (some M)) (plc p.1 p.2) false).run Tryz.prog W = .ok V W) ∧
    ∀ W : World, Below w.heap.size w W → Calls Tryz.prog 43 #[V] W fun q W' => Below W.heap.size W W' ∧ ∃ v, q = .returned v := by
  rcases h.look hp with ⟨_, v, ⟨x, hx, _, B, bc, rfl, hro⟩, h2⟩ | ⟨_, h2⟩
  · refine ⟨_, fun W hW => (h2 W hW).2, fun W hW => ?_⟩
    have hri := row_in (h.i.fit x hx).1 h.h
    exact (clone_row x.2 B bc W (hro.vrow.ext hW) hri.1 (by omega)).mono fun _ _ ⟨hb, _, _, e, _⟩ => ⟨hb, _, e⟩
  · exact ⟨_, fun W hW => (h2 W hW).2, fun W _ => (clone_nil W).mono fun _ _ ⟨e, hw⟩ => by subst hw; exact ⟨Below.refl _ _, _, e⟩⟩
theorem RelR.turn (h : RelR us r M A c tn l w) (u : Int) : RelR us r M A c u l (putBlk w r #[.slice A us.length c, .map (some M), .int .u64 u] 92) := by
  have hc : Chg [r] w (putBlk w r #[.slice A us.length c, .map (some M), .int .u64 u] 92) := (Chg.refl [r] w).put (Or.inl (by simp)) _ _
  have ho : Oth w [r] := fun i hi => h.oth i (by rw [List.mem_singleton] at hi; rw [hi]; simp)
  exact ⟨putBlk_blk _ _ h.b.lt, h.s.chg hc ho, h.m.chg hc (by rw [List.mem_singleton]; exact h.ne.symm) (fun _ _ _ hv => hv.chg hc ho), h.i, h.h⟩
theorem RelR.far (h : RelR us r M A c tn l w) {b : Nat} {cs : Array Value} {t : TypeId} (hb : Blk w b cs t) (ht : t ≠ 92) : b ∉ [r, M] := by
  intro hm
  rcases List.mem_cons.1 hm with e | hm
  · exact blk_nt hb h.b ht e
  · rw [List.mem_singleton] at hm
    subst hm
    exact h.m.no_cells _ _ _ hb
set_option maxRecDepth 100000 in
set_option maxHeartbeats 1600000 in
theorem do_any (h : RelR us r M A c tn l w) (hT : Tabs w) (kd t : Int) (hkd : 0 ≤ kd ∧ kd ≤ 255) (B : Option Addr) (rc : Nat) (row : List V) (hv : VRow w B row) :
    Calls Tryz.prog 24 #[.pointer (some ⟨r, 0, none⟩), .agg #[.int .u8 kd, .int .i64 t, .slice B row.length rc]] w (DoQ us r M A c (doS us l kd t row) w) := by
  have HPL := Lib.hid (fun (W : World) (hW : Below w.heap.size w W) => place_any (h.ext hW) (hT.ext hW) kd t B rc row (hv.ext hW))
  have HBAD := Lib.hid (fun hb => doS_bad (us := us) (l := l) (kd := kd) (t := t) (row := row) hb)
  have HOP := Lib.hid (fun p hk hp => do_op (us := us) (kd := kd) (t := t) (row := row) (p := p) hk hp)
  have HOK := Lib.hid (fun p hp => plF_ok (kd := kd) (t := t) (row := row) (p := p) h.h hp hv.1)
  have HLK := Lib.hid (fun (W : World) (M : Nat) (hW : OpsM W M) => hW.look hkd)
  have HOS := Lib.hid ops_any
  have HR := Lib.hid h
  have HV := Lib.hid hv
  obtain ⟨F, hF⟩ : ∃ q, q = doS us l kd t row := ⟨_, rfl⟩
  rw [← hF] at HBAD ⊢
  have HF := Lib.hid hF
  clear h hT hkd hv hF
  obtain ⟨n, hn⟩ : ∃ q, q = row.length := ⟨_, rfl⟩
  rw [← hn] at HPL HOP ⊢
  clear hn
  go_enter Tryz.func24, Tryz.ntmps24
  go_upto_region 1 with fail
  have hbo := Blk.new w #[.int .u8 kd, .int .i64 t, .slice B n rc] 58
  have hC : Below w.heap.size w (w.alloc (.cells #[.int .u8 kd, .int .i64 t, .slice B n rc] 58)) := (by repeat (first | exact Below.refl _ _ | assumption | refine Below.drew ?_ | refine below_drewN ?_ _ | refine Below.alloc ?_ (by simp <;> omega) _))
  have HBO := Lib.hid hbo
  have HC := Lib.hid hC
  clear hbo hC
  generalize w.alloc (.cells #[.int .u8 kd, .int .i64 t, .slice B n rc] 58) = W0 at HBO HC ⊢
  generalize hBo : w.heap.size = Bo at HBO ⊢
  clear hBo
  go_upto_region 3 with fail
  go_cut [7, 8] (fun p q wx => p = opV kd ∧ q = .bool (opB kd) ∧ Hid (Below W0.heap.size W0 wx))
  case first =>
    refine region_grow [false, false, false, false, false, false, false, true, true, false, false, false, false, false, true, true, true, true, true, true, true, false, false, false, false, false, false, false, false, false, false, false, false, false, false, false, false, false, false, false, false, false, false, false, false, false, false, false, false, false, false, false, false, false, false, false, false, false, false, false, false, false] [15, 16, 17, 18, 14, 19, 20, 7, 8] [.mem (fun v w2 => ∃ M, v = .map (some M) ∧ OpsM w2 M) (fun v w2 w3 ⟨M, h1, h2⟩ hb => ⟨M, h1, h2.ext hb⟩), .val (.pointer (some ⟨Bo, 0, none⟩)), .val (.int .u8 kd), .val (.tuple #[opV kd, .bool (opB kd)]), .val (.tuple #[opV kd, .bool (opB kd)]), .val (opV kd), .val (.bool (opB kd)), .val (opV kd), .val (.bool (opB kd))] [7, 8] (by kernel_rfl) (by kernel_rfl) (by kernel_rfl) (by kernel_rfl) (by kernel_rfl) ⟨?_, ?_, ?_, ?_, ?_, ?_, ?_, ?_, ?_, trivial⟩ ?done
    case done =>
      intro x w5 hb5
      simp only [StepGoal, overlay, upd, cond_true, cond_false, List.getD_cons_zero, List.getD_cons_succ, Nat.zero_add, Nat.reduceAdd, Nat.reduceEqDiff, reduceIte]
      go_wp2_with fail
      go_meet
      exact ⟨rfl, rfl, hb5⟩
    all_goals
      intro x w5 hb5
      first
        | rintro v ⟨M2, rfl, hM2⟩ v' ⟨M', rfl, hM⟩ K hK
        | rintro v ⟨M', rfl, hM⟩ K hK
        | intro K hK
      have hB0 := HBO.out.ext hb5
      have x0 := hB0.cell 0
      have lx := hB0.lt
      simp only [List.getElem?_toArray, List.getElem?_cons_zero] at x0
      try have hlk := HLK.out w5 M' hM
      rw [if_pos (by rfl)]; simp only [overlay, upd, cond_true, cond_false, List.getD_cons_zero, List.getD_cons_succ, Nat.reduceEqDiff, reduceIte]
      go_simp
      first
        | exact hK.out _ _ (Below.refl _ _) rfl
        | ((with_reducible refine (HOS.out _).mono ?_); rintro e wa ⟨hba, M2, rfl, ho2⟩; go_wp2_with fail; exact hK.out _ _ hba ⟨M2, rfl, ho2⟩)
  case rest =>
    obtain ⟨rfl, rfl, HB1⟩ := hcut
    rename World => w1
    have HBO1 := Lib.hid (HBO.out.ext HB1.out)
    have HC1 := Lib.hid (bt HC.out HB1.out)
    clear HLK HOS HBO HC HB1
    cases hop : opB kd
    · have HF2 := Lib.hid (HBAD.out (Or.inl hop))
      clear hop
      go_wp2_with fail
      refine bodyPost_ret (v := .tuple #[.slice none 0 0, .slice none 0 0, .int .i64 2]) (by simp [results, Tryz.results24, go_sem]) rfl ?_
      rw [HF2.out]
      exact ⟨⟨_, _, rfl⟩, Chg.of_below HC1.out, _, HR.out.ext HC1.out⟩
    · have HOPB := Lib.hid hop
      clear hop
      have o0 := HBO1.out.cell 0
      have o1 := HBO1.out.cell 1
      have o2 := HBO1.out.cell 2
      have lo := HBO1.out.lt
      simp only [List.getElem?_toArray, List.getElem?_cons_zero, List.getElem?_cons_succ] at o0 o1 o2
      go_wp2_with fail
      refine (HPL.out _ HC1.out).mono ?_
      rintro q w2 ⟨hb2, hp1, hp2⟩
      have HC2 := Lib.hid (bt HC1.out hb2)
      have HBO2 := Lib.hid (HBO1.out.ext hb2)
      clear o0 o1 o2 lo HPL hb2
      cases hpl : plF us kd t row with
      | none =>
        obtain ⟨t', k', rfl⟩ := hp2 hpl
        have HF2 := Lib.hid (HBAD.out (Or.inr hpl))
        obtain ⟨kk, kn, kr, kt⟩ := k'
        unfold plc
        simp only
        clear hp1 hp2 hpl
        go_wp2_with fail
        refine bodyPost_ret (v := .tuple #[.slice none 0 0, .slice none 0 0, .int .i64 2]) (by simp [results, Tryz.results24, go_sem]) rfl ?_
        rw [HF2.out]
        exact ⟨⟨_, _, rfl⟩, Chg.of_below (bt HC2.out (by repeat (first | exact Below.refl _ _ | assumption | refine Below.drew ?_ | refine below_drewN ?_ _ | refine Below.alloc ?_ (by simp <;> omega) _))), _, HR.out.ext (bt HC2.out (by repeat (first | exact Below.refl _ _ | assumption | refine Below.drew ?_ | refine below_drewN ?_ _ | refine Below.alloc ?_ (by simp <;> omega) _)))⟩
      | some p =>
        obtain rfl := hp1 p hpl
        obtain ⟨g, hgv, eg, hcall⟩ := HOP.out p HOPB.out hpl
        have hokp := HOK.out p hpl
        have HCALL := Lib.hid (fun (W : World) (hW : Below w.heap.size w W) => hcall (HR.out.ext hW) B rc (HV.out.ext hW))
        obtain ⟨V9, hl9, _⟩ := HR.out.clone hokp
        have HL9 := Lib.hid hl9
        have HCLN := Lib.hid (fun (l' : List Rw) (tn' : Int) (W : World) (hW : RelR us r M A c tn' l' W) => hW.clone hokp)
        obtain ⟨p1, key⟩ := p
        obtain ⟨kk, kn, kr, kt⟩ := key
        unfold plc at HCALL HL9 HCLN ⊢
        simp only at HCALL HL9 HCLN ⊢
        rw [hgv]
        unfold fnV
        clear hp1 hp2 hpl hgv hcall hl9 hokp HOP HOK HBAD
        have hmm9 := Blk.new w2 #[.int .i64 p1, .int .u8 kk, .int .i64 kn, .int .u64 kr, .string kt] 101
        have hbl9 : Below w2.heap.size w2 (w2.alloc (.cells #[.int .i64 p1, .int .u8 kk, .int .i64 kn, .int .u64 kr, .string kt] 101)) := (by repeat (first | exact Below.refl _ _ | assumption | refine Below.drew ?_ | refine below_drewN ?_ _ | refine Below.alloc ?_ (by simp <;> omega) _))
        have HP9 := Lib.hid hmm9
        have HC9 := Lib.hid (bt HC2.out hbl9)
        have HBO9 := Lib.hid (HBO2.out.ext hbl9)
        clear hmm9 hbl9
        go_upto_region 9 with fail
        generalize w2.alloc (.cells #[.int .i64 p1, .int .u8 kk, .int .i64 kn, .int .u64 kr, .string kt] 101) = W9 at HP9 HC9 HBO9 ⊢
        generalize w2.heap.size = B9 at HP9 ⊢
        go_cut [10] (fun v wx => v = V9 ∧ Hid (Below W9.heap.size W9 wx))
        case first =>
          refine region_grow [false, false, false, false, false, false, false, false, false, false, true, false, false, false, false, false, false, false, false, false, false, false, false, false, false, false, false, false, false, false, false, false, true, true, true, true, true, true, false, false, false, false, false, false, false, false, false, false, false, false, false, false, false, false, false, false, false, false, false, false, false, false] [32, 33, 34, 35, 36, 37, 10] [.val (.pointer (some ⟨r, 0, none⟩)), .val (.pointer (some ⟨r, 0, none⟩)), .val (.pointer (some ⟨r, 1, none⟩)), .val (.map (some M)), .val (.agg #[.int .i64 p1, .int .u8 kk, .int .i64 kn, .int .u64 kr, .string kt]), .val (V9), .val (V9)] [6] (by kernel_rfl) (by kernel_rfl) (by kernel_rfl) (by kernel_rfl) (by kernel_rfl) ⟨?_, ?_, ?_, ?_, ?_, ?_, ?_, trivial⟩ ?done
          case done =>
            intro x w5 hb5
            simp only [StepGoal, overlay, upd, cond_true, cond_false, List.getD_cons_zero, List.getD_cons_succ, Nat.zero_add, Nat.reduceAdd, Nat.reduceEqDiff, reduceIte]
            go_wp2_with fail
            go_meet
            exact ⟨rfl, hb5⟩
          all_goals
            intro x w5 hb5
            intro K hK
            have hB := HR.out.b.ext (bt HC9.out hb5)
            have hP := HP9.out.ext hb5
            have hlk := HL9.out w5 (bt HC9.out hb5)
            have y1 := hB.cell 1
            have x0 := hP.cell 0
            have x1 := hP.cell 1
            have x2 := hP.cell 2
            have x3 := hP.cell 3
            have x4 := hP.cell 4
            have ly := hB.lt
            have lx := hP.lt
            simp only [List.getElem?_toArray, List.getElem?_cons_zero, List.getElem?_cons_succ] at y1 x0 x1 x2 x3 x4
            clear hB hP
            rw [if_pos (by rfl)]; simp only [overlay, upd, cond_true, cond_false, List.getD_cons_zero, List.getD_cons_succ, Nat.reduceEqDiff, reduceIte]
            go_simp
            exact hK.out _ _ (Below.refl _ _) rfl
        case rest =>
          obtain ⟨rfl, HB10⟩ := hcut
          rename World => w10
          have HC10 := Lib.hid (bt HC9.out HB10.out)
          have HP10 := Lib.hid (HP9.out.ext HB10.out)
          have HBO10 := Lib.hid (HBO9.out.ext HB10.out)
          have o2 := HBO10.out.cell 2
          have lo := HBO10.out.lt
          have x0 := HP10.out.cell 0
          have x1 := HP10.out.cell 1
          have x2 := HP10.out.cell 2
          have x3 := HP10.out.cell 3
          have x4 := HP10.out.cell 4
          have lx := HP10.out.lt
          simp only [List.getElem?_toArray, List.getElem?_cons_zero, List.getElem?_cons_succ] at o2 x0 x1 x2 x3 x4
          clear HP9 HBO9 HC9 HB10 HL9
          go_wp2_with fail
          refine (HCALL.out _ HC10.out).mono ?_
          rw [← HF.out]
          rintro q w11 ⟨rfl, hc, hr⟩
          have HCH := Lib.hid ((Chg.of_below (S := [M]) HC10.out).trans hc (fun _ hi => Or.inl hi))
          have HR11 := Lib.hid hr
          have HP11 := Lib.hid (HP10.out.chg hc (fun hm => (HR.out.ext HC10.out).far HP10.out (by decide) (List.mem_cons_of_mem _ hm)))
          have HCW := Lib.hid (show Chg [r, M] w w11 from HCH.out.weak (fun i hi => Or.inl (List.mem_cons_of_mem _ hi)))
          clear o2 lo x0 x1 x2 x3 x4 lx hc hr HCALL HP10 HBO10 HCH
          obtain ⟨e1, l1⟩ := F
          simp only at HR11 ⊢
          by_cases he : e1 = 0
          · subst he
            have hB := HR11.out.b
            have HTN := Lib.hid (fun u => HR11.out.turn u)
            have HFAR := Lib.hid (HR11.out.far HP11.out (by decide))
            obtain ⟨w3, rfl, lt⟩ := blk_put hB
            obtain ⟨pc, pf, pS⟩ := putBlk_facts (w := w3) 92 lt
            have HR12 := Lib.hid (HTN.out (IntKind.u64.wrap (tn + 1)))
            rw [put_put'] at HR12
            have hP12 := HP11.out.chg (S := [r]) ((Chg.refl [r] (putBlk w3 r #[.slice A us.length c, .map (some M), .int .u64 tn] 92)).put (b := r) (Or.inl (by simp)) #[.slice A us.length c, .map (some M), .int .u64 (IntKind.u64.wrap (tn + 1))] 92) (fun hm => HFAR.out (by rw [List.mem_singleton] at hm; rw [hm]; simp))
            have hC12 := HCW.out.trans (S := [r, M]) (T := [r]) ((Chg.refl [r] (putBlk w3 r #[.slice A us.length c, .map (some M), .int .u64 tn] 92)).put (b := r) (Or.inl (by simp)) #[.slice A us.length c, .map (some M), .int .u64 (IntKind.u64.wrap (tn + 1))] 92) (fun i hi => Or.inl (by rw [List.mem_singleton] at hi; rw [hi]; simp))
            rw [put_put'] at hP12 hC12
            have HP12 := Lib.hid hP12
            have HC12 := Lib.hid hC12
            clear hB hP12 hC12 HTN HFAR HR11 HP11 HCW
            go_upto_region 14 with fail
            clear pc pf pS
            generalize putBlk w3 r #[.slice A us.length c, .map (some M), .int .u64 (IntKind.u64.wrap (tn + 1))] 92 = w12 at HR12 HP12 HC12 ⊢
            obtain ⟨V8, hl8, hcl8⟩ := HCLN.out _ _ _ HR12.out
            have HL8 := Lib.hid hl8
            have HCL8 := Lib.hid hcl8
            clear hl8 hcl8 HCLN lt
            refine region_grow [false, false, false, false, true, true, true, false, false, false, false, false, false, false, false, false, false, false, false, false, false, false, false, false, false, false, false, false, false, false, false, false, false, false, false, false, false, false, false, false, false, false, false, false, false, false, false, false, false, false, false, false, false, false, true, true, true, true, true, true, true, true] [54, 55, 56, 57, 58, 59, 60, 61, 4, 5, 6] [.val (u10), .val (.pointer (some ⟨r, 0, none⟩)), .val (.pointer (some ⟨r, 0, none⟩)), .val (.pointer (some ⟨r, 1, none⟩)), .val (.map (some M)), .val (.agg #[.int .i64 p1, .int .u8 kk, .int .i64 kn, .int .u64 kr, .string kt]), .val (V8), kAny, .val (u10), kAny, .val (.int .i64 0)] [8, 9, 10] (by kernel_rfl) (by kernel_rfl) (by kernel_rfl) (by kernel_rfl) (by kernel_rfl) ⟨?_, ?_, ?_, ?_, ?_, ?_, ?_, ?_, ?_, ?_, ?_, trivial⟩ ?done
            case done =>
              intro x w5 hb5
              simp only [StepGoal, overlay, upd, cond_true, cond_false, List.getD_cons_zero, List.getD_cons_succ, Nat.zero_add, Nat.reduceAdd, Nat.reduceEqDiff, reduceIte]
              intro v _
              go_wp2_with fail
              refine bodyPost_ret (v := .tuple #[u10, v, .int .i64 0]) (by simp [results, Tryz.results24, go_sem]) rfl ?_
              exact ⟨⟨_, _, rfl⟩, HC12.out.andBelow hb5, _, HR12.out.ext hb5⟩
            all_goals
              intro x w5 hb5
              first
                | (intro v _ v' _ v2 _ v3 _ K hK)
                | (intro v _ v' _ v2 _ K hK)
                | (intro v _ v' _ K hK)
                | (intro v _ K hK)
                | (intro K hK)
              have hB := HR12.out.b.ext hb5
              have hP := HP12.out.ext hb5
              have hlk := HL8.out w5 hb5
              have y1 := hB.cell 1
              have x0 := hP.cell 0
              have x1 := hP.cell 1
              have x2 := hP.cell 2
              have x3 := hP.cell 3
              have x4 := hP.cell 4
              have ly := hB.lt
              have lx := hP.lt
              simp only [List.getElem?_toArray, List.getElem?_cons_zero, List.getElem?_cons_succ] at y1 x0 x1 x2 x3 x4
              clear hB hP
              rw [if_pos (by rfl)]; simp only [overlay, upd, cond_true, cond_false, List.getD_cons_zero, List.getD_cons_succ, Nat.reduceEqDiff, reduceIte]
              go_simp
              first
                | exact hK.out _ _ (Below.refl _ _) rfl
                | exact hK.out _ _ (Below.refl _ _) trivial
                | ((with_reducible refine (HCL8.out _ hb5).mono ?_); rintro e wa ⟨hba, v2, rfl⟩; go_wp2_with fail; exact hK.out _ _ hba trivial)
          · have hne : (e1 != 0) = true := by rw [bne_iff_ne]; exact he
            clear he
            go_wp2_with fail
            refine bodyPost_ret (v := .tuple #[.slice none 0 0, .slice none 0 0, .int .i64 e1]) (by simp [results, Tryz.results24, go_sem]) rfl ?_
            exact ⟨⟨_, _, rfl⟩, HCW.out, _, HR11.out⟩
end Go.Proofs.YtgklopgeimjgiaaGreatDoor
