/- Several texts in one: see each part's head. -/
import Derived.Test.YtgklopgeimjgiaaGreatDoorJ36
/- VerifySees: agg.All. -/
namespace Go.Proofs.YtgklopgeimjgiaaGreatDoor
open Go.RowKit

/-- The documents of the first k tables. -/
def docsTo (us : List Ta) (l : List Rw) (k : Nat) : List De :=
  ((List.range k).filter fun t => match us[t]? with
  | some u => decide (u.par < 0)
  | none => false).flatMap fun t => (l.filter fun x => decide (x.1 = t)).map (docF (kdsN us) (keyN us) (refN us) l 8)
theorem docsTo_all (us : List Ta) (l : List Rw) : docsTo us l us.length = docsN us l := rfl
theorem docsTo_yes {us : List Ta} {l : List Rw} {k : Nat} {u : Ta} (hu : us[k]? = some u) (hp : u.par < 0) : docsTo us l (k + 1) = docsTo us l k ++ (l.filter fun x => decide (x.1 = k)).map (docF (kdsN us) (keyN us) (refN us) l 8) := by
  unfold docsTo
  rw [List.range_succ, List.filter_append, List.flatMap_append, List.filter_cons, hu]
  simp [hp]
theorem docsTo_no {us : List Ta} {l : List Rw} {k : Nat} {u : Ta} (hu : us[k]? = some u) (hp : ¬ u.par < 0) : docsTo us l (k + 1) = docsTo us l k := by
  unfold docsTo
  rw [List.range_succ, List.filter_append, List.flatMap_append, List.filter_cons, hu]
  simp [hp]
theorem docsTo_le (us : List Ta) (l : List Rw) (hl : l.length ≤ 200) (k : Nat) : (docsTo us l k).length ≤ k * 200 := by
  unfold docsTo
  refine Nat.le_trans (flat_le _ 200 _ (fun x _ => by rw [List.length_map]; exact Nat.le_trans (List.length_filter_le _ _) hl)) ?_
  exact Nat.mul_le_mul_right _ (Nat.le_trans (List.length_filter_le _ _) (by simp))
/-- Documents, collected. -/
structure AllI (w : World) (K : Option Addr) (kc : Nat) (ds : List De) (W : World) : Prop where
  b : Below w.heap.size w W
  k : ∃ xs, W.ownsRow w.heap.size 42 3 (.slice K ds.length kc) ds.length xs ∧ KCells (DRp (fun b => w.heap.size ≤ b ∧ b ∉ gS K) 9 W) xs ds
variable {us : List Ta} {r M : Nat} {A : Option Addr} {c : Nat} {tn : Int} {l : List Rw} {w W W' : World} {K : Option Addr} {kc : Nat} {ds : List De}
theorem AllI.start (w : World) : AllI w none 0 [] w := ⟨Below.refl _ _, [], World.ownsRow_nil _ _ _ _, KCells.nil _⟩
theorem AllI.ext (h : AllI w K kc ds W) (hb : Below W.heap.size W W') : AllI w K kc ds W' := by
  obtain ⟨xs, h1, h2⟩ := h.k
  exact ⟨bt h.b hb, xs, own_below h1 hb, h2.mono fun v k hv => hv.ext hb⟩
theorem AllI.add (h : AllI w K kc ds W) {W1 W2 : World} (hb : Below W.heap.size W W1) {c0 c1 c2 : Value} {d : De} (hd : DRp (fun b => w.heap.size ≤ b ∧ b ∉ gS K) 9 W1 (.agg #[c0, c1, c2]) d) {g c' : Nat} {xs : List Value}
    (hx2 : KCells (DRp (fun b => w.heap.size ≤ b ∧ b ∉ gS K) 9 W) xs ds)
    (ho : W2.ownsRow w.heap.size 42 3 (.slice (some ⟨g, 0, none⟩) (ds.length + 1) c') (ds.length + 1) (xs ++ [c0, c1, c2])) (hg : W1.grownBy W2 (Value.slice K ds.length kc).ownBlock) (hge : ∀ i ∈ gS K, w.heap.size ≤ i) (hat : (Value.slice K ds.length kc).ownBlock = some g ∨ g = W1.heap.size) :
    AllI w (some ⟨g, 0, none⟩) c' (ds ++ [d]) W2 := by
  have hc := Chg.of_grownV hg
  have hkeep : ∀ v k, DRp (fun b => w.heap.size ≤ b ∧ b ∉ gS K) 9 W1 v k → DRp (fun b => w.heap.size ≤ b ∧ b ∉ gS (some ⟨g, 0, none⟩)) 9 W2 v k := by
    intro v k hv
    have h1 := hv.weak (Q := fun b => w.heap.size ≤ b ∧ b ∉ gS K ∧ b ≠ g) (fun b hP hlt => ⟨hP.1, hP.2, fun e => by
      rcases hat with h2 | h2
      · exact hP.2 (e ▸ gS_own.1 h2)
      · omega⟩)
    have h2 := h1.keep (w' := W2) hg.size (fun b hP hlt => hc.block b hlt hP.2.1)
    exact h2.weak (fun b hP _ => ⟨hP.1, by simpa [gS] using hP.2.2⟩)
  refine ⟨(bt h.b hb).trans (hc.below (bt h.b hb).size hge), xs ++ [c0, c1, c2], ?_, ?_⟩
  · rw [List.length_append]; exact ho
  · exact (hx2.mono fun v k hv => hkeep v k (hv.ext hb)).app (KCells.one (hkeep _ _ hd))
theorem own_blks {base n k : Nat} {e : TypeId} {xs : List Value} (h : W.ownsRow base e n (.slice K k kc) k xs) (hb : Below W.heap.size W W') : ∀ i ∈ gS K, base ≤ i ∧ i < W.heap.size ∧ ∃ cs, W'.heap[i]? = some (.cells cs e (0, 0)) := fun i hi =>
  ⟨(h.lt i (gS_own.2 hi)).1, (h.lt i (gS_own.2 hi)).2, own_typ (own_below h hb) (gS_own.2 hi)⟩
theorem schema_tabs (A : Option Addr) (n c : Nat) (w : World) : (Instr.field 24 (.agg #[.slice A n c]) 0).run Tryz.prog w = .ok (.slice A n c) w := by kernel_rfl
def AllQ (us : List Ta) (l : List Rw) (w : World) (q : Ending) (w' : World) : Prop :=
  ∃ K kc, q = .returned (.tuple #[.slice K (docsN us l).length kc, .int .i64 0]) ∧ AllI w K kc (docsN us l) w'
theorem AllI.low {w0 : World} (h : AllI w K kc ds W) (hb : Below w0.heap.size w0 w) : AllI w0 K kc ds W := by
  obtain ⟨xs, h1, h2⟩ := h.k
  exact ⟨bt hb h.b, xs, own_base' h1 hb.size, h2.mono fun v k hv => hv.weak (fun b hP _ => ⟨Nat.le_trans hb.size hP.1, hP.2⟩)⟩
set_option maxRecDepth 100000 in
set_option maxHeartbeats 3200000 in
theorem all_any (h : RelR us r M A c tn l w) : Calls Tryz.prog 8 #[.pointer (some ⟨r, 0, none⟩)] w (AllQ us l w) := by
  have HR := Lib.hid h
  have HDO := Lib.hid (doer_any h)
  clear h
  go_enter Tryz.func8, Tryz.ntmps8
  go_wp2_with fail
  refine HDO.out.mono ?_
  rintro q w1 ⟨hb1, bl, b1, b3, b6, rfl, hE⟩
  have HB1 := Lib.hid hb1
  have HSC := Lib.hid (relschema_any hE.rel)
  have HE := Lib.hid hE
  clear hb1 hE HDO
  go_wp2_with fail
  refine HSC.out.mono ?_
  rintro q w2 ⟨hb2, A2, c2, vs, rfl, hos, hd⟩
  have HB2 := Lib.hid (bt HB1.out hb2)
  have HE2 := Lib.hid (HE.out.ext hb2)
  have HOS := Lib.hid hos
  have HD := Lib.hid hd
  clear hb2 hos hd HSC HE HB1
  obtain ⟨n, hn⟩ : ∃ n, n = vs.length := ⟨_, rfl⟩
  rw [← hn]
  have HN : Hid (n = vs.length ∧ n = us.length ∧ n ≤ 12) := by
    have e := congrArg List.length HD.out
    rw [List.length_map, List.length_map] at e
    exact ⟨hn, by omega, by have := schN HE2.out.rel.h; omega⟩
  clear hn
  have hft := schema_tabs
  go_wp2_with fail
  clear hft
  go_loopw [2, 17] (fun o v wr => ∃ k : Nat, k ≤ n ∧ v = .int .i64 k ∧ ∃ K kc, o = .slice K (docsTo us l k).length kc ∧ Hid (AllI w2 K kc (docsTo us l k) wr)) (fun _ v _ => n - (intOf v).toNat)
  case atStart => exact ⟨0, by omega, rfl, none, 0, rfl, AllI.start w2⟩
  case round =>
    obtain ⟨k, hk, rfl, K, kc, rfl, HI⟩ := hrel
    by_cases hlt : k < n
    · have hkv : k < vs.length := by have := HN.out.1; omega
      have w1' : IntKind.i64.wrap ((k : Int) + 1) = (k : Int) + 1 := IntWalk.i64_in _ (by have := HN.out.2.2; omega)
      have i0 : (k : Int) < n := by omega
      obtain ⟨sb, so, v0, hA2, hsb, hv0, _, _, _, e0, e1, e2, e3, e4⟩ := HOS.out.trow.at_ hkv
      subst hA2
      obtain ⟨u0, hu0, hud⟩ := map_d_get HD.out hv0
      have hup : u0.par = v0.par := by
        have h1 := congrArg (fun q => q.2.2.2.2) hud
        simp only [Ta.d] at h1
        exact h1.symm
      have HU := Lib.hid (And.intro hu0 hup)
      have e0 := (HI.out.b.cell (p := ⟨sb, so + k * 5, none⟩) hsb).trans e0
      have e1 := (HI.out.b.cell (p := ⟨sb, so + k * 5 + 1, none⟩) hsb).trans e1
      have e2 := (HI.out.b.cell (p := ⟨sb, so + k * 5 + 2, none⟩) hsb).trans e2
      have e3 := (HI.out.b.cell (p := ⟨sb, so + k * 5 + 3, none⟩) hsb).trans e3
      have e4 := (HI.out.b.cell (p := ⟨sb, so + k * 5 + 4, none⟩) hsb).trans e4
      have le := Nat.lt_of_lt_of_le hsb HI.out.b.size
      obtain ⟨nm, cs, ky, rf, pr, cA, cc⟩ := v0
      simp only at e0 e1 e2 e3 e4 HU
      have HT := Lib.hid hlt
      clear hsb hv0 hu0 hud hup hkv hlt
      go_upto_region 7 with fail
      have hb3 : Below wr.heap.size wr (wr.alloc (.cells #[.string nm, .slice cA cs.length cc, .int .i64 ky, .int .i64 rf, .int .i64 pr] 46)) := (by repeat (first | exact Below.refl _ _ | assumption | refine Below.drew ?_ | refine below_drewN ?_ _ | refine Below.alloc ?_ (by simp <;> omega) _))
      have h3 := Blk.new wr #[.string nm, .slice cA cs.length cc, .int .i64 ky, .int .i64 rf, .int .i64 pr] 46
      have HI3 := Lib.hid (HI.out.ext hb3)
      clear e0 e1 e2 e3 e4 le hb3
      generalize wr.alloc (.cells #[.string nm, .slice cA cs.length cc, .int .i64 ky, .int .i64 rf, .int .i64 pr] 46) = w3 at h3 HI3 ⊢
      have p4 := h3.cell 4
      have lp := h3.lt
      simp only [List.getElem?_toArray, List.getElem?_cons_zero, List.getElem?_cons_succ] at p4
      clear h3
      by_cases hp : pr < 0
      · have i1 : ¬ pr ≥ 0 := by omega
        have HP := Lib.hid hp
        have HRW := Lib.hid (rows_any (HE2.out.rel.ext HI3.out.b) k (by have := HN.out.2.1; have := HT.out; omega))
        clear hp
        go_wp2_with fail
        refine HRW.out.mono ?_
        rintro q w4 ⟨hb4, A5, m5, its, rfl, hits, hown, hros⟩
        have HI4 := Lib.hid (HI3.out.ext hb4)
        have HSI : Hid (SomeI w2.heap.size its A5 m5 w4) := ⟨own_base' hown HI3.out.b.size, fun i hi => (hros i hi).low HI3.out.b.size⟩
        have HIT := Lib.hid hits
        have HLF : Hid (its.length ≤ 200 ∧ ∀ i ∈ its, i.x.1 = k ∧ rowS us k i.x.2 = true) := by
          refine ⟨?_, fun i hi => ?_⟩
          · have e : its.length = (l.filter fun x => decide (x.1 = k)).length := by rw [← hits, List.length_map]
            rw [e]; exact Nat.le_trans (List.length_filter_le _ _) HR.out.i.few
          · have h1 : i.x ∈ l.filter fun x => decide (x.1 = k) := by rw [← hits]; exact List.mem_map.2 ⟨i, hi, rfl⟩
            rw [List.mem_filter] at h1
            have h2 := of_decide_eq_true h1.2
            have h3 := (HR.out.i.fit i.x h1.1).1
            rw [h2] at h3
            exact ⟨h2, h3⟩
        clear hb4 hits hown hros p4 lp HRW
        obtain ⟨pre, hpre⟩ : ∃ q, q = docsTo us l k := ⟨_, rfl⟩
        rw [← hpre] at HI4 ⊢
        have HPRE : Hid (pre = docsTo us l k ∧ pre.length ≤ 3000) := ⟨hpre, by
          have h1 := docsTo_le us l HR.out.i.few k
          have := HN.out.2.2
          rw [hpre]; omega⟩
        clear hpre
        go_wp2_with fail
        go_loopw [2, 29] (fun o v wr => ∃ b : Nat, b ≤ its.length ∧ v = .int .i64 b ∧ Hid (SomeI w2.heap.size its A5 m5 wr) ∧ ∃ K2 kc2, o = .slice K2 (pre ++ (its.take b).map fun i => docF (kdsN us) (keyN us) (refN us) l 8 i.x).length kc2 ∧ Hid (AllI w2 K2 kc2 (pre ++ (its.take b).map fun i => docF (kdsN us) (keyN us) (refN us) l 8 i.x) wr)) (fun _ v _ => its.length - (intOf v).toNat)
        case atStart => exact ⟨0, by omega, rfl, HSI.out, K, kc, by simp, by have h := HI4.out; rw [← List.append_nil pre] at h; exact h⟩
        case round =>
          obtain ⟨b, hb, rfl, HSi, K2, kc2, rfl, HDi⟩ := hrel
          clear HSI HI4 HI3
          obtain ⟨ks, hks⟩ : ∃ q, q = pre ++ (its.take b).map fun i => docF (kdsN us) (keyN us) (refN us) l 8 i.x := ⟨_, rfl⟩
          rw [← hks] at HDi ⊢
          have HKS := Lib.hid hks
          clear hks
          by_cases hlt2 : b < its.length
          · obtain ⟨it, hit⟩ : ∃ it, its[b]? = some it := ⟨_, List.getElem?_eq_getElem hlt2⟩
            have him : it ∈ its := List.mem_of_getElem? hit
            obtain ⟨g5, c5, hA5, _, hg5⟩ := HSi.out.1.form (by omega : 0 < its.length)
            simp only [Value.slice.injEq, true_and] at hA5
            obtain ⟨rfl, rfl⟩ := hA5
            have y0 := HSi.out.1.cells (g := g5) rfl b (itV it) (by rw [List.getElem?_map, hit]; rfl)
            rw [addr_add, Nat.zero_add] at y0
            have i8 : (b : Int) < its.length := by omega
            have w1'' : IntKind.i64.wrap ((b : Int) + 1) = (b : Int) + 1 := IntWalk.i64_in _ (by have := HLF.out.1; omega)
            obtain ⟨⟨ix, ir⟩, iA, ic⟩ := it
            have hrf := HSi.out.2 _ him
            obtain ⟨hix, hirs⟩ := HLF.out.2 _ him
            simp only at hix hirs hrf
            replace hix := hix.symm
            subst hix
            unfold itV at y0
            simp only at y0
            obtain ⟨il, hil⟩ : ∃ q, q = ir.length := ⟨_, rfl⟩
            rw [← hil] at y0
            obtain ⟨xs, hx1, hx2⟩ := HDi.out.k
            obtain ⟨D, hD⟩ : ∃ q, q = docF (kdsN us) (keyN us) (refN us) l 8 (k, ir) := ⟨_, rfl⟩
            have HGK := Lib.hid (own_blks hx1 (Below.refl _ _))
            have HIH : Hid (Calls Tryz.prog 48 #[.int .i64 k, .slice iA il ic, .pointer (some ⟨bl, 0, none⟩), .pointer (some ⟨b1, 0, none⟩), .pointer (some ⟨b3, 0, none⟩), .pointer (some ⟨b6, 0, none⟩)] wr (fun q W' => Below wr.heap.size wr W' ∧ ∃ c0 c1 c2, q = .returned (.agg #[c0, c1, c2]) ∧ DRp (fun b => w2.heap.size ≤ b ∧ b ∉ gS K2) 9 W' (.agg #[c0, c1, c2]) D)) := by
              rw [hil, hD]
              refine (doer1_any 8 k ir iA ic wr (HE2.out.ext HDi.out.b) hirs hrf.1.vrow (by omega)).mono ?_
              rintro q W' ⟨h1, v, rfl, h2⟩
              obtain ⟨c0, c1, c2, rfl⟩ := h2.form_
              refine ⟨h1, c0, c1, c2, rfl, h2.weak (fun b hP _ => ?_)⟩
              rcases hP with h3 | ⟨p, hp, rfl⟩
              · exact ⟨Nat.le_trans HDi.out.b.size h3, fun hm => by have := (HGK.out b hm).2.1; omega⟩
              · exact ⟨hrf.2 p hp, fun hm => hrf.no_doc hp (HGK.out _ hm).2.2 rfl⟩
            have HX := Lib.hid (And.intro hx1 hx2)
            have HSM := Lib.hid (And.intro hD (And.intro hit hlt2))
            have HKL : Hid (ks.length ≤ 3200) := by
              show ks.length ≤ 3200
              rw [HKS.out, List.length_append, List.length_map, List.length_take]
              have := HPRE.out.2
              have := HLF.out.1
              omega
            clear hirs hrf him hx1 hx2 hD hit hil hlt2
            obtain ⟨j0, hj0, hz0, hz1, hz2⟩ := info_parts info_Dc
            go_wp2_with fail
            refine HIH.out.mono ?_
            rintro q w6 ⟨hb6, c0, c1, c2, rfl, hd6⟩
            have HD6 := Lib.hid hd6
            have HB6 := Lib.hid hb6
            clear hb6 hd6 y0 hg5
            go_wp2_with (at_builtin; refine wpList_append_lies _ rfl _ _ 34 rfl w2.heap.size 42 j0 _ 3 56 Tryz.underlying34 hj0 hz0 hz1 hz2 rfl (by decide) (.slice K2 ks.length kc2) ks.length xs (by simp [go_sem]) (own_below HX.out.1 (bt HB6.out (by repeat (first | exact Below.refl _ _ | assumption | refine Below.drew ?_ | refine below_drewN ?_ _ | refine Below.alloc ?_ (by simp <;> omega) _)))) ⟨w6.heap.size, 0, none⟩ 1 1 [c0, c1, c2] (by simp [go_sem]) rfl (World.news_of_block (Blk.new w6 #[c0, c1, c2] 42)) HD6.out.one_ (by decide) (by have := HKL.out; simp only [maxLen]; omega) (by have := HKL.out; omega) (by have := HDi.out.b.size; have := HB6.out.size; simp; omega) _ rfl ?_)
            intro g7 c7 w7 hown7 hg7 hat7 _
            have HADD := Lib.hid (HDi.out.add (bt HB6.out (by repeat (first | exact Below.refl _ _ | assumption | refine Below.drew ?_ | refine below_drewN ?_ _ | refine Below.alloc ?_ (by simp <;> omega) _))) (HD6.out.ext (by repeat (first | exact Below.refl _ _ | assumption | refine Below.drew ?_ | refine below_drewN ?_ _ | refine Below.alloc ?_ (by simp <;> omega) _))) HX.out.2 hown7 hg7 (fun i hi => (HGK.out i hi).1) (by simpa using hat7))
            have HS7 : Hid (SomeI w2.heap.size its (some ⟨g5, 0, none⟩) m5 w7) := ((HSi.out.ext HB6.out).ext (by repeat (first | exact Below.refl _ _ | assumption | refine Below.drew ?_ | refine below_drewN ?_ _ | refine Below.alloc ?_ (by simp <;> omega) _))).chg (Chg.of_grownV hg7) (fun i hi => own_typ (own_below HX.out.1 (bt HB6.out (by repeat (first | exact Below.refl _ _ | assumption | refine Below.drew ?_ | refine below_drewN ?_ _ | refine Below.alloc ?_ (by simp <;> omega) _)))) (gS_own.2 hi))
            clear hown7 hg7 hat7
            go_wp2_with fail
            go_roundw
            case rel =>
              obtain ⟨h2, h3, h4⟩ := HSM.out
              have e : pre ++ (its.take (b + 1)).map (fun i => docF (kdsN us) (keyN us) (refN us) l 8 i.x) = ks ++ [D] := by
                rw [HKS.out, h2, List.append_assoc, List.take_add_one, h3, Option.toList_some, List.map_append]
                rfl
              refine ⟨b + 1, by omega, by simp, HS7.out, some ⟨g7, 0, none⟩, c7, by rw [e, List.length_append]; rfl, ?_⟩
              rw [e]
              exact HADD.out
            case measure =>
              have := HSM.out.2.2
              show its.length - ((b : Int) + 1).toNat < its.length - (b : Int).toNat
              omega
          · have i8 : ¬ (b : Int) < its.length := by omega
            have HF : Hid (docsTo us l (k + 1) = ks) := by
              show _ = _
              rw [docsTo_yes HU.out.1 (by rw [HU.out.2]; exact HP.out), ← HIT.out, HKS.out, ← HPRE.out.1, show b = its.length by omega, List.take_length, List.map_map]
              rfl
            have hlt := HT.out
            clear hb
            go_wp2_with fail
            go_roundw
            case rel => exact ⟨k + 1, by omega, by simp, K2, kc2, by rw [HF.out], by rw [HF.out]; exact HDi.out⟩
            case measure =>
              show n - ((k : Int) + 1).toNat < n - (k : Int).toNat
              omega
      · have i1 : pr ≥ 0 := by omega
        have HF : Hid (docsTo us l (k + 1) = docsTo us l k) := docsTo_no HU.out.1 (by rw [HU.out.2]; exact hp)
        have hlt := HT.out
        clear hp
        go_wp2_with fail
        go_roundw
        case rel => exact ⟨k + 1, by omega, by simp, K, kc, by rw [HF.out], by rw [HF.out]; exact HI3.out⟩
        case measure =>
          show n - ((k : Int) + 1).toNat < n - (k : Int).toNat
          omega
    · have hke : n = k := by omega
      subst hke
      have i0 : ¬ (n : Int) < n := by omega
      have HF : Hid (AllQ us l w (.returned (.tuple #[.slice K (docsTo us l n).length kc, .int .i64 0])) wr) := by
        have h1 := HI.out.low HB2.out
        rw [HN.out.2.1, docsTo_all] at h1 ⊢
        exact ⟨K, kc, rfl, h1⟩
      go_wp2_with fail
      go_ret2
      exact HF.out
end Go.Proofs.YtgklopgeimjgiaaGreatDoor
