/- Several texts in one: see each part's head. -/
import Derived.Test.YtgklopgeimjgiaaGreatDoorJ43
/- VerifySees: its walk. -/
namespace Go.Proofs.YtgklopgeimjgiaaGreatDoor
open Go.RowKit

/-- Documents told, in a row of one's own. -/
def ToldR (w6 : World) (told : List De) (v : Value) (W : World) : Prop := ∃ Kt ct xs, v = .slice Kt (List.length told) ct ∧ W.ownsRow w6.heap.size 42 3 (.slice Kt told.length ct) told.length xs ∧ KCells (DRd 9 w6) xs told
theorem ToldR.ext {w6 W W' : World} {told : List De} {v : Value} (h : ToldR w6 told v W) (hb : Below W.heap.size W W') : ToldR w6 told v W' := by
  obtain ⟨Kt, ct, xs, e, h1, h2⟩ := h
  exact ⟨Kt, ct, xs, e, own_below h1 hb, h2⟩
def ToldM (w6 : World) (b19 : Nat) (GC : Array Value) (told : List De) (v : Value) (W : World) : Prop := Below w6.heap.size w6 W ∧ ToldR w6 told v W ∧ Blk W b19 GC 51
def kTold (w6 : World) (told : List De) : Known := .mem (ToldR w6 told) (fun _ _ _ h hb => h.ext hb)
def kGap (lo : Nat) : Known := .mem (fun v w => ∃ b, v = .pointer (some ⟨b, 0, none⟩) ∧ lo ≤ b ∧ Blk w b #[.int .u8 0, .int .i64 0, .int .u8 0, .int .i64 0, .int .u64 0, .string ⟨#[]⟩] 51) (fun _ _ _ ⟨b, h, l, h1⟩ hb => ⟨b, h, l, h1.ext hb⟩)
theorem ToldR.start (w6 W : World) : ToldR w6 [] (.slice none 0 0) W := ⟨none, 0, [], rfl, World.ownsRow_nil _ _ _ _, KCells.nil _⟩
theorem ToldR.krow {w6 W : World} {told : List De} {v : Value} (h : ToldR w6 told v W) (hb : Below w6.heap.size w6 W) (hl : told.length ≤ 3000) : ∃ Kt ct, v = .slice Kt told.length ct ∧ KRow (DRd 9 W) W Kt told := by
  obtain ⟨Kt, ct, xs, e, h1, h2⟩ := h
  exact ⟨Kt, ct, e, (KRow.of_own h1 h2 (by omega)).1.1.mono (fun _ _ h => h.ext hb)⟩
theorem KCells.take_ {R : Value → De → Prop} {xs : List Value} {ks : List De} (h : KCells R xs ks) (k : Nat) : KCells R (xs.take (k * 3)) (ks.take k) := by
  refine ⟨by rw [List.length_take, List.length_take, h.1]; omega, fun i d hi => ?_⟩
  rw [List.getElem?_take] at hi
  split at hi
  · next hlt =>
    obtain ⟨c0, c1, c2, h0, h1, h2, h3⟩ := h.2 i d hi
    refine ⟨c0, c1, c2, ?_, ?_, ?_, h3⟩ <;> rw [List.getElem?_take, if_pos (by omega)] <;> assumption
  · cases hi
theorem KCells.drop_ {R : Value → De → Prop} {xs : List Value} {ks : List De} (h : KCells R xs ks) (k : Nat) : KCells R (xs.drop (k * 3)) (ks.drop k) := by
  refine ⟨by rw [List.length_drop, List.length_drop, h.1]; omega, fun i d hi => ?_⟩
  rw [List.getElem?_drop] at hi
  obtain ⟨c0, c1, c2, h0, h1, h2, h3⟩ := h.2 (k + i) d hi
  refine ⟨c0, c1, c2, ?_, ?_, ?_, h3⟩ <;> rw [List.getElem?_drop]
  · rw [← h0]; congr 1; omega
  · rw [← h1]; congr 1; omega
  · rw [← h2]; congr 1; omega
theorem KCells.one_ {n : Nat} {w : World} {xs : List Value} {ks : List De} (h : KCells (DRd n w) xs ks) : ∀ u ∈ xs, u.oneCell' = true := by
  intro u hu
  obtain ⟨j, hj, rfl⟩ := List.getElem_of_mem hu
  have hk : j / 3 < ks.length := by have := h.1; omega
  obtain ⟨c0, c1, c2, h0, h1, h2, h3⟩ := h.2 (j / 3) _ (List.getElem?_eq_getElem hk)
  obtain ⟨A, ca, K, ck, e⟩ := h3.form
  simp only [Value.agg.injEq, Array.mk.injEq, List.cons.injEq, and_true] at e
  obtain ⟨rfl, rfl, rfl⟩ := e
  have hj2 := List.getElem?_eq_getElem hj
  have hm : j % 3 = 0 ∨ j % 3 = 1 ∨ j % 3 = 2 := by omega
  rcases hm with hm | hm | hm
  · rw [show j / 3 * 3 = j by omega, hj2, Option.some.injEq] at h0
    rw [h0]; rfl
  · rw [show j / 3 * 3 + 1 = j by omega, hj2, Option.some.injEq] at h1
    rw [h1]; rfl
  · rw [show j / 3 * 3 + 2 = j by omega, hj2, Option.some.injEq] at h2
    rw [h2]; rfl
/-- More are told. -/
theorem ToldR.add {w6 W' : World} {told more : List De} {v' : Value} {xs ys : List Value} (hc : KCells (DRd 9 w6) xs told) (hm : KCells (DRd 9 w6) ys more) (hown : W'.ownsRow w6.heap.size 42 3 v' (told.length + more.length) (xs ++ ys)) :
    ToldR w6 (told ++ more) v' W' := by
  obtain ⟨A, n, rfl⟩ := own_form hown
  rw [← List.length_append] at hown ⊢
  exact ⟨A, n, xs ++ ys, rfl, hown, hc.app hm⟩
theorem ToldR.put {w6 W : World} {told : List De} {v : Value} {b : Nat} {cs : Array Value} (h : ToldR w6 told v (putBlk W b cs 51)) (hb : b < W.heap.size) (ds : Array Value) : ToldR w6 told v (putBlk W b ds 51) := by
  obtain ⟨Kt, ct, xs, e, h1, h2⟩ := h
  have h3 := own_chg h1 ((Chg.refl [b] _).put (b := b) (Or.inl (by simp)) ds 51) (fun i hi e => by
    rw [List.mem_singleton] at hi
    subst hi
    exact own_vne h1 (putBlk_blk cs 51 hb) (by decide) e)
  rw [put_put'] at h3
  exact ⟨Kt, ct, xs, e, h3, h2⟩
theorem gap_any {w : World} {g : Nat} {k t kk kn kr : Int} {ks : ByteArray} (h : Blk w g #[.int .u8 k, .int .i64 t, .int .u8 kk, .int .i64 kn, .int .u64 kr, .string ks] 51) : GapAt w g (k, (t, ⟨kk, kn, kr, ks⟩)) :=
  ⟨h.lt, h.cell 0, h.cell 1, h.cell 2, h.cell 3, h.cell 4, h.cell 5⟩
/-- Behind the switch: what is told, and the one gap. -/
def SwQ (us : List Ta) (l : List Rw) (w6 : World) (b19 : Nat) (t : Nat) (kk kn kr : Int) (ks : ByteArray) (T : Value) (W : World) : Prop :=
  Below w6.heap.size w6 W ∧ ∃ (told : List De) (kd : Int), (∀ d ∈ told, RootD us d) ∧ told.length ≤ 3000 ∧ (∀ rs : List (Nat × V), rs.Nodup → (∀ x, x ∈ rs ↔ x ∈ (docsN us l ++ told).map (rtD (keyN us))) → gapsI us l told rs = [(kd, ((t : Int), ⟨kk, kn, kr, ks⟩))]) ∧
    Blk W b19 #[.int .u8 kd, .int .i64 t, .int .u8 kk, .int .i64 kn, .int .u64 kr, .string ks] 51 ∧ ToldR w6 told T W
theorem gapsI_of {us : List Ta} {l : List Rw} {told : List De} {rs : List (Nat × V)} {kd : Int} {x : Nat × V} (h : gapsP (rtD (keyN us)) smD (docsN us l) told rs = [(kd, x)]) : gapsI us l told rs = [(kd, ((x.1 : Int), x.2))] := by
  unfold gapsI
  rw [h]
  rfl
set_option maxRecDepth 100000 in
set_option maxHeartbeats 40000000 in
theorem sees_any (ts : List Ta) (A P B : Option Addr) (c pc rc : Nat) (ops : List Ox) (row : List V) (wn hn : Nat) (w : World) (ht : TRow w A c ts) (ho : OpRow w P ops) (hv : VRow w B row) (hT : Tabs w) (hw : wn ≤ 255) (hh : hn ≤ 255) :
    Calls Tryz.prog 3 #[.agg #[.slice A ts.length c], .slice P ops.length pc, .int .u8 wn, .int .u8 hn, .slice B row.length rc] w fun q w' => q = .returned (.bool true) ∧ Below w.heap.size w w' := by
  have HHV := Lib.hid (fun (W : World) (hW : Below w.heap.size w W) => heavy_any ts A P c pc ops W (ht.ext hW) (ho.ext hW))
  have HMY := Lib.hid (fun (W : World) (hW : Below w.heap.size w W) => refmay_any ts A c W (ht.ext hW))
  have HST := Lib.hid (fun (W : World) (hW : Below w.heap.size w W) (hs : schB ts = true) => states_any ts A c P pc ops W (ht.ext hW) hs (ho.ext hW) (hT.ext hW))
  have HAL := Lib.hid (fun (W : World) (hW : Below w.heap.size w W) => alive35_any W (hT.ext hW))
  have HTR := Lib.hid ht
  have HVR := Lib.hid hv
  have HTAB := Lib.hid hT
  have hrl := hv.2.1
  obtain ⟨nt, hnt⟩ : ∃ q, q = ts.length := ⟨_, rfl⟩
  obtain ⟨no, hno⟩ : ∃ q, q = ops.length := ⟨_, rfl⟩
  obtain ⟨nr, hnr⟩ : ∃ q, q = row.length := ⟨_, rfl⟩
  rw [← hnt] at HHV HMY HST
  rw [← hno] at HHV HST
  rw [← hnr] at hrl
  rw [← hnt, ← hno, ← hnr]
  have HN := Lib.hid (And.intro hnt hnr)
  have hb1 : Below w.heap.size w (w.alloc (.cells #[.slice A nt c] 24)) := (by repeat (first | exact Below.refl _ _ | assumption | refine Below.drew ?_ | refine below_drewN ?_ _ | refine Below.alloc ?_ (by simp <;> omega) _))
  have h5 := Blk.new w #[.slice A nt c] 24
  have HB1 := Lib.hid hb1
  have H5 := Lib.hid h5
  clear ht ho hv hT hnt hno hnr hb1 h5
  go_enter Tryz.func3, Tryz.ntmps3
  go_upto_region 1 with fail
  generalize w.alloc (.cells #[.slice A nt c] 24) = w1 at HB1 H5 ⊢
  generalize w.heap.size = b5 at H5 ⊢
  have s0 := H5.out.cell 0
  have ls := H5.out.lt
  simp only [List.getElem?_toArray, List.getElem?_cons_zero] at s0
  go_wp2_with fail
  refine (HHV.out _ HB1.out).mono ?_
  rintro q w2 ⟨⟨v, rfl⟩, hb2⟩
  have HB2 := Lib.hid (bt HB1.out hb2)
  have H52 := Lib.hid (H5.out.ext hb2)
  clear hb2 s0 ls HHV H5 HB1
  cases v
  · have s0 := H52.out.cell 0
    have ls := H52.out.lt
    simp only [List.getElem?_toArray, List.getElem?_cons_zero] at s0
    go_wp2_with fail
    refine (HMY.out _ HB2.out).mono ?_
    rintro q w3 ⟨rfl, hb3⟩
    have HB3 := Lib.hid (bt HB2.out hb3)
    have H53 := Lib.hid (H52.out.ext hb3)
    clear hb3 s0 ls HMY H52 HB2
    cases hsb : schB ts
    · go_wp2_with fail
      refine (HAL.out _ HB3.out).mono ?_
      rintro q w4 ⟨rfl, hbz⟩
      have HZY := Lib.hid (bt HB3.out hbz)
      clear hbz
      go_wp2_with fail
      go_ret
      exact ⟨rfl, HZY.out⟩
    · have HSB := Lib.hid hsb
      clear hsb
      by_cases h40 : (nr : Int) > 40
      · go_wp2_with fail
        refine (HAL.out _ HB3.out).mono ?_
        rintro q w4 ⟨rfl, hbz⟩
        have HZY := Lib.hid (bt HB3.out hbz)
        clear hbz
        go_wp2_with fail
        go_ret
        exact ⟨rfl, HZY.out⟩
      · have HR40 := Lib.hid h40
        have s0 := H53.out.cell 0
        have ls := H53.out.lt
        simp only [List.getElem?_toArray, List.getElem?_cons_zero] at s0
        go_wp2_with fail
        refine (HST.out _ HB3.out HSB.out).mono ?_
        rintro q w4 ⟨hb4, us, r, M, A4, c4, tn, VX, rfl, hR, hd, _, _⟩
        have HR := Lib.hid hR
        have HD := Lib.hid hd
        have HB4 := Lib.hid (bt HB3.out hb4)
        have H54 := Lib.hid (H53.out.ext hb4)
        clear hb4 hR hd s0 ls H53 HB3 HST h40
        have HALL := Lib.hid (all_any HR.out)
        generalize runS ts ops = l at HR HALL
        go_wp2_with fail
        refine HALL.out.mono ?_
        rintro q w5 ⟨K, kc, rfl, hI⟩
        have hlen : (docsN us l).length ≤ 2400 := by
          have h1 := docsTo_le us l HR.out.i.few us.length
          rw [docsTo_all] at h1
          have := schN HR.out.h
          omega
        have HPRE : Hid (preB us us.length = true) := (sch_parts HR.out.h).2.1
        have HI := Lib.hid hI
        have HKR := Lib.hid (hI.krow (by omega))
        have HLN := Lib.hid hlen
        have HROOT : Hid (∀ d ∈ docsN us l, RootD us d) := fun d hd => docsN_root HR.out.i hd
        have HDC := Lib.hid ((docs_any (HR.out.ext hI.b) (HTAB.out.ext (bt HB4.out hI.b)) (docsN us l) K kc 9 HKR.out HROOT.out (by omega)).mono fun _ _ h => h.none_ fun rs hr hm => by unfold gapsI; rw [vs_none HPRE.out HR.out.i hm]; rfl)
        have HB5 := Lib.hid (bt HB4.out hI.b)
        have H55 := Lib.hid (H54.out.ext hI.b)
        have HR5 := Lib.hid (HR.out.ext hI.b)
        obtain ⟨nh, hnh⟩ : ∃ q, q = (docsN us l).length := ⟨_, rfl⟩
        rw [← hnh] at HDC HLN ⊢
        have HNH := Lib.hid hnh
        clear hI hlen hnh HALL H54 HB4
        go_wp2_with fail
        refine HDC.out.mono ?_
        rintro q w6 ⟨hb6, Ag, cg, rfl⟩
        have HB6 := Lib.hid (bt HB5.out hb6)
        have H56 := Lib.hid (H55.out.ext hb6)
        have HR6 := Lib.hid (HR5.out.ext hb6)
        have HI6 := Lib.hid (HI.out.ext hb6)
        clear hb6 HDC HB5 H55 HR5 HI
        by_cases hz : nh = 0
        · have q1 : ((nh : Int) == 0) = true := by simp [hz]
          clear hz
          go_wp2_with fail
          refine (HAL.out _ HB6.out).mono ?_
          rintro q w7 ⟨rfl, hbz⟩
          have HZY := Lib.hid (bt HB6.out hbz)
          clear hbz
          go_wp2_with fail
          go_ret
          exact ⟨rfl, HZY.out⟩
        · have q1 : ((nh : Int) == 0) = false := by simp [hz]
          have q2 : ¬ (nh : Int) = 0 := by omega
          have hpos : 0 < nh := Nat.pos_of_ne_zero hz
          obtain ⟨k, hk⟩ : ∃ k, k = wn % nh := ⟨_, rfl⟩
          have hkl : k < nh := by rw [hk]; exact Nat.mod_lt _ hpos
          have hrem : (wn : Int) % (nh : Int) = (k : Int) := by rw [hk]; rfl
          obtain ⟨ds, hds⟩ : ∃ q, q = docsN us l := ⟨_, rfl⟩
          rw [← hds] at HI6 HROOT HNH
          have HDS := Lib.hid hds
          have hkd : k < ds.length := by rw [← HNH.out]; exact hkl
          obtain ⟨d, hd⟩ : ∃ d, ds[k]? = some d := ⟨_, List.getElem?_eq_getElem hkd⟩
          obtain ⟨xs, hx1, hx3⟩ := HI6.out.k
          rw [← HNH.out] at hx1
          have hx2 : KCells (DRd 9 w6) xs ds := hx3.mono fun _ _ h => h.rd
          clear hx3
          obtain ⟨g, kc', hK, hglo, hglt⟩ := hx1.form hpos
          simp only [Value.slice.injEq, true_and] at hK
          obtain ⟨rfl, rfl⟩ := hK
          have hcap := (own_cur hx1 hpos).choose_spec.2.1
          have hcg := hx1.cells (g := g) rfl
          obtain ⟨c0, c1, c2, k0, k1, k2, hdv⟩ := hx2.2 k d hd
          obtain ⟨t, u, htb, hu, hpar, hrs, hwf⟩ := HROOT.out d (List.mem_of_getElem? hd)
          obtain ⟨u', kj, kv, hu', _, hkj, hkjl, hkv, hkey⟩ := rowS_key hrs
          rw [hu, Option.some.injEq] at hu'
          subst hu'
          have hdw := hdv
          obtain ⟨dA, dc, dK, dq, hform, _, hvr, hkr⟩ := hdv
          simp only [Value.agg.injEq, Array.mk.injEq, List.cons.injEq, and_true] at hform
          obtain ⟨rfl, rfl, rfl⟩ := hform
          have z0 := hcg _ _ k0
          have z1 := hcg _ _ k1
          have z2 := hcg _ _ k2
          rw [addr_add, Nat.zero_add] at z0 z1 z2
          rw [htb] at z0
          obtain ⟨bb, off, kv', rfl, hbb, hkv', _, hkwf, d0, d1, d2, d3⟩ := hvr.at_ hkjl
          rw [hkv, Option.some.injEq] at hkv'
          subst hkv'
          obtain ⟨y, hy, hyd⟩ := map_d_get HD.out hu
          have hyk : y.key = kj := by
            have h1 := congrArg (fun q => q.2.2.1) hyd
            simp only [Ta.d] at h1
            omega
          have htl := (List.getElem?_eq_some_iff.1 hy).1
          obtain ⟨sb, so, y', hA, hsb, hy', _, _, _, _, _, e2, _, _⟩ := HTR.out.at_ htl
          rw [hy, Option.some.injEq] at hy'
          subst hy'
          subst hA
          rw [hyk] at e2
          obtain ⟨dr, hdr⟩ : ∃ q, q = d.row.length := ⟨_, rfl⟩
          obtain ⟨dk, hdk⟩ : ∃ q, q = d.kids.length := ⟨_, rfl⟩
          rw [← hdr] at z1
          rw [← hdk] at z2
          rw [htb, ← hdr, ← hdk] at hdw
          have HDW := Lib.hid hdw
          obtain ⟨kk, kn, kr, ks⟩ := kv
          simp only at d0 d1 d2 d3
          have hrtd : rtD (keyN us) d = (t, ⟨kk, kn, kr, ks⟩) := by
            unfold rtD
            rw [htb, Int.toNat_natCast, hkey]
          have hrts : rowS ts t d.row = true := by rw [← rowS_d HD.out]; exact hrs
          have hhas : hasS ts t = true := by
            unfold rowS at hrts
            rw [Bool.and_eq_true] at hrts
            exact hrts.1
          have HHAS : Hid (∀ W : World, Below w6.heap.size w6 W → Calls Tryz.prog 10 #[.agg #[.slice (some ⟨sb, so, none⟩) nt c], .int .i64 t] W (fun q W' => q = .returned (.bool true) ∧ Below W.heap.size W W')) := fun W hW => by
            have h := refhas13_any ts (some ⟨sb, so, none⟩) c t W (HTR.out.ext (bt HB6.out hW))
            rw [hhas, ← HN.out.1] at h
            exact h
          have HZ := Lib.hid (And.intro hglt (And.intro z0 (And.intro z1 z2)))
          have HDD := Lib.hid (And.intro hbb (And.intro d0 (And.intro d1 (And.intro d2 d3))))
          have HE2 : Hid (sb < w6.heap.size ∧ w6.cell? ⟨sb, so + t * 5 + 2, none⟩ = some (.int .i64 kj)) := ⟨Nat.lt_of_lt_of_le hsb HB6.out.size, (HB6.out.cell (p := ⟨sb, so + t * 5 + 2, none⟩) hsb).trans e2⟩
          have HX := Lib.hid (And.intro hx1 hx2)
          have HPD := Lib.hid (And.intro hd (And.intro htb (And.intro hu (And.intro hpar (And.intro hkey (And.intro hrtd (And.intro hkj hy)))))))
          have HDK := Lib.hid (And.intro hkr (And.intro hdr hdk))
          have HCAP := Lib.hid hcap
          have HKL : Hid (k < nh ∧ kj < d.row.length ∧ t < ts.length) := ⟨hkl, hkjl, htl⟩
          have i0 : (k : Int) < nh := by omega
          have i1 : (t : Int) < nt := by have := HN.out.1; omega
          have i2 : (kj : Int) < dr := by omega
          have i3 : decide (dr ≤ kj) = false := by simp; omega
          clear hz hds hkd hd hx1 hx2 hglo hcg k0 k1 k2 htb hu hpar hrs hwf hkj hkjl hkv hkey hvr hkr hbb d0 d1 d2 d3 hy hyd hyk htl hsb e2 hdr hdk hrtd hrts hhas hcap hk hkl
          go_upto_region 14 with fail
          rw [hrem]
          clear hrem z0 z1 z2 hglt
          refine region_grow [false, false, false, false, false, false, false, false, false, false, false, false, false, false, false, false, false, false, false, false, false, false, false, false, false, false, false, false, false, false, false, false, false, false, false, false, false, false, false, false, false, false, false, false, false, false, false, false, false, false, false, false, false, false, false, false, false, false, false, false, false, false, false, false, false, false, false, false, false, false, false, false, false, false, false, false, false, false, false, false, false, false, true, true, true, true, true, true, true, true, true, true, true, true, true, true, true, true, true, true, true, false, false, false, false, false, false, false, false, false, false, false, false, false, false, false, false, false, false, false, false, false, false, false, false, false, false, false, false, false, false, false, false, false, false, false, false, false, false, false, false, false, false, false, false, false, false, false, false, false, false, false, false, false, false, false, false, false, false, false, false, false, false, false, false, false, false, false, false, false, false, false, false, false, false, false, false, false, false, false, false, false, false, false, false, false, false, false, false, false, false, false, false, false, false, false, false] [82, 83, 84, 85, 86, 87, 88, 89, 90, 91, 92, 93, 94, 95, 96, 97, 98, 99, 100] [.val (.agg #[.slice (some ⟨sb, so, none⟩) nt c]), .val (.int .i64 t), .val (.bool true), .val (.bool false), .val (.bool false), .val (.pointer (some ⟨b5, 0, none⟩)), .val (.slice (some ⟨sb, so, none⟩) nt c), .val (.int .i64 t), .val (.pointer (some ⟨sb, so + t * 5, none⟩)), .val (.pointer (some ⟨sb, so + t * 5 + 2, none⟩)), .val (.int .i64 kj), .val (.slice (some ⟨g, 0, none⟩) nh kc), .val (.int .i64 k), .val (.pointer (some ⟨g, k * 3, none⟩)), .val (.pointer (some ⟨g, k * 3 + 1, none⟩)), .val (.slice (some ⟨bb, off, none⟩) dr dc), .val (.int .i64 dr), .val (.bool false), .val (.bool false)] [18] (by kernel_rfl) (by kernel_rfl) (by kernel_rfl) (by kernel_rfl) (by kernel_rfl) ⟨?_, ?_, ?_, ?_, ?_, ?_, ?_, ?_, ?_, ?_, ?_, ?_, ?_, ?_, ?_, ?_, ?_, ?_, ?_, trivial⟩ ?done
          case done =>
            intro x9 w7 hb7
            simp only [StepGoal, overlay, upd, cond_true, cond_false, List.getD_cons_zero, List.getD_cons_succ, Nat.zero_add, Nat.reduceAdd, Nat.reduceEqDiff, reduceIte]
            have HB7 := Lib.hid hb7
            obtain ⟨lo, hlo⟩ : ∃ q, q = w7.heap.size := ⟨_, rfl⟩
            have HLO : Hid (lo = w7.heap.size ∧ w6.heap.size ≤ lo) := ⟨hlo, by rw [hlo]; exact hb7.size⟩
            clear hb7 hlo
            go_upto_region 16 with fail
            refine region_last 16 _ [false, false, false, false, false, false, false, false, false, false, false, false, false, false, false, false, false, false, false, true, false, false, false, false, false, false, false, false, false, false, false, false, false, false, false, false, false, false, false, false, false, false, false, false, false, false, false, false, false, false, false, false, false, false, false, false, false, false, false, false, false, false, false, false, false, false, false, false, false, false, false, false, false, false, false, false, false, false, false, false, false, false, false, false, false, false, false, false, false, false, false, false, false, false, false, false, false, false, false, false, false, true, true, true, true, true, true, true, true, true, true, true, true, true, true, true, false, false, false, false, false, false, false, false, false, false, false, false, false, false, false, false, false, false, false, false, false, false, false, false, false, false, false, false, false, false, false, false, false, false, false, false, false, false, false, false, false, false, false, false, false, false, false, false, false, false, false, false, false, false, false, false, false, false, false, false, false, false, false, false, false, false, false, false, false, false, false, false, false, false, false, false, false, false, false, false, false] [101, 102, 103, 104, 105, 106, 107, 108, 109, 110, 111, 112, 113, 114, 115, 19] [.val (.int .i64 t), .val (.slice (some ⟨g, 0, none⟩) nh kc), .val (.int .i64 k), .val (.pointer (some ⟨g, k * 3, none⟩)), .val (.pointer (some ⟨g, k * 3 + 1, none⟩)), .val (.slice (some ⟨bb, off, none⟩) dr dc), .val (.pointer (some ⟨b5, 0, none⟩)), .val (.slice (some ⟨sb, so, none⟩) nt c), .val (.int .i64 t), .val (.pointer (some ⟨sb, so + t * 5, none⟩)), .val (.pointer (some ⟨sb, so + t * 5 + 2, none⟩)), .val (.int .i64 kj), .val (.pointer (some ⟨bb, off + kj * 4, none⟩)), .val (.agg #[.int .u8 kk, .int .i64 kn, .int .u64 kr, .string ks]), .val (.agg #[.int .u8 1, .int .i64 t, .int .u8 kk, .int .i64 kn, .int .u64 kr, .string ks]), kGap lo] [15, 14] (by kernel_rfl) (by kernel_rfl) rfl (by kernel_rfl) (by kernel_rfl) (by kernel_rfl) (by kernel_rfl) (by kernel_rfl) ⟨?_, ?_, ?_, ?_, ?_, ?_, ?_, ?_, ?_, ?_, ?_, ?_, ?_, ?_, ?_, ?_, trivial⟩ ?done
            case done =>
              intro x9 w8 hb8
              simp only [StepGoal, List.getD_cons_zero, List.getD_cons_succ]
              rintro _ ⟨b19, rfl, hblo, hz8⟩ K' hK
              have hb78 := bt HB7.out hb8
              obtain ⟨w9, rfl, lt⟩ := blk_put hz8
              obtain ⟨pc, pf, pS⟩ := putBlk_facts (w := w9) 51 lt
              have HB9 := Lib.hid (putBlk_belows hb78 (by have := HLO.out.2; omega) #[.int .u8 1, .int .i64 t, .int .u8 kk, .int .i64 kn, .int .u64 kr, .string ks])
              have H19 := Lib.hid (putBlk_blk #[.int .u8 1, .int .i64 t, .int .u8 kk, .int .i64 kn, .int .u64 kr, .string ks] 51 lt)
              have HLB : Hid (w6.heap.size ≤ b19) := by show _ ≤ _; have := HLO.out.2; omega
              clear hz8 hb8 hb78 hblo
              rw [if_pos (by rfl)]; simp only [overlay, upd, cond_true, cond_false, Nat.reduceEqDiff, reduceIte]
              go_simp
              refine hK.out _ _ ?_
              clear pc pf pS lt
              generalize putBlk w9 b19 #[.int .u8 1, .int .i64 t, .int .u8 kk, .int .i64 kn, .int .u64 kr, .string ks] 51 = w10 at HB9 H19 ⊢
              obtain ⟨GC, hGC⟩ : ∃ GC : Array Value, GC = #[.int .u8 1, .int .i64 t, .int .u8 kk, .int .i64 kn, .int .u64 kr, .string ks] := ⟨_, rfl⟩
              rw [← hGC] at H19
              have HGC := Lib.hid hGC
              have HONE := Lib.hid (KCells.one_ HX.out.2)
              have HCG : Hid (∀ W : World, Below w6.heap.size w6 W → ∀ j u, xs[j]? = some u → W.cell? ⟨g, j, none⟩ = some u) := fun W hW j u hj => by
                have h1 := HX.out.1.cells (g := g) rfl j u hj
                rw [addr_add, Nat.zero_add] at h1
                exact (hW.cell (p := ⟨g, j, none⟩) HZ.out.1).trans h1
              have hxl : xs.length = ds.length * 3 := HX.out.2.1
              have HDL : Hid (ds.length = nh ∧ nh ≤ 2400 ∧ xs.length = nh * 3) := ⟨HNH.out.symm, HLN.out, by rw [hxl, HNH.out]⟩
              obtain ⟨j0, hj0, hz0, hz1, hz2⟩ := info_parts info_Dc
              have i4 : (k : Int) ≤ kc := by have := HCAP.out; have := HKL.out; omega
              have i5 : k ≤ kc := by omega
              have w1' : IntKind.i64.wrap ((k : Int) + 1) = (k : Int) + 1 := IntWalk.i64_in _ (by have := HDL.out; omega)
              have i6 : ((k : Int) + 1).toNat = k + 1 := by omega
              have i7 : (k : Int) + 1 ≤ nh := by omega
              have i8 : k + 1 ≤ nh := by omega
              have i9 : k + 1 ≤ kc := by have := HCAP.out; omega
              have i10 : nh ≤ kc := HCAP.out
              have i11 : (nh : Int) ≤ kc := by omega
              have HCT : Hid (∀ W : World, Below w6.heap.size w6 W → ∀ j u, (xs.take (k * 3))[j]? = some u → W.cell? ((⟨g, 0, none⟩ : Addr).add j) = some u) := fun W hW j u hj => by
                rw [addr_add, Nat.zero_add]
                rw [List.getElem?_take] at hj
                split at hj
                · exact HCG.out W hW j u hj
                · cases hj
              have HCD : Hid (∀ W : World, Below w6.heap.size w6 W → ∀ j u, (xs.drop ((k + 1) * 3))[j]? = some u → W.cell? ((⟨g, (k + 1) * 3, none⟩ : Addr).add j) = some u) := fun W hW j u hj => by
                rw [addr_add]
                rw [List.getElem?_drop] at hj
                exact HCG.out W hW _ u hj
              have HLK : Hid ((ds.take k).length = k ∧ (ds.drop (k + 1)).length = nh - (k + 1) ∧ (xs.take (k * 3)).length = k * 3 ∧ (xs.drop ((k + 1) * 3)).length = (nh - (k + 1)) * 3) := by
                have h1 := HDL.out
                have h2 := HKL.out.1
                refine ⟨?_, ?_, ?_, ?_⟩
                · rw [List.length_take]; omega
                · rw [List.length_drop]; omega
                · rw [List.length_take]; omega
                · rw [List.length_drop]; omega
              clear hGC hxl
              go_upto_region 17 with fail
              go_cut [20] (fun T wx => Hid (ToldM w6 b19 GC (ds.take k ++ ds.drop (k + 1)) T wx))
              case first =>
                by_cases hkc : kc = k + 1
                · have hnk : nh = k + 1 := by omega
                  have i12 : (k : Int) ≤ (k : Int) + 1 := by omega
                  subst hkc
                  subst hnk
                  refine region_app 9 8 _ [false, false, false, false, false, false, false, false, false, false, false, false, false, false, false, false, false, false, false, false, false, false, false, false, false, false, false, false, false, false, false, false, false, false, false, false, false, false, false, false, false, false, false, false, false, false, false, false, false, false, false, false, false, false, false, false, false, false, false, false, false, false, false, false, false, false, false, false, false, false, false, false, false, false, false, false, false, false, false, false, false, false, false, false, false, false, false, false, false, false, false, false, false, false, false, false, false, false, false, false, false, false, false, false, false, false, false, false, false, false, false, false, false, false, false, false, true, true, true, true, true, true, true, true, true, false, false, false, false, false, false, false, false, false, false, false, false, false, false, false, false, false, false, false, false, false, false, false, false, false, false, false, false, false, false, false, false, false, false, false, false, false, false, false, false, false, false, false, false, false, false, false, false, false, false, false, false, false, false, false, false, false, false, false, false, false, false, false, false, false, false, false, false, false, false, false, false] [116, 117, 118, 119, 120, 121, 122, 123, 124] [.val (.slice (some ⟨g, 0, none⟩) (k + 1) (k + 1)), .val (.int .i64 k), .val (.slice (some ⟨g, 0, none⟩) k (k + 1)), kTold w6 (ds.take k), .val (.slice (some ⟨g, 0, none⟩) (k + 1) (k + 1)), .val (.int .i64 k), .val (.int .i64 ((k : Int) + 1)), .val (.slice (some ⟨g, 0, none⟩) 0 0), kAny] [] (fun _ => True) (ToldM w6 b19 GC (ds.take k ++ ds.drop (k + 1))) [3, 7] [] (fun _ _ => trivial) (fun _ _ _ => trivial) (by kernel_rfl) rfl rfl (by omega) (by kernel_rfl) (by kernel_rfl) (by kernel_rfl) rfl rfl rfl (by kernel_rfl) (by kernel_rfl) (by kernel_rfl) (by kernel_rfl) ⟨?_, ?_, ?_, ?_, ?_, ?_, ?_, ?_, ?app, trivial⟩ ?done
                  case app =>
                    intro x9 w8 hb8
                    simp only [StepGoal, List.getD_cons_zero, List.getD_cons_succ]
                    rintro _ ⟨Kt, ct, ys, rfl, hy1, hy2⟩ K' hK
                    rw [if_pos (by rfl)]
                    simp only [overlay, upd, cond_true, cond_false, Nat.reduceEqDiff, reduceIte]
                    have hb8' := bt HB9.out hb8
                    refine wp_append_own w8 (.tmp 119) (.tmp 123) 34 rfl w6.heap.size 42 j0 _ 3 56 Tryz.underlying34 hj0 hz0 hz1 hz2 rfl (by decide) (.slice Kt (ds.take k).length ct) (ds.take k).length ys rfl hy1 ⟨g, 0, none⟩ 0 0 [] rfl rfl (by simp) (by simp) (by have := HDL.out; have := HLK.out; simp only [maxLen]; omega) (by have := HDL.out; have := HLK.out; omega) hb8'.size ?_
                    intro v' w9 hown hg _
                    have hc := Chg.of_grownV hg
                    refine hK.out _ _ ⟨hb8'.trans (hc.below hb8'.size (fun i hi => (hy1.lt i (gS_own.2 hi)).1)), ?_, (H19.out.ext hb8).chg hc (fun hm => own_vne hy1 (H19.out.ext hb8) (by decide) (gS_own.2 hm))⟩
                    have e : ds.drop (k + 1) = [] := List.eq_nil_of_length_eq_zero (by rw [HLK.out.2.1]; have := HCAP.out; omega)
                    rw [e]
                    exact ToldR.add hy2 (KCells.nil _) hown
                  case done =>
                    rintro x9 w8 v8 hm
                    simp only [StepGoal, List.getD_cons_zero, List.getD_cons_succ]
                    intro K' hK
                    rw [if_pos (by rfl)]
                    simp only [overlay, upd, cond_true, cond_false, Nat.reduceEqDiff, reduceIte]
                    go_simp
                    refine hK.out _ _ ?_
                    go_wp2_with fail
                    go_meet
                    exact hm
                  all_goals
                    intro x9 w8 hT8
                    have hb8 := bt HB9.out hT8
                    first
                      | (intro K' hK
                         rw [if_pos (by rfl)]
                         simp only [overlay, upd, cond_true, cond_false]
                         refine wp_append_own w8 (.const (.slice none 0 0)) (.tmp 118) 34 rfl w6.heap.size 42 j0 _ 3 56 Tryz.underlying34 hj0 hz0 hz1 hz2 rfl (by decide) (.slice none 0 0) 0 [] rfl (World.ownsRow_nil _ _ _ _) ⟨g, 0, none⟩ k (k + 1) (xs.take (k * 3)) rfl HLK.out.2.2.1 (HCT.out w8 hb8) (fun u hu => HONE.out u (List.mem_of_mem_take hu)) (by have := HDL.out; simp only [maxLen]; omega) (by have := HDL.out; omega) hb8.size ?_
                         intro v' w9 hown hg _
                         refine hK.out _ _ ((Below.refl _ _).grown hg (Nat.le_refl _) (by simp [Value.ownBlock])) ?_
                         have h1 := ToldR.add (told := []) (more := ds.take k) (KCells.nil _) (HX.out.2.take_ k) (by rw [HLK.out.1]; exact hown)
                         exact h1)
                      | (intro K' hK
                         rw [if_pos (by rfl)]; simp only [overlay, upd, cond_true, cond_false, List.getD_cons_zero, List.getD_cons_succ, Nat.reduceEqDiff, reduceIte]
                         go_simp
                         first
                           | exact hK.out _ _ (Below.refl _ _) rfl)
                · refine region_app 9 8 _ [false, false, false, false, false, false, false, false, false, false, false, false, false, false, false, false, false, false, false, false, false, false, false, false, false, false, false, false, false, false, false, false, false, false, false, false, false, false, false, false, false, false, false, false, false, false, false, false, false, false, false, false, false, false, false, false, false, false, false, false, false, false, false, false, false, false, false, false, false, false, false, false, false, false, false, false, false, false, false, false, false, false, false, false, false, false, false, false, false, false, false, false, false, false, false, false, false, false, false, false, false, false, false, false, false, false, false, false, false, false, false, false, false, false, false, false, true, true, true, true, true, true, true, true, true, false, false, false, false, false, false, false, false, false, false, false, false, false, false, false, false, false, false, false, false, false, false, false, false, false, false, false, false, false, false, false, false, false, false, false, false, false, false, false, false, false, false, false, false, false, false, false, false, false, false, false, false, false, false, false, false, false, false, false, false, false, false, false, false, false, false, false, false, false, false, false, false] [116, 117, 118, 119, 120, 121, 122, 123, 124] [.val (.slice (some ⟨g, 0, none⟩) nh kc), .val (.int .i64 k), .val (.slice (some ⟨g, 0, none⟩) k kc), kTold w6 (ds.take k), .val (.slice (some ⟨g, 0, none⟩) nh kc), .val (.int .i64 k), .val (.int .i64 ((k : Int) + 1)), .val (.slice (some ⟨g, (k + 1) * 3, none⟩) (nh - (k + 1)) (kc - (k + 1))), kAny] [] (fun _ => True) (ToldM w6 b19 GC (ds.take k ++ ds.drop (k + 1))) [3, 7] [] (fun _ _ => trivial) (fun _ _ _ => trivial) (by kernel_rfl) rfl rfl (by omega) (by kernel_rfl) (by kernel_rfl) (by kernel_rfl) rfl rfl rfl (by kernel_rfl) (by kernel_rfl) (by kernel_rfl) (by kernel_rfl) ⟨?_, ?_, ?_, ?_, ?_, ?_, ?_, ?_, ?app, trivial⟩ ?done
                  case app =>
                    intro x9 w8 hb8
                    simp only [StepGoal, List.getD_cons_zero, List.getD_cons_succ]
                    rintro _ ⟨Kt, ct, ys, rfl, hy1, hy2⟩ K' hK
                    rw [if_pos (by rfl)]
                    simp only [overlay, upd, cond_true, cond_false, Nat.reduceEqDiff, reduceIte]
                    have hb8' := bt HB9.out hb8
                    refine wp_append_own w8 (.tmp 119) (.tmp 123) 34 rfl w6.heap.size 42 j0 _ 3 56 Tryz.underlying34 hj0 hz0 hz1 hz2 rfl (by decide) (.slice Kt (ds.take k).length ct) (ds.take k).length ys rfl hy1 ⟨g, (k + 1) * 3, none⟩ (nh - (k + 1)) (kc - (k + 1)) (xs.drop ((k + 1) * 3)) rfl HLK.out.2.2.2 (HCD.out w8 hb8') (fun u hu => HONE.out u (List.mem_of_mem_drop hu)) (by have := HDL.out; have := HLK.out; simp only [maxLen]; omega) (by have := HDL.out; have := HLK.out; omega) hb8'.size ?_
                    intro v' w9 hown hg _
                    have hc := Chg.of_grownV hg
                    refine hK.out _ _ ⟨hb8'.trans (hc.below hb8'.size (fun i hi => (hy1.lt i (gS_own.2 hi)).1)), ?_, (H19.out.ext hb8).chg hc (fun hm => own_vne hy1 (H19.out.ext hb8) (by decide) (gS_own.2 hm))⟩
                    exact ToldR.add hy2 (HX.out.2.drop_ (k + 1)) (by rw [HLK.out.2.1]; exact hown)
                  case done =>
                    rintro x9 w8 v8 hm
                    simp only [StepGoal, List.getD_cons_zero, List.getD_cons_succ]
                    intro K' hK
                    rw [if_pos (by rfl)]
                    simp only [overlay, upd, cond_true, cond_false, Nat.reduceEqDiff, reduceIte]
                    go_simp
                    refine hK.out _ _ ?_
                    go_wp2_with fail
                    go_meet
                    exact hm
                  all_goals
                    intro x9 w8 hT8
                    have hb8 := bt HB9.out hT8
                    first
                      | (intro K' hK
                         rw [if_pos (by rfl)]
                         simp only [overlay, upd, cond_true, cond_false]
                         refine wp_append_own w8 (.const (.slice none 0 0)) (.tmp 118) 34 rfl w6.heap.size 42 j0 _ 3 56 Tryz.underlying34 hj0 hz0 hz1 hz2 rfl (by decide) (.slice none 0 0) 0 [] rfl (World.ownsRow_nil _ _ _ _) ⟨g, 0, none⟩ k kc (xs.take (k * 3)) rfl HLK.out.2.2.1 (HCT.out w8 hb8) (fun u hu => HONE.out u (List.mem_of_mem_take hu)) (by have := HDL.out; simp only [maxLen]; omega) (by have := HDL.out; omega) hb8.size ?_
                         intro v' w9 hown hg _
                         refine hK.out _ _ ((Below.refl _ _).grown hg (Nat.le_refl _) (by simp [Value.ownBlock])) ?_
                         have h1 := ToldR.add (told := []) (more := ds.take k) (KCells.nil _) (HX.out.2.take_ k) (by rw [HLK.out.1]; exact hown)
                         exact h1)
                      | (intro K' hK
                         rw [if_pos (by rfl)]; simp only [overlay, upd, cond_true, cond_false, List.getD_cons_zero, List.getD_cons_succ, Nat.reduceEqDiff, reduceIte]
                         go_simp
                         first
                           | exact hK.out _ _ (Below.refl _ _) rfl)
              case rest =>
                have HTM := hcut
                rename World => wt
                clear i4 i5 w1' i6 i7 i8 i9
                obtain ⟨h3, hh3⟩ : ∃ q, q = hn % 3 := ⟨_, rfl⟩
                have h33 : h3 < 3 := by omega
                have hrem2 : (hn : Int) % 3 = (h3 : Int) := by omega
                clear hh3
                have hks : k < (docsN us l).length := by rw [← HDS.out, HDL.out.1]; exact HKL.out.1
                have hgk : (docsN us l)[k] = d := by
                  have h1 := HPD.out.1
                  rw [HDS.out, List.getElem?_eq_getElem hks, Option.some.injEq] at h1
                  exact h1
                have HGW : Hid (∀ rs : List (Nat × V), rs.Nodup → (∀ x, x ∈ rs ↔ x ∈ (docsN us l ++ (ds.take k ++ ds.drop (k + 1))).map (rtD (keyN us))) → gapsI us l (ds.take k ++ ds.drop (k + 1)) rs = [(1, ((t : Int), ⟨kk, kn, kr, ks⟩))]) := fun rs hr hm => by
                  rw [HDS.out] at hm ⊢
                  have h1 := gapsI_of (vs_want HPRE.out HR.out.i hks hr hm)
                  rw [hgk, HPD.out.2.2.2.2.2.1] at h1
                  exact h1
                have HGM : Hid (∀ rs : List (Nat × V), rs.Nodup → (∀ x, x ∈ rs ↔ x ∈ (docsN us l ++ (ds ++ [d])).map (rtD (keyN us))) → gapsI us l (ds ++ [d]) rs = [(2, ((t : Int), ⟨kk, kn, kr, ks⟩))]) := fun rs hr hm => by
                  rw [HDS.out, ← hgk] at hm ⊢
                  have h1 := gapsI_of (vs_more HPRE.out HR.out.i hks hr hm)
                  rw [hgk, HPD.out.2.2.2.2.2.1] at h1
                  rw [hgk]
                  exact h1
                have HGO : Hid (∀ e : De, rtD (keyN us) e = (t, ⟨kk, kn, kr, ks⟩) → smD e d = false → ∀ rs : List (Nat × V), rs.Nodup → (∀ x, x ∈ rs ↔ x ∈ (docsN us l ++ (ds.take k ++ ds.drop (k + 1) ++ [e])).map (rtD (keyN us))) → gapsI us l (ds.take k ++ ds.drop (k + 1) ++ [e]) rs = [(3, ((t : Int), ⟨kk, kn, kr, ks⟩))]) := fun e he hne rs hr hm => by
                  rw [HDS.out] at hm ⊢
                  have h1 := gapsI_of (vs_other HPRE.out HR.out.i hks hr (by rw [hgk, HPD.out.2.2.2.2.2.1]; exact he) (by rw [hgk]; exact hne) hm)
                  rw [hgk, HPD.out.2.2.2.2.2.1] at h1
                  exact h1
                have HROT : Hid (∀ e ∈ ds.take k ++ ds.drop (k + 1), RootD us e) := fun e he => HROOT.out e ((List.mem_append.1 he).elim List.mem_of_mem_take List.mem_of_mem_drop)
                have HTL : Hid ((ds.take k ++ ds.drop (k + 1)).length ≤ 2400) := by
                  show _ ≤ _
                  rw [List.length_append, HLK.out.1, HLK.out.2.1]
                  have := HDL.out.2.1
                  have := HKL.out.1
                  omega
                clear hks hgk
                go_upto_block 0 with fail
                rw [hrem2]
                clear hrem2
                go_cut [20] (fun T wx => Hid (SwQ us l w6 b19 t kk kn kr ks T wx))
                case first =>
                  rcases (show h3 = 0 ∨ h3 = 1 ∨ h3 = 2 by omega) with e3 | e3 | e3
                  · have q1 : ((h3 : Int) == 1) = false := by simp; omega
                    have q2 : ((h3 : Int) == 2) = false := by simp; omega
                    clear e3
                    have HF : Hid (SwQ us l w6 b19 t kk kn kr ks u20 wt) := ⟨HTM.out.1, _, 1, HROT.out, Nat.le_trans HTL.out (by omega), HGW.out, by have h1 := HTM.out.2.2; rw [HGC.out] at h1; exact h1, HTM.out.2.1⟩
                    go_wp2_with fail
                    go_meet
                    exact HF.out
                  · have q1 : ((h3 : Int) == 1) = true := by simp; omega
                    clear e3
                    go_upto_region 20 with fail
                    clear q1
                    refine region_app 8 7 _ [false, false, false, false, false, false, false, false, false, false, false, false, false, false, false, false, false, false, false, false, false, false, false, false, false, false, false, false, false, false, false, false, false, false, false, false, false, false, false, false, false, false, false, false, false, false, false, false, false, false, false, false, false, false, false, false, false, false, false, false, false, false, false, false, false, false, false, false, false, false, false, false, false, false, false, false, false, false, false, false, false, false, false, false, false, false, false, false, false, false, false, false, false, false, false, false, false, false, false, false, false, false, false, false, false, false, false, false, false, false, false, false, false, false, false, false, false, false, false, false, false, false, false, false, false, false, false, false, false, true, true, true, true, true, true, true, true, false, false, false, false, false, false, false, false, false, false, false, false, false, false, false, false, false, false, false, false, false, false, false, false, false, false, false, false, false, false, false, false, false, false, false, false, false, false, false, false, false, false, false, false, false, false, false, false, false, false, false, false, false, false, false, false, false, false, false, false] [129, 130, 131, 132, 133, 134, 135, 136] [.val (.slice (some ⟨g, 0, none⟩) nh kc), kTold w6 ds, .val (.slice (some ⟨g, 0, none⟩) nh kc), .val (.int .i64 k), .val (.pointer (some ⟨g, k * 3, none⟩)), .val (.agg #[.int .i64 t, .slice (some ⟨bb, off, none⟩) dr dc, .slice dK dk dq]), .new (fun q => .slice (some ⟨q, 0, none⟩) 1 1) #[.int .i64 t, .slice (some ⟨bb, off, none⟩) dr dc, .slice dK dk dq] 42, kAny] [] (fun _ => True) (ToldM w6 b19 GC (ds ++ [d])) [1, 6] [] (fun _ _ => trivial) (fun _ _ _ => trivial) (by kernel_rfl) rfl rfl (by omega) (by kernel_rfl) (by kernel_rfl) (by kernel_rfl) rfl rfl rfl (by kernel_rfl) (by kernel_rfl) (by kernel_rfl) (by kernel_rfl) ⟨?_, ?_, ?_, ?_, ?_, ?_, ?_, ?app, trivial⟩ ?done
                    case app =>
                      intro x9 w8 hb8
                      simp only [StepGoal, List.getD_cons_zero, List.getD_cons_succ]
                      rintro _ ⟨Kt, ct, ys, rfl, hy1, hy2⟩ q8 hq8 K' hK
                      rw [if_pos (by rfl)]
                      simp only [overlay, upd, cond_true, cond_false, Nat.reduceEqDiff, reduceIte]
                      have hb8' := bt HTM.out.1 hb8
                      refine wp_append_own w8 (.tmp 130) (.tmp 135) 34 rfl w6.heap.size 42 j0 _ 3 56 Tryz.underlying34 hj0 hz0 hz1 hz2 rfl (by decide) (.slice Kt ds.length ct) ds.length ys rfl hy1 ⟨q8, 0, none⟩ 1 1 [.int .i64 t, .slice (some ⟨bb, off, none⟩) dr dc, .slice dK dk dq] rfl rfl (World.news_of_block hq8) (by simp [Value.oneCell']) (by have := HDL.out; simp only [maxLen]; omega) (by have := HDL.out; omega) hb8'.size ?_
                      intro v' w9 hown hg _
                      have hc := Chg.of_grownV hg
                      exact hK.out _ _ ⟨hb8'.trans (hc.below hb8'.size (fun i hi => (hy1.lt i (gS_own.2 hi)).1)), ToldR.add hy2 (KCells.one HDW.out) hown, (HTM.out.2.2.ext hb8).chg hc (fun hm => own_vne hy1 (HTM.out.2.2.ext hb8) (by decide) (gS_own.2 hm))⟩
                    case done =>
                      rintro x9 w8 v8 ⟨hm1, hm2, hm3⟩
                      simp only [StepGoal, List.getD_cons_zero, List.getD_cons_succ]
                      intro K' hK
                      rw [if_pos (by rfl)]
                      simp only [overlay, upd, cond_true, cond_false, Nat.reduceEqDiff, reduceIte]
                      go_simp
                      refine hK.out _ _ ?_
                      rw [HGC.out] at hm3
                      obtain ⟨w9, rfl, lt⟩ := blk_put hm3
                      obtain ⟨pc, pf, pS⟩ := putBlk_facts (w := w9) 51 lt
                      have HF : Hid (SwQ us l w6 b19 t kk kn kr ks v8 (putBlk w9 b19 #[.int .u8 2, .int .i64 t, .int .u8 kk, .int .i64 kn, .int .u64 kr, .string ks] 51)) :=
                        ⟨putBlk_belows hm1 HLB.out _, ds ++ [d], 2, fun e he => (List.mem_append.1 he).elim (HROOT.out e) (fun h => by rw [List.mem_singleton] at h; subst h; exact HROOT.out _ (List.mem_of_getElem? HPD.out.1)), by rw [List.length_append]; have := HDL.out; simp; omega, HGM.out, putBlk_blk _ _ lt, hm2.put lt _⟩
                      clear hm1 hm2 hm3
                      go_wp2_with fail
                      go_meet
                      exact HF.out
                    all_goals
                      intro x9 w8 hT8
                      have hb8 := bt HTM.out.1 hT8
                      have z0 := (hb8.cell (p := ⟨g, k * 3, none⟩) HZ.out.1).trans HZ.out.2.1
                      have z1 := (hb8.cell (p := ⟨g, k * 3 + 1, none⟩) HZ.out.1).trans HZ.out.2.2.1
                      have z2 := (hb8.cell (p := ⟨g, k * 3 + 2, none⟩) HZ.out.1).trans HZ.out.2.2.2
                      have lg := Nat.lt_of_lt_of_le HZ.out.1 hb8.size
                      first
                        | (intro K' hK
                           rw [if_pos (by rfl)]
                           simp only [overlay, upd, cond_true, cond_false]
                           refine wp_append_own w8 (.const (.slice none 0 0)) (.tmp 129) 34 rfl w6.heap.size 42 j0 _ 3 56 Tryz.underlying34 hj0 hz0 hz1 hz2 rfl (by decide) (.slice none 0 0) 0 [] rfl (World.ownsRow_nil _ _ _ _) ⟨g, 0, none⟩ nh kc xs rfl HDL.out.2.2 (fun j u hj => by rw [addr_add, Nat.zero_add]; exact HCG.out w8 hb8 j u hj) HONE.out (by have := HDL.out; simp only [maxLen]; omega) (by have := HDL.out; omega) hb8.size ?_
                           intro v' w9 hown hg _
                           refine hK.out _ _ ((Below.refl _ _).grown hg (Nat.le_refl _) (by simp [Value.ownBlock])) ?_
                           have h1 := ToldR.add (told := []) (more := ds) (KCells.nil _) HX.out.2 (by rw [HDL.out.1]; exact hown)
                           exact h1)
                        | (intro K' hK
                           rw [if_pos (by rfl)]; simp only [overlay, upd, cond_true, cond_false, List.getD_cons_zero, List.getD_cons_succ, Nat.reduceEqDiff, reduceIte]
                           go_simp
                           first
                             | exact hK.out _ _ (Below.refl _ _) rfl
                             | exact hK.out _ _ (by repeat (first | exact Below.refl _ _ | assumption | refine Below.drew ?_ | refine below_drewN ?_ _ | refine Below.alloc ?_ (by simp <;> omega) _)) ⟨_, rfl, Blk.new _ _ _⟩)
                  · have q1 : ((h3 : Int) == 1) = false := by simp; omega
                    have q2 : ((h3 : Int) == 2) = true := by simp; omega
                    clear e3
                    obtain ⟨R, hR'⟩ : ∃ R, R = rowS ts t row := ⟨_, rfl⟩
                    have HROW : Hid (∀ W : World, Below w6.heap.size w6 W → Calls Tryz.prog 11 #[.agg #[.slice (some ⟨sb, so, none⟩) nt c], .int .i64 t, .slice B nr rc] W (fun q W' => q = .returned (.bool R) ∧ Below W.heap.size W W')) := fun W hW => by
                      have h := refrow13_any ts (some ⟨sb, so, none⟩) B c rc t row W (HTR.out.ext (bt HB6.out hW)) (HVR.out.ext (bt HB6.out hW)) (HTAB.out.ext (bt HB6.out hW))
                      rw [← hR', ← HN.out.1, ← HN.out.2] at h
                      exact h
                    have HRR := Lib.hid hR'
                    clear hR'
                    cases R
                    · go_upto_region 23 with fail
                      clear q1 q2
                      refine region_grow [false, false, false, false, false, false, false, false, false, false, false, false, false, false, false, false, false, false, false, false, false, false, false, false, false, false, false, false, false, false, false, false, false, false, false, false, false, false, false, false, false, false, false, false, false, false, false, false, false, false, false, false, false, false, false, false, false, false, false, false, false, false, false, false, false, false, false, false, false, false, false, false, false, false, false, false, false, false, false, false, false, false, false, false, false, false, false, false, false, false, false, false, false, false, false, false, false, false, false, false, false, false, false, false, false, false, false, false, false, false, false, false, false, false, false, false, false, false, false, false, false, false, false, false, false, false, false, false, false, false, false, false, false, false, false, false, false, false, false, false, true, true, true, true, true, true, true, true, true, true, true, true, true, true, true, true, true, true, true, false, false, false, false, false, false, false, false, false, false, false, false, false, false, false, false, false, false, false, false, false, false, false, false, false, false, false, false, false, false, false, false, false, false, false, false, false, false] [140, 141, 142, 143, 144, 145, 146, 147, 148, 149, 150, 151, 152, 153, 154, 155, 156, 157, 158] [.val (.agg #[.slice (some ⟨sb, so, none⟩) nt c]), .val (.int .i64 t), .val (.slice B nr rc), .val (.bool false), .val (.bool true), .val (.bool true), .val undef, .val undef, .val undef, .val undef, .val undef, .val undef, .val undef, .val undef, .val undef, .val undef, .val undef, .val undef, .val (.bool true)] [18] (by kernel_rfl) (by kernel_rfl) (by kernel_rfl) (by kernel_rfl) (by kernel_rfl) ⟨?_, ?_, ?_, ?_, ?_, ?_, ?_, ?_, ?_, ?_, ?_, ?_, ?_, ?_, ?_, ?_, ?_, ?_, ?_, trivial⟩ ?done
                      case done =>
                        intro x9 w8 hb8
                        simp only [StepGoal, overlay, upd, cond_true, cond_false, List.getD_cons_zero, List.getD_cons_succ, Nat.zero_add, Nat.reduceAdd, Nat.reduceEqDiff, reduceIte]
                        have HBF := Lib.hid (bt (bt HB6.out HTM.out.1) hb8)
                        clear hb8
                        go_wp2_with fail
                        refine (HAL.out _ HBF.out).mono ?_
                        rintro q wf ⟨rfl, hbz⟩
                        have HZY := Lib.hid (bt HBF.out hbz)
                        clear hbz
                        go_wp2_with fail
                        go_ret
                        exact ⟨rfl, HZY.out⟩
                      all_goals
                        intro x9 w8 hT8
                        intro K' hK
                        have hb8 := bt HTM.out.1 hT8
                        have h58 := H56.out.ext hb8
                        have s0 := h58.cell 0
                        have ls := h58.lt
                        simp only [List.getElem?_toArray, List.getElem?_cons_zero] at s0
                        clear h58
                        first
                          | (rw [if_neg (by exact Bool.false_ne_true)]
                             exact hK.out _ _ (Below.refl _ _) rfl)
                          | (rw [if_pos (by rfl)]; simp only [overlay, upd, cond_true, cond_false, List.getD_cons_zero, List.getD_cons_succ, Nat.reduceEqDiff, reduceIte]
                             go_simp
                             first
                               | exact hK.out _ _ (Below.refl _ _) rfl
                               | (refine (HROW.out _ hb8).mono ?_
                                  rintro q w9 ⟨rfl, hb9⟩
                                  go_wp2_with fail
                                  exact hK.out _ _ hb9 rfl))
                    · have hrow : rowS us t row = true := by rw [rowS_d HD.out]; exact HRR.out.symm
                      obtain ⟨u2, kj2, rv, hu2, _, hkj2, hkl2, hrv, hkey2⟩ := rowS_key hrow
                      have ek : kj2 = kj := by
                        have h1 := HPD.out.2.2.1
                        rw [hu2, Option.some.injEq] at h1
                        have h2 := HPD.out.2.2.2.2.2.2.1
                        rw [← h1] at h2
                        omega
                      rw [ek] at hkl2 hrv
                      obtain ⟨rb, ro, rv', hB, hrb, hrv', _, _, v0, v1, v2, v3⟩ := HVR.out.at_ hkl2
                      rw [hrv, Option.some.injEq] at hrv'
                      subst hrv'
                      subst hB
                      obtain ⟨vk, vn, vr, vt⟩ := rv
                      simp only at v0 v1 v2 v3
                      obtain ⟨NE, hNE⟩ : ∃ q, q = !decide ((⟨vk, vn, vr, vt⟩ : V) = ⟨kk, kn, kr, ks⟩) := ⟨_, rfl⟩
                      have hq : ∀ W : World, (binOp .neq 49 (.agg #[.int .u8 vk, .int .i64 vn, .int .u64 vr, .string vt]) (.agg #[.int .u8 kk, .int .i64 kn, .int .u64 kr, .string ks])).run Tryz.prog W = .ok (.bool NE) W := by
                        intro W
                        by_cases e : (⟨vk, vn, vr, vt⟩ : V) = ⟨kk, kn, kr, ks⟩
                        · rw [show NE = false by rw [hNE]; simp [e]]
                          injection e with e1 e2 e3 e4
                          subst e1; subst e2; subst e3; subst e4
                          exact neq_eq _ _ _ _ W
                        · rw [show NE = true by rw [hNE]; simp [e]]
                          exact neq_ne _ _ _ _ _ _ _ _ e W
                      have HV4 := Lib.hid (And.intro hrb (And.intro v0 (And.intro v1 (And.intro v2 v3))))
                      have HNE : Hid (NE = false → keyN us t row = ⟨kk, kn, kr, ks⟩) := fun h => by
                        rw [hkey2]
                        rw [hNE] at h
                        simpa using h
                      have HRW := Lib.hid hrow
                      have i5 : (kj : Int) < nr := by have := HN.out.2; omega
                      clear hrow hu2 hkj2 hkl2 hrv hkey2 ek hrb v0 v1 v2 v3 hNE
                      go_upto_region 23 with fail
                      clear q1 q2
                      refine region_grow [false, false, false, false, false, false, false, false, false, false, false, false, false, false, false, false, false, false, false, false, false, false, false, false, false, false, false, false, false, false, false, false, false, false, false, false, false, false, false, false, false, false, false, false, false, false, false, false, false, false, false, false, false, false, false, false, false, false, false, false, false, false, false, false, false, false, false, false, false, false, false, false, false, false, false, false, false, false, false, false, false, false, false, false, false, false, false, false, false, false, false, false, false, false, false, false, false, false, false, false, false, false, false, false, false, false, false, false, false, false, false, false, false, false, false, false, false, false, false, false, false, false, false, false, false, false, false, false, false, false, false, false, false, false, false, false, false, false, false, false, true, true, true, true, true, true, true, true, true, true, true, true, true, true, true, true, true, true, true, false, false, false, false, false, false, false, false, false, false, false, false, false, false, false, false, false, false, false, false, false, false, false, false, false, false, false, false, false, false, false, false, false, false, false, false, false, false] [140, 141, 142, 143, 144, 145, 146, 147, 148, 149, 150, 151, 152, 153, 154, 155, 156, 157, 158] [.val (.agg #[.slice (some ⟨sb, so, none⟩) nt c]), .val (.int .i64 t), .val (.slice (some ⟨rb, ro, none⟩) nr rc), .val (.bool true), .val (.bool false), .val (.bool false), .val (.slice (some ⟨rb, ro, none⟩) nr rc), .val (.pointer (some ⟨b5, 0, none⟩)), .val (.slice (some ⟨sb, so, none⟩) nt c), .val (.int .i64 t), .val (.pointer (some ⟨sb, so + t * 5, none⟩)), .val (.pointer (some ⟨sb, so + t * 5 + 2, none⟩)), .val (.int .i64 kj), .val (.pointer (some ⟨rb, ro + kj * 4, none⟩)), .val (.agg #[.int .u8 vk, .int .i64 vn, .int .u64 vr, .string vt]), .val (.pointer (some ⟨b19, 2, none⟩)), .val (.agg #[.int .u8 kk, .int .i64 kn, .int .u64 kr, .string ks]), .val (.bool NE), .val (.bool NE)] [18] (by kernel_rfl) (by kernel_rfl) (by kernel_rfl) (by kernel_rfl) (by kernel_rfl) ⟨?_, ?_, ?_, ?_, ?_, ?_, ?_, ?_, ?_, ?_, ?_, ?_, ?_, ?_, ?_, ?_, ?_, ?_, ?_, trivial⟩ ?done
                      case done =>
                        intro x9 w8 hb8
                        simp only [StepGoal, overlay, upd, cond_true, cond_false, List.getD_cons_zero, List.getD_cons_succ, Nat.zero_add, Nat.reduceAdd, Nat.reduceEqDiff, reduceIte]
                        have HB8 := Lib.hid hb8
                        clear hb8 hq
                        cases NE
                        · have HEV : Hid (DRd 9 w6 (.agg #[.int .i64 t, .slice (some ⟨rb, ro, none⟩) nr rc, .slice dK dk dq]) (.mk t row d.kids)) :=
                            ⟨some ⟨rb, ro, none⟩, rc, dK, dq, by rw [HN.out.2, HDK.out.2.2]; rfl, ⟨by simp only [De.tb]; omega, by have := HKL.out.2.2; have := schN HSB.out; simp only [De.tb]; omega⟩, HVR.out.ext HB6.out, HDK.out.1⟩
                          have HER : Hid (RootD us (.mk t row d.kids)) := ⟨t, u, rfl, HPD.out.2.2.1, HPD.out.2.2.2.1, HRW.out, HVR.out.1⟩
                          have HEK : Hid (rtD (keyN us) (.mk t row d.kids) = (t, ⟨kk, kn, kr, ks⟩)) := by
                            show _ = _
                            unfold rtD
                            simp only [De.tb, De.row, Int.toNat_natCast]
                            rw [HNE.out rfl]
                          have hb68 := bt HTM.out.1 HB8.out
                          have z2 := (hb68.cell (p := ⟨g, k * 3 + 2, none⟩) HZ.out.1).trans HZ.out.2.2.2
                          have lg := Nat.lt_of_lt_of_le HZ.out.1 hb68.size
                          clear hb68
                          go_upto_region 26 with fail
                          have hbd : Below w8.heap.size w8 (w8.alloc (.cells #[.int .i64 t, .slice (some ⟨rb, ro, none⟩) nr rc, .slice dK dk dq] 42)) := (by repeat (first | exact Below.refl _ _ | assumption | refine Below.drew ?_ | refine below_drewN ?_ _ | refine Below.alloc ?_ (by simp <;> omega) _))
                          have h21 := Blk.new w8 #[.int .i64 t, .slice (some ⟨rb, ro, none⟩) nr rc, .slice dK dk dq] 42
                          have HBD := Lib.hid (bt HB8.out hbd)
                          have H21 := Lib.hid h21
                          clear hbd h21 z2 lg HB8
                          generalize w8.alloc (.cells #[.int .i64 t, .slice (some ⟨rb, ro, none⟩) nr rc, .slice dK dk dq] 42) = w11 at HBD H21 ⊢
                          generalize w8.heap.size = b21 at H21 ⊢
                          obtain ⟨SM, hSM⟩ : ∃ q, q = smD (.mk t row d.kids) d := ⟨_, rfl⟩
                          have HSA : Hid (∀ W : World, Below w6.heap.size w6 W → Calls Tryz.prog 12 #[.agg #[.int .i64 t, .slice (some ⟨rb, ro, none⟩) nr rc, .slice dK dk dq], .agg #[.int .i64 t, .slice (some ⟨bb, off, none⟩) dr dc, .slice dK dk dq]] W (fun q W' => q = .returned (.bool SM) ∧ Below W.heap.size W W')) := fun W hW => by
                            rw [hSM]
                            exact aggsame_any 9 9 _ _ _ d W (HEV.out.ext hW) (HDW.out.ext hW)
                          have HSM := Lib.hid hSM
                          clear hSM
                          refine region_grow [false, false, false, false, false, false, false, false, false, false, false, false, false, false, false, false, false, false, false, false, false, false, false, false, false, false, false, false, false, false, false, false, false, false, false, false, false, false, false, false, false, false, false, false, false, false, false, false, false, false, false, false, false, false, false, false, false, false, false, false, false, false, false, false, false, false, false, false, false, false, false, false, false, false, false, false, false, false, false, false, false, false, false, false, false, false, false, false, false, false, false, false, false, false, false, false, false, false, false, false, false, false, false, false, false, false, false, false, false, false, false, false, false, false, false, false, false, false, false, false, false, false, false, false, false, false, false, false, false, false, false, false, false, false, false, false, false, false, false, false, false, false, false, false, false, false, false, false, false, false, false, false, false, false, false, false, false, false, false, false, false, false, false, false, false, false, false, false, true, true, true, true, true, true, false, false, false, false, false, false, false, false, false, false, false, false, false, false, false, false, false, false, false, false, false, false, false] [168, 169, 170, 171, 172, 173] [.val (.agg #[.int .i64 t, .slice (some ⟨rb, ro, none⟩) nr rc, .slice dK dk dq]), .val (.slice (some ⟨g, 0, none⟩) nh kc), .val (.int .i64 k), .val (.pointer (some ⟨g, k * 3, none⟩)), .val (.agg #[.int .i64 t, .slice (some ⟨bb, off, none⟩) dr dc, .slice dK dk dq]), .val (.bool SM)] [5] (by kernel_rfl) (by kernel_rfl) (by kernel_rfl) (by kernel_rfl) (by kernel_rfl) ⟨?_, ?_, ?_, ?_, ?_, ?_, trivial⟩ ?done
                          case done =>
                            intro y9 w12 hb12
                            simp only [StepGoal, overlay, upd, cond_true, cond_false, List.getD_cons_zero, List.getD_cons_succ, Nat.zero_add, Nat.reduceAdd, Nat.reduceEqDiff, reduceIte]
                            have HB12 := Lib.hid (bt HBD.out hb12)
                            have H212 := Lib.hid (H21.out.ext hb12)
                            clear hb12
                            cases SM
                            · obtain ⟨Kt, ct, ys, hT0, hy1, hy2⟩ := HTM.out.2.1
                              subst hT0
                              obtain ⟨n0, hn0⟩ : ∃ q, q = (ds.take k ++ ds.drop (k + 1)).length := ⟨_, rfl⟩
                              rw [← hn0] at hy1 ⊢
                              have HY := Lib.hid (And.intro hn0 (And.intro (own_below hy1 HB12.out) hy2))
                              have h19 : Blk w12 b19 GC 51 := HTM.out.2.2.ext HB12.out
                              have H192 := Lib.hid h19
                              have HN0 : Hid (n0 ≤ 2400) := by show _ ≤ _; rw [hn0]; exact HTL.out
                              clear hy1 hy2 hn0 h19
                              have d0 := H212.out.cell 0
                              have d1 := H212.out.cell 1
                              have d2 := H212.out.cell 2
                              have ld := H212.out.lt
                              simp only [List.getElem?_toArray, List.getElem?_cons_zero, List.getElem?_cons_succ] at d0 d1 d2
                              go_wp2_with (at_builtin; refine wpList_append_lies _ rfl _ _ 34 rfl w6.heap.size 42 j0 _ 3 56 Tryz.underlying34 hj0 hz0 hz1 hz2 rfl (by decide) (.slice Kt n0 ct) n0 ys (by simp [go_sem]) (own_below HY.out.2.1 (by repeat (first | exact Below.refl _ _ | assumption | refine Below.drew ?_ | refine below_drewN ?_ _ | refine Below.alloc ?_ (by simp <;> omega) _))) ⟨w12.heap.size, 0, none⟩ 1 1 [.int .i64 t, .slice (some ⟨rb, ro, none⟩) nr rc, .slice dK dk dq] (by simp [go_sem]) rfl (World.news_of_block (Blk.new w12 #[.int .i64 t, .slice (some ⟨rb, ro, none⟩) nr rc, .slice dK dk dq] 42)) (by simp [Value.oneCell']) (by decide) (by have := HN0.out; simp only [maxLen]; omega) (by have := HN0.out; omega) (by have := (bt HTM.out.1 HB12.out).size; simp; omega) _ rfl ?_)
                              intro g7 c7 w7 hown7 hg7 hat7 _
                              have hbe : Below w12.heap.size w12 (w12.alloc (.cells #[.int .i64 t, .slice (some ⟨rb, ro, none⟩) nr rc, .slice dK dk dq] 42)) := (by repeat (first | exact Below.refl _ _ | assumption | refine Below.drew ?_ | refine below_drewN ?_ _ | refine Below.alloc ?_ (by simp <;> omega) _))
                              have hc := Chg.of_grownV hg7
                              have hb6e := bt (bt HTM.out.1 HB12.out) hbe
                              have hbl7 := hb6e.trans (hc.below hb6e.size (fun i hi => (HY.out.2.1.lt i (gS_own.2 hi)).1))
                              have h197 : Blk w7 b19 GC 51 := (H192.out.ext hbe).chg hc (fun hm => own_vne HY.out.2.1 H192.out (by decide) (gS_own.2 hm))
                              have htr : ToldR w6 (ds.take k ++ ds.drop (k + 1) ++ [.mk t row d.kids]) (.slice (some ⟨g7, 0, none⟩) (n0 + 1) c7) w7 := ToldR.add HY.out.2.2 (KCells.one HEV.out) (by rw [← HY.out.1]; exact hown7)
                              rw [HGC.out] at h197
                              obtain ⟨w9, rfl, lt⟩ := blk_put h197
                              obtain ⟨pc', pf, pS⟩ := putBlk_facts (w := w9) 51 lt
                              have HF : Hid (SwQ us l w6 b19 t kk kn kr ks (.slice (some ⟨g7, 0, none⟩) (n0 + 1) c7) (putBlk w9 b19 #[.int .u8 3, .int .i64 t, .int .u8 kk, .int .i64 kn, .int .u64 kr, .string ks] 51)) :=
                                ⟨putBlk_belows hbl7 HLB.out _, ds.take k ++ ds.drop (k + 1) ++ [.mk t row d.kids], 3, fun e he => (List.mem_append.1 he).elim (HROT.out e) (fun h => by rw [List.mem_singleton] at h; subst h; exact HER.out), by rw [List.length_append]; have := HTL.out; simp only [List.length_singleton]; omega, HGO.out _ HEK.out HSM.out.symm, putBlk_blk _ _ lt, htr.put lt _⟩
                              clear hown7 hg7 hat7 hbe hc hb6e hbl7 h197 htr d0 d1 d2 ld
                              go_wp2_with fail
                              go_meet
                              exact HF.out
                            · have HBF := Lib.hid (bt (bt HB6.out HTM.out.1) HB12.out)
                              go_wp2_with fail
                              refine (HAL.out _ HBF.out).mono ?_
                              rintro q wf ⟨rfl, hbz⟩
                              have HZY := Lib.hid (bt HBF.out hbz)
                              clear hbz
                              go_wp2_with fail
                              go_ret
                              exact ⟨rfl, HZY.out⟩
                          all_goals
                            intro y9 w12 hT8
                            intro K' hK
                            have hb8 := bt (bt HTM.out.1 HBD.out) hT8
                            have h212 := H21.out.ext hT8
                            have d0 := h212.cell 0
                            have d1 := h212.cell 1
                            have d2 := h212.cell 2
                            have ld := h212.lt
                            simp only [List.getElem?_toArray, List.getElem?_cons_zero, List.getElem?_cons_succ] at d0 d1 d2
                            have z0 := (hb8.cell (p := ⟨g, k * 3, none⟩) HZ.out.1).trans HZ.out.2.1
                            have z1 := (hb8.cell (p := ⟨g, k * 3 + 1, none⟩) HZ.out.1).trans HZ.out.2.2.1
                            have z2 := (hb8.cell (p := ⟨g, k * 3 + 2, none⟩) HZ.out.1).trans HZ.out.2.2.2
                            have lg := Nat.lt_of_lt_of_le HZ.out.1 hb8.size
                            clear h212
                            rw [if_pos (by rfl)]; simp only [overlay, upd, cond_true, cond_false, List.getD_cons_zero, List.getD_cons_succ, Nat.reduceEqDiff, reduceIte]
                            go_simp
                            first
                              | exact hK.out _ _ (Below.refl _ _) rfl
                              | (refine (HSA.out _ hb8).mono ?_
                                 rintro q w13 ⟨rfl, hb9⟩
                                 go_wp2_with fail
                                 exact hK.out _ _ hb9 rfl)
                        · have HBF := Lib.hid (bt (bt HB6.out HTM.out.1) HB8.out)
                          go_wp2_with fail
                          refine (HAL.out _ HBF.out).mono ?_
                          rintro q wf ⟨rfl, hbz⟩
                          have HZY := Lib.hid (bt HBF.out hbz)
                          clear hbz
                          go_wp2_with fail
                          go_ret
                          exact ⟨rfl, HZY.out⟩
                      all_goals
                        intro x9 w8 hT8
                        intro K' hK
                        have hb8 := bt HTM.out.1 hT8
                        have h58 := H56.out.ext hb8
                        have s0 := h58.cell 0
                        have ls := h58.lt
                        have e2 := (hb8.cell (p := ⟨sb, so + t * 5 + 2, none⟩) HE2.out.1).trans HE2.out.2
                        have lsb := Nat.lt_of_lt_of_le HE2.out.1 hb8.size
                        have hw8 := bt HB6.out hb8
                        have v0 := (hw8.cell (p := ⟨rb, ro + kj * 4, none⟩) HV4.out.1).trans HV4.out.2.1
                        have v1 := (hw8.cell (p := ⟨rb, ro + kj * 4 + 1, none⟩) HV4.out.1).trans HV4.out.2.2.1
                        have v2 := (hw8.cell (p := ⟨rb, ro + kj * 4 + 2, none⟩) HV4.out.1).trans HV4.out.2.2.2.1
                        have v3 := (hw8.cell (p := ⟨rb, ro + kj * 4 + 3, none⟩) HV4.out.1).trans HV4.out.2.2.2.2
                        have lrb := Nat.lt_of_lt_of_le HV4.out.1 hw8.size
                        have h19 := HTM.out.2.2.ext hT8
                        rw [HGC.out] at h19
                        have o2 := h19.cell 2
                        have o3 := h19.cell 3
                        have o4 := h19.cell 4
                        have o5 := h19.cell 5
                        have l19 := h19.lt
                        simp only [List.getElem?_toArray, List.getElem?_cons_zero, List.getElem?_cons_succ] at s0 o2 o3 o4 o5
                        clear h58 hw8 h19
                        rw [if_pos (by rfl)]; simp only [overlay, upd, cond_true, cond_false, List.getD_cons_zero, List.getD_cons_succ, Nat.reduceEqDiff, reduceIte]
                        go_simp
                        first
                          | exact hK.out _ _ (Below.refl _ _) rfl
                          | (refine (HROW.out _ hb8).mono ?_
                             rintro q w9 ⟨rfl, hb9⟩
                             go_wp2_with fail
                             exact hK.out _ _ hb9 rfl)
                case rest =>
                  obtain ⟨hbS, told, kd, hroot, htl, hgap, hb19, htr⟩ := hcut.out
                  rename World => ws
                  obtain ⟨Kt, ct, rfl, hkr⟩ := htr.krow hbS htl
                  have HDC2 := Lib.hid ((docs_any (HR6.out.ext hbS) (HTAB.out.ext (bt HB6.out hbS)) told Kt ct 9 hkr hroot htl).mono fun _ _ h => h.one_ hgap)
                  have HBS := Lib.hid (bt HB6.out hbS)
                  have HBG := Lib.hid hb19
                  obtain ⟨nl, hnl⟩ : ∃ q, q = told.length := ⟨_, rfl⟩
                  rw [← hnl] at HDC2 ⊢
                  clear hbS hroot htl hgap hb19 htr hkr hcut hnl
                  go_wp2_with fail
                  refine HDC2.out.mono ?_
                  rintro q wd ⟨hbd, g1, cg1, rfl, hg1⟩
                  have h19 := HBG.out.ext hbd
                  have o0 := h19.cell 0
                  have o1 := h19.cell 1
                  have o2 := h19.cell 2
                  have o3 := h19.cell 3
                  have o4 := h19.cell 4
                  have o5 := h19.cell 5
                  have lo' := h19.lt
                  simp only [List.getElem?_toArray, List.getElem?_cons_zero, List.getElem?_cons_succ] at o0 o1 o2 o3 o4 o5
                  have hbx : Below wd.heap.size wd (wd.alloc (.cells #[.int .u8 kd, .int .i64 t, .int .u8 kk, .int .i64 kn, .int .u64 kr, .string ks] 51)) := (by repeat (first | exact Below.refl _ _ | assumption | refine Below.drew ?_ | refine below_drewN ?_ _ | refine Below.alloc ?_ (by simp <;> omega) _))
                  have HC5 := Lib.hid (same35_one (c1 := cg1) (c2 := 1) (hg1.ext hbx) (gap_any (Blk.new wd #[.int .u8 kd, .int .i64 t, .int .u8 kk, .int .i64 kn, .int .u64 kr, .string ks] 51)))
                  have HBX := Lib.hid (bt (bt HBS.out hbd) hbx)
                  clear hbd hg1 h19 hbx HDC2
                  go_wp2_with fail
                  refine HC5.out.mono ?_
                  rintro q we ⟨rfl, hbe⟩
                  have HBE := Lib.hid (bt HBX.out hbe)
                  clear hbe HC5
                  go_wp2_with fail
                  refine (HAL.out _ HBE.out).mono ?_
                  rintro q wf ⟨rfl, hbz⟩
                  have HZY := Lib.hid (bt HBE.out hbz)
                  clear hbz
                  go_wp2_with fail
                  go_ret
                  exact ⟨rfl, HZY.out⟩
            all_goals
              intro x9 w8 hT8
              have hT8 := bt HB7.out hT8
              intro K' hK
              have h58 := H56.out.ext hT8
              have s0 := h58.cell 0
              have ls := h58.lt
              have e2 := (hT8.cell (p := ⟨sb, so + t * 5 + 2, none⟩) HE2.out.1).trans HE2.out.2
              have lsb := Nat.lt_of_lt_of_le HE2.out.1 hT8.size
              have z1 := (hT8.cell (p := ⟨g, k * 3 + 1, none⟩) HZ.out.1).trans HZ.out.2.2.1
              have lg := Nat.lt_of_lt_of_le HZ.out.1 hT8.size
              have d0 := (hT8.cell (p := ⟨bb, off + kj * 4, none⟩) HDD.out.1).trans HDD.out.2.1
              have d1 := (hT8.cell (p := ⟨bb, off + kj * 4 + 1, none⟩) HDD.out.1).trans HDD.out.2.2.1
              have d2 := (hT8.cell (p := ⟨bb, off + kj * 4 + 2, none⟩) HDD.out.1).trans HDD.out.2.2.2.1
              have d3 := (hT8.cell (p := ⟨bb, off + kj * 4 + 3, none⟩) HDD.out.1).trans HDD.out.2.2.2.2
              have lbb := Nat.lt_of_lt_of_le HDD.out.1 hT8.size
              simp only [List.getElem?_toArray, List.getElem?_cons_zero] at s0
              clear h58
              rw [if_pos (by rfl)]; simp only [overlay, upd, cond_true, cond_false, List.getD_cons_zero, List.getD_cons_succ, Nat.reduceEqDiff, reduceIte]
              go_simp
              first
                | exact hK.out _ _ (Below.refl _ _) rfl
                | exact hK.out _ _ (by repeat (first | exact Below.refl _ _ | assumption | refine Below.drew ?_ | refine below_drewN ?_ _ | refine Below.alloc ?_ (by simp <;> omega) _)) ⟨_, rfl, by have := hT8.size; have := HLO.out; have := ‹Below w7.heap.size w7 _›.size; omega, Blk.new _ _ _⟩
          all_goals
            intro x9 w8 hT8
            intro K' hK
            have h58 := H56.out.ext hT8
            have s0 := h58.cell 0
            have ls := h58.lt
            have e2 := (hT8.cell (p := ⟨sb, so + t * 5 + 2, none⟩) HE2.out.1).trans HE2.out.2
            have lsb := Nat.lt_of_lt_of_le HE2.out.1 hT8.size
            have z1 := (hT8.cell (p := ⟨g, k * 3 + 1, none⟩) HZ.out.1).trans HZ.out.2.2.1
            have lg := Nat.lt_of_lt_of_le HZ.out.1 hT8.size
            simp only [List.getElem?_toArray, List.getElem?_cons_zero] at s0
            clear h58
            rw [if_pos (by rfl)]; simp only [overlay, upd, cond_true, cond_false, List.getD_cons_zero, List.getD_cons_succ, Nat.reduceEqDiff, reduceIte]
            go_simp
            first
              | exact hK.out _ _ (Below.refl _ _) rfl
              | (refine (HHAS.out _ hT8).mono ?_
                 rintro q w9 ⟨rfl, hb9⟩
                 go_wp2_with fail
                 exact hK.out _ _ hb9 rfl)
  · go_wp2_with fail
    refine (HAL.out _ HB2.out).mono ?_
    rintro q w4 ⟨rfl, hbz⟩
    have HZY := Lib.hid (bt HB2.out hbz)
    clear hbz
    go_wp2_with fail
    go_ret
    exact ⟨rfl, HZY.out⟩
end Go.Proofs.YtgklopgeimjgiaaGreatDoor
