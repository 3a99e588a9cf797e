/- Several texts in one: see each part's head. -/
import Derived.Test.YtgklopgeimjgiaaGreatDoorJ39
/- VerifySees: verify.Docs. -/
namespace Go.Proofs.YtgklopgeimjgiaaGreatDoor
open Go.RowKit

noncomputable def gapsI (us : List Ta) (l : List Rw) (told : List De) (rs : List (Nat × V)) : List (Int × (Int × V)) := (gapsP (rtD (keyN us)) smD (docsN us l) told rs).map fun y => (y.1, embR y.2)
def DocsQ (us : List Ta) (l : List Rw) (told : List De) (w : World) (q : Ending) (w' : World) : Prop :=
  Below w.heap.size w w' ∧ ∃ (rs : List (Nat × V)) (Ag : Option Addr) (cg base : Nat), rs.Nodup ∧ (∀ x, x ∈ rs ↔ x ∈ (docsN us l ++ told).map (rtD (keyN us))) ∧ q = .returned (.tuple #[.slice Ag (gapsI us l told rs).length cg, .int .i64 0]) ∧
    w'.ownsRow base 51 6 (.slice Ag (gapsI us l told rs).length cg) (gapsI us l told rs).length (gcells (gapsI us l told rs))
theorem AllI.krow {w W : World} {K : Option Addr} {kc : Nat} {ds : List De} (h : AllI w K kc ds W) (hl : ds.length ≤ 100000) : KRow (DRd 9 W) W K ds := by
  obtain ⟨xs, k1, k2⟩ := h.k
  exact (KRow.of_own k1 k2 (by omega)).1.1.mono (fun _ _ h => h.rd)
theorem nd_take {α : Type} : ∀ {l : List α} (_ : l.Nodup) {k : Nat} {a : α} (_ : l[k]? = some a), a ∉ l.take k
  | [], _, _, _, hk => by simp at hk
  | b :: l, h, 0, a, hk => by simp
  | b :: l, h, k + 1, a, hk => by
    rw [List.nodup_cons] at h
    rw [List.getElem?_cons_succ] at hk
    rw [List.take_succ_cons, List.mem_cons]
    rintro (rfl | h1)
    · exact h.1 (List.mem_of_getElem? hk)
    · exact nd_take h.2 hk h1
theorem rts_take {ds : List De} {k : Nat} {d : De} (h : ds[k]? = some d) : ds.take (k + 1) = ds.take k ++ [d] := by
  rw [List.take_add_one, h, Option.toList_some]
theorem rts_snoc (us : List Ta) (ds : List De) (d : De) : rts us (ds ++ [d]) = rts us ds ++ [embR (rtD (keyN us) d)] := by simp [rts]
def gf0 : Nat × V → Got := fun _ => ⟨none, 0, []⟩
/-- What all rounds read. -/
structure DocB (us : List Ta) (l : List Rw) (m : Nat) (Kh Kt A2 : Option Addr) (nh nt n c2 b8 : Nat) (vs : List Ta) (told : List De) (w2 : World) : Prop where
  b8 : Blk w2 b8 #[.slice A2 n c2] 24
  tr : TRow w2 A2 c2 vs
  d : vs.map Ta.d = us.map Ta.d
  hn : n = vs.length
  h : KRow (DRd 9 w2) w2 Kh (docsN us l)
  hl : nh = (docsN us l).length ∧ nh ≤ 3000
  t : KRow (DRd m w2) w2 Kt told
  tl : nt = told.length ∧ nt ≤ 3000
  s : schB us = true
  i : StI us l
  rt : ∀ d ∈ told, RootD us d
  tab : Tabs w2
variable {us : List Ta} {r M : Nat} {A : Option Addr} {c : Nat} {tn : Int} {l : List Rw} {w : World}
set_option maxRecDepth 100000 in
set_option maxHeartbeats 6400000 in
theorem docs_any (h : RelR us r M A c tn l w) (hT : Tabs w) (told : List De) (Kt : Option Addr) (kt m : Nat) (hk : KRow (DRd m w) w Kt told) (hr : ∀ d ∈ told, RootD us d) (hl : told.length ≤ 3000) :
    Calls Tryz.prog 9 #[.pointer (some ⟨r, 0, none⟩), .slice Kt told.length kt] w (DocsQ us l told w) := by
  have HR := Lib.hid h
  have HALL := Lib.hid (all_any h)
  have HTAB := Lib.hid hT
  have HK := Lib.hid hk
  have HRT := Lib.hid hr
  obtain ⟨nt, hnt⟩ : ∃ q, q = told.length := ⟨_, rfl⟩
  rw [← hnt]
  have HNT : Hid (nt = told.length ∧ nt ≤ 3000) := ⟨hnt, by omega⟩
  clear h hT hk hr hl hnt
  go_enter Tryz.func9, Tryz.ntmps9
  go_wp2_with fail
  refine HALL.out.mono ?_
  rintro q w1 ⟨Kh, kh, rfl, hI⟩
  have hlen : (docsN us l).length ≤ 3000 := by
    have h1 := docsTo_le us l HR.out.i.few us.length
    rw [docsTo_all] at h1
    have := schN HR.out.h
    omega
  have HHV := Lib.hid (hI.krow (by omega))
  have HB1 := Lib.hid hI.b
  have HSC := Lib.hid (relschema_any (HR.out.ext hI.b))
  obtain ⟨nh, hnh⟩ : ∃ q, q = (docsN us l).length := ⟨_, rfl⟩
  rw [← hnh]
  have HNH : Hid (nh = (docsN us l).length ∧ nh ≤ 3000) := ⟨hnh, by omega⟩
  clear hI hnh hlen HALL
  go_wp2_with fail
  refine HSC.out.mono ?_
  rintro q w2 ⟨hb2, A2, c2, vs, rfl, hos, hd⟩
  obtain ⟨n, hn⟩ : ∃ n, n = vs.length := ⟨_, rfl⟩
  rw [← hn]
  have HOS := Lib.hid hos
  have HD := Lib.hid hd
  have HN := Lib.hid hn
  have HB2 := Lib.hid hb2
  clear hb2 hos hd hn HSC
  go_upto_region 5 with fail
  have h8 := Blk.new w2 #[.slice A2 n c2] 24
  have hb3 : Below w2.heap.size w2 (w2.alloc (.cells #[.slice A2 n c2] 24)) := (by repeat (first | exact Below.refl _ _ | assumption | refine Below.drew ?_ | refine below_drewN ?_ _ | refine Below.alloc ?_ (by simp <;> omega) _))
  have hb13 := bt HB2.out hb3
  have HW3 := Lib.hid (bt HB1.out hb13)
  have HDB : Hid (DocB us l m Kh Kt A2 nh nt n c2 w2.heap.size vs told (w2.alloc (.cells #[.slice A2 n c2] 24))) :=
    ⟨h8, HOS.out.trow.ext hb3, HD.out, HN.out, HHV.out.ext hb13 (fun v k h => DRd.ext (n := 9) h hb13), HNH.out, HK.out.ext HW3.out (fun v k h => DRd.ext (n := m) h HW3.out), HNT.out, HR.out.h, HR.out.i, HRT.out, HTAB.out.ext HW3.out⟩
  clear h8 hb3 hb13 HOS HD HN HHV HK HB2 HB1 HTAB HRT HNH HNT
  generalize w2.alloc (.cells #[.slice A2 n c2] 24) = w3 at HDB HW3 ⊢
  generalize w2.heap.size = b8 at HDB ⊢
  go_wp2_with fail
  go_loopw [38] (fun v wr => ∃ k : Nat, k ≤ nt ∧ v = .int .i64 k ∧ Hid (Below w3.heap.size w3 wr)) (fun v _ => nt - (intOf v).toNat)
  case atStart => exact ⟨0, by omega, rfl, Below.refl _ _⟩
  case round =>
    obtain ⟨k, hk, rfl, HW⟩ := hrel
    by_cases hlt : k < nt
    · have hkt : k < told.length := by have := HDB.out.tl; omega
      have w1' : IntKind.i64.wrap ((k : Int) + 1) = (k : Int) + 1 := IntWalk.i64_in _ (by have := HDB.out.tl; omega)
      have i0 : (k : Int) < nt := by omega
      obtain ⟨b, off, d, B, rc, K', ck', rfl, hb, _, hd, e0, e1, e2, hdr⟩ := (HDB.out.t.ext HW.out (fun v k h => DRd.ext (n := m) h HW.out)).kid hkt
      have HROOT := Lib.hid (HDB.out.rt d (List.mem_of_getElem? hd))
      have HRB := Lib.hid HROOT.out.isR
      have hvr : VRow wr B d.row := by
        cases m with
        | zero => exact hdr.elim
        | succ m =>
          obtain ⟨B2, ca, K2, ck, e, _, h1, _⟩ := hdr
          simp only [Value.agg.injEq, Array.mk.injEq, List.cons.injEq, and_true, Value.slice.injEq, true_and] at e
          obtain ⟨⟨rfl, _⟩, _⟩ := e
          exact h1
      have HVR := Lib.hid hvr
      have HISR : Hid (∀ W : World, Below wr.heap.size wr W → Calls Tryz.prog 29 #[.agg #[.slice A2 n c2], .int .i64 d.tb] W (fun q W' => q = .returned (.bool true) ∧ Below W.heap.size W W')) := fun W hW => by
        have h := isroot_any (HDB.out.tr.ext (bt HW.out hW)) d.tb
        rw [isRootB_d HDB.out.d, HRB.out, ← HDB.out.hn] at h
        exact h
      obtain ⟨rl, hrl⟩ : ∃ q, q = d.row.length := ⟨_, rfl⟩
      rw [← hrl] at e1
      have HSR : Hid (∀ W : World, Below wr.heap.size wr W → Calls Tryz.prog 30 #[.agg #[.slice A2 n c2], .int .i64 d.tb, .slice B rl rc] W (fun q W' => q = .returned (.int .i64 0) ∧ Below W.heap.size W W')) := fun W hW => by
        have h := schrow_any vs A2 B c2 rc d.tb d.row W (HDB.out.tr.ext (bt HW.out hW)) (HVR.out.ext hW) (HDB.out.tab.ext (bt HW.out hW))
        obtain ⟨t, u, h1, h2, h3, h4, h5⟩ := HROOT.out
        rw [rowS_d HDB.out.d, h1, h4, ← HDB.out.hn, ← hrl, ← h1] at h
        exact h
      have h8 := HDB.out.b8.ext HW.out
      have HT := Lib.hid hlt
      clear hvr hdr hd hlt hkt hrl
      generalize d.tb = tb at e0 HISR HSR ⊢
      generalize d.kids.length = kl at e2
      have s0 := h8.cell 0
      have ls := h8.lt
      simp only [List.getElem?_toArray, List.getElem?_cons_zero] at s0
      clear h8
      go_upto_region 8 with fail
      have hb9 : Below wr.heap.size wr (wr.alloc (.cells #[.int .i64 tb, .slice B rl rc, .slice K' kl ck'] 42)) := (by repeat (first | exact Below.refl _ _ | assumption | refine Below.drew ?_ | refine below_drewN ?_ _ | refine Below.alloc ?_ (by simp <;> omega) _))
      have h9 := Blk.new wr #[.int .i64 tb, .slice B rl rc, .slice K' kl ck'] 42
      have HB9 := Lib.hid hb9
      have H9 := Lib.hid h9
      clear hb9 h9 e0 e1 e2 s0 ls
      generalize wr.alloc (.cells #[.int .i64 tb, .slice B rl rc, .slice K' kl ck'] 42) = w9 at HB9 H9 ⊢
      generalize wr.heap.size = b10 at H9 ⊢
      have h8 := HDB.out.b8.ext (bt HW.out HB9.out)
      have s0 := h8.cell 0
      have ls := h8.lt
      have d0 := H9.out.cell 0
      have ld := H9.out.lt
      simp only [List.getElem?_toArray, List.getElem?_cons_zero] at s0 d0
      clear h8
      go_wp2_with fail
      refine (HISR.out _ HB9.out).mono ?_
      rintro q w5 ⟨rfl, hb5⟩
      have HB5 := Lib.hid (bt HB9.out hb5)
      have H95 := H9.out.ext hb5
      have h8 := HDB.out.b8.ext (bt HW.out HB5.out)
      clear s0 ls d0 ld hb5 HISR
      have s0 := h8.cell 0
      have ls := h8.lt
      have d0 := H95.cell 0
      have d1 := H95.cell 1
      have ld := H95.lt
      simp only [List.getElem?_toArray, List.getElem?_cons_zero, List.getElem?_cons_succ] at s0 d0 d1
      clear h8 H95
      go_wp2_with fail
      refine (HSR.out _ HB5.out).mono ?_
      rintro q w6 ⟨rfl, hb6⟩
      have HB6 := Lib.hid (bt HW.out (bt HB5.out hb6))
      have hlt := HT.out
      clear s0 ls d0 d1 ld hb6 HSR
      go_wp2_with fail
      go_roundw
      case rel => exact ⟨k + 1, by omega, by simp, HB6.out⟩
      case measure =>
        show nt - ((k : Int) + 1).toNat < nt - (k : Int).toNat
        omega
    · have i0 : ¬ (k : Int) < nt := by omega
      clear hk hlt
      have hmm := @run_makeMap Tryz.prog
      go_wp2_with fail
      have hbm : Below wr.heap.size wr ((wr.alloc (.map #[] 0)).alloc (.map #[] 0)) := (by repeat (first | exact Below.refl _ _ | assumption | refine Below.drew ?_ | refine below_drewN ?_ _ | refine Below.alloc ?_ (by simp <;> omega) _))
      have HDS : Hid (DS us m w3 wr.heap.size (wr.heap.size + 1) [] [] [] gf0 [] none 0 ((wr.alloc (.map #[] 0)).alloc (.map #[] 0))) :=
        ⟨bt HW.out hbm, ⟨HW.out.size, by have := HW.out.size; omega, by omega⟩, (MapG.made wr _ _).chg (S := []) (Chg.of_below ((Below.refl _ _).alloc (Nat.le_refl _) _)) (by simp) (fun _ _ _ h => h), by have h := MapG.made (wr.alloc (.map #[] 0)) 78 (E2 us [] [] gf0); simpa using h, GotS.start _ _, World.ownsRow_nil _ _ _ _, fun _ => ⟨rfl, rfl⟩⟩
      clear hbm HW hmm
      generalize ((wr.alloc (.map #[] 0)).alloc (.map #[] 0)) = wm at HDS ⊢
      generalize wr.heap.size + 1 = M2 at HDS ⊢
      generalize wr.heap.size = M1 at HDS ⊢
      go_loopw [13, 61] (fun al v wr => ∃ k : Nat, k ≤ nh ∧ v = .int .i64 k ∧ ∃ Ka ca, al = .slice Ka (rts us ((docsN us l).take k)).length ca ∧ Hid (DS us m w3 M1 M2 ((docsN us l).take k) [] [] gf0 (rts us ((docsN us l).take k)) Ka ca wr)) (fun _ v _ => nh - (intOf v).toNat)
      case atStart => exact ⟨0, by omega, rfl, none, 0, rfl, HDS.out⟩
      case round =>
        clear HDS
        obtain ⟨k, hk, rfl, Ka, ca, rfl, HD⟩ := hrel
        by_cases hlt : k < nh
        · have hkt : k < (docsN us l).length := by have := HDB.out.hl; omega
          have w1' : IntKind.i64.wrap ((k : Int) + 1) = (k : Int) + 1 := IntWalk.i64_in _ (by have := HDB.out.hl; omega)
          have i0 : (k : Int) < nh := by omega
          obtain ⟨b, off, d, B, rc, K', ck', hKh, hb, _, hd, e0, e1, e2, hdr⟩ := HDB.out.h.kid hkt
          have HDK := HDB
          subst hKh
          have e0 := (HD.out.b.cell (p := ⟨b, off + k * 3, none⟩) hb).trans e0
          have e1 := (HD.out.b.cell (p := ⟨b, off + k * 3 + 1, none⟩) hb).trans e1
          have e2 := (HD.out.b.cell (p := ⟨b, off + k * 3 + 2, none⟩) hb).trans e2
          have le := Nat.lt_of_lt_of_le hb HD.out.b.size
          have HROOT := Lib.hid (docsN_root HDB.out.i (List.mem_of_getElem? hd))
          have HDD := Lib.hid (And.intro hd hdr)
          obtain ⟨rl, hrl⟩ : ∃ q, q = d.row.length := ⟨_, rfl⟩
          obtain ⟨kl, hkl⟩ : ∃ q, q = d.kids.length := ⟨_, rfl⟩
          obtain ⟨tb, htb⟩ : ∃ q, q = d.tb := ⟨_, rfl⟩
          rw [← htb] at e0
          rw [← hrl] at e1
          rw [← hkl] at e2
          rw [← htb, ← hrl, ← hkl] at HDD
          obtain ⟨⟨x1, ⟨kk, kn, kr, ks⟩⟩, hx⟩ : ∃ q, q = embR (rtD (keyN us) d) := ⟨_, rfl⟩
          have HX := Lib.hid hx
          have HOFD : Hid (∀ W : World, Below w3.heap.size w3 W → Calls Tryz.prog 31 #[.agg #[.slice A2 n c2], .agg #[.int .i64 tb, .slice B rl rc, .slice K' kl ck']] W (fun q W' => q = .returned (.agg #[.int .i64 x1, .int .u8 kk, .int .i64 kn, .int .u64 kr, .string ks]) ∧ Below W.heap.size W W')) := fun W hW => by
            have h := of_doc (HDB.out.tr.ext hW) HDB.out.d HROOT.out (HDD.out.2.ext hW)
            rw [← hx, ← HDB.out.hn] at h
            exact h
          have HNOT : Hid (rtD (keyN us) d ∉ ((docsN us l).take k).map (rtD (keyN us))) := by
            show _ ∉ _
            have hpre : preB us us.length = true := (sch_parts HDB.out.s).2.1
            have h1 := docsN_nodup hpre HDB.out.i.ris
            have h2 := nd_take h1 (k := k) (a := rtD (keyN us) d) (by rw [List.getElem?_map, hd]; rfl)
            rwa [← List.map_take] at h2
          have HT := Lib.hid hlt
          obtain ⟨rs, hrs⟩ : ∃ q, q = rts us ((docsN us l).take k) := ⟨_, rfl⟩
          rw [← hrs] at HD ⊢
          have HRS : Hid (rs = rts us ((docsN us l).take k) ∧ rs.length ≤ 3000) := ⟨hrs, by rw [hrs]; unfold rts; rw [List.length_map, List.length_take]; have := HDB.out.hl; omega⟩
          clear hb hd hdr hlt hkt hrl hkl htb hx hrs
          go_upto_region 16 with fail
          have hb9 : Below wr.heap.size wr (wr.alloc (.cells #[.int .i64 tb, .slice B rl rc, .slice K' kl ck'] 42)) := (by repeat (first | exact Below.refl _ _ | assumption | refine Below.drew ?_ | refine below_drewN ?_ _ | refine Below.alloc ?_ (by simp <;> omega) _))
          have h9 := Blk.new wr #[.int .i64 tb, .slice B rl rc, .slice K' kl ck'] 42
          have HB9 := Lib.hid hb9
          have H9 := Lib.hid h9
          have HD9 := Lib.hid (HD.out.ext hb9)
          clear hb9 h9 e0 e1 e2 le
          generalize wr.alloc (.cells #[.int .i64 tb, .slice B rl rc, .slice K' kl ck'] 42) = w9 at HB9 H9 HD9 ⊢
          generalize wr.heap.size = b15 at H9 ⊢
          refine region_last 5 _ [false, false, false, false, false, false, false, false, false, false, false, false, false, false, false, false, false, false, false, false, false, false, false, false, false, false, false, false, false, false, false, false, false, false, false, false, false, false, false, false, false, false, false, false, false, false, false, false, false, false, false, false, false, false, false, false, false, false, false, false, false, false, false, false, false, true, true, true, true, true, false, false, false, false, false, false, false, false, false, false, false, false, false, false, false, false, false, false, false, false, false, false, false, false, false, false, false, false, false, false, false, false, false, false, false, false, false, false, false, false, false, false, false, false, false, false, false, false, false, false, false, false, false, false, false, false, false, false, false, false, false, false, false, false, false, false, false, false, false, false, false, false, false, false, false, false, false] [65, 66, 67, 68, 69] [.val (.map (some M1)), .val (.agg #[.slice A2 n c2]), .val (.agg #[.int .i64 tb, .slice B rl rc, .slice K' kl ck']), .val (.agg #[.int .i64 x1, .int .u8 kk, .int .i64 kn, .int .u64 kr, .string ks]), .val (.agg #[.int .i64 tb, .slice B rl rc, .slice K' kl ck'])] [0, 3, 4] (by kernel_rfl) (by kernel_rfl) rfl (by kernel_rfl) (by kernel_rfl) (by kernel_rfl) (by kernel_rfl) (by kernel_rfl) ⟨?_, ?_, ?_, ?_, ?_, trivial⟩ ?done
          case done =>
            intro x9 w5 hb5
            simp only [StepGoal, List.getD_cons_zero, List.getD_cons_succ]
            intro K hK
            obtain ⟨W', hrun, hch, hDS⟩ := (HD9.out.ext hb5).put1 HDD.out.2 (HROOT.out.ok HDB.out.s) HNOT.out (by have := HDB.out.hl; simp; omega)
            rw [← HX.out] at hrun
            unfold plc at hrun
            simp only at hrun
            have HDS := Lib.hid hDS
            have H95 : Hid (Blk W' b15 #[.int .i64 tb, .slice B rl rc, .slice K' kl ck'] 42) := (H9.out.ext hb5).chg hch (fun hm => by rw [List.mem_singleton] at hm; subst hm; exact (HD9.out.ext hb5).m1.no_cells _ _ _ (H9.out.ext hb5))
            clear hb5 hDS hch
            rw [if_pos (by rfl)]; simp only [overlay, upd, cond_true, cond_false, Nat.reduceEqDiff, reduceIte]
            go_simp
            refine hK.out _ _ ?_
            clear hrun
            have h8 := HDB.out.b8.ext HDS.out.b
            have s0 := h8.cell 0
            have ls := h8.lt
            have d0 := H95.out.cell 0
            have d1 := H95.out.cell 1
            have d2 := H95.out.cell 2
            have ld := H95.out.lt
            simp only [List.getElem?_toArray, List.getElem?_cons_zero, List.getElem?_cons_succ] at s0 d0 d1 d2
            clear h8
            obtain ⟨j0, hj0, hz0, hz1, hz2⟩ := info_parts info_rt
            go_wp2_with fail
            refine (HOFD.out _ HDS.out.b).mono ?_
            rintro q w6 ⟨rfl, hb6⟩
            have HD6 := Lib.hid (HDS.out.ext hb6)
            clear s0 ls d0 d1 d2 ld hb6
            go_wp2_with (at_builtin; refine wpList_append_lies _ rfl _ _ 76 rfl w3.heap.size 78 j0 _ 5 48 Tryz.underlying76 hj0 hz0 hz1 hz2 rfl (by decide) (.slice Ka rs.length ca) rs.length (rcells rs) (by simp [go_sem]) (own_below HD6.out.al (by repeat (first | exact Below.refl _ _ | assumption | refine Below.drew ?_ | refine below_drewN ?_ _ | refine Below.alloc ?_ (by simp <;> omega) _))) ⟨w6.heap.size, 0, none⟩ 1 1 (rcells [(x1, ⟨kk, kn, kr, ks⟩)]) (by simp [go_sem]) rfl (World.news_of_block (Blk.new w6 #[.int .i64 x1, .int .u8 kk, .int .i64 kn, .int .u64 kr, .string ks] 78)) (by simp [rcells, rtC, Value.oneCell']) (by decide) (by have := HRS.out.2; simp only [maxLen]; omega) (by have := HRS.out.2; omega) (by have := HD6.out.b.size; simp; omega) _ rfl ?_)
            intro g7 c7 w7 hown7 hg7 hat7 _
            have HD7 : Hid (DS us m w3 M1 M2 ((docsN us l).take (k + 1)) [] [] gf0 (rts us ((docsN us l).take (k + 1))) (some ⟨g7, 0, none⟩) c7 w7) := by
              have h1 := (HD6.out.ext (show Below w6.heap.size w6 (w6.alloc (.cells #[.int .i64 x1, .int .u8 kk, .int .i64 kn, .int .u64 kr, .string ks] 78)) from (by repeat (first | exact Below.refl _ _ | assumption | refine Below.drew ?_ | refine below_drewN ?_ _ | refine Below.alloc ?_ (by simp <;> omega) _)))).app hg7 hown7
              have e := rts_take HDD.out.1
              have e2 : rts us ((docsN us l).take (k + 1)) = rs ++ [(x1, ⟨kk, kn, kr, ks⟩)] := by rw [e, rts_snoc, HRS.out.1, HX.out]
              rw [e2, e]
              exact h1
            have HLE : Hid ((rts us ((docsN us l).take (k + 1))).length = rs.length + 1) := by
              show _ = _
              rw [rts_take HDD.out.1, rts_snoc, List.length_append, HRS.out.1]; rfl
            have hlt := HT.out
            clear hown7 hg7 hat7
            go_wp2_with fail
            go_roundw
            case rel => exact ⟨k + 1, by omega, by simp, some ⟨g7, 0, none⟩, c7, by rw [HLE.out], HD7.out⟩
            case measure =>
              show nh - ((k : Int) + 1).toNat < nh - (k : Int).toNat
              omega
          all_goals
            intro x9 w8 hT8
            intro K hK
            have h8 := HDB.out.b8.ext (bt HD9.out.b hT8)
            have s0 := h8.cell 0
            have ls := h8.lt
            have h98 := H9.out.ext hT8
            have d0 := h98.cell 0
            have d1 := h98.cell 1
            have d2 := h98.cell 2
            have ld := h98.lt
            simp only [List.getElem?_toArray, List.getElem?_cons_zero, List.getElem?_cons_succ] at s0 d0 d1 d2
            clear h8 h98
            rw [if_pos (by rfl)]; simp only [overlay, upd, cond_true, cond_false, List.getD_cons_zero, List.getD_cons_succ, Nat.reduceEqDiff, reduceIte]
            go_simp
            first
              | exact hK.out _ _ (Below.refl _ _) rfl
              | (refine (HOFD.out _ (bt HD9.out.b hT8)).mono ?_
                 rintro q w9 ⟨rfl, hb9⟩
                 go_wp2_with fail
                 exact hK.out _ _ hb9 rfl)
        · have i0 : ¬ (k : Int) < nh := by omega
          have htk : (docsN us l).take k = docsN us l := List.take_of_length_le (by have := HDB.out.hl; omega)
          rw [htk] at HD ⊢
          have HD3 : Hid (DS us m w3 M1 M2 (docsN us l) (told.take 0) [] gf0 (rts us (docsN us l ++ told.take 0)) Ka ca wr) := by
            show DS _ _ _ _ _ _ _ _ _ _ _ _ _
            rw [List.take_zero, List.append_nil]
            exact HD.out
          have HL0 : Hid ((rts us (docsN us l)).length = (rts us (docsN us l ++ told.take 0)).length) := by
            show _ = _
            rw [List.take_zero, List.append_nil]
          clear hk hlt htk HD
          go_wp2_with fail
          rw [HL0.out]
          clear HL0
          go_loopw [13, 79] (fun al v wr => ∃ j : Nat, j ≤ nt ∧ v = .int .i64 j ∧ ∃ ys f Ka ca, al = .slice Ka (rts us (docsN us l ++ told.take j)).length ca ∧ Hid (DS us m w3 M1 M2 (docsN us l) (told.take j) ys f (rts us (docsN us l ++ told.take j)) Ka ca wr)) (fun _ v _ => nt - (intOf v).toNat)
          case atStart => exact ⟨0, by omega, rfl, [], gf0, Ka, ca, rfl, HD3.out⟩
          case round =>
            clear HD3 i0
            obtain ⟨j, hj, rfl, ys, f, Ka, ca, rfl, HD⟩ := hrel
            by_cases hlt : j < nt
            · have hkt : j < told.length := by have := HDB.out.tl; omega
              have w1' : IntKind.i64.wrap ((j : Int) + 1) = (j : Int) + 1 := IntWalk.i64_in _ (by have := HDB.out.tl; omega)
              have i0 : (j : Int) < nt := by omega
              obtain ⟨b, off, d, B, rc, K', ck', hKt, hb, _, hd, e0, e1, e2, hdr⟩ := HDB.out.t.kid hkt
              subst hKt
              have e0 := (HD.out.b.cell (p := ⟨b, off + j * 3, none⟩) hb).trans e0
              have e1 := (HD.out.b.cell (p := ⟨b, off + j * 3 + 1, none⟩) hb).trans e1
              have e2 := (HD.out.b.cell (p := ⟨b, off + j * 3 + 2, none⟩) hb).trans e2
              have le := Nat.lt_of_lt_of_le hb HD.out.b.size
              have HROOT := Lib.hid (HDB.out.rt d (List.mem_of_getElem? hd))
              have HDD := Lib.hid (And.intro hd hdr)
              obtain ⟨rl, hrl⟩ : ∃ q, q = d.row.length := ⟨_, rfl⟩
              obtain ⟨kl, hkl⟩ : ∃ q, q = d.kids.length := ⟨_, rfl⟩
              obtain ⟨tb, htb⟩ : ∃ q, q = d.tb := ⟨_, rfl⟩
              rw [← htb] at e0
              rw [← hrl] at e1
              rw [← hkl] at e2
              rw [← htb, ← hrl, ← hkl] at HDD
              obtain ⟨⟨x1, ⟨kk, kn, kr, ks⟩⟩, hx⟩ : ∃ q, q = embR (rtD (keyN us) d) := ⟨_, rfl⟩
              have HX := Lib.hid hx
              have HOFD : Hid (∀ W : World, Below w3.heap.size w3 W → Calls Tryz.prog 31 #[.agg #[.slice A2 n c2], .agg #[.int .i64 tb, .slice B rl rc, .slice K' kl ck']] W (fun q W' => q = .returned (.agg #[.int .i64 x1, .int .u8 kk, .int .i64 kn, .int .u64 kr, .string ks]) ∧ Below W.heap.size W W')) := fun W hW => by
                have h := of_doc (HDB.out.tr.ext hW) HDB.out.d HROOT.out (HDD.out.2.ext hW)
                rw [← hx, ← HDB.out.hn] at h
                exact h
              have HT := Lib.hid hlt
              obtain ⟨rs, hrs⟩ : ∃ q, q = rts us (docsN us l ++ told.take j) := ⟨_, rfl⟩
              rw [← hrs] at HD ⊢
              have HRS : Hid (rs = rts us (docsN us l ++ told.take j) ∧ rs.length ≤ 6000) := ⟨hrs, by rw [hrs]; unfold rts; rw [List.length_map, List.length_append, List.length_take]; have := HDB.out.hl; have := HDB.out.tl; omega⟩
              clear hb hd hdr hlt hkt hrl hkl htb hx hrs
              go_upto_region 22 with fail
              have hb9 : Below wr.heap.size wr (wr.alloc (.cells #[.int .i64 tb, .slice B rl rc, .slice K' kl ck'] 42)) := (by repeat (first | exact Below.refl _ _ | assumption | refine Below.drew ?_ | refine below_drewN ?_ _ | refine Below.alloc ?_ (by simp <;> omega) _))
              have h9 := Blk.new wr #[.int .i64 tb, .slice B rl rc, .slice K' kl ck'] 42
              have H9 := Lib.hid h9
              have HD9 := Lib.hid (HD.out.ext hb9)
              clear hb9 h9 e0 e1 e2 le
              generalize wr.alloc (.cells #[.int .i64 tb, .slice B rl rc, .slice K' kl ck'] 42) = w9 at H9 HD9 ⊢
              generalize wr.heap.size = b17 at H9 ⊢
              have h8 := HDB.out.b8.ext HD9.out.b
              have s0 := h8.cell 0
              have ls := h8.lt
              have d0 := H9.out.cell 0
              have d1 := H9.out.cell 1
              have d2 := H9.out.cell 2
              have ld := H9.out.lt
              simp only [List.getElem?_toArray, List.getElem?_cons_zero, List.getElem?_cons_succ] at s0 d0 d1 d2
              clear h8
              go_wp2_with fail
              refine (HOFD.out _ HD9.out.b).mono ?_
              rintro q w5 ⟨rfl, hb5⟩
              have H95 := Lib.hid (H9.out.ext hb5)
              have HD5 := Lib.hid (HD9.out.ext hb5)
              clear s0 ls d0 d1 d2 ld hb5 HD9 H9 HD
              go_upto_region 23 with fail
              have hb6 : Below w5.heap.size w5 (w5.alloc (.cells #[.int .i64 x1, .int .u8 kk, .int .i64 kn, .int .u64 kr, .string ks] 78)) := (by repeat (first | exact Below.refl _ _ | assumption | refine Below.drew ?_ | refine below_drewN ?_ _ | refine Below.alloc ?_ (by simp <;> omega) _))
              have h6 := Blk.new w5 #[.int .i64 x1, .int .u8 kk, .int .i64 kn, .int .u64 kr, .string ks] 78
              have H6 := Lib.hid h6
              have HD6 := Lib.hid (HD5.out.ext hb6)
              have H96 := Lib.hid (H95.out.ext hb6)
              clear hb6 h6 HD5 H95
              generalize w5.alloc (.cells #[.int .i64 x1, .int .u8 kk, .int .i64 kn, .int .u64 kr, .string ks] 78) = w6 at H6 HD6 H96 ⊢
              generalize w5.heap.size = b18 at H6 ⊢
              have hb7 : Below w6.heap.size w6 (w6.alloc (.cells #[.int .i64 tb, .slice B rl rc, .slice K' kl ck'] 42)) := (by repeat (first | exact Below.refl _ _ | assumption | refine Below.drew ?_ | refine below_drewN ?_ _ | refine Below.alloc ?_ (by simp <;> omega) _))
              obtain ⟨st, w8, hrun, ⟨hch8, hown8⟩, hst⟩ := (HD6.out.ext hb7).ent (HROOT.out.ok HDB.out.s) (by have := HDB.out.tl; rw [List.length_take]; omega)
              have hnw : Blk w8 w6.heap.size #[.int .i64 tb, .slice B rl rc, .slice K' kl ck'] 42 := (Blk.new w6 _ _).chg hch8 (fun hm => by rw [List.mem_singleton] at hm; have := HD6.out.m2.lt; omega)
              have hsz8 : w3.heap.size ≤ w8.heap.size := Nat.le_trans (HD6.out.ext hb7).b.size hch8.size
              have HRT := Lib.hid (H6.out.ext hb7)
              have htl : (toldAt us (told.take j) (rtD (keyN us) d)).length ≤ 3000 := Nat.le_trans (List.length_filter_le _ _) (by have := HDB.out.tl; rw [List.length_take]; omega)
              rw [← HX.out] at hrun
              unfold plc at hrun
              simp only [goInt] at hrun hst
              generalize (gotF ys f (rtD (keyN us) d)).A = GA at hrun hown8 hst
              generalize (gotF ys f (rtD (keyN us) d)).c = GC at hrun hown8 hst
              generalize (gotF ys f (rtD (keyN us) d)).xs = GX at hown8 hst
              generalize (toldAt us (told.take j) (rtD (keyN us) d)).length = GL at hrun hown8 hst htl
              have HST := Lib.hid hst
              have HOW8 := Lib.hid hown8
              have HNW := Lib.hid hnw
              have HSZ8 := Lib.hid hsz8
              have HTL := Lib.hid htl
              clear hb7 hst hch8 hown8 hnw hsz8 htl
              have r0 := H6.out.cell 0
              have r1 := H6.out.cell 1
              have r2 := H6.out.cell 2
              have r3 := H6.out.cell 3
              have r4 := H6.out.cell 4
              have lr := H6.out.lt
              have d0 := H96.out.cell 0
              have d1 := H96.out.cell 1
              have d2 := H96.out.cell 2
              have ld := H96.out.lt
              simp only [List.getElem?_toArray, List.getElem?_cons_zero, List.getElem?_cons_succ] at r0 r1 r2 r3 r4 d0 d1 d2
              obtain ⟨j1, hj1, hy0, hy1, hy2⟩ := info_parts info_Dc
              go_wp2_with (at_builtin; refine wpList_append_lies _ rfl _ _ 34 rfl w3.heap.size 42 j1 _ 3 56 Tryz.underlying34 hj1 hy0 hy1 hy2 rfl (by decide) (.slice GA GL GC) GL GX (by simp [go_sem]) HOW8.out ⟨w6.heap.size, 0, none⟩ 1 1 [.int .i64 tb, .slice B rl rc, .slice K' kl ck'] (by simp [go_sem]) rfl (World.news_of_block HNW.out) (by simp [Value.oneCell']) (by decide) (by have := HTL.out; simp only [maxLen]; omega) (by have := HTL.out; omega) HSZ8.out _ rfl ?_)
              intro g9 c9 w9' hown9 hg9 hat9 _
              obtain ⟨w10, hr10, hkeep, ys', f', hD10⟩ := HST.out w9' g9 c9 _ _ _ hg9 hown9 hat9 HDD.out.2
              have HRT10 := Lib.hid (hkeep _ _ _ (by decide) HRT.out)
              have HD10 := Lib.hid hD10
              clear hown9 hg9 hat9 hkeep hD10 hrun r0 r1 r2 r3 r4 lr d0 d1 d2 ld HST HOW8 HNW HSZ8 HTL hj1 hy0 hy1 hy2
              go_upto_region 24 with fail
              clear hr10
              have r0 := HRT10.out.cell 0
              have r1 := HRT10.out.cell 1
              have r2 := HRT10.out.cell 2
              have r3 := HRT10.out.cell 3
              have r4 := HRT10.out.cell 4
              have lr := HRT10.out.lt
              simp only [List.getElem?_toArray, List.getElem?_cons_zero, List.getElem?_cons_succ] at r0 r1 r2 r3 r4
              obtain ⟨j0, hj0, hz0, hz1, hz2⟩ := info_parts info_rt
              go_wp2_with (at_builtin; refine wpList_append_lies _ rfl _ _ 76 rfl w3.heap.size 78 j0 _ 5 48 Tryz.underlying76 hj0 hz0 hz1 hz2 rfl (by decide) (.slice Ka rs.length ca) rs.length (rcells rs) (by simp [go_sem]) (own_below HD10.out.al (by repeat (first | exact Below.refl _ _ | assumption | refine Below.drew ?_ | refine below_drewN ?_ _ | refine Below.alloc ?_ (by simp <;> omega) _))) ⟨w10.heap.size, 0, none⟩ 1 1 (rcells [(x1, ⟨kk, kn, kr, ks⟩)]) (by simp [go_sem]) rfl (World.news_of_block (Blk.new w10 #[.int .i64 x1, .int .u8 kk, .int .i64 kn, .int .u64 kr, .string ks] 78)) (by simp [rcells, rtC, Value.oneCell']) (by decide) (by have := HRS.out.2; simp only [maxLen]; omega) (by have := HRS.out.2; omega) (by have := HD10.out.b.size; simp; omega) _ rfl ?_)
              intro g7 c7 w7 hown7 hg7 hat7 _
              have HD7 : Hid (DS us m w3 M1 M2 (docsN us l) (told.take (j + 1)) ys' f' (rts us (docsN us l ++ told.take (j + 1))) (some ⟨g7, 0, none⟩) c7 w7) := by
                have h1 := (HD10.out.ext (show Below w10.heap.size w10 (w10.alloc (.cells #[.int .i64 x1, .int .u8 kk, .int .i64 kn, .int .u64 kr, .string ks] 78)) from (by repeat (first | exact Below.refl _ _ | assumption | refine Below.drew ?_ | refine below_drewN ?_ _ | refine Below.alloc ?_ (by simp <;> omega) _)))).app hg7 hown7
                have e := rts_take HDD.out.1
                have e2 : rts us (docsN us l ++ told.take (j + 1)) = rs ++ [(x1, ⟨kk, kn, kr, ks⟩)] := by rw [e, ← List.append_assoc, rts_snoc, HRS.out.1, HX.out]
                rw [e2, e]
                exact h1
              have HLE : Hid ((rts us (docsN us l ++ told.take (j + 1))).length = rs.length + 1) := by
                show _ = _
                rw [rts_take HDD.out.1, ← List.append_assoc, rts_snoc, List.length_append, HRS.out.1]; rfl
              have hlt := HT.out
              clear hown7 hg7 hat7 r0 r1 r2 r3 r4 lr
              go_wp2_with fail
              go_roundw
              case rel => exact ⟨j + 1, by omega, by simp, ys', f', some ⟨g7, 0, none⟩, c7, by rw [HLE.out], HD7.out⟩
              case measure =>
                show nt - ((j : Int) + 1).toNat < nt - (j : Int).toNat
                omega
            · have i0 : ¬ (j : Int) < nt := by omega
              have htk : told.take j = told := List.take_of_length_le (by have := HDB.out.tl; omega)
              rw [htk] at HD ⊢
              obtain ⟨rs, hrs⟩ : ∃ q, q = rts us (docsN us l ++ told) := ⟨_, rfl⟩
              rw [← hrs] at HD ⊢
              have HRS : Hid (rs = rts us (docsN us l ++ told) ∧ rs.length ≤ 6000) := ⟨hrs, by rw [hrs]; unfold rts; rw [List.length_map, List.length_append]; have := HDB.out.hl; have := HDB.out.tl; omega⟩
              clear hj hlt htk hrs
              go_upto_region 27 with fail
              have hb19 : Below wr.heap.size wr (wr.alloc (.cells #[.slice none 0 0] 38)) := (by repeat (first | exact Below.refl _ _ | assumption | refine Below.drew ?_ | refine below_drewN ?_ _ | refine Below.alloc ?_ (by simp <;> omega) _))
              have h19 := Blk.new wr #[.slice none 0 0] 38
              have HSO := Lib.hid (sorted_docs (HD.out.ext hb19) HRS.out.1 (fun d hd => (List.mem_append.1 hd).elim (fun h => docsN_root HDB.out.i h) (fun h => HDB.out.rt d h)) HRS.out.2 h19 HD.out.b.size)
              clear hb19 h19 HD
              generalize wr.alloc (.cells #[.slice none 0 0] 38) = w4 at HSO ⊢
              generalize wr.heap.size = b19 at HSO ⊢
              go_wp2_with fail
              refine HSO.out.mono ?_
              rintro q w5 ⟨zs, Ks, cs, rfl, hzl, hznd, hzm, hLS⟩
              have HLS := Lib.hid hLS
              have HZ := Lib.hid (And.intro hznd hzm)
              clear HSO hznd hzm hLS
              obtain ⟨nz, hnz⟩ : ∃ q, q = zs.length := ⟨_, rfl⟩
              rw [← hnz]
              have HNZ : Hid (nz = zs.length ∧ nz ≤ 6000) := ⟨hnz, by have := HRS.out.2; omega⟩
              clear hnz hzl
              go_wp2_with fail
              go_loopw [102] (fun v wr => ∃ k : Nat, k ≤ nz ∧ v = .int .i64 k ∧ ∃ Ag cg, Hid (LS us m w3 M1 M2 (docsN us l) told ys f zs Ks cs b19 ((zs.take k).flatMap (gapI us (docsN us l) told)) Ag cg wr)) (fun v _ => nz - (intOf v).toNat)
              case atStart => exact ⟨0, by omega, rfl, none, 0, HLS.out⟩
              case round =>
                clear HLS
                obtain ⟨k, hk, rfl, Ag, cg, HL⟩ := hrel
                by_cases hlt : k < nz
                · have hkz : k < zs.length := by have := HNZ.out; omega
                  obtain ⟨x, hx⟩ : ∃ x, zs[k]? = some x := ⟨_, List.getElem?_eq_getElem hkz⟩
                  have w1' : IntKind.i64.wrap ((k : Int) + 1) = (k : Int) + 1 := IntWalk.i64_in _ (by have := HNZ.out; omega)
                  have i0 : (k : Int) < nz := by omega
                  have hxin := (HZ.out.2 x).1 (List.mem_of_getElem? hx)
                  have hok : okP (embR x) := by
                    obtain ⟨d, hd, rfl⟩ := List.mem_map.1 hxin
                    rcases List.mem_append.1 hd with hd | hd
                    · exact (docsN_root HDB.out.i hd).ok HDB.out.s
                    · exact (HDB.out.rt d hd).ok HDB.out.s
                  have hpre : preB us us.length = true := (sch_parts HDB.out.s).2.1
                  obtain ⟨⟨v, is, hhv, hlk1⟩, hlk2⟩ := HL.out.e.look hok (docsN_nodup hpre HDB.out.i.ris)
                  have hgot := HL.out.e.g.at_ x
                  obtain ⟨gs0, hgs0⟩ : ∃ q, q = (zs.take k).flatMap (gapI us (docsN us l) told) := ⟨_, rfl⟩
                  have hgs1 : (zs.take (k + 1)).flatMap (gapI us (docsN us l) told) = gs0 ++ gapI us (docsN us l) told x := by
                    rw [List.take_add_one, hx, Option.toList_some, List.flatMap_append, hgs0]
                    simp
                  have hgl : gs0.length ≤ 30000000 := by
                    rw [hgs0]
                    refine Nat.le_trans (flat_le _ 3001 _ (fun z _ => ?_)) ?_
                    · rw [gapI_eq, List.length_append, List.length_replicate]
                      have h1 : (headG us (docsN us l) told z).length ≤ 1 := by
                        unfold headG
                        split
                        · simp
                        · simp
                        · split <;> simp
                      have h2 : (toldAt us told z).length ≤ told.length := List.length_filter_le _ _
                      have := HDB.out.tl
                      omega
                    · have : (zs.take k).length ≤ 6000 := by rw [List.length_take]; have := HNZ.out; omega
                      omega
                  rw [← hgs0] at HL
                  obtain ⟨g5, c5, hKs, _, hg5⟩ := HL.out.so.form (by omega : 0 < zs.length)
                  simp only [Value.slice.injEq, true_and] at hKs
                  obtain ⟨rfl, rfl⟩ := hKs
                  have hcel := HL.out.so.cells (g := g5) rfl
                  obtain ⟨⟨x1, ⟨kk, kn, kr, ks⟩⟩, hxe⟩ : ∃ q, q = embR x := ⟨_, rfl⟩
                  have hrt : ∀ q u, q < 5 → (rtC (x1, ⟨kk, kn, kr, ks⟩))[q]? = some u → wr.cell? ⟨g5, k * 5 + q, none⟩ = some u := fun q u hq hu => by
                    have h1 := hcel (k * 5 + q) u (by rw [show rcells (zs.map embR) = (zs.map embR).flatMap rtC from rfl, flat_get rtC 5 (fun _ => rfl) (zs.map embR) k q (embR x) (by rw [List.getElem?_map, hx]; rfl) hq, ← hxe]; exact hu)
                    rwa [addr_add, Nat.zero_add] at h1
                  have y0 := hrt 0 _ (by omega) rfl
                  rw [Nat.add_zero] at y0
                  have y1 := hrt 1 _ (by omega) rfl
                  have y2 := hrt 2 _ (by omega) rfl
                  have y3 := hrt 3 _ (by omega) rfl
                  have y4 := hrt 4 _ (by omega) rfl
                  rw [← hxe] at hlk1 hlk2
                  unfold plc at hlk1 hlk2
                  simp only at hlk1 hlk2 y0 y1 y2 y3 y4
                  have HLK := Lib.hid (And.intro hlk1 hlk2)
                  have HGOT := Lib.hid hgot
                  have HHV := Lib.hid hhv
                  have HXE := Lib.hid hxe
                  have HGS := Lib.hid (And.intro hgs1 hgl)
                  have HT := Lib.hid hlt
                  clear hkz hx hxin hok hpre hhv hlk1 hlk2 hgot hgs0 hgs1 hgl hcel hxe hrt hlt
                  go_upto_region 31 with fail
                  have hbA : Below wr.heap.size wr (wr.alloc (.cells #[.int .i64 x1, .int .u8 kk, .int .i64 kn, .int .u64 kr, .string ks] 78)) := (by repeat (first | exact Below.refl _ _ | assumption | refine Below.drew ?_ | refine below_drewN ?_ _ | refine Below.alloc ?_ (by simp <;> omega) _))
                  have hA := Blk.new wr #[.int .i64 x1, .int .u8 kk, .int .i64 kn, .int .u64 kr, .string ks] 78
                  have HLA := Lib.hid (HL.out.ext hbA)
                  have HA := Lib.hid hA
                  have HBA := Lib.hid hbA
                  clear y0 y1 y2 y3 y4 hg5 hbA hA
                  generalize wr.alloc (.cells #[.int .i64 x1, .int .u8 kk, .int .i64 kn, .int .u64 kr, .string ks] 78) = wA at HLA HA HBA ⊢
                  generalize wr.heap.size = b21 at HA ⊢
                  have hl1 := HLK.out.1 wA (HBA.out.block M1 HL.out.e.m1.lt)
                  have r0 := HA.out.cell 0
                  have r1 := HA.out.cell 1
                  have r2 := HA.out.cell 2
                  have r3 := HA.out.cell 3
                  have r4 := HA.out.cell 4
                  have lr := HA.out.lt
                  simp only [List.getElem?_toArray, List.getElem?_cons_zero, List.getElem?_cons_succ] at r0 r1 r2 r3 r4
                  obtain ⟨dt, dB, dr, dc, dK, dk, dq, rfl⟩ : ∃ (dt : Int) (dB : Option Addr) (dr dc : Nat) (dK : Option Addr) (dk dq : Nat), v = .agg #[.int .i64 dt, .slice dB dr dc, .slice dK dk dq] := by
                    rcases HHV.out with ⟨_, d, _, h1⟩ | ⟨_, h1, _⟩
                    · obtain ⟨A', ca', K', ck', e⟩ := h1.form
                      exact ⟨_, _, _, _, _, _, _, e⟩
                    · exact ⟨_, _, _, _, _, _, _, h1⟩
                  go_upto_region 32 with fail
                  have hbB : Below wA.heap.size wA (wA.alloc (.cells #[.int .i64 dt, .slice dB dr dc, .slice dK dk dq] 42)) := (by repeat (first | exact Below.refl _ _ | assumption | refine Below.drew ?_ | refine below_drewN ?_ _ | refine Below.alloc ?_ (by simp <;> omega) _))
                  have hB := Blk.new wA #[.int .i64 dt, .slice dB dr dc, .slice dK dk dq] 42
                  have HLB := Lib.hid (HLA.out.ext hbB)
                  have HB := Lib.hid hB
                  have HAB := Lib.hid (HA.out.ext hbB)
                  have HBB := Lib.hid (bt HBA.out hbB)
                  clear hl1 r0 r1 r2 r3 r4 lr hbB hB HLA HA HBA
                  generalize wA.alloc (.cells #[.int .i64 dt, .slice dB dr dc, .slice dK dk dq] 42) = wB at HLB HB HAB HBB ⊢
                  generalize wA.heap.size = b23 at HB ⊢
                  have hl2 := HLK.out.2 wB (HBB.out.block M2 HL.out.e.m2.lt)
                  generalize hGL : (toldAt us told x).length = GL at hl2 HGOT
                  generalize (gotF ys f x).A = GA at hl2 HGOT
                  generalize (gotF ys f x).c = GC at hl2 HGOT
                  generalize (gotF ys f x).xs = GX at HGOT
                  have HGL := Lib.hid hGL
                  clear hGL
                  have r0 := HAB.out.cell 0
                  have r1 := HAB.out.cell 1
                  have r2 := HAB.out.cell 2
                  have r3 := HAB.out.cell 3
                  have r4 := HAB.out.cell 4
                  have lr := HAB.out.lt
                  simp only [List.getElem?_toArray, List.getElem?_cons_zero, List.getElem?_cons_succ] at r0 r1 r2 r3 r4
                  have HNOTE : Hid (∀ (W : World) (kd : Int) (gs : List (Int × (Int × V))) (Ag : Option Addr) (cg : Nat), LS us m w3 M1 M2 (docsN us l) told ys f zs (some ⟨g5, 0, none⟩) cs b19 gs Ag cg W → Blk W b21 #[.int .i64 x1, .int .u8 kk, .int .i64 kn, .int .u64 kr, .string ks] 78 → gs.length ≤ 90000000 →
                      Calls Tryz.prog 34 #[.int .u8 kd, .pointer (some ⟨b19, 0, none⟩), .pointer (some ⟨b21, 0, none⟩)] W (fun q W' => q = .returned (.tuple #[]) ∧ Blk W' b21 #[.int .i64 x1, .int .u8 kk, .int .i64 kn, .int .u64 kr, .string ks] 78 ∧ ∃ Ag' cg', LS us m w3 M1 M2 (docsN us l) told ys f zs (some ⟨g5, 0, none⟩) cs b19 (gs ++ [(kd, embR x)]) Ag' cg' W')) := by
                    intro W kd gs Ag cg h1 h2 h3
                    refine (docs1_any kd (x1, ⟨kk, kn, kr, ks⟩) h1.g h2 (by omega) h1.e.b.size).mono ?_
                    intro q W' hq
                    obtain ⟨e1, hkeep, Ag', cg', h4⟩ := h1.note hq
                    rw [HXE.out] at h4
                    exact ⟨e1, hkeep _ _ _ (by decide) (by decide) h2, Ag', cg', h4⟩
                  go_upto_block 8 with fail
                  clear hl2 r0 r1 r2 r3 r4 lr
                  go_cut [] (fun wx => ∃ Ag cg, Hid (LS us m w3 M1 M2 (docsN us l) told ys f zs (some ⟨g5, 0, none⟩) cs b19 (gs0 ++ headG us (docsN us l) told x) Ag cg wx) ∧ Hid (Blk wx b21 #[.int .i64 x1, .int .u8 kk, .int .i64 kn, .int .u64 kr, .string ks] 78))
                  case first =>
                    by_cases hz : GL = 0
                    · have q1 : ((GL : Int) == 0) = true := by simp [hz]
                      have HF : Hid (gs0 ++ headG us (docsN us l) told x = gs0 ++ [(1, embR x)]) := by
                        show _ = _
                        have : toldAt us told x = [] := List.eq_nil_of_length_eq_zero (HGL.out.trans hz)
                        unfold headG
                        rw [this]
                      clear hz
                      go_wp2_with fail
                      refine (HNOTE.out _ 1 gs0 Ag cg HLB.out HAB.out (by have := HGS.out.2; omega)).mono ?_
                      rintro q wC ⟨rfl, hk2, Ag', cg', hL2⟩
                      have HL2 := Lib.hid hL2
                      have HK2 := Lib.hid hk2
                      clear hL2 hk2
                      go_wp2_with fail
                      go_meet
                      exact ⟨Ag', cg', by rw [HF.out]; exact HL2.out, HK2.out⟩
                    · have q1 : ((GL : Int) == 0) = false := by simp [hz]
                      have hpos : 0 < GL := Nat.pos_of_ne_zero hz
                      obtain ⟨t0, T, hTT⟩ : ∃ t0 T, toldAt us told x = t0 :: T := by
                        cases hh : toldAt us told x with
                        | nil => rw [hh] at HGL; exact absurd HGL.out.symm hz
                        | cons a b => exact ⟨a, b, rfl⟩
                      have HTT := Lib.hid hTT
                      obtain ⟨ga, gc, hGA, _, hga⟩ := (own_below HGOT.out.1 HBB.out).form hpos
                      simp only [Value.slice.injEq, true_and] at hGA
                      obtain ⟨rfl, rfl⟩ := hGA
                      have hcg := (own_below HGOT.out.1 HBB.out).cells (g := ga) rfl
                      obtain ⟨c0, c1, c3, k0, k1, k2, hde⟩ := HGOT.out.2.2 0 t0 (by rw [hTT]; rfl)
                      obtain ⟨eB, ec, eK, eq, hev⟩ := hde.form
                      simp only [Value.agg.injEq, Array.mk.injEq, List.cons.injEq, and_true] at hev
                      obtain ⟨rfl, rfl, rfl⟩ := hev
                      have z0 := hcg _ _ k0
                      have z1 := hcg _ _ k1
                      have z2 := hcg _ _ k2
                      rw [addr_add] at z0 z1 z2
                      simp only [Nat.zero_mul, Nat.zero_add] at z0 z1 z2
                      have HDE := Lib.hid hde
                      generalize t0.tb = et at z0 HDE
                      generalize t0.row.length = er at z1 HDE
                      generalize t0.kids.length = ek at z2 HDE
                      have HZZ := Lib.hid (And.intro z0 (And.intro z1 (And.intro z2 hga)))
                      clear hz hTT hcg k0 k1 k2 hde z0 z1 z2 hga
                      cases is
                      · have HF : Hid (gs0 ++ headG us (docsN us l) told x = gs0 ++ [(2, embR x)]) := by
                          show _ = _
                          rcases HHV.out with ⟨h1, _⟩ | ⟨_, _, h1⟩
                          · cases h1
                          · unfold headG
                            rw [HTT.out, h1]
                        go_wp2_with fail
                        refine (HNOTE.out _ 2 gs0 Ag cg HLB.out HAB.out (by have := HGS.out.2; omega)).mono ?_
                        rintro q wC ⟨rfl, hk2, Ag', cg', hL2⟩
                        have HL2 := Lib.hid hL2
                        have HK2 := Lib.hid hk2
                        clear hL2 hk2
                        go_wp2_with fail
                        go_meet
                        exact ⟨Ag', cg', by rw [HF.out]; exact HL2.out, HK2.out⟩
                      · obtain ⟨d, hdd, hdv⟩ : ∃ d, toldAt us (docsN us l) x = [d] ∧ DRd 9 w3 (.agg #[.int .i64 dt, .slice dB dr dc, .slice dK dk dq]) d := by
                          rcases HHV.out with ⟨_, h1⟩ | ⟨h1, _⟩
                          · exact h1
                          · cases h1
                        obtain ⟨SM, hSM⟩ : ∃ q, q = smD d t0 := ⟨_, rfl⟩
                        have HSM : Hid (∀ W : World, Below wB.heap.size wB W → Calls Tryz.prog 12 #[.agg #[.int .i64 dt, .slice dB dr dc, .slice dK dk dq], .agg #[.int .i64 et, .slice eB er ec, .slice eK ek eq]] W (fun q W' => q = .returned (.bool SM) ∧ Below W.heap.size W W')) := fun W hW => by
                          rw [hSM]
                          exact aggsame_any 9 m _ _ d t0 W (hdv.ext (bt HLB.out.e.b hW)) (HDE.out.ext (bt HLB.out.e.b hW))
                        have HHG : Hid (headG us (docsN us l) told x = if SM then [] else [(3, embR x)]) := by
                          show _ = _
                          unfold headG
                          rw [HTT.out, hdd, hSM]
                        clear hdd hdv hSM
                        have i2 : (0 : Int) < GL := by omega
                        go_upto_region 37 with fail
                        refine region_grow [false, false, false, false, false, false, false, false, false, false, false, false, false, false, false, false, false, false, false, false, false, false, false, false, false, false, false, false, false, false, false, false, false, false, false, false, false, false, false, false, false, false, false, false, false, false, false, false, false, false, false, false, false, false, false, false, false, false, false, false, false, false, false, false, false, false, false, false, false, false, false, false, false, false, false, false, false, false, false, false, false, false, false, false, false, false, false, false, false, false, false, false, false, false, false, false, false, false, false, false, false, false, false, false, false, false, false, false, false, false, false, false, false, false, false, false, false, false, false, false, false, false, false, false, false, false, false, true, true, true, true, true, true, true, false, false, false, false, false, false, false, false, false, false, false, false, false] [128, 129, 130, 131, 132, 133, 127] [.val (.agg #[.int .i64 dt, .slice dB dr dc, .slice dK dk dq]), .val (.slice (some ⟨ga, 0, none⟩) GL GC), .val (.pointer (some ⟨ga, 0, none⟩)), .val (.agg #[.int .i64 et, .slice eB er ec, .slice eK ek eq]), .val (.bool SM), .val (.bool (!SM)), .val (.bool (!SM))] [6] (by kernel_rfl) (by kernel_rfl) (by kernel_rfl) (by kernel_rfl) (by kernel_rfl) ⟨?_, ?_, ?_, ?_, ?_, ?_, ?_, trivial⟩ ?done
                        case done =>
                          intro x9 w5 hb5
                          simp only [StepGoal, overlay, upd, cond_true, cond_false, List.getD_cons_zero, List.getD_cons_succ, Nat.zero_add, Nat.reduceAdd, Nat.reduceEqDiff, reduceIte]
                          have HL5 := Lib.hid (HLB.out.ext hb5)
                          have HA5 := Lib.hid (HAB.out.ext hb5)
                          clear hb5
                          cases SM
                          · have HF : Hid (gs0 ++ headG us (docsN us l) told x = gs0 ++ [(3, embR x)]) := by show _ = _; rw [HHG.out]; rfl
                            go_wp2_with fail
                            refine (HNOTE.out _ 3 gs0 Ag cg HL5.out HA5.out (by have := HGS.out.2; omega)).mono ?_
                            rintro q wC ⟨rfl, hk2, Ag', cg', hL2⟩
                            have HL2 := Lib.hid hL2
                            have HK2 := Lib.hid hk2
                            clear hL2 hk2
                            go_wp2_with fail
                            go_meet
                            exact ⟨Ag', cg', by rw [HF.out]; exact HL2.out, HK2.out⟩
                          · have HF : Hid (gs0 ++ headG us (docsN us l) told x = gs0) := by show _ = _; rw [HHG.out]; simp
                            go_wp2_with fail
                            go_meet
                            exact ⟨Ag, cg, by rw [HF.out]; exact HL5.out, HA5.out⟩
                        all_goals
                          intro x9 w8 hT8
                          intro K hK
                          have h98 := HB.out.ext hT8
                          have d0 := h98.cell 0
                          have d1 := h98.cell 1
                          have d2 := h98.cell 2
                          have ld := h98.lt
                          have z0 := (hT8.cell (p := ⟨ga, 0, none⟩) HZZ.out.2.2.2).trans HZZ.out.1
                          have z1 := (hT8.cell (p := ⟨ga, 1, none⟩) HZZ.out.2.2.2).trans HZZ.out.2.1
                          have z2 := (hT8.cell (p := ⟨ga, 2, none⟩) HZZ.out.2.2.2).trans HZZ.out.2.2.1
                          have lz := Nat.lt_of_lt_of_le HZZ.out.2.2.2 hT8.size
                          simp only [List.getElem?_toArray, List.getElem?_cons_zero, List.getElem?_cons_succ] at d0 d1 d2
                          clear h98
                          rw [if_pos (by rfl)]; simp only [overlay, upd, cond_true, cond_false, List.getD_cons_zero, List.getD_cons_succ, Nat.reduceEqDiff, reduceIte]
                          go_simp
                          first
                            | exact hK.out _ _ (Below.refl _ _) rfl
                            | (refine (HSM.out _ hT8).mono ?_
                               rintro q w9 ⟨rfl, hb9⟩
                               go_wp2_with fail
                               exact hK.out _ _ hb9 rfl)
                  case rest =>
                    obtain ⟨Ag2, cg2, HL2, HA2⟩ := hcut
                    obtain ⟨mx, hmx⟩ : ∃ q, q = GL - 1 := ⟨_, rfl⟩
                    have hGLb : GL ≤ 3000 := by
                      rw [← HGL.out]
                      exact Nat.le_trans (List.length_filter_le _ _) (by have := HDB.out.tl; omega)
                    have w2' : IntKind.i64.wrap ((GL : Int) - 1) = (GL : Int) - 1 := IntWalk.i64_in _ (by omega)
                    have hmax : max ((GL : Int) - 1) 0 = (mx : Int) := by omega
                    have HMX : Hid (mx = (toldAt us told x).length - 1 ∧ mx ≤ 3000) := ⟨by rw [hmx, HGL.out], by omega⟩
                    obtain ⟨gs1, hgs1⟩ : ∃ q, q = gs0 ++ headG us (docsN us l) told x := ⟨_, rfl⟩
                    rw [← hgs1] at HL2
                    have HG1 : Hid (gs1 = gs0 ++ headG us (docsN us l) told x ∧ gs1.length ≤ 30000001) := ⟨hgs1, by
                      have h1 : (headG us (docsN us l) told x).length ≤ 1 := by
                        unfold headG
                        split
                        · simp
                        · simp
                        · split <;> simp
                      have := HGS.out.2
                      rw [hgs1, List.length_append]; omega⟩
                    clear hmx hgs1 hGLb HLB HB HAB HBB HLK
                    go_wp2_with fail
                    go_loopw [140] (fun v wr => ∃ p : Nat, p ≤ mx ∧ v = .int .i64 p ∧ (∃ Ag cg, Hid (LS us m w3 M1 M2 (docsN us l) told ys f zs (some ⟨g5, 0, none⟩) cs b19 (gs1 ++ List.replicate p (2, embR x)) Ag cg wr)) ∧ Hid (Blk wr b21 #[.int .i64 x1, .int .u8 kk, .int .i64 kn, .int .u64 kr, .string ks] 78)) (fun v _ => mx - (intOf v).toNat)
                    case atStart => exact ⟨0, by omega, rfl, ⟨Ag2, cg2, by rw [List.replicate_zero, List.append_nil]; exact HL2.out⟩, HA2.out⟩
                    case round =>
                      clear HL2 HA2
                      obtain ⟨p, hp, rfl, ⟨Ag3, cg3, HL3⟩, HA3⟩ := hrel
                      by_cases hpm : p < mx
                      · have i3 : (p : Int) < mx := by omega
                        have w3' : IntKind.i64.wrap ((p : Int) + 1) = (p : Int) + 1 := IntWalk.i64_in _ (by have := HMX.out.2; omega)
                        have HPM := Lib.hid hpm
                        clear hpm
                        go_wp2_with fail
                        refine (HNOTE.out _ 2 _ Ag3 cg3 HL3.out HA3.out (by rw [List.length_append, List.length_replicate]; have := HG1.out.2; have := HMX.out.2; omega)).mono ?_
                        rintro q wC ⟨rfl, hk2, Ag', cg', hL4⟩
                        have HL4 := Lib.hid hL4
                        have HK2 := Lib.hid hk2
                        have hpm := HPM.out
                        clear hL4 hk2
                        go_wp2_with fail
                        go_roundw
                        case rel => exact ⟨p + 1, by omega, by simp, ⟨Ag', cg', by rw [List.replicate_succ', ← List.append_assoc]; exact HL4.out⟩, HK2.out⟩
                        case measure =>
                          show mx - ((p : Int) + 1).toNat < mx - (p : Int).toNat
                          omega
                      · have i3 : ¬ (p : Int) < mx := by omega
                        have HF : Hid (LS us m w3 M1 M2 (docsN us l) told ys f zs (some ⟨g5, 0, none⟩) cs b19 ((zs.take (k + 1)).flatMap (gapI us (docsN us l) told)) Ag3 cg3 wr) := by
                          have h1 := HL3.out
                          rw [HG1.out.1, List.append_assoc, show p = mx by omega, HMX.out.1, ← gapI_eq, ← HGS.out.1] at h1
                          exact h1
                        have hlt := HT.out
                        clear hp hpm
                        go_wp2_with fail
                        go_roundw
                        case rel => exact ⟨k + 1, by omega, by simp, Ag3, cg3, HF.out⟩
                        case measure =>
                          show nz - ((k : Int) + 1).toNat < nz - (k : Int).toNat
                          omega
                · have i0 : ¬ (k : Int) < nz := by omega
                  obtain ⟨gs, hgs⟩ : ∃ q, q = (zs.take k).flatMap (gapI us (docsN us l) told) := ⟨_, rfl⟩
                  rw [← hgs] at HL
                  have HF : Hid (DocsQ us l told w (.returned (.tuple #[.slice Ag gs.length cg, .int .i64 0])) wr) := by
                    have htk : zs.take k = zs := List.take_of_length_le (by have := HNZ.out; omega)
                    have e : zs.flatMap (gapI us (docsN us l) told) = gapsI us l told zs := by
                      unfold gapsI gapsP gapI
                      rw [List.map_flatMap]
                    have h1 := HL.out
                    rw [htk, e] at hgs
                    subst hgs
                    exact ⟨bt HW3.out h1.e.b, zs, Ag, cg, w3.heap.size, HZ.out.1, HZ.out.2, rfl, h1.g.o⟩
                  have o0 := HL.out.g.b.cell 0
                  have lo' := HL.out.g.b.lt
                  simp only [List.getElem?_toArray, List.getElem?_cons_zero] at o0
                  clear hk hlt hgs
                  go_wp2_with fail
                  go_ret2
                  exact HF.out
end Go.Proofs.YtgklopgeimjgiaaGreatDoor
