/- Several texts in one: see each part's head. -/
import Derived.Test.YtgklopgeimjgiaaGreatDoorJ34
/- VerifySees: agg.doer$1. -/
namespace Go.Proofs.YtgklopgeimjgiaaGreatDoor
open Go.RowKit

theorem info_Dc : (Tryz.prog.info? 42).map (fun i => (i.zero, i.size, i.bytes)) = some (some (.agg #[.int .i64 0, .slice none 0 0, .slice none 0 0]), 3, 56) := by kernel_rfl
def DoQ1 (B : Option Addr) (n : Nat) (d : De) (w : World) (q : Ending) (w' : World) : Prop :=
  Below w.heap.size w w' ∧ ∃ v, q = .returned v ∧ DRp (fun b => w.heap.size ≤ b ∨ ∃ p, B = some p ∧ p.block = b) n w' v d
variable {us : List Ta} {r M : Nat} {A : Option Addr} {c : Nat} {tn : Int} {l : List Rw} {bl b1 b3 b6 : Nat}
set_option maxRecDepth 100000 in
set_option maxHeartbeats 3200000 in
/-- One row's document, where its kids' are made. -/
theorem doer1_step (dk : Rw → De) (n0 t : Nat) (row : List V) (B : Option Addr) (rc : Nat) (w : World) (hE : DoE us r M A c tn l bl b1 b3 b6 w) (hrs : rowS us t row = true) (hv : VRow w B row)
    (ih : ∀ cc ∈ kdsN us t, ∀ (row' : List V) (B' : Option Addr) (rc' : Nat) (W : World), DoE us r M A c tn l bl b1 b3 b6 W → rowS us cc row' = true → VRow W B' row' →
      Calls Tryz.prog 48 #[.int .i64 cc, .slice B' row'.length rc', .pointer (some ⟨bl, 0, none⟩), .pointer (some ⟨b1, 0, none⟩), .pointer (some ⟨b3, 0, none⟩), .pointer (some ⟨b6, 0, none⟩)] W (DoQ1 B' n0 (dk (cc, row')) W)) :
    Calls Tryz.prog 48 #[.int .i64 t, .slice B row.length rc, .pointer (some ⟨bl, 0, none⟩), .pointer (some ⟨b1, 0, none⟩), .pointer (some ⟨b3, 0, none⟩), .pointer (some ⟨b6, 0, none⟩)] w
      (DoQ1 B (n0 + 1) (.mk t row ((belowS (kdsN us) (keyN us) (refN us) l (t, row)).map dk)) w) := by
  have HE := Lib.hid hE
  have HRS := Lib.hid hrs
  have HV := Lib.hid hv
  have IH := Lib.hid ih
  have ht : t < us.length := by have := rowS_lt hrs; omega
  obtain ⟨q, qc, e1, e2, e3⟩ := hE.be
  obtain ⟨K, kc, k1, k2⟩ := e3 t ht
  obtain ⟨n, hn⟩ : ∃ q, q = row.length := ⟨_, rfl⟩
  rw [← hn]
  have HN := Lib.hid hn
  have HK := Lib.hid (And.intro e1 (And.intro e2 (And.intro k1 k2)))
  have i0 : (t : Int) < us.length := by omega
  clear hE hrs hv ih e1 e2 e3 k1 k2 hn
  go_enter Tryz.func48, Tryz.ntmps48
  go_upto_region 2 with fail
  have H8 : Hid (Blk ((w.alloc (.cells #[.int .i64 0, .slice none 0 0, .slice none 0 0] 42)).alloc (.cells #[.int .i64 t, .slice B n rc, .slice none 0 0] 42)) w.heap.size #[.int .i64 0, .slice none 0 0, .slice none 0 0] 42) := by show Blk _ _ _ _; exact (by repeat (first | exact Blk.at (by simp) | assumption | refine Blk.drew ?_ | refine Blk.old ?_ _))
  have H9 : Hid (Blk ((w.alloc (.cells #[.int .i64 0, .slice none 0 0, .slice none 0 0] 42)).alloc (.cells #[.int .i64 t, .slice B n rc, .slice none 0 0] 42)) (w.heap.size + 1) #[.int .i64 t, .slice B n rc, .slice none 0 0] 42) := by show Blk _ _ _ _; exact (by repeat (first | exact Blk.at (by simp) | assumption | refine Blk.drew ?_ | refine Blk.old ?_ _))
  have HC : Hid (Below w.heap.size w ((w.alloc (.cells #[.int .i64 0, .slice none 0 0, .slice none 0 0] 42)).alloc (.cells #[.int .i64 t, .slice B n rc, .slice none 0 0] 42))) := by show Below _ _ _; exact (by repeat (first | exact Below.refl _ _ | assumption | refine Below.drew ?_ | refine below_drewN ?_ _ | refine Below.alloc ?_ (by simp <;> omega) _))
  have H89 : Hid (w.heap.size ≤ w.heap.size + 1) := by show _ ≤ _; omega
  generalize ((w.alloc (.cells #[.int .i64 0, .slice none 0 0, .slice none 0 0] 42)).alloc (.cells #[.int .i64 t, .slice B n rc, .slice none 0 0] 42)) = W0 at H8 H9 HC ⊢
  generalize hB9 : w.heap.size + 1 = B9 at H9 H89 ⊢
  generalize hB8 : w.heap.size = B8 at H8 ⊢
  have HB9 := Lib.hid hB9
  have HB8 := Lib.hid hB8
  clear hB9 hB8
  have HDL := Lib.hid (DocL.start (n := n0) (t := t) (RV := .slice B n rc) HC.out H9.out H89.out)
  have hb2 := HK.out.1.ext HC.out
  have l0 := hb2.cell 0
  have l1 := hb2.lt
  have l2 := (HC.out.cell (p := ⟨q, t, none⟩) HK.out.2.1).trans HK.out.2.2.1
  have l3 := Nat.lt_of_lt_of_le HK.out.2.1 HC.out.size
  simp only [List.getElem?_toArray, List.getElem?_cons_zero] at l0
  clear hb2
  obtain ⟨nk, hkn⟩ : ∃ nk, nk = (kidsR us t).length := ⟨_, rfl⟩
  rw [← hkn] at l2
  have HKN := Lib.hid hkn
  clear hkn
  go_wp2_with fail
  go_loopw [22] (fun v wr => ∃ a : Nat, a ≤ nk ∧ v = .int .i64 a ∧ Hid (Blk wr B8 #[.int .i64 0, .slice none 0 0, .slice none 0 0] 42) ∧ ∃ K' kc', Hid (DocL n0 w B9 t (.slice B n rc) K' kc' ((((kdsN us t).take a).flatMap fun cc => ofS (refN us) l cc (keyN us t row)).map dk) wr)) (fun v _ => nk - (intOf v).toNat)
  case atStart => exact ⟨0, by omega, rfl, H8.out, none, 0, HDL.out⟩
  case round =>
    obtain ⟨a, ha, rfl, H8r, K', kc', HD⟩ := hrel
    by_cases hlt : a < nk
    · have hkid : kidsR us t = (kdsN us t).map Int.ofNat := by
        have h2 := HRS.out
        unfold rowS at h2
        rw [Bool.and_eq_true] at h2
        unfold kidsR
        rw [h2.1, if_pos rfl, kdsN_F]
      have hkl : a < (kdsN us t).length := by have := HKN.out; rw [hkid, List.length_map] at this; omega
      obtain ⟨cc, hcc⟩ : ∃ cc, (kdsN us t)[a]? = some cc := ⟨_, List.getElem?_eq_getElem hkl⟩
      have hmem : cc ∈ kdsN us t := List.mem_of_getElem? hcc
      obtain ⟨u2, hu2, hpar⟩ := mem_kdsN.1 hmem
      obtain ⟨u, kj, kv, hju, _, hkj, hkjl, hvk, hkey⟩ := rowS_key HRS.out
      obtain ⟨kk, kn, kr, kt⟩ := kv
      obtain ⟨L, hL⟩ : ∃ q, q = ofS (refN us) l cc (keyN us t row) := ⟨_, rfl⟩
      have HOF : Hid (∀ W, Below w.heap.size w W → Calls Tryz.prog 49 #[.pointer (some ⟨r, 0, none⟩), .int .i64 cc, .agg #[.int .u8 kk, .int .i64 kn, .int .u64 kr, .string kt]] W (SomeP L W)) := fun W hW => by
        have h := of_any (HE.out.rel.ext hW) hu2 (by omega) (keyN us t row)
        rw [← hL, hkey] at h
        exact h
      have HLF : Hid (L.length ≤ 200 ∧ ∀ x ∈ L, x.1 = cc ∧ rowS us cc x.2 = true) := by
        refine ⟨?_, fun x hx => ?_⟩
        · rw [hL]; exact Nat.le_trans (List.length_filter_le _ _) HE.out.rel.i.few
        · rw [hL] at hx
          unfold ofS at hx
          rw [List.mem_filter] at hx
          have h1 := (of_decide_eq_true hx.2).1
          have h2 := (HE.out.rel.i.fit x hx.1).1
          rw [h1] at h2
          exact ⟨h1, h2⟩
      obtain ⟨bb, off, v', hB, hbb, hv', _, _, d0, d1, d2, d3⟩ := HV.out.at_ hkjl
      rw [hvk, Option.some.injEq] at hv'
      subst hv'
      subst hB
      obtain ⟨vs, A2, c2, s1, s2, s3⟩ := HE.out.sc
      obtain ⟨y, hy, hyd⟩ := map_d_get s3.symm hju
      have hyk : y.key = kj := by
        have h1 := congrArg (fun q => q.2.2.1) hyd
        simp only [Ta.d] at h1
        omega
      have htv := (List.getElem?_eq_some_iff.1 hy).1
      obtain ⟨sb, so, y', hA2, hsb, hy', _, _, _, _, _, e2, _, _⟩ := s2.at_ htv
      rw [hy, Option.some.injEq] at hy'
      subst hy'
      subst hA2
      rw [hyk] at e2
      obtain ⟨kb, ko, vv, hKA, hkb, hvv, _, hkc⟩ := HK.out.2.2.2.at_ (j := a) (by rw [hkid, List.length_map]; exact hkl)
      have e1 : vv = (cc : Int) := by rw [hkid, List.getElem?_map, hcc] at hvv; simpa using hvv.symm
      subst hKA
      subst e1
      have y0 := (HD.out.b.cell (p := ⟨kb, ko + a, none⟩) hkb).trans hkc
      have y1 := Nat.lt_of_lt_of_le hkb HD.out.b.size
      have i5 : (a : Int) < nk := by omega
      have i6 : (t : Int) < vs.length := by omega
      have i7 : (kj : Int) < n := by rw [HN.out]; omega
      have HS1 := Lib.hid s1
      have HDD := Lib.hid (And.intro hbb (And.intro d0 (And.intro d1 (And.intro d2 d3))))
      have HEE := Lib.hid (And.intro hsb e2)
      have HCC := Lib.hid (And.intro hmem hcc)
      have HA := Lib.hid ha
      have HT := Lib.hid hlt
      have HLL := Lib.hid (And.intro hL hkey)
      have HA1 : Hid (a < 100000) := by
        have h2 : (kdsN us t).length ≤ us.length := by unfold kdsN; exact Nat.le_trans (List.length_filter_le _ _) (by simp)
        have h3 := schN HE.out.rel.h
        show a < 100000
        omega
      clear s1 s2 s3 hbb d0 d1 d2 d3 hsb e2 hkid hkl hcc hmem hu2 hpar hju hkj hkjl hvk hkey hL hy hyd hyk htv hkb hvv hkc hlt ha H8 HDL H9
      simp only at HDD
      go_upto_region 5 with fail
      clear y0 y1
      obtain ⟨lo, hlo⟩ : ∃ q, q = wr.heap.size := ⟨_, rfl⟩
      have HLO := Lib.hid hlo
      clear hlo
      refine region_grow [false, false, false, false, false, false, false, false, false, false, false, false, false, false, false, false, false, false, false, false, false, false, false, false, false, false, true, true, true, true, true, true, true, true, true, true, true, true, true, true, false, false, false, false, false, false, false, false, false, false, false, false, false, false, false] [26, 27, 28, 29, 30, 31, 32, 33, 34, 35, 36, 37, 38, 39] [.val (.pointer (some ⟨r, 0, none⟩)), .val (.int .i64 cc), .val (.slice (some ⟨bb, off, none⟩) n rc), .val (.pointer (some ⟨b3, 0, none⟩)), .val (.slice (some ⟨sb, so, none⟩) vs.length c2), .val (.int .i64 t), .val (.pointer (some ⟨sb, so + t * 5, none⟩)), .val (.pointer (some ⟨sb, so + t * 5 + 2, none⟩)), .val (.int .i64 kj), .val (.pointer (some ⟨bb, off + kj * 4, none⟩)), .val (.agg #[.int .u8 kk, .int .i64 kn, .int .u64 kr, .string kt]), kSome lo L, .val (.int .i64 L.length), .val (.int .i64 0)] [11, 12, 13] (by kernel_rfl) (by kernel_rfl) (by kernel_rfl) (by kernel_rfl) (by kernel_rfl) ⟨?_, ?_, ?_, ?_, ?_, ?_, ?_, ?_, ?_, ?_, ?_, ?_, ?_, ?_, trivial⟩ ?done
      case done =>
        intro x9 w5 hb5
        simp only [StepGoal, overlay, upd, cond_true, cond_false, List.getD_cons_zero, List.getD_cons_succ, Nat.zero_add, Nat.reduceAdd, Nat.reduceEqDiff, reduceIte]
        rintro _ ⟨A5, m5, its, rfl, hits, hsi⟩
        have hlen : L.length = its.length := by rw [← hits, List.length_map]
        rw [hlen]
        have HD5 := Lib.hid (HD.out.ext hb5)
        have H85 := Lib.hid (H8r.out.ext hb5)
        have HSI := Lib.hid hsi
        have HIT := Lib.hid hits
        have HL2 := Lib.hid hlen
        have HB5 : Hid (B9 < lo) := by show _ < _; rw [HLO.out]; exact HD.out.o.lt
        obtain ⟨pre, hpre⟩ : ∃ q, q = ((((kdsN us t).take a).flatMap fun cc => ofS (refN us) l cc (keyN us t row)).map dk) := ⟨_, rfl⟩
        rw [← hpre] at HD5
        have HPRE := Lib.hid hpre
        have H89i : Hid (B8 < B9) := by show _ < _; have := HB8.out; have := HB9.out; omega
        clear hb5 hits hsi hlen hpre HD H8r HOF HS1 HDD HEE i5 i6 i7
        go_wp2_with fail
        go_loopw [39] (fun v wi => ∃ b : Nat, b ≤ its.length ∧ v = .int .i64 b ∧ Hid (Blk wi B8 #[.int .i64 0, .slice none 0 0, .slice none 0 0] 42) ∧ Hid (SomeI lo its A5 m5 wi) ∧ ∃ K2 kc2, Hid (DocL n0 w B9 t (.slice (some ⟨bb, off, none⟩) n rc) K2 kc2 (pre ++ (its.take b).map fun i => dk i.x) wi)) (fun v _ => its.length - (intOf v).toNat)
        case atStart => exact ⟨0, by omega, rfl, H85.out, HSI.out, K', kc', by have h := HD5.out; rw [← List.append_nil pre] at h; exact h⟩
        case round =>
          obtain ⟨b, hb, rfl, H8i, HSi, K2, kc2, HDi⟩ := hrel
          clear H85 HSI HD5
          by_cases hlt2 : b < its.length
          · obtain ⟨it, hit⟩ : ∃ it, its[b]? = some it := ⟨_, List.getElem?_eq_getElem hlt2⟩
            have him : it ∈ its := List.mem_of_getElem? hit
            obtain ⟨g5, c5, hA5, _, hg5⟩ := HSi.out.1.form (by omega : 0 < its.length)
            simp only [Value.slice.injEq, true_and] at hA5
            obtain ⟨rfl, rfl⟩ := hA5
            have y0 := HSi.out.1.cells (g := g5) rfl b (itV it) (by rw [List.getElem?_map, hit]; rfl)
            rw [addr_add, Nat.zero_add] at y0
            have i8 : (b : Int) < its.length := by omega
            obtain ⟨⟨ix, ir⟩, iA, ic⟩ := it
            have hrf := HSi.out.2 _ him
            have hxl := HLF.out.2 (ix, ir) (by rw [← HIT.out]; exact List.mem_map.2 ⟨_, him, rfl⟩)
            obtain ⟨hix, hirs⟩ := hxl
            simp only at hix hirs hrf
            replace hix := hix.symm
            subst hix
            have w1 : IntKind.i64.wrap ((b : Int) + 1) = (b : Int) + 1 := IntWalk.i64_in _ (by have := HLF.out.1; have := HL2.out; omega)
            unfold itV at y0
            simp only at y0
            obtain ⟨il, hil⟩ : ∃ q, q = ir.length := ⟨_, rfl⟩
            rw [← hil] at y0
            obtain ⟨xs, hx1, hx2⟩ := HDi.out.k
            obtain ⟨ks, hks⟩ : ∃ q, q = pre ++ (its.take b).map fun i => dk i.x := ⟨_, rfl⟩
            have HKL : Hid (ks.length ≤ 30000000) := by
              show ks.length ≤ 30000000
              rw [hks, HPRE.out, List.length_append, List.length_map, List.length_map, List.length_take]
              have h1 := flat_le (fun cc => ofS (refN us) l cc (keyN us t row)) 200 ((kdsN us t).take a) (fun x _ => Nat.le_trans (List.length_filter_le _ _) HE.out.rel.i.few)
              rw [List.length_take] at h1
              have := HA1.out
              have := HLF.out.1
              have := HL2.out
              omega
            rw [← hks] at HDi hx1 hx2
            obtain ⟨D, hD⟩ : ∃ q, q = dk (cc, ir) := ⟨_, rfl⟩
            have HIH : Hid (∀ W, Below wr.heap.size wr W → Calls Tryz.prog 48 #[.int .i64 cc, .slice iA il ic, .pointer (some ⟨bl, 0, none⟩), .pointer (some ⟨b1, 0, none⟩), .pointer (some ⟨b3, 0, none⟩), .pointer (some ⟨b6, 0, none⟩)] W (fun q W' => Below W.heap.size W W' ∧ ∃ c0 c1 c2, q = .returned (.agg #[c0, c1, c2]) ∧ DRp (fun b => B9 < b ∧ b ∉ gS K2) n0 W' (.agg #[c0, c1, c2]) D)) := by
              intro W hW
              rw [hil, hD]
              refine (IH.out cc HCC.out.1 ir iA ic W (HE.out.ext (bt HDi.out.b hW)) hirs ((hrf.ext hW).1.vrow)).mono ?_
              rintro q W' ⟨h1, v, rfl, h2⟩
              obtain ⟨c0, c1, c2, rfl⟩ := h2.form_
              exact ⟨h1, c0, c1, c2, rfl, h2.kid (hrf.ext hW) HB5.out (Nat.lt_of_lt_of_le HDi.out.o.lt hW.size) (own_below hx1 hW)⟩
            have HFN := Lib.hid (fun (W : World) (hW : Below wr.heap.size wr W) => HE.out.fn.ext (bt HDi.out.b hW))
            have HO := Lib.hid HDi.out.o
            have HX := Lib.hid (And.intro hx1 hx2)
            have HSM := Lib.hid (And.intro hks (And.intro hD (And.intro hit hlt2)))
            clear hirs hrf him hx1 hx2 hks hD hit hil hlt2
            go_upto_region 8 with fail
            clear y0 hg5
            obtain ⟨j0, hj0, hz0, hz1, hz2⟩ := info_parts info_Dc
            refine region_app 9 7 _ [false, false, false, false, false, false, false, false, false, false, false, false, false, false, false, false, false, false, false, false, false, false, false, false, false, false, false, false, false, false, false, false, false, false, false, false, false, false, false, false, false, false, false, true, true, true, true, true, true, true, true, true, false, false, false] [43, 44, 45, 46, 47, 48, 49, 50, 51] [.val (.pointer (some ⟨B9, 2, none⟩)), .val (.slice K2 ks.length kc2), .val (.func (.func 48) #[] #[.pointer (some ⟨bl, 0, none⟩), .pointer (some ⟨b1, 0, none⟩), .pointer (some ⟨b3, 0, none⟩), .pointer (some ⟨b6, 0, none⟩)]), .val (.int .i64 cc), .val (.slice iA il ic), kDoc (fun b => B9 < b ∧ b ∉ gS K2) n0 D, kDocS (fun b => B9 < b ∧ b ∉ gS K2) n0 D, kAny, .val (.pointer (some ⟨B9, 2, none⟩))] [8] (fun _ => True) (KidM (fun b => B9 < b ∧ b ∉ gS K2) n0 B9 D K2 ks.length kc2 xs wr) [1, 6] [8] (fun _ _ => trivial) (fun _ _ _ => trivial) (by kernel_rfl) rfl rfl (by omega) (by kernel_rfl) (by kernel_rfl) (by kernel_rfl) rfl rfl rfl (by kernel_rfl) (by kernel_rfl) (by kernel_rfl) (by kernel_rfl) ⟨?_, ?_, ?_, ?_, ?_, ?_, ?_, ?app, ?_, trivial⟩ ?done
            case app =>
              intro x9 w8 hb8
              simp only [StepGoal, List.getD_cons_zero, List.getD_cons_succ]
              rintro _ ⟨g8, c0, c1, c2, rfl, hg8, hd8⟩ K hK
              rw [if_pos (by rfl)]
              simp only [overlay, upd, cond_true, cond_false, Nat.reduceEqDiff, reduceIte]
              refine wp_append_lies w8 (.tmp 44) (.tmp 49) 34 rfl (B9 + 1) 42 j0 _ 3 56 Tryz.underlying34 hj0 hz0 hz1 hz2 rfl (by decide) (.slice K2 ks.length kc2) ks.length xs rfl (own_below HX.out.1 hb8) ⟨g8, 0, none⟩ 1 1 [c0, c1, c2] rfl rfl (World.news_of_block hg8) hd8.one_ (by decide) (by have := HKL.out; simp only [maxLen]; omega) (by have := HKL.out; omega) (by have := HO.out.lt; have := hb8.size; omega) _ rfl ?_
              intro g9 c9 w9 hown9 hg9 hat9 _
              exact hK.out _ _ ⟨g9, c9, w8, c0, c1, c2, rfl, hb8, hd8, hown9, hg9, hat9⟩
            case done =>
              rintro x9 w8 v8 ⟨g8, c8, W1, c0, c1, c2, rfl, hb1, hd1, hown8, hg8, hat8⟩
              simp only [StepGoal, List.getD_cons_zero, List.getD_cons_succ]
              intro K hK
              have hadd := HDi.out.add hb1 hd1 HX.out hown8 hg8 hat8
              have hside := HDi.out.side hb1 HX.out.1 hg8 #[.int .i64 t, .slice (some ⟨bb, off, none⟩) n rc, .slice (some ⟨g8, 0, none⟩) (ks.length + 1) c8] H8i.out H89i.out HSi.out
              have h9 : Blk w8 B9 _ _ := (HDi.out.o.ext hb1).chg (Chg.of_grownV hg8) HDi.out.ne.1
              clear hb1 hd1 hown8 hg8 hat8
              obtain ⟨w7, rfl, lt⟩ := blk_put h9
              obtain ⟨pc, pf, pS⟩ := putBlk_facts (w := w7) 42 lt
              rw [put_put'] at hadd hside
              have HADD := Lib.hid hadd
              have HSD := Lib.hid hside
              clear hadd hside h9
              rw [if_pos (by rfl)]; simp only [overlay, upd, cond_true, cond_false, Nat.reduceEqDiff, reduceIte]
              go_simp
              refine hK.out _ _ ?_
              clear pc pf pS lt
              generalize putBlk w7 B9 #[.int .i64 t, .slice (some ⟨bb, off, none⟩) n rc, .slice (some ⟨g8, 0, none⟩) (ks.length + 1) c8] 42 = w9 at HADD HSD ⊢
              go_wp2_with fail
              go_roundw
              case rel =>
                obtain ⟨h1, h2, h3, h4⟩ := HSM.out
                refine ⟨b + 1, by omega, by simp, HSD.out.1, HSD.out.2, some ⟨g8, 0, none⟩, c8, ?_⟩
                have h5 := HADD.out
                rw [h1, h2, List.append_assoc] at h5
                rw [List.take_add_one, h3, Option.toList_some, List.map_append]
                exact h5
              case measure =>
                have := HSM.out.2.2.2
                show its.length - ((b : Int) + 1).toNat < its.length - (b : Int).toNat
                omega
            all_goals
              intro x9 w8 hT8
              first
                | (intro K hK
                   have o9 := HO.out.ext hT8
                   have o2 := o9.cell 2
                   have lo9 := o9.lt
                   have f8 := HFN.out _ hT8
                   have f0 := f8.cell 0
                   have lf := f8.lt
                   simp only [List.getElem?_toArray, List.getElem?_cons_zero, List.getElem?_cons_succ] at o2 f0
                   clear o9 f8
                   rw [if_pos (by rfl)]; simp only [overlay, upd, cond_true, cond_false, List.getD_cons_zero, List.getD_cons_succ, Nat.reduceEqDiff, reduceIte]
                   go_simp
                   first
                     | exact hK.out _ _ (Below.refl _ _) rfl
                     | (refine (HIH.out _ hT8).mono ?_
                        rintro q w9 ⟨hb9, c0, c1, c2, rfl, hd⟩
                        go_wp2_with fail
                        exact hK.out _ _ hb9 ⟨c0, c1, c2, rfl, hd⟩))
                | (rintro _ ⟨c0, c1, c2, rfl, hd⟩ K hK
                   rw [if_pos (by rfl)]; simp only [overlay, upd, cond_true, cond_false, List.getD_cons_zero, List.getD_cons_succ, Nat.reduceEqDiff, reduceIte]
                   go_simp
                   first
                     | exact hK.out _ _ (by repeat (first | exact Below.refl _ _ | assumption | refine Below.drew ?_ | refine below_drewN ?_ _ | refine Below.alloc ?_ (by simp <;> omega) _)) ⟨_, c0, c1, c2, rfl, Blk.new _ _ _, hd.ext (by repeat (first | exact Below.refl _ _ | assumption | refine Below.drew ?_ | refine below_drewN ?_ _ | refine Below.alloc ?_ (by simp <;> omega) _))⟩)
                | ((first | change StepGoal _ _ _ _ [] x9 | change StepGoal _ _ _ _ [7] x9 | change StepGoal _ _ _ _ [0, 0] x9)
                   simp only [StepGoal, List.getD_cons_zero, List.getD_cons_succ]
                   intro K hK
                   rw [if_pos (by rfl)]
                   simp only [overlay, cond_true, cond_false]
                   go_simp
                   exact hK.out _ rfl)
          · have i8 : ¬ (b : Int) < its.length := by omega
            have hbe : b = its.length := by omega
            have HDe : Hid (DocL n0 w B9 t (.slice (some ⟨bb, off, none⟩) n rc) K2 kc2 ((((kdsN us t).take (a + 1)).flatMap fun cc => ofS (refN us) l cc (keyN us t row)).map dk) wr) := by
              have h := HDi.out
              rw [hbe, List.take_length, HPRE.out] at h
              rw [List.take_add_one, HCC.out.2, Option.toList_some, List.flatMap_append, List.map_append]
              show DocL _ _ _ _ _ _ _ (_ ++ List.map dk (List.flatMap (fun cc => ofS (refN us) l cc (keyN us t row)) [cc])) _
              rw [List.flatMap_cons, List.flatMap_nil, List.append_nil, ← HLL.out.1, ← HIT.out, List.map_map]
              exact h
            have hlt := HT.out
            have w1 : IntKind.i64.wrap ((a : Int) + 1) = (a : Int) + 1 := IntWalk.i64_in _ (by have := HA1.out; omega)
            clear hbe hb HDi
            go_wp2_with fail
            go_roundw
            case rel => exact ⟨a + 1, by omega, by simp, H8i.out, K2, kc2, HDe.out⟩
            case measure =>
              show nk - ((a : Int) + 1).toNat < nk - (a : Int).toNat
              omega
      all_goals
        intro x9 w8 hT8
        first
          | (intro K hK
             have hb8 := bt HD.out.b hT8
             have x8 := HE.out.bx.ext hb8
             have k0 := x8.cell 0
             have l0 := x8.lt
             have s8 := HS1.out.ext hb8
             have s0 := s8.cell 0
             have ls := s8.lt
             have e2 := (hb8.cell (p := ⟨sb, so + t * 5 + 2, none⟩) HEE.out.1).trans HEE.out.2
             have le := Nat.lt_of_lt_of_le HEE.out.1 hb8.size
             have d0 := (hb8.cell (p := ⟨bb, off + kj * 4, none⟩) HDD.out.1).trans HDD.out.2.1
             have d1 := (hb8.cell (p := ⟨bb, off + kj * 4 + 1, none⟩) HDD.out.1).trans HDD.out.2.2.1
             have d2 := (hb8.cell (p := ⟨bb, off + kj * 4 + 2, none⟩) HDD.out.1).trans HDD.out.2.2.2.1
             have d3 := (hb8.cell (p := ⟨bb, off + kj * 4 + 3, none⟩) HDD.out.1).trans HDD.out.2.2.2.2
             have ld := Nat.lt_of_lt_of_le HDD.out.1 hb8.size
             simp only [List.getElem?_toArray, List.getElem?_cons_zero] at k0 s0
             clear x8 s8
             rw [if_pos (by rfl)]; simp only [overlay, upd, cond_true, cond_false, List.getD_cons_zero, List.getD_cons_succ, Nat.reduceEqDiff, reduceIte]
             go_simp
             first
               | exact hK.out _ _ (Below.refl _ _) rfl
               | (refine (HOF.out _ hb8).mono ?_
                  rintro q w9 ⟨hb9, A9, n9, its, rfl, hits, hown, hros⟩
                  go_wp2_with fail
                  refine hK.out _ _ hb9 ⟨A9, n9, its, rfl, hits, own_base' hown ?_, fun i hi => (hros i hi).low ?_⟩
                  · rw [HLO.out]; exact hT8.size
                  · rw [HLO.out]; exact hT8.size))
          | (simp only [List.getD_cons_zero, List.getD_cons_succ]
             rintro _ ⟨A9, n9, its, rfl, hits, hsi⟩ K hK
             have hlen : L.length = its.length := by rw [← hits, List.length_map]
             rw [if_pos (by rfl)]; simp only [overlay, upd, cond_true, cond_false, List.getD_cons_zero, List.getD_cons_succ, Nat.reduceEqDiff, reduceIte]
             go_simp
             first
               | exact hK.out _ _ (Below.refl _ _) (by rw [hlen]; rfl))
    · have hak : a = nk := by omega
      have hkk : nk = (kdsN us t).length := by
        have h1 := HKN.out
        have h2 := HRS.out
        unfold rowS at h2
        rw [Bool.and_eq_true] at h2
        unfold kidsR at h1
        rw [h2.1, if_pos rfl, kdsN_F, List.length_map] at h1
        exact h1
      have i1 : ¬ (a : Int) < nk := by omega
      obtain ⟨ks, hks⟩ : ∃ ks, ks = ((((kdsN us t).take a).flatMap fun cc => ofS (refN us) l cc (keyN us t row)).map dk) := ⟨_, rfl⟩
      have hks2 : ks = (belowS (kdsN us) (keyN us) (refN us) l (t, row)).map dk := by rw [hks, hak, hkk, List.take_length]; rfl
      rw [← hks] at HD
      have HL1 : Hid (ks.length ≤ 100000) := by
        show ks.length ≤ 100000
        rw [hks2, List.length_map]
        have h1 := flat_le (fun cc => ofS (refN us) l cc (keyN us t row)) 200 (kdsN us t) (fun x _ => Nat.le_trans (List.length_filter_le _ _) HE.out.rel.i.few)
        have h2 : (kdsN us t).length ≤ us.length := by unfold kdsN; exact Nat.le_trans (List.length_filter_le _ _) (by simp)
        have h3 := schN HE.out.rel.h
        unfold belowS
        show (List.flatMap (fun cc => ofS (refN us) l cc (keyN us t row)) (kdsN us t)).length ≤ 100000
        omega
      have HFIN : Hid (∀ cs : Array Value, DoQ1 B (n0 + 1) (.mk t row ((belowS (kdsN us) (keyN us) (refN us) l (t, row)).map dk)) w (.returned (.agg #[.int .i64 t, .slice B n rc, .slice K' ks.length kc'])) (putBlk wr B8 cs 42)) := by
        intro cs
        rw [← hks2]
        have hD := HD.out
        rw [HN.out] at hD ⊢
        have hd := hD.done HV.out (Nat.le_of_eq HB8.out) (by have := HB8.out; have := HB9.out; omega) cs (by have := rowS_lt HRS.out; have := schN HE.out.rel.h; omega) HL1.out rfl
        exact ⟨hd.1, _, rfl, hd.2⟩
      have d0 := HD.out.o.cell 0
      have d1 := HD.out.o.cell 1
      have d2 := HD.out.o.cell 2
      have dl := HD.out.o.lt
      simp only [List.getElem?_toArray, List.getElem?_cons_zero, List.getElem?_cons_succ] at d0 d1 d2
      have h8 := H8r.out
      clear hks hks2 hak hkk hlt ha
      obtain ⟨w5, rfl, lt⟩ := blk_put h8
      obtain ⟨pc, pf, pS⟩ := putBlk_facts (w := w5) 42 lt
      have HF := Lib.hid (HFIN.out #[.int .i64 t, .slice B n rc, .slice K' ks.length kc'])
      rw [put_put'] at HF
      clear h8 HFIN
      go_wp2_with fail
      refine bodyPost_ret (v := .agg #[.int .i64 t, .slice B n rc, .slice K' ks.length kc']) (by simp [results, Tryz.results48, go_sem, pc]) rfl ?_
      exact HF.out
/-- A row's document. -/
theorem doer1_any : ∀ (f t : Nat) (row : List V) (B : Option Addr) (rc : Nat) (w : World), DoE us r M A c tn l bl b1 b3 b6 w → rowS us t row = true → VRow w B row → 8 ≤ dpN us t + f →
    Calls Tryz.prog 48 #[.int .i64 t, .slice B row.length rc, .pointer (some ⟨bl, 0, none⟩), .pointer (some ⟨b1, 0, none⟩), .pointer (some ⟨b3, 0, none⟩), .pointer (some ⟨b6, 0, none⟩)] w (DoQ1 B (f + 1) (docF (kdsN us) (keyN us) (refN us) l f (t, row)) w)
  | 0, t, row, B, rc, w, hE, hrs, hv, hf => by
    have hp : preB us us.length = true := by
      have := hE.rel.h
      unfold schB at this
      rw [Bool.and_eq_true, Bool.and_eq_true] at this
      exact this.2.1
    have e := kds_end hp (t := t) (by omega)
    have h := doer1_step (fun x => docF (kdsN us) (keyN us) (refN us) l 0 x) 0 t row B rc w hE hrs hv (fun cc hcc => by rw [e] at hcc; cases hcc)
    have e2 : belowS (kdsN us) (keyN us) (refN us) l (t, row) = [] := by unfold belowS; rw [e]; rfl
    rw [e2] at h
    exact h
  | f + 1, t, row, B, rc, w, hE, hrs, hv, hf => by
    have hp : preB us us.length = true := by
      have := hE.rel.h
      unfold schB at this
      rw [Bool.and_eq_true, Bool.and_eq_true] at this
      exact this.2.1
    rw [docF_succ]
    exact doer1_step (fun x => docF (kdsN us) (keyN us) (refN us) l f x) (f + 1) t row B rc w hE hrs hv (fun cc hcc row' B' rc' W hW hr' hv' => doer1_any f cc row' B' rc' W hW hr' hv' (by
      have h2 := (stok_of (l := []) hp List.Pairwise.nil).kid t cc hcc
      omega))
end Go.Proofs.YtgklopgeimjgiaaGreatDoor
