/- Several texts in one: see each part's head. -/
import Derived.Test.YtgklopgeimjgiaaGreatDoorJ42
/- VerifySees: the chapter's example. -/
namespace Go.Proofs.YtgklopgeimjgiaaGreatDoor
open Go.RowKit

theorem vrow_v1 {w : World} {rb : Nat} (h : Blk w rb #[.int .u8 2, .int .i64 1, .int .u64 0, .string ⟨#[]⟩] 49) : VRow w (some ⟨rb, 0, none⟩) [vOne] := by
  refine ⟨fun v hv => by rw [List.mem_singleton] at hv; subst hv; exact vOne_wf, by simp, fun _ => ⟨rb, 0, rfl, h.lt, fun i v hi => ?_⟩⟩
  match i, hi with
  | 0, hi =>
    obtain rfl : _ = v := by simpa using hi
    exact ⟨h.cell 0, h.cell 1, h.cell 2, h.cell 3⟩
  | i + 1, hi => simp at hi
theorem drd_one {w : World} {rb : Nat} (h : Blk w rb #[.int .u8 2, .int .i64 1, .int .u64 0, .string ⟨#[]⟩] 49) : DRd 1 w (.agg #[.int .i64 0, .slice (some ⟨rb, 0, none⟩) 1 1, .slice none 0 0]) dOne :=
  ⟨some ⟨rb, 0, none⟩, 1, none, 0, rfl, ⟨by simp [dOne, De.tb], by simp [dOne, De.tb]⟩, vrow_v1 h, ⟨by simp [dOne, De.kids], fun hl => absurd rfl hl⟩⟩
theorem krow_one {w : World} {kb rb : Nat} (h : Blk w rb #[.int .u8 2, .int .i64 1, .int .u64 0, .string ⟨#[]⟩] 49) (hk : Blk w kb #[.int .i64 0, .slice (some ⟨rb, 0, none⟩) 1 1, .slice none 0 0] 42) : KRow (DRd 1 w) w (some ⟨kb, 0, none⟩) [dOne] := by
  refine ⟨by simp, fun _ => ⟨kb, 0, rfl, hk.lt, fun i k hi => ?_⟩⟩
  match i, hi with
  | 0, hi =>
    obtain rfl : _ = k := by simpa using hi
    exact ⟨_, _, _, hk.cell 0, hk.cell 1, hk.cell 2, drd_one h⟩
  | i + 1, hi => simp at hi
theorem krow_two {w : World} {kb rb : Nat} (h : Blk w rb #[.int .u8 2, .int .i64 1, .int .u64 0, .string ⟨#[]⟩] 49) (hk : Blk w kb #[.int .i64 0, .slice (some ⟨rb, 0, none⟩) 1 1, .slice none 0 0, .int .i64 0, .slice (some ⟨rb, 0, none⟩) 1 1, .slice none 0 0] 42) : KRow (DRd 1 w) w (some ⟨kb, 0, none⟩) [dOne, dOne] := by
  refine ⟨by simp, fun _ => ⟨kb, 0, rfl, hk.lt, fun i k hi => ?_⟩⟩
  match i, hi with
  | 0, hi =>
    obtain rfl : _ = k := by simpa using hi
    exact ⟨_, _, _, hk.cell 0, hk.cell 1, hk.cell 2, drd_one h⟩
  | 1, hi =>
    obtain rfl : _ = k := by simpa using hi
    exact ⟨_, _, _, hk.cell 3, hk.cell 4, hk.cell 5, drd_one h⟩
  | i + 2, hi => simp at hi
theorem oprow_one {w : World} {ob rb : Nat} (h : Blk w rb #[.int .u8 2, .int .i64 1, .int .u64 0, .string ⟨#[]⟩] 49) (ho : Blk w ob #[.int .u8 1, .int .i64 0, .slice (some ⟨rb, 0, none⟩) 1 1] 58) : OpRow w (some ⟨ob, 0, none⟩) [⟨1, 0, some ⟨rb, 0, none⟩, 1, [vOne]⟩] := by
  refine ⟨fun o hm => by rw [List.mem_singleton] at hm; subst hm; exact ⟨by simp, vrow_v1 h⟩, by simp, fun _ => ⟨ob, 0, rfl, ho.lt, fun i o hi => ?_⟩⟩
  match i, hi with
  | 0, hi =>
    obtain rfl : _ = o := by simpa using hi
    exact ⟨ho.cell 0, ho.cell 1, ho.cell 2⟩
  | i + 1, hi => simp at hi
theorem gap_blk {w : World} {g : Nat} {k : Int} (h : Blk w g #[.int .u8 k, .int .i64 0, .int .u8 2, .int .i64 1, .int .u64 0, .string ⟨#[]⟩] 51) : GapAt w g (k, ((0 : Int), vOne)) :=
  ⟨h.lt, h.cell 0, h.cell 1, h.cell 2, h.cell 3, h.cell 4, h.cell 5⟩
theorem GapAt.ext {w w' : World} {g : Nat} {x : Int × (Int × V)} (h : GapAt w g x) (hb : Below w.heap.size w w') : GapAt w' g x := by
  obtain ⟨l, h0, h1, h2, h3, h4, h5⟩ := h
  exact ⟨Nat.lt_of_lt_of_le l hb.size, (hb.cell (p := ⟨g, 0, none⟩) l).trans h0, (hb.cell (p := ⟨g, 1, none⟩) l).trans h1, (hb.cell (p := ⟨g, 2, none⟩) l).trans h2, (hb.cell (p := ⟨g, 3, none⟩) l).trans h3, (hb.cell (p := ⟨g, 4, none⟩) l).trans h4, (hb.cell (p := ⟨g, 5, none⟩) l).trans h5⟩
/-- A state's gaps: none. -/
def NoGap (w : World) (q : Ending) (w' : World) : Prop := Below w.heap.size w w' ∧ ∃ Ag cg, q = .returned (.tuple #[.slice Ag 0 cg, .int .i64 0])
/-- A state's gaps: one. -/
def OneGap (x : Int × (Int × V)) (w : World) (q : Ending) (w' : World) : Prop := Below w.heap.size w w' ∧ ∃ g cg, q = .returned (.tuple #[.slice (some ⟨g, 0, none⟩) 1 cg, .int .i64 0]) ∧ GapAt w' g x
theorem DocsQ.none_ {us : List Ta} {l : List Rw} {told : List De} {w w' : World} {q : Ending} (h : DocsQ us l told w q w') (he : ∀ rs : List (Nat × V), rs.Nodup → (∀ x, x ∈ rs ↔ x ∈ (docsN us l ++ told).map (rtD (keyN us))) → gapsI us l told rs = []) : NoGap w q w' := by
  obtain ⟨hb, rs, Ag, cg, base, hnd, hm, rfl, _⟩ := h
  rw [he rs hnd hm]
  exact ⟨hb, Ag, cg, rfl⟩
theorem DocsQ.one_ {us : List Ta} {l : List Rw} {told : List De} {w w' : World} {q : Ending} {x : Int × (Int × V)} (h : DocsQ us l told w q w') (he : ∀ rs : List (Nat × V), rs.Nodup → (∀ x, x ∈ rs ↔ x ∈ (docsN us l ++ told).map (rtD (keyN us))) → gapsI us l told rs = [x]) : OneGap x w q w' := by
  obtain ⟨hb, rs, Ag, cg, base, hnd, hm, rfl, hown⟩ := h
  rw [he rs hnd hm] at hown ⊢
  obtain ⟨g, cap, hA, _, _⟩ := hown.form (by simp)
  simp only [Value.slice.injEq, true_and] at hA
  obtain ⟨rfl, _⟩ := hA
  exact ⟨hb, g, cg, rfl, gapAt_own hown⟩
section
variable {us : List Ta} {r M : Nat} {A : Option Addr} {c : Nat} {tn : Int} {w : World} {c1 c2 : Nat}
theorem root_one (hR : RelR us r M A c tn [(0, [vOne])] w) (hd : us.map Ta.d = (twoL c1 c2 0).map Ta.d) : RootD us dOne :=
  docsN_root hR.i (by rw [docs_two hd]; simp)
theorem docs_two1 (hR : RelR us r M A c tn [(0, [vOne])] w) (hd : us.map Ta.d = (twoL c1 c2 0).map Ta.d) (hT : Tabs w) : Calls Tryz.prog 9 #[.pointer (some ⟨r, 0, none⟩), .slice none 0 0] w (OneGap (1, ((0 : Int), vOne)) w) :=
  (docs_any hR hT [] none 0 1 ⟨by simp, fun h => absurd rfl h⟩ (by simp) (by simp)).mono fun _ _ h => h.one_ fun _ hr hm => (gaps_two hd (sch_parts hR.h).2.1 hR.i hr).1 hm
theorem docs_two2 (hR : RelR us r M A c tn [(0, [vOne])] w) (hd : us.map Ta.d = (twoL c1 c2 0).map Ta.d) (hT : Tabs w) {kb kt : Nat} (hk : KRow (DRd 1 w) w (some ⟨kb, 0, none⟩) [dOne]) : Calls Tryz.prog 9 #[.pointer (some ⟨r, 0, none⟩), .slice (some ⟨kb, 0, none⟩) 1 kt] w (NoGap w) :=
  (docs_any hR hT [dOne] _ kt 1 hk (by intro d hm; rw [List.mem_singleton] at hm; subst hm; exact root_one hR hd) (by simp)).mono fun _ _ h => h.none_ fun _ hr hm => (gaps_two hd (sch_parts hR.h).2.1 hR.i hr).2.1 hm
theorem docs_two3 (hR : RelR us r M A c tn [(0, [vOne])] w) (hd : us.map Ta.d = (twoL c1 c2 0).map Ta.d) (hT : Tabs w) {kb kt : Nat} (hk : KRow (DRd 1 w) w (some ⟨kb, 0, none⟩) [dOne, dOne]) : Calls Tryz.prog 9 #[.pointer (some ⟨r, 0, none⟩), .slice (some ⟨kb, 0, none⟩) 2 kt] w (OneGap (2, ((0 : Int), vOne)) w) :=
  (docs_any hR hT [dOne, dOne] _ kt 1 hk (by intro d hm; simp at hm; subst hm; exact root_one hR hd) (by simp)).mono fun _ _ h => h.one_ fun _ hr hm => (gaps_two hd (sch_parts hR.h).2.1 hR.i hr).2.2 hm
end
set_option maxRecDepth 100000 in
set_option maxHeartbeats 6400000 in
theorem alive35_any (w : World) (hT : Tabs w) : Calls Tryz.prog 6 #[] w fun q w' => q = .returned (.bool true) ∧ Below w.heap.size w w' := by
  have HT := Lib.hid hT
  clear hT
  go_enter Tryz.func6, Tryz.ntmps6
  go_wp2_with fail
  refine (two_any _).mono ?_
  rintro q w1 ⟨hb1, b, c1, c2, rfl, _, _, _, _, _, hB, hC1, hC2⟩
  have HTR := Lib.hid (two_row (p := 0) (by omega) hB hC1 hC2)
  have HB1 := Lib.hid hb1
  clear hb1 hB hC1 hC2
  go_wp2_with fail
  refine (num_any 1 _).mono ?_
  rintro q w2 ⟨rfl, hb2⟩
  have HB2 := Lib.hid (bt HB1.out hb2)
  have HTR2 := Lib.hid (HTR.out.ext hb2)
  clear hb2 HB1 HTR
  have hbw : Below w2.heap.size w2 ((w2.alloc (.cells #[.int .u8 2, .int .i64 1, .int .u64 0, .string ⟨#[]⟩] 49)).alloc (.cells #[.int .u8 1, .int .i64 0, .slice (some ⟨w2.heap.size, 0, none⟩) 1 1] 58)) := (by repeat (first | exact Below.refl _ _ | assumption | refine Below.drew ?_ | refine below_drewN ?_ _ | refine Below.alloc ?_ (by simp <;> omega) _))
  have HSTA : Hid (Calls Tryz.prog 7 #[.agg #[.slice (some ⟨b, 0, none⟩) 2 2], .slice (some ⟨w2.heap.size + 1, 0, none⟩) 1 1] ((w2.alloc (.cells #[.int .u8 2, .int .i64 1, .int .u64 0, .string ⟨#[]⟩] 49)).alloc (.cells #[.int .u8 1, .int .i64 0, .slice (some ⟨w2.heap.size, 0, none⟩) 1 1] 58)) (StP (twoL c1 c2 0) [⟨1, 0, some ⟨w2.heap.size, 0, none⟩, 1, [vOne]⟩] ((w2.alloc (.cells #[.int .u8 2, .int .i64 1, .int .u64 0, .string ⟨#[]⟩] 49)).alloc (.cells #[.int .u8 1, .int .i64 0, .slice (some ⟨w2.heap.size, 0, none⟩) 1 1] 58)))) :=
    states_any (twoL c1 c2 0) (some ⟨b, 0, none⟩) 2 (some ⟨w2.heap.size + 1, 0, none⟩) 1 [⟨1, 0, some ⟨w2.heap.size, 0, none⟩, 1, [vOne]⟩] _ (HTR2.out.ext hbw) (two_sch c1 c2) (oprow_one (rb := w2.heap.size) (by repeat (first | exact Blk.at (by simp) | assumption | refine Blk.drew ?_ | refine Blk.old ?_ _)) (by repeat (first | exact Blk.at (by simp) | assumption | refine Blk.drew ?_ | refine Blk.old ?_ _))) (HT.out.ext (bt HB2.out hbw))
  have HBW := Lib.hid (bt HB2.out hbw)
  clear hbw HTR2 HB2
  go_wp2_with fail
  refine HSTA.out.mono ?_
  rintro q w3 ⟨hb3, us, r, M, A, c, tn, V, rfl, hR, hd, _, _⟩
  rw [run_two] at hR
  have HR := Lib.hid hR
  have HD := Lib.hid hd
  have HB3 := Lib.hid (bt HBW.out hb3)
  clear hb3 hR hd HSTA HBW
  have HC1 := Lib.hid (docs_two1 HR.out HD.out (HT.out.ext HB3.out))
  go_wp2_with fail
  refine HC1.out.mono ?_
  rintro q w4 ⟨hb4, g1, cg1, rfl, hg1⟩
  have HB4 := Lib.hid (bt HB3.out hb4)
  have HR4 := Lib.hid (HR.out.ext hb4)
  have HG1 := Lib.hid hg1
  clear hb4 hg1 HC1 HR HB3
  go_wp2_with fail
  refine (num_any 1 _).mono ?_
  rintro q w5 ⟨rfl, hb5⟩
  have HB5 := Lib.hid (bt HB4.out hb5)
  have HR5 := Lib.hid (HR4.out.ext hb5)
  have HG5 := Lib.hid (HG1.out.ext hb5)
  clear hb5 HB4 HR4 HG1
  go_upto_region 4 with fail
  have hb6 : Below w5.heap.size w5 ((w5.alloc (.cells #[.int .u8 2, .int .i64 1, .int .u64 0, .string ⟨#[]⟩] 49)).alloc (.cells #[.int .i64 0, .slice (some ⟨w5.heap.size, 0, none⟩) 1 1, .slice none 0 0] 42)) := (by repeat (first | exact Below.refl _ _ | assumption | refine Below.drew ?_ | refine below_drewN ?_ _ | refine Below.alloc ?_ (by simp <;> omega) _))
  have h6 : Blk ((w5.alloc (.cells #[.int .u8 2, .int .i64 1, .int .u64 0, .string ⟨#[]⟩] 49)).alloc (.cells #[.int .i64 0, .slice (some ⟨w5.heap.size, 0, none⟩) 1 1, .slice none 0 0] 42)) w5.heap.size #[.int .u8 2, .int .i64 1, .int .u64 0, .string ⟨#[]⟩] 49 := (by repeat (first | exact Blk.at (by simp) | assumption | refine Blk.drew ?_ | refine Blk.old ?_ _))
  have h7 : Blk ((w5.alloc (.cells #[.int .u8 2, .int .i64 1, .int .u64 0, .string ⟨#[]⟩] 49)).alloc (.cells #[.int .i64 0, .slice (some ⟨w5.heap.size, 0, none⟩) 1 1, .slice none 0 0] 42)) (w5.heap.size + 1) #[.int .i64 0, .slice (some ⟨w5.heap.size, 0, none⟩) 1 1, .slice none 0 0] 42 := (by repeat (first | exact Blk.at (by simp) | assumption | refine Blk.drew ?_ | refine Blk.old ?_ _))
  have HB6 := Lib.hid (bt HB5.out hb6)
  have HR6 := Lib.hid (HR5.out.ext hb6)
  have HG6 := Lib.hid (HG5.out.ext hb6)
  have H6 := Lib.hid h6
  have H7 := Lib.hid h7
  clear hb6 h6 h7 HB5 HR5 HG5
  generalize ((w5.alloc (.cells #[.int .u8 2, .int .i64 1, .int .u64 0, .string ⟨#[]⟩] 49)).alloc (.cells #[.int .i64 0, .slice (some ⟨w5.heap.size, 0, none⟩) 1 1, .slice none 0 0] 42)) = w6 at HB6 HR6 HG6 H6 H7 ⊢
  generalize w5.heap.size + 1 = db at H7 ⊢
  generalize w5.heap.size = rb at H6 H7 ⊢
  have d0 := H7.out.cell 0
  have d1 := H7.out.cell 1
  have d2 := H7.out.cell 2
  have ld := H7.out.lt
  simp only [List.getElem?_toArray, List.getElem?_cons_zero, List.getElem?_cons_succ] at d0 d1 d2
  have hb7 : Below w6.heap.size w6 (w6.alloc (.cells #[.int .i64 0, .slice (some ⟨rb, 0, none⟩) 1 1, .slice none 0 0] 42)) := (by repeat (first | exact Below.refl _ _ | assumption | refine Below.drew ?_ | refine below_drewN ?_ _ | refine Below.alloc ?_ (by simp <;> omega) _))
  have HC2 := Lib.hid (docs_two2 (kt := 1) (HR6.out.ext hb7) HD.out (HT.out.ext (bt HB6.out hb7)) (krow_one (H6.out.ext hb7) (Blk.new w6 #[.int .i64 0, .slice (some ⟨rb, 0, none⟩) 1 1, .slice none 0 0] 42)))
  have HB7 := Lib.hid hb7
  clear hb7
  go_wp2_with fail
  refine HC2.out.mono ?_
  rintro q w8 ⟨hb8, A8, c8, rfl⟩
  have HB8 := Lib.hid (bt HB6.out (bt HB7.out hb8))
  have HR8 := Lib.hid (HR6.out.ext (bt HB7.out hb8))
  have HG8 := Lib.hid (HG6.out.ext (bt HB7.out hb8))
  have H68 := Lib.hid (H6.out.ext (bt HB7.out hb8))
  have H78 := Lib.hid (H7.out.ext (bt HB7.out hb8))
  clear hb8 HC2 HB7 HB6 HR6 HG6 H6 H7 d0 d1 d2 ld
  have d0 := H78.out.cell 0
  have d1 := H78.out.cell 1
  have d2 := H78.out.cell 2
  have ld := H78.out.lt
  simp only [List.getElem?_toArray, List.getElem?_cons_zero, List.getElem?_cons_succ] at d0 d1 d2
  have hb9 : Below w8.heap.size w8 (w8.alloc (.cells #[.int .i64 0, .slice (some ⟨rb, 0, none⟩) 1 1, .slice none 0 0, .int .i64 0, .slice (some ⟨rb, 0, none⟩) 1 1, .slice none 0 0] 42)) := (by repeat (first | exact Below.refl _ _ | assumption | refine Below.drew ?_ | refine below_drewN ?_ _ | refine Below.alloc ?_ (by simp <;> omega) _))
  have HC3 := Lib.hid (docs_two3 (kt := 2) (HR8.out.ext hb9) HD.out (HT.out.ext (bt HB8.out hb9)) (krow_two (H68.out.ext hb9) (Blk.new w8 #[.int .i64 0, .slice (some ⟨rb, 0, none⟩) 1 1, .slice none 0 0, .int .i64 0, .slice (some ⟨rb, 0, none⟩) 1 1, .slice none 0 0] 42)))
  have HB9 := Lib.hid hb9
  clear hb9
  go_wp2_with fail
  refine HC3.out.mono ?_
  rintro q w10 ⟨hb10, g3, cg3, rfl, hg3⟩
  have HB10 := Lib.hid (bt HB8.out (bt HB9.out hb10))
  have HR10 := Lib.hid (HR8.out.ext (bt HB9.out hb10))
  have HG10 := Lib.hid (HG8.out.ext (bt HB9.out hb10))
  have HG3 := Lib.hid hg3
  clear hb10 hg3 HC3 HB9 HB8 HR8 HG8 H68 H78 d0 d1 d2 ld
  have HCN := Lib.hid (docs_nil w10)
  go_wp2_with fail
  refine HCN.out.mono ?_
  rintro q w11 ⟨rfl, rfl⟩
  clear HCN
  go_wp2_with fail
  refine (num_any 1 _).mono ?_
  rintro q w12 ⟨rfl, hb12⟩
  have HB12 := Lib.hid (bt HB10.out hb12)
  have HR12 := Lib.hid (HR10.out.ext hb12)
  have HG12 := Lib.hid (HG10.out.ext hb12)
  have HG32 := Lib.hid (HG3.out.ext hb12)
  clear hb12 HB10 HR10 HG10 HG3
  go_wp2_with fail
  refine (num_any 1 _).mono ?_
  rintro q w13 ⟨rfl, hb13⟩
  have HB13 := Lib.hid (bt HB12.out hb13)
  have HR13 := Lib.hid (HR12.out.ext hb13)
  have HG13 := Lib.hid (HG12.out.ext hb13)
  have HG33 := Lib.hid (HG32.out.ext hb13)
  clear hb13 HB12 HR12 HG12 HG32
  have hb14 : Below w13.heap.size w13 ((w13.alloc (.cells #[.int .u8 2, .int .i64 1, .int .u64 0, .string ⟨#[]⟩, .int .u8 2, .int .i64 1, .int .u64 0, .string ⟨#[]⟩] 49)).alloc (.cells #[.int .i64 1, .slice (some ⟨w13.heap.size, 0, none⟩) 2 2, .slice none 0 0] 42)) := (by repeat (first | exact Below.refl _ _ | assumption | refine Below.drew ?_ | refine below_drewN ?_ _ | refine Below.alloc ?_ (by simp <;> omega) _))
  have HC4 : Hid (Calls Tryz.prog 9 #[.pointer (some ⟨r, 0, none⟩), .slice (some ⟨w13.heap.size + 1, 0, none⟩) 1 1] ((w13.alloc (.cells #[.int .u8 2, .int .i64 1, .int .u64 0, .string ⟨#[]⟩, .int .u8 2, .int .i64 1, .int .u64 0, .string ⟨#[]⟩] 49)).alloc (.cells #[.int .i64 1, .slice (some ⟨w13.heap.size, 0, none⟩) 2 2, .slice none 0 0] 42)) (FormQ ((w13.alloc (.cells #[.int .u8 2, .int .i64 1, .int .u64 0, .string ⟨#[]⟩, .int .u8 2, .int .i64 1, .int .u64 0, .string ⟨#[]⟩] 49)).alloc (.cells #[.int .i64 1, .slice (some ⟨w13.heap.size, 0, none⟩) 2 2, .slice none 0 0] 42)))) :=
    docs_form (HR13.out.ext hb14) (w13.heap.size + 1) 1 (some ⟨w13.heap.size, 0, none⟩) 2 2 none 0 0 1 (by repeat (first | exact Blk.at (by simp) | assumption | refine Blk.drew ?_ | refine Blk.old ?_ _)) (nroot_two HD.out)
  have HB14 := Lib.hid hb14
  clear hb14
  go_wp2_with fail
  refine HC4.out.mono ?_
  rintro q w15 ⟨rfl, hb15⟩
  have HB15 := Lib.hid (bt HB13.out (bt HB14.out hb15))
  have HG15 := Lib.hid (HG13.out.ext (bt HB14.out hb15))
  have HG35 := Lib.hid (HG33.out.ext (bt HB14.out hb15))
  clear hb15 HC4 HB14 HB13 HR13 HG13 HG33
  go_wp2_with fail
  refine (num_any 1 _).mono ?_
  rintro q w16 ⟨rfl, hb16⟩
  have HB16 := Lib.hid (bt HB15.out hb16)
  have HG16 := Lib.hid (HG15.out.ext hb16)
  have HG36 := Lib.hid (HG35.out.ext hb16)
  clear hb16 HB15 HG15 HG35
  have hb17 : Below w16.heap.size w16 (w16.alloc (.cells #[.int .u8 1, .int .i64 0, .int .u8 2, .int .i64 1, .int .u64 0, .string ⟨#[]⟩] 51)) := (by repeat (first | exact Below.refl _ _ | assumption | refine Below.drew ?_ | refine below_drewN ?_ _ | refine Below.alloc ?_ (by simp <;> omega) _))
  have HC5 := Lib.hid (same35_one (c1 := cg1) (c2 := 1) (HG16.out.ext hb17) (gap_blk (Blk.new w16 #[.int .u8 1, .int .i64 0, .int .u8 2, .int .i64 1, .int .u64 0, .string ⟨#[]⟩] 51)))
  have HB17 := Lib.hid hb17
  clear hb17
  go_wp2_with fail
  refine HC5.out.mono ?_
  rintro q w18 ⟨rfl, hb18⟩
  have HB18 := Lib.hid (bt HB16.out (bt HB17.out hb18))
  have HG38 := Lib.hid (HG36.out.ext (bt HB17.out hb18))
  clear hb18 HC5 HB17 HB16 HG16 HG36
  go_wp2_with fail
  refine (num_any 1 _).mono ?_
  rintro q w19 ⟨rfl, hb19⟩
  have HB19 := Lib.hid (bt HB18.out hb19)
  have HG39 := Lib.hid (HG38.out.ext hb19)
  clear hb19 HB18 HG38
  have hb20 : Below w19.heap.size w19 (w19.alloc (.cells #[.int .u8 2, .int .i64 0, .int .u8 2, .int .i64 1, .int .u64 0, .string ⟨#[]⟩] 51)) := (by repeat (first | exact Below.refl _ _ | assumption | refine Below.drew ?_ | refine below_drewN ?_ _ | refine Below.alloc ?_ (by simp <;> omega) _))
  have HC6 := Lib.hid (same35_one (c1 := cg3) (c2 := 1) (HG39.out.ext hb20) (gap_blk (Blk.new w19 #[.int .u8 2, .int .i64 0, .int .u8 2, .int .i64 1, .int .u64 0, .string ⟨#[]⟩] 51)))
  have HB20 := Lib.hid hb20
  clear hb20
  go_wp2_with fail
  refine HC6.out.mono ?_
  rintro q w21 ⟨rfl, hb21⟩
  have HB21 := Lib.hid (bt HB19.out (bt HB20.out hb21))
  clear hb21 HC6 HB20 HB19 HG39
  go_wp2_with fail
  go_ret
  exact ⟨rfl, HB21.out⟩
end Go.Proofs.YtgklopgeimjgiaaGreatDoor
