/- Several texts in one: see each part's head. -/
import Derived.Test.YtgklopgeimjgiaaGreatDoorJ24
import Derived.Test.YtgklopgeimjgiaaGreatDoorJ25
/- VerifySees: rel.place: where an op's row stands. -/
namespace Go.Proofs.YtgklopgeimjgiaaGreatDoor
open Go.RowKit

/-- A block that is Z till it is F turns, and nothing else. -/
def StW (N : Nat) (t : TypeId) (Z F : Array Value) (a c : World) : Prop := Chg [N] a c ∧ ((Blk a N Z t ∨ Blk a N F t) → (Blk c N Z t ∨ Blk c N F t)) ∧ (Blk a N F t → Blk c N F t)
theorem StW.of {N : Nat} {t : TypeId} {Z F : Array Value} {a c : World} (h : Below a.heap.size a c) : StW N t Z F a c := ⟨Chg.of_below h, fun k => k.imp (·.ext h) (·.ext h), fun k => k.ext h⟩
theorem StW.trans {N : Nat} {t : TypeId} {Z F : Array Value} {a c d : World} (h : StW N t Z F a c) (g : StW N t Z F c d) : StW N t Z F a d := ⟨h.1.trans g.1 (fun _ hi => Or.inl hi), fun k => g.2.1 (h.2.1 k), fun k => g.2.2 (h.2.2 k)⟩
theorem StW.put {N : Nat} {t : TypeId} {Z F X : Array Value} {w3 : World} (lt : N < w3.heap.size) : StW N t Z F (putBlk w3 N X t) (putBlk w3 N F t) := by
  refine ⟨?_, fun _ => Or.inr (putBlk_blk _ _ lt), fun _ => putBlk_blk _ _ lt⟩
  have := (Chg.refl [N] (putBlk w3 N X t)).put (b := N) (Or.inl (by simp)) F t
  rwa [put_put'] at this
def kSt (N : Nat) (t : TypeId) (F : Array Value) : Known := .mem (fun _ w => Blk w N F t) (fun _ _ _ h hb => h.ext hb)
theorem KT.st {N : Nat} {t : TypeId} {Z F : Array Value} : KT (StW N t Z F) (kSt N t F) := fun _ _ _ h k => h.2.2 k
/-- Where an op's row stands, if the op may be. -/
def plF (us : List Ta) (kd t : Int) (row : List V) : Option (Int × V) :=
  if kd = 3 then (match row with
    | [k] => if keyS us t k then some (t, k) else none
    | _ => none) else if rowS us t row then some (t, keyN us t.toNat row) else none
def PlQ (F : Option (Int × V)) (w : World) (q : Ending) (w' : World) : Prop :=
  Below w.heap.size w w' ∧ (∀ p, F = some p → q = .returned (.tuple #[plc p.1 p.2, .int .i64 0])) ∧ (F = none → ∃ t k, q = .returned (.tuple #[plc t k, .int .i64 2]))
theorem PlQ.bad {F : Option (Int × V)} {w w' : World} {t : Int} {k : V} (hF : F = none) (hb : Below w.heap.size w w') : PlQ F w (.returned (.tuple #[plc t k, .int .i64 2])) w' :=
  ⟨hb, fun p h => (by rw [hF] at h; cases h), fun _ => ⟨t, k, rfl⟩⟩
variable {us : List Ta} {r M : Nat} {A : Option Addr} {c : Nat} {tn : Int} {l : List Rw} {w w' : World}
set_option maxRecDepth 100000 in
set_option maxHeartbeats 1600000 in
theorem place_any (h : RelR us r M A c tn l w) (hT : Tabs w) (kd t : Int) (B : Option Addr) (rc : Nat) (row : List V) (hv : VRow w B row) :
    Calls Tryz.prog 42 #[.pointer (some ⟨r, 0, none⟩), .agg #[.int .u8 kd, .int .i64 t, .slice B row.length rc]] w (PlQ (plF us kd t row) w) := by
  have HKY := Lib.hid (fun (k : V) (W : World) (hW : Below w.heap.size w W) (hk : k.wf) => schkey_any us A c t k W (h.s.trow.ext hW) hk (hT.ext hW))
  have HRW := Lib.hid (fun (W : World) (hW : Below w.heap.size w W) => schrow_any us A B c rc t row W (h.s.trow.ext hW) (hv.ext hW) (hT.ext hW))
  have HB := Lib.hid h.b
  have HTR := Lib.hid h.s.trow
  have HS := Lib.hid h.h
  have HV := Lib.hid hv
  obtain ⟨F, hF⟩ : ∃ q, q = plF us kd t row := ⟨_, rfl⟩
  rw [← hF]
  have HF := Lib.hid hF
  clear h hT hv hF
  obtain ⟨n, hn⟩ : ∃ q, q = row.length := ⟨_, rfl⟩
  rw [← hn] at HRW ⊢
  have HN := Lib.hid hn
  clear hn
  go_enter Tryz.func42, Tryz.ntmps42
  go_upto_region 1 with fail
  have h3 : Blk ((w.alloc (.cells #[.int .u8 kd, .int .i64 t, .slice B n rc] 58)).alloc (.cells #[.int .i64 0, .int .u8 0, .int .i64 0, .int .u64 0, .string ⟨#[]⟩] 101)) w.heap.size #[.int .u8 kd, .int .i64 t, .slice B n rc] 58 := (Blk.new w _ _).old _
  have h4 : Blk ((w.alloc (.cells #[.int .u8 kd, .int .i64 t, .slice B n rc] 58)).alloc (.cells #[.int .i64 0, .int .u8 0, .int .i64 0, .int .u64 0, .string ⟨#[]⟩] 101)) (w.heap.size + 1) #[.int .i64 0, .int .u8 0, .int .i64 0, .int .u64 0, .string ⟨#[]⟩] 101 := (by repeat (first | exact Blk.at (by simp) | assumption | refine Blk.drew ?_ | refine Blk.old ?_ _))
  have hC : Below w.heap.size w ((w.alloc (.cells #[.int .u8 kd, .int .i64 t, .slice B n rc] 58)).alloc (.cells #[.int .i64 0, .int .u8 0, .int .i64 0, .int .u64 0, .string ⟨#[]⟩] 101)) := (by repeat (first | exact Below.refl _ _ | assumption | refine Below.drew ?_ | refine below_drewN ?_ _ | refine Below.alloc ?_ (by simp <;> omega) _))
  have H3 := Lib.hid h3
  have H4 := Lib.hid h4
  have HC := Lib.hid hC
  clear h3 h4 hC
  generalize (w.alloc (.cells #[.int .u8 kd, .int .i64 t, .slice B n rc] 58)).alloc (.cells #[.int .i64 0, .int .u8 0, .int .i64 0, .int .u64 0, .string ⟨#[]⟩] 101) = W0 at H3 H4 HC ⊢
  have HX4 : Hid (w.heap.size ≤ w.heap.size + 1) := Nat.le_succ _
  have HNE : Hid (w.heap.size ≠ w.heap.size + 1) := by show _ ≠ _; omega
  generalize w.heap.size + 1 = B4 at H4 HX4 HNE ⊢
  generalize hB3 : w.heap.size = B3 at H3 HNE ⊢
  clear hB3
  have o0 := H3.out.cell 0
  have o1 := H3.out.cell 1
  have o2 := H3.out.cell 2
  have l3 := H3.out.lt
  simp only [List.getElem?_toArray, List.getElem?_cons_zero, List.getElem?_cons_succ] at o0 o1 o2
  by_cases hk3 : kd = 3
  · have q3 : (kd == 3) = true := by simp [hk3]
    by_cases h1 : n = 1
    · obtain ⟨k, hrow⟩ : ∃ k, row = [k] := by
        rcases hr : row with _ | ⟨k, _ | ⟨k2, l2⟩⟩
        · have := HN.out; rw [hr] at this; simp at this; omega
        · exact ⟨k, rfl⟩
        · have := HN.out; rw [hr] at this; simp at this; omega
      subst hrow
      subst h1
      have HKK := Lib.hid (fun (W : World) (hW : Below w.heap.size w W) => HKY.out k W hW (HV.out.1 k (by simp)))
      have HFK : Hid (F = if keyS us t k then some (t, k) else none) := by
        show _ = _
        rw [HF.out]; unfold plF; rw [if_pos hk3]
      obtain ⟨bb, off, v, rfl, hbb, hvk, _, hvw, d0, d1, d2, d3⟩ := (HV.out).at_ (k := 0) (by simp)
      simp only [List.getElem?_cons_zero, Option.some.injEq] at hvk
      subst hvk
      simp only [Nat.zero_mul, Nat.add_zero] at d0 d1 d2 d3
      have HD := Lib.hid (And.intro hbb (And.intro d0 (And.intro d1 (And.intro d2 d3))))
      clear d0 d1 d2 d3 hbb hvw hk3 HRW HF
      obtain ⟨kk, kn, kr, kt⟩ := k
      obtain ⟨E, hE⟩ : ∃ E, E = okE (keyS us t ⟨kk, kn, kr, kt⟩) := ⟨_, rfl⟩
      unfold V.agg at HKK
      simp only at HKK HD
      rw [← hE] at HKK
      have HFE : Hid (∀ w', Below w.heap.size w w' → PlQ F w (.returned (.tuple #[.agg #[.int .i64 t, .int .u8 kk, .int .i64 kn, .int .u64 kr, .string kt], .int .i64 E])) w') := by
        intro w' hb
        cases hks : keyS us t ⟨kk, kn, kr, kt⟩
        · rw [hks, okE_f' rfl] at hE
          have e := HFK.out
          rw [hks] at e
          rw [hE]
          exact PlQ.bad (t := t) (k := ⟨kk, kn, kr, kt⟩) (by rw [e]; rfl) hb
        · rw [hks, okE_t' rfl] at hE
          have e := HFK.out
          rw [hks, if_pos rfl] at e
          rw [hE]
          exact ⟨hb, fun p hp => (by rw [e, Option.some.injEq] at hp; subst hp; rfl), fun hp => (by rw [e] at hp; cases hp)⟩
      clear hE HFK
      go_upto_region 4 with fail
      clear o0 o1 o2 l3
      refine region_free (StW B4 101 #[.int .i64 0, .int .u8 0, .int .i64 0, .int .u64 0, .string ⟨#[]⟩] #[.int .i64 t, .int .u8 kk, .int .i64 kn, .int .u64 kr, .string kt]) [false, false, false, false, false, true, false, false, false, false, false, false, false, false, false, true, true, true, true, true, true, true, true, true, true, true, true, true, true, true, true, true, true, false, false, false, false, false, false, false, false, false, false, false, false, false, false, false, false, false, false, false, false, false, false, false, false, false, false, false, false, false, false] [15, 16, 17, 18, 19, 20, 21, 22, 23, 24, 25, 26, 27, 28, 29, 30, 31, 32, 0, 5] [.val (.pointer (some ⟨B3, 1, none⟩)), .val (.int .i64 t), .val (.pointer (some ⟨B3, 2, none⟩)), .val (.slice (some ⟨bb, off, none⟩) 1 rc), .val (.pointer (some ⟨bb, off, none⟩)), .val (.agg #[.int .u8 kk, .int .i64 kn, .int .u64 kr, .string kt]), .val (.agg #[.int .i64 t, .int .u8 kk, .int .i64 kn, .int .u64 kr, .string kt]), .val (.pointer (some ⟨r, 0, none⟩)), .val (.pointer (some ⟨r, 0, none⟩)), .val (.pointer (some ⟨r, 0, none⟩)), .val (.agg #[.slice A us.length c]), .val (.pointer (some ⟨B3, 1, none⟩)), .val (.int .i64 t), .val (.pointer (some ⟨B3, 2, none⟩)), .val (.slice (some ⟨bb, off, none⟩) 1 rc), .val (.pointer (some ⟨bb, off, none⟩)), .val (.agg #[.int .u8 kk, .int .i64 kn, .int .u64 kr, .string kt]), .val (.int .i64 E), kSt B4 101 #[.int .i64 t, .int .u8 kk, .int .i64 kn, .int .u64 kr, .string kt], .val (.int .i64 E)] [18, 19] (StW.of (Below.refl _ _).drew) (StW.trans) (?kt) (by kernel_rfl) (by kernel_rfl) (by kernel_rfl) (by kernel_rfl) (by kernel_rfl) ⟨?_, ?_, ?_, ?_, ?_, ?_, ?_, ?_, ?_, ?_, ?_, ?_, ?_, ?_, ?_, ?_, ?_, ?_, ?_, ?_, trivial⟩ ?done
      case kt =>
        intro k hk
        simp only [List.mem_cons, List.not_mem_nil, or_false] at hk
        rcases hk with rfl | rfl | rfl | rfl | rfl | rfl | rfl | rfl | rfl | rfl | rfl | rfl | rfl | rfl | rfl | rfl | rfl | rfl | rfl | rfl
        all_goals first | exact KT.val _ | exact KT.st
      case done =>
        intro x w9 hT9
        simp only [StepGoal, overlay, upd, cond_true, cond_false, List.getD_cons_zero, List.getD_cons_succ, Nat.zero_add, Nat.reduceAdd, Nat.reduceEqDiff, reduceIte]
        intro v hk9
        have e0 := hk9.cell 0
        have e1 := hk9.cell 1
        have e2 := hk9.cell 2
        have e3 := hk9.cell 3
        have e4 := hk9.cell 4
        simp only [List.getElem?_toArray, List.getElem?_cons_zero, List.getElem?_cons_succ] at e0 e1 e2 e3 e4
        have HB9 := Lib.hid (HC.out.trans (hT9.1.below HC.out.size (fun i hi => by rw [List.mem_singleton] at hi; subst hi; exact HX4.out)))
        clear hk9 hT9
        go_wp2_with fail
        refine bodyPost_ret (v := .tuple #[.agg #[.int .i64 t, .int .u8 kk, .int .i64 kn, .int .u64 kr, .string kt], .int .i64 E]) (by simp [results, Tryz.results42, go_sem, e0, e1, e2, e3, e4]) rfl ?_
        exact HFE.out _ HB9.out
      all_goals
        intro x w8 hT8
        have hb8 := HC.out.trans (hT8.1.below HC.out.size (fun i hi => by rw [List.mem_singleton] at hi; subst hi; exact HX4.out))
        have h38 := H3.out.chg hT8.1 (by rw [List.mem_singleton]; exact HNE.out)
        have hz8 := hT8.2.1 (Or.inl H4.out)
        have hr8 := HB.out.ext hb8
        have o0 := h38.cell 0
        have o1 := h38.cell 1
        have o2 := h38.cell 2
        have l3 := h38.lt
        have r0 := hr8.cell 0
        have lr := hr8.lt
        have d0 := (hb8.cell (p := ⟨bb, off, none⟩) HD.out.1).trans HD.out.2.1; have d1 := (hb8.cell (p := ⟨bb, off + 1, none⟩) HD.out.1).trans HD.out.2.2.1; have d2 := (hb8.cell (p := ⟨bb, off + 2, none⟩) HD.out.1).trans HD.out.2.2.2.1; have d3 := (hb8.cell (p := ⟨bb, off + 3, none⟩) HD.out.1).trans HD.out.2.2.2.2
        simp only [List.getElem?_toArray, List.getElem?_cons_zero, List.getElem?_cons_succ] at o0 o1 o2 r0
        clear h38 hr8
        first
          | (intro K hK
             clear hz8
             rw [if_pos (by rfl)]; simp only [overlay, upd, cond_true, cond_false, List.getD_cons_zero, List.getD_cons_succ, Nat.reduceEqDiff, reduceIte]
             go_simp
             first
               | exact hK.out _ _ (StW.of (Below.refl _ _)) rfl
               | ((with_reducible refine (HKK.out _ hb8).mono ?_); rintro e wa ⟨rfl, hba⟩; go_wp2_with fail; exact hK.out _ _ (StW.of hba) rfl))
          | (intro K hK
             rcases hz8 with hz8 | hz8
             all_goals
               obtain ⟨w3, rfl, lt⟩ := blk_put hz8
               obtain ⟨pc, pf, pS⟩ := putBlk_facts (w := w3) 101 lt
               rw [if_pos (by rfl)]; simp only [overlay, upd, cond_true, cond_false, List.getD_cons_zero, List.getD_cons_succ, Nat.reduceEqDiff, reduceIte]
               go_simp
               exact hK.out undef _ (StW.put lt) (putBlk_blk _ _ lt))
          | (intro v hv K hK
             clear hz8
             rw [if_pos (by rfl)]; simp only [overlay, upd, cond_true, cond_false, List.getD_cons_zero, List.getD_cons_succ, Nat.reduceEqDiff, reduceIte]
             go_simp
             exact hK.out _ _ (StW.of (Below.refl _ _)) rfl)
          | (intro v hv v' hv' K hK
             clear hz8
             rw [if_pos (by rfl)]; simp only [overlay, upd, cond_true, cond_false, List.getD_cons_zero, List.getD_cons_succ, Nat.reduceEqDiff, reduceIte]
             go_simp
             exact hK.out _ _ (StW.of (Below.refl _ _)) rfl)
    · have HFN : Hid (F = none) := by
        show _ = _
        rw [HF.out]; unfold plF; rw [if_pos hk3]
        rcases hr : row with _ | ⟨k, _ | ⟨k2, l2⟩⟩
        · rfl
        · exfalso; apply h1; rw [HN.out, hr]; rfl
        · rfl
      have q1 : ((n : Int) != 1) = true := by rw [bne_iff_ne]; omega
      have hz := H4.out
      have HC2 := Lib.hid (HC.out)
      clear h1 hk3 HRW HKY HF
      obtain ⟨w3, rfl, lt⟩ := blk_put hz
      obtain ⟨pc, pf, pS⟩ := putBlk_facts (w := w3) 101 lt
      clear hz
      go_wp2_with fail
      refine bodyPost_ret (v := .tuple #[plc 0 zV, .int .i64 2]) (by simp [results, Tryz.results42, go_sem, pc, plc, zV]) rfl ?_
      exact PlQ.bad HFN.out (by have := putBlk_below (b := B4) #[.int .i64 0, .int .u8 0, .int .i64 0, .int .u64 0, .string ⟨#[]⟩] 101 HC2.out HX4.out; rwa [put_put'] at this)
  · have q3 : (kd == 3) = false := by simpa using hk3
    have HFR : Hid (F = if rowS us t row then some (t, keyN us t.toNat row) else none) := by
      show _ = _
      rw [HF.out]; unfold plF; rw [if_neg hk3]
    obtain ⟨E, hE⟩ : ∃ E, E = okE (rowS us t row) := ⟨_, rfl⟩
    rw [← hE] at HRW
    have HE := Lib.hid hE
    clear hk3 hE HKY HF
    go_upto_region 5 with fail
    go_cut [6] (fun v wx => v = .int .i64 E ∧ Hid (Below W0.heap.size W0 wx))
    case first =>
      clear o0 o1 o2 l3
      refine region_grow [false, false, false, false, false, false, true, false, false, false, false, false, false, false, false, false, false, false, false, false, false, false, false, false, false, false, false, false, false, false, false, false, false, true, true, true, true, true, true, true, true, true, false, false, false, false, false, false, false, false, false, false, false, false, false, false, false, false, false, false, false, false, false] [33, 34, 35, 36, 37, 38, 39, 40, 41, 6] [.val (.pointer (some ⟨r, 0, none⟩)), .val (.pointer (some ⟨r, 0, none⟩)), .val (.pointer (some ⟨r, 0, none⟩)), .val (.agg #[.slice A us.length c]), .val (.pointer (some ⟨B3, 1, none⟩)), .val (.int .i64 t), .val (.pointer (some ⟨B3, 2, none⟩)), .val (.slice B n rc), .val (.int .i64 E), .val (.int .i64 E)] [9] (by kernel_rfl) (by kernel_rfl) (by kernel_rfl) (by kernel_rfl) (by kernel_rfl) ⟨?_, ?_, ?_, ?_, ?_, ?_, ?_, ?_, ?_, ?_, trivial⟩ ?done
      case done =>
        intro x w5 hb5
        simp only [StepGoal, overlay, upd, cond_true, cond_false, List.getD_cons_zero, List.getD_cons_succ, Nat.zero_add, Nat.reduceAdd, Nat.reduceEqDiff, reduceIte]
        go_wp2_with fail
        go_meet
        exact ⟨rfl, hb5⟩
      all_goals
        intro x w5 hb5
        intro K hK
        have hb8 := bt HC.out hb5
        have h38 := H3.out.ext hb5
        have hr8 := HB.out.ext hb8
        have o1 := h38.cell 1
        have o2 := h38.cell 2
        have l3 := h38.lt
        have r0 := hr8.cell 0
        have lr := hr8.lt
        simp only [List.getElem?_toArray, List.getElem?_cons_zero, List.getElem?_cons_succ] at o1 o2 r0
        clear h38 hr8
        rw [if_pos (by rfl)]; simp only [overlay, upd, cond_true, cond_false, List.getD_cons_zero, List.getD_cons_succ, Nat.reduceEqDiff, reduceIte]
        go_simp
        first
          | exact hK.out _ _ (Below.refl _ _) rfl
          | ((with_reducible refine (HRW.out _ hb8).mono ?_); rintro e wa ⟨rfl, hba⟩; go_wp2_with fail; exact hK.out _ _ hba rfl)
    case rest =>
      obtain ⟨rfl, HB5⟩ := hcut
      rename World => w5
      have H3 := Lib.hid (H3.out.ext HB5.out)
      have H4 := Lib.hid (H4.out.ext HB5.out)
      have HC := Lib.hid (bt HC.out HB5.out)
      clear o0 o1 o2 l3 HRW HB5
      cases hrs : rowS us t row
      · rw [hrs] at HE HFR
        obtain rfl : E = 2 := HE.out
        have HFN : Hid (F = none) := HFR.out
        have hz := H4.out
        have HC2 := Lib.hid (HC.out)
        clear hrs HE HFR H4
        obtain ⟨w3, rfl, lt⟩ := blk_put hz
        obtain ⟨pc, pf, pS⟩ := putBlk_facts (w := w3) 101 lt
        clear hz
        go_wp2_with fail
        refine bodyPost_ret (v := .tuple #[plc 0 zV, .int .i64 2]) (by simp [results, Tryz.results42, go_sem, pc, plc, zV]) rfl ?_
        exact PlQ.bad HFN.out (by have := putBlk_below (b := B4) #[.int .i64 0, .int .u8 0, .int .i64 0, .int .u64 0, .string ⟨#[]⟩] 101 HC2.out HX4.out; rwa [put_put'] at this)
      · rw [hrs] at HE HFR
        obtain rfl : E = 0 := HE.out
        have HFN : Hid (F = some (t, keyN us t.toNat row)) := HFR.out
        have hrs' := hrs
        unfold rowS at hrs'
        rw [Bool.and_eq_true] at hrs'
        obtain ⟨j, u, rfl, hj, hju, hcb, _⟩ := has_at hrs'.1
        have hrf := hrs'.2
        rw [Int.toNat_natCast, hju] at hrf
        simp only at hrf
        unfold rowF at hrf
        rw [Bool.and_eq_true, decide_eq_true_eq] at hrf
        have hrl := hrf.1
        obtain ⟨_, _, _, ⟨k0, k1⟩, _⟩ := cols_parts hcb
        obtain ⟨kj, hkj⟩ : ∃ kj : Nat, u.key = kj := ⟨u.key.toNat, by omega⟩
        have hkl : kj < row.length := by omega
        obtain ⟨bb, off, v, rfl, hbb, hvk, _, hvw, d0, d1, d2, d3⟩ := (HV.out).at_ hkl
        have hkey : keyN us j row = v := by
          unfold keyN
          rw [hju]
          simp only
          rw [hkj, Int.toNat_natCast, List.getD_eq_getElem?_getD, hvk]
          rfl
        rw [Int.toNat_natCast, hkey] at HFN
        obtain ⟨ab, ao, u', rfl, hab, hju', _, _, _, e0, e1, e2, e3, e4⟩ := HTR.out.at_ hj
        rw [hju, Option.some.injEq] at hju'
        subst hju'
        rw [hkj] at e2
        have hnl : kj < n := by rw [HN.out]; exact hkl
        have HD := Lib.hid (And.intro hbb (And.intro d0 (And.intro d1 (And.intro d2 d3))))
        have HEE := Lib.hid (And.intro hab e2)
        obtain ⟨kk, kn, kr, kt⟩ := v
        simp only at HD
        have HFE : Hid (∀ w', Below w.heap.size w w' → PlQ F w (.returned (.tuple #[.agg #[.int .i64 j, .int .u8 kk, .int .i64 kn, .int .u64 kr, .string kt], .int .i64 0])) w') := fun w' hb =>
          ⟨hb, fun p hp => (by rw [HFN, Option.some.injEq] at hp; subst hp; rfl), fun hp => (by rw [HFN] at hp; cases hp)⟩
        have i0 : (j : Int) < us.length := by omega
        have i1 : (kj : Int) < n := by omega
        clear hrs HE HFR hrs' hju hcb hrf hrl k0 k1 hkj hkl hbb hvk hvw d0 d1 d2 d3 hkey HFN hab e0 e1 e2 e3 e4 hj hnl
        go_upto_region 8 with fail
        refine region_free (StW B4 101 #[.int .i64 0, .int .u8 0, .int .i64 0, .int .u64 0, .string ⟨#[]⟩] #[.int .i64 j, .int .u8 kk, .int .i64 kn, .int .u64 kr, .string kt]) [false, false, false, false, false, true, false, false, false, false, false, false, false, false, false, false, false, false, false, false, false, false, false, false, false, false, false, false, false, false, false, false, false, false, false, false, false, false, false, false, false, false, false, false, false, false, true, true, true, true, true, true, true, true, true, true, true, true, true, true, true, true, true] [46, 47, 48, 49, 50, 51, 52, 53, 54, 55, 56, 57, 58, 59, 60, 61, 62, 0, 5] [.val (.pointer (some ⟨B3, 1, none⟩)), .val (.int .i64 j), .val (.pointer (some ⟨B3, 2, none⟩)), .val (.slice (some ⟨bb, off, none⟩) n rc), .val (.pointer (some ⟨r, 0, none⟩)), .val (.pointer (some ⟨r, 0, none⟩)), .val (.pointer (some ⟨r, 0, none⟩)), .val (.pointer (some ⟨r, 0, none⟩)), .val (.slice (some ⟨ab, ao, none⟩) us.length c), .val (.pointer (some ⟨B3, 1, none⟩)), .val (.int .i64 j), .val (.pointer (some ⟨ab, ao + j * 5, none⟩)), .val (.pointer (some ⟨ab, ao + j * 5 + 2, none⟩)), .val (.int .i64 kj), .val (.pointer (some ⟨bb, off + kj * 4, none⟩)), .val (.agg #[.int .u8 kk, .int .i64 kn, .int .u64 kr, .string kt]), .val (.agg #[.int .i64 j, .int .u8 kk, .int .i64 kn, .int .u64 kr, .string kt]), kSt B4 101 #[.int .i64 j, .int .u8 kk, .int .i64 kn, .int .u64 kr, .string kt], .val (.int .i64 0)] [17, 18] (StW.of (Below.refl _ _).drew) (StW.trans) (?kt) (by kernel_rfl) (by kernel_rfl) (by kernel_rfl) (by kernel_rfl) (by kernel_rfl) ⟨?_, ?_, ?_, ?_, ?_, ?_, ?_, ?_, ?_, ?_, ?_, ?_, ?_, ?_, ?_, ?_, ?_, ?_, ?_, trivial⟩ ?done
        case kt =>
          intro k hk
          simp only [List.mem_cons, List.not_mem_nil, or_false] at hk
          rcases hk with rfl | rfl | rfl | rfl | rfl | rfl | rfl | rfl | rfl | rfl | rfl | rfl | rfl | rfl | rfl | rfl | rfl | rfl | rfl
          all_goals first | exact KT.val _ | exact KT.st
        case done =>
          intro x w9 hT9
          simp only [StepGoal, overlay, upd, cond_true, cond_false, List.getD_cons_zero, List.getD_cons_succ, Nat.zero_add, Nat.reduceAdd, Nat.reduceEqDiff, reduceIte]
          intro v hk9
          have e0 := hk9.cell 0
          have e1 := hk9.cell 1
          have e2 := hk9.cell 2
          have e3 := hk9.cell 3
          have e4 := hk9.cell 4
          simp only [List.getElem?_toArray, List.getElem?_cons_zero, List.getElem?_cons_succ] at e0 e1 e2 e3 e4
          have HB9 := Lib.hid (HC.out.trans (hT9.1.below HC.out.size (fun i hi => by rw [List.mem_singleton] at hi; subst hi; exact HX4.out)))
          clear hk9 hT9
          go_wp2_with fail
          refine bodyPost_ret (v := .tuple #[.agg #[.int .i64 j, .int .u8 kk, .int .i64 kn, .int .u64 kr, .string kt], .int .i64 0]) (by simp [results, Tryz.results42, go_sem, e0, e1, e2, e3, e4]) rfl ?_
          exact HFE.out _ HB9.out
        all_goals
          intro x w8 hT8
          have hb8 := HC.out.trans (hT8.1.below HC.out.size (fun i hi => by rw [List.mem_singleton] at hi; subst hi; exact HX4.out))
          have h38 := H3.out.chg hT8.1 (by rw [List.mem_singleton]; exact HNE.out)
          have hz8 := hT8.2.1 (Or.inl H4.out)
          have hr8 := HB.out.ext hb8
          have o0 := h38.cell 0
          have o1 := h38.cell 1
          have o2 := h38.cell 2
          have l3 := h38.lt
          have r0 := hr8.cell 0
          have lr := hr8.lt
          have d0 := (hb8.cell (p := ⟨bb, off + kj * 4, none⟩) HD.out.1).trans HD.out.2.1; have d1 := (hb8.cell (p := ⟨bb, off + kj * 4 + 1, none⟩) HD.out.1).trans HD.out.2.2.1; have d2 := (hb8.cell (p := ⟨bb, off + kj * 4 + 2, none⟩) HD.out.1).trans HD.out.2.2.2.1; have d3 := (hb8.cell (p := ⟨bb, off + kj * 4 + 3, none⟩) HD.out.1).trans HD.out.2.2.2.2; have a2 := (hb8.cell (p := ⟨ab, ao + j * 5 + 2, none⟩) HEE.out.1).trans HEE.out.2
          simp only [List.getElem?_toArray, List.getElem?_cons_zero, List.getElem?_cons_succ] at o0 o1 o2 r0
          clear h38 hr8
          first
            | (intro K hK
               clear hz8
               rw [if_pos (by rfl)]; simp only [overlay, upd, cond_true, cond_false, List.getD_cons_zero, List.getD_cons_succ, Nat.reduceEqDiff, reduceIte]
               go_simp
               first
                 | exact hK.out _ _ (StW.of (Below.refl _ _)) rfl
                 | ((with_reducible refine (HEE.out _ hb8).mono ?_); rintro e wa ⟨rfl, hba⟩; go_wp2_with fail; exact hK.out _ _ (StW.of hba) rfl))
            | (intro K hK
               rcases hz8 with hz8 | hz8
               all_goals
                 obtain ⟨w3, rfl, lt⟩ := blk_put hz8
                 obtain ⟨pc, pf, pS⟩ := putBlk_facts (w := w3) 101 lt
                 rw [if_pos (by rfl)]; simp only [overlay, upd, cond_true, cond_false, List.getD_cons_zero, List.getD_cons_succ, Nat.reduceEqDiff, reduceIte]
                 go_simp
                 exact hK.out undef _ (StW.put lt) (putBlk_blk _ _ lt))
            | (intro v hv K hK
               clear hz8
               rw [if_pos (by rfl)]; simp only [overlay, upd, cond_true, cond_false, List.getD_cons_zero, List.getD_cons_succ, Nat.reduceEqDiff, reduceIte]
               go_simp
               exact hK.out _ _ (StW.of (Below.refl _ _)) rfl)
            | (intro v hv v' hv' K hK
               clear hz8
               rw [if_pos (by rfl)]; simp only [overlay, upd, cond_true, cond_false, List.getD_cons_zero, List.getD_cons_succ, Nat.reduceEqDiff, reduceIte]
               go_simp
               exact hK.out _ _ (StW.of (Below.refl _ _)) rfl)
end Go.Proofs.YtgklopgeimjgiaaGreatDoor
