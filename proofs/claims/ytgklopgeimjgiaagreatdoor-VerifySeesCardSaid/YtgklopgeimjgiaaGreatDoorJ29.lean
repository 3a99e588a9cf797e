/- Several texts in one: see each part's head. -/
import Derived.Test.YtgklopgeimjgiaaGreatDoorJ28
/- VerifySees: the reference's at: where a row stands, or would (atI). -/
namespace Go.Proofs.YtgklopgeimjgiaaGreatDoor
open Go.RowKit

theorem at_stop {pl : Rw → Nat × V} {p : Nat × V} : ∀ (l : List Rw) (j : Nat), (∀ i y, i < j → l[i]? = some y → pLess (pl y) p = true) → (l.length ≤ j ∨ ∃ y, l[j]? = some y ∧ pLess (pl y) p = false) → j ≤ l.length → atI pl l p = j
  | [], j, _, _, h => by simp at h; subst h; rfl
  | a :: r, 0, _, h, _ => by
    rcases h with h | ⟨y, hy, hf⟩
    · simp at h
    · simp only [List.getElem?_cons_zero, Option.some.injEq] at hy
      subst hy
      rw [atI_cons, hf]; rfl
  | a :: r, j + 1, h1, h2, h3 => by
    rw [atI_cons, h1 0 a (by omega) rfl, if_pos rfl, at_stop r j (fun i y hi hy => h1 (i + 1) y (by omega) (by simpa using hy)) ?_ (by simpa using h3)]
    rcases h2 with h | ⟨y, hy, hf⟩
    · left; simpa using h
    · right; exact ⟨y, by simpa using hy, hf⟩
theorem pLess_lt {us : List Ta} {y : Rw} {t : Nat} {k : V} (h : y.1 < t) : pLess (plN us y) (t, k) = true := by
  unfold pLess lexL plN
  simp only
  rw [decide_eq_true (by omega : (y.1 : Int) < t)]; rfl
theorem pLess_gt {us : List Ta} {y : Rw} {t : Nat} {k : V} (h : t < y.1) : pLess (plN us y) (t, k) = false := by
  unfold pLess lexL plN
  simp only
  rw [decide_eq_false (by omega : ¬ (y.1 : Int) < t), decide_eq_true (by omega : (t : Int) < y.1)]; rfl
theorem pLess_at {us : List Ta} {y : Rw} {t : Nat} {k : V} (h : y.1 = t) : pLess (plN us y) (t, k) = vLess (keyN us y.1 y.2) k := by
  unfold pLess lexL plN
  simp only
  rw [decide_eq_false (by omega : ¬ (y.1 : Int) < t), decide_eq_false (by omega : ¬ (t : Int) < y.1)]; simp
set_option maxRecDepth 100000 in
theorem eql_V (k n r : Int) (t : ByteArray) (k' n' r' : Int) (t' : ByteArray) (w : World) : (binOp .eql 49 (.agg #[.int .u8 k, .int .i64 n, .int .u64 r, .string t]) (.agg #[.int .u8 k', .int .i64 n', .int .u64 r', .string t'])).run Tryz.prog w = .ok (.bool (decide ((⟨k, n, r, t⟩ : V) = ⟨k', n', r', t'⟩))) w := by
  by_cases h : (⟨k, n, r, t⟩ : V) = ⟨k', n', r', t'⟩
  · rw [decide_eq_true h]
    injection h with h1 h2 h3 h4
    subst h1; subst h2; subst h3; subst h4
    go_simp
  · rw [decide_eq_false h]
    go_simp
    rintro rfl rfl rfl ht
    exact h (by rw [toList_inj ht])
variable {us : List Ta} {x : Nat} {A G : Option Addr} {c gc : Nat} {tn : Int} {its : List It} {lo : Nat} {w w' : World}
def AtP (us : List Ta) (l : List Rw) (p : Nat × V) (q : Ending) : Prop := ∃ b, q = .returned (.tuple #[.int .i64 (atI (plN us) l p), .bool b]) ∧ (b = true ↔ HasP (plN us) l p)
set_option maxRecDepth 100000 in
set_option maxHeartbeats 6400000 in
theorem refat_any (h : RefR us x A c G gc tn its lo w) (t : Nat) (key : V) (hk : key.wf) :
    Calls Tryz.prog 45 #[.pointer (some ⟨x, 0, none⟩), .int .i64 t, key.agg] w fun q w' => AtP us (its.map It.x) (t, key) q ∧ Below w.heap.size w w' := by
  have HR := Lib.hid h
  have HAT := Lib.hid (at_has (pl := plN us) (p := (t, key)) h.i.ris)
  have HLS := Lib.hid (fun (i : It) (hi : i ∈ its) (W : World) => refvless_any (keyN us i.x.1 i.x.2) key W (rowS_ok (h.i.fit i.x (List.mem_map_of_mem hi)).1 (h.i.fit i.x (List.mem_map_of_mem hi)).2).1 hk)
  have HKY := Lib.hid (fun (i : It) (hi : i ∈ its) (W : World) (hW : Below w.heap.size w W) => refkey_any (h.ext hW) i.x.1 i.A i.c i.x.2 ((h.e i hi).ext hW).vrow (h.i.fit i.x (List.mem_map_of_mem hi)).1)
  have hlen : its.length ≤ 200 := by have := h.i.few; simpa using this
  clear h hk
  obtain ⟨kk, kn, kr, kt⟩ := key
  unfold V.agg at HLS ⊢
  simp only at HLS ⊢
  go_enter Tryz.func45, Tryz.ntmps45
  go_upto_block 0 with fail
  have h5 := Blk.new w #[.int .u8 kk, .int .i64 kn, .int .u64 kr, .string kt] 49
  have hC : Below w.heap.size w (w.alloc (.cells #[.int .u8 kk, .int .i64 kn, .int .u64 kr, .string kt] 49)) := (by repeat (first | exact Below.refl _ _ | assumption | refine Below.drew ?_ | refine below_drewN ?_ _ | refine Below.alloc ?_ (by simp <;> omega) _))
  have H5 := Lib.hid h5
  have HC := Lib.hid hC
  clear h5 hC
  generalize w.alloc (.cells #[.int .u8 kk, .int .i64 kn, .int .u64 kr, .string kt] 49) = W0 at H5 HC ⊢
  generalize hB5 : w.heap.size = B5 at H5 ⊢
  clear hB5
  go_cut [8] (fun v wx => v = .int .i64 (atI (plN us) (its.map It.x) (t, ⟨kk, kn, kr, kt⟩)) ∧ Hid (Below W0.heap.size W0 wx))
  case first =>
    go_wp2_with fail
    go_loopw [8] (fun i wr => ∃ j : Nat, j ≤ its.length ∧ i = .int .i64 j ∧ Hid (∀ i y, i < j → (its.map It.x)[i]? = some y → pLess (plN us y) (t, ⟨kk, kn, kr, kt⟩) = true) ∧ Hid (Below W0.heap.size W0 wr)) (fun i _ => its.length - (intOf i).toNat)
    case atStart => exact ⟨0, by omega, rfl, fun i y hi => by omega, Below.refl _ _⟩
    case round =>
      obtain ⟨j, hj, rfl, HJ, HW⟩ := hrel
      have HB5 := Lib.hid (bt HC.out HW.out)
      have H5 := Lib.hid (H5.out.ext HW.out)
      by_cases hlt : j < its.length
      · obtain ⟨it, hit⟩ : ∃ it, its[j]? = some it := ⟨_, List.getElem?_eq_getElem hlt⟩
        have him := List.mem_of_getElem? hit
        obtain ⟨g, rfl, hgl, hg0, hg1⟩ := HR.out.at_ hit
        have hy : (its.map It.x)[j]? = some it.x := by rw [List.getElem?_map, hit]; rfl
        have i0 : (j : Int) < its.length := by omega
        have HG := Lib.hid (And.intro hgl (And.intro hg0 hg1))
        clear hgl hg0 hg1
        by_cases h1 : it.x.1 < t
        · have hp := pLess_lt (us := us) (k := ⟨kk, kn, kr, kt⟩) h1
          have HJ2 : Hid (∀ i y, i < j + 1 → (its.map It.x)[i]? = some y → pLess (plN us y) (t, ⟨kk, kn, kr, kt⟩) = true) := fun i y hi hy' => by
            by_cases e : i = j
            · subst e; rw [hy, Option.some.injEq] at hy'; subst hy'; exact hp
            · exact HJ.out i y (by omega) hy'
          have q1 : (it.x.1 : Int) < t := by omega
          clear h1 hp hy hit
          go_upto_region 2 with fail
          refine region_grow [false, false, false, false, false, false, false, false, false, true, true, true, true, true, true, true, true, true, true, true, true, true, true, true, true, true, true, true, true, true, true, true, true, true, true, true, true, true, true, true, true, true, true, true, true, true, true, true, true, true, true, true, true, false, false, false, false, false, false, false, false, false, false, false, false, false, false, false, false, false, false, false, false, false, false, false, false, false, false, false, false, false, false, false, false, false, false, false] [9, 10, 11, 12, 13, 14, 15, 16, 17, 18, 19, 20, 21, 22, 23, 24, 25, 26, 27, 28, 29, 30, 31, 32, 33, 34, 35, 36, 37, 38, 39, 40, 41, 42, 43, 44, 45, 46, 47, 48, 49, 50, 51, 52] [.val (.int .i64 j), .val (.pointer (some ⟨x, 0, none⟩)), .val (.pointer (some ⟨x, 0, none⟩)), .val (.pointer (some ⟨x, 1, none⟩)), .val (.slice (some ⟨g, 0, none⟩) its.length gc), .val (.int .i64 its.length), .val (.bool true), .val (.bool true), .val (.pointer (some ⟨x, 0, none⟩)), .val (.pointer (some ⟨x, 0, none⟩)), .val (.pointer (some ⟨x, 1, none⟩)), .val (.slice (some ⟨g, 0, none⟩) its.length gc), .val (.int .i64 j), .val (.pointer (some ⟨g, j * 2, none⟩)), .val (.pointer (some ⟨g, j * 2, none⟩)), .val (.int .i64 it.x.1), .val (.int .i64 t), .val (.bool true), .val (.bool true), .val undef, .val undef, .val undef, .val undef, .val undef, .val undef, .val undef, .val undef, .val undef, .val undef, .val undef, .val undef, .val undef, .val undef, .val undef, .val undef, .val undef, .val undef, .val undef, .val undef, .val undef, .val undef, .val undef, .val (.bool true), .val (.bool true)] [43] (by kernel_rfl) (by kernel_rfl) (by kernel_rfl) (by kernel_rfl) (by kernel_rfl) ⟨?_, ?_, ?_, ?_, ?_, ?_, ?_, ?_, ?_, ?_, ?_, ?_, ?_, ?_, ?_, ?_, ?_, ?_, ?_, ?_, ?_, ?_, ?_, ?_, ?_, ?_, ?_, ?_, ?_, ?_, ?_, ?_, ?_, ?_, ?_, ?_, ?_, ?_, ?_, ?_, ?_, ?_, ?_, ?_, trivial⟩ ?done
          case done =>
            intro x9 w5 hb5
            simp only [StepGoal, overlay, upd, cond_true, cond_false, List.getD_cons_zero, List.getD_cons_succ, Nat.zero_add, Nat.reduceAdd, Nat.reduceEqDiff, reduceIte]
            go_wp2_with fail
            go_roundw
            case rel => exact ⟨j + 1, by omega, by go_num, HJ2, bt HW.out hb5⟩
            case measure => simp [intOf]; omega
          all_goals
            intro x9 w8 hT8
            intro K hK
            have hb8 := bt HB5.out hT8
            have h58 := H5.out.ext hT8
            have hr8 := HR.out.ext hb8
            have hx8 := hr8.b
            have o0 := h58.cell 0
            have o1 := h58.cell 1
            have o2 := h58.cell 2
            have o3 := h58.cell 3
            have l5 := h58.lt
            have r1 := hx8.cell 1
            have lr := hx8.lt
            have g0 := (hb8.cell (p := ⟨g, j * 2, none⟩) HG.out.1).trans HG.out.2.1; have g1 := (hb8.cell (p := ⟨g, j * 2 + 1, none⟩) HG.out.1).trans HG.out.2.2
            simp only [List.getElem?_toArray, List.getElem?_cons_zero, List.getElem?_cons_succ] at o0 o1 o2 o3 r1
            clear h58 hx8 hr8
            first
              | (rw [if_neg (by exact Bool.false_ne_true)]; exact hK.out _ _ (Below.refl _ _) rfl)
              | (rw [if_pos (by rfl)]; simp only [overlay, upd, cond_true, cond_false, List.getD_cons_zero, List.getD_cons_succ, Nat.reduceEqDiff, reduceIte]
                 go_simp
                 first
                   | exact hK.out _ _ (Below.refl _ _) rfl
                   | ((with_reducible refine (null_any _).mono ?_); rintro e wa ⟨rfl, hba⟩; go_wp2_with fail; exact hK.out _ _ hba rfl)
                   | ((with_reducible refine (null_any _).mono ?_); rintro e wa ⟨rfl, hba⟩; go_wp2_with fail; exact hK.out _ _ hba rfl))
        · by_cases h2 : it.x.1 = t
          · have hp := pLess_at (us := us) (k := ⟨kk, kn, kr, kt⟩) h2
            have HKK := Lib.hid (HKY.out it him)
            have HLL := Lib.hid (HLS.out it him)
            obtain ⟨key2, hkey2⟩ : ∃ q, q = keyN us it.x.1 it.x.2 := ⟨_, rfl⟩
            rw [← hkey2] at hp HKK HLL
            clear hkey2
            obtain ⟨ik, in', ir, is⟩ := key2
            unfold V.agg at HKK
            simp only at HKK HLL
            generalize vLess ⟨ik, in', ir, is⟩ ⟨kk, kn, kr, kt⟩ = VL at hp HLL
            have q1 : ¬ (it.x.1 : Int) < t := by omega
            have q2 : ((it.x.1 : Int) == t) = true := by simp [h2]
            have HRES : Hid ((VL = true → ∀ i y, i < j + 1 → (its.map It.x)[i]? = some y → pLess (plN us y) (t, ⟨kk, kn, kr, kt⟩) = true) ∧ (VL = false → atI (plN us) (its.map It.x) (t, ⟨kk, kn, kr, kt⟩) = j)) := by
              refine ⟨fun e i y hi hy' => ?_, fun e => at_stop _ _ HJ.out (Or.inr ⟨_, hy, hp.trans e⟩) (by simpa using hj)⟩
              by_cases e2 : i = j
              · subst e2; rw [hy, Option.some.injEq] at hy'; subst hy'; exact hp.trans e
              · exact HJ.out i y (by omega) hy'
            clear h1 h2 hp hy hit HKY HLS
            go_upto_region 2 with fail
            refine region_grow [false, false, false, false, false, false, false, false, false, true, true, true, true, true, true, true, true, true, true, true, true, true, true, true, true, true, true, true, true, true, true, true, true, true, true, true, true, true, true, true, true, true, true, true, true, true, true, true, true, true, true, true, true, false, false, false, false, false, false, false, false, false, false, false, false, false, false, false, false, false, false, false, false, false, false, false, false, false, false, false, false, false, false, false, false, false, false, false] [9, 10, 11, 12, 13, 14, 15, 16, 17, 18, 19, 20, 21, 22, 23, 24, 25, 26, 27, 28, 29, 30, 31, 32, 33, 34, 35, 36, 37, 38, 39, 40, 41, 42, 43, 44, 45, 46, 47, 48, 49, 50, 51, 52] [.val (.int .i64 j), .val (.pointer (some ⟨x, 0, none⟩)), .val (.pointer (some ⟨x, 0, none⟩)), .val (.pointer (some ⟨x, 1, none⟩)), .val (.slice (some ⟨g, 0, none⟩) its.length gc), .val (.int .i64 its.length), .val (.bool true), .val (.bool true), .val (.pointer (some ⟨x, 0, none⟩)), .val (.pointer (some ⟨x, 0, none⟩)), .val (.pointer (some ⟨x, 1, none⟩)), .val (.slice (some ⟨g, 0, none⟩) its.length gc), .val (.int .i64 j), .val (.pointer (some ⟨g, j * 2, none⟩)), .val (.pointer (some ⟨g, j * 2, none⟩)), .val (.int .i64 it.x.1), .val (.int .i64 t), .val (.bool false), .val (.bool false), .val (.pointer (some ⟨x, 0, none⟩)), .val (.pointer (some ⟨x, 0, none⟩)), .val (.pointer (some ⟨x, 1, none⟩)), .val (.slice (some ⟨g, 0, none⟩) its.length gc), .val (.int .i64 j), .val (.pointer (some ⟨g, j * 2, none⟩)), .val (.pointer (some ⟨g, j * 2, none⟩)), .val (.int .i64 it.x.1), .val (.int .i64 t), .val (.bool true), .val (.bool true), .val (.pointer (some ⟨x, 0, none⟩)), .val (.pointer (some ⟨x, 0, none⟩)), .val (.pointer (some ⟨x, 0, none⟩)), .val (.pointer (some ⟨x, 1, none⟩)), .val (.slice (some ⟨g, 0, none⟩) its.length gc), .val (.int .i64 j), .val (.pointer (some ⟨g, j * 2, none⟩)), .val (.agg #[.int .i64 it.x.1, .slice it.A it.x.2.length it.c]), .val (.agg #[.int .u8 ik, .int .i64 in', .int .u64 ir, .string is]), .val (.agg #[.int .u8 kk, .int .i64 kn, .int .u64 kr, .string kt]), .val (.bool VL), .val (.bool VL), .val (.bool VL), .val (.bool VL)] [43] (by kernel_rfl) (by kernel_rfl) (by kernel_rfl) (by kernel_rfl) (by kernel_rfl) ⟨?_, ?_, ?_, ?_, ?_, ?_, ?_, ?_, ?_, ?_, ?_, ?_, ?_, ?_, ?_, ?_, ?_, ?_, ?_, ?_, ?_, ?_, ?_, ?_, ?_, ?_, ?_, ?_, ?_, ?_, ?_, ?_, ?_, ?_, ?_, ?_, ?_, ?_, ?_, ?_, ?_, ?_, ?_, ?_, trivial⟩ ?done
            case done =>
              intro x9 w5 hb5
              simp only [StepGoal, overlay, upd, cond_true, cond_false, List.getD_cons_zero, List.getD_cons_succ, Nat.zero_add, Nat.reduceAdd, Nat.reduceEqDiff, reduceIte]
              cases VL
              · have HA := Lib.hid (HRES.out.2 rfl)
                go_wp2_with fail
                go_meet
                exact ⟨by rw [HA.out], bt HW.out hb5⟩
              · have HA := Lib.hid (HRES.out.1 rfl)
                go_wp2_with fail
                go_roundw
                case rel => exact ⟨j + 1, by omega, by go_num, HA.out, bt HW.out hb5⟩
                case measure => simp [intOf]; omega
            all_goals
              intro x9 w8 hT8
              intro K hK
              have hb8 := bt HB5.out hT8
              have h58 := H5.out.ext hT8
              have hr8 := HR.out.ext hb8
              have hx8 := hr8.b
              have o0 := h58.cell 0
              have o1 := h58.cell 1
              have o2 := h58.cell 2
              have o3 := h58.cell 3
              have l5 := h58.lt
              have r1 := hx8.cell 1
              have lr := hx8.lt
              have g0 := (hb8.cell (p := ⟨g, j * 2, none⟩) HG.out.1).trans HG.out.2.1; have g1 := (hb8.cell (p := ⟨g, j * 2 + 1, none⟩) HG.out.1).trans HG.out.2.2
              simp only [List.getElem?_toArray, List.getElem?_cons_zero, List.getElem?_cons_succ] at o0 o1 o2 o3 r1
              clear h58 hx8 hr8
              first
                | (rw [if_neg (by exact Bool.false_ne_true)]; exact hK.out _ _ (Below.refl _ _) rfl)
                | (rw [if_pos (by rfl)]; simp only [overlay, upd, cond_true, cond_false, List.getD_cons_zero, List.getD_cons_succ, Nat.reduceEqDiff, reduceIte]
                   go_simp
                   first
                     | exact hK.out _ _ (Below.refl _ _) rfl
                     | ((with_reducible refine (HKK.out _ hb8).mono ?_); rintro e wa ⟨rfl, hba⟩; go_wp2_with fail; exact hK.out _ _ hba rfl)
                     | ((with_reducible refine (HLL.out _).mono ?_); rintro e wa ⟨rfl, hba⟩; go_wp2_with fail; exact hK.out _ _ hba rfl))
          · have HA : Hid (atI (plN us) (its.map It.x) (t, ⟨kk, kn, kr, kt⟩) = j) := at_stop _ _ HJ.out (Or.inr ⟨_, hy, pLess_gt (by omega)⟩) (by simpa using hj)
            have q1 : ¬ (it.x.1 : Int) < t := by omega
            have q2 : ((it.x.1 : Int) == t) = false := by rw [beq_eq_false_iff_ne]; omega
            clear h1 h2 hy hit
            go_upto_region 2 with fail
            refine region_grow [false, false, false, false, false, false, false, false, false, true, true, true, true, true, true, true, true, true, true, true, true, true, true, true, true, true, true, true, true, true, true, true, true, true, true, true, true, true, true, true, true, true, true, true, true, true, true, true, true, true, true, true, true, false, false, false, false, false, false, false, false, false, false, false, false, false, false, false, false, false, false, false, false, false, false, false, false, false, false, false, false, false, false, false, false, false, false, false] [9, 10, 11, 12, 13, 14, 15, 16, 17, 18, 19, 20, 21, 22, 23, 24, 25, 26, 27, 28, 29, 30, 31, 32, 33, 34, 35, 36, 37, 38, 39, 40, 41, 42, 43, 44, 45, 46, 47, 48, 49, 50, 51, 52] [.val (.int .i64 j), .val (.pointer (some ⟨x, 0, none⟩)), .val (.pointer (some ⟨x, 0, none⟩)), .val (.pointer (some ⟨x, 1, none⟩)), .val (.slice (some ⟨g, 0, none⟩) its.length gc), .val (.int .i64 its.length), .val (.bool true), .val (.bool true), .val (.pointer (some ⟨x, 0, none⟩)), .val (.pointer (some ⟨x, 0, none⟩)), .val (.pointer (some ⟨x, 1, none⟩)), .val (.slice (some ⟨g, 0, none⟩) its.length gc), .val (.int .i64 j), .val (.pointer (some ⟨g, j * 2, none⟩)), .val (.pointer (some ⟨g, j * 2, none⟩)), .val (.int .i64 it.x.1), .val (.int .i64 t), .val (.bool false), .val (.bool false), .val (.pointer (some ⟨x, 0, none⟩)), .val (.pointer (some ⟨x, 0, none⟩)), .val (.pointer (some ⟨x, 1, none⟩)), .val (.slice (some ⟨g, 0, none⟩) its.length gc), .val (.int .i64 j), .val (.pointer (some ⟨g, j * 2, none⟩)), .val (.pointer (some ⟨g, j * 2, none⟩)), .val (.int .i64 it.x.1), .val (.int .i64 t), .val (.bool false), .val (.bool false), .val undef, .val undef, .val undef, .val undef, .val undef, .val undef, .val undef, .val undef, .val undef, .val undef, .val undef, .val (.bool false), .val (.bool false), .val (.bool false)] [43] (by kernel_rfl) (by kernel_rfl) (by kernel_rfl) (by kernel_rfl) (by kernel_rfl) ⟨?_, ?_, ?_, ?_, ?_, ?_, ?_, ?_, ?_, ?_, ?_, ?_, ?_, ?_, ?_, ?_, ?_, ?_, ?_, ?_, ?_, ?_, ?_, ?_, ?_, ?_, ?_, ?_, ?_, ?_, ?_, ?_, ?_, ?_, ?_, ?_, ?_, ?_, ?_, ?_, ?_, ?_, ?_, ?_, trivial⟩ ?done
            case done =>
              intro x9 w5 hb5
              simp only [StepGoal, overlay, upd, cond_true, cond_false, List.getD_cons_zero, List.getD_cons_succ, Nat.zero_add, Nat.reduceAdd, Nat.reduceEqDiff, reduceIte]
              go_wp2_with fail
              go_meet
              exact ⟨by rw [HA.out], bt HW.out hb5⟩
            all_goals
              intro x9 w8 hT8
              intro K hK
              have hb8 := bt HB5.out hT8
              have h58 := H5.out.ext hT8
              have hr8 := HR.out.ext hb8
              have hx8 := hr8.b
              have o0 := h58.cell 0
              have o1 := h58.cell 1
              have o2 := h58.cell 2
              have o3 := h58.cell 3
              have l5 := h58.lt
              have r1 := hx8.cell 1
              have lr := hx8.lt
              have g0 := (hb8.cell (p := ⟨g, j * 2, none⟩) HG.out.1).trans HG.out.2.1; have g1 := (hb8.cell (p := ⟨g, j * 2 + 1, none⟩) HG.out.1).trans HG.out.2.2
              simp only [List.getElem?_toArray, List.getElem?_cons_zero, List.getElem?_cons_succ] at o0 o1 o2 o3 r1
              clear h58 hx8 hr8
              first
                | (rw [if_neg (by exact Bool.false_ne_true)]; exact hK.out _ _ (Below.refl _ _) rfl)
                | (rw [if_pos (by rfl)]; simp only [overlay, upd, cond_true, cond_false, List.getD_cons_zero, List.getD_cons_succ, Nat.reduceEqDiff, reduceIte]
                   go_simp
                   first
                     | exact hK.out _ _ (Below.refl _ _) rfl
                     | ((with_reducible refine (null_any _).mono ?_); rintro e wa ⟨rfl, hba⟩; go_wp2_with fail; exact hK.out _ _ hba rfl)
                     | ((with_reducible refine (null_any _).mono ?_); rintro e wa ⟨rfl, hba⟩; go_wp2_with fail; exact hK.out _ _ hba rfl))
      · have HA : Hid (atI (plN us) (its.map It.x) (t, ⟨kk, kn, kr, kt⟩) = j) := at_stop _ _ HJ.out (Or.inl (by rw [List.length_map]; omega)) (by simpa using hj)
        have i0 : ¬ (j : Int) < its.length := by omega
        go_upto_region 2 with fail
        refine region_grow [false, false, false, false, false, false, false, false, false, true, true, true, true, true, true, true, true, true, true, true, true, true, true, true, true, true, true, true, true, true, true, true, true, true, true, true, true, true, true, true, true, true, true, true, true, true, true, true, true, true, true, true, true, false, false, false, false, false, false, false, false, false, false, false, false, false, false, false, false, false, false, false, false, false, false, false, false, false, false, false, false, false, false, false, false, false, false, false] [9, 10, 11, 12, 13, 14, 15, 16, 17, 18, 19, 20, 21, 22, 23, 24, 25, 26, 27, 28, 29, 30, 31, 32, 33, 34, 35, 36, 37, 38, 39, 40, 41, 42, 43, 44, 45, 46, 47, 48, 49, 50, 51, 52] [.val (.int .i64 j), .val (.pointer (some ⟨x, 0, none⟩)), .val (.pointer (some ⟨x, 0, none⟩)), .val (.pointer (some ⟨x, 1, none⟩)), .val (.slice G its.length gc), .val (.int .i64 its.length), .val (.bool false), .val (.bool false), .val undef, .val undef, .val undef, .val undef, .val undef, .val undef, .val undef, .val undef, .val undef, .val undef, .val undef, .val undef, .val undef, .val undef, .val undef, .val undef, .val undef, .val undef, .val undef, .val undef, .val undef, .val undef, .val undef, .val undef, .val undef, .val undef, .val undef, .val undef, .val undef, .val undef, .val undef, .val undef, .val undef, .val undef, .val undef, .val (.bool false)] [43] (by kernel_rfl) (by kernel_rfl) (by kernel_rfl) (by kernel_rfl) (by kernel_rfl) ⟨?_, ?_, ?_, ?_, ?_, ?_, ?_, ?_, ?_, ?_, ?_, ?_, ?_, ?_, ?_, ?_, ?_, ?_, ?_, ?_, ?_, ?_, ?_, ?_, ?_, ?_, ?_, ?_, ?_, ?_, ?_, ?_, ?_, ?_, ?_, ?_, ?_, ?_, ?_, ?_, ?_, ?_, ?_, ?_, trivial⟩ ?done
        case done =>
          intro x9 w5 hb5
          simp only [StepGoal, overlay, upd, cond_true, cond_false, List.getD_cons_zero, List.getD_cons_succ, Nat.zero_add, Nat.reduceAdd, Nat.reduceEqDiff, reduceIte]
          go_wp2_with fail
          go_meet
          exact ⟨by rw [HA.out], bt HW.out hb5⟩
        all_goals
          intro x9 w8 hT8
          intro K hK
          have hb8 := bt HB5.out hT8
          have h58 := H5.out.ext hT8
          have hr8 := HR.out.ext hb8
          have hx8 := hr8.b
          have o0 := h58.cell 0
          have o1 := h58.cell 1
          have o2 := h58.cell 2
          have o3 := h58.cell 3
          have l5 := h58.lt
          have r1 := hx8.cell 1
          have lr := hx8.lt
          skip
          simp only [List.getElem?_toArray, List.getElem?_cons_zero, List.getElem?_cons_succ] at o0 o1 o2 o3 r1
          clear h58 hx8 hr8
          first
            | (rw [if_neg (by exact Bool.false_ne_true)]; exact hK.out _ _ (Below.refl _ _) rfl)
            | (rw [if_pos (by rfl)]; simp only [overlay, upd, cond_true, cond_false, List.getD_cons_zero, List.getD_cons_succ, Nat.reduceEqDiff, reduceIte]
               go_simp
               first
                 | exact hK.out _ _ (Below.refl _ _) rfl
                 | ((with_reducible refine (null_any _).mono ?_); rintro e wa ⟨rfl, hba⟩; go_wp2_with fail; exact hK.out _ _ hba rfl)
                 | ((with_reducible refine (null_any _).mono ?_); rintro e wa ⟨rfl, hba⟩; go_wp2_with fail; exact hK.out _ _ hba rfl))
  case rest =>
    obtain ⟨rfl, HW⟩ := hcut
    rename World => wr
    have HB5 := Lib.hid (bt HC.out HW.out)
    have H5 := Lib.hid (H5.out.ext HW.out)
    have HJL : Hid (atI (plN us) (its.map It.x) (t, ⟨kk, kn, kr, kt⟩) ≤ its.length) := by show _ ≤ _; have := atI_le (pl := plN us) (p := (t, ⟨kk, kn, kr, kt⟩)) (its.map It.x); simpa using this
    obtain ⟨j, hje⟩ : ∃ j, j = atI (plN us) (its.map It.x) (t, ⟨kk, kn, kr, kt⟩) := ⟨_, rfl⟩
    have HJE : Hid (∀ b : Bool, Ending.returned (.tuple #[.int .i64 j, .bool b]) = .returned (.tuple #[.int .i64 (atI (plN us) (its.map It.x) (t, ⟨kk, kn, kr, kt⟩)), .bool b])) := fun b => by rw [hje]
    rw [← hje] at HAT HJL ⊢
    clear hje
    have HJL' : j ≤ its.length := HJL.out
    by_cases hlt : j < its.length
    · obtain ⟨it, hit⟩ : ∃ it, its[j]? = some it := ⟨_, List.getElem?_eq_getElem hlt⟩
      have him := List.mem_of_getElem? hit
      obtain ⟨g, rfl, hgl, hg0, hg1⟩ := HR.out.at_ hit
      have hy : (its.map It.x)[j]? = some it.x := by rw [List.getElem?_map, hit]; rfl
      have i0 : (j : Int) < its.length := by omega
      have HG := Lib.hid (And.intro hgl (And.intro hg0 hg1))
      have HHP : Hid (HasP (plN us) (its.map It.x) (t, ⟨kk, kn, kr, kt⟩) ↔ plN us it.x = (t, ⟨kk, kn, kr, kt⟩)) := by
        show _ ↔ _
        rw [HAT.out, hy]
        exact ⟨fun ⟨y, e, h⟩ => by rw [Option.some.injEq] at e; subst e; exact h, fun h => ⟨_, rfl, h⟩⟩
      clear hgl hg0 hg1 hy hit HAT
      by_cases h2 : it.x.1 = t
      · have HKK := Lib.hid (HKY.out it him)
        obtain ⟨key2, hkey2⟩ : ∃ q, q = keyN us it.x.1 it.x.2 := ⟨_, rfl⟩
        rw [← hkey2] at HKK
        have HPP : Hid (plN us it.x = (t, ⟨kk, kn, kr, kt⟩) ↔ key2 = ⟨kk, kn, kr, kt⟩) := by
          show _ ↔ _
          unfold plN
          rw [← hkey2, Prod.mk.injEq]
          exact ⟨fun h => h.2, fun h => ⟨h2, h⟩⟩
        clear hkey2
        obtain ⟨ik, in', ir, is⟩ := key2
        unfold V.agg at HKK
        simp only at HKK
        have heq := eql_V ik in' ir is kk kn kr kt
        obtain ⟨EQ, hEQ⟩ : ∃ q, q = decide ((⟨ik, in', ir, is⟩ : V) = ⟨kk, kn, kr, kt⟩) := ⟨_, rfl⟩
        rw [← hEQ] at heq
        have HRES : Hid (EQ = true ↔ HasP (plN us) (its.map It.x) (t, ⟨kk, kn, kr, kt⟩)) := by
          show _ ↔ _
          rw [HHP.out, HPP.out, hEQ, decide_eq_true_eq]
        have q2 : ((it.x.1 : Int) == t) = true := by simp [h2]
        clear h2 hEQ HKY HLS
        go_upto_region 4 with fail
        refine region_grow [false, false, false, false, false, false, true, true, false, false, false, false, false, false, false, false, false, false, false, false, false, false, false, false, false, false, false, false, false, false, false, false, false, false, false, false, false, false, false, false, false, false, false, false, false, false, false, false, false, false, false, false, false, false, false, true, true, true, true, true, true, true, true, true, true, true, true, true, true, true, true, true, true, true, true, true, true, true, true, true, true, true, true, true, true, true, true, true] [55, 56, 57, 58, 59, 60, 61, 62, 63, 64, 65, 66, 67, 68, 69, 70, 71, 72, 73, 74, 75, 76, 77, 78, 79, 80, 81, 82, 83, 84, 85, 86, 87, 6, 7] [.val (.int .i64 j), .val (.int .i64 j), .val (.pointer (some ⟨x, 0, none⟩)), .val (.pointer (some ⟨x, 0, none⟩)), .val (.pointer (some ⟨x, 1, none⟩)), .val (.slice (some ⟨g, 0, none⟩) its.length gc), .val (.int .i64 its.length), .val (.bool true), .val (.bool true), .val (.pointer (some ⟨x, 0, none⟩)), .val (.pointer (some ⟨x, 0, none⟩)), .val (.pointer (some ⟨x, 1, none⟩)), .val (.slice (some ⟨g, 0, none⟩) its.length gc), .val (.int .i64 j), .val (.pointer (some ⟨g, j * 2, none⟩)), .val (.pointer (some ⟨g, j * 2, none⟩)), .val (.int .i64 it.x.1), .val (.int .i64 t), .val (.bool true), .val (.bool true), .val (.bool true), .val (.pointer (some ⟨x, 0, none⟩)), .val (.pointer (some ⟨x, 0, none⟩)), .val (.pointer (some ⟨x, 0, none⟩)), .val (.pointer (some ⟨x, 1, none⟩)), .val (.slice (some ⟨g, 0, none⟩) its.length gc), .val (.int .i64 j), .val (.pointer (some ⟨g, j * 2, none⟩)), .val (.agg #[.int .i64 it.x.1, .slice it.A it.x.2.length it.c]), .val (.agg #[.int .u8 ik, .int .i64 in', .int .u64 ir, .string is]), .val (.agg #[.int .u8 kk, .int .i64 kn, .int .u64 kr, .string kt]), .val (.bool EQ), .val (.bool EQ), .val (.int .i64 j), .val (.bool EQ)] [33, 34] (by kernel_rfl) (by kernel_rfl) (by kernel_rfl) (by kernel_rfl) (by kernel_rfl) ⟨?_, ?_, ?_, ?_, ?_, ?_, ?_, ?_, ?_, ?_, ?_, ?_, ?_, ?_, ?_, ?_, ?_, ?_, ?_, ?_, ?_, ?_, ?_, ?_, ?_, ?_, ?_, ?_, ?_, ?_, ?_, ?_, ?_, ?_, ?_, trivial⟩ ?done
        case done =>
          intro x9 w5 hb5
          simp only [StepGoal, overlay, upd, cond_true, cond_false, List.getD_cons_zero, List.getD_cons_succ, Nat.zero_add, Nat.reduceAdd, Nat.reduceEqDiff, reduceIte]
          go_wp2_with fail
          go_ret2
          exact ⟨⟨EQ, HJE.out _, HRES.out⟩, bt HB5.out hb5⟩
        all_goals
          intro x9 w8 hT8
          intro K hK
          have hb8 := bt HB5.out hT8
          have h58 := H5.out.ext hT8
          have hr8 := HR.out.ext hb8
          have hx8 := hr8.b
          have o0 := h58.cell 0
          have o1 := h58.cell 1
          have o2 := h58.cell 2
          have o3 := h58.cell 3
          have l5 := h58.lt
          have r1 := hx8.cell 1
          have lr := hx8.lt
          have g0 := (hb8.cell (p := ⟨g, j * 2, none⟩) HG.out.1).trans HG.out.2.1; have g1 := (hb8.cell (p := ⟨g, j * 2 + 1, none⟩) HG.out.1).trans HG.out.2.2
          simp only [List.getElem?_toArray, List.getElem?_cons_zero, List.getElem?_cons_succ] at o0 o1 o2 o3 r1
          clear h58 hx8 hr8
          first
            | (rw [if_neg (by exact Bool.false_ne_true)]; exact hK.out _ _ (Below.refl _ _) rfl)
            | (rw [if_pos (by rfl)]; simp only [overlay, upd, cond_true, cond_false, List.getD_cons_zero, List.getD_cons_succ, Nat.reduceEqDiff, reduceIte]
               go_simp
               first
                 | exact hK.out _ _ (Below.refl _ _) rfl
                 | ((with_reducible refine (HKK.out _ hb8).mono ?_); rintro e wa ⟨rfl, hba⟩; go_wp2_with fail; exact hK.out _ _ hba rfl)
                 | ((with_reducible refine (null_any _).mono ?_); rintro e wa ⟨rfl, hba⟩; go_wp2_with fail; exact hK.out _ _ hba rfl))
      · have q2 : ((it.x.1 : Int) == t) = false := by rw [beq_eq_false_iff_ne]; omega
        have HRES : Hid (¬ HasP (plN us) (its.map It.x) (t, ⟨kk, kn, kr, kt⟩)) := by
          show ¬ _
          rw [HHP.out]
          unfold plN
          rw [Prod.mk.injEq]
          exact fun h => h2 h.1
        clear h2 HKY HLS
        go_upto_region 4 with fail
        refine region_grow [false, false, false, false, false, false, true, true, false, false, false, false, false, false, false, false, false, false, false, false, false, false, false, false, false, false, false, false, false, false, false, false, false, false, false, false, false, false, false, false, false, false, false, false, false, false, false, false, false, false, false, false, false, false, false, true, true, true, true, true, true, true, true, true, true, true, true, true, true, true, true, true, true, true, true, true, true, true, true, true, true, true, true, true, true, true, true, true] [55, 56, 57, 58, 59, 60, 61, 62, 63, 64, 65, 66, 67, 68, 69, 70, 71, 72, 73, 74, 75, 76, 77, 78, 79, 80, 81, 82, 83, 84, 85, 86, 87, 6, 7] [.val (.int .i64 j), .val (.int .i64 j), .val (.pointer (some ⟨x, 0, none⟩)), .val (.pointer (some ⟨x, 0, none⟩)), .val (.pointer (some ⟨x, 1, none⟩)), .val (.slice (some ⟨g, 0, none⟩) its.length gc), .val (.int .i64 its.length), .val (.bool true), .val (.bool true), .val (.pointer (some ⟨x, 0, none⟩)), .val (.pointer (some ⟨x, 0, none⟩)), .val (.pointer (some ⟨x, 1, none⟩)), .val (.slice (some ⟨g, 0, none⟩) its.length gc), .val (.int .i64 j), .val (.pointer (some ⟨g, j * 2, none⟩)), .val (.pointer (some ⟨g, j * 2, none⟩)), .val (.int .i64 it.x.1), .val (.int .i64 t), .val (.bool false), .val (.bool false), .val (.bool false), .val undef, .val undef, .val undef, .val undef, .val undef, .val undef, .val undef, .val undef, .val undef, .val undef, .val undef, .val (.bool false), .val (.int .i64 j), .val (.bool false)] [33, 34] (by kernel_rfl) (by kernel_rfl) (by kernel_rfl) (by kernel_rfl) (by kernel_rfl) ⟨?_, ?_, ?_, ?_, ?_, ?_, ?_, ?_, ?_, ?_, ?_, ?_, ?_, ?_, ?_, ?_, ?_, ?_, ?_, ?_, ?_, ?_, ?_, ?_, ?_, ?_, ?_, ?_, ?_, ?_, ?_, ?_, ?_, ?_, ?_, trivial⟩ ?done
        case done =>
          intro x9 w5 hb5
          simp only [StepGoal, overlay, upd, cond_true, cond_false, List.getD_cons_zero, List.getD_cons_succ, Nat.zero_add, Nat.reduceAdd, Nat.reduceEqDiff, reduceIte]
          go_wp2_with fail
          go_ret2
          exact ⟨⟨false, HJE.out _, (fun h => by cases h), fun h => absurd h HRES.out⟩, bt HB5.out hb5⟩
        all_goals
          intro x9 w8 hT8
          intro K hK
          have hb8 := bt HB5.out hT8
          have h58 := H5.out.ext hT8
          have hr8 := HR.out.ext hb8
          have hx8 := hr8.b
          have o0 := h58.cell 0
          have o1 := h58.cell 1
          have o2 := h58.cell 2
          have o3 := h58.cell 3
          have l5 := h58.lt
          have r1 := hx8.cell 1
          have lr := hx8.lt
          have g0 := (hb8.cell (p := ⟨g, j * 2, none⟩) HG.out.1).trans HG.out.2.1; have g1 := (hb8.cell (p := ⟨g, j * 2 + 1, none⟩) HG.out.1).trans HG.out.2.2
          simp only [List.getElem?_toArray, List.getElem?_cons_zero, List.getElem?_cons_succ] at o0 o1 o2 o3 r1
          clear h58 hx8 hr8
          first
            | (rw [if_neg (by exact Bool.false_ne_true)]; exact hK.out _ _ (Below.refl _ _) rfl)
            | (rw [if_pos (by rfl)]; simp only [overlay, upd, cond_true, cond_false, List.getD_cons_zero, List.getD_cons_succ, Nat.reduceEqDiff, reduceIte]
               go_simp
               first
                 | exact hK.out _ _ (Below.refl _ _) rfl
                 | ((with_reducible refine (null_any _).mono ?_); rintro e wa ⟨rfl, hba⟩; go_wp2_with fail; exact hK.out _ _ hba rfl)
                 | ((with_reducible refine (null_any _).mono ?_); rintro e wa ⟨rfl, hba⟩; go_wp2_with fail; exact hK.out _ _ hba rfl))
    · have HRES : Hid (¬ HasP (plN us) (its.map It.x) (t, ⟨kk, kn, kr, kt⟩)) := by
        show ¬ _
        rw [HAT.out, List.getElem?_eq_none (by rw [List.length_map]; omega)]
        rintro ⟨y, h, _⟩; cases h
      have i0 : ¬ (j : Int) < its.length := by omega
      clear HKY HLS HAT
      go_upto_region 4 with fail
      refine region_grow [false, false, false, false, false, false, true, true, false, false, false, false, false, false, false, false, false, false, false, false, false, false, false, false, false, false, false, false, false, false, false, false, false, false, false, false, false, false, false, false, false, false, false, false, false, false, false, false, false, false, false, false, false, false, false, true, true, true, true, true, true, true, true, true, true, true, true, true, true, true, true, true, true, true, true, true, true, true, true, true, true, true, true, true, true, true, true, true] [55, 56, 57, 58, 59, 60, 61, 62, 63, 64, 65, 66, 67, 68, 69, 70, 71, 72, 73, 74, 75, 76, 77, 78, 79, 80, 81, 82, 83, 84, 85, 86, 87, 6, 7] [.val (.int .i64 j), .val (.int .i64 j), .val (.pointer (some ⟨x, 0, none⟩)), .val (.pointer (some ⟨x, 0, none⟩)), .val (.pointer (some ⟨x, 1, none⟩)), .val (.slice G its.length gc), .val (.int .i64 its.length), .val (.bool false), .val (.bool false), .val undef, .val undef, .val undef, .val undef, .val undef, .val undef, .val undef, .val undef, .val undef, .val undef, .val (.bool false), .val (.bool false), .val undef, .val undef, .val undef, .val undef, .val undef, .val undef, .val undef, .val undef, .val undef, .val undef, .val undef, .val (.bool false), .val (.int .i64 j), .val (.bool false)] [33, 34] (by kernel_rfl) (by kernel_rfl) (by kernel_rfl) (by kernel_rfl) (by kernel_rfl) ⟨?_, ?_, ?_, ?_, ?_, ?_, ?_, ?_, ?_, ?_, ?_, ?_, ?_, ?_, ?_, ?_, ?_, ?_, ?_, ?_, ?_, ?_, ?_, ?_, ?_, ?_, ?_, ?_, ?_, ?_, ?_, ?_, ?_, ?_, ?_, trivial⟩ ?done
      case done =>
        intro x9 w5 hb5
        simp only [StepGoal, overlay, upd, cond_true, cond_false, List.getD_cons_zero, List.getD_cons_succ, Nat.zero_add, Nat.reduceAdd, Nat.reduceEqDiff, reduceIte]
        go_wp2_with fail
        go_ret2
        exact ⟨⟨false, HJE.out _, (fun h => by cases h), fun h => absurd h HRES.out⟩, bt HB5.out hb5⟩
      all_goals
        intro x9 w8 hT8
        intro K hK
        have hb8 := bt HB5.out hT8
        have h58 := H5.out.ext hT8
        have hr8 := HR.out.ext hb8
        have hx8 := hr8.b
        have o0 := h58.cell 0
        have o1 := h58.cell 1
        have o2 := h58.cell 2
        have o3 := h58.cell 3
        have l5 := h58.lt
        have r1 := hx8.cell 1
        have lr := hx8.lt
        skip
        simp only [List.getElem?_toArray, List.getElem?_cons_zero, List.getElem?_cons_succ] at o0 o1 o2 o3 r1
        clear h58 hx8 hr8
        first
          | (rw [if_neg (by exact Bool.false_ne_true)]; exact hK.out _ _ (Below.refl _ _) rfl)
          | (rw [if_pos (by rfl)]; simp only [overlay, upd, cond_true, cond_false, List.getD_cons_zero, List.getD_cons_succ, Nat.reduceEqDiff, reduceIte]
             go_simp
             first
               | exact hK.out _ _ (Below.refl _ _) rfl
               | ((with_reducible refine (null_any _).mono ?_); rintro e wa ⟨rfl, hba⟩; go_wp2_with fail; exact hK.out _ _ hba rfl)
               | ((with_reducible refine (null_any _).mono ?_); rintro e wa ⟨rfl, hba⟩; go_wp2_with fail; exact hK.out _ _ hba rfl))
end Go.Proofs.YtgklopgeimjgiaaGreatDoor
