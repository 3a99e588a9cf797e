/- Several texts in one: see each part's head. -/
import Derived.Test.YtgklopgeimjgiaaGreatDoorJ30
import Derived.Test.YtgklopgeimjgiaaGreatDoorJ29
/- VerifySees: rel.Rows, rel.Of. -/
namespace Go.Proofs.YtgklopgeimjgiaaGreatDoor
open Go.RowKit

variable {us : List Ta} {r M : Nat} {A : Option Addr} {c : Nat} {tn : Int} {l : List Rw} {w w' : World}
theorem rows1_any (B : Value) (W : World) : Calls Tryz.prog 51 #[B] W fun q W' => q = .returned (.bool true) ∧ Below W.heap.size W W' := by
  go_enter Tryz.func51, Tryz.ntmps51
  go_wp2
  go_ret
  exact ⟨rfl, Below.refl _ _⟩
theorem rows_any (h : RelR us r M A c tn l w) (t : Nat) (ht : t < us.length) :
    Calls Tryz.prog 28 #[.pointer (some ⟨r, 0, none⟩), .int .i64 t] w (SomeP (l.filter fun x => decide (x.1 = t)) w) := by
  have HS := Lib.hid (some_rows h t ht (fun _ => true) (fun W _ y _ _ B n _ => rows1_any _ W))
  simp only [Bool.and_true] at HS
  clear h
  go_enter Tryz.func28, Tryz.ntmps28
  go_wp2_with fail
  refine HS.out.mono ?_
  rintro q w1 hq
  obtain ⟨hb, B, n, its, rfl, h3⟩ := hq
  have HF := Lib.hid (show SomeP (l.filter fun x => decide (x.1 = t)) w (.returned (.slice B its.length n)) w1 from ⟨hb, B, n, its, rfl, h3⟩)
  clear hb h3
  go_wp2_with fail
  go_ret
  exact HF.out
theorem ref_in {u : Ta} {t : Nat} (h : schB us = true) (hu : us[t]? = some u) (hp : 0 ≤ u.par) : ∃ rj : Nat, u.ref = rj ∧ rj < u.cs.length := by
  unfold schB at h
  rw [Bool.and_eq_true, Bool.and_eq_true] at h
  have h1 := pre_at h.2.1 (List.getElem?_eq_some_iff.1 hu).1 hu
  unfold tabB belB at h1
  rw [Bool.and_eq_true, Bool.and_eq_true, Bool.or_eq_true] at h1
  rcases h1.2.1 with h2 | h2
  · unfold rootB at h2
    have := of_decide_eq_true h2
    omega
  · unfold relB at h2
    rw [Bool.and_eq_true] at h2
    have := of_decide_eq_true h2.1
    exact ⟨u.ref.toNat, by omega, by omega⟩
set_option maxRecDepth 100000 in
set_option maxHeartbeats 1600000 in
theorem of1_any {u : Ta} {t rj n b1 b2 b3 : Nat} {B : Option Addr} {row : List V} {k x : V} (rc : Nat) (h : RelR us r M A c tn l w) (hu : us[t]? = some u) (hr : u.ref = rj) (hv : VRow w B row) (hx : row[rj]? = some x)
    (h1 : Blk w b1 #[.pointer (some ⟨r, 0, none⟩)] 30) (h2 : Blk w b2 #[.int .i64 t] 3) (h3 : Blk w b3 #[.int .u8 k.k, .int .i64 k.n, .int .u64 k.r, .string k.t] 49) (hn : n = row.length) :
    Calls Tryz.prog 74 #[.slice B n rc, .pointer (some ⟨b1, 0, none⟩), .pointer (some ⟨b2, 0, none⟩), .pointer (some ⟨b3, 0, none⟩)] w fun q w' => q = .returned (.bool (decide (x = k))) ∧ Below w.heap.size w w' := by
  obtain ⟨ab, ao, u', hA, hab, hju, _, _, _, _, _, _, a3, _⟩ := h.s.trow.at_ (List.getElem?_eq_some_iff.1 hu).1
  rw [hu, Option.some.injEq] at hju
  subst hju; subst hA
  rw [hr] at a3
  obtain ⟨bb, off, x', rfl, hbb, hx', _, hxw, d0, d1, d2, d3⟩ := hv.at_ (List.getElem?_eq_some_iff.1 hx).1
  rw [hx, Option.some.injEq] at hx'
  subst hx'
  have i0 : (t : Int) < us.length := by have := (List.getElem?_eq_some_iff.1 hu).1; omega
  have i1 : (rj : Int) < n := by have := (List.getElem?_eq_some_iff.1 hx).1; omega
  have HR := Lib.hid h
  have HA := Lib.hid (And.intro hab a3)
  have HD := Lib.hid (And.intro hbb (And.intro d0 (And.intro d1 (And.intro d2 d3))))
  have H1 := Lib.hid h1
  have H2 := Lib.hid h2
  have H3 := Lib.hid h3
  obtain ⟨xk, xn, xr, xt⟩ := x
  obtain ⟨kk, kn, kr, kt⟩ := k
  have heq := eql_V xk xn xr xt kk kn kr kt
  obtain ⟨EQ, hEQ⟩ : ∃ q, q = decide ((⟨xk, xn, xr, xt⟩ : V) = ⟨kk, kn, kr, kt⟩) := ⟨_, rfl⟩
  rw [← hEQ] at heq ⊢
  simp only at HD H3
  clear h hu hr hv hx h1 h2 h3 hn hab a3 hbb hxw d0 d1 d2 d3 hEQ
  go_enter Tryz.func74, Tryz.ntmps74
  go_upto_region 1 with fail
  refine region_grow [false, false, false, false, false, false, true, true, true, true, true, true, true, true, true, true, false, false, false, false, false, false, false, false, false, false] [7, 8, 9, 10, 11, 12, 13, 14, 15, 6] [.val (.pointer (some ⟨r, 0, none⟩)), .val (.pointer (some ⟨r, 0, none⟩)), .val (.pointer (some ⟨r, 0, none⟩)), .val (.pointer (some ⟨r, 0, none⟩)), .val (.slice (some ⟨ab, ao, none⟩) us.length c), .val (.int .i64 t), .val (.pointer (some ⟨ab, ao + t * 5, none⟩)), .val (.pointer (some ⟨ab, ao + t * 5 + 3, none⟩)), .val (.int .i64 rj), .val (.int .i64 rj)] [9] (by kernel_rfl) (by kernel_rfl) (by kernel_rfl) (by kernel_rfl) (by kernel_rfl) ⟨?_, ?_, ?_, ?_, ?_, ?_, ?_, ?_, ?_, ?_, trivial⟩ ?done
  case done =>
    intro x9 w5 hb5
    simp only [StepGoal, overlay, upd, cond_true, cond_false, List.getD_cons_zero, List.getD_cons_succ, Nat.zero_add, Nat.reduceAdd, Nat.reduceEqDiff, reduceIte]
    have HB5 := Lib.hid hb5
    clear hb5
    go_upto_region 2 with fail
    refine region_grow [false, false, false, false, false, true, false, false, false, false, false, false, false, false, false, false, true, true, true, true, true, true, true, true, true, true] [16, 17, 18, 19, 20, 21, 22, 23, 24, 25, 5] [.val (.int .i64 rj), .val (.bool true), .val (.bool true), .val (.slice (some ⟨bb, off, none⟩) n rc), .val (.int .i64 rj), .val (.pointer (some ⟨bb, off + rj * 4, none⟩)), .val (.agg #[.int .u8 xk, .int .i64 xn, .int .u64 xr, .string xt]), .val (.agg #[.int .u8 kk, .int .i64 kn, .int .u64 kr, .string kt]), .val (.bool EQ), .val (.bool EQ), .val (.bool EQ)] [10] (by kernel_rfl) (by kernel_rfl) (by kernel_rfl) (by kernel_rfl) (by kernel_rfl) ⟨?_, ?_, ?_, ?_, ?_, ?_, ?_, ?_, ?_, ?_, ?_, trivial⟩ ?done
    case done =>
      intro y9 w6 hb6
      simp only [StepGoal, overlay, upd, cond_true, cond_false, List.getD_cons_zero, List.getD_cons_succ, Nat.zero_add, Nat.reduceAdd, Nat.reduceEqDiff, reduceIte]
      go_wp2_with fail
      go_ret
      exact ⟨rfl, bt HB5.out hb6⟩
    all_goals
      intro y9 w8 hT8
      intro K hK
      have hb8 := bt HB5.out hT8
      have h38 := H3.out.ext hb8
      have k0 := h38.cell 0
      have k1 := h38.cell 1
      have k2 := h38.cell 2
      have k3 := h38.cell 3
      have l3 := h38.lt
      have d0 := (hb8.cell (p := ⟨bb, off + rj * 4, none⟩) HD.out.1).trans HD.out.2.1
      have d1 := (hb8.cell (p := ⟨bb, off + rj * 4 + 1, none⟩) HD.out.1).trans HD.out.2.2.1
      have d2 := (hb8.cell (p := ⟨bb, off + rj * 4 + 2, none⟩) HD.out.1).trans HD.out.2.2.2.1
      have d3 := (hb8.cell (p := ⟨bb, off + rj * 4 + 3, none⟩) HD.out.1).trans HD.out.2.2.2.2
      simp only [List.getElem?_toArray, List.getElem?_cons_zero, List.getElem?_cons_succ] at k0 k1 k2 k3
      clear h38
      rw [if_pos (by rfl)]; simp only [overlay, upd, cond_true, cond_false, List.getD_cons_zero, List.getD_cons_succ, Nat.reduceEqDiff, reduceIte]
      go_simp
      first
        | exact hK.out _ _ (Below.refl _ _) rfl
  all_goals
    intro x9 w8 hT8
    intro K hK
    have hr8 := (HR.out.b).ext hT8
    have h18 := H1.out.ext hT8
    have h28 := H2.out.ext hT8
    have r0 := hr8.cell 0
    have lr := hr8.lt
    have k1 := h18.cell 0
    have l1 := h18.lt
    have k2 := h28.cell 0
    have l2 := h28.lt
    have a3 := (hT8.cell (p := ⟨ab, ao + t * 5 + 3, none⟩) HA.out.1).trans HA.out.2
    simp only [List.getElem?_toArray, List.getElem?_cons_zero] at r0 k1 k2
    clear hr8 h18 h28
    rw [if_pos (by rfl)]; simp only [overlay, upd, cond_true, cond_false, List.getD_cons_zero, List.getD_cons_succ, Nat.reduceEqDiff, reduceIte]
    go_simp
    first
      | exact hK.out _ _ (Below.refl _ _) rfl
theorem rowS_cols {t : Nat} {row : List V} {u : Ta} (h : rowS us t row = true) (hu : us[t]? = some u) : row.length = u.cs.length := by
  unfold rowS at h
  rw [Bool.and_eq_true, Int.toNat_natCast, hu] at h
  have h2 := h.2
  simp only at h2
  unfold rowF at h2
  simp only [Bool.and_eq_true, decide_eq_true_eq] at h2
  omega
theorem of_any (h : RelR us r M A c tn l w) {u : Ta} {t : Nat} (hu : us[t]? = some u) (hp : 0 ≤ u.par) (k : V) :
    Calls Tryz.prog 49 #[.pointer (some ⟨r, 0, none⟩), .int .i64 t, k.agg] w (SomeP (ofS (refN us) l t k) w) := by
  have ht := (List.getElem?_eq_some_iff.1 hu).1
  obtain ⟨rj, hrj, hrc⟩ := ref_in h.h hu hp
  obtain ⟨w1, hw1⟩ : ∃ W, W = (((w.alloc (.cells #[.pointer (some ⟨r, 0, none⟩)] 30)).alloc (.cells #[.int .i64 t] 3)).alloc (.cells #[.int .u8 k.k, .int .i64 k.n, .int .u64 k.r, .string k.t] 49)) := ⟨_, rfl⟩
  have hb : Below w.heap.size w w1 := by rw [hw1]; exact (by repeat (first | exact Below.refl _ _ | assumption | refine Below.drew ?_ | refine below_drewN ?_ _ | refine Below.alloc ?_ (by simp <;> omega) _))
  have h1 : Blk w1 w.heap.size #[.pointer (some ⟨r, 0, none⟩)] 30 := by rw [hw1]; exact (by repeat (first | exact Blk.at (by simp) | assumption | refine Blk.drew ?_ | refine Blk.old ?_ _))
  have h2 : Blk w1 (w.heap.size + 1) #[.int .i64 t] 3 := by rw [hw1]; exact (by repeat (first | exact Blk.at (by simp) | assumption | refine Blk.drew ?_ | refine Blk.old ?_ _))
  have h3 : Blk w1 (w.heap.size + 1 + 1) #[.int .u8 k.k, .int .i64 k.n, .int .u64 k.r, .string k.t] 49 := by rw [hw1]; exact (by repeat (first | exact Blk.at (by simp) | assumption | refine Blk.drew ?_ | refine Blk.old ?_ _))
  have hS := some_of w.heap.size (w.heap.size + 1) (w.heap.size + 1 + 1) (h.ext hb) t ht (fun y => decide (refN us t y.2 = k)) (fun W hW y hy hyt B n hro => by
    have hf := (h.i.fit y hy).1
    have hrl : rj < y.2.length := by
      rw [hyt] at hf
      have e := rowS_cols hf hu
      omega
    have hx : y.2[rj]? = some (refN us t y.2) := by
      unfold refN
      rw [hu]
      simp only
      rw [hrj, Int.toNat_natCast, List.getD_eq_getElem?_getD, List.getElem?_eq_getElem hrl]
      rfl
    exact of1_any n ((h.ext hb).ext hW) hu hrj hro.vrow hx (h1.ext hW) (h2.ext hW) (h3.ext hW) rfl)
  have hf : (l.filter fun x => decide (x.1 = t) && decide (refN us t x.2 = k)) = ofS (refN us) l t k := by
    unfold ofS
    refine List.filter_congr fun x _ => ?_
    rw [Bool.decide_and]
  rw [hf] at hS
  generalize ofS (refN us) l t k = L at hS ⊢
  have HS := Lib.hid hS
  have HB := Lib.hid hb
  have HW := Lib.hid hw1
  have g1 := h1.cell 0
  have g2 := h2.cell 0
  have l1 := h1.lt
  have l2 := h2.lt
  simp only [List.getElem?_toArray, List.getElem?_cons_zero] at g1 g2
  clear h hu hp ht hrj hrc hb h1 h2 h3 hS hf hw1
  obtain ⟨kk, kn, kr, kt⟩ := k
  unfold V.agg
  simp only at HW ⊢
  go_enter Tryz.func49, Tryz.ntmps49
  go_upto_region 1 with fail
  rw [← HW.out]
  go_wp2_with fail
  refine HS.out.mono ?_
  rintro q w2 hq
  obtain ⟨hb, B, n, its, rfl, h3⟩ := hq
  have HF := Lib.hid (show SomeP L w (.returned (.slice B its.length n)) w2 from ⟨bt HB.out hb, B, n, its, rfl, h3.1, own_base' h3.2.1 HB.out.size, fun i hi => (h3.2.2 i hi).low HB.out.size⟩)
  clear hb h3
  go_wp2_with fail
  go_ret
  exact HF.out
end Go.Proofs.YtgklopgeimjgiaaGreatDoor

/- VerifySees: verify.isRoot, verify.of, sorted$1. -/
namespace Go.Proofs.YtgklopgeimjgiaaGreatDoor
open Go.RowKit

variable {us : List Ta} {A : Option Addr} {c : Nat} {w w' : World}
def isRootB (us : List Ta) (t : Int) : Bool := decide (0 ≤ t) && (match us[t.toNat]? with
  | some u => decide (u.par < 0)
  | none => false)
set_option maxRecDepth 100000 in
theorem isroot_any (ht : TRow w A c us) (t : Int) : Calls Tryz.prog 29 #[.agg #[.slice A us.length c], .int .i64 t] w fun q w' => q = .returned (.bool (isRootB us t)) ∧ Below w.heap.size w w' := by
  have hb1 : Below w.heap.size w (w.alloc (.cells #[.slice A us.length c] 24)) := (by repeat (first | exact Below.refl _ _ | assumption | refine Below.drew ?_ | refine below_drewN ?_ _ | refine Below.alloc ?_ (by simp <;> omega) _))
  have hl := ht.2.1
  by_cases h0 : t < 0
  · have hr : isRootB us t = false := by unfold isRootB; rw [decide_eq_false (by omega)]; rfl
    have h0' : ¬ 0 ≤ t := by omega
    rw [hr]
    clear ht hr hl
    go_enter Tryz.func29, Tryz.ntmps29
    go_wp2
    go_ret
    exact ⟨rfl, hb1⟩
  · obtain ⟨k, rfl⟩ : ∃ k : Nat, t = k := ⟨t.toNat, by omega⟩
    by_cases h1 : k < us.length
    · obtain ⟨ab, ao, u, rfl, hab, hju, _, _, _, a0, a1, a2, a3, a4⟩ := ht.at_ h1
      have hr : isRootB us k = decide (u.par < 0) := by unfold isRootB; rw [decide_eq_true (by omega), Int.toNat_natCast, hju]; rfl
      rw [hr]
      have h1' : (k : Int) < us.length := by omega
      have e4 := (hb1.cell (p := ⟨ab, ao + k * 5 + 4, none⟩) hab).trans a4
      have hlt := Nat.lt_of_lt_of_le hab hb1.size
      clear ht hr a0 a1 a2 a3 a4 hju
      go_enter Tryz.func29, Tryz.ntmps29
      go_wp2
      go_ret
      exact ⟨rfl, hb1⟩
    · have hr : isRootB us k = false := by unfold isRootB; rw [Int.toNat_natCast, List.getElem?_eq_none (by omega)]; simp
      have h1' : ¬ (k : Int) < us.length := by omega
      rw [hr]
      clear ht hr
      go_enter Tryz.func29, Tryz.ntmps29
      go_wp2
      go_ret
      exact ⟨rfl, hb1⟩
set_option maxRecDepth 100000 in
set_option maxHeartbeats 800000 in
theorem of1root_any {u : Ta} {t kj n rc : Nat} {B : Option Addr} {row : List V} {k : V} (K : Value) (ht : TRow w A c us) (hu : us[t]? = some u) (hk : u.key = kj) (hv : VRow w B row) (hx : row[kj]? = some k) (hn : n = row.length) :
    Calls Tryz.prog 31 #[.agg #[.slice A us.length c], .agg #[.int .i64 t, .slice B n rc, K]] w fun q w' => q = .returned (rtV (t, k)) ∧ Below w.heap.size w w' := by
  obtain ⟨ab, ao, u', rfl, hab, hju, _, _, _, _, _, a2, _, _⟩ := ht.at_ (List.getElem?_eq_some_iff.1 hu).1
  rw [hu, Option.some.injEq] at hju
  subst hju
  rw [hk] at a2
  obtain ⟨bb, off, x', rfl, hbb, hx', _, hxw, d0, d1, d2, d3⟩ := hv.at_ (List.getElem?_eq_some_iff.1 hx).1
  rw [hx, Option.some.injEq] at hx'
  subst hx'
  have i0 : (t : Int) < us.length := by have := (List.getElem?_eq_some_iff.1 hu).1; omega
  have i1 : (kj : Int) < n := by have := (List.getElem?_eq_some_iff.1 hx).1; omega
  have HA := Lib.hid (And.intro hab a2)
  have HD := Lib.hid (And.intro hbb (And.intro d0 (And.intro d1 (And.intro d2 d3))))
  obtain ⟨kk, kn, kr, kt⟩ := k
  unfold rtV
  simp only at HD ⊢
  clear ht hu hk hv hx hn hab a2 hbb hxw d0 d1 d2 d3
  go_enter Tryz.func31, Tryz.ntmps31
  go_upto_region 1 with fail
  have H2 : Hid (Blk (((w.alloc (.cells #[.slice (some ⟨ab, ao, none⟩) us.length c] 24)).alloc (.cells #[.int .i64 t, .slice (some ⟨bb, off, none⟩) n rc, K] 42)).alloc (.cells #[.int .i64 0, .int .u8 0, .int .i64 0, .int .u64 0, .string ⟨#[]⟩] 78)) w.heap.size #[.slice (some ⟨ab, ao, none⟩) us.length c] 24) := by show Blk _ _ _ _; exact (by repeat (first | exact Blk.at (by simp) | assumption | refine Blk.drew ?_ | refine Blk.old ?_ _))
  have H3 : Hid (Blk (((w.alloc (.cells #[.slice (some ⟨ab, ao, none⟩) us.length c] 24)).alloc (.cells #[.int .i64 t, .slice (some ⟨bb, off, none⟩) n rc, K] 42)).alloc (.cells #[.int .i64 0, .int .u8 0, .int .i64 0, .int .u64 0, .string ⟨#[]⟩] 78)) (w.heap.size + 1) #[.int .i64 t, .slice (some ⟨bb, off, none⟩) n rc, K] 42) := by show Blk _ _ _ _; exact (by repeat (first | exact Blk.at (by simp) | assumption | refine Blk.drew ?_ | refine Blk.old ?_ _))
  have H4 : Hid (Blk (((w.alloc (.cells #[.slice (some ⟨ab, ao, none⟩) us.length c] 24)).alloc (.cells #[.int .i64 t, .slice (some ⟨bb, off, none⟩) n rc, K] 42)).alloc (.cells #[.int .i64 0, .int .u8 0, .int .i64 0, .int .u64 0, .string ⟨#[]⟩] 78)) (w.heap.size + 1 + 1) #[.int .i64 0, .int .u8 0, .int .i64 0, .int .u64 0, .string ⟨#[]⟩] 78) := by show Blk _ _ _ _; exact (by repeat (first | exact Blk.at (by simp) | assumption | refine Blk.drew ?_ | refine Blk.old ?_ _))
  have HC : Hid (Below w.heap.size w (((w.alloc (.cells #[.slice (some ⟨ab, ao, none⟩) us.length c] 24)).alloc (.cells #[.int .i64 t, .slice (some ⟨bb, off, none⟩) n rc, K] 42)).alloc (.cells #[.int .i64 0, .int .u8 0, .int .i64 0, .int .u64 0, .string ⟨#[]⟩] 78))) := by show Below _ _ _; exact (by repeat (first | exact Below.refl _ _ | assumption | refine Below.drew ?_ | refine below_drewN ?_ _ | refine Below.alloc ?_ (by simp <;> omega) _))
  have HL4 : Hid (w.heap.size ≤ w.heap.size + 1 + 1) := by show _ ≤ _; omega
  generalize ((w.alloc (.cells #[.slice (some ⟨ab, ao, none⟩) us.length c] 24)).alloc (.cells #[.int .i64 t, .slice (some ⟨bb, off, none⟩) n rc, K] 42)).alloc (.cells #[.int .i64 0, .int .u8 0, .int .i64 0, .int .u64 0, .string ⟨#[]⟩] 78) = W0 at H2 H3 H4 HC ⊢
  generalize w.heap.size + 1 + 1 = B4 at H4 HL4 ⊢
  generalize w.heap.size + 1 = B3 at H3 ⊢
  generalize hB2 : w.heap.size = B2 at H2 HL4 ⊢
  have HB2 := Lib.hid hB2
  clear hB2
  refine region_last 14 _ [false, false, false, false, false, true, true, true, true, true, true, true, true, true, true, true, true, true, true] [5, 6, 7, 8, 9, 10, 11, 12, 13, 14, 15, 16, 17, 18] [.val (.pointer (some ⟨B3, 0, none⟩)), .val (.int .i64 t), .val (.pointer (some ⟨B3, 1, none⟩)), .val (.slice (some ⟨bb, off, none⟩) n rc), .val (.pointer (some ⟨B2, 0, none⟩)), .val (.slice (some ⟨ab, ao, none⟩) us.length c), .val (.pointer (some ⟨B3, 0, none⟩)), .val (.int .i64 t), .val (.pointer (some ⟨ab, ao + t * 5, none⟩)), .val (.pointer (some ⟨ab, ao + t * 5 + 2, none⟩)), .val (.int .i64 kj), .val (.pointer (some ⟨bb, off + kj * 4, none⟩)), .val (.agg #[.int .u8 kk, .int .i64 kn, .int .u64 kr, .string kt]), .val (.agg #[.int .i64 t, .int .u8 kk, .int .i64 kn, .int .u64 kr, .string kt])] [13] (by kernel_rfl) (by kernel_rfl) rfl (by kernel_rfl) (by kernel_rfl) (by kernel_rfl) (by kernel_rfl) (by kernel_rfl) ⟨?_, ?_, ?_, ?_, ?_, ?_, ?_, ?_, ?_, ?_, ?_, ?_, ?_, ?_, trivial⟩ ?done
  case done =>
    intro x9 w5 hb5
    simp only [StepGoal, List.getD_cons_zero, List.getD_cons_succ]
    intro K' hK'
    have hg5 := H4.out.ext hb5
    have HF := Lib.hid (putBlk_below (b := B4) #[.int .i64 t, .int .u8 kk, .int .i64 kn, .int .u64 kr, .string kt] 78 (bt HC.out hb5) (by have := HL4.out; have := HB2.out; omega))
    obtain ⟨w3, rfl, lt⟩ := blk_put hg5
    obtain ⟨pc, pf, pS⟩ := putBlk_facts (w := w3) 78 lt
    rw [put_put'] at HF
    clear hg5 hb5
    rw [if_pos (by rfl)]; simp only [overlay, upd, cond_true, cond_false, Nat.reduceEqDiff, reduceIte]
    go_simp
    refine hK'.out _ _ ?_
    go_wp2_with fail
    refine bodyPost_ret (v := .agg #[.int .i64 t, .int .u8 kk, .int .i64 kn, .int .u64 kr, .string kt]) (by simp [results, Tryz.results31, go_sem, pc]) rfl ?_
    exact ⟨rfl, HF.out⟩
  all_goals
    intro x9 w8 hT8
    intro K' hK'
    have hb8 := bt HC.out hT8
    have h2 := H2.out.ext hT8
    have h3 := H3.out.ext hT8
    have s0 := h2.cell 0
    have l2 := h2.lt
    have o0 := h3.cell 0
    have o1 := h3.cell 1
    have l3 := h3.lt
    have d0 := (hb8.cell (p := ⟨bb, off + kj * 4, none⟩) HD.out.1).trans HD.out.2.1
    have d1 := (hb8.cell (p := ⟨bb, off + kj * 4 + 1, none⟩) HD.out.1).trans HD.out.2.2.1
    have d2 := (hb8.cell (p := ⟨bb, off + kj * 4 + 2, none⟩) HD.out.1).trans HD.out.2.2.2.1
    have d3 := (hb8.cell (p := ⟨bb, off + kj * 4 + 3, none⟩) HD.out.1).trans HD.out.2.2.2.2
    have a2 := (hb8.cell (p := ⟨ab, ao + t * 5 + 2, none⟩) HA.out.1).trans HA.out.2
    simp only [List.getElem?_toArray, List.getElem?_cons_zero, List.getElem?_cons_succ] at s0 o0 o1
    clear h2 h3
    rw [if_pos (by rfl)]; simp only [overlay, upd, cond_true, cond_false, List.getD_cons_zero, List.getD_cons_succ, Nat.reduceEqDiff, reduceIte]
    go_simp
    exact hK'.out _ _ (Below.refl _ _) rfl
theorem sorted1_any (a b : Int × V) (kb : Nat) (w : World) (ha : a.2.wf) (hb : b.2.wf) (hk : Blk w kb #[.func (.func 33) #[] #[]] 81) :
    Calls Tryz.prog 57 #[rtV a, rtV b, .pointer (some ⟨kb, 0, none⟩)] w fun q w' => q = .returned (.bool (ordF a b == 0)) ∧ Below w.heap.size w w' := by
  have HO := Lib.hid (fun W => order_any a b W ha hb)
  generalize ordF a b = R at HO ⊢
  obtain ⟨t1, k1, n1, r1, s1⟩ := a
  obtain ⟨t2, k2, n2, r2, s2⟩ := b
  unfold rtV at HO ⊢
  simp only at HO ⊢
  have HK := Lib.hid hk
  clear ha hb hk
  go_enter Tryz.func57, Tryz.ntmps57
  go_upto_region 1 with fail
  have HKW : Hid (Blk ((w.alloc (.cells #[.int .i64 t1, .int .u8 k1, .int .i64 n1, .int .u64 r1, .string s1] 78)).alloc (.cells #[.int .i64 t2, .int .u8 k2, .int .i64 n2, .int .u64 r2, .string s2] 78)) kb #[.func (.func 33) #[] #[]] 81) := HK.out.ext (by repeat (first | exact Below.refl _ _ | assumption | refine Below.drew ?_ | refine below_drewN ?_ _ | refine Below.alloc ?_ (by simp <;> omega) _))
  have HX : Hid (Blk ((w.alloc (.cells #[.int .i64 t1, .int .u8 k1, .int .i64 n1, .int .u64 r1, .string s1] 78)).alloc (.cells #[.int .i64 t2, .int .u8 k2, .int .i64 n2, .int .u64 r2, .string s2] 78)) w.heap.size #[.int .i64 t1, .int .u8 k1, .int .i64 n1, .int .u64 r1, .string s1] 78) := by show Blk _ _ _ _; exact (by repeat (first | exact Blk.at (by simp) | assumption | refine Blk.drew ?_ | refine Blk.old ?_ _))
  have HY : Hid (Blk ((w.alloc (.cells #[.int .i64 t1, .int .u8 k1, .int .i64 n1, .int .u64 r1, .string s1] 78)).alloc (.cells #[.int .i64 t2, .int .u8 k2, .int .i64 n2, .int .u64 r2, .string s2] 78)) (w.heap.size + 1) #[.int .i64 t2, .int .u8 k2, .int .i64 n2, .int .u64 r2, .string s2] 78) := by show Blk _ _ _ _; exact (by repeat (first | exact Blk.at (by simp) | assumption | refine Blk.drew ?_ | refine Blk.old ?_ _))
  have HC : Hid (Below w.heap.size w ((w.alloc (.cells #[.int .i64 t1, .int .u8 k1, .int .i64 n1, .int .u64 r1, .string s1] 78)).alloc (.cells #[.int .i64 t2, .int .u8 k2, .int .i64 n2, .int .u64 r2, .string s2] 78))) := by show Below _ _ _; exact (by repeat (first | exact Below.refl _ _ | assumption | refine Below.drew ?_ | refine below_drewN ?_ _ | refine Below.alloc ?_ (by simp <;> omega) _))
  generalize (w.alloc (.cells #[.int .i64 t1, .int .u8 k1, .int .i64 n1, .int .u64 r1, .string s1] 78)).alloc (.cells #[.int .i64 t2, .int .u8 k2, .int .i64 n2, .int .u64 r2, .string s2] 78) = W0 at HKW HX HY HC ⊢
  generalize w.heap.size + 1 = B1 at HY ⊢
  generalize hB0 : w.heap.size = B0 at HX ⊢
  have HB0 := Lib.hid hB0
  clear hB0 HK
  have x0 := HX.out.cell 0
  have x1 := HX.out.cell 1
  have x2 := HX.out.cell 2
  have x3 := HX.out.cell 3
  have x4 := HX.out.cell 4
  have y0 := HY.out.cell 0
  have y1 := HY.out.cell 1
  have y2 := HY.out.cell 2
  have y3 := HY.out.cell 3
  have y4 := HY.out.cell 4
  have k0 := HKW.out.cell 0
  have lx := HX.out.lt
  have ly := HY.out.lt
  have lk := HKW.out.lt
  simp only [List.getElem?_toArray, List.getElem?_cons_zero, List.getElem?_cons_succ] at x0 x1 x2 x3 x4 y0 y1 y2 y3 y4 k0
  go_wp2_with fail
  refine (HO.out _).mono ?_
  rintro q w2 ⟨rfl, hg⟩
  have HF : Hid (Below w.heap.size w w2) := bt HC.out hg.2
  clear hg
  go_wp2_with fail
  go_ret
  exact ⟨rfl, HF.out⟩
end Go.Proofs.YtgklopgeimjgiaaGreatDoor
