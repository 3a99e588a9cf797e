/- Texts joined by a tool: contracts and walks of this claim. -/
import Derived.Test.YtceoficoappkpaaGreatDoorB37
namespace Go.Proofs.YtceoficoappkpaaGreatDoor
open Go.RowKit
def BoolP (w : World) (r : Ending) (w' : World) : Prop := (∃ v, r = .returned (.bool v)) ∧ Below w.heap.size w w'
set_option maxRecDepth 100000 in
set_option maxHeartbeats 1000000 in
theorem large13_any (ts : List Ta) (A : Option Addr) (c : Nat) (w : World) (ht : TRow w A c ts) :
  Calls Tryz.prog 16 #[.agg #[.slice A ts.length c]] w (BoolP w) := by
 have hlen := ht.2.1
 have HT := hd_ ht
 clear ht
 go_enter Tryz.func16, Tryz.ntmps16
 go_wp2_with fail
 have h0 : Blk (w.alloc (.cells #[.slice A ts.length c] 24)) w.heap.size #[.slice A ts.length c] 24 := Blk.new w #[.slice A ts.length c] 24
 have hC : Below w.heap.size w (w.alloc (.cells #[.slice A ts.length c] 24)) := bel1 _ _
 have HA := hd_ h0
 have HC := hd_ hC
 clear h0 hC
 generalize w.alloc (.cells #[.slice A ts.length c] 24) = Wq at HA HC ⊢
 go_loopw [3, 4] (fun n i wr => ∃ (k : Nat) (v : Int), k ≤ ts.length ∧ n = .int .i64 v ∧ i = .int .i64 k ∧ Hid (Below Wq.heap.size Wq wr)) (fun _ i _ => ts.length - (intOf i).toNat)
 case atStart => exact ⟨0, 0, by omega, rfl, rfl, Below.refl _ _⟩
 case round =>
  obtain ⟨k, n, hk1, rfl, rfl, HBW⟩ := hrel
  have HBW' := hd_ (bt HC.out HBW.out)
  have g0 := (HA.out.ext HBW.out).cell 0
  simp only [List.getElem?_toArray, List.getElem?_cons_zero] at g0
  have l1 := (HA.out.ext HBW.out).lt
  by_cases hlt : k < ts.length
  · obtain ⟨b, off, t, rfl, hb, hlk, hmem, hwf, hcr, c0, c1, c2, c3, c4⟩ := (HT.out.ext HBW'.out).at_ hlt
    have HCR := hd_ hcr
    have hcl := hcr.2.1
    have hnz := hwf.1
    clear hlk hmem hwf hcr
    have i0 : (0 : Int) ≤ k := by omega
    have i1 : (k : Int) < ts.length := by omega
    by_cases h40 : (k : Int) < 40
    · obtain ⟨nm, cs, key, ref, par, TA, tc⟩ := t
      simp only at c0 c1 c2 c3 c4 HCR hcl hnz
      go_wp2_with fail
      go_quiet (fail)
      go_wp2_with fail
      generalize wrap64 (wrap64 (n + ↑cs.length) + ↑nm.size / 16) = n2
      have HC1 := hd_ c1
      clear c0 c1 c2 c3 c4 g0
      have HBN := hd_ (show Below wr.heap.size wr (wr.drewN nq) by have := Below.refl wr.heap.size wr; repeat (first | assumption | refine Below.drew ?_ | refine below_drewN ?_ _))
      generalize wr.drewN nq = wx at HBN ⊢
      go_loopw [3, 5] (fun n i wy => ∃ (j : Nat) (v : Int), j ≤ cs.length ∧ n = .int .i64 v ∧ i = .int .i64 j ∧ Hid (Below wr.heap.size wr wy)) (fun _ i _ => cs.length - (intOf i).toNat)
      case atStart => exact ⟨0, n2, by omega, rfl, rfl, HBN.out⟩
      case round =>
       obtain ⟨j, n3, hj1, rfl, rfl, HBY⟩ := hrel
       have c1 := (HBY.out.cell (p := ⟨b, off + k * 5 + 1, none⟩) hb).trans HC1.out
       have g0 := ((HA.out.ext HBW.out).ext HBY.out).cell 0
       simp only [List.getElem?_toArray, List.getElem?_cons_zero] at g0
       have l2 := HBY.out.size
       have h40' : k < 40 := by omega
       by_cases hjl : j < cs.length
       · by_cases hj40 : (j : Int) < 40
         · obtain ⟨bb, of, v, rfl, hbb, hv, hm, hvw, d0, d1, d2⟩ := (HCR.out.ext HBY.out).at_ hjl
           have hvz := hvw.1
           have m1 : (j : Int) < cs.length := by omega
           have m0 : (0 : Int) ≤ j := by omega
           clear hv hm hvw
           go_wp2_with fail
           go_roundw
           case rel => exact ⟨j + 1, _, by omega, rfl, by go_num, HBY.out⟩
           case measure => simp [intOf]; omega
         · have m2 : (40 : Int) ≤ j := by omega
           go_wp2_with fail
           go_roundw
           case rel => exact ⟨k + 1, _, by omega, rfl, by go_num, bt HBW.out HBY.out⟩
           case measure => simp [intOf]; omega
       · have m1 : (cs.length : Int) ≤ j := by omega
         go_wp2_with fail
         go_roundw
         case rel => exact ⟨k + 1, _, by omega, rfl, by go_num, bt HBW.out HBY.out⟩
         case measure => simp [intOf]; omega
    · have e1 : (30 : Int) < ts.length := by omega
      go_wp2_with fail
      go_ret
      exact ⟨⟨_, rfl⟩, HBW'.out⟩
  · have hk : ¬ (k : Int) < ts.length := by omega
    by_cases e1 : (30 : Int) < ts.length
    · go_wp2_with fail
      go_ret
      exact ⟨⟨_, rfl⟩, HBW'.out⟩
    · have f1 : (ts.length : Int) ≤ 30 := by omega
      by_cases e2 : (600 : Int) < n
      · go_wp2_with fail
        go_ret
        exact ⟨⟨_, rfl⟩, HBW'.out⟩
      · have f2 : n ≤ 600 := by omega
        go_wp2_with fail
        go_ret
        exact ⟨⟨_, rfl⟩, HBW'.out⟩
end Go.Proofs.YtceoficoappkpaaGreatDoor
namespace Go.Proofs.YtceoficoappkpaaGreatDoor
open Go.RowKit Go.Shelf
attribute [local go_sem] Oper.semAt_some

theorem lay_nil (l : Value) (w : World) : Calls Tryz.prog 21 #[.pointer none, l] w fun r w' => r = .returned (.int .i64 1) ∧ Below w.heap.size w w' := by
 go_enter Tryz.func21, Tryz.ntmps21
 go_wp2_with fail
 go_ret
 exact ⟨rfl, (by repeat (first | exact Below.refl _ _ | assumption | refine Below.drew ?_ | refine below_drewN ?_ _ | refine Below.alloc ?_ (by simp <;> omega) _))⟩
theorem laid_nil (w : World) : Calls Tryz.prog 22 #[.pointer none] w fun r w' => r = .returned (.slice none 0 0) ∧ Below w.heap.size w w' := by
 go_enter Tryz.func22, Tryz.ntmps22
 go_wp2_with fail
 go_ret
 exact ⟨rfl, (by repeat (first | exact Below.refl _ _ | assumption | refine Below.drew ?_ | refine below_drewN ?_ _ | refine Below.alloc ?_ (by simp <;> omega) _))⟩
theorem get_nil (k : ByteArray) (w : World) : Calls Tryz.prog 17 #[.pointer none, .string k] w fun r w' => r = .returned (.tuple #[.string ⟨#[]⟩, .bool false, .int .i64 1]) ∧ Below w.heap.size w w' := by
 go_enter Tryz.func17, Tryz.ntmps17
 go_wp2_with fail
 refine bodyPost_ret (v := .tuple #[.string ⟨#[]⟩, .bool false, .int .i64 1]) (by simp [results, Tryz.results17, go_sem]) rfl ?_
 exact ⟨rfl, (by repeat (first | exact Below.refl _ _ | assumption | refine Below.drew ?_ | refine below_drewN ?_ _ | refine Below.alloc ?_ (by simp <;> omega) _))⟩
theorem vscan_nil (fr tt : ByteArray) (w : World) : Calls Tryz.prog 18 #[.pointer none, .string fr, .string tt] w fun r w' => r = .returned (.tuple #[.slice none 0 0, .int .i64 1]) ∧ Below w.heap.size w w' := by
 go_enter Tryz.func18, Tryz.ntmps18
 go_wp2_with fail
 refine bodyPost_ret (v := .tuple #[.slice none 0 0, .int .i64 1]) (by simp [results, Tryz.results18, go_sem]) rfl ?_
 exact ⟨rfl, (by repeat (first | exact Below.refl _ _ | assumption | refine Below.drew ?_ | refine below_drewN ?_ _ | refine Below.alloc ?_ (by simp <;> omega) _))⟩
end Go.Proofs.YtceoficoappkpaaGreatDoor
namespace Go.Proofs.YtceoficoappkpaaGreatDoor
open Go.RowKit Go.Shelf
attribute [local go_sem] Oper.semAt_some

theorem row_nil (A : Option Addr) (n c : Nat) (tb : Int) (k : V) (w : World) : Calls Tryz.prog 19 #[.pointer none, .agg #[.slice A n c], .int .i64 tb, k.agg] w fun r w' => r = .returned (.tuple #[.slice none 0 0, .bool false, .int .i64 1]) ∧ Below w.heap.size w w' := by
 unfold V.agg
 go_enter Tryz.func19, Tryz.ntmps19
 go_wp2_with fail
 refine bodyPost_ret (v := .tuple #[.slice none 0 0, .bool false, .int .i64 1]) (by simp [results, Tryz.results19, go_sem]) rfl ?_
 exact ⟨rfl, (by repeat (first | exact Below.refl _ _ | assumption | refine Below.drew ?_ | refine below_drewN ?_ _ | refine Below.alloc ?_ (by simp <;> omega) _))⟩
theorem kids_nil (A : Option Addr) (n c : Nat) (tb : Int) (k : V) (w : World) : Calls Tryz.prog 20 #[.pointer none, .agg #[.slice A n c], .int .i64 tb, k.agg] w fun r w' => r = .returned (.tuple #[.slice none 0 0, .int .i64 1]) ∧ Below w.heap.size w w' := by
 unfold V.agg
 go_enter Tryz.func20, Tryz.ntmps20
 go_wp2_with fail
 refine bodyPost_ret (v := .tuple #[.slice none 0 0, .int .i64 1]) (by simp [results, Tryz.results20, go_sem]) rfl ?_
 exact ⟨rfl, (by repeat (first | exact Below.refl _ _ | assumption | refine Below.drew ?_ | refine below_drewN ?_ _ | refine Below.alloc ?_ (by simp <;> omega) _))⟩
end Go.Proofs.YtceoficoappkpaaGreatDoor
namespace Go.Proofs.YtceoficoappkpaaGreatDoor
open Go.ChangeShapes Go.WideShapes Go.ChangeAt Go.RowKit Go.Deep




section
variable {H : Type} {enc : TypeId × Value → H}

theorem weights_all {P : Program} {e : TypeId} : ∀ {l : List (DataW H)} {d : DataW H}, d ∈ l → ∀ n ∈ d.weights P e, n ∈ DataW.weightsAll P e l
 | x :: l, d, h, n, hn => by
  simp only [DataW.weightsAll, List.mem_append]
  rcases List.mem_cons.1 h with rfl | h
  · exact Or.inl hn
  · exact Or.inr (weights_all h n hn)

theorem addr_plain {W : World} {a : Addr} {v : Value} (h : W.cell? a = some v) : a = ⟨a.block, a.off, none⟩ := by
 obtain ⟨b, o, sp⟩ := a
 rw [cell_spot h]
end
end Go.Proofs.YtceoficoappkpaaGreatDoor
namespace Go.Proofs.YtceoficoappkpaaGreatDoor
open Go.RowKit Go.Shelf
attribute [local go_sem] Oper.semAt_some

set_option maxRecDepth 100000 in
theorem heavy26_one (p : Pr) (g cp : Nat) (w : World) (hg : Blk w g #[.string p.k, .string p.v, .bool p.g] 45) (hk : p.k.size ≤ 140737488355328) (hv : p.v.size ≤ 140737488355328) :
  Calls Tryz.prog 15 #[.slice (some ⟨g, 0, none⟩) 1 cp] w (BoolP w) := by
 obtain ⟨lg, e0, e1, e2⟩ := blk3 hg
 clear hg
 go_enter Tryz.func15, Tryz.ntmps15
 go_wp2_with fail
 refine wp_loop_rounds 2 ?_
 rw [rounds_succ]
 go_upto_region 5 with fail
 go_quiet (fail)
 go_wp2_with fail
 rw [rounds_succ]
 go_wp2_with fail
 go_ret
 exact ⟨⟨_, rfl⟩, (by repeat (first | exact Below.refl _ _ | assumption | refine Below.drew ?_ | refine below_drewN ?_ _ | refine Below.alloc ?_ (by simp <;> omega) _))⟩
set_option maxRecDepth 100000 in
set_option maxHeartbeats 3200000 in
theorem ixnil_walk (p : Pr) (ts : List Ta) (A : Option Addr) (c : Nat) (k : V) (w : World) (hL : LayX w) (ht : TRow w A c ts) (hp : p.k.size ≤ 140737488355328) (hv : p.v.size ≤ 140737488355328) :
  Calls Tryz.prog 4 #[.agg #[.string p.k, .string p.v, .bool p.g], .agg #[.slice A ts.length c], k.agg] w fun q w' => q = .returned (.bool true) ∧ Below w.heap.size w w' := by
 have HA := hd_ (fun (W : World) (hW : Below w.heap.size w W) => alive26_any W (hL.ext hW))
 have HH := hd_ (fun (g cp : Nat) (W : World) (hg : Blk W g #[.string p.k, .string p.v, .bool p.g] 45) => heavy26_one p g cp W hg hp hv)
 have HG := hd_ (fun (W : World) (hW : Below w.heap.size w W) => large13_any ts A c W (ht.ext hW))
 have HN1 := hd_ (fun (W : World) => get_nil p.k W)
 have HN2 := hd_ (fun (W : World) => vscan_nil ⟨#[]⟩ ⟨#[]⟩ W)
 have HN3 := hd_ (fun (W : World) => row_nil A ts.length c 0 k W)
 have HN4 := hd_ (fun (W : World) => kids_nil A ts.length c 0 k W)
 clear hL ht hp hv
 obtain ⟨kk, kn, kr, kt⟩ := k
 unfold V.agg at *
 simp only at *
 go_enter Tryz.func4, Tryz.ntmps4
 go_upto_region 1 with fail
 have b3 : Blk (((w.alloc (.cells #[.string p.k, .string p.v, .bool p.g] 45)).alloc (.cells #[.slice A ts.length c] 24)).alloc (.cells #[.int .u8 kk, .int .i64 kn, .int .u64 kr, .string kt] 47)) w.heap.size #[.string p.k, .string p.v, .bool p.g] 45 := Blk.old (Blk.old (Blk.new _ _ _) _) _
 have b4 : Blk (((w.alloc (.cells #[.string p.k, .string p.v, .bool p.g] 45)).alloc (.cells #[.slice A ts.length c] 24)).alloc (.cells #[.int .u8 kk, .int .i64 kn, .int .u64 kr, .string kt] 47)) (w.heap.size + 1) #[.slice A ts.length c] 24 := Blk.old (Blk.at (by simp)) _
 have b5 : Blk (((w.alloc (.cells #[.string p.k, .string p.v, .bool p.g] 45)).alloc (.cells #[.slice A ts.length c] 24)).alloc (.cells #[.int .u8 kk, .int .i64 kn, .int .u64 kr, .string kt] 47)) (w.heap.size + 1 + 1) #[.int .u8 kk, .int .i64 kn, .int .u64 kr, .string kt] 47 := Blk.at (by simp)
 have hb : Below w.heap.size w (((w.alloc (.cells #[.string p.k, .string p.v, .bool p.g] 45)).alloc (.cells #[.slice A ts.length c] 24)).alloc (.cells #[.int .u8 kk, .int .i64 kn, .int .u64 kr, .string kt] 47)) := (by repeat (first | exact Below.refl _ _ | assumption | refine Below.drew ?_ | refine below_drewN ?_ _ | refine Below.alloc ?_ (by simp <;> omega) _))
 generalize (((w.alloc (.cells #[.string p.k, .string p.v, .bool p.g] 45)).alloc (.cells #[.slice A ts.length c] 24)).alloc (.cells #[.int .u8 kk, .int .i64 kn, .int .u64 kr, .string kt] 47)) = W at b3 b4 b5 hb ⊢
 obtain ⟨q3, hq3⟩ : ∃ b, b = w.heap.size := ⟨_, rfl⟩
 obtain ⟨q4, hq4⟩ : ∃ b, b = w.heap.size + 1 := ⟨_, rfl⟩
 obtain ⟨q5, hq5⟩ : ∃ b, b = w.heap.size + 1 + 1 := ⟨_, rfl⟩
 rw [← hq5] at b5 ⊢
 rw [← hq4] at b4 ⊢
 rw [← hq3] at b3 ⊢
 clear hq3 hq4 hq5
 have H3 := hd_ b3
 have H4 := hd_ b4
 have H5 := hd_ b5
 have HB := hd_ hb
 clear b3 b4 b5 hb
 have HC : Hid (∀ X, Below W.heap.size W X → (q3 < X.heap.size ∧ X.cell? ⟨q3, 0, none⟩ = some (.string p.k) ∧ X.cell? ⟨q3, 1, none⟩ = some (.string p.v) ∧ X.cell? ⟨q3, 2, none⟩ = some (.bool p.g)) ∧ (q4 < X.heap.size ∧ X.cell? ⟨q4, 0, none⟩ = some (.slice A ts.length c)) ∧ (q5 < X.heap.size ∧ X.cell? ⟨q5, 0, none⟩ = some (.int .u8 kk) ∧ X.cell? ⟨q5, 1, none⟩ = some (.int .i64 kn) ∧ X.cell? ⟨q5, 2, none⟩ = some (.int .u64 kr) ∧ X.cell? ⟨q5, 3, none⟩ = some (.string kt))) :=
  fun X hX => ⟨blk3 (H3.out.ext hX), ⟨(H4.out.ext hX).lt, (H4.out.ext hX).cell 0⟩, blk4' (H5.out.ext hX)⟩
 clear H3 H4 H5
 obtain ⟨⟨l3, a0, a1, a2⟩, ⟨l4, d0⟩, ⟨l5, c0, c1, c2, c3⟩⟩ := HC.out W (Below.refl _ _)
 go_wp2_with fail
 refine (HH.out _ _ _ (Blk.new _ _ _)).mono ?_
 rintro r w1 ⟨⟨v1, rfl⟩, hb1⟩
 have HB1 : Hid (Below W.heap.size W w1) := bt ((by repeat (first | exact Below.refl _ _ | assumption | refine Below.drew ?_ | refine below_drewN ?_ _ | refine Below.alloc ?_ (by simp <;> omega) _))) hb1
 clear hb1 l3 a0 a1 a2 l4 d0 l5 c0 c1 c2 c3
 cases v1 with
 | true =>
  go_wp2_with fail
  refine (HA.out _ (bt HB.out HB1.out)).mono ?_
  rintro r w2 ⟨rfl, hb2⟩
  go_wp2_with fail
  go_ret
  exact ⟨rfl, bt (bt HB.out HB1.out) hb2⟩
 | false =>
  obtain ⟨⟨l3, a0, a1, a2⟩, ⟨l4, d0⟩, ⟨l5, c0, c1, c2, c3⟩⟩ := HC.out w1 HB1.out
  go_wp2_with fail
  refine (HG.out _ (bt HB.out HB1.out)).mono ?_
  rintro r w2 ⟨⟨v2, rfl⟩, hb2⟩
  have HB2 : Hid (Below W.heap.size W w2) := bt HB1.out hb2
  clear hb2 l3 a0 a1 a2 l4 d0 l5 c0 c1 c2 c3 HB1
  cases v2 with
  | true =>
   go_wp2_with fail
   refine (HA.out _ (bt HB.out HB2.out)).mono ?_
   rintro r w3 ⟨rfl, hb3⟩
   go_wp2_with fail
   go_ret
   exact ⟨rfl, bt (bt HB.out HB2.out) hb3⟩
  | false =>
   obtain ⟨⟨l3, a0, a1, a2⟩, ⟨l4, d0⟩, ⟨l5, c0, c1, c2, c3⟩⟩ := HC.out w2 HB2.out
   by_cases hbig : (4096 : Int) < kt.size
   · go_wp2_with fail
     refine (HA.out _ (bt HB.out HB2.out)).mono ?_
     rintro r w3 ⟨rfl, hb3⟩
     go_wp2_with fail
     go_ret
     exact ⟨rfl, bt (bt HB.out HB2.out) hb3⟩
   · go_wp2_with fail
     refine (HN1.out _).mono ?_
     rintro r w3 ⟨rfl, hb3⟩
     go_wp2_with fail
     refine (HN2.out _).mono ?_
     rintro r w4 ⟨rfl, hb4⟩
     have HB4 : Hid (Below W.heap.size W w4) := bt (bt HB2.out hb3) hb4
     clear hb3 hb4 l3 a0 a1 a2 l4 d0 l5 c0 c1 c2 c3 HB2
     obtain ⟨⟨l3, a0, a1, a2⟩, ⟨l4, d0⟩, ⟨l5, c0, c1, c2, c3⟩⟩ := HC.out w4 HB4.out
     go_wp2_with fail
     refine (HN3.out _).mono ?_
     rintro r w5 ⟨rfl, hb5⟩
     have HB5 : Hid (Below W.heap.size W w5) := bt HB4.out hb5
     clear hb5 l3 a0 a1 a2 l4 d0 l5 c0 c1 c2 c3 HB4
     obtain ⟨⟨l3, a0, a1, a2⟩, ⟨l4, d0⟩, ⟨l5, c0, c1, c2, c3⟩⟩ := HC.out w5 HB5.out
     go_wp2_with fail
     refine (HN4.out _).mono ?_
     rintro r w6 ⟨rfl, hb6⟩
     have HB6 : Hid (Below W.heap.size W w6) := bt HB5.out hb6
     clear hb6 l3 a0 a1 a2 l4 d0 l5 c0 c1 c2 c3 HB5
     obtain ⟨⟨l3, a0, a1, a2⟩, ⟨l4, d0⟩, ⟨l5, c0, c1, c2, c3⟩⟩ := HC.out w6 HB6.out
     go_wp2_with fail
     refine (lay_nil _ _).mono ?_
     rintro r w7 ⟨rfl, hb7⟩
     go_wp2_with fail
     refine (laid_nil _).mono ?_
     rintro r w8 ⟨rfl, hb8⟩
     have HB8 : Hid (Below W.heap.size W w8) := bt (bt (bt HB6.out ((by repeat (first | exact Below.refl _ _ | assumption | refine Below.drew ?_ | refine below_drewN ?_ _ | refine Below.alloc ?_ (by simp <;> omega) _)))) hb7) hb8
     clear hb7 hb8 l3 a0 a1 a2 l4 d0 l5 c0 c1 c2 c3 HB6
     go_wp2_with fail
     refine (HA.out _ (bt HB.out HB8.out)).mono ?_
     rintro r w9 ⟨rfl, hb9⟩
     go_wp2_with fail
     go_ret
     exact ⟨rfl, bt (bt HB.out HB8.out) hb9⟩
end Go.Proofs.YtceoficoappkpaaGreatDoor
