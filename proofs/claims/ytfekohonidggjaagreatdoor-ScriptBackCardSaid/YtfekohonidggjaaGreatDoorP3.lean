/- Texts joined by a tool: contracts and walks of this claim. -/
import Derived.Test.YtfekohonidggjaaGreatDoorP2
namespace Go.Proofs.YtfekohonidggjaaGreatDoor
open Go.RowKit
theorem blk4v {w : World} {b : Nat} {a0 a1 a2 a3 : Value} {t : TypeId} (h : Blk w b #[a0, a1, a2, a3] t) : b < w.heap.size ∧ w.cell? ⟨b, 0, none⟩ = some a0 ∧ w.cell? ⟨b, 1, none⟩ = some a1 ∧ w.cell? ⟨b, 2, none⟩ = some a2 ∧ w.cell? ⟨b, 3, none⟩ = some a3 := ⟨h.lt, h.cell 0, h.cell 1, h.cell 2, h.cell 3⟩
theorem goP_bad : ∀ (ws : List (List UInt8)) (st : Ls) (n : Nat), goP st ws = .bad n → 0 < n
 | [], st, n, h => by
  unfold goP at h
  injection h with h
  omega
 | [x], st, n, h => by
  unfold goP at h
  split at h
  · cases h
  · injection h with h
    omega
 | x :: u :: ws, st, n, h => by
  unfold goP at h
  split at h
  · exact goP_bad (u :: ws) _ n h
  · injection h with h
    omega
def kCop (l : List Am) : Known := .mem (fun v w => ∃ (C : Option Addr) (m : List Am) (c : Nat), v = .slice C m.length c ∧ m.map (·.a) = l.map (·.a) ∧ AmRow w C m) (fun _ _ _ ⟨C, m, c, h1, h2, h3⟩ hb => ⟨C, m, c, h1, h2, h3.ext hb⟩)
set_option maxRecDepth 100000 in
set_option maxHeartbeats 6400000 in
theorem sback_walk (seg bd r0 r1 r2 : Int) (ts : List Ta) (A : Option Addr) (k : Nat) (l : List Am) (L : Option Addr) (lc : Nat) (text line word : ByteArray) (w : World) (ht : TRow w A k ts) (hl : AmRow w L l) (hz1 : text.size ≤ 140737488355328) (hz2 : line.size ≤ 140737488355328) (hz3 : word.size ≤ 140737488355328) (hL : LayS w) :
  Calls Tryz.prog 6 #[.agg #[.slice A ts.length k, .int .i64 seg, .int .i64 bd, .int .i64 r0, .int .i64 r1, .int .i64 r2], .slice L l.length lc, .string text, .string line, .string word] w fun r w' => r = .returned (.bool true) ∧ Below w.heap.size w w' := by
 have HAL := hd_ (fun (W : World) (hW : Below w.heap.size w W) => alive_any W (hL.ext hW))
 have HTS := hd_ ht
 have HAM := hd_ hl
 have HL := hd_ hL
 have hb1 : Below w.heap.size w (w.alloc (.cells #[.slice A ts.length k, .int .i64 seg, .int .i64 bd, .int .i64 r0, .int .i64 r1, .int .i64 r2] 27)) := bel1 _ _
 have HB1 := hd_ hb1
 have HK1 := hd_ (Blk.new w #[.slice A ts.length k, .int .i64 seg, .int .i64 bd, .int .i64 r0, .int .i64 r1, .int .i64 r2] 27)
 have HHV := hd_ (heavy_any seg bd r0 r1 r2 ts A k l L lc _ (ht.ext hb1) (hl.ext hb1))
 unfold Cf.agg at HHV
 simp only at HHV
 clear ht hl hL hb1
 go_enter Tryz.func6, Tryz.ntmps6
 go_upto_region 1 with fail
 generalize w.alloc (.cells #[.slice A ts.length k, .int .i64 seg, .int .i64 bd, .int .i64 r0, .int .i64 r1, .int .i64 r2] 27) = w1 at HB1 HK1 HHV ⊢
 obtain ⟨d9, d0, d1, d2, d3, d4, d5⟩ := blk6 HK1.out
 go_wp2_with fail
 refine HHV.out.mono ?_
 rintro r w2 ⟨⟨v, rfl, hv⟩, hb⟩
 have HB2 := hd_ (bt HB1.out hb)
 have HK2 := hd_ (HK1.out.ext hb)
 clear hb d9 d0 d1 d2 d3 d4 d5 HHV HB1 HK1
 cases v with
 | true =>
  clear hv
  go_wp2_with fail
  refine (HAL.out _ HB2.out).mono ?_
  rintro r wz ⟨rfl, hbz⟩
  have HBZ := hd_ (bt HB2.out hbz)
  clear hbz
  go_wp2_with fail
  go_ret
  exact ⟨rfl, HBZ.out⟩
 | false =>
  obtain ⟨h300, hrow⟩ := hv rfl
  clear hv
  by_cases htx : 16384 < text.size
  · have htI : (16384 : Int) < text.size := by omega
    clear htx hrow h300
    go_wp2_with fail
    refine (HAL.out _ HB2.out).mono ?_
    rintro r wz ⟨rfl, hbz⟩
    have HBZ := hd_ (bt HB2.out hbz)
    clear hbz
    go_wp2_with fail
    go_ret
    exact ⟨rfl, HBZ.out⟩
  by_cases hlw : 4096 < line.size + word.size
  · have htI : ¬ (16384 : Int) < text.size := by omega
    have hlI : (4096 : Int) < (line.size : Int) + word.size := by omega
    clear htx hlw hrow h300
    go_wp2_with fail
    refine (HAL.out _ HB2.out).mono ?_
    rintro r wz ⟨rfl, hbz⟩
    have HBZ := hd_ (bt HB2.out hbz)
    clear hbz
    go_wp2_with fail
    go_ret
    exact ⟨rfl, HBZ.out⟩
  have htI : ¬ (16384 : Int) < text.size := by omega
  have hlI : ¬ (4096 : Int) < (line.size : Int) + word.size := by omega
  have HCP := hd_ (fun (W : World) (hW : Below w.heap.size w W) => copied_any l L lc W (HAM.out.ext hW) h300 hrow)
  have H300 := hd_ h300
  clear hrow h300
  have HTX := hd_ htx
  have HLW := hd_ hlw
  go_upto_region 3 with fail
  clear htI hlI htx hlw
  obtain ⟨s, e, hV, hor⟩ : ∃ (s : ByteArray) (e : Int), writeV ⟨seg, bd, r0, r1, r2, ts⟩ (l.map (·.a)) = .tuple #[.string s, .int .i64 e] ∧ ((e ≠ 0 ∧ s = ⟨#[]⟩) ∨ (e = 0 ∧ s.size ≤ 1048576 ∧ goP Ls0 (spW 10 s.data.toList) = .ok (mid ⟨seg, bd, r0, r1, r2, ts⟩ (ts.map Ta.z) (l.map (·.a))))) := by
   rcases writeV_cases ⟨seg, bd, r0, r1, r2, ts⟩ (l.map (·.a)) with ⟨e, he, h⟩ | ⟨h1, h2, h3, h4⟩
   · exact ⟨_, e, h, Or.inl ⟨he, rfl⟩⟩
   · refine ⟨_, 0, h4, Or.inr ⟨rfl, by rw [bsO_size]; exact h3, read_written h1 h2 h3 (fun t ht => ⟨(HTS.out.1 t ht).1, (HTS.out.1 t ht).2.1⟩) (fun a ha => ?_)⟩⟩
     obtain ⟨x, hx, rfl⟩ := List.mem_map.1 ha
     exact (HAM.out.1 x hx).1
  have HOR := hd_ hor
  have HWR : Hid (∀ (W : World), Below w.heap.size w W → ∀ (C : Option Addr) (m : List Am) (c : Nat), m.map (·.a) = l.map (·.a) → AmRow W C m → Calls Tryz.prog 10 #[.agg #[.slice A ts.length k, .int .i64 seg, .int .i64 bd, .int .i64 r0, .int .i64 r1, .int .i64 r2], .slice C m.length c] W fun r w' => r = .returned (.tuple #[.string s, .int .i64 e]) ∧ Below W.heap.size W w') := fun W hW C m c hm ham => by
   have hml : m.length = l.length := by have := congrArg List.length hm; simpa using this
   have h := write_any seg bd r0 r1 r2 ts A k m C c W (HTS.out.ext hW) ham (HL.out.ext hW) (by have := H300.out; omega)
   rw [hm, hV] at h
   exact h
  clear hV hor
  refine region_grow [false, false, false, false, false, false, false, false, false, false, false, true, true, false, false, false, false, false, false, false, false, false, false, false, false, false, false, false, false, false, false, false, false, false, false, false, false, false, false, false, false, false, false, false, false, false, true, true, true, true, true, true, true, false, false, false, false, false, false, false, false, false, false, false, false, false, false, false, false, false, false, false, false, false, false, false, false, false, false, false, false, false, false, false, false, false, false, false, false, false, false, false, false, false, false, false, false, false, false, false, false, false, false, false, false, false, false, false, false, false, false, false, false, false, false, false, false, false, false, false, false, false, false, false, false, false, false, false, false, false, false, false, false, false, false, false, false, false, false, false, false, false, false, false, false, false, false, false, false, false, false, false] [47, 48, 49, 50, 46, 51, 52, 11, 12] [.val (.agg #[.slice A ts.length k, .int .i64 seg, .int .i64 bd, .int .i64 r0, .int .i64 r1, .int .i64 r2]), .val (.slice L l.length lc), kCop l, .val (.tuple #[.string s, .int .i64 e]), .val (.tuple #[.string s, .int .i64 e]), .val (.string s), .val (.int .i64 e), .val (.string s), .val (.int .i64 e)] [7, 8] (by kernel_rfl) (by kernel_rfl) (by kernel_rfl) (by kernel_rfl) (by kernel_rfl) ⟨?_, ?_, ?_, ?_, ?_, ?_, ?_, ?_, ?_, trivial⟩ ?done
  case done =>
   intro x w3 hb3
   simp only [StepGoal, overlay, upd, cond_true, cond_false, List.getD_cons_zero, List.getD_cons_succ, Nat.zero_add, Nat.reduceAdd, Nat.reduceEqDiff, reduceIte]
   have HB3 := hd_ (bt HB2.out hb3)
   have HK3 := hd_ (HK2.out.ext hb3)
   clear hb3 HB2 HK2 HCP HWR
   go_upto_if 54 with fail
   go_cut [] (fun wx => Hid (Below w.heap.size w wx))
   case first =>
    rcases HOR.out with ⟨he, rfl⟩ | ⟨rfl, hsz, hgo⟩
    · have heb : (e == 0) = false := by simp [he]
      go_wp2_with fail
      go_meet
      exact HB3.out
    · have HRD : Hid (Calls Tryz.prog 17 #[.string s] w3 fun r w' => (∃ T A1 kT C L1 kL, r = .returned (.tuple #[.agg #[.slice A1 (List.length T) kT, .int .i64 seg, .int .i64 bd, .int .i64 r0, .int .i64 r1, .int .i64 r2], .slice C (List.length L1) kL, .int .i64 0, .int .i64 0]) ∧ TRow w' A1 kT T ∧ AmRow w' C L1 ∧ T.map Ta.z = ts.map Ta.z ∧ L1.map (·.a) = l.map (·.a)) ∧ Below w3.heap.size w3 w') := by
       refine (read_any s w3 (HL.out.ext HB3.out)).mono fun r w' h => ⟨?_, h.2⟩
       have h1 := h.1
       unfold ReadQ at h1
       rw [if_neg (by omega), hgo] at h1
       obtain ⟨T, A1, kT, L1, C, kL, g1, g2, g3, g4, g5⟩ := h1
       exact ⟨T, A1, kT, C, L1, kL, g1, g2, g3, g4, g5⟩
      clear hsz hgo
      go_wp2_with fail
      refine HRD.out.mono ?_
      rintro r w4 ⟨⟨T, A1, kT, C, L1, kL, rfl, hT, hA, hTz, hLa⟩, hb4⟩
      have hbn : Below w4.heap.size w4 (w4.alloc (.cells #[.slice A1 T.length kT, .int .i64 seg, .int .i64 bd, .int .i64 r0, .int .i64 r1, .int .i64 r2] 27)) := bel1 _ _
      have hb35 := bt hb4 hbn
      have HB5 := hd_ (bt HB3.out hb35)
      have HK5 := hd_ (HK3.out.ext hb35)
      have HKN := hd_ (Blk.new w4 #[.slice A1 T.length kT, .int .i64 seg, .int .i64 bd, .int .i64 r0, .int .i64 r1, .int .i64 r2] 27)
      have HSM := hd_ (sameC_yes seg bd r0 r1 r2 ts T (same_z hTz) l L1 hLa.symm A A1 L C k kT lc kL _ (HTS.out.ext HB5.out) (hT.ext hbn) (HAM.out.ext HB5.out) (hA.ext hbn))
      unfold Cf.agg at HSM
      simp only at HSM
      clear hbn hb35 hb4 hT hA hTz hLa HRD
      go_upto_region 6 with fail
      generalize w4.alloc (.cells #[.slice A1 T.length kT, .int .i64 seg, .int .i64 bd, .int .i64 r0, .int .i64 r1, .int .i64 r2] 27) = w5 at HB5 HK5 HKN HSM ⊢
      obtain ⟨d9, d0, d1, d2, d3, d4, d5⟩ := blk6 HK5.out
      obtain ⟨f9, f0, f1, f2, f3, f4, f5⟩ := blk6 HKN.out
      go_wp2_with fail
      refine HSM.out.mono ?_
      rintro r w6 ⟨rfl, hb6⟩
      have HB6 := hd_ (bt HB5.out hb6)
      clear hb6 HSM d9 d0 d1 d2 d3 d4 d5 f9 f0 f1 f2 f3 f4 f5 HK5 HKN
      go_wp2_with fail
      go_meet
      exact HB6.out
   case rest =>
    have HBC := hd_ hcut.out
    have htx := HTX.out
    have hlw := HLW.out
    clear hcut HOR HK3 HB3 HAM HTS H300
    have HRT := hd_ (read_any text wc (HL.out.ext HBC.out))
    unfold ReadQ at HRT
    simp only [if_neg (show ¬ 1048576 < text.size by omega)] at HRT
    cases hgp : goP Ls0 (spW 10 text.data.toList) with
    | bad n =>
     have hn := goP_bad _ _ _ hgp
     have HRB : Hid (Calls Tryz.prog 17 #[.string text] wc fun r w' => r = .returned (.tuple #[.agg #[.slice none 0 0, .int .i64 0, .int .i64 0, .int .i64 0, .int .i64 0, .int .i64 0], .slice none 0 0, .int .i64 n, .int .i64 310]) ∧ Below wc.heap.size wc w') := by
      rw [hgp] at HRT
      exact HRT.out
     have HNN := hd_ hn
     clear HRT hgp htx hlw hn
     go_wp2_with fail
     refine HRB.out.mono ?_
     rintro r w5 ⟨rfl, hb5⟩
     have HB6 := hd_ (bt HBC.out (bt hb5 ((by repeat (first | exact Below.refl _ _ | assumption | refine Below.drew ?_ | refine below_drewN ?_ _ | refine Below.alloc ?_ (by simp <;> omega) _)) : Below w5.heap.size w5 (w5.alloc (.cells #[.slice none 0 0, .int .i64 0, .int .i64 0, .int .i64 0, .int .i64 0, .int .i64 0] 27)))))
     have HK6 := hd_ (Blk.new w5 #[.slice none 0 0, .int .i64 0, .int .i64 0, .int .i64 0, .int .i64 0, .int .i64 0] 27)
     clear hb5 HRB
     go_upto_region 11 with fail
     generalize w5.alloc (.cells #[.slice none 0 0, .int .i64 0, .int .i64 0, .int .i64 0, .int .i64 0, .int .i64 0] 27) = w6 at HB6 HK6 ⊢
     obtain ⟨d9, d0, d1, d2, d3, d4, d5⟩ := blk6 HK6.out
     have hnI : (0 : Int) < n := by have := HNN.out; omega
     have hnb : decide ((0 : Int) < (n : Int)) = true := decide_eq_true hnI
     have hnc : decide (0 < n) = true := decide_eq_true HNN.out
     have hn0 : 0 < n := HNN.out
     go_upto_region 17 with fail
     have hlw := HLW.out
     clear d9 d0 d1 d2 d3 d4 d5 HK6 hnI hnb hnc hn0
     have HRA := hd_ (readActE_any line (by omega) _ (HL.out.ext HB6.out))
     cases hra : readA line.data.toList with
     | none =>
      rw [hra] at HRA
      unfold RActP zAct at HRA
      simp only at HRA
      clear hra
      go_wp2_with fail
      refine HRA.out.mono ?_
      rintro r wa ⟨rfl, hba⟩
      have HBA := hd_ (bt HB6.out (bt hba ((by repeat (first | exact Below.refl _ _ | assumption | refine Below.drew ?_ | refine below_drewN ?_ _ | refine Below.alloc ?_ (by simp <;> omega) _)) : Below wa.heap.size wa (wa.alloc (.cells #[.int .u8 0, .int .u8 0, .int .i64 0, .slice none 0 0, .int .i64 0, .int .i64 0, .int .i64 0, .string ⟨#[]⟩] 42)))))
      clear hba HRA
      go_upto_region 18 with fail
      generalize wa.alloc (.cells #[.int .u8 0, .int .u8 0, .int .i64 0, .slice none 0 0, .int .i64 0, .int .i64 0, .int .i64 0, .string ⟨#[]⟩] 42) = wu at HBA ⊢
      go_upto_region 22 with fail
      have HRV := hd_ (scriptReadValue_any word (by omega) _ (HL.out.ext HBA.out))
      cases hrv : readV word.data.toList with
      | none =>
       rw [hrv] at HRV
       unfold readP at HRV
       simp only at HRV
       clear hrv
       go_wp2_with fail
       refine HRV.out.mono ?_
       rintro r wv ⟨rfl, hbv⟩
       have HBV := hd_ (bt HBA.out (bt hbv ((by repeat (first | exact Below.refl _ _ | assumption | refine Below.drew ?_ | refine below_drewN ?_ _ | refine Below.alloc ?_ (by simp <;> omega) _)) : Below wv.heap.size wv (wv.alloc (.cells #[.int .u8 0, .int .i64 0, .int .u64 0, .string ⟨#[]⟩] 48)))))
       clear hbv HRV
       go_upto_region 23 with fail
       generalize wv.alloc (.cells #[.int .u8 0, .int .i64 0, .int .u64 0, .string ⟨#[]⟩] 48) = wy at HBV ⊢
       go_wp2_with fail
       refine (HAL.out _ HBV.out).mono ?_
       rintro r wz ⟨rfl, hbz⟩
       have HBZ := hd_ (bt HBV.out hbz)
       clear hbz
       go_wp2_with fail
       go_ret
       exact ⟨rfl, HBZ.out⟩
      | some v =>
       obtain ⟨hvw, hvm, hve⟩ := (readV_some (by simp; omega)).1 hrv
       rw [hrv] at HRV
       obtain ⟨vk, vn, vr, vt⟩ := v
       unfold readP V.agg at HRV
       simp only at HRV
       clear hrv
       go_wp2_with fail
       refine HRV.out.mono ?_
       rintro r wv ⟨rfl, hbv⟩
       have HBV := hd_ (bt HBA.out (bt hbv ((by repeat (first | exact Below.refl _ _ | assumption | refine Below.drew ?_ | refine below_drewN ?_ _ | refine Below.alloc ?_ (by simp <;> omega) _)) : Below wv.heap.size wv (wv.alloc (.cells #[.int .u8 vk, .int .i64 vn, .int .u64 vr, .string vt] 48)))))
       have HKV := hd_ (Blk.new wv #[.int .u8 vk, .int .i64 vn, .int .u64 vr, .string vt] 48)
       have HVA := hd_ (valueT_any ⟨vk, vn, vr, vt⟩ hvw _ (HL.out.ext HBV.out))
       rw [valT_yes hvm, hve, show bsO word.data.toList = word from rfl] at HVA
       unfold V.agg at HVA
       simp only at HVA
       clear hbv HRV hvw hvm hve
       go_upto_region 23 with fail
       generalize wv.alloc (.cells #[.int .u8 vk, .int .i64 vn, .int .u64 vr, .string vt] 48) = wy at HBV HKV HVA ⊢
       obtain ⟨bl, y0, y1, y2, y3⟩ := blk4v HKV.out
       go_wp2_with fail
       refine HVA.out.mono ?_
       rintro r wx ⟨rfl, hbx⟩
       have HBX := hd_ (bt HBV.out hbx)
       clear hbx HVA HKV bl y0 y1 y2 y3
       go_wp2_with fail
       refine (HAL.out _ HBX.out).mono ?_
       rintro r wz ⟨rfl, hbz⟩
       have HBZ := hd_ (bt HBX.out hbz)
       clear hbz
       go_wp2_with fail
       go_ret
       exact ⟨rfl, HBZ.out⟩
     | some a =>
      obtain ⟨haw, hat⟩ := (readA_some (by simp; omega)).1 hra
      rw [hra] at HRA
      clear hra
      go_wp2_with fail
      refine HRA.out.mono ?_
      rintro r wa ⟨⟨P, pc, rfl, hvr, _⟩, hba⟩
      obtain ⟨d, kk, tb, row, n, m, q, nm⟩ := a
      unfold Ac.agg
      simp only at hvr ⊢
      have hbn : Below wa.heap.size wa (wa.alloc (.cells #[.int .u8 d, .int .u8 kk, .int .i64 tb, .slice P row.length pc, .int .i64 n, .int .i64 m, .int .i64 q, .string nm] 42)) := bel1 _ _
      have HBA := hd_ (bt HB6.out (bt hba hbn))
      have HKA := hd_ (Blk.new wa #[.int .u8 d, .int .u8 kk, .int .i64 tb, .slice P row.length pc, .int .i64 n, .int .i64 m, .int .i64 q, .string nm] 42)
      have HAC := hd_ (act_any ⟨d, kk, tb, row, n, m, q, nm⟩ haw P pc _ (hvr.ext hbn) (HL.out.ext HBA.out))
      rw [hat] at HAC
      unfold actP Ac.agg at HAC
      simp only at HAC
      rw [show bsO line.data.toList = line from rfl] at HAC
      clear hba hbn hvr haw hat HRA
      go_upto_region 18 with fail
      generalize wa.alloc (.cells #[.int .u8 d, .int .u8 kk, .int .i64 tb, .slice P row.length pc, .int .i64 n, .int .i64 m, .int .i64 q, .string nm] 42) = wu at HBA HKA HAC ⊢
      obtain ⟨e8, e0, e1, e2, e3, e4, e5, e6, e7⟩ := blkA HKA.out
      go_wp2_with fail
      refine HAC.out.mono ?_
      rintro r wt ⟨rfl, hbt⟩
      have HBT := hd_ (bt HBA.out hbt)
      clear hbt HAC HKA e8 e0 e1 e2 e3 e4 e5 e6 e7
      go_upto_region 22 with fail
      have HRV := hd_ (scriptReadValue_any word (by omega) _ (HL.out.ext HBT.out))
      cases hrv : readV word.data.toList with
      | none =>
       rw [hrv] at HRV
       unfold readP at HRV
       simp only at HRV
       clear hrv
       go_wp2_with fail
       refine HRV.out.mono ?_
       rintro r wv ⟨rfl, hbv⟩
       have HBV := hd_ (bt HBT.out (bt hbv ((by repeat (first | exact Below.refl _ _ | assumption | refine Below.drew ?_ | refine below_drewN ?_ _ | refine Below.alloc ?_ (by simp <;> omega) _)) : Below wv.heap.size wv (wv.alloc (.cells #[.int .u8 0, .int .i64 0, .int .u64 0, .string ⟨#[]⟩] 48)))))
       clear hbv HRV
       go_upto_region 23 with fail
       generalize wv.alloc (.cells #[.int .u8 0, .int .i64 0, .int .u64 0, .string ⟨#[]⟩] 48) = wy at HBV ⊢
       go_wp2_with fail
       refine (HAL.out _ HBV.out).mono ?_
       rintro r wz ⟨rfl, hbz⟩
       have HBZ := hd_ (bt HBV.out hbz)
       clear hbz
       go_wp2_with fail
       go_ret
       exact ⟨rfl, HBZ.out⟩
      | some v =>
       obtain ⟨hvw, hvm, hve⟩ := (readV_some (by simp; omega)).1 hrv
       rw [hrv] at HRV
       obtain ⟨vk, vn, vr, vt⟩ := v
       unfold readP V.agg at HRV
       simp only at HRV
       clear hrv
       go_wp2_with fail
       refine HRV.out.mono ?_
       rintro r wv ⟨rfl, hbv⟩
       have HBV := hd_ (bt HBT.out (bt hbv ((by repeat (first | exact Below.refl _ _ | assumption | refine Below.drew ?_ | refine below_drewN ?_ _ | refine Below.alloc ?_ (by simp <;> omega) _)) : Below wv.heap.size wv (wv.alloc (.cells #[.int .u8 vk, .int .i64 vn, .int .u64 vr, .string vt] 48)))))
       have HKV := hd_ (Blk.new wv #[.int .u8 vk, .int .i64 vn, .int .u64 vr, .string vt] 48)
       have HVA := hd_ (valueT_any ⟨vk, vn, vr, vt⟩ hvw _ (HL.out.ext HBV.out))
       rw [valT_yes hvm, hve, show bsO word.data.toList = word from rfl] at HVA
       unfold V.agg at HVA
       simp only at HVA
       clear hbv HRV hvw hvm hve
       go_upto_region 23 with fail
       generalize wv.alloc (.cells #[.int .u8 vk, .int .i64 vn, .int .u64 vr, .string vt] 48) = wy at HBV HKV HVA ⊢
       obtain ⟨bl, y0, y1, y2, y3⟩ := blk4v HKV.out
       go_wp2_with fail
       refine HVA.out.mono ?_
       rintro r wx ⟨rfl, hbx⟩
       have HBX := hd_ (bt HBV.out hbx)
       clear hbx HVA HKV bl y0 y1 y2 y3
       go_wp2_with fail
       refine (HAL.out _ HBX.out).mono ?_
       rintro r wz ⟨rfl, hbz⟩
       have HBZ := hd_ (bt HBX.out hbz)
       clear hbz
       go_wp2_with fail
       go_ret
       exact ⟨rfl, HBZ.out⟩
    | ok st =>
     obtain ⟨hwt, hll⟩ : (∀ T : List Ta, T.map Ta.z = st.ts → writeV ⟨st.seg, st.bd, st.r0, st.r1, st.r2, T⟩ st.l = .tuple #[.string text, .int .i64 0]) ∧ st.l.length ≤ text.size := ⟨fun T hT => (writeV_read hgp (by omega) hT).1, (writeV_read hgp (by omega) (T := st.ts) (by
      have := (read_write (by simp; omega) hgp).1.tz
      refine (List.map_congr_left fun t ht => ((this t ht).1).symm).trans (List.map_id _))).2⟩
     have HRB : Hid (Calls Tryz.prog 17 #[.string text] wc fun r w' => (∃ T A kT L C kL, r = .returned (.tuple #[.agg #[.slice A (List.length T) kT, .int .i64 st.seg, .int .i64 st.bd, .int .i64 st.r0, .int .i64 st.r1, .int .i64 st.r2], .slice C (List.length L) kL, .int .i64 0, .int .i64 0]) ∧ TRow w' A kT T ∧ AmRow w' C L ∧ T.map Ta.z = st.ts ∧ L.map (·.a) = st.l) ∧ Below wc.heap.size wc w') := by
      rw [hgp] at HRT
      exact HRT.out
     have HWT := hd_ hwt
     have HLLn : Hid (st.l.length ≤ 16384) := by show _ ≤ _; omega
     clear HRT hgp htx hlw hwt hll
     go_wp2_with fail
     refine HRB.out.mono ?_
     rintro r w5 ⟨⟨T, A5, kT, L5, C5, kL, rfl, hT, hA, hTz, hLa⟩, hb5⟩
     have hbn : Below w5.heap.size w5 (w5.alloc (.cells #[.slice A5 T.length kT, .int .i64 st.seg, .int .i64 st.bd, .int .i64 st.r0, .int .i64 st.r1, .int .i64 st.r2] 27)) := bel1 _ _
     have HB6 := hd_ (bt HBC.out (bt hb5 hbn))
     have HK6 := hd_ (Blk.new w5 #[.slice A5 T.length kT, .int .i64 st.seg, .int .i64 st.bd, .int .i64 st.r0, .int .i64 st.r1, .int .i64 st.r2] 27)
     have HWR := hd_ (write_any st.seg st.bd st.r0 st.r1 st.r2 T A5 kT L5 C5 kL _ (hT.ext hbn) (hA.ext hbn) (HL.out.ext HB6.out) (by
      have h1 : L5.length = st.l.length := by rw [← hLa]; simp
      have := HLLn.out
      omega))
     rw [hLa, HWT.out T hTz] at HWR
     unfold Cf.agg at HWR
     simp only at HWR
     clear hb5 hbn hT hA hTz hLa HRB
     go_upto_region 11 with fail
     generalize w5.alloc (.cells #[.slice A5 T.length kT, .int .i64 st.seg, .int .i64 st.bd, .int .i64 st.r0, .int .i64 st.r1, .int .i64 st.r2] 27) = w6 at HB6 HK6 HWR ⊢
     obtain ⟨d9, d0, d1, d2, d3, d4, d5⟩ := blk6 HK6.out
     go_wp2_with fail
     refine HWR.out.mono ?_
     rintro r w7 ⟨rfl, hb7⟩
     have HB7 := hd_ (bt HB6.out hb7)
     clear hb7 HWR HK6 HB6 d9 d0 d1 d2 d3 d4 d5
     go_upto_region 17 with fail
     have hlw := HLW.out
     have HRA := hd_ (readActE_any line (by omega) _ (HL.out.ext HB7.out))
     cases hra : readA line.data.toList with
     | none =>
      rw [hra] at HRA
      unfold RActP zAct at HRA
      simp only at HRA
      clear hra
      go_wp2_with fail
      refine HRA.out.mono ?_
      rintro r wa ⟨rfl, hba⟩
      have HBA := hd_ (bt HB7.out (bt hba ((by repeat (first | exact Below.refl _ _ | assumption | refine Below.drew ?_ | refine below_drewN ?_ _ | refine Below.alloc ?_ (by simp <;> omega) _)) : Below wa.heap.size wa (wa.alloc (.cells #[.int .u8 0, .int .u8 0, .int .i64 0, .slice none 0 0, .int .i64 0, .int .i64 0, .int .i64 0, .string ⟨#[]⟩] 42)))))
      clear hba HRA
      go_upto_region 18 with fail
      generalize wa.alloc (.cells #[.int .u8 0, .int .u8 0, .int .i64 0, .slice none 0 0, .int .i64 0, .int .i64 0, .int .i64 0, .string ⟨#[]⟩] 42) = wu at HBA ⊢
      go_upto_region 22 with fail
      have HRV := hd_ (scriptReadValue_any word (by omega) _ (HL.out.ext HBA.out))
      cases hrv : readV word.data.toList with
      | none =>
       rw [hrv] at HRV
       unfold readP at HRV
       simp only at HRV
       clear hrv
       go_wp2_with fail
       refine HRV.out.mono ?_
       rintro r wv ⟨rfl, hbv⟩
       have HBV := hd_ (bt HBA.out (bt hbv ((by repeat (first | exact Below.refl _ _ | assumption | refine Below.drew ?_ | refine below_drewN ?_ _ | refine Below.alloc ?_ (by simp <;> omega) _)) : Below wv.heap.size wv (wv.alloc (.cells #[.int .u8 0, .int .i64 0, .int .u64 0, .string ⟨#[]⟩] 48)))))
       clear hbv HRV
       go_upto_region 23 with fail
       generalize wv.alloc (.cells #[.int .u8 0, .int .i64 0, .int .u64 0, .string ⟨#[]⟩] 48) = wy at HBV ⊢
       go_wp2_with fail
       refine (HAL.out _ HBV.out).mono ?_
       rintro r wz ⟨rfl, hbz⟩
       have HBZ := hd_ (bt HBV.out hbz)
       clear hbz
       go_wp2_with fail
       go_ret
       exact ⟨rfl, HBZ.out⟩
      | some v =>
       obtain ⟨hvw, hvm, hve⟩ := (readV_some (by simp; omega)).1 hrv
       rw [hrv] at HRV
       obtain ⟨vk, vn, vr, vt⟩ := v
       unfold readP V.agg at HRV
       simp only at HRV
       clear hrv
       go_wp2_with fail
       refine HRV.out.mono ?_
       rintro r wv ⟨rfl, hbv⟩
       have HBV := hd_ (bt HBA.out (bt hbv ((by repeat (first | exact Below.refl _ _ | assumption | refine Below.drew ?_ | refine below_drewN ?_ _ | refine Below.alloc ?_ (by simp <;> omega) _)) : Below wv.heap.size wv (wv.alloc (.cells #[.int .u8 vk, .int .i64 vn, .int .u64 vr, .string vt] 48)))))
       have HKV := hd_ (Blk.new wv #[.int .u8 vk, .int .i64 vn, .int .u64 vr, .string vt] 48)
       have HVA := hd_ (valueT_any ⟨vk, vn, vr, vt⟩ hvw _ (HL.out.ext HBV.out))
       rw [valT_yes hvm, hve, show bsO word.data.toList = word from rfl] at HVA
       unfold V.agg at HVA
       simp only at HVA
       clear hbv HRV hvw hvm hve
       go_upto_region 23 with fail
       generalize wv.alloc (.cells #[.int .u8 vk, .int .i64 vn, .int .u64 vr, .string vt] 48) = wy at HBV HKV HVA ⊢
       obtain ⟨bl, y0, y1, y2, y3⟩ := blk4v HKV.out
       go_wp2_with fail
       refine HVA.out.mono ?_
       rintro r wx ⟨rfl, hbx⟩
       have HBX := hd_ (bt HBV.out hbx)
       clear hbx HVA HKV bl y0 y1 y2 y3
       go_wp2_with fail
       refine (HAL.out _ HBX.out).mono ?_
       rintro r wz ⟨rfl, hbz⟩
       have HBZ := hd_ (bt HBX.out hbz)
       clear hbz
       go_wp2_with fail
       go_ret
       exact ⟨rfl, HBZ.out⟩
     | some a =>
      obtain ⟨haw, hat⟩ := (readA_some (by simp; omega)).1 hra
      rw [hra] at HRA
      clear hra
      go_wp2_with fail
      refine HRA.out.mono ?_
      rintro r wa ⟨⟨P, pc, rfl, hvr, _⟩, hba⟩
      obtain ⟨d, kk, tb, row, n, m, q, nm⟩ := a
      unfold Ac.agg
      simp only at hvr ⊢
      have hbn : Below wa.heap.size wa (wa.alloc (.cells #[.int .u8 d, .int .u8 kk, .int .i64 tb, .slice P row.length pc, .int .i64 n, .int .i64 m, .int .i64 q, .string nm] 42)) := bel1 _ _
      have HBA := hd_ (bt HB7.out (bt hba hbn))
      have HKA := hd_ (Blk.new wa #[.int .u8 d, .int .u8 kk, .int .i64 tb, .slice P row.length pc, .int .i64 n, .int .i64 m, .int .i64 q, .string nm] 42)
      have HAC := hd_ (act_any ⟨d, kk, tb, row, n, m, q, nm⟩ haw P pc _ (hvr.ext hbn) (HL.out.ext HBA.out))
      rw [hat] at HAC
      unfold actP Ac.agg at HAC
      simp only at HAC
      rw [show bsO line.data.toList = line from rfl] at HAC
      clear hba hbn hvr haw hat HRA
      go_upto_region 18 with fail
      generalize wa.alloc (.cells #[.int .u8 d, .int .u8 kk, .int .i64 tb, .slice P row.length pc, .int .i64 n, .int .i64 m, .int .i64 q, .string nm] 42) = wu at HBA HKA HAC ⊢
      obtain ⟨e8, e0, e1, e2, e3, e4, e5, e6, e7⟩ := blkA HKA.out
      go_wp2_with fail
      refine HAC.out.mono ?_
      rintro r wt ⟨rfl, hbt⟩
      have HBT := hd_ (bt HBA.out hbt)
      clear hbt HAC HKA e8 e0 e1 e2 e3 e4 e5 e6 e7
      go_upto_region 22 with fail
      have HRV := hd_ (scriptReadValue_any word (by omega) _ (HL.out.ext HBT.out))
      cases hrv : readV word.data.toList with
      | none =>
       rw [hrv] at HRV
       unfold readP at HRV
       simp only at HRV
       clear hrv
       go_wp2_with fail
       refine HRV.out.mono ?_
       rintro r wv ⟨rfl, hbv⟩
       have HBV := hd_ (bt HBT.out (bt hbv ((by repeat (first | exact Below.refl _ _ | assumption | refine Below.drew ?_ | refine below_drewN ?_ _ | refine Below.alloc ?_ (by simp <;> omega) _)) : Below wv.heap.size wv (wv.alloc (.cells #[.int .u8 0, .int .i64 0, .int .u64 0, .string ⟨#[]⟩] 48)))))
       clear hbv HRV
       go_upto_region 23 with fail
       generalize wv.alloc (.cells #[.int .u8 0, .int .i64 0, .int .u64 0, .string ⟨#[]⟩] 48) = wy at HBV ⊢
       go_wp2_with fail
       refine (HAL.out _ HBV.out).mono ?_
       rintro r wz ⟨rfl, hbz⟩
       have HBZ := hd_ (bt HBV.out hbz)
       clear hbz
       go_wp2_with fail
       go_ret
       exact ⟨rfl, HBZ.out⟩
      | some v =>
       obtain ⟨hvw, hvm, hve⟩ := (readV_some (by simp; omega)).1 hrv
       rw [hrv] at HRV
       obtain ⟨vk, vn, vr, vt⟩ := v
       unfold readP V.agg at HRV
       simp only at HRV
       clear hrv
       go_wp2_with fail
       refine HRV.out.mono ?_
       rintro r wv ⟨rfl, hbv⟩
       have HBV := hd_ (bt HBT.out (bt hbv ((by repeat (first | exact Below.refl _ _ | assumption | refine Below.drew ?_ | refine below_drewN ?_ _ | refine Below.alloc ?_ (by simp <;> omega) _)) : Below wv.heap.size wv (wv.alloc (.cells #[.int .u8 vk, .int .i64 vn, .int .u64 vr, .string vt] 48)))))
       have HKV := hd_ (Blk.new wv #[.int .u8 vk, .int .i64 vn, .int .u64 vr, .string vt] 48)
       have HVA := hd_ (valueT_any ⟨vk, vn, vr, vt⟩ hvw _ (HL.out.ext HBV.out))
       rw [valT_yes hvm, hve, show bsO word.data.toList = word from rfl] at HVA
       unfold V.agg at HVA
       simp only at HVA
       clear hbv HRV hvw hvm hve
       go_upto_region 23 with fail
       generalize wv.alloc (.cells #[.int .u8 vk, .int .i64 vn, .int .u64 vr, .string vt] 48) = wy at HBV HKV HVA ⊢
       obtain ⟨bl, y0, y1, y2, y3⟩ := blk4v HKV.out
       go_wp2_with fail
       refine HVA.out.mono ?_
       rintro r wx ⟨rfl, hbx⟩
       have HBX := hd_ (bt HBV.out hbx)
       clear hbx HVA HKV bl y0 y1 y2 y3
       go_wp2_with fail
       refine (HAL.out _ HBX.out).mono ?_
       rintro r wz ⟨rfl, hbz⟩
       have HBZ := hd_ (bt HBX.out hbz)
       clear hbz
       go_wp2_with fail
       go_ret
       exact ⟨rfl, HBZ.out⟩
  all_goals
   intro x w3 hb3
   have hk3 := HK2.out.ext hb3
   first
    | (intro K hK
       obtain ⟨d9, d0, d1, d2, d3, d4, d5⟩ := blk6 hk3
       rw [if_pos (by rfl)]; simp only [overlay, upd, cond_true, cond_false, List.getD_cons_zero, List.getD_cons_succ, Nat.reduceEqDiff, reduceIte]
       go_simp
       first
        | exact hK.out _ _ (Below.refl _ _) rfl
        | (refine (HCP.out _ (bt HB2.out hb3)).mono ?_
           rintro r w4 ⟨⟨C, m, c, rfl, hm, ham⟩, hb4⟩
           go_wp2_with fail
           exact hK.out _ _ hb4 ⟨C, m, c, rfl, hm, ham⟩))
    | (rintro _ ⟨C, m, c, rfl, hm, ham⟩ K hK
       rw [if_pos (by rfl)]; simp only [overlay, upd, cond_true, cond_false, List.getD_cons_zero, List.getD_cons_succ, Nat.reduceEqDiff, reduceIte]
       go_simp
       refine (HWR.out _ (bt HB2.out hb3) C m c hm ham).mono ?_
       rintro r w4 ⟨rfl, hb4⟩
       go_wp2_with fail
       exact hK.out _ _ hb4 rfl)
    | (rintro v1 hv1 _ ⟨C, m, c, rfl, hm, ham⟩ K hK
       clear hv1
       rw [if_pos (by rfl)]; simp only [overlay, upd, cond_true, cond_false, List.getD_cons_zero, List.getD_cons_succ, Nat.reduceEqDiff, reduceIte]
       go_simp
       refine (HWR.out _ (bt HB2.out hb3) C m c hm ham).mono ?_
       rintro r w4 ⟨rfl, hb4⟩
       go_wp2_with fail
       exact hK.out _ _ hb4 rfl)
    | (rintro _ ⟨C, m, c, rfl, hm, ham⟩ K hK
       rw [if_pos (by rfl)]; simp only [overlay, upd, cond_true, cond_false, List.getD_cons_zero, List.getD_cons_succ, Nat.reduceEqDiff, reduceIte]
       go_simp
       exact hK.out _ _ (Below.refl _ _) rfl)
end Go.Proofs.YtfekohonidggjaaGreatDoor
namespace Go.Proofs.YtfekohonidggjaaGreatDoor.cardScriptBack
open Go.ChangeShapes Go.WideShapes Go.ChangeAt Go.RowKit Go.Deep

set_option maxRecDepth 100000 in
theorem contract (H : Type) (enc : TypeId × Value → H) (W : World) (base : Nat) (args : Array Value) (ds gs : List (DataW H)) (before : List MemPlace)
  (hval : ∀ (j : Nat) t v, Tryz.f6.params[j]? = some t → args[j]? = some v → Value.okWide Tryz.prog W .any base t v)
  (hW : DataW.Whole enc Tryz.prog Tryz.f6.params.toList Rows.scriptBackSpec.vars false W args.toList ds gs before)
  (hsz : (DataW.weightsEach Tryz.prog (Tryz.f6.params.toList ++ (OpenSpec.ofChange Rows.scriptBackSpec).bare.plain.varTypes Tryz.prog) (ds ++ gs)).all (· ≤ reachBytes) = true)
  (hsh : W.ShapedOpen Tryz.prog)
  (hL : laidMetH Tryz.prog Rows.scriptBackRow.laid W) :
  Calls Tryz.prog 6 args W fun e W' => ∃ v, e = .returned v ∧ Rows.scriptBackSpec.post enc Tryz.prog Tryz.f6 false true false false W args v W' := by
 have hT : LayS W := lays_of_list hL hsh
 have hW' := hW
 obtain ⟨p, q, hA0, hV, rfl, hfz, hnd⟩ := hW
 have hA : DataW.TrodAll enc Tryz.prog W 0 (fun _ => true) true Tryz.f6.params.toList args.toList ds p := hA0
 clear hA0
 obtain ⟨rfl, rfl⟩ := trodVars_none hV
 have hwt : ∀ (j : Nat) (t : TypeId) (d : DataW H), Tryz.f6.params.toList[j]? = some t → ds[j]? = some d → ∀ n ∈ d.weights Tryz.prog t, n ≤ reachBytes := by
  intro j t d ht hd n hn
  have hj : (Tryz.f6.params.toList ++ (OpenSpec.ofChange Rows.scriptBackSpec).bare.plain.varTypes Tryz.prog)[j]? = some t := by
   rw [List.getElem?_append_left (List.getElem?_eq_some_iff.1 ht).1]; exact ht
  have hd' : (ds ++ [])[j]? = some d := by rw [List.append_nil]; exact hd
  have := List.all_eq_true.1 hsz n (DataW.weights_mem_each hj hd' n hn)
  simpa using this
 rw [Tryz.params6] at hA hval hwt
 obtain ⟨v0, vs0, d0, ds0, p0, q0, hargs, rfl, rfl, h0, r0⟩ := trodAll_cons hA
 obtain ⟨v1, vs1, d1, ds1, p1, q1, rfl, rfl, rfl, h1, r1⟩ := trodAll_cons r0
 obtain ⟨v2, vs2, d2, ds2, p2, q2, rfl, rfl, rfl, h2, r2⟩ := trodAll_cons r1
 obtain ⟨v3, vs3, d3, ds3, p3, q3, rfl, rfl, rfl, h3, r3⟩ := trodAll_cons r2
 obtain ⟨v4, vs4, d4, ds4, p4, q4, rfl, rfl, rfl, h4, r4⟩ := trodAll_cons r3
 obtain ⟨rfl, rfl, rfl⟩ := trodAll_nil r4
 obtain rfl : args = #[v0, v1, v2, v3, v4] := by cases args; simp_all
 obtain ⟨cs0, rfl, _⟩ := okWide_struct Tryz.underlying27 (hval 0 27 v0 rfl rfl)
 obtain ⟨fuel0, hf0⟩ := h0
 obtain ⟨l0, A0, c0, sg0, bd0, ra0, rb0, rc0, e0, hs0⟩ := open_Cf (cs := cs0.toList) hf0 (hwt 0 27 d0 rfl rfl)
 have e0' : cs0 = #[.slice A0 l0.length c0, .int .i64 sg0, .int .i64 bd0, .int .i64 ra0, .int .i64 rb0, .int .i64 rc0] := by rw [← Array.toArray_toList (xs := cs0), e0]
 subst e0'
 obtain ⟨fuel1, hf1⟩ := h1
 obtain ⟨a1, n1, c1, rfl⟩ := okWide_slice Tryz.underlying28 (hval 1 28 v1 rfl rfl)
 obtain ⟨A1, l1, k1, e1, hr1⟩ := open_amrow (cs := [Value.slice a1 n1 c1]) hf1 (hwt 1 28 d1 rfl rfl)
 injection e1 with e1 _
 rw [e1] at hW' ⊢
 obtain ⟨s2, rfl, rfl, rfl, hs2⟩ := ChangeMaps.open_string Tryz.underlying9 (hval 2 9 v2 rfl rfl) h2
 have hz2 : s2.size ≤ 140737488355328 := by
  have h1 := hwt 2 9 _ rfl rfl s2.data.toList.length (by simp [DataW.weights])
  have h2 : s2.data.toList.length = s2.size := by simp
  have h3 : reachBytes ≤ 140737488355328 := by decide
  omega
 obtain ⟨s3, rfl, rfl, rfl, hs3⟩ := ChangeMaps.open_string Tryz.underlying9 (hval 3 9 v3 rfl rfl) h3
 have hz3 : s3.size ≤ 140737488355328 := by
  have h1 := hwt 3 9 _ rfl rfl s3.data.toList.length (by simp [DataW.weights])
  have h2 : s3.data.toList.length = s3.size := by simp
  have h3 : reachBytes ≤ 140737488355328 := by decide
  omega
 obtain ⟨s4, rfl, rfl, rfl, hs4⟩ := ChangeMaps.open_string Tryz.underlying9 (hval 4 9 v4 rfl rfl) h4
 have hz4 : s4.size ≤ 140737488355328 := by
  have h1 := hwt 4 9 _ rfl rfl s4.data.toList.length (by simp [DataW.weights])
  have h2 : s4.data.toList.length = s4.size := by simp
  have h3 : reachBytes ≤ 140737488355328 := by decide
  omega
 refine (sback_walk sg0 bd0 ra0 rb0 rc0 l0 A0 c0 l1 A1 k1 s2 s3 s4 W hs0 hr1 hz2 hz3 hz4 hT).mono fun e W' ⟨he, hb⟩ => ?_
 subst he
 refine ⟨_, rfl, post_law hW' rfl rfl ?_ rfl rfl rfl hb⟩
 rw [Tryz.params6]
 intro t ht
 simp only [List.mem_cons, List.not_mem_nil, or_false] at ht
 rcases ht with rfl | rfl | rfl | rfl | rfl <;> exact ⟨by kernel_rfl, of_decide_eq_true (by kernel_rfl)⟩

theorem laid_met (os : Os) : laidMet Tryz.prog Rows.scriptBackRow.laid ((laidWorldS os).forCall (fun _ _ => 0) ⟨#[], #[(.agg #[.slice none 0 0, .int .i64 0, .int .i64 0, .int .i64 0, .int .i64 0, .int .i64 0]), .slice none 0 0, .string ⟨#[]⟩, .string ⟨#[]⟩, .string ⟨#[]⟩], []⟩).memory :=
 laid_metS os _
theorem reads (os : Os) {H : Type} (enc : TypeId × Value → H) : ∃ places, DataW.whole enc Tryz.prog ((laidWorldS os).forCall (fun _ _ => 0) ⟨#[], #[(.agg #[.slice none 0 0, .int .i64 0, .int .i64 0, .int .i64 0, .int .i64 0, .int .i64 0]), .slice none 0 0, .string ⟨#[]⟩, .string ⟨#[]⟩, .string ⟨#[]⟩], []⟩).memory Tryz.f6.params.toList Rows.scriptBackSpec.vars false (#[(.agg #[.slice none 0 0, .int .i64 0, .int .i64 0, .int .i64 0, .int .i64 0, .int .i64 0]), .slice none 0 0, .string ⟨#[]⟩, .string ⟨#[]⟩, .string ⟨#[]⟩] : Array Value).toList 8 = some ([(.agg [.agg [.nil], .lit (.int .i64 0), .lit (.int .i64 0), .agg [.lit (.int .i64 0), .lit (.int .i64 0), .lit (.int .i64 0)]]), .nil, .lit (.string []), .lit (.string []), .lit (.string [])], [], places) :=
 ⟨[], by kernel_rfl⟩

set_option maxRecDepth 100000 in
theorem lifted (os : Os) (started : os.Started) (H : Type) (enc : TypeId × Value → H) (F : Stop.Interp) :
  ReturnsInHanded {} Tryz.checked os 6 .any ((OpenSpec.ofChange Rows.scriptBackSpec).preRow enc Tryz.prog Tryz.f6 Rows.scriptBackRow.domain false Rows.scriptBackRow.laid) (((OpenSpec.ofChange Rows.scriptBackSpec).at F).post enc Tryz.prog Tryz.f6 false true false false) := by
 obtain ⟨places, hx⟩ := reads os enc
 refine returnsInHanded_of_row (C := Tryz.checked) (s := OpenSpec.ofChange Rows.scriptBackSpec) own started (by kernel_rfl) Tryz.func6
  (witness_row_at (enc := enc) (C := Tryz.checked) false (laidWorldS os) #[(.agg #[.slice none 0 0, .int .i64 0, .int .i64 0, .int .i64 0, .int .i64 0, .int .i64 0]), .slice none 0 0, .string ⟨#[]⟩, .string ⟨#[]⟩, .string ⟨#[]⟩] rfl (by kernel_rfl) (by kernel_rfl) (by kernel_rfl)
    (OpenSpec.preRow_of_cond 8 hx (by kernel_rfl) (fun k hk => by cases hk) (by kernel_rfl) (laid_met os))) ?_
 intro W base args ds gs before hval hW _ _ hsz hL hsh _
 exact contract H enc W base args ds gs before hval hW hsz hsh hL

end Go.Proofs.YtfekohonidggjaaGreatDoor.cardScriptBack
