/- Texts joined by a tool: contracts and walks of this claim. -/
import Derived.Test.YtfekohonidggjaaGreatDoorB34
namespace Go.Proofs.YtfekohonidggjaaGreatDoor
open Go.RowKit
def WL (c : Cf) (l : List Ac) : List (List UInt8) := headLs (mid c [] []) ++ (c.ts.map tabT ++ l.map fun a => (actT a).getD [])
theorem WL_lines (c : Cf) (l : List Ac) : linesF (c.st l) = WL c l := by
 show (headLs (c.st l)).take (3 + c.ts.length + l.length) ++ ((c.ts.map Ta.z).map tabT ++ _) = _
 rw [List.take_of_length_le (by simp [headLs]; omega), List.map_map]
 rfl
def writeV (c : Cf) (l : List Ac) : Value :=
 if confB c && l.all (fun a => (actT a).isSome) then (if (textF (linesF (c.st l))).length ≤ 1048576 then .tuple #[.string (bsO (textF (linesF (c.st l)))), .int .i64 0] else .tuple #[.string ⟨#[]⟩, .int .i64 5]) else .tuple #[.string ⟨#[]⟩, .int .i64 2]
theorem sch_tabS {ts : List Ta} (h : schB ts = true) {t : Ta} (ht : t ∈ ts) (hw : t.wf) : TabS t := by
 obtain ⟨hn, hc⟩ := sch_tabs h t ht
 have hcn := cols_names hc
 unfold colsB at hc
 simp only [Bool.and_eq_true, decide_eq_true_eq] at hc
 have h16 : ∀ s : ByteArray, nameB s = true → s.size ≤ 1000 := fun s hs => by
  unfold nameB at hs
  simp only [Bool.and_eq_true, decide_eq_true_eq] at hs
  omega
 exact ⟨hw, h16 _ hn, hc.1.2, fun c hcm => ⟨(hcn c hcm).2, h16 _ (hcn c hcm).1⟩⟩
theorem conf_parts {c : Cf} (h : confB c = true) : (i64B c.seg ∧ i64B c.bd) ∧ (i64B c.r0 ∧ i64B c.r1 ∧ i64B c.r2) ∧ schB c.ts = true := by
 simp only [confB, rmB, segB, bdB, Bool.and_eq_true, decide_eq_true_eq] at h
 obtain ⟨⟨a, b, d⟩, hs, e, f⟩ := h
 unfold i64B
 exact ⟨by omega, by omega, hs⟩
theorem act_len {a : Ac} (hw : a.wf) {s : List UInt8} (h : actT a = some s) : s.length ≤ 10000 := by
 unfold actT at h
 cases ho : actW a with
 | none => rw [ho] at h; cases h
 | some ws => rw [ho] at h; simp only [Option.map_some, Option.some.injEq] at h; rw [← h]; exact actW_len hw ho
theorem WL_len {c : Cf} {l : List Ac} (h : confB c = true) (hw : ∀ t ∈ c.ts, t.wf) (ha : ∀ a ∈ l, a.wf) (hl : l.length ≤ 100000) : (jnW 10 (WL c l ++ [[]])).length ≤ 140737488355327 := by
 obtain ⟨⟨h1, h2⟩, ⟨h3, h4, h5⟩, hs⟩ := conf_parts h
 have key : ∀ w ∈ WL c l ++ [[]], w.length ≤ 100000 := by
  intro w hm
  simp only [WL, headLs, mid, List.mem_append, List.mem_cons, List.mem_map, List.not_mem_nil, or_false] at hm
  have i1 := itoa_len h1
  have i2 := itoa_len h2
  have i3 := itoa_len h3
  have i4 := itoa_len h4
  have i5 := itoa_len h5
  rcases hm with ((rfl | rfl | rfl) | ⟨t, ht, rfl⟩ | ⟨a, hm, rfl⟩) | rfl
  · simp [jnW, tSeg]; omega
  · simp [jnW, tBound]; omega
  · simp [jnW, tRooms]; omega
  · exact tab_len (sch_tabS hs ht (hw t ht))
  · cases ho : actT a with
    | none => simp
    | some s => have := act_len (ha a hm) ho; simp; omega
  · simp
 have hn : c.ts.length ≤ 12 := by
  unfold schB at hs
  simp only [Bool.and_eq_true, decide_eq_true_eq] at hs
  exact hs.1.2
 have h6 := jn_le 10 100000 _ key
 have h7 : (WL c l ++ [[]]).length ≤ 100016 := by simp [WL, headLs]; omega
 have h8 : (WL c l ++ [[]]).length * (100000 + 1) ≤ 100016 * 100001 := Nat.mul_le_mul_right _ h7
 omega
theorem head_parts {seg bd r0 r1 r2 : Int} {ts : List Ta} (n1 : i64B seg) (n2 : i64B bd) (n3 : i64B r0) (n4 : i64B r1) (n5 : i64B r2) : ∃ L24 L28 L33 L34 L39 L40 L45 : List UInt8,
  (((⟨#[115, 101, 103, 32]⟩ : ByteArray) ++ bsO (Lib.itoa seg) = bsO L24) ∧ ((⟨#[98, 111, 117, 110, 100, 32]⟩ : ByteArray) ++ bsO (Lib.itoa bd) = bsO L28) ∧ ((⟨#[114, 111, 111, 109, 115, 32]⟩ : ByteArray) ++ bsO (Lib.itoa r0) = bsO L33) ∧ (bsO L33 ++ ⟨#[32]⟩ = bsO L34) ∧ (bsO L34 ++ bsO (Lib.itoa r1) = bsO L39) ∧ (bsO L39 ++ ⟨#[32]⟩ = bsO L40) ∧ (bsO L40 ++ bsO (Lib.itoa r2) = bsO L45)) ∧
  (((⟨#[115, 101, 103, 32]⟩ : ByteArray).size + (bsO (Lib.itoa seg)).size ≤ 9223372036854775807) ∧ ((⟨#[98, 111, 117, 110, 100, 32]⟩ : ByteArray).size + (bsO (Lib.itoa bd)).size ≤ 9223372036854775807) ∧ ((⟨#[114, 111, 111, 109, 115, 32]⟩ : ByteArray).size + (bsO (Lib.itoa r0)).size ≤ 9223372036854775807) ∧ ((bsO L33).size + (⟨#[32]⟩ : ByteArray).size ≤ 9223372036854775807) ∧ ((bsO L34).size + (bsO (Lib.itoa r1)).size ≤ 9223372036854775807) ∧ ((bsO L39).size + (⟨#[32]⟩ : ByteArray).size ≤ 9223372036854775807) ∧ ((bsO L40).size + (bsO (Lib.itoa r2)).size ≤ 9223372036854775807)) ∧
  headLs (mid ⟨seg, bd, r0, r1, r2, ts⟩ [] []) = [L24, L28, L45] := by
 have s1 := itoa_len n1
 have s2 := itoa_len n2
 have s3 := itoa_len n3
 have s4 := itoa_len n4
 have s5 := itoa_len n5
 refine ⟨_, _, _, _, _, _, _, ⟨bsO_app [115, 101, 103, 32] _, bsO_app [98, 111, 117, 110, 100, 32] _, bsO_app [114, 111, 111, 109, 115, 32] _, bsO_app _ [32], bsO_app _ _, bsO_app _ [32], bsO_app _ _⟩, ⟨?_, ?_, ?_, ?_, ?_, ?_, ?_⟩, ?_⟩
 · rw [bsO_size]; show 4 + _ ≤ _; omega
 · rw [bsO_size]; show 6 + _ ≤ _; omega
 · rw [bsO_size]; show 6 + _ ≤ _; omega
 · rw [bsO_size]; simp only [List.length_append]; show 6 + _ + 1 ≤ _; omega
 · rw [bsO_size, bsO_size]; simp only [List.length_append]; show 6 + _ + 1 + _ ≤ _; omega
 · rw [bsO_size]; simp only [List.length_append]; show 6 + _ + 1 + _ + 1 ≤ _; omega
 · rw [bsO_size, bsO_size]; simp only [List.length_append]; show 6 + _ + 1 + _ + 1 + _ ≤ _; omega
 · simp [headLs, mid, jnW, tSeg, tBound, tRooms]
set_option maxRecDepth 100000 in
set_option maxHeartbeats 6400000 in
theorem write_any (seg bd r0 r1 r2 : Int) (ts : List Ta) (A : Option Addr) (k : Nat) (l : List Am) (L : Option Addr) (lc : Nat) (w : World) (ht : TRow w A k ts) (hl : AmRow w L l) (hL : LayS w) (hln : l.length ≤ 100000) :
  Calls Tryz.prog 10 #[Cf.agg ⟨seg, bd, r0, r1, r2, ts⟩ A k, .slice L l.length lc] w fun r w' => r = .returned (writeV ⟨seg, bd, r0, r1, r2, ts⟩ (l.map (·.a))) ∧ Below w.heap.size w w' := by
 have HCK := hd_ (fun (W : World) (hW : Below w.heap.size w W) => check31_any seg bd r0 r1 r2 ts A k l L lc W (ht.ext hW) (hl.ext hW) (hL.ext hW))
 have HAC := hd_ (fun (x : Am) (hx : x.a.wf) (W : World) (hW : Below w.heap.size w W) (hr : VRow W x.A x.a.row) => act_any x.a hx x.A x.c W hr (hL.ext hW))
 have HTB := hd_ (fun (t : Ta) (hx : TabS t) (W : World) (hW : Below w.heap.size w W) (hr : CRow W t.A t.cs) => tabT_any t hx W hr (hL.ext hW))
 have HNU := hd_ (fun (v : Int) (hv : i64B v) (W : World) (hW : Below w.heap.size w W) => number_any v hv W (hL.ext hW))
 have HAM := hd_ hl
 have HTR := hd_ ht
 have h40 := hl.2.1
 have ht21 := ht.2.1
 have haw : ∀ a ∈ l.map (·.a), a.wf := fun a ha => by
  obtain ⟨x, hx, rfl⟩ := List.mem_map.1 ha
  exact (hl.1 x hx).1
 have htw : ∀ t ∈ ts, t.wf := fun t h => (ht.1 t h).1
 have hall : actsB l = (l.map (·.a)).all (fun a => (actT a).isSome) := by unfold actsB; rw [List.all_map]; rfl
 generalize hWV : writeV ⟨seg, bd, r0, r1, r2, ts⟩ (l.map (·.a)) = WV
 have HWV := hd_ hWV
 obtain ⟨i0, hi0, hz0, hz1, hz2⟩ := info_parts info_txt
 have hb0 : Below w.heap.size w (w.alloc (.cells #[.slice A ts.length k, .int .i64 seg, .int .i64 bd, .int .i64 r0, .int .i64 r1, .int .i64 r2] 27)) := bel1 _ _
 have hB0 := Blk.new w #[.slice A ts.length k, .int .i64 seg, .int .i64 bd, .int .i64 r0, .int .i64 r1, .int .i64 r2] 27
 have HB0 := hd_ hb0
 have HC0 := hd_ hB0
 unfold Cf.agg at HCK ⊢
 simp only at HCK ⊢
 cases hok : confB ⟨seg, bd, r0, r1, r2, ts⟩ && actsB l with
 | false =>
  have hN : WV = .tuple #[.string ⟨#[]⟩, .int .i64 2] := by
   rw [← hWV]
   unfold writeV
   rw [← hall, hok]
   rfl
  have HN := hd_ hN
  rw [hok] at HCK
  clear hWV hN hok hall haw htw ht hl hL hb0 hB0
  simp only [okE] at HCK
  go_enter Tryz.func10, Tryz.ntmps10
  go_wp2_with fail
  refine (HCK.out _ HB0.out).mono ?_
  rintro r w1 ⟨rfl, hb1⟩
  have hb2 := bt HB0.out hb1
  clear hb1
  go_wp2_with fail
  go_ret2
  exact ⟨by rw [HN.out]; rfl, hb2⟩
 | true =>
  obtain ⟨hcf, hac⟩ := (Bool.and_eq_true _ _ ▸ hok : confB ⟨seg, bd, r0, r1, r2, ts⟩ = true ∧ actsB l = true)
  have hlen := WL_len hcf htw haw (by simpa using hln)
  have hpar := conf_parts hcf
  have hN : WV = if (jnW 10 (WL ⟨seg, bd, r0, r1, r2, ts⟩ (l.map (·.a)) ++ [[]])).length ≤ 1048576 then .tuple #[.string (bsO (jnW 10 (WL ⟨seg, bd, r0, r1, r2, ts⟩ (l.map (·.a)) ++ [[]]))), .int .i64 0] else .tuple #[.string ⟨#[]⟩, .int .i64 5] := by
   rw [← hWV]
   unfold writeV
   rw [← hall, hok, WL_lines, text_jn]
   rfl
  have HN := hd_ hN
  have HLE := hd_ hlen
  have HPA := hd_ hpar
  have HACT := hd_ hac
  have HTW := hd_ htw
  rw [hok] at HCK
  clear hWV hN hok hall haw htw ht hl hL hb0 hB0 hcf hac hlen hpar
  simp only [okE] at HCK
  go_enter Tryz.func10, Tryz.ntmps10
  go_wp2_with fail
  generalize w.alloc (.cells #[.slice A ts.length k, .int .i64 seg, .int .i64 bd, .int .i64 r0, .int .i64 r1, .int .i64 r2] 27) = w0 at HB0 HC0 ⊢
  refine (HCK.out _ HB0.out).mono ?_
  rintro r w1 ⟨rfl, hb1⟩
  have HBW := hd_ (bt HB0.out hb1)
  have HCW := hd_ (HC0.out.ext hb1)
  clear hb1 HB0 HC0 HCK
  go_upto_region 4 with fail
  obtain ⟨L24, L28, L33, L34, L39, L40, L45, hEQ, hSZ, hHD⟩ := head_parts (ts := ts) HPA.out.1.1 HPA.out.1.2 HPA.out.2.1.1 HPA.out.2.1.2.1 HPA.out.2.1.2.2
  have HEQ := hd_ hEQ
  have HSZ := hd_ hSZ
  have HHD := hd_ hHD
  clear hEQ hSZ hHD
  refine region_grow [false, false, false, false, false, false, false, true, false, false, false, false, false, false, false, false, false, false, false, false, false, true, true, true, true, true, true, true, true, true, true, true, true, true, true, true, true, true, true, true, true, true, true, true, true, true, true, false, false, false, false, false, false, false, false, false, false, false, false, false, false, false, false, false, false, false, false, false, false, false, false, false, false, false, false, false, false, false, false, false, false, false, false, false, false] [21, 22, 23, 24, 25, 26, 27, 28, 29, 30, 31, 32, 33, 34, 35, 36, 37, 38, 39, 40, 41, 42, 43, 44, 45, 46, 7] [.val (.pointer (some ⟨w.heap.size, 1, none⟩)), .val (.int .i64 seg), .val (.string (bsO (Lib.itoa seg))), .val (.string (bsO L24)), .val (.pointer (some ⟨w.heap.size, 2, none⟩)), .val (.int .i64 bd), .val (.string (bsO (Lib.itoa bd))), .val (.string (bsO L28)), .val (.pointer (some ⟨w.heap.size, 3, none⟩)), .val (.pointer (some ⟨w.heap.size, 3, none⟩)), .val (.int .i64 r0), .val (.string (bsO (Lib.itoa r0))), .val (.string (bsO L33)), .val (.string (bsO L34)), .val (.pointer (some ⟨w.heap.size, 3, none⟩)), .val (.pointer (some ⟨w.heap.size, 4, none⟩)), .val (.int .i64 r1), .val (.string (bsO (Lib.itoa r1))), .val (.string (bsO L39)), .val (.string (bsO L40)), .val (.pointer (some ⟨w.heap.size, 3, none⟩)), .val (.pointer (some ⟨w.heap.size, 5, none⟩)), .val (.int .i64 r2), .val (.string (bsO (Lib.itoa r2))), .val (.string (bsO L45)), kRow w.heap.size [L24, L28, L45], kRow w.heap.size [L24, L28, L45]] [26] (by kernel_rfl) (by kernel_rfl) (by kernel_rfl) (by kernel_rfl) (by kernel_rfl) ⟨?_, ?_, ?_, ?_, ?_, ?_, ?_, ?_, ?_, ?_, ?_, ?_, ?_, ?_, ?_, ?_, ?_, ?_, ?_, ?_, ?_, ?_, ?_, ?_, ?_, ?_, ?_, trivial⟩ ?done
  case done =>
   intro x w2 hb2
   unfold kRow
   simp only [StepGoal, overlay, upd, cond_true, cond_false, List.getD_cons_zero, List.getD_cons_succ, Nat.zero_add, Nat.reduceAdd, Nat.reduceEqDiff, reduceIte]
   intro v hv
   have hv' : w2.ownsRow w.heap.size 9 1 v (3 + 0) (wsC ([L24, L28, L45] ++ (ts.take 0).map tabT)) := hv
   have HB2 := hd_ (bt HBW.out hb2)
   have HC2 := hd_ (HCW.out.ext hb2)
   have hown2 := hd_ hv'
   obtain ⟨d9, d0, d1, d2, d3, d4, d5⟩ := blk6 HC2.out
   clear hv hv' hb2 HBW HCW HSZ HEQ
   go_wp2_with fail
   clear d9 d0 d1 d2 d3 d4 d5
   go_loopw [7, 51] (fun lv i wr => ∃ j : Nat, j ≤ ts.length ∧ i = .int .i64 j ∧ wr.ownsRow w.heap.size 9 1 lv (3 + j) (wsC ([L24, L28, L45] ++ (ts.take j).map tabT)) ∧ Below w.heap.size w wr) (fun _ i _ => ts.length - (intOf i).toNat)
   case atStart => exact ⟨0, by omega, rfl, hown2.out, HB2.out⟩
   case round =>
    obtain ⟨j, hj, rfl, hown, hbw⟩ := hrel
    clear hown2 HB2 HC2
    by_cases hlt : j < ts.length
    · obtain ⟨b, off, t, rfl, hb, hlk, hmem, hwf, hcr, c0, c1, c2, c3, c4⟩ := (HTR.out.ext hbw).at_ hlt
      have hts := sch_tabS HPA.out.2.2 hmem hwf
      have hn12 : ts.length ≤ 12 := by
       have := HPA.out.2.2
       unfold schB at this
       simp only [Bool.and_eq_true, decide_eq_true_eq] at this
       exact this.1.2
      have htk : ts.take (j + 1) = ts.take j ++ [t] := by
       obtain ⟨h1, h2⟩ := List.getElem?_eq_some_iff.1 hlk
       rw [List.take_succ_eq_append_getElem h1, h2]
      have HMP : Hid (wsC ([L24, L28, L45] ++ (ts.take (j + 1)).map tabT) = wsC ([L24, L28, L45] ++ (ts.take j).map tabT) ++ [.string (bsO (tabT t))]) := by
       show _ = _
       rw [htk, List.map_append, ← List.append_assoc, wsC_app]
       rfl
      have hltI : (j : Int) < ts.length := by omega
      have hbA := hbw.alloc hbw.size (.cells t.cells 66)
      have hTB := HTB.out t hts (wr.alloc (.cells t.cells 66)) hbA (hcr.ext (Below.alloc (Below.refl _ _) (Nat.le_refl _) _))
      have hownA := hown.alloc (.cells t.cells 66)
      obtain ⟨tn, tcs, tk, tr, tp, tA, tc⟩ := t
      generalize tabT ⟨tn, tcs, tk, tr, tp, tA, tc⟩ = X at HMP hTB
      unfold Ta.cells at hTB hbA hownA
      simp only at c0 c1 c2 c3 c4 hTB hbA hownA
      have HTB2 := hd_ hTB
      have HBA := hd_ hbA
      have HOA := hd_ hownA
      generalize hxs : ([L24, L28, L45] ++ (ts.take j).map tabT) = xs at HOA HMP
      clear hxs hlk hmem hwf hcr htk hTB hbA hownA hown hbw hts
      go_wp2_with fail
      refine HTB2.out.mono ?_
      rintro r w5 ⟨rfl, hb5⟩
      have hown5 := own_ext HOA.out hb5
      have hbw5 := HBA.out.trans (hb5.mono HBA.out.size)
      clear hb5
      go_wp2_with (at_builtin; refine wpList_append_own _ rfl _ _ 63 rfl w.heap.size 9 i0 (.string ByteArray.empty) 1 16 Tryz.underlying63 hi0 hz0 hz1 hz2 rfl (by decide) _ (3 + j) (wsC xs) rfl (World.ownsRow.alloc hown5 _) ⟨w5.heap.size, 0, none⟩ 1 1 [.string (bsO X)] rfl rfl ?xc1 ?xc2 ?xc3 ?xc4 ?xc5 ?_)
      case xc1 => exact cell_one_new _ _ _
      case xc2 => simp [Value.oneCell']
      case xc3 => simp only [maxLen]; omega
      case xc4 => omega
      case xc5 => have := hbw5.size; simp; omega
      intro v' w6 hown6 hg6 _
      rw [← HMP.out] at hown6
      have hbw6 : Below w.heap.size w w6 := (hbw5.alloc hbw5.size _).grown hg6 (by have := hbw5.size; simp; omega) (own_ge hown5)
      clear hown5 hg6 hbw5
      go_wp2_with fail
      go_roundw
      case rel => exact ⟨j + 1, by omega, by go_num, hown6, hbw6⟩
      case measure => simp [intOf]; omega
    · obtain rfl : j = ts.length := by omega
      rw [List.take_length] at hown
      have hl0 : wsC ([L24, L28, L45] ++ ts.map tabT) = wsC (([L24, L28, L45] ++ ts.map tabT) ++ (l.take 0).map fun x => (actT x.a).getD []) := by rw [List.take_zero, List.map_nil, List.append_nil]
      rw [hl0] at hown
      have HO3 := hd_ hown
      have HBR := hd_ hbw
      have hn12 : ts.length ≤ 12 := by
       have := HPA.out.2.2
       unfold schB at this
       simp only [Bool.and_eq_true, decide_eq_true_eq] at this
       exact this.1.2
      clear hown hl0 hbw
      go_wp2_with fail
      go_loopw [7, 63] (fun lv i wr => ∃ j : Nat, j ≤ l.length ∧ i = .int .i64 j ∧ wr.ownsRow w.heap.size 9 1 lv (3 + ts.length + j) (wsC (([L24, L28, L45] ++ ts.map tabT) ++ (l.take j).map fun x => (actT x.a).getD [])) ∧ Below w.heap.size w wr) (fun _ i _ => l.length - (intOf i).toNat)
      case atStart => exact ⟨0, by omega, rfl, HO3.out, HBR.out⟩
      case round =>
       obtain ⟨j, hj, rfl, hown, hbw⟩ := hrel
       clear HO3 HBR
       by_cases hlt : j < l.length
       · obtain ⟨b, off, x, rfl, hb, hlk, hmem, hwf, hvr, c0, c1, c2, c3, c4, c5, c6, c7⟩ := (HAM.out.ext hbw).at_ hlt
         have hbA := hbw.alloc hbw.size (.cells (Am.arr x.a x.A x.c) 42)
         have hAC := HAC.out x hwf (wr.alloc (.cells (Am.arr x.a x.A x.c) 42)) hbA (hvr.ext (Below.alloc (Below.refl _ _) (Nat.le_refl _) _))
         have hownA := hown.alloc (.cells (Am.arr x.a x.A x.c) 42)
         obtain ⟨X, hX⟩ : ∃ X, actT x.a = some X := Option.isSome_iff_exists.1 (List.all_eq_true.1 HACT.out x hmem)
         rw [hX] at hAC
         have htk : l.take (j + 1) = l.take j ++ [x] := by
          obtain ⟨h1, h2⟩ := List.getElem?_eq_some_iff.1 hlk
          rw [List.take_succ_eq_append_getElem h1, h2]
         have HMP : Hid (wsC (([L24, L28, L45] ++ ts.map tabT) ++ (l.take (j + 1)).map fun x => (actT x.a).getD []) = wsC (([L24, L28, L45] ++ ts.map tabT) ++ (l.take j).map fun x => (actT x.a).getD []) ++ [.string (bsO X)]) := by
          show _ = _
          rw [htk, List.map_append, ← List.append_assoc, wsC_app]
          simp [wsC, hX]
         have hltI : (j : Int) < l.length := by omega
         obtain ⟨ac, xA, xc⟩ := x
         unfold Am.arr at hAC hbA hownA
         unfold Ac.agg actP at hAC
         simp only at c0 c1 c2 c3 c4 c5 c6 c7 hAC hbA hownA
         have HAC2 := hd_ hAC
         have HBA := hd_ hbA
         have HOA := hd_ hownA
         generalize hxs : (([L24, L28, L45] ++ ts.map tabT) ++ (l.take j).map fun x => (actT x.a).getD []) = xs at HOA HMP
         clear hxs hlk hmem hwf hvr htk hAC hbA hownA hown hbw hX
         go_wp2_with fail
         refine HAC2.out.mono ?_
         rintro r w5 ⟨rfl, hb5⟩
         have hown5 := own_ext HOA.out hb5
         have hbw5 := HBA.out.trans (hb5.mono HBA.out.size)
         clear hb5
         go_wp2_with (at_builtin; refine wpList_append_own _ rfl _ _ 63 rfl w.heap.size 9 i0 (.string ByteArray.empty) 1 16 Tryz.underlying63 hi0 hz0 hz1 hz2 rfl (by decide) _ (3 + ts.length + j) (wsC xs) rfl (World.ownsRow.alloc hown5 _) ⟨w5.heap.size, 0, none⟩ 1 1 [.string (bsO X)] rfl rfl ?yc1 ?yc2 ?yc3 ?yc4 ?yc5 ?_)
         case yc1 => exact cell_one_new _ _ _
         case yc2 => simp [Value.oneCell']
         case yc3 => simp only [maxLen]; omega
         case yc4 => omega
         case yc5 => have := hbw5.size; simp; omega
         intro v' w6 hown6 hg6 _
         rw [← HMP.out] at hown6
         have hbw6 : Below w.heap.size w w6 := (hbw5.alloc hbw5.size _).grown hg6 (by have := hbw5.size; simp; omega) (own_ge hown5)
         clear hown5 hg6 hbw5
         go_wp2_with fail
         go_roundw
         case rel => exact ⟨j + 1, by omega, by go_num, hown6, hbw6⟩
         case measure => simp [intOf]; omega
       · obtain rfl : j = l.length := by omega
         rw [List.take_length] at hown
         have hWLe : ([L24, L28, L45] ++ ts.map tabT) ++ (l.map fun x => (actT x.a).getD []) = WL ⟨seg, bd, r0, r1, r2, ts⟩ (l.map (·.a)) := by
          unfold WL
          rw [HHD.out, List.map_map, List.append_assoc]
          rfl
         rw [hWLe] at hown
         generalize hZ : WL ⟨seg, bd, r0, r1, r2, ts⟩ (l.map (·.a)) = Z at hown HN HLE
         have hzl : Z.length = 3 + ts.length + l.length := by rw [← hZ]; simp [WL, headLs]; omega
         clear hZ hWLe
         have HZL := hd_ hzl
         have HBX := hd_ hbw
         go_wp2_with (at_builtin; refine wpList_append_own _ rfl _ _ 63 rfl w.heap.size 9 i0 (.string ByteArray.empty) 1 16 Tryz.underlying63 hi0 hz0 hz1 hz2 rfl (by decide) _ (3 + ts.length + l.length) (wsC Z) rfl (World.ownsRow.alloc hown _) ⟨wr.heap.size, 0, none⟩ 1 1 [.string (bsO ([] : List UInt8))] rfl rfl ?zc1 ?zc2 ?zc3 ?zc4 ?zc5 ?_)
         case zc1 => exact cell_one_new _ _ _
         case zc2 => simp [Value.oneCell']
         case zc3 => simp only [maxLen]; omega
         case zc4 => omega
         case zc5 => have := hbw.size; simp; omega
         intro v' w6 hown6 hg6 _
         have hbw6 : Below w.heap.size w w6 := (hbw.alloc hbw.size _).grown hg6 (by have := hbw.size; simp; omega) (own_ge hown)
         have hown7 : w6.ownsRow w.heap.size 9 1 v' (Z ++ [[]]).length (wsC (Z ++ [[]])) := by
          have hzz : (Z ++ [[]]).length = 3 + ts.length + l.length + 1 := by rw [List.length_append, HZL.out]; rfl
          rw [wsC_app, hzz]
          exact hown6
         have HJ := hd_ (join_own w.heap.size v' (Z ++ [[]]) 10 w6 hown7 (by simp) HLE.out)
         generalize hT : jnW 10 (Z ++ [[]]) = T at HJ HN
         have HB6 := hd_ hbw6
         clear hown6 hown7 hg6 hbw6 hown hbw hT
         go_wp2_with fail
         refine HJ.out.mono ?_
         rintro r w7 ⟨rfl, hb7⟩
         have hbw7 := bt HB6.out hb7
         clear hb7
         by_cases hbig : T.length ≤ 1048576
         · have hN2 := HN.out
           rw [if_pos hbig] at hN2
           have HN2 := hd_ hN2
           have hbI : ¬ (1048576 : Int) < (bsO T).size := by rw [bsO_size]; omega
           clear hN2 HN
           go_wp2_with fail
           go_ret2
           exact ⟨by rw [HN2.out]; rfl, hbw7⟩
         · have hN2 := HN.out
           rw [if_neg hbig] at hN2
           have HN2 := hd_ hN2
           have hbI : (1048576 : Int) < (bsO T).size := by rw [bsO_size]; omega
           clear hN2 HN
           go_wp2_with fail
           go_ret2
           exact ⟨by rw [HN2.out]; rfl, hbw7⟩
  all_goals
   intro x w2 hb2
   have hbw2 := bt HBW.out hb2
   obtain ⟨d9, d0, d1, d2, d3, d4, d5⟩ := blk6 (HCW.out.ext hb2)
   obtain ⟨⟨n1, n2⟩, ⟨n3, n4, n5⟩, _⟩ := HPA.out
   obtain ⟨z1, z2, z3, z4, z5, z6, z7⟩ := HSZ.out
   have q1 := fun W => run_string_add_sum (P := Tryz.prog) W _ _ z1
   have q2 := fun W => run_string_add_sum (P := Tryz.prog) W _ _ z2
   have q3 := fun W => run_string_add_sum (P := Tryz.prog) W _ _ z3
   have q4 := fun W => run_string_add_sum (P := Tryz.prog) W _ _ z4
   have q5 := fun W => run_string_add_sum (P := Tryz.prog) W _ _ z5
   have q6 := fun W => run_string_add_sum (P := Tryz.prog) W _ _ z6
   have q7 := fun W => run_string_add_sum (P := Tryz.prog) W _ _ z7
   clear z1 z2 z3 z4 z5 z6 z7
   first
    | (intro K hK
       rw [if_pos (by rfl)]; simp only [overlay, upd, cond_true, cond_false, List.getD_cons_zero, List.getD_cons_succ, Nat.reduceEqDiff, reduceIte]
       go_simp
       first
        | exact hK.out _ _ (Below.refl _ _) rfl
        | exact hK.out _ _ (Below.refl _ _) (congrArg Value.string HEQ.out.1)
        | exact hK.out _ _ (Below.refl _ _) (congrArg Value.string HEQ.out.2.1)
        | exact hK.out _ _ (Below.refl _ _) (congrArg Value.string HEQ.out.2.2.1)
        | exact hK.out _ _ (Below.refl _ _) (congrArg Value.string HEQ.out.2.2.2.1)
        | exact hK.out _ _ (Below.refl _ _) (congrArg Value.string HEQ.out.2.2.2.2.1)
        | exact hK.out _ _ (Below.refl _ _) (congrArg Value.string HEQ.out.2.2.2.2.2.1)
        | exact hK.out _ _ (Below.refl _ _) (congrArg Value.string HEQ.out.2.2.2.2.2.2)
        | exact hK.out _ _ (by repeat (first | exact Below.refl _ _ | assumption | refine Below.drew ?_ | refine below_drewN ?_ _ | refine Below.alloc ?_ (by simp <;> omega) _)) (own_new _ _ [L24, L28, L45] hbw2.size (by simp))
        | ((with_reducible refine (HNU.out _ n1 _ hbw2).mono ?_); rintro e wa ⟨rfl, hba⟩; go_wp2_with fail; exact hK.out _ _ hba rfl)
        | ((with_reducible refine (HNU.out _ n2 _ hbw2).mono ?_); rintro e wa ⟨rfl, hba⟩; go_wp2_with fail; exact hK.out _ _ hba rfl)
        | ((with_reducible refine (HNU.out _ n3 _ hbw2).mono ?_); rintro e wa ⟨rfl, hba⟩; go_wp2_with fail; exact hK.out _ _ hba rfl)
        | ((with_reducible refine (HNU.out _ n4 _ hbw2).mono ?_); rintro e wa ⟨rfl, hba⟩; go_wp2_with fail; exact hK.out _ _ hba rfl)
        | ((with_reducible refine (HNU.out _ n5 _ hbw2).mono ?_); rintro e wa ⟨rfl, hba⟩; go_wp2_with fail; exact hK.out _ _ hba rfl))
    | (intro v hv v2 hv2 K hK
       rw [if_pos (by rfl)]; simp only [overlay, upd, cond_true, cond_false, List.getD_cons_zero, List.getD_cons_succ, Nat.reduceEqDiff, reduceIte]
       go_simp
       exact hK.out _ _ (Below.refl _ _) hv2)
theorem textF_len : ∀ ls : List (List UInt8), ls.length ≤ (textF ls).length
 | [] => by simp [textF]
 | l :: ls => by
  have := textF_len ls
  unfold textF at this ⊢
  simp only [List.flatMap_cons, List.length_append, List.length_cons, List.length_nil]
  omega
theorem lines_l (st : Ls) : st.l.length ≤ (linesF st).length := by
 unfold linesF
 simp only [List.length_append, List.length_map]
 omega
theorem writeV_read {text : ByteArray} {st : Ls} (h : goP Ls0 (spW 10 text.data.toList) = .ok st) (hl : text.size ≤ 1048576) {T : List Ta} (hT : T.map Ta.z = st.ts) : writeV ⟨st.seg, st.bd, st.r0, st.r1, st.r2, T⟩ st.l = .tuple #[.string text, .int .i64 0] ∧ st.l.length ≤ text.size := by
 have hsz : text.data.toList.length = text.size := by simp
 obtain ⟨hok, htx, hts⟩ := read_write (by omega) h
 have hne : st.ts ≠ [] := fun e => hts (by rw [e]; rfl)
 obtain ⟨hsc, hn⟩ := hok.ts.resolve_left hne
 have h0 := hok.h0.resolve_left (by omega)
 have h1 := hok.h1.resolve_left (by omega)
 have h2 := hok.h2.resolve_left (by omega)
 have hsT : schB T = true := by rw [← sch_z, hT]; exact hsc
 have hc : confB ⟨st.seg, st.bd, st.r0, st.r1, st.r2, T⟩ = true := by
  unfold confB
  simp only [h0, h1, hsT, Bool.and_true]
  exact h2
 have ha : (st.l.all fun a => (actT a).isSome) = true := List.all_eq_true.2 fun a ha => (hok.l a ha).2
 have hlin : linesF (Cf.st ⟨st.seg, st.bd, st.r0, st.r1, st.r2, T⟩ st.l) = linesF st := by
  unfold linesF Cf.st headLs
  simp only [hT]
  rw [List.take_of_length_le (by simp; omega), List.take_of_length_le (by simp; omega)]
 have htl : (textF (linesF st)).length ≤ 1048576 := by rw [htx, hsz]; exact hl
 refine ⟨?_, ?_⟩
 · unfold writeV
   rw [if_pos (by rw [hc, ha]; rfl), hlin, if_pos htl, htx]
   rfl
 · have a1 := lines_l st
   have a2 := textF_len (linesF st)
   rw [htx, hsz] at a2
   omega
theorem same_z {T ts : List Ta} (h : T.map Ta.z = ts.map Ta.z) : sameS ts T = true := by
 refine decide_eq_true ?_
 have := congrArg (List.map Ta.d) h
 rw [List.map_map, List.map_map] at this
 exact this.symm
def exT : Ta := ⟨bsO [97], [⟨bsO [105, 100], 2, false⟩], 0, -1, -1, none, 0⟩
def exC : Cf := ⟨1, 2, 9, 9, 9, [exT]⟩
def exA : Ac := ⟨2, 1, 0, [⟨2, 7, 0, bsO []⟩], 0, 0, 0, bsO []⟩
def textC : List UInt8 := [115, 101, 103, 32, 49, 10, 98, 111, 117, 110, 100, 32, 50, 10, 114, 111, 111, 109, 115, 32, 57, 32, 57, 32, 57, 10, 116, 97, 98, 108, 101, 32, 97, 32, 48, 32, 45, 49, 32, 45, 49, 32, 105, 100, 58, 105, 110, 116, 10, 105, 110, 115, 101, 114, 116, 32, 48, 32, 55, 10]
def exBad : List UInt8 := [105, 110, 115, 101, 114, 116, 32, 48, 32, 48, 55]
def exBadC : List UInt8 := textC ++ (exBad ++ [10])
theorem itoa_dig {n : Nat} (h : n < 10) : Lib.itoa (n : Int) = [UInt8.ofNat (48 + n)] := by
 unfold Lib.itoa
 rw [if_neg (by omega), Int.toNat_natCast, Lib.decDigits, dif_pos h]
theorem itoa_m1 : Lib.itoa (-1) = [45, 49] := by
 unfold Lib.itoa
 rw [if_pos (by omega), show (-1 : Int).natAbs = 1 from rfl, Lib.decDigits, dif_pos (by omega)]
 rfl
theorem itoa_0 : Lib.itoa 0 = [48] := itoa_dig (n := 0) (by omega)
theorem itoa_1 : Lib.itoa 1 = [49] := itoa_dig (n := 1) (by omega)
theorem itoa_2 : Lib.itoa 2 = [50] := itoa_dig (n := 2) (by omega)
theorem itoa_7 : Lib.itoa 7 = [55] := itoa_dig (n := 7) (by omega)
theorem itoa_9 : Lib.itoa 9 = [57] := itoa_dig (n := 9) (by omega)
theorem ex_valW : valW ⟨2, 7, 0, bsO []⟩ = [55] := by
 have h := itoa_7
 unfold valW
 simpa using h
theorem ex_actW : actW exA = some [tOp1, [48], [55]] := by
 rw [show actW exA = if opB exA = true then some (opW exA.k :: Lib.itoa exA.tb :: List.map valW exA.row) else none from rfl, if_pos (by decide)]
 show some (tOp1 :: Lib.itoa 0 :: [valW ⟨2, 7, 0, bsO []⟩]) = _
 rw [itoa_0, ex_valW]
theorem ex_act : actT exA = some [105, 110, 115, 101, 114, 116, 32, 48, 32, 55] := by
 unfold actT
 rw [ex_actW]
 rfl
theorem ex_tab : tabT exT = [116, 97, 98, 108, 101, 32, 97, 32, 48, 32, 45, 49, 32, 45, 49, 32, 105, 100, 58, 105, 110, 116] := by
 unfold tabT tabW
 show jnW 32 (tTable :: [97] :: Lib.itoa 0 :: Lib.itoa (-1) :: Lib.itoa (-1) :: [colW ⟨bsO [105, 100], 2, false⟩]) = _
 rw [itoa_0, itoa_m1]
 decide
theorem ex_head : headLs (mid exC [] []) = [[115, 101, 103, 32, 49], [98, 111, 117, 110, 100, 32, 50], [114, 111, 111, 109, 115, 32, 57, 32, 57, 32, 57]] := by
 show [jnW 32 [tSeg, Lib.itoa 1], jnW 32 [tBound, Lib.itoa 2], jnW 32 [tRooms, Lib.itoa 9, Lib.itoa 9, Lib.itoa 9]] = _
 rw [itoa_1, itoa_2, itoa_9]
 decide
theorem ex_conf : confB exC = true := by decide
theorem ex_wf : ∀ t ∈ exC.ts, t.wf ∧ ∀ x ∈ t.cs, x.wf := by
 intro t ht
 obtain rfl : t = exT := by simpa [exC] using ht
 refine ⟨⟨by decide, by decide, by decide, by decide⟩, fun x hx => ?_⟩
 obtain rfl : x = ⟨bsO [105, 100], 2, false⟩ := by simpa [exT] using hx
 exact ⟨by decide, by decide, by decide⟩
theorem ex_awf : exA.wf := by
 refine ⟨by decide, by decide, ⟨by decide, by decide⟩, ?_, ⟨by decide, by decide⟩, ⟨by decide, by decide⟩, ⟨by decide, by decide⟩, by decide⟩
 intro v hv
 obtain rfl : v = ⟨2, 7, 0, bsO []⟩ := by simpa [exA] using hv
 refine ⟨?_, ?_, ?_, ?_, ?_, ?_, ?_⟩ <;> decide
theorem ex_lines : linesF (exC.st [exA]) = [[115, 101, 103, 32, 49], [98, 111, 117, 110, 100, 32, 50], [114, 111, 111, 109, 115, 32, 57, 32, 57, 32, 57], [116, 97, 98, 108, 101, 32, 97, 32, 48, 32, 45, 49, 32, 45, 49, 32, 105, 100, 58, 105, 110, 116], [105, 110, 115, 101, 114, 116, 32, 48, 32, 55]] := by
 show (headLs (mid exC [] [])).take 5 ++ ([tabT exT] ++ [(actT exA).getD []]) = _
 rw [ex_head, ex_tab, ex_act]
 rfl
theorem ex_text : textF (linesF (exC.st [exA])) = textC := by
 rw [ex_lines]
 decide
theorem ex_read : goP Ls0 (spW 10 textC) = .ok (mid exC [exT] [exA]) := by
 have h := write_read (l := [exA]) ex_conf ex_wf (fun a ha => by
  obtain rfl : a = exA := by simpa using ha
  exact ⟨ex_awf, by rw [ex_act]; rfl⟩) (by rw [ex_text]; decide)
 rw [ex_text] at h
 exact h
theorem long_07 : longZ [48, 55] = none := by
 cases h : longZ [48, 55] with
 | none => rfl
 | some v =>
  exfalso
  have h7 : Lib.parseIntB 64 [48, 55] = .ok 7 := by decide
  obtain ⟨hv, e⟩ := longZ_some.1 h
  have h2 := parse_itoa v hv.1 hv.2
  rw [e, h7] at h2
  cases h2
  rw [itoa_7] at e
  revert e
  decide
theorem read_07 : readV [48, 55] = none := by
 cases h : readV [48, 55] with
 | none => rfl
 | some v =>
  exfalso
  have h0 : readV0 [48, 55] = some v := by
   unfold readV at h
   cases h1 : readV0 [48, 55] with
   | none => rw [h1] at h; cases h
   | some u => rw [h1] at h; simp [Option.filter] at h; rw [h.2]
  have hz : readV0 [48, 55] = (longZ [48, 55]).map fun n => ⟨2, n, 0, bsO []⟩ := by
   unfold readV0
   simp [tNull, tTrue, tFalse]
  rw [hz, long_07] at h0
  cases h0
theorem bad_line : lineF (mid exC [exT] [exA]) exBad = none := by
 have hw : wordsF exBad = some [tOp1, [48], [48, 55]] := by decide
 have hr : readA exBad = none := by
  unfold readA
  rw [hw]
  have h0 : longZ [48] = some 0 := by have := longZ_itoa (v := 0) ⟨by omega, by omega⟩; rwa [itoa_0] at this
  show opR 1 [[48], [48, 55]] = none
  unfold opR
  simp only [h0]
  have : rowR [[48, 55]] = none := by unfold rowR; rw [read_07]
  simp [this]
 show bodyF (mid exC [exT] [exA]) exBad = none
 unfold bodyF
 have hac : (mid exC [exT] [exA]).acts = true := rfl
 simp only [hac, if_true, hr]
 rfl
theorem ex_bad : goP Ls0 (spW 10 exBadC) = .bad 6 := by
 have hs : spW 10 exBadC = headLs (mid exC [] []) ++ ([tabT exT] ++ [[105, 110, 115, 101, 114, 116, 32, 48, 32, 55], exBad, []]) := by
  rw [ex_head, ex_tab]
  decide
 rw [hs, head_run ex_conf _ (by simp)]
 have h1 := tabs_run (c := exC) (by decide) ex_wf (fun t ht => by
  obtain rfl : t = exT := by simpa [exC] using ht
  rw [ex_tab]; decide) [[105, 110, 115, 101, 114, 116, 32, 48, 32, 55], exBad, []] (by simp) [exT] [] rfl
 rw [show mid exC [] [] = mid exC (([] : List Ta).map Ta.z) [] from rfl]
 refine Eq.trans h1 ?_
 have ha : readA [105, 110, 115, 101, 114, 116, 32, 48, 32, 55] = some exA := (readA_some (by decide)).2 ⟨ex_awf, ex_act⟩
 have hl : lineF (mid exC [exT] []) [105, 110, 115, 101, 114, 116, 32, 48, 32, 55] = some (mid exC [exT] [exA]) := by
  have hn : readT [105, 110, 115, 101, 114, 116, 32, 48, 32, 55] = none := act_not (by decide) ex_awf ex_act
  show bodyF (mid exC [exT] []) [105, 110, 115, 101, 114, 116, 32, 48, 32, 55] = _
  unfold bodyF
  have hac : (mid exC [exT] []).acts = false := rfl
  simp only [hac, Bool.false_eq_true, if_false, hn, ha]
  rfl
 show goP (mid exC [exT] []) ([105, 110, 115, 101, 114, 116, 32, 48, 32, 55] :: [exBad, []]) = _
 rw [goP_cons (st1 := mid exC [exT] [exA]) hl _ (by simp)]
 show goP (mid exC [exT] [exA]) [exBad, []] = _
 unfold goP
 rw [bad_line]
 rfl
theorem ex_no : actT Ac0 = none := by
 unfold actT
 rw [show actW Ac0 = none by decide]
 rfl
end Go.Proofs.YtfekohonidggjaaGreatDoor
