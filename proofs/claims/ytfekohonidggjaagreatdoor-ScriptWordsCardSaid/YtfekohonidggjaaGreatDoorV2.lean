/- Texts joined by a tool: contracts and walks of this claim. -/
import Derived.Test.YtfekohonidggjaaGreatDoorV1
import Derived.Test.YtfekohonidggjaaGreatDoorB14
namespace Go.Proofs.YtfekohonidggjaaGreatDoor
open Go.RowKit
def readP (o : Option V) : Value := match o with
 | some v => .tuple #[v.agg, .int .i64 0]
 | none => .tuple #[.agg #[.int .u8 0, .int .i64 0, .int .u64 0, .string ⟨#[]⟩], .int .i64 310]
theorem zero_set {W : World} {n : Nat} (h : Blk W n #[.int .u8 0, .int .i64 0, .int .u64 0, .string ⟨#[]⟩] 48) :
  n < W.heap.size ∧ W.cell? ⟨n, 0, none⟩ = some (.int .u8 0) ∧ W.cell? ⟨n, 1, none⟩ = some (.int .i64 0) ∧ W.cell? ⟨n, 2, none⟩ = some (.int .u64 0) ∧ W.cell? ⟨n, 3, none⟩ = some (.string ⟨#[]⟩) ∧ (∀ i, W.frozen? ⟨n, i, none⟩ = false) ∧
   W.setCell ⟨n, 0, none⟩ (.int .u8 0) = W ∧ W.setCell ⟨n, 1, none⟩ (.int .i64 0) = W ∧ W.setCell ⟨n, 2, none⟩ (.int .u64 0) = W ∧ W.setCell ⟨n, 3, none⟩ (.string ⟨#[]⟩) = W := by
 have hS : ∀ i v, (#[.int .u8 0, .int .i64 0, .int .u64 0, .string ⟨#[]⟩] : Array Value).setIfInBounds i v = #[.int .u8 0, .int .i64 0, .int .u64 0, .string ⟨#[]⟩] → W.setCell ⟨n, i, none⟩ v = W := by
  intro i v e
  obtain ⟨w3, rfl, lt⟩ := blk_put h
  rw [(putBlk_facts (w := w3) 48 lt).2.2, e]
 obtain ⟨_, y0, y1, y2, y3⟩ := mk4 h
 exact ⟨h.lt, y0, y1, y2, y3, h.frozen, hS 0 _ rfl, hS 1 _ rfl, hS 2 _ rfl, hS 3 _ rfl⟩
set_option maxRecDepth 100000 in
set_option maxHeartbeats 6400000 in
theorem refReadValue_any (s : ByteArray) (hs : s.size ≤ 35184372088832) (w : World) (hT : Tabs w) :
  Calls Tryz.prog 22 #[.string s] w fun r w' => r = .returned (readP (readV s.data.toList)) ∧ Below w.heap.size w w' := by
 generalize hR : readP (readV s.data.toList) = R
 have HR := hd_ hR
 have HCK := hd_ (fun (v : V) (hv : v.wf) (W : World) (hW : Below w.heap.size w W) => may_any v hv W (hT.ext hW))
 have W : ∀ W2 : World, W2 = (w.alloc (.cells #[.int .u8 0, .int .i64 0, .int .u64 0, .string ⟨#[]⟩] 48)).alloc (.cells #[.int .u8 0, .int .i64 0, .int .u64 0, .string ⟨#[]⟩] 48) → Blk W2 w.heap.size #[.int .u8 0, .int .i64 0, .int .u64 0, .string ⟨#[]⟩] 48 ∧ Blk W2 (w.heap.size + 1) #[.int .u8 0, .int .i64 0, .int .u64 0, .string ⟨#[]⟩] 48 ∧ Below w.heap.size w W2 := by
  rintro W2 rfl
  exact ⟨(Blk.new w _ _).old _, (by repeat (first | exact Blk.at (by simp) | assumption | refine Blk.drew ?_ | refine Blk.old ?_ _)), (by repeat (first | exact Below.refl _ _ | assumption | refine Below.drew ?_ | refine below_drewN ?_ _ | refine Below.alloc ?_ (by simp <;> omega) _))⟩
 clear hR hT
 go_enter Tryz.func22, Tryz.ntmps22
 go_upto_block 0 with fail
 obtain ⟨hz, hk, hb⟩ := W _ rfl
 clear W
 generalize (w.alloc (.cells #[.int .u8 0, .int .i64 0, .int .u64 0, .string ⟨#[]⟩] 48)).alloc (.cells #[.int .u8 0, .int .i64 0, .int .u64 0, .string ⟨#[]⟩] 48) = w1 at hz hk hb ⊢
 have HSA := hd_ hz
 have HSX := hd_ hk
 have HBX := hd_ hb
 clear hz hk hb
 go_cut [5] (fun v wx => ∃ (is : Bool) (u : V), v = .bool is ∧ Hid (is = true → readV0 s.data.toList = some u ∧ u.wf) ∧ Hid (is = false → readV s.data.toList = none) ∧ Hid (Blk wx (w.heap.size + 1) #[.int .u8 u.k, .int .i64 u.n, .int .u64 u.r, .string u.t] 48) ∧ Hid (Blk wx w.heap.size #[.int .u8 0, .int .i64 0, .int .u64 0, .string ⟨#[]⟩] 48) ∧ Hid (Below w.heap.size w wx))
 case first =>
  have hb : Below w1.heap.size w1 w1 := Below.refl _ _
  by_cases hnull : s = bsO tNull
  · have hne1 : (s.toList == [110, 117, 108, 108]) = true := by rw [hnull, ByteArray.toList_eq]; rfl
    have HX : Hid (readV0 s.data.toList = some ⟨0, 0, 0, bsO []⟩) := by show _ = _; rw [hnull]; rfl
    have HVW : Hid (V.wf ⟨0, 0, 0, bsO []⟩) := by refine ⟨?_, ?_, ?_, ?_, ?_, ?_, ?_⟩ <;> decide
    clear hnull
    have hS1 := HSX.out.ext hb
    have hZ1 := HSA.out.ext hb
    have hB1 := bt HBX.out hb
    obtain ⟨w3, rfl, lt⟩ := blk_put hS1
    obtain ⟨pc, pf, pS⟩ := putBlk_facts (w := w3) 48 lt
    have HSX : Hid (Blk (putBlk w3 (w.heap.size + 1) #[.int .u8 0, .int .i64 0, .int .u64 0, .string ⟨#[]⟩] 48) (w.heap.size + 1) #[.int .u8 0, .int .i64 0, .int .u64 0, .string ⟨#[]⟩] 48) := putBlk_blk _ _ lt
    have HSA : Hid (Blk (putBlk w3 (w.heap.size + 1) #[.int .u8 0, .int .i64 0, .int .u64 0, .string ⟨#[]⟩] 48) w.heap.size #[.int .u8 0, .int .i64 0, .int .u64 0, .string ⟨#[]⟩] 48) := putBlk_old hZ1 (by omega) _
    have HBX : Hid (Below w.heap.size w (putBlk w3 (w.heap.size + 1) #[.int .u8 0, .int .i64 0, .int .u64 0, .string ⟨#[]⟩] 48)) := putBlk_belows hB1 (by omega) _
    clear hS1 hZ1 hB1 hb
    go_wp2_with fail
    clear pc pf pS lt
    go_meet
    exact ⟨true, ⟨0, 0, 0, bsO []⟩, rfl, fun _ => ⟨HX.out, HVW.out⟩, (fun e => nomatch e), HSX, HSA, HBX⟩
  · have hne1 : (s.toList == [110, 117, 108, 108]) = false := by
     have h := (strne (show ¬ s = ⟨#[110, 117, 108, 108]⟩ from hnull)).1
     rwa [show (⟨#[110, 117, 108, 108]⟩ : ByteArray).toList = [110, 117, 108, 108] by rw [ByteArray.toList_eq]] at h
    by_cases htTrue : s = bsO tTrue
    · have hne2 : (s.toList == [116, 114, 117, 101]) = true := by rw [htTrue, ByteArray.toList_eq]; rfl
      have HX : Hid (readV0 s.data.toList = some ⟨1, 1, 0, bsO []⟩) := by show _ = _; rw [htTrue]; rfl
      have HVW : Hid (V.wf ⟨1, 1, 0, bsO []⟩) := by refine ⟨?_, ?_, ?_, ?_, ?_, ?_, ?_⟩ <;> decide
      clear hnull htTrue
      have hS1 := HSX.out.ext hb
      have hZ1 := HSA.out.ext hb
      have hB1 := bt HBX.out hb
      obtain ⟨w3, rfl, lt⟩ := blk_put hS1
      obtain ⟨pc, pf, pS⟩ := putBlk_facts (w := w3) 48 lt
      have HSX : Hid (Blk (putBlk w3 (w.heap.size + 1) #[.int .u8 1, .int .i64 1, .int .u64 0, .string ⟨#[]⟩] 48) (w.heap.size + 1) #[.int .u8 1, .int .i64 1, .int .u64 0, .string ⟨#[]⟩] 48) := putBlk_blk _ _ lt
      have HSA : Hid (Blk (putBlk w3 (w.heap.size + 1) #[.int .u8 1, .int .i64 1, .int .u64 0, .string ⟨#[]⟩] 48) w.heap.size #[.int .u8 0, .int .i64 0, .int .u64 0, .string ⟨#[]⟩] 48) := putBlk_old hZ1 (by omega) _
      have HBX : Hid (Below w.heap.size w (putBlk w3 (w.heap.size + 1) #[.int .u8 1, .int .i64 1, .int .u64 0, .string ⟨#[]⟩] 48)) := putBlk_belows hB1 (by omega) _
      clear hS1 hZ1 hB1 hb
      go_wp2_with fail
      clear pc pf pS lt
      go_meet
      exact ⟨true, ⟨1, 1, 0, bsO []⟩, rfl, fun _ => ⟨HX.out, HVW.out⟩, (fun e => nomatch e), HSX, HSA, HBX⟩
    · have hne2 : (s.toList == [116, 114, 117, 101]) = false := by
       have h := (strne (show ¬ s = ⟨#[116, 114, 117, 101]⟩ from htTrue)).1
       rwa [show (⟨#[116, 114, 117, 101]⟩ : ByteArray).toList = [116, 114, 117, 101] by rw [ByteArray.toList_eq]] at h
      by_cases htFalse : s = bsO tFalse
      · have hne3 : (s.toList == [102, 97, 108, 115, 101]) = true := by rw [htFalse, ByteArray.toList_eq]; rfl
        have HX : Hid (readV0 s.data.toList = some ⟨1, 0, 0, bsO []⟩) := by show _ = _; rw [htFalse]; rfl
        have HVW : Hid (V.wf ⟨1, 0, 0, bsO []⟩) := by refine ⟨?_, ?_, ?_, ?_, ?_, ?_, ?_⟩ <;> decide
        clear hnull htTrue htFalse
        have hS1 := HSX.out.ext hb
        have hZ1 := HSA.out.ext hb
        have hB1 := bt HBX.out hb
        obtain ⟨w3, rfl, lt⟩ := blk_put hS1
        obtain ⟨pc, pf, pS⟩ := putBlk_facts (w := w3) 48 lt
        have HSX : Hid (Blk (putBlk w3 (w.heap.size + 1) #[.int .u8 1, .int .i64 0, .int .u64 0, .string ⟨#[]⟩] 48) (w.heap.size + 1) #[.int .u8 1, .int .i64 0, .int .u64 0, .string ⟨#[]⟩] 48) := putBlk_blk _ _ lt
        have HSA : Hid (Blk (putBlk w3 (w.heap.size + 1) #[.int .u8 1, .int .i64 0, .int .u64 0, .string ⟨#[]⟩] 48) w.heap.size #[.int .u8 0, .int .i64 0, .int .u64 0, .string ⟨#[]⟩] 48) := putBlk_old hZ1 (by omega) _
        have HBX : Hid (Below w.heap.size w (putBlk w3 (w.heap.size + 1) #[.int .u8 1, .int .i64 0, .int .u64 0, .string ⟨#[]⟩] 48)) := putBlk_belows hB1 (by omega) _
        clear hS1 hZ1 hB1 hb
        go_wp2_with fail
        clear pc pf pS lt
        go_meet
        exact ⟨true, ⟨1, 0, 0, bsO []⟩, rfl, fun _ => ⟨HX.out, HVW.out⟩, (fun e => nomatch e), HSX, HSA, HBX⟩
      · have hne3 : (s.toList == [102, 97, 108, 115, 101]) = false := by
         have h := (strne (show ¬ s = ⟨#[102, 97, 108, 115, 101]⟩ from htFalse)).1
         rwa [show (⟨#[102, 97, 108, 115, 101]⟩ : ByteArray).toList = [102, 97, 108, 115, 101] by rw [ByteArray.toList_eq]] at h
        have hn1 : s.data.toList ≠ tNull := fun e => hnull (by rw [← e, bsO_of])
        have hn2 : s.data.toList ≠ tTrue := fun e => htTrue (by rw [← e, bsO_of])
        have hn3 : s.data.toList ≠ tFalse := fun e => htFalse (by rw [← e, bsO_of])
        have HN1 := hd_ hn1
        have HN2 := hd_ hn2
        have HN3 := hd_ hn3
        clear hn1 hn2 hn3 hnull htTrue htFalse hb
        have HNUM := hd_ (fun (W : World) => refnumber_any s W)
        have hem := txt_empty (t := s)
        by_cases hz : s.size = 0
        · rw [decide_eq_true hz] at hem
          have hl0 : s.data.toList = [] := List.eq_nil_of_length_eq_zero (by rw [len_data]; exact hz)
          have HNO : Hid (readV s.data.toList = none) := by
           show _ = _
           unfold readV readV0
           rw [if_neg HN1.out, if_neg HN2.out, if_neg HN3.out, hl0]
           rfl
          have HLO : Hid (longZ s.data.toList = none) := by
           show _ = _
           cases h : longZ s.data.toList with
           | none => rfl
           | some v => exact absurd hl0 (longZ_len h).1
          clear hl0
          go_wp2_with fail
          refine (HNUM.out _).mono ?_
          rintro q w1 ⟨⟨x, hx, ⟨hl, rfl⟩ | ⟨hl, rfl⟩⟩, hb⟩
          · rw [HLO.out] at hl; cases hl
          · clear hl
            have hS1 := HSX.out.ext hb
            have hZ1 := HSA.out.ext hb
            have hB1 := bt HBX.out hb
            obtain ⟨w3, rfl, lt⟩ := blk_put hS1
            obtain ⟨pc, pf, pS⟩ := putBlk_facts (w := w3) 48 lt
            have HSX : Hid (Blk (putBlk w3 (w.heap.size + 1) #[.int .u8 2, .int .i64 x, .int .u64 0, .string ⟨#[]⟩] 48) (w.heap.size + 1) #[.int .u8 2, .int .i64 x, .int .u64 0, .string ⟨#[]⟩] 48) := putBlk_blk _ _ lt
            have HSA : Hid (Blk (putBlk w3 (w.heap.size + 1) #[.int .u8 2, .int .i64 x, .int .u64 0, .string ⟨#[]⟩] 48) w.heap.size #[.int .u8 0, .int .i64 0, .int .u64 0, .string ⟨#[]⟩] 48) := putBlk_old hZ1 (by omega) _
            have HBX : Hid (Below w.heap.size w (putBlk w3 (w.heap.size + 1) #[.int .u8 2, .int .i64 x, .int .u64 0, .string ⟨#[]⟩] 48)) := putBlk_belows hB1 (by omega) _
            clear hS1 hZ1 hB1 hb
            go_wp2_with fail
            clear pc pf pS lt
            go_meet
            exact ⟨false, ⟨2, x, 0, bsO []⟩, rfl, (fun e => nomatch e), fun _ => HNO.out, HSX, HSA, HBX⟩
        · rw [decide_eq_false hz] at hem
          obtain ⟨c0, hidx, -, hsp, -⟩ := byteA (s := s) (j := 0) (Nat.pos_of_ne_zero hz)
          rw [List.take_zero, List.nil_append] at hsp
          obtain ⟨r, hr⟩ : ∃ r, r = s.data.toList.drop 1 := ⟨_, rfl⟩
          rw [show (0 : Nat) + 1 = 1 from rfl, ← hr] at hsp
          have HSP := hd_ hsp
          have hex : (s.extract 1 s.size).data.toList = r := by
           have := Lib.extract_toList s 1 s.size
           rw [Lib.toList_data] at this
           rw [this, ← hr]
           exact List.take_of_length_le (by rw [hr]; simp)
          obtain ⟨m, hm⟩ : ∃ m : Int, (c0.toNat : Int) = m := ⟨_, rfl⟩
          have hpos : (0 : Int) < s.size := by omega
          have h1I : (1 : Int) ≤ s.size := by omega
          clear hsp hr
          by_cases h114 : m = 114
          · have hcc : c0 = 114 := UInt8.toNat_inj.1 (by show c0.toNat = 114; omega)
            have HRR := hd_ (fun (W : World) => refread_any (s.extract 1 s.size) W)
            rw [hex] at HRR
            unfold realV at HRR
            cases hu : realR r with
            | none =>
             have HNO : Hid (readV s.data.toList = none) := by
              show _ = _
              unfold readV readV0
              rw [if_neg HN1.out, if_neg HN2.out, if_neg HN3.out, HSP.out]
              simp [hcc, hu]
             rw [hu] at HRR
             clear hu hcc
             go_wp2_with fail
             refine (HRR.out _).mono ?_
             rintro q w1 ⟨rfl, hb⟩
             have hS1 := HSX.out.ext hb
             have hZ1 := HSA.out.ext hb
             have hB1 := bt HBX.out hb
             obtain ⟨w3, rfl, lt⟩ := blk_put hS1
             obtain ⟨pc, pf, pS⟩ := putBlk_facts (w := w3) 48 lt
             have HSX : Hid (Blk (putBlk w3 (w.heap.size + 1) #[.int .u8 3, .int .i64 0, .int .u64 0, .string ⟨#[]⟩] 48) (w.heap.size + 1) #[.int .u8 3, .int .i64 0, .int .u64 0, .string ⟨#[]⟩] 48) := putBlk_blk _ _ lt
             have HSA : Hid (Blk (putBlk w3 (w.heap.size + 1) #[.int .u8 3, .int .i64 0, .int .u64 0, .string ⟨#[]⟩] 48) w.heap.size #[.int .u8 0, .int .i64 0, .int .u64 0, .string ⟨#[]⟩] 48) := putBlk_old hZ1 (by omega) _
             have HBX : Hid (Below w.heap.size w (putBlk w3 (w.heap.size + 1) #[.int .u8 3, .int .i64 0, .int .u64 0, .string ⟨#[]⟩] 48)) := putBlk_belows hB1 (by omega) _
             clear hS1 hZ1 hB1 hb
             go_wp2_with fail
             clear pc pf pS lt
             go_meet
             exact ⟨false, ⟨3, 0, 0, bsO []⟩, rfl, (fun e => nomatch e), fun _ => HNO.out, HSX, HSA, HBX⟩
            | some x =>
             have HX : Hid (readV0 s.data.toList = some ⟨3, 0, x, bsO []⟩) := by
              show _ = _
              unfold readV0
              rw [if_neg HN1.out, if_neg HN2.out, if_neg HN3.out, HSP.out]
              simp [hcc, hu]
             have HVW := hd_ (real_may hu).2
             rw [hu] at HRR
             clear hu hcc
             go_wp2_with fail
             refine (HRR.out _).mono ?_
             rintro q w1 ⟨rfl, hb⟩
             have hS1 := HSX.out.ext hb
             have hZ1 := HSA.out.ext hb
             have hB1 := bt HBX.out hb
             obtain ⟨w3, rfl, lt⟩ := blk_put hS1
             obtain ⟨pc, pf, pS⟩ := putBlk_facts (w := w3) 48 lt
             have HSX : Hid (Blk (putBlk w3 (w.heap.size + 1) #[.int .u8 3, .int .i64 0, .int .u64 x, .string ⟨#[]⟩] 48) (w.heap.size + 1) #[.int .u8 3, .int .i64 0, .int .u64 x, .string ⟨#[]⟩] 48) := putBlk_blk _ _ lt
             have HSA : Hid (Blk (putBlk w3 (w.heap.size + 1) #[.int .u8 3, .int .i64 0, .int .u64 x, .string ⟨#[]⟩] 48) w.heap.size #[.int .u8 0, .int .i64 0, .int .u64 0, .string ⟨#[]⟩] 48) := putBlk_old hZ1 (by omega) _
             have HBX : Hid (Below w.heap.size w (putBlk w3 (w.heap.size + 1) #[.int .u8 3, .int .i64 0, .int .u64 x, .string ⟨#[]⟩] 48)) := putBlk_belows hB1 (by omega) _
             clear hS1 hZ1 hB1 hb
             go_wp2_with fail
             clear pc pf pS lt
             go_meet
             exact ⟨true, ⟨3, 0, x, bsO []⟩, rfl, fun _ => ⟨HX.out, HVW.out⟩, (fun e => nomatch e), HSX, HSA, HBX⟩
          · by_cases h120 : m = 120
            · have hcc : c0 = 120 := UInt8.toNat_inj.1 (by show c0.toNat = 120; omega)
              have HUH := hd_ (fun (W : World) => refunhexT_any (s.extract 1 s.size) (by rw [ByteArray.size_extract]; omega) W)
              rw [hex] at HUH
              unfold unhexV at HUH
              cases hu : unhexL r with
              | none =>
               have HNO : Hid (readV s.data.toList = none) := by
                show _ = _
                unfold readV readV0
                rw [if_neg HN1.out, if_neg HN2.out, if_neg HN3.out, HSP.out]
                simp [hcc, hu]
               rw [hu] at HUH
               clear hu hcc
               go_wp2_with fail
               refine (HUH.out _).mono ?_
               rintro q w1 ⟨rfl, hb⟩
               have hS1 := HSX.out.ext hb
               have hZ1 := HSA.out.ext hb
               have hB1 := bt HBX.out hb
               obtain ⟨w3, rfl, lt⟩ := blk_put hS1
               obtain ⟨pc, pf, pS⟩ := putBlk_facts (w := w3) 48 lt
               have HSX : Hid (Blk (putBlk w3 (w.heap.size + 1) #[.int .u8 4, .int .i64 0, .int .u64 0, .string (bsO [])] 48) (w.heap.size + 1) #[.int .u8 4, .int .i64 0, .int .u64 0, .string (bsO [])] 48) := putBlk_blk _ _ lt
               have HSA : Hid (Blk (putBlk w3 (w.heap.size + 1) #[.int .u8 4, .int .i64 0, .int .u64 0, .string (bsO [])] 48) w.heap.size #[.int .u8 0, .int .i64 0, .int .u64 0, .string ⟨#[]⟩] 48) := putBlk_old hZ1 (by omega) _
               have HBX : Hid (Below w.heap.size w (putBlk w3 (w.heap.size + 1) #[.int .u8 4, .int .i64 0, .int .u64 0, .string (bsO [])] 48)) := putBlk_belows hB1 (by omega) _
               clear hS1 hZ1 hB1 hb
               go_wp2_with fail
               clear pc pf pS lt
               go_meet
               exact ⟨false, ⟨4, 0, 0, bsO []⟩, rfl, (fun e => nomatch e), fun _ => HNO.out, HSX, HSA, HBX⟩
              | some t =>
               have HX : Hid (readV0 s.data.toList = some ⟨4, 0, 0, bsO t⟩) := by
                show _ = _
                unfold readV0
                rw [if_neg HN1.out, if_neg HN2.out, if_neg HN3.out, HSP.out]
                simp [hcc, hu]
               have HVW : Hid (V.wf ⟨4, 0, 0, bsO t⟩) := by
                have h1 := unhexL_len hu
                have h2 : r.length + 1 = s.size := by have := congrArg List.length HSP.out; rw [len_data] at this; simpa using this.symm
                show V.wf _
                simp [V.wf, bsO_size]
                omega
               rw [hu] at HUH
               clear hu hcc
               go_wp2_with fail
               refine (HUH.out _).mono ?_
               rintro q w1 ⟨rfl, hb⟩
               have hS1 := HSX.out.ext hb
               have hZ1 := HSA.out.ext hb
               have hB1 := bt HBX.out hb
               obtain ⟨w3, rfl, lt⟩ := blk_put hS1
               obtain ⟨pc, pf, pS⟩ := putBlk_facts (w := w3) 48 lt
               have HSX : Hid (Blk (putBlk w3 (w.heap.size + 1) #[.int .u8 4, .int .i64 0, .int .u64 0, .string (bsO t)] 48) (w.heap.size + 1) #[.int .u8 4, .int .i64 0, .int .u64 0, .string (bsO t)] 48) := putBlk_blk _ _ lt
               have HSA : Hid (Blk (putBlk w3 (w.heap.size + 1) #[.int .u8 4, .int .i64 0, .int .u64 0, .string (bsO t)] 48) w.heap.size #[.int .u8 0, .int .i64 0, .int .u64 0, .string ⟨#[]⟩] 48) := putBlk_old hZ1 (by omega) _
               have HBX : Hid (Below w.heap.size w (putBlk w3 (w.heap.size + 1) #[.int .u8 4, .int .i64 0, .int .u64 0, .string (bsO t)] 48)) := putBlk_belows hB1 (by omega) _
               clear hS1 hZ1 hB1 hb
               go_wp2_with fail
               clear pc pf pS lt
               go_meet
               exact ⟨true, ⟨4, 0, 0, bsO t⟩, rfl, fun _ => ⟨HX.out, HVW.out⟩, (fun e => nomatch e), HSX, HSA, HBX⟩
            · by_cases h115 : m = 115
              · have hcc : c0 = 115 := UInt8.toNat_inj.1 (by show c0.toNat = 115; omega)
                have HUH := hd_ (fun (W : World) => refunhexT_any (s.extract 1 s.size) (by rw [ByteArray.size_extract]; omega) W)
                rw [hex] at HUH
                unfold unhexV at HUH
                cases hu : unhexL r with
                | none =>
                 have HNO : Hid (readV s.data.toList = none) := by
                  show _ = _
                  unfold readV readV0
                  rw [if_neg HN1.out, if_neg HN2.out, if_neg HN3.out, HSP.out]
                  simp [hcc, hu]
                 rw [hu] at HUH
                 clear hu hcc
                 go_wp2_with fail
                 refine (HUH.out _).mono ?_
                 rintro q w1 ⟨rfl, hb⟩
                 have hS1 := HSX.out.ext hb
                 have hZ1 := HSA.out.ext hb
                 have hB1 := bt HBX.out hb
                 obtain ⟨w3, rfl, lt⟩ := blk_put hS1
                 obtain ⟨pc, pf, pS⟩ := putBlk_facts (w := w3) 48 lt
                 have HSX : Hid (Blk (putBlk w3 (w.heap.size + 1) #[.int .u8 5, .int .i64 0, .int .u64 0, .string (bsO [])] 48) (w.heap.size + 1) #[.int .u8 5, .int .i64 0, .int .u64 0, .string (bsO [])] 48) := putBlk_blk _ _ lt
                 have HSA : Hid (Blk (putBlk w3 (w.heap.size + 1) #[.int .u8 5, .int .i64 0, .int .u64 0, .string (bsO [])] 48) w.heap.size #[.int .u8 0, .int .i64 0, .int .u64 0, .string ⟨#[]⟩] 48) := putBlk_old hZ1 (by omega) _
                 have HBX : Hid (Below w.heap.size w (putBlk w3 (w.heap.size + 1) #[.int .u8 5, .int .i64 0, .int .u64 0, .string (bsO [])] 48)) := putBlk_belows hB1 (by omega) _
                 clear hS1 hZ1 hB1 hb
                 go_wp2_with fail
                 clear pc pf pS lt
                 go_meet
                 exact ⟨false, ⟨5, 0, 0, bsO []⟩, rfl, (fun e => nomatch e), fun _ => HNO.out, HSX, HSA, HBX⟩
                | some t =>
                 have HX : Hid (readV0 s.data.toList = some ⟨5, 0, 0, bsO t⟩) := by
                  show _ = _
                  unfold readV0
                  rw [if_neg HN1.out, if_neg HN2.out, if_neg HN3.out, HSP.out]
                  simp [hcc, hu]
                 have HVW : Hid (V.wf ⟨5, 0, 0, bsO t⟩) := by
                  have h1 := unhexL_len hu
                  have h2 : r.length + 1 = s.size := by have := congrArg List.length HSP.out; rw [len_data] at this; simpa using this.symm
                  show V.wf _
                  simp [V.wf, bsO_size]
                  omega
                 rw [hu] at HUH
                 clear hu hcc
                 go_wp2_with fail
                 refine (HUH.out _).mono ?_
                 rintro q w1 ⟨rfl, hb⟩
                 have hS1 := HSX.out.ext hb
                 have hZ1 := HSA.out.ext hb
                 have hB1 := bt HBX.out hb
                 obtain ⟨w3, rfl, lt⟩ := blk_put hS1
                 obtain ⟨pc, pf, pS⟩ := putBlk_facts (w := w3) 48 lt
                 have HSX : Hid (Blk (putBlk w3 (w.heap.size + 1) #[.int .u8 5, .int .i64 0, .int .u64 0, .string (bsO t)] 48) (w.heap.size + 1) #[.int .u8 5, .int .i64 0, .int .u64 0, .string (bsO t)] 48) := putBlk_blk _ _ lt
                 have HSA : Hid (Blk (putBlk w3 (w.heap.size + 1) #[.int .u8 5, .int .i64 0, .int .u64 0, .string (bsO t)] 48) w.heap.size #[.int .u8 0, .int .i64 0, .int .u64 0, .string ⟨#[]⟩] 48) := putBlk_old hZ1 (by omega) _
                 have HBX : Hid (Below w.heap.size w (putBlk w3 (w.heap.size + 1) #[.int .u8 5, .int .i64 0, .int .u64 0, .string (bsO t)] 48)) := putBlk_belows hB1 (by omega) _
                 clear hS1 hZ1 hB1 hb
                 go_wp2_with fail
                 clear pc pf pS lt
                 go_meet
                 exact ⟨true, ⟨5, 0, 0, bsO t⟩, rfl, fun _ => ⟨HX.out, HVW.out⟩, (fun e => nomatch e), HSX, HSA, HBX⟩
              · have c1 : ¬ c0 = 114 := fun e => h114 (by rw [← hm, e]; rfl)
                have c2 : ¬ c0 = 120 := fun e => h120 (by rw [← hm, e]; rfl)
                have c3 : ¬ c0 = 115 := fun e => h115 (by rw [← hm, e]; rfl)
                have HC := hd_ (And.intro c1 (And.intro c2 c3))
                clear c1 c2 c3
                have b1 : (m == 114) = false := by simpa using h114
                have b2 : (m == 120) = false := by simpa using h120
                have b3 : (m == 115) = false := by simpa using h115
                go_wp2_with fail
                refine (HNUM.out _).mono ?_
                rintro q w1 ⟨⟨x, hx, ⟨hl, rfl⟩ | ⟨hl, rfl⟩⟩, hb⟩
                · have HX : Hid (readV0 s.data.toList = some ⟨2, x, 0, bsO []⟩) := by
                   show _ = _
                   obtain ⟨c1, c2, c3⟩ := HC.out
                   unfold readV0
                   rw [if_neg HN1.out, if_neg HN2.out, if_neg HN3.out, hl, HSP.out]
                   simp [c1, c2, c3]
                  have HVW : Hid (V.wf ⟨2, x, 0, bsO []⟩) := by
                   obtain ⟨hx0, hx1⟩ := hx
                   show V.wf _
                   simp [V.wf, bsO_size]
                   omega
                  clear hl hx
                  have hS1 := HSX.out.ext hb
                  have hZ1 := HSA.out.ext hb
                  have hB1 := bt HBX.out hb
                  obtain ⟨w3, rfl, lt⟩ := blk_put hS1
                  obtain ⟨pc, pf, pS⟩ := putBlk_facts (w := w3) 48 lt
                  have HSX : Hid (Blk (putBlk w3 (w.heap.size + 1) #[.int .u8 2, .int .i64 x, .int .u64 0, .string ⟨#[]⟩] 48) (w.heap.size + 1) #[.int .u8 2, .int .i64 x, .int .u64 0, .string ⟨#[]⟩] 48) := putBlk_blk _ _ lt
                  have HSA : Hid (Blk (putBlk w3 (w.heap.size + 1) #[.int .u8 2, .int .i64 x, .int .u64 0, .string ⟨#[]⟩] 48) w.heap.size #[.int .u8 0, .int .i64 0, .int .u64 0, .string ⟨#[]⟩] 48) := putBlk_old hZ1 (by omega) _
                  have HBX : Hid (Below w.heap.size w (putBlk w3 (w.heap.size + 1) #[.int .u8 2, .int .i64 x, .int .u64 0, .string ⟨#[]⟩] 48)) := putBlk_belows hB1 (by omega) _
                  clear hS1 hZ1 hB1 hb
                  go_wp2_with fail
                  clear pc pf pS lt
                  go_meet
                  exact ⟨true, ⟨2, x, 0, bsO []⟩, rfl, fun _ => ⟨HX.out, HVW.out⟩, (fun e => nomatch e), HSX, HSA, HBX⟩
                · have HNO : Hid (readV s.data.toList = none) := by
                   show _ = _
                   obtain ⟨c1, c2, c3⟩ := HC.out
                   unfold readV readV0
                   rw [if_neg HN1.out, if_neg HN2.out, if_neg HN3.out, hl, HSP.out]
                   simp [c1, c2, c3]
                  clear hl hx
                  have hS1 := HSX.out.ext hb
                  have hZ1 := HSA.out.ext hb
                  have hB1 := bt HBX.out hb
                  obtain ⟨w3, rfl, lt⟩ := blk_put hS1
                  obtain ⟨pc, pf, pS⟩ := putBlk_facts (w := w3) 48 lt
                  have HSX : Hid (Blk (putBlk w3 (w.heap.size + 1) #[.int .u8 2, .int .i64 x, .int .u64 0, .string ⟨#[]⟩] 48) (w.heap.size + 1) #[.int .u8 2, .int .i64 x, .int .u64 0, .string ⟨#[]⟩] 48) := putBlk_blk _ _ lt
                  have HSA : Hid (Blk (putBlk w3 (w.heap.size + 1) #[.int .u8 2, .int .i64 x, .int .u64 0, .string ⟨#[]⟩] 48) w.heap.size #[.int .u8 0, .int .i64 0, .int .u64 0, .string ⟨#[]⟩] 48) := putBlk_old hZ1 (by omega) _
                  have HBX : Hid (Below w.heap.size w (putBlk w3 (w.heap.size + 1) #[.int .u8 2, .int .i64 x, .int .u64 0, .string ⟨#[]⟩] 48)) := putBlk_belows hB1 (by omega) _
                  clear hS1 hZ1 hB1 hb
                  go_wp2_with fail
                  clear pc pf pS lt
                  go_meet
                  exact ⟨false, ⟨2, x, 0, bsO []⟩, rfl, (fun e => nomatch e), fun _ => HNO.out, HSX, HSA, HBX⟩
 case rest =>
  obtain ⟨is, u, rfl, HY, HN, HSX, HSA, HBX⟩ := hcut
  cases is with
  | false =>
   have HNO : Hid (readV s.data.toList = none) := HN.out rfl
   clear HY HN
   have HF : Hid (R = .tuple #[.agg #[.int .u8 0, .int .i64 0, .int .u64 0, .string ⟨#[]⟩], .int .i64 310]) := by
    show _ = _
    rw [← HR.out, HNO.out]
    rfl
   obtain ⟨zl, zc0, zc1, zc2, zc3, zf, zs0, zs1, zs2, zs3⟩ := zero_set HSA.out
   go_wp2_with fail
   refine bodyPost_ret (v := .tuple #[.agg #[.int .u8 0, .int .i64 0, .int .u64 0, .string ⟨#[]⟩], .int .i64 310]) (by simp [results, Tryz.results22, go_sem, zc0, zc1, zc2, zc3]) rfl ?_
   exact ⟨by rw [HF.out], HBX.out⟩
  | true =>
   have HX : Hid (readV0 s.data.toList = some u) := (HY.out rfl).1
   have HVW : Hid u.wf := (HY.out rfl).2
   clear HY HN
   obtain ⟨uk, un, ur, ut⟩ := u
   have hS1 := HSX.out
   obtain ⟨pl, p0, p1, p2, p3⟩ := mk4 hS1
   unfold V.agg at HCK
   go_wp2_with fail
   refine (HCK.out ⟨uk, un, ur, ut⟩ HVW.out _ HBX.out).mono ?_
   rintro q w2 ⟨rfl, hb⟩
   have hS2 := HSX.out.ext hb
   have hZ2 := HSA.out.ext hb
   have HB2 := hd_ (bt HBX.out hb)
   clear hb
   cases hm : mayB ⟨uk, un, ur, ut⟩
   · have HF : Hid (R = .tuple #[.agg #[.int .u8 0, .int .i64 0, .int .u64 0, .string ⟨#[]⟩], .int .i64 310]) := by
      show _ = _
      rw [← HR.out, readV_no HX.out hm]
      rfl
     clear hm
     obtain ⟨w3, rfl, lt⟩ := blk_put hZ2
     obtain ⟨pc, pf, pS⟩ := putBlk_facts (w := w3) 48 lt
     go_wp2_with fail
     refine bodyPost_ret (v := .tuple #[.agg #[.int .u8 0, .int .i64 0, .int .u64 0, .string ⟨#[]⟩], .int .i64 310]) (by simp [results, Tryz.results22, go_sem, pc]) rfl ?_
     exact ⟨by rw [HF.out], HB2.out⟩
   · have HF : Hid (R = .tuple #[V.agg ⟨uk, un, ur, ut⟩, .int .i64 0]) := by
      show _ = _
      rw [← HR.out, readV_yes HX.out hm]
      rfl
     clear hm
     obtain ⟨pl, p0, p1, p2, p3⟩ := mk4 hS2
     obtain ⟨w3, hw3, lt⟩ := blk_put hZ2
     obtain ⟨pc, pf, pS⟩ := putBlk_facts (w := w3) 48 lt
     have hB3 := putBlk_belows (hw3 ▸ HB2.out) (Nat.le_refl _) #[.int .u8 (V.k ⟨uk, un, ur, ut⟩), .int .i64 (V.n ⟨uk, un, ur, ut⟩), .int .u64 (V.r ⟨uk, un, ur, ut⟩), .string (V.t ⟨uk, un, ur, ut⟩)]
     subst hw3
     go_wp2_with fail
     refine bodyPost_ret (v := .tuple #[V.agg ⟨uk, un, ur, ut⟩, .int .i64 0]) (by simp [results, Tryz.results22, go_sem, pc, V.agg] <;> rfl) rfl ?_
     exact ⟨by rw [HF.out], hB3⟩
set_option maxRecDepth 100000 in
theorem caught_rv (c1 c2 : Value) (w : World) (Q : Ending → World → Prop) (hcall : Calls Tryz.prog 56 #[c1, c2] (w.alloc (.cells #[.bool false] 4)) Q) (hQ : mayEnd w.heap.size Q) :
  Calls Tryz.prog 38 #[.func (Fn.func 56) #[] #[c1, c2]] w (caughtP w.heap.size Q) := by
 have HC := hd_ hcall
 have HQ := hd_ hQ
 clear hcall hQ
 go_enter_defers Tryz.func38, Tryz.ntmps38
 go_wp2_with fail
 refine HC.out.mono ?_
 intro r w1 hq
 obtain ⟨hr, hB⟩ := HQ.out r w1 hq
 obtain ⟨b0, b1, b2⟩ := blk1c hB
 have hsame := cell_same hB
 rcases hr with rfl | rfl
 · have HQQ := hd_ hq
   have HBB := hd_ hB
   clear hq hB
   go_wp2_with fail
   refine leaves_cons (f := 77) (args := #[.pointer (some ⟨w.heap.size, 0, none⟩)]) (by simp) (by simp [go_sem]) ?_
   refine (scaught_idle ⟨w.heap.size, 0, none⟩ _).mono ?_
   rintro e u' w'' ⟨rfl, rfl, rfl⟩
   simp [Leaves, settle, results, Tryz.results38, go_sem, b0]
   exact ⟨_, Or.inl ⟨HQQ.out, rfl, rfl⟩⟩
 · have HQQ := hd_ hq
   have HBB := hd_ hB
   clear hq hB hsame
   unfold gaveW
   refine leaves_cons (f := 77) (args := #[.pointer (some ⟨w.heap.size, 0, none⟩)]) (by simp) (by simp [go_sem]) ?_
   refine (scaught_up ⟨w.heap.size, 0, none⟩ false [] _ b0 b1).mono ?_
   rintro e u' w'' ⟨rfl, rfl, rfl⟩
   rw [cell_put HBB.out]
   have pc := (putBlk_facts (w := w1) 4 b2).1
   simp [Leaves, settle, results, Tryz.results38, go_sem, pc]
   exact ⟨_, Or.inr ⟨HQQ.out, rfl, rfl⟩⟩
set_option maxRecDepth 100000 in
theorem caught_ra (c1 c2 : Value) (w : World) (Q : Ending → World → Prop) (hcall : Calls Tryz.prog 51 #[c1, c2] (w.alloc (.cells #[.bool false] 4)) Q) (hQ : mayEnd w.heap.size Q) :
  Calls Tryz.prog 38 #[.func (Fn.func 51) #[] #[c1, c2]] w (caughtP w.heap.size Q) := by
 have HC := hd_ hcall
 have HQ := hd_ hQ
 clear hcall hQ
 go_enter_defers Tryz.func38, Tryz.ntmps38
 go_wp2_with fail
 refine HC.out.mono ?_
 intro r w1 hq
 obtain ⟨hr, hB⟩ := HQ.out r w1 hq
 obtain ⟨b0, b1, b2⟩ := blk1c hB
 have hsame := cell_same hB
 rcases hr with rfl | rfl
 · have HQQ := hd_ hq
   have HBB := hd_ hB
   clear hq hB
   go_wp2_with fail
   refine leaves_cons (f := 77) (args := #[.pointer (some ⟨w.heap.size, 0, none⟩)]) (by simp) (by simp [go_sem]) ?_
   refine (scaught_idle ⟨w.heap.size, 0, none⟩ _).mono ?_
   rintro e u' w'' ⟨rfl, rfl, rfl⟩
   simp [Leaves, settle, results, Tryz.results38, go_sem, b0]
   exact ⟨_, Or.inl ⟨HQQ.out, rfl, rfl⟩⟩
 · have HQQ := hd_ hq
   have HBB := hd_ hB
   clear hq hB hsame
   unfold gaveW
   refine leaves_cons (f := 77) (args := #[.pointer (some ⟨w.heap.size, 0, none⟩)]) (by simp) (by simp [go_sem]) ?_
   refine (scaught_up ⟨w.heap.size, 0, none⟩ false [] _ b0 b1).mono ?_
   rintro e u' w'' ⟨rfl, rfl, rfl⟩
   rw [cell_put HBB.out]
   have pc := (putBlk_facts (w := w1) 4 b2).1
   simp [Leaves, settle, results, Tryz.results38, go_sem, pc]
   exact ⟨_, Or.inr ⟨HQQ.out, rfl, rfl⟩⟩
def RvQ (l : List UInt8) (b : Nat) (W : World) (r : Ending) (w' : World) : Prop :=
 (∃ v w1, readV l = some v ∧ r = .returned (.tuple #[]) ∧ Below W.heap.size W w1 ∧ w' = putBlk w1 b #[.int .u8 v.k, .int .i64 v.n, .int .u64 v.r, .string v.t] 48) ∨ (readV l = none ∧ r = gaveW ∧ Below W.heap.size W w')
set_option maxRecDepth 100000 in
set_option maxHeartbeats 800000 in
theorem rvdo_any (s : ByteArray) (hs : s.size ≤ 35184372088832) (a b : Nat) (W : World) (hL : LayS W) (ha : Blk W a #[.string s] 9) (hb : Blk W b #[.int .u8 0, .int .i64 0, .int .u64 0, .string ⟨#[]⟩] 48) :
  Calls Tryz.prog 56 #[.pointer (some ⟨a, 0, none⟩), .pointer (some ⟨b, 0, none⟩)] W (RvQ s.data.toList b W) := by
 have HRV := hd_ (readValue_any s hs W hL)
 obtain ⟨y0, y1, y2⟩ := blk1c ha
 have HB := hd_ hb
 clear hL hb
 go_enter Tryz.func56, Tryz.ntmps56
 go_wp2_with fail
 cases hr : readV s.data.toList with
 | none =>
  rw [hr] at HRV
  have HR := hd_ hr
  clear hr
  refine HRV.out.mono ?_
  rintro q w1 ⟨rfl, hb1⟩
  simp only [Option.map_none, orGave, gaveW]
  go_wp2_with fail
  exact ⟨rfl, Or.inr ⟨HR.out, rfl, hb1⟩⟩
 | some v =>
  rw [hr] at HRV
  have HR := hd_ hr
  clear hr
  refine HRV.out.mono ?_
  rintro q w1 ⟨rfl, hb1⟩
  simp only [Option.map_some, orGave, V.agg]
  have hB1 := HB.out.ext hb1
  obtain ⟨w3, rfl, lt⟩ := blk_put hB1
  obtain ⟨pc, pf, pS⟩ := putBlk_facts (w := w3) 48 lt
  have HB1 := hd_ hb1
  clear hb1 hB1
  go_wp2_with fail
  go_end0
  exact Or.inl ⟨v, _, HR.out, rfl, HB1.out, by rw [putputS]⟩
theorem RvQ_end {l : List UInt8} {b n : Nat} {W : World} (hn : Blk W n #[.bool false] 4) (hne : n ≠ b) : mayEnd n (RvQ l b W) := by
 rintro r w' (⟨v, w1, _, rfl, hb, rfl⟩ | ⟨_, rfl, hb⟩)
 · exact ⟨Or.inl rfl, putBlk_ne (hn.ext hb) hne⟩
 · exact ⟨Or.inr rfl, hn.ext hb⟩
set_option maxRecDepth 100000 in
set_option maxHeartbeats 1600000 in
theorem scriptReadValue_any (s : ByteArray) (hs : s.size ≤ 35184372088832) (w : World) (hL : LayS w) :
  Calls Tryz.prog 21 #[.string s] w fun r w' => r = .returned (readP (readV s.data.toList)) ∧ Below w.heap.size w w' := by
 have hA : Below w.heap.size w ((w.alloc (.cells #[.string s] 9)).alloc (.cells #[.int .u8 0, .int .i64 0, .int .u64 0, .string ⟨#[]⟩] 48)) := (by repeat (first | exact Below.refl _ _ | assumption | refine Below.drew ?_ | refine below_drewN ?_ _ | refine Below.alloc ?_ (by simp <;> omega) _))
 have hS : Blk ((w.alloc (.cells #[.string s] 9)).alloc (.cells #[.int .u8 0, .int .i64 0, .int .u64 0, .string ⟨#[]⟩] 48)) w.heap.size #[.string s] 9 := (by repeat (first | exact Blk.at (by simp) | assumption | refine Blk.drew ?_ | refine Blk.old ?_ _))
 have hV : Blk ((w.alloc (.cells #[.string s] 9)).alloc (.cells #[.int .u8 0, .int .i64 0, .int .u64 0, .string ⟨#[]⟩] 48)) (w.heap.size + 1) #[.int .u8 0, .int .i64 0, .int .u64 0, .string ⟨#[]⟩] 48 := (by repeat (first | exact Blk.at (by simp) | assumption | refine Blk.drew ?_ | refine Blk.old ?_ _))
 have hsz : ((w.alloc (.cells #[.string s] 9)).alloc (.cells #[.int .u8 0, .int .i64 0, .int .u64 0, .string ⟨#[]⟩] 48)).heap.size = w.heap.size + 2 := by simp
 generalize hW : (w.alloc (.cells #[.string s] 9)).alloc (.cells #[.int .u8 0, .int .i64 0, .int .u64 0, .string ⟨#[]⟩] 48) = W at hA hS hV hsz
 have hb3 : Below W.heap.size W (W.alloc (.cells #[.bool false] 4)) := bel1 _ _
 have hn3 := Blk.new W #[.bool false] 4
 have HCA := hd_ (caught_rv (.pointer (some ⟨w.heap.size, 0, none⟩)) (.pointer (some ⟨w.heap.size + 1, 0, none⟩)) W _ (rvdo_any s hs w.heap.size (w.heap.size + 1) (W.alloc (.cells #[.bool false] 4)) ((hL.ext hA).ext hb3) (hS.ext hb3) (hV.ext hb3)) (RvQ_end hn3 (by omega)))
 have HV := hd_ (hV.ext hb3)
 have HSZ := hd_ hsz
 have HA := hd_ hA
 have HB3 := hd_ hb3
 have HN3 := hd_ hn3
 clear hA hS hV hsz hL hb3 hn3
 go_enter Tryz.func21, Tryz.ntmps21
 go_wp2_with fail
 clear hW
 refine HCA.out.mono ?_
 rintro r w1 ⟨w4, ⟨hq, rfl, rfl⟩ | ⟨hq, rfl, rfl⟩⟩
 · rcases hq with ⟨v, w5, hr, _, hb, rfl⟩ | ⟨_, h, _⟩
   · have hv5 := HV.out.ext hb
     obtain ⟨pc, pf, pS⟩ := putBlk_facts (w := w5) 48 hv5.lt
     have hBB : Below w.heap.size w (putBlk w5 (w.heap.size + 1) #[.int .u8 v.k, .int .i64 v.n, .int .u64 v.r, .string v.t] 48) := putBlk_below _ _ (bt HA.out (bt HB3.out hb)) (by omega)
     have HR := hd_ hr
     have HBB := hd_ hBB
     have l5 := hv5.lt
     clear hr hBB hb hv5
     go_wp2_with fail
     refine bodyPost_ret (v := .tuple #[V.agg v, .int .i64 0]) (by simp [results, Tryz.results21, go_sem, pc, V.agg]) rfl ?_
     exact ⟨by rw [HR.out]; rfl, HBB.out⟩
   · cases h
 · rcases hq with ⟨v, w5, _, h, _⟩ | ⟨hr, _, hb⟩
   · cases h
   · have hv5 := HV.out.ext hb
     have HR := hd_ hr
     have hz := putBlk_ne (cs := #[.bool true]) (t := 4) (b := W.heap.size) hv5 (by rw [HSZ.out]; omega)
     have hBB : Below w.heap.size w (putBlk w4 W.heap.size #[.bool true] 4) := putBlk_below _ _ (bt HA.out (bt HB3.out hb)) (by rw [HSZ.out]; omega)
     have HBB := hd_ hBB
     obtain ⟨zl, zc0, zc1, zc2, zc3, zf, zs0, zs1, zs2, zs3⟩ := zero_set hz
     clear hr hBB hb hv5 hz
     go_wp2_with fail
     refine bodyPost_ret (v := .tuple #[.agg #[.int .u8 0, .int .i64 0, .int .u64 0, .string ⟨#[]⟩], .int .i64 310]) (by simp [results, Tryz.results21, go_sem, zc0, zc1, zc2, zc3]) rfl ?_
     exact ⟨by rw [HR.out]; rfl, HBB.out⟩
def RefWordsP (l : List UInt8) (w : World) (r : Ending) (w' : World) : Prop :=
 (∃ ws sv, wordsF l = some ws ∧ r = .returned (.tuple #[sv, .bool true]) ∧ w'.ownsRow w.heap.size 9 1 sv ws.length (wsC ws)) ∨ (∃ sv, wordsF l = none ∧ r = .returned (.tuple #[sv, .bool false]))
theorem ext_one {s : ByteArray} {j : Nat} {c : UInt8} (h : j < s.size) (hc : s[j]'h = c) : s.extract j (j + 1) = bsO [c] := by
 rw [← bsO_of (s.extract j (j + 1))]
 congr 1
 have := Lib.extract_toList s j (j + 1)
 rw [Lib.toList_data] at this
 rw [this, show j + 1 - j = 1 by omega, List.drop_eq_getElem_cons (by simpa using h)]
 simp
 exact hc
set_option maxRecDepth 100000 in
set_option maxHeartbeats 3200000 in
theorem refwords_any (s : ByteArray) (hs : s.size ≤ 8796093022) (w : World) :
  Calls Tryz.prog 53 #[.string s] w fun r w' => RefWordsP s.data.toList w r w' ∧ Below w.heap.size w w' := by
 obtain ⟨i0, hi0, hz0, hz1, hz2⟩ := info_parts info_txt
 have hlen := len_data s
 have HLEN := hd_ hlen
 clear hlen
 go_enter Tryz.func53, Tryz.ntmps53
 go_wp2_with fail
 go_loopw [4, 5, 6] (fun lv wv iv wr => ∃ (j : Nat) (ws : List (List UInt8)) (x : List UInt8), j ≤ s.size ∧ iv = .int .i64 j ∧ wv = .string (bsO x) ∧ ws.length ≤ j ∧ x.length ≤ j ∧ Hid (spW 32 s.data.toList = ws ++ spW 32 (x ++ s.data.toList.drop j) ∧ [] ∉ ws ∧ (32 : UInt8) ∉ x) ∧ wr.ownsRow w.heap.size 9 1 lv ws.length (wsC ws) ∧ Below w.heap.size w wr) (fun _ _ i _ => s.size - (intOf i).toNat)
 case atStart => exact ⟨0, [], [], by omega, rfl, rfl, by simp, by simp, (by simp : _ ∧ _ ∧ _), ⟨by simp [wsC], .inl ⟨rfl, rfl⟩⟩, Below.refl _ _⟩
 case round =>
  obtain ⟨j, ws, x, hj, rfl, rfl, hwl, hxl, HI, hown, hbw⟩ := hrel
  by_cases hlt : j < s.size
  · obtain ⟨c, hidx, -, -, hget⟩ := byteA hlt
    have hext := ext_one hlt hidx
    have hdr : s.data.toList.drop j = c :: s.data.toList.drop (j + 1) := by
     obtain ⟨hjl, e⟩ := List.getElem?_eq_some_iff.1 hget
     rw [List.drop_eq_getElem_cons hjl, e]
    have HDR := hd_ hdr
    obtain ⟨m, hm⟩ : ∃ m : Int, (c.toNat : Int) = m := ⟨_, rfl⟩
    have HMM := hd_ hm
    have hltI : (j : Int) < s.size := by omega
    have hj0 : (0 : Int) ≤ j := by omega
    have hw1 : IntKind.i64.wrap ((j : Int) + 1) = (j : Int) + 1 := IntWalk.i64_in _ (by omega)
    clear hdr hget
    by_cases h32 : m = 32
    · have hcc : c = 32 := UInt8.toNat_inj.1 (by show c.toNat = 32; omega)
      have HCC := hd_ hcc
      have b1 : (m != 32) = false := by simp [h32]
      clear hcc hext
      have hem := txt_empty (t := bsO x)
      rw [bsO_size] at hem
      by_cases hx0 : x.length = 0
      · rw [decide_eq_true hx0] at hem
        have hn : wordsF s.data.toList = none := by
         obtain ⟨k1, _, _⟩ := HI.out
         unfold wordsF
         rw [if_pos]
         rw [k1, List.eq_nil_of_length_eq_zero hx0, HDR.out, HCC.out]
         simp [spW]
        have HN := hd_ hn
        clear hn
        go_wp2_with fail
        go_ret2
        exact ⟨Or.inr ⟨_, HN.out, rfl⟩, hbw⟩
      · rw [decide_eq_false hx0] at hem
        have hst : spW 32 s.data.toList = (ws ++ [x]) ++ spW 32 ([] ++ s.data.toList.drop (j + 1)) ∧ [] ∉ ws ++ [x] ∧ (32 : UInt8) ∉ ([] : List UInt8) := by
         obtain ⟨k1, k2, k3⟩ := HI.out
         refine ⟨?_, ?_, by simp⟩
         · rw [k1, HDR.out, HCC.out, sp_app 32 x _ k3]
           simp
         · simp only [List.mem_append, List.mem_singleton, not_or]
           exact ⟨k2, fun e => hx0 (by rw [← e]; rfl)⟩
        have HST := hd_ hst
        clear hst
        go_wp2_with (at_builtin; refine wpList_append_own _ rfl _ _ 63 rfl w.heap.size 9 i0 (.string ByteArray.empty) 1 16 Tryz.underlying63 hi0 hz0 hz1 hz2 rfl (by decide) _ ws.length (wsC ws) rfl (hown.alloc _) ⟨wr.heap.size, 0, none⟩ 1 1 [.string (bsO x)] rfl rfl ?c1 ?c2 ?c3 ?c4 ?c5 ?_)
        case c1 => exact cell_one_new _ _ _
        case c2 => simp [Value.oneCell']
        case c3 => simp only [maxLen]; omega
        case c4 => omega
        case c5 => have := hbw.size; simp; omega
        intro v' w1 hown1 hg1 _
        have hown2 : w1.ownsRow w.heap.size 9 1 v' (ws ++ [x]).length (wsC (ws ++ [x])) := by
         rw [List.length_append]
         simp only [wsC, List.map_append, List.map_cons, List.map_nil]
         exact hown1
        have hbw1 : Below w.heap.size w w1 := (hbw.alloc hbw.size _).grown hg1 (by have := hbw.size; simp; omega) (own_ge hown)
        clear hown1 hg1 hbw hown
        go_wp2_with fail
        go_roundw
        case rel => exact ⟨j + 1, ws ++ [x], [], by omega, by go_num, rfl, by simp; omega, by simp, HST, hown2, hbw1⟩
        case measure => simp [intOf]; omega
    · have b1 : (m != 32) = true := by simpa using h32
      have hst : spW 32 s.data.toList = ws ++ spW 32 ((x ++ [c]) ++ s.data.toList.drop (j + 1)) ∧ [] ∉ ws ∧ (32 : UInt8) ∉ (x ++ [c]) := by
       obtain ⟨k1, k2, k3⟩ := HI.out
       refine ⟨by rw [k1, HDR.out]; simp, k2, ?_⟩
       simp only [List.mem_append, List.mem_singleton, not_or]
       exact ⟨k3, fun e => h32 (by rw [← HMM.out, ← e]; rfl)⟩
      have HST := hd_ hst
      have hcat : (bsO x).size + (s.extract j (j + 1)).size ≤ 9223372036854775807 := by rw [hext, bsO_size, bsO_size]; simp; omega
      have hnew : bsO x ++ s.extract j (j + 1) = bsO (x ++ [c]) := by rw [hext, bsO_app]
      have HN := hd_ hnew
      clear hst hext hnew
      go_wp2_with fail
      go_roundw
      case rel => exact ⟨j + 1, ws, x ++ [c], by omega, by go_num, by rw [← HN.out], by omega, by simp; omega, HST, hown, hbw⟩
      case measure => simp [intOf]; omega
  · have hjn : j = s.size := by omega
    subst hjn
    have hst : spW 32 s.data.toList = ws ++ [x] ∧ [] ∉ ws := by
     obtain ⟨k1, k2, k3⟩ := HI.out
     rw [List.drop_eq_nil_of_le (by rw [HLEN.out]; exact Nat.le_refl _), List.append_nil, sp_one 32 x k3] at k1
     exact ⟨k1, k2⟩
    have HST := hd_ hst
    clear hst
    have hem := txt_empty (t := bsO x)
    rw [bsO_size] at hem
    have hxs : x.length = 0 ∨ ¬ x.length = 0 := by omega
    go_wp2_with (at_builtin; refine wpList_append_own _ rfl _ _ 63 rfl w.heap.size 9 i0 (.string ByteArray.empty) 1 16 Tryz.underlying63 hi0 hz0 hz1 hz2 rfl (by decide) _ ws.length (wsC ws) rfl (hown.alloc _) ⟨wr.heap.size, 0, none⟩ 1 1 [.string (bsO x)] rfl rfl ?d1 ?d2 ?d3 ?d4 ?d5 ?_)
    case d1 => exact cell_one_new _ _ _
    case d2 => simp [Value.oneCell']
    case d3 => simp only [maxLen]; omega
    case d4 => omega
    case d5 => have := hbw.size; simp; omega
    intro v' w1 hown1 hg1 _
    have hown2 : w1.ownsRow w.heap.size 9 1 v' (ws ++ [x]).length (wsC (ws ++ [x])) := by
     rw [List.length_append]
     simp only [wsC, List.map_append, List.map_cons, List.map_nil]
     exact hown1
    have hbw1 : Below w.heap.size w w1 := (hbw.alloc hbw.size _).grown hg1 (by have := hbw.size; simp; omega) (own_ge hown)
    clear hown1 hg1 hbw hown
    rcases hxs with hx0 | hx0
    · rw [decide_eq_true hx0] at hem
      have hn : wordsF s.data.toList = none := by
       unfold wordsF
       rw [if_pos]
       rw [HST.out.1, List.eq_nil_of_length_eq_zero hx0]
       simp
      have HN := hd_ hn
      clear hn
      go_wp2_with fail
      go_ret2
      exact ⟨Or.inr ⟨_, HN.out, rfl⟩, hbw1⟩
    · rw [decide_eq_false hx0] at hem
      have hn : wordsF s.data.toList = some (ws ++ [x]) := by
       unfold wordsF
       rw [HST.out.1, if_neg]
       simp only [List.mem_append, List.mem_singleton, not_or]
       exact ⟨HST.out.2, fun e => hx0 (by rw [← e]; rfl)⟩
      have HN := hd_ hn
      clear hn
      go_wp2_with fail
      go_ret2
      exact ⟨Or.inl ⟨_, _, HN.out, rfl, hown2⟩, hbw1⟩
end Go.Proofs.YtfekohonidggjaaGreatDoor
