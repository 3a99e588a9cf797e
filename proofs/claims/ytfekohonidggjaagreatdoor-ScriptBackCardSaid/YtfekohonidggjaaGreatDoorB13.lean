/- Texts joined by a tool: contracts and walks of this claim. -/
import Derived.Test.YtfekohonidggjaaGreatDoorB12
namespace Go.Proofs.YtfekohonidggjaaGreatDoor
open Go.RowKit
theorem valBool_any (b : Bool) (w : World) : Calls Tryz.prog 95 #[.bool b] w fun r w' => r = .returned (.agg #[.int .u8 1, .int .i64 (if b then 1 else 0), .int .u64 0, .string ⟨#[]⟩]) ∧ Below w.heap.size w w' := by
 cases b
 · go_enter Tryz.func95, Tryz.ntmps95
   go_wp2_with fail
   refine bodyPost_ret (v := .agg #[.int .u8 1, .int .i64 0, .int .u64 0, .string ⟨#[]⟩]) (by simp [results, Tryz.results95, go_sem]) rfl ?_
   exact ⟨rfl, (by repeat (first | exact Below.refl _ _ | assumption | refine Below.drew ?_ | refine below_drewN ?_ _ | refine Below.alloc ?_ (by simp <;> omega) _))⟩
 · go_enter Tryz.func95, Tryz.ntmps95
   go_wp2_with fail
   refine bodyPost_ret (v := .agg #[.int .u8 1, .int .i64 1, .int .u64 0, .string ⟨#[]⟩]) (by simp [results, Tryz.results95, go_sem]) rfl ?_
   exact ⟨rfl, (by repeat (first | exact Below.refl _ _ | assumption | refine Below.drew ?_ | refine below_drewN ?_ _ | refine Below.alloc ?_ (by simp <;> omega) _))⟩
theorem valInt_any (n : Int) (w : World) : Calls Tryz.prog 98 #[.int .i64 n] w fun r w' => r = .returned (.agg #[.int .u8 2, .int .i64 n, .int .u64 0, .string ⟨#[]⟩]) ∧ Below w.heap.size w w' := by
 go_enter Tryz.func98, Tryz.ntmps98
 go_wp2_with fail
 refine bodyPost_ret (v := .agg #[.int .u8 2, .int .i64 n, .int .u64 0, .string ⟨#[]⟩]) (by simp [results, Tryz.results98, go_sem]) rfl ?_
 exact ⟨rfl, (by repeat (first | exact Below.refl _ _ | assumption | refine Below.drew ?_ | refine below_drewN ?_ _ | refine Below.alloc ?_ (by simp <;> omega) _))⟩
theorem readV_no {l : List UInt8} {v : V} (h : readV0 l = some v) (hm : mayB v = false) : readV l = none := by
 unfold readV
 rw [h]
 simp [Option.filter, hm]
theorem readV_yes {l : List UInt8} {v : V} (h : readV0 l = some v) (hm : mayB v = true) : readV l = some v := by
 unfold readV
 rw [h]
 simp [Option.filter, hm]
theorem real_may {r : List UInt8} {x : Int} (h : realR r = some x) : mayB ⟨3, 0, x, bsO []⟩ = true ∧ V.wf ⟨3, 0, x, bsO []⟩ := by
 have hz : (bsO []).size = 0 := rfl
 unfold realR at h
 split at h
 · next hl =>
   split at h
   · next u hu =>
     split at h
     · next hc =>
       injection h with h
       subst h
       have hu' : unxR r = some u := by unfold unxR; rw [if_pos (by omega)]; exact hu
       have := unxR_lt hu'
       refine ⟨by simp [mayB, hc, hz], ?_⟩
       simp [V.wf, hz]
       omega
     · cases h
   · cases h
 · cases h
set_option maxRecDepth 100000 in
set_option maxHeartbeats 3200000 in
theorem readValue_any (s : ByteArray) (hs : s.size ≤ 35184372088832) (w : World) (hL : LayS w) :
 Calls Tryz.prog 57 #[.string s] w fun r w' => r = orGave ((readV s.data.toList).map V.agg) ∧ Below w.heap.size w w' := by
 generalize hR : orGave ((readV s.data.toList).map V.agg) = R
 have HR := hd_ hR
 have HCK := hd_ (fun (v : V) (hv : v.wf) (W : World) (hW : Below w.heap.size w W) => check_any v hv W (hL.ext hW).tabs)
 have HLW := hd_ (fun (W : World) (hW : Below w.heap.size w W) => hL.ext hW)
 have hS0 := Blk.new w #[.int .u8 0, .int .i64 0, .int .u64 0, .string ⟨#[]⟩] 48
 have hA0 : Below w.heap.size w (w.alloc (.cells #[.int .u8 0, .int .i64 0, .int .u64 0, .string ⟨#[]⟩] 48)) := bel1 _ _
 have HBX := hd_ hA0
 have HSX := hd_ hS0
 have hzz : V.wf ⟨0, 0, 0, bsO []⟩ := by refine ⟨?_, ?_, ?_, ?_, ?_, ?_, ?_⟩ <;> decide
 clear hA0 hS0 hL hR
 by_cases hnull : s = bsO tNull
 · subst hnull
   have HX : Hid (readV0 (bsO tNull).data.toList = some ⟨0, 0, 0, bsO []⟩) := by show _ = _; rfl
   have HVW := hd_ hzz
   generalize hs0 : bsO tNull = s at HR HX
   have hs1 : s = ⟨#[110, 117, 108, 108]⟩ := by rw [← hs0]; rfl
   have HS1 := hd_ hs1
   rw [hs1]
   clear hs0 hs1 hzz
   go_enter Tryz.func57, Tryz.ntmps57
   go_wp2_with fail
   refine (need_yes _).mono ?_
   rintro r w1 ⟨rfl, rfl⟩
   go_wp2_with fail
   refine (HCK.out ⟨0, 0, 0, bsO []⟩ HVW.out _ HBX.out).mono ?_
   rintro r w2 ⟨rfl, hb⟩
   have hS2 := HSX.out.ext hb
   have HB2 := hd_ (bt HBX.out hb)
   clear hb
   cases hm : mayB ⟨0, 0, 0, bsO []⟩
   · have HF : Hid (R = gaveW) := by
      show _ = _
      rw [← HR.out, readV_no HX.out hm]
      rfl
     rw [show okE false = 2 from rfl]
     clear hm
     go_wp2_with fail
     refine (need_no _).mono ?_
     rintro r w4 ⟨rfl, rfl⟩
     unfold gaveW
     go_wp2_with fail
     exact ⟨rfl, by rw [HF.out]; rfl, HB2.out⟩
   · have HF : Hid (R = .returned (V.agg ⟨0, 0, 0, bsO []⟩)) := by
      show _ = _
      rw [← HR.out, readV_yes HX.out hm]
      rfl
     rw [show okE true = 0 from rfl]
     clear hm
     go_wp2_with fail
     refine (need_yes _).mono ?_
     rintro r w4 ⟨rfl, rfl⟩
     obtain ⟨w3, rfl, lt⟩ := blk_put hS2
     obtain ⟨pc, pf, pS⟩ := putBlk_facts (w := w3) 48 lt
     go_wp2_with fail
     refine bodyPost_ret (v := V.agg ⟨0, 0, 0, bsO []⟩) (by simp [results, Tryz.results57, go_sem, pc, V.agg] <;> rfl) rfl ?_
     exact ⟨HF.out.symm, HB2.out⟩
 · by_cases htTrue : s = bsO tTrue
   · subst htTrue
     have HX : Hid (readV0 (bsO tTrue).data.toList = some ⟨1, 1, 0, bsO []⟩) := by show _ = _; rfl
     have HVW : Hid (V.wf ⟨1, 1, 0, bsO []⟩) := by refine ⟨?_, ?_, ?_, ?_, ?_, ?_, ?_⟩ <;> decide
     generalize hs0 : bsO tTrue = s at HR HX
     have hs1 : s = ⟨#[116, 114, 117, 101]⟩ := by rw [← hs0]; rfl
     have HS1 := hd_ hs1
     have HVB := hd_ (fun W : World => valBool_any true W)
     rw [hs1]
     clear hs0 hs1 hzz hnull
     go_enter Tryz.func57, Tryz.ntmps57
     go_wp2_with fail
     refine (need_yes _).mono ?_
     rintro r w1 ⟨rfl, rfl⟩
     go_wp2_with fail
     refine (HVB.out _).mono ?_
     rintro r w1 ⟨rfl, hb⟩
     have hS1 := HSX.out.ext hb
     have hB1 := bt HBX.out hb
     obtain ⟨w3, rfl, lt⟩ := blk_put hS1
     obtain ⟨pc, pf, pS⟩ := putBlk_facts (w := w3) 48 lt
     have HSX : Hid (Blk (putBlk w3 w.heap.size #[.int .u8 1, .int .i64 1, .int .u64 0, .string ⟨#[]⟩] 48) w.heap.size #[.int .u8 1, .int .i64 1, .int .u64 0, .string ⟨#[]⟩] 48) := putBlk_blk _ _ lt
     have HBX : Hid (Below w.heap.size w (putBlk w3 w.heap.size #[.int .u8 1, .int .i64 1, .int .u64 0, .string ⟨#[]⟩] 48)) := putBlk_belows hB1 (Nat.le_refl _) _
     clear hS1 hB1 hb
     go_wp2_with fail
     clear pc pf pS lt
     refine (HCK.out ⟨1, 1, 0, bsO []⟩ HVW.out _ HBX.out).mono ?_
     rintro r w2 ⟨rfl, hb⟩
     have hS2 := HSX.out.ext hb
     have HB2 := hd_ (bt HBX.out hb)
     clear hb
     cases hm : mayB ⟨1, 1, 0, bsO []⟩
     · have HF : Hid (R = gaveW) := by
        show _ = _
        rw [← HR.out, readV_no HX.out hm]
        rfl
       rw [show okE false = 2 from rfl]
       clear hm
       go_wp2_with fail
       refine (need_no _).mono ?_
       rintro r w4 ⟨rfl, rfl⟩
       unfold gaveW
       go_wp2_with fail
       exact ⟨rfl, by rw [HF.out]; rfl, HB2.out⟩
     · have HF : Hid (R = .returned (V.agg ⟨1, 1, 0, bsO []⟩)) := by
        show _ = _
        rw [← HR.out, readV_yes HX.out hm]
        rfl
       rw [show okE true = 0 from rfl]
       clear hm
       go_wp2_with fail
       refine (need_yes _).mono ?_
       rintro r w4 ⟨rfl, rfl⟩
       obtain ⟨w3, rfl, lt⟩ := blk_put hS2
       obtain ⟨pc, pf, pS⟩ := putBlk_facts (w := w3) 48 lt
       go_wp2_with fail
       refine bodyPost_ret (v := V.agg ⟨1, 1, 0, bsO []⟩) (by simp [results, Tryz.results57, go_sem, pc, V.agg] <;> rfl) rfl ?_
       exact ⟨HF.out.symm, HB2.out⟩
   · by_cases htFalse : s = bsO tFalse
     · subst htFalse
       have HX : Hid (readV0 (bsO tFalse).data.toList = some ⟨1, 0, 0, bsO []⟩) := by show _ = _; rfl
       have HVW : Hid (V.wf ⟨1, 0, 0, bsO []⟩) := by refine ⟨?_, ?_, ?_, ?_, ?_, ?_, ?_⟩ <;> decide
       generalize hs0 : bsO tFalse = s at HR HX
       have hs1 : s = ⟨#[102, 97, 108, 115, 101]⟩ := by rw [← hs0]; rfl
       have HS1 := hd_ hs1
       have HVB := hd_ (fun W : World => valBool_any false W)
       rw [hs1]
       clear hs0 hs1 hzz hnull
       go_enter Tryz.func57, Tryz.ntmps57
       go_wp2_with fail
       refine (need_yes _).mono ?_
       rintro r w1 ⟨rfl, rfl⟩
       go_wp2_with fail
       refine (HVB.out _).mono ?_
       rintro r w1 ⟨rfl, hb⟩
       have hS1 := HSX.out.ext hb
       have hB1 := bt HBX.out hb
       obtain ⟨w3, rfl, lt⟩ := blk_put hS1
       obtain ⟨pc, pf, pS⟩ := putBlk_facts (w := w3) 48 lt
       have HSX : Hid (Blk (putBlk w3 w.heap.size #[.int .u8 1, .int .i64 0, .int .u64 0, .string ⟨#[]⟩] 48) w.heap.size #[.int .u8 1, .int .i64 0, .int .u64 0, .string ⟨#[]⟩] 48) := putBlk_blk _ _ lt
       have HBX : Hid (Below w.heap.size w (putBlk w3 w.heap.size #[.int .u8 1, .int .i64 0, .int .u64 0, .string ⟨#[]⟩] 48)) := putBlk_belows hB1 (Nat.le_refl _) _
       clear hS1 hB1 hb
       go_wp2_with fail
       clear pc pf pS lt
       refine (HCK.out ⟨1, 0, 0, bsO []⟩ HVW.out _ HBX.out).mono ?_
       rintro r w2 ⟨rfl, hb⟩
       have hS2 := HSX.out.ext hb
       have HB2 := hd_ (bt HBX.out hb)
       clear hb
       cases hm : mayB ⟨1, 0, 0, bsO []⟩
       · have HF : Hid (R = gaveW) := by
          show _ = _
          rw [← HR.out, readV_no HX.out hm]
          rfl
         rw [show okE false = 2 from rfl]
         clear hm
         go_wp2_with fail
         refine (need_no _).mono ?_
         rintro r w4 ⟨rfl, rfl⟩
         unfold gaveW
         go_wp2_with fail
         exact ⟨rfl, by rw [HF.out]; rfl, HB2.out⟩
       · have HF : Hid (R = .returned (V.agg ⟨1, 0, 0, bsO []⟩)) := by
          show _ = _
          rw [← HR.out, readV_yes HX.out hm]
          rfl
         rw [show okE true = 0 from rfl]
         clear hm
         go_wp2_with fail
         refine (need_yes _).mono ?_
         rintro r w4 ⟨rfl, rfl⟩
         obtain ⟨w3, rfl, lt⟩ := blk_put hS2
         obtain ⟨pc, pf, pS⟩ := putBlk_facts (w := w3) 48 lt
         go_wp2_with fail
         refine bodyPost_ret (v := V.agg ⟨1, 0, 0, bsO []⟩) (by simp [results, Tryz.results57, go_sem, pc, V.agg] <;> rfl) rfl ?_
         exact ⟨HF.out.symm, HB2.out⟩
     · have hn1 : s.data.toList ≠ tNull := fun e => hnull (by rw [← e, bsO_of])
       have hn2 : s.data.toList ≠ tTrue := fun e => htTrue (by rw [← e, bsO_of])
       have hn3 : s.data.toList ≠ tFalse := fun e => htFalse (by rw [← e, bsO_of])
       have hne1 : (s.toList == [110, 117, 108, 108]) = false := by
        have h := (strne (show ¬ s = ⟨#[110, 117, 108, 108]⟩ from hnull)).1
        rwa [show (⟨#[110, 117, 108, 108]⟩ : ByteArray).toList = [110, 117, 108, 108] by rw [ByteArray.toList_eq]] at h
       have hne2 : (s.toList == [116, 114, 117, 101]) = false := by
        have h := (strne (show ¬ s = ⟨#[116, 114, 117, 101]⟩ from htTrue)).1
        rwa [show (⟨#[116, 114, 117, 101]⟩ : ByteArray).toList = [116, 114, 117, 101] by rw [ByteArray.toList_eq]] at h
       have hne3 : (s.toList == [102, 97, 108, 115, 101]) = false := by
        have h := (strne (show ¬ s = ⟨#[102, 97, 108, 115, 101]⟩ from htFalse)).1
        rwa [show (⟨#[102, 97, 108, 115, 101]⟩ : ByteArray).toList = [102, 97, 108, 115, 101] by rw [ByteArray.toList_eq]] at h
       have HN1 := hd_ hn1
       have HN2 := hd_ hn2
       have HN3 := hd_ hn3
       clear hn1 hn2 hn3 hnull htTrue htFalse hzz
       have hem := txt_empty (t := s)
       by_cases hz : s.size = 0
       · rw [decide_eq_true hz] at hem
         have HX : Hid (R = gaveW) := by
          show _ = _
          rw [← HR.out, show readV s.data.toList = none by
           unfold readV readV0
           rw [if_neg HN1.out, if_neg HN2.out, if_neg HN3.out, show s.data.toList = [] from List.eq_nil_of_length_eq_zero (by rw [len_data]; exact hz)]
           rfl]
          rfl
         go_enter Tryz.func57, Tryz.ntmps57
         go_wp2_with fail
         refine (need_no _).mono ?_
         rintro q w1 ⟨rfl, rfl⟩
         unfold gaveW
         go_wp2_with fail
         exact ⟨rfl, by rw [HX.out]; rfl, HBX.out⟩
       · rw [decide_eq_false hz] at hem
         obtain ⟨c0, hidx, -, hsp, -⟩ := byteA (s := s) (j := 0) (Nat.pos_of_ne_zero hz)
         rw [List.take_zero, List.nil_append] at hsp
         obtain ⟨r, hr⟩ : ∃ r, r = s.data.toList.drop 1 := ⟨_, rfl⟩
         rw [show (0 : Nat) + 1 = 1 from rfl, ← hr] at hsp
         have HSP := hd_ hsp
         have hex : (s.extract 1 s.size).data.toList = r := by
          have := Lib.extract_toList s 1 s.size
          rw [Lib.toList_data] at this
          rw [this, ← hr]
          exact List.take_of_length_le (by rw [hr]; simp)
         obtain ⟨m, hm⟩ : ∃ m : Int, (c0.toNat : Int) = m := ⟨_, rfl⟩
         have hpos : (0 : Int) < s.size := by omega
         have h1I : (1 : Int) ≤ s.size := by omega
         clear hsp hr
         go_enter Tryz.func57, Tryz.ntmps57
         go_wp2_with fail
         refine (need_yes _).mono ?_
         rintro q w1 ⟨rfl, rfl⟩
         by_cases h114 : m = 114
         · have hcc : c0 = 114 := UInt8.toNat_inj.1 (by show c0.toNat = 114; omega)
           have HRR := hd_ (fun (W : World) => realread_any (s.extract 1 s.size) W)
           rw [hex] at HRR
           unfold realV at HRR
           cases hu : realR r with
           | none =>
            have HX : Hid (R = gaveW) := by
             show _ = _
             rw [← HR.out, show readV s.data.toList = none by
              unfold readV readV0
              rw [if_neg HN1.out, if_neg HN2.out, if_neg HN3.out, HSP.out]
              simp [hcc, hu]]
             rfl
            rw [hu] at HRR
            clear hu hcc
            go_wp2_with fail
            refine (HRR.out _).mono ?_
            rintro q w1 ⟨rfl, hb⟩
            have hB2 := bt HBX.out hb
            go_wp2_with fail
            refine (need_no _).mono ?_
            rintro q w4 ⟨rfl, rfl⟩
            unfold gaveW
            go_wp2_with fail
            exact ⟨rfl, by rw [HX.out]; rfl, hB2⟩
           | some x =>
            have HX : Hid (R = .returned (V.agg ⟨3, 0, x, bsO []⟩)) := by
             show _ = _
             rw [← HR.out, readV_yes (v := ⟨3, 0, x, bsO []⟩) (by
              unfold readV0
              rw [if_neg HN1.out, if_neg HN2.out, if_neg HN3.out, HSP.out]
              simp [hcc, hu]) (real_may hu).1]
             rfl
            rw [hu] at HRR
            clear hu hcc
            go_wp2_with fail
            refine (HRR.out _).mono ?_
            rintro q w1 ⟨rfl, hb⟩
            go_wp2_with fail
            refine (need_yes _).mono ?_
            rintro q w4 ⟨rfl, rfl⟩
            have hS1 := HSX.out.ext hb
            have hB1 := bt HBX.out hb
            obtain ⟨w3, rfl, lt⟩ := blk_put hS1
            obtain ⟨pc, pf, pS⟩ := putBlk_facts (w := w3) 48 lt
            have HSX : Hid (Blk (putBlk w3 w.heap.size #[.int .u8 3, .int .i64 0, .int .u64 x, .string ⟨#[]⟩] 48) w.heap.size #[.int .u8 3, .int .i64 0, .int .u64 x, .string ⟨#[]⟩] 48) := putBlk_blk _ _ lt
            have HBX : Hid (Below w.heap.size w (putBlk w3 w.heap.size #[.int .u8 3, .int .i64 0, .int .u64 x, .string ⟨#[]⟩] 48)) := putBlk_belows hB1 (Nat.le_refl _) _
            clear hS1 hB1 hb
            go_wp2_with fail
            refine bodyPost_ret (v := V.agg ⟨3, 0, x, bsO []⟩) (by simp [results, Tryz.results57, go_sem, pc, V.agg] <;> rfl) rfl ?_
            exact ⟨HX.out.symm, HBX.out⟩
         · by_cases h120 : m = 120
           · have hcc : c0 = 120 := UInt8.toNat_inj.1 (by show c0.toNat = 120; omega)
             have HUH := hd_ (fun (W : World) => unhexT_any (s.extract 1 s.size) (by rw [ByteArray.size_extract]; omega) W)
             rw [hex] at HUH
             cases hu : unhexL r with
             | none =>
              have HX : Hid (R = gaveW) := by
               show _ = _
               rw [← HR.out, show readV s.data.toList = none by
                unfold readV readV0
                rw [if_neg HN1.out, if_neg HN2.out, if_neg HN3.out, HSP.out]
                simp [hcc, hu]]
               rfl
              rw [hu] at HUH
              clear hu hcc
              go_wp2_with fail
              refine (HUH.out _).mono ?_
              rintro q w1 ⟨rfl, hb⟩
              have hB2 := bt HBX.out hb
              simp only [Option.map_none, orGave, gaveW]
              go_wp2_with fail
              exact ⟨rfl, by rw [HX.out]; rfl, hB2⟩
             | some t =>
              have HX : Hid (readV0 s.data.toList = some ⟨4, 0, 0, bsO t⟩) := by
               show _ = _
               unfold readV0
               rw [if_neg HN1.out, if_neg HN2.out, if_neg HN3.out, HSP.out]
               simp [hcc, hu]
              have HVW : Hid (V.wf ⟨4, 0, 0, bsO t⟩) := by
               have h1 := unhexL_len hu
               have h2 : r.length + 1 = s.size := by have := congrArg List.length HSP.out; rw [len_data] at this; simpa using this.symm
               show V.wf _
               simp [V.wf, bsO_size]
               omega
              rw [hu] at HUH
              clear hu hcc
              go_wp2_with fail
              refine (HUH.out _).mono ?_
              rintro q w1 ⟨rfl, hb⟩
              simp only [Option.map_some, orGave]
              have hS1 := HSX.out.ext hb
              have hB1 := bt HBX.out hb
              obtain ⟨w3, rfl, lt⟩ := blk_put hS1
              obtain ⟨pc, pf, pS⟩ := putBlk_facts (w := w3) 48 lt
              have HSX : Hid (Blk (putBlk w3 w.heap.size #[.int .u8 4, .int .i64 0, .int .u64 0, .string (bsO t)] 48) w.heap.size #[.int .u8 4, .int .i64 0, .int .u64 0, .string (bsO t)] 48) := putBlk_blk _ _ lt
              have HBX : Hid (Below w.heap.size w (putBlk w3 w.heap.size #[.int .u8 4, .int .i64 0, .int .u64 0, .string (bsO t)] 48)) := putBlk_belows hB1 (Nat.le_refl _) _
              clear hS1 hB1 hb
              go_wp2_with fail
              clear pc pf pS lt
              refine (HCK.out ⟨4, 0, 0, bsO t⟩ HVW.out _ HBX.out).mono ?_
              rintro r w2 ⟨rfl, hb⟩
              have hS2 := HSX.out.ext hb
              have HB2 := hd_ (bt HBX.out hb)
              clear hb
              cases hm : mayB ⟨4, 0, 0, bsO t⟩
              · have HF : Hid (R = gaveW) := by
                 show _ = _
                 rw [← HR.out, readV_no HX.out hm]
                 rfl
                rw [show okE false = 2 from rfl]
                clear hm
                go_wp2_with fail
                refine (need_no _).mono ?_
                rintro r w4 ⟨rfl, rfl⟩
                unfold gaveW
                go_wp2_with fail
                exact ⟨rfl, by rw [HF.out]; rfl, HB2.out⟩
              · have HF : Hid (R = .returned (V.agg ⟨4, 0, 0, bsO t⟩)) := by
                 show _ = _
                 rw [← HR.out, readV_yes HX.out hm]
                 rfl
                rw [show okE true = 0 from rfl]
                clear hm
                go_wp2_with fail
                refine (need_yes _).mono ?_
                rintro r w4 ⟨rfl, rfl⟩
                obtain ⟨w3, rfl, lt⟩ := blk_put hS2
                obtain ⟨pc, pf, pS⟩ := putBlk_facts (w := w3) 48 lt
                go_wp2_with fail
                refine bodyPost_ret (v := V.agg ⟨4, 0, 0, bsO t⟩) (by simp [results, Tryz.results57, go_sem, pc, V.agg] <;> rfl) rfl ?_
                exact ⟨HF.out.symm, HB2.out⟩
           · by_cases h115 : m = 115
             · have hcc : c0 = 115 := UInt8.toNat_inj.1 (by show c0.toNat = 115; omega)
               have HUH := hd_ (fun (W : World) => unhexT_any (s.extract 1 s.size) (by rw [ByteArray.size_extract]; omega) W)
               rw [hex] at HUH
               cases hu : unhexL r with
               | none =>
                have HX : Hid (R = gaveW) := by
                 show _ = _
                 rw [← HR.out, show readV s.data.toList = none by
                  unfold readV readV0
                  rw [if_neg HN1.out, if_neg HN2.out, if_neg HN3.out, HSP.out]
                  simp [hcc, hu]]
                 rfl
                rw [hu] at HUH
                clear hu hcc
                go_wp2_with fail
                refine (HUH.out _).mono ?_
                rintro q w1 ⟨rfl, hb⟩
                have hB2 := bt HBX.out hb
                simp only [Option.map_none, orGave, gaveW]
                go_wp2_with fail
                exact ⟨rfl, by rw [HX.out]; rfl, hB2⟩
               | some t =>
                have HX : Hid (readV0 s.data.toList = some ⟨5, 0, 0, bsO t⟩) := by
                 show _ = _
                 unfold readV0
                 rw [if_neg HN1.out, if_neg HN2.out, if_neg HN3.out, HSP.out]
                 simp [hcc, hu]
                have HVW : Hid (V.wf ⟨5, 0, 0, bsO t⟩) := by
                 have h1 := unhexL_len hu
                 have h2 : r.length + 1 = s.size := by have := congrArg List.length HSP.out; rw [len_data] at this; simpa using this.symm
                 show V.wf _
                 simp [V.wf, bsO_size]
                 omega
                rw [hu] at HUH
                clear hu hcc
                go_wp2_with fail
                refine (HUH.out _).mono ?_
                rintro q w1 ⟨rfl, hb⟩
                simp only [Option.map_some, orGave]
                have hS1 := HSX.out.ext hb
                have hB1 := bt HBX.out hb
                obtain ⟨w3, rfl, lt⟩ := blk_put hS1
                obtain ⟨pc, pf, pS⟩ := putBlk_facts (w := w3) 48 lt
                have HSX : Hid (Blk (putBlk w3 w.heap.size #[.int .u8 5, .int .i64 0, .int .u64 0, .string (bsO t)] 48) w.heap.size #[.int .u8 5, .int .i64 0, .int .u64 0, .string (bsO t)] 48) := putBlk_blk _ _ lt
                have HBX : Hid (Below w.heap.size w (putBlk w3 w.heap.size #[.int .u8 5, .int .i64 0, .int .u64 0, .string (bsO t)] 48)) := putBlk_belows hB1 (Nat.le_refl _) _
                clear hS1 hB1 hb
                go_wp2_with fail
                clear pc pf pS lt
                refine (HCK.out ⟨5, 0, 0, bsO t⟩ HVW.out _ HBX.out).mono ?_
                rintro r w2 ⟨rfl, hb⟩
                have hS2 := HSX.out.ext hb
                have HB2 := hd_ (bt HBX.out hb)
                clear hb
                cases hm : mayB ⟨5, 0, 0, bsO t⟩
                · have HF : Hid (R = gaveW) := by
                   show _ = _
                   rw [← HR.out, readV_no HX.out hm]
                   rfl
                  rw [show okE false = 2 from rfl]
                  clear hm
                  go_wp2_with fail
                  refine (need_no _).mono ?_
                  rintro r w4 ⟨rfl, rfl⟩
                  unfold gaveW
                  go_wp2_with fail
                  exact ⟨rfl, by rw [HF.out]; rfl, HB2.out⟩
                · have HF : Hid (R = .returned (V.agg ⟨5, 0, 0, bsO t⟩)) := by
                   show _ = _
                   rw [← HR.out, readV_yes HX.out hm]
                   rfl
                  rw [show okE true = 0 from rfl]
                  clear hm
                  go_wp2_with fail
                  refine (need_yes _).mono ?_
                  rintro r w4 ⟨rfl, rfl⟩
                  obtain ⟨w3, rfl, lt⟩ := blk_put hS2
                  obtain ⟨pc, pf, pS⟩ := putBlk_facts (w := w3) 48 lt
                  go_wp2_with fail
                  refine bodyPost_ret (v := V.agg ⟨5, 0, 0, bsO t⟩) (by simp [results, Tryz.results57, go_sem, pc, V.agg] <;> rfl) rfl ?_
                  exact ⟨HF.out.symm, HB2.out⟩
             · have HRR := hd_ (fun (W : World) (hW : Below w.heap.size w W) => longS_any s (by omega) W (HLW.out W hW))
               have c1 : ¬ c0 = 114 := fun e => h114 (by rw [← hm, e]; rfl)
               have c2 : ¬ c0 = 120 := fun e => h120 (by rw [← hm, e]; rfl)
               have c3 : ¬ c0 = 115 := fun e => h115 (by rw [← hm, e]; rfl)
               cases hu : longZ s.data.toList with
               | none =>
                have HX : Hid (R = gaveW) := by
                 show _ = _
                 rw [← HR.out, show readV s.data.toList = none by
                  unfold readV readV0
                  rw [if_neg HN1.out, if_neg HN2.out, if_neg HN3.out, hu, HSP.out]
                  simp [c1, c2, c3]]
                 rfl
                rw [hu] at HRR
                clear hu c1 c2 c3
                go_wp2_with fail
                refine (HRR.out _ HBX.out).mono ?_
                rintro q w1 ⟨rfl, hb⟩
                have hB2 := bt HBX.out hb
                simp only [Option.map_none, orGave, gaveW]
                go_wp2_with fail
                exact ⟨rfl, by rw [HX.out]; rfl, hB2⟩
               | some n =>
                have HX : Hid (readV0 s.data.toList = some ⟨2, n, 0, bsO []⟩) := by
                 show _ = _
                 unfold readV0
                 rw [if_neg HN1.out, if_neg HN2.out, if_neg HN3.out, hu, HSP.out]
                 simp [c1, c2, c3]
                have HVW : Hid (V.wf ⟨2, n, 0, bsO []⟩) := by
                 have h1 := (longZ_some.1 hu).1
                 show V.wf _
                 simp [V.wf, bsO_size]
                 omega
                rw [hu] at HRR
                have HVI := hd_ (fun (W : World) => valInt_any n W)
                clear hu c1 c2 c3
                go_wp2_with fail
                refine (HRR.out _ HBX.out).mono ?_
                rintro q w1 ⟨rfl, hb0⟩
                simp only [Option.map_some, orGave]
                go_wp2_with fail
                refine (HVI.out _).mono ?_
                rintro q w6 ⟨rfl, hb1⟩
                have hb := bt hb0 hb1
                clear hb0 hb1
                have hS1 := HSX.out.ext hb
                have hB1 := bt HBX.out hb
                obtain ⟨w3, rfl, lt⟩ := blk_put hS1
                obtain ⟨pc, pf, pS⟩ := putBlk_facts (w := w3) 48 lt
                have HSX : Hid (Blk (putBlk w3 w.heap.size #[.int .u8 2, .int .i64 n, .int .u64 0, .string ⟨#[]⟩] 48) w.heap.size #[.int .u8 2, .int .i64 n, .int .u64 0, .string ⟨#[]⟩] 48) := putBlk_blk _ _ lt
                have HBX : Hid (Below w.heap.size w (putBlk w3 w.heap.size #[.int .u8 2, .int .i64 n, .int .u64 0, .string ⟨#[]⟩] 48)) := putBlk_belows hB1 (Nat.le_refl _) _
                clear hS1 hB1 hb
                go_wp2_with fail
                clear pc pf pS lt
                refine (HCK.out ⟨2, n, 0, bsO []⟩ HVW.out _ HBX.out).mono ?_
                rintro r w2 ⟨rfl, hb⟩
                have hS2 := HSX.out.ext hb
                have HB2 := hd_ (bt HBX.out hb)
                clear hb
                cases hm : mayB ⟨2, n, 0, bsO []⟩
                · have HF : Hid (R = gaveW) := by
                   show _ = _
                   rw [← HR.out, readV_no HX.out hm]
                   rfl
                  rw [show okE false = 2 from rfl]
                  clear hm
                  go_wp2_with fail
                  refine (need_no _).mono ?_
                  rintro r w4 ⟨rfl, rfl⟩
                  unfold gaveW
                  go_wp2_with fail
                  exact ⟨rfl, by rw [HF.out]; rfl, HB2.out⟩
                · have HF : Hid (R = .returned (V.agg ⟨2, n, 0, bsO []⟩)) := by
                   show _ = _
                   rw [← HR.out, readV_yes HX.out hm]
                   rfl
                  rw [show okE true = 0 from rfl]
                  clear hm
                  go_wp2_with fail
                  refine (need_yes _).mono ?_
                  rintro r w4 ⟨rfl, rfl⟩
                  obtain ⟨w3, rfl, lt⟩ := blk_put hS2
                  obtain ⟨pc, pf, pS⟩ := putBlk_facts (w := w3) 48 lt
                  go_wp2_with fail
                  refine bodyPost_ret (v := V.agg ⟨2, n, 0, bsO []⟩) (by simp [results, Tryz.results57, go_sem, pc, V.agg] <;> rfl) rfl ?_
                  exact ⟨HF.out.symm, HB2.out⟩
set_option maxRecDepth 100000 in
theorem scaught_idle (p : Addr) (w : World) :
 CallsD Tryz.prog 77 #[.pointer (some p)] .returning w fun e u' w' => e = .returned (.tuple #[]) ∧ u' = .returning ∧ w' = w := by
 refine callsD_of_wpS Tryz.func77 rfl fun c₀ cs hu => ?_
 have he : ∀ w : World, (binOp .eql 20 .nilIface .nilIface).run Tryz.prog w = .ok (.bool true) w := fun _ => by kernel_rfl
 apply wpS_seq
 apply wpS_region
 simp [wpOpsS, go_sem, recoverD, hu, Tryz.ntmps77, Exit.thenS]
 refine wpS_of_wp ?_
 go_wp2
 cases c₀
 simp_all [bodyPostS, results, Tryz.results77]
theorem run_eql_wrong (w : World) : (binOp .eql 20 (.iface 126 (.agg #[])) (.iface 126 (.agg #[]))).run Tryz.prog w = .ok (.bool true) w := by kernel_rfl
set_option maxRecDepth 100000 in
theorem scaught_up (p : Addr) (x : Bool) (older : List PanicEntry) (w : World) (hc : w.cell? p = some (.bool x)) (hz : w.frozen? p = false) :
 CallsD Tryz.prog 77 #[.pointer (some p)] (.panicking ({ v := .iface 126 (.agg #[]), recovered := false } :: older)) w fun e u' w' =>
  e = .returned (.tuple #[]) ∧ u' = .panicking ({ v := .iface 126 (.agg #[]), recovered := true } :: older) ∧ w' = w.setCell p (.bool true) := by
 have he : ∀ w : World, (binOp .eql 20 (.iface 126 (.agg #[])) .nilIface).run Tryz.prog w = .ok (.bool false) w := fun w => run_eql_held_nil w _ _ _ (by kernel_rfl)
 have ht := run_eql_wrong
 refine callsD_of_wpS Tryz.func77 rfl fun c₀ cs hu => ?_
 apply wpS_seq
 apply wpS_region
 simp [wpOpsS, go_sem, recoverD, hu, Tryz.ntmps77, Exit.thenS]
 refine wpS_of_wp ?_
 have HU := hd_ hu
 clear hu
 generalize hQ : (fun e a' w' => bodyPostS Tryz.prog Tryz.f77 c₀ cs _ e a' _ w') = Q
 have HQ := hd_ hQ
 clear hQ
 go_wp2
 rw [← HQ.out]
 simp [bodyPostS, results, Tryz.results77]
def mayEnd (b : Nat) (Q : Ending → World → Prop) : Prop := ∀ r w', Q r w' → (r = .returned (.tuple #[]) ∨ r = gaveW) ∧ Blk w' b #[.bool false] 4
def caughtP (b : Nat) (Q : Ending → World → Prop) (r : Ending) (w' : World) : Prop :=
 ∃ w1, (Q (.returned (.tuple #[])) w1 ∧ r = .returned (.bool false) ∧ w' = w1) ∨ (Q gaveW w1 ∧ r = .returned (.bool true) ∧ w' = putBlk w1 b #[.bool true] 4)
theorem blk1c {w : World} {b : Nat} {v : Value} {t : TypeId} (h : Blk w b #[v] t) : w.cell? ⟨b, 0, none⟩ = some v ∧ w.frozen? ⟨b, 0, none⟩ = false ∧ b < w.heap.size := ⟨by have := h.cell 0; simpa using this, h.frozen 0, h.lt⟩
theorem putputS (w : World) (b : Nat) (cs ds : Array Value) (t u : TypeId) : putBlk (putBlk w b cs t) b ds u = putBlk w b ds u := by unfold putBlk; simp
theorem cell_same {w : World} {b : Nat} {v : Value} {t : TypeId} (h : Blk w b #[v] t) : w.setCell ⟨b, 0, none⟩ v = w := by
 obtain ⟨w3, rfl, lt⟩ := blk_put h
 rw [(putBlk_facts (w := w3) t lt).2.2]
 rfl
theorem cell_put {w : World} {b : Nat} {v u : Value} {t : TypeId} (h : Blk w b #[v] t) : w.setCell ⟨b, 0, none⟩ u = putBlk w b #[u] t := by
 obtain ⟨w3, rfl, lt⟩ := blk_put h
 rw [(putBlk_facts (w := w3) t lt).2.2, putputS]
 rfl
set_option maxRecDepth 100000 in
theorem caught_act (c1 c2 : Value) (w : World) (Q : Ending → World → Prop) (hcall : Calls Tryz.prog 39 #[c1, c2] (w.alloc (.cells #[.bool false] 4)) Q) (hQ : mayEnd w.heap.size Q) :
 Calls Tryz.prog 38 #[.func (Fn.func 39) #[] #[c1, c2]] w (caughtP w.heap.size Q) := by
 have HC := hd_ hcall
 have HQ := hd_ hQ
 clear hcall hQ
 go_enter_defers Tryz.func38, Tryz.ntmps38
 go_wp2_with fail
 refine HC.out.mono ?_
 intro r w1 hq
 obtain ⟨hr, hB⟩ := HQ.out r w1 hq
 obtain ⟨b0, b1, b2⟩ := blk1c hB
 have hsame := cell_same hB
 rcases hr with rfl | rfl
 · have HQQ := hd_ hq
   have HBB := hd_ hB
   clear hq hB
   go_wp2_with fail
   refine leaves_cons (f := 77) (args := #[.pointer (some ⟨w.heap.size, 0, none⟩)]) (by simp) (by simp [go_sem]) ?_
   refine (scaught_idle ⟨w.heap.size, 0, none⟩ _).mono ?_
   rintro e u' w'' ⟨rfl, rfl, rfl⟩
   simp [Leaves, settle, results, Tryz.results38, go_sem, b0]
   exact ⟨_, Or.inl ⟨HQQ.out, rfl, rfl⟩⟩
 · have HQQ := hd_ hq
   have HBB := hd_ hB
   clear hq hB hsame
   unfold gaveW
   refine leaves_cons (f := 77) (args := #[.pointer (some ⟨w.heap.size, 0, none⟩)]) (by simp) (by simp [go_sem]) ?_
   refine (scaught_up ⟨w.heap.size, 0, none⟩ false [] _ b0 b1).mono ?_
   rintro e u' w'' ⟨rfl, rfl, rfl⟩
   rw [cell_put HBB.out]
   have pc := (putBlk_facts (w := w1) 4 b2).1
   simp [Leaves, settle, results, Tryz.results38, go_sem, pc]
   exact ⟨_, Or.inr ⟨HQQ.out, rfl, rfl⟩⟩
set_option maxRecDepth 100000 in
theorem caught_rd (c1 c2 : Value) (w : World) (Q : Ending → World → Prop) (hcall : Calls Tryz.prog 48 #[c1, c2] (w.alloc (.cells #[.bool false] 4)) Q) (hQ : mayEnd w.heap.size Q) :
 Calls Tryz.prog 38 #[.func (Fn.func 48) #[] #[c1, c2]] w (caughtP w.heap.size Q) := by
 have HC := hd_ hcall
 have HQ := hd_ hQ
 clear hcall hQ
 go_enter_defers Tryz.func38, Tryz.ntmps38
 go_wp2_with fail
 refine HC.out.mono ?_
 intro r w1 hq
 obtain ⟨hr, hB⟩ := HQ.out r w1 hq
 obtain ⟨b0, b1, b2⟩ := blk1c hB
 have hsame := cell_same hB
 rcases hr with rfl | rfl
 · have HQQ := hd_ hq
   have HBB := hd_ hB
   clear hq hB
   go_wp2_with fail
   refine leaves_cons (f := 77) (args := #[.pointer (some ⟨w.heap.size, 0, none⟩)]) (by simp) (by simp [go_sem]) ?_
   refine (scaught_idle ⟨w.heap.size, 0, none⟩ _).mono ?_
   rintro e u' w'' ⟨rfl, rfl, rfl⟩
   simp [Leaves, settle, results, Tryz.results38, go_sem, b0]
   exact ⟨_, Or.inl ⟨HQQ.out, rfl, rfl⟩⟩
 · have HQQ := hd_ hq
   have HBB := hd_ hB
   clear hq hB hsame
   unfold gaveW
   refine leaves_cons (f := 77) (args := #[.pointer (some ⟨w.heap.size, 0, none⟩)]) (by simp) (by simp [go_sem]) ?_
   refine (scaught_up ⟨w.heap.size, 0, none⟩ false [] _ b0 b1).mono ?_
   rintro e u' w'' ⟨rfl, rfl, rfl⟩
   rw [cell_put HBB.out]
   have pc := (putBlk_facts (w := w1) 4 b2).1
   simp [Leaves, settle, results, Tryz.results38, go_sem, pc]
   exact ⟨_, Or.inr ⟨HQQ.out, rfl, rfl⟩⟩
end Go.Proofs.YtfekohonidggjaaGreatDoor
