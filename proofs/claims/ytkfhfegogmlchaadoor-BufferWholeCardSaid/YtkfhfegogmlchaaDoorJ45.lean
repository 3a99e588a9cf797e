/- Several texts in one: see each part's head. -/
import Derived.BigQuiet
import Derived.Test.YtkfhfegogmlchaaDoorJ41
import Derived.Test.YtkfhfegogmlchaaDoorJ43
import Derived.Test.YtkfhfegogmlchaaDoorJ44
/- The statement's walk. -/
namespace Go.Proofs.YtkfhfegogmlchaaDoor
open Go.RowKit

/-- A slice of bytes reads as l. -/
def BRow (w : World) (A : Option Addr) (l : List Int) : Prop :=
  l.length ≤ 140737488355328 ∧ (l ≠ [] → ∃ b off, A = some ⟨b, off, none⟩ ∧ b < w.heap.size ∧ ∀ (i : Nat) v, l[i]? = some v → w.cell? ⟨b, off + i, none⟩ = some (.int .u8 v))
theorem BRow.at_ {w : World} {A : Option Addr} {l : List Int} (h : BRow w A l) {j : Nat} (hj : j < l.length) :
    ∃ (b off : Nat) (v : Int), A = some ⟨b, off, none⟩ ∧ b < w.heap.size ∧ l[j]? = some v ∧ v ∈ l ∧ w.cell? ⟨b, off + j, none⟩ = some (.int .u8 v) := by
  obtain ⟨b, off, rfl, hlt, hc⟩ := h.2 (by intro e; simp [e] at hj)
  have hv := List.getElem?_eq_getElem hj
  exact ⟨b, off, l[j], rfl, hlt, hv, List.getElem_mem hj, hc j _ hv⟩
def kBl : Known := .mem (fun v _ => ∃ b : Bool, v = .bool b) (fun _ _ _ h _ => h)
theorem pk_at : ∀ (ps : List Pk) (k r : Nat) (p : Pk), ps[k]? = some p → r < 7 → (pkCells ps)[k * 7 + r]? = p.cells[r]?
  | [], k, r, p, h, _ => by simp at h
  | q :: ps, 0, r, p, h, hr => by
    simp only [List.getElem?_cons_zero, Option.some.injEq] at h
    subst h
    show (q.cells ++ pkCells ps)[0 * 7 + r]? = _
    rw [List.getElem?_append_left (by simp [Pk.cells]; omega)]
    congr 1
    omega
  | q :: ps, k + 1, r, p, h, hr => by
    have ih := pk_at ps k r p (by simpa using h) hr
    show (q.cells ++ pkCells ps)[(k + 1) * 7 + r]? = _
    rw [List.getElem?_append_right (by simp [Pk.cells]; omega), ← ih]
    congr 1
    simp [Pk.cells]
    omega
set_option maxRecDepth 100000 in
set_option maxHeartbeats 6400000 in
set_option linter.unusedSimpArgs false in
theorem whole_any (ts : List Ta) (A LA MA : Option Addr) (c lc mc : Nat) (first bnd : Int) (ls : List (List Ch)) (mx : List Int) (w : World) (hT : TRow w A c ts) (hls : LsRow w LA ls) (hmx : BRow w MA mx) (hmv : ∀ v ∈ mx, 0 ≤ v ∧ v ≤ 255) (hf : 0 ≤ first ∧ first ≤ 4294967295) (hb : 0 ≤ bnd ∧ bnd ≤ 255) (hTb : Tabs w) :
    Calls Tryd.prog 3 #[.agg #[.slice A ts.length c], .slice LA ls.length lc, .int .u32 first, .int .u8 bnd, .slice MA mx.length mc] w fun r w' => r = .returned (.bool true) ∧ Below w.heap.size w w' := by
  obtain ⟨nt, hnt⟩ : ∃ q, q = ts.length := ⟨_, rfl⟩
  obtain ⟨n, hn⟩ : ∃ n : Nat, (n : Int) = 1 + bnd % 40 := ⟨(1 + bnd % 40).toNat, by omega⟩
  have hn1 : 1 ≤ n := by omega
  have hn40 : n ≤ 40 := by omega
  obtain ⟨hf0, hf1⟩ := hf
  obtain ⟨hb0, hb1⟩ := hb
  have HSC : Hid (schB ts = true → 1 ≤ nt ∧ nt ≤ 12) := fun h => by rw [hnt]; exact schB_len h
  have HMAY := Lib.hid (fun (W : World) (hW : Below w.heap.size w W) => refmay_any ts A c W (hT.ext hW))
  have HMD := Lib.hid (fun (hs : schB ts = true) (hl40 : ls.length ≤ 40) (W : World) (hW : Below w.heap.size w W) => made_any ts A LA c lc nt first ls W (hT.ext hW) hs hnt (HSC.out hs).1 (HSC.out hs).2 ⟨hf0, hf1⟩ (hls.ext hW) hl40 (hTb.ext hW))
  have HHV := Lib.hid (fun (W : World) (hW : Below w.heap.size w W) (LA1 : Option Addr) (c1 : Nat) (l : List Ch) (hl : ChRow W LA1 l) => heavy20_any ts A LA1 c c1 l W (hT.ext hW) hl)
  have HAL := Lib.hid (fun (W : World) (hW : Below w.heap.size w W) => alive23_any W (hTb.ext hW))
  have HTW := Lib.hid (fun (W : World) (hW : Below w.heap.size w W) => hTb.ext hW)
  rw [← hnt] at HMAY HHV ⊢
  have hll := hls.1
  have hml := hmx.1
  have HLS := Lib.hid hls
  have HMX := Lib.hid hmx
  have HMV := Lib.hid hmv
  have HN := Lib.hid hn
  have hwrn : IntKind.i64.wrap (bnd % 40) = bnd % 40 := IntWalk.i64_in _ (by omega)
  clear hT hls hmx hmv hTb hnt hn
  go_enter Tryd.func3, Tryd.ntmps3
  go_wp2_with fail
  rw [← HN.out]
  have hS := Blk.new w #[.slice A nt c] 24
  have hC : Below w.heap.size w (w.alloc (.cells #[.slice A nt c] 24)) := (by repeat (first | exact Below.refl _ _ | assumption | refine Below.drew ?_ | refine below_drewN ?_ _ | refine Below.alloc ?_ (by simp <;> omega) _))
  have HS := Lib.hid hS
  have HC := Lib.hid hC
  clear hS hC
  generalize w.alloc (.cells #[.slice A nt c] 24) = W0 at HS HC ⊢
  have HC : Hid (Below w.heap.size w W0) := HC.out
  generalize hsx : w.heap.size = S at HS ⊢
  have HSX := Lib.hid hsx
  clear hsx
  go_loopw [12, 13] (fun tt ii wr => ∃ k : Nat, k ≤ ls.length ∧ k ≤ 60 ∧ tt = .int .i64 (szT (tabsOf ls) k) ∧ ii = .int .i64 k ∧ szT (tabsOf ls) k ≤ k * 17592186044416 ∧ Hid (Below W0.heap.size W0 wr)) (fun _ ii _ => ls.length - (intOf ii).toNat)
  case atStart => exact ⟨0, by omega, by omega, rfl, rfl, by simp [szT], Below.refl _ _⟩
  case round =>
    obtain ⟨k, hk1, hk60, rfl, rfl, hkz, HBW⟩ := hrel
    have HBW' := Lib.hid (bt HC.out HBW.out)
    by_cases hlt : k < ls.length ∧ k < 60
    · obtain ⟨hlt, h60⟩ := hlt
      obtain ⟨b, off, l, rfl, hbl, hli, A1, c1, e0, hch⟩ := (HLS.out.ext HBW'.out).at_ hlt
      have hl9 := hch.1
      have HZ := Lib.hid (szT_tabs hli)
      have HE0 := Lib.hid e0
      have HCH := Lib.hid hch
      have h60' : (k : Int) < 60 := by omega
      have hltI : (k : Int) < ls.length := by omega
      have hk0 : (0 : Int) ≤ k := by omega
      have hbx := HS.out.ext HBW.out
      have HS1 := Lib.hid hbx
      generalize szT (tabsOf ls) k = tk at hkz HZ ⊢
      have hwt : IntKind.i64.wrap ((tk : Int) + (l.length : Int)) = (tk : Int) + l.length := IntWalk.i64_in _ (by omega)
      clear hli e0 hch hbx
      go_upto_region 6 with fail
      refine region_grow [false, false, false, false, false, false, false, false, false, false, false, false, false, false, false, false, false, false, false, false, false, false, false, false, false, false, false, false, false, false, false, false, false, false, false, false, false, false, false, false, false, false, true, true, true, true, true, true, true, false, false, false, false, false, false, false, false, false, false, false, false, false, false, false, false, false, false, false, false, false, false, false, false, false, false, false, false, false, false, false, false, false, false, false, false, false, false, false, false, false, false, false, false, false, false, false, false, false, false, false, false, false, false, false, false, false, false, false, false, false, false, false, false, false, false, false, false, false, false, false, false, false, false, false, false, false, false, false, false, false, false, false, false, false, false, false, false, false, false, false, false, false, false, false, false, false, false, false, false, false, false, false, false, false, false, false, false, false, false, false, false, false, false, false, false, false, false, false, false, false, false, false, false, false, false, false, false, false, false, false, false, false, false, false, false, false, false, false, false, false, false, false, false, false, false, false, false, false, false, false, false, false, false, false, false, false, false, false, false, false, false, false, false, false, false, false, false, false, false, false, false, false, false, false, false, false, false, false, false, false, false, false, false, false, false, false, false] [42, 43, 44, 45, 46, 47, 48] [.val (.agg #[.slice A nt c]), .val (.agg #[.int .u64 0, .slice none 0 0]), .val (.slice (some ⟨b, off, none⟩) ls.length lc), .val (.int .i64 k), .val (.pointer (some ⟨b, off + k, none⟩)), .val (.slice A1 l.length c1), kBl] [6] (by kernel_rfl) (by kernel_rfl) (by kernel_rfl) (by kernel_rfl) (by kernel_rfl) ⟨?_, ?_, ?_, ?_, ?_, ?_, ?_, trivial⟩ ?done
      case done =>
        intro x w5 hb5
        simp only [StepGoal, List.getD_cons_zero, List.getD_cons_succ]
        rintro _ ⟨q, rfl⟩
        simp only [overlay, upd, cond_true, cond_false, Nat.reduceEqDiff, reduceIte]
        have e5 := (hb5.cell (p := ⟨b, off + k, none⟩) hbl).trans HE0.out
        have lb5 := Nat.lt_of_lt_of_le hbl hb5.size
        have hC5 := Lib.hid (bt HBW'.out hb5)
        have hD5 := Lib.hid (bt HBW.out hb5)
        clear hb5
        cases q with
        | true =>
          go_wp2_with fail
          refine (HAL.out _ hC5.out).mono ?_
          rintro r w99 ⟨rfl, hb99⟩
          have hbw := bt hC5.out hb99
          go_wp2_with fail
          go_ret
          exact ⟨rfl, hbw⟩
        | false =>
          go_wp2_with fail
          go_roundw
          case rel => exact ⟨k + 1, by omega, by omega, by rw [HZ.out]; go_num, by go_num, by rw [HZ.out]; omega, hD5⟩
          case measure => simp [intOf]; omega
      all_goals
        intro x w5 hb5
        have hS := HS1.out.ext hb5
        have s0 := hS.cell 0
        have lS := hS.lt
        have e5 := (hb5.cell (p := ⟨b, off + k, none⟩) hbl).trans HE0.out
        have lb5 := Nat.lt_of_lt_of_le hbl hb5.size
        simp only [List.getElem?_toArray, List.getElem?_cons_zero] at s0
        clear hS
        intro K hK
        rw [if_pos (by rfl)]; simp only [overlay, upd, cond_true, cond_false, List.getD_cons_zero, List.getD_cons_succ, Nat.reduceEqDiff, reduceIte]
        go_simp
        first
          | exact hK.out _ _ (Below.refl _ _) rfl
          | ((with_reducible refine (HHV.out _ (bt HBW'.out hb5) _ _ _ (HCH.out.ext hb5)).mono ?_); rintro r wa ⟨⟨q, rfl⟩, hba⟩; go_wp2_with fail; exact hK.out _ _ hba ⟨_, rfl⟩)
    · by_cases hk6 : k < ls.length
      · have g1 : (k : Int) < ls.length := by omega
        have g2 : ¬ (k : Int) < 60 := by omega
        have g3 : (40 : Int) < ls.length := by omega
        go_wp2_with fail
        refine (HAL.out _ HBW'.out).mono ?_
        rintro r w99 ⟨rfl, hb99⟩
        have hbw := bt HBW'.out hb99
        go_wp2_with fail
        go_ret
        exact ⟨rfl, hbw⟩
      · have hke : k = ls.length := by omega
        subst hke
        have HZT := Lib.hid (rfl : szT (tabsOf ls) ls.length = szT (tabsOf ls) ls.length)
        generalize htot : szT (tabsOf ls) ls.length = tot at hkz ⊢
        have HTOT := Lib.hid htot
        clear htot HZT
        by_cases g40 : (40 : Int) < ls.length
        · go_wp2_with fail
          refine (HAL.out _ HBW'.out).mono ?_
          rintro r w99 ⟨rfl, hb99⟩
          have hbw := bt HBW'.out hb99
          go_wp2_with fail
          go_ret
          exact ⟨rfl, hbw⟩
        · by_cases g300 : (300 : Int) < tot
          · go_wp2_with fail
            refine (HAL.out _ HBW'.out).mono ?_
            rintro r w99 ⟨rfl, hb99⟩
            have hbw := bt HBW'.out hb99
            go_wp2_with fail
            go_ret
            exact ⟨rfl, hbw⟩
          · by_cases g2000 : (2000 : Int) < mx.length
            · go_wp2_with fail
              refine (HAL.out _ HBW'.out).mono ?_
              rintro r w99 ⟨rfl, hb99⟩
              have hbw := bt HBW'.out hb99
              go_wp2_with fail
              go_ret
              exact ⟨rfl, hbw⟩
            · have hS := HS.out.ext HBW.out
              have s0 := hS.cell 0
              have lS := hS.lt
              have HS1 := Lib.hid hS
              simp only [List.getElem?_toArray, List.getElem?_cons_zero] at s0
              clear hS
              go_wp2_with fail
              refine (HMAY.out _ HBW'.out).mono ?_
              rintro r w5 ⟨rfl, hb5⟩
              have hC5 := Lib.hid (bt HBW'.out hb5)
              have hS := HS1.out.ext hb5
              have s5 := hS.cell 0
              have lS5 := hS.lt
              have HS5 := Lib.hid hS
              simp only [List.getElem?_toArray, List.getElem?_cons_zero] at s5
              clear hS s0 lS HS1 HS hb5 HBW HBW' HC
              by_cases hq : schB ts = true
              · obtain ⟨h1, h12⟩ := HSC.out hq
                have HM := Lib.hid (HMD.out hq (by omega) _ hC5.out)
                have HQ := Lib.hid hq
                rw [hq]
                clear hq HMAY HMD
                go_wp2_with fail
                refine HM.out.mono ?_
                rintro r w6 ⟨hb6, hr⟩
                have hC6 := Lib.hid (bt hC5.out hb6)
                have HS6 := Lib.hid (HS5.out.ext hb6)
                rcases hr with ⟨q1, q2, q3, q4, q5, q6, rfl⟩ | ⟨hok, g, h, vs, R, rfl, htop, hmade, hgh, hhb⟩
                · go_wp2_with fail
                  refine (HAL.out _ (bt hC6.out (by repeat (first | exact Below.refl _ _ | assumption | refine Below.drew ?_ | refine below_drewN ?_ _ | refine Below.alloc ?_ (by simp <;> omega) _)))).mono ?_
                  rintro r w99 ⟨rfl, hb99⟩
                  have hbw := bt (bt hC6.out (by repeat (first | exact Below.refl _ _ | assumption | refine Below.drew ?_ | refine below_drewN ?_ _ | refine Below.alloc ?_ (by simp <;> omega) _))) hb99
                  go_wp2_with fail
                  go_ret
                  exact ⟨rfl, hbw⟩
                · by_cases hmost : (n : Int) < mostN ls
                  · go_wp2_with fail
                    refine (HAL.out _ (bt hC6.out (by repeat (first | exact Below.refl _ _ | assumption | refine Below.drew ?_ | refine below_drewN ?_ _ | refine Below.alloc ?_ (by simp <;> omega) _)))).mono ?_
                    rintro r w99 ⟨rfl, hb99⟩
                    have hbw := bt (bt hC6.out (by repeat (first | exact Below.refl _ _ | assumption | refine Below.drew ?_ | refine below_drewN ?_ _ | refine Below.alloc ?_ (by simp <;> omega) _))) hb99
                    go_wp2_with fail
                    go_ret
                    exact ⟨rfl, hbw⟩
                  · have HOK := Lib.hid hok
                    have HTOP := Lib.hid htop
                    have HMADE := Lib.hid hmade
                    have HHB := Lib.hid hhb
                    have HB6 := Lib.hid hb6
                    have hS6 := HS6.out.cell 0
                    have lS6 := HS6.out.lt
                    simp only [List.getElem?_toArray, List.getElem?_cons_zero] at hS6
                    clear hok htop hmade hhb hb6 s5 lS5 HS5
                    go_wp2_with fail
                    have hT2 := Blk.new w6 #[.slice (some ⟨g, 0, none⟩) (nt + 1) (nt + 1), .slice (some ⟨h, 0, none⟩) (nt + 1) (nt + 1)] 39
                    have hA2 : Below w6.heap.size w6 (w6.alloc (.cells #[.slice (some ⟨g, 0, none⟩) (nt + 1) (nt + 1), .slice (some ⟨h, 0, none⟩) (nt + 1) (nt + 1)] 39)) := (by repeat (first | exact Below.refl _ _ | assumption | refine Below.drew ?_ | refine below_drewN ?_ _ | refine Below.alloc ?_ (by simp <;> omega) _))
                    have HT2 := Lib.hid hT2
                    have HA2 := Lib.hid hA2
                    clear hT2 hA2 hS6 lS6
                    generalize w6.alloc (.cells #[.slice (some ⟨g, 0, none⟩) (nt + 1) (nt + 1), .slice (some ⟨h, 0, none⟩) (nt + 1) (nt + 1)] 39) = W2 at HT2 HA2 ⊢
                    have HA2 : Hid (Below w6.heap.size w6 W2) := HA2.out
                    generalize ht0 : w6.heap.size = T0 at HT2 ⊢
                    have HT0X := Lib.hid ht0
                    clear ht0
                    refine (new_gen nt n h1 h12 hn1 (by omega) _).mono ?_
                    rintro r w8 ⟨rfl, rfl⟩
                    have hL0 := LoopS.start (first := first) (ls := ls) n (HTOP.out.ext HA2.out) (HHB.out.ext HA2.out) hgh
                    have hA8 : Below W2.heap.size W2 (W2.alloc (.cells #[.int .i64 nt, .int .i64 n, .int .u64 0, .bool false, .slice none 0 0, .int .i64 0] 85)) := (Below.refl _ _).alloc (Nat.le_refl _) _
                    have hBel0 : Below w5.heap.size w5 (W2.alloc (.cells #[.int .i64 nt, .int .i64 n, .int .u64 0, .bool false, .slice none 0 0, .int .i64 0] 85)) := bt (bt HB6.out HA2.out) hA8
                    have hT8 := HT2.out.ext hA8
                    have hlB : w5.heap.size ≤ W2.heap.size := (bt HB6.out HA2.out).size
                    have hTB : T0 < W2.heap.size := HT2.out.lt
                    have hP := PlanR.of (first := first) HOK.out h1 h12 (by omega) hn40 (by omega) ⟨hf0, hf1⟩
                    have HL0 := Lib.hid hL0
                    have HBL0 := Lib.hid hBel0
                    have HT0 := Lib.hid hT8
                    have HP := Lib.hid hP
                    have HRB0 := Lib.hid (roundB.start nt n (tabsOf ls) mx.length)
                    have HOKC : Hid (∀ l ∈ ls, okC nt l) := fun l hl => (HOK.out l hl).1
                    have HWF := Lib.hid HLS.out.wf
                    clear hL0 hA8 hBel0 hT8 hP HHB HTOP HT2 HA2 HB6 HOK hC6 HS6
                    generalize W2.alloc (.cells #[.int .i64 nt, .int .i64 n, .int .u64 0, .bool false, .slice none 0 0, .int .i64 0] 85) = W3 at HL0 HBL0 HT0 ⊢
                    generalize hBx : W2.heap.size = B at HL0 hlB hTB ⊢
                    have HBX := Lib.hid hBx
                    clear hBx
                    obtain ⟨lo, hlo⟩ : ∃ z, z = w5.heap.size := ⟨_, rfl⟩
                    rw [← hlo] at HL0 hlB hgh
                    have HLO := Lib.hid hlo
                    clear hlo
                    obtain ⟨q, hq⟩ : ∃ q, q = (nt + 1) * (tot + 2 * ls.length + 2) := ⟨_, rfl⟩
                    have hq1 : q ≤ 4966 := by rw [hq]; exact Nat.mul_le_mul (show nt + 1 ≤ 13 by omega) (show tot + 2 * ls.length + 2 ≤ 382 by omega)
                    have hqI : ((nt : Int) + 1) * ((tot : Int) + 2 * (ls.length : Int) + 2) = q := by rw [hq]; push_cast; rfl
                    have HQI := Lib.hid hqI
                    have HQ := Lib.hid hq
                    clear hq hqI
                    go_wp2_with fail
                    go_loopw [19, 20] (fun dd st wx => ∃ (s : Bs) (step : Nat), dd = .int .i64 s.done ∧ st = .int .i64 step ∧ Hid (roundB nt n (tabsOf ls) mx.length step s) ∧ Hid (LoopS B nt n lo g h first ls vs R s wx) ∧ Hid (Below w5.heap.size w5 wx) ∧ Hid (Blk wx T0 #[.slice (some ⟨g, 0, none⟩) (nt + 1) (nt + 1), .slice (some ⟨h, 0, none⟩) (nt + 1) (nt + 1)] 39)) (fun _ st _ => mx.length + q + 1 - (intOf st).toNat)
                    case atStart => exact ⟨⟨0, 0, fun _ => 0⟩, 0, rfl, rfl, HRB0, HL0, HBL0, HT0⟩
                    case round =>
                      clear HRB0 HL0 HBL0 HT0
                      obtain ⟨s, step, rfl, rfl, HRB, HL, HBL, HT0⟩ := hrel
                      have hstep := HRB.out.bound (okT_of HP.out)
                      rw [HTOT.out, ← HQ.out] at hstep
                      have HINV := Lib.hid HRB.out.1
                      have hdle := HINV.out.len
                      rw [tabs_length] at hdle
                      obtain ⟨d, hd⟩ : ∃ d : Nat, s.done = d := ⟨_, rfl⟩
                      rw [hd] at hdle ⊢
                      have HD := Lib.hid hd
                      clear hd
                      have HCW := Lib.hid (bt hC5.out HBL.out)
                      by_cases hlt : d < ls.length
                      · obtain ⟨b, off, lc1, rfl, hbl, hl, A1, c1, e0, hch, hcap⟩ := HLS.out.atc hlt
                        have HE := Lib.hid (fun (W : World) (hW : Below w.heap.size w W) => And.intro ((hW.cell (p := ⟨b, off + d, none⟩) hbl).trans e0) (Nat.lt_of_lt_of_le hbl hW.size))
                        have HCH := Lib.hid hch
                        have HLC := Lib.hid hl
                        have hlc9 := hch.1
                        clear hl hch e0
                        have hltI : (d : Int) < ls.length := by omega
                        have x0 := HT0.out.cell 0
                        have x1 := HT0.out.cell 1
                        have lT := HT0.out.lt
                        simp only [List.getElem?_toArray, List.getElem?_cons_zero, List.getElem?_cons_succ] at x0 x1
                        go_upto_if 120 with fail
                        go_cut [21] (fun v wy => ∃ top : Nat, v = .int .i64 top ∧ top < nt + 1 ∧ (mx.length ≤ step → top = step % (nt + 1)) ∧ Hid (Below wr.heap.size wr wy))
                        case first =>
                          by_cases hsm : step < mx.length
                          · obtain ⟨mb, mo, v, rfl, hbm, hv, hvm, hcell⟩ := HMX.out.at_ hsm
                            obtain ⟨hv0, hv1⟩ := HMV.out v hvm
                            have m0 := (HCW.out.cell (p := ⟨mb, mo + step, none⟩) hbm).trans hcell
                            have lM := Nat.lt_of_lt_of_le hbm HCW.out.size
                            have hsmI : (step : Int) < mx.length := by omega
                            clear hv hvm hcell
                            go_upto_region 23 with fail
                            go_quiet (fail)
                            go_wp2_with fail
                            go_meet
                            have hm0 := Int.emod_nonneg v (show ((nt : Int) + 1) ≠ 0 by omega)
                            have hm1 := Int.emod_lt_of_pos v (show (0 : Int) < (nt : Int) + 1 by omega)
                            exact ⟨(v % ((nt : Int) + 1)).toNat, congrArg (Value.int .i64) (by omega), by omega, fun h => by omega, below_drewN (Below.refl _ _) _⟩
                          · have hsmI : ¬ (step : Int) < mx.length := by omega
                            go_wp2_with fail
                            go_meet
                            exact ⟨step % (nt + 1), congrArg (Value.int .i64) (by push_cast; rfl), Nat.mod_lt _ (by omega), fun _ => rfl, Below.refl _ _⟩
                        case rest =>
                          obtain ⟨top, rfl, htop, htm, HW⟩ := hcut
                          rename World => wy
                          have HLy := Lib.hid (HL.out.ext HW.out)
                          have HBLy := Lib.hid (bt HBL.out HW.out)
                          have HT0y := Lib.hid (HT0.out.ext HW.out)
                          have HCy := Lib.hid (bt HCW.out HW.out)
                          have HTM := Lib.hid htm
                          clear x0 x1 lT HL HT0 HBL HCW HW htm
                          have x0 := HT0y.out.cell 0
                          have x1 := HT0y.out.cell 1
                          have lT := HT0y.out.lt
                          simp only [List.getElem?_toArray, List.getElem?_cons_zero, List.getElem?_cons_succ] at x0 x1
                          go_wp2_with fail
                          refine (come_any HLy.out hlB HP.out HMADE.out (HTW.out _ HCy.out) HOKC.out HWF.out (by rw [HD.out]; exact hlt) htop).mono ?_
                          rintro r w9 ⟨is, s1, rfl, hcm, hL1, hb9, hF9⟩
                          have hinv1 := hcm.inv HINV.out
                          have HD1 := Lib.hid (hinv1.2.trans HD.out)
                          have HNX := Lib.hid (HRB.out.next (by rw [HD.out, tabs_length]; exact hlt) HTM.out hcm)
                          have HL9 := Lib.hid hL1
                          have hT9 := hF9.blk HT0y.out rfl
                          have HT9 := Lib.hid hT9
                          rw [HLO.out] at hb9
                          have HBL9 := Lib.hid (HBLy.out.trans hb9)
                          clear hinv1 hcm hL1 hb9 hF9 hT9 HLy HBLy HT0y HCy HTM HRB HINV x0 x1 lT
                          have x0 := HT9.out.cell 0
                          have lT := HT9.out.lt
                          simp only [List.getElem?_toArray, List.getElem?_cons_zero, List.getElem?_cons_succ] at x0
                          go_wp2_with fail
                          refine (HL9.out.len HP.out).mono ?_
                          rintro r w10 ⟨m, hm, _, rfl, rfl⟩
                          have hmI : ¬ (n : Int) < m := by omega
                          have hsI : ¬ (mx.length : Int) + q < step := by omega
                          have hqI := HQI.out
                          go_wp2_with fail
                          clear hqI hsI hmI x0 lT
                          refine (HL9.out.ready HP.out (by rw [HD1.out]; exact hlt)).mono ?_
                          rintro r w11 ⟨cc, hcc, rfl, hb11⟩
                          have HL11 := Lib.hid (HL9.out.ext hb11)
                          have HT11 := Lib.hid (HT9.out.ext hb11)
                          have HBL11 := Lib.hid (bt HBL9.out hb11)
                          have HCC := Lib.hid hcc
                          clear hcc hb11 HL9 HT9 HBL9
                          cases cc with
                          | false =>
                            go_wp2_with fail
                            go_roundw
                            case rel => exact ⟨s1, step + 1, by rw [HD1.out], by go_num, Lib.hid (HNX.out.2 (fun hc => by simpa using HCC.out.2 hc)), HL11, HBL11, HT11⟩
                            case measure => simp [intOf]; omega
                          | true =>
                            have HCO := Lib.hid (HCC.out.1 rfl)
                            have HL1 : Hid (ls[s1.done]? = some lc1) := by rw [HD1.out]; exact HLC.out
                            go_wp2_with fail
                            refine (HL11.out.peek HP.out HL1.out HCO.out).mono ?_
                            rintro r w12 ⟨hb12, v, ps, C, C2, k1, k2, m1, m2, rfl, hpk, hpl, hat⟩
                            obtain ⟨A', oc, rfl⟩ := own_form hpk.1
                            rw [HD1.out] at hat ⊢
                            rw [hpl]
                            obtain ⟨e12, l12⟩ := HE.out w12 (bt hC5.out (bt HBL11.out hb12))
                            have HPK0 := Lib.hid hpk
                            have HPL := Lib.hid hpl
                            have HAT := Lib.hid hat
                            have HB12 := Lib.hid hb12
                            have hw1 : IntKind.u64.wrap first = first := IntWalk.u64_in _ (by omega)
                            have hw2 : IntKind.u64.wrap (d : Int) = d := IntWalk.u64_in _ (by omega)
                            have hw3 : IntKind.u64.wrap (first + (d : Int)) = first + d := IntWalk.u64_in _ (by omega)
                            clear hpk hpl hat hb12
                            go_wp2_with fail
                            have hA13 : Below w12.heap.size w12 (w12.alloc (.cells #[.int .u8 2, .int .u64 (first + (d : Int)), .slice C m1 k1, .slice C2 m2 k2] 50)) := (by repeat (first | exact Below.refl _ _ | assumption | refine Below.drew ?_ | refine below_drewN ?_ _ | refine Below.alloc ?_ (by simp <;> omega) _))
                            refine ((HL11.out.ext (bt HB12.out hA13)).drop HP.out HL1.out HCO.out).mono ?_
                            rintro r w14 ⟨rfl, hL14, hb14, hF14⟩
                            have HPK := Lib.hid ((HPK0.out.ext hA13).frS hF14 (by decide) (by decide))
                            have HBL14 := Lib.hid ((bt HBL11.out (bt HB12.out hA13)).trans (hb14.mono (by rw [← HLO.out]; exact hlB)))
                            have HT14 := Lib.hid ((HT11.out.ext (bt HB12.out hA13)).below hb14 hTB)
                            have HL14 := Lib.hid hL14
                            have HC14 := Lib.hid (bt hC5.out HBL14.out)
                            have HNX1 := Lib.hid (HNX.out.1 HCO.out)
                            clear hL14 hb14 hF14 hA13 HPK0 HB12 HL11 HT11 HBL11 HNX HCC HCO e12 l12 hw1 hw2 hw3 HL1
                            go_wp2_with fail
                            go_loopw [27] (fun kk wz => ∃ k : Nat, k ≤ lc1.length ∧ kk = .int .i64 k ∧ Hid (Below w14.heap.size w14 wz)) (fun kk _ => lc1.length - (intOf kk).toNat)
                            case atStart => exact ⟨0, by omega, rfl, Below.refl _ _⟩
                            case round =>
                              obtain ⟨k, hk, rfl, HBZ⟩ := hrel
                              by_cases hkl : k < lc1.length
                              · obtain ⟨p, hp⟩ : ∃ p, ps[k]? = some p := ⟨_, List.getElem?_eq_getElem (by rw [HPL.out]; exact hkl)⟩
                                obtain ⟨ch, hch, he⟩ := HAT.out k p hp
                                obtain ⟨b2, off2, ch2, rfl, hbl2, hch2, hcw, A3, A4, c3, c4, f0, f1, f2, f3, v3, v4⟩ := HCH.out.at_ hkl
                                rw [hch] at hch2
                                obtain rfl := Option.some.inj hch2
                                have hpk := (HPK.out.ext HBZ.out)
                                obtain ⟨hpr1, hpr2⟩ := hpk.2 p (List.mem_of_getElem? hp)
                                obtain ⟨O, rfl⟩ : ∃ O, A' = some ⟨O, 0, none⟩ := by
                                  rcases hpk.1.2 with ⟨_, h0⟩ | ⟨O, cap, cur, e, _⟩
                                  · rw [HPL.out] at h0; omega
                                  · simp only [Value.slice.injEq] at e
                                    exact ⟨O, e.1⟩
                                have hcell := fun r (v : Value) (hr : r < 7) (hv : p.cells[r]? = some v) => hpk.1.cells (g := O) rfl (k * 7 + r) v ((pk_at ps k r p hp hr).trans hv)
                                have lO := (hpk.1.lt O rfl).2
                                obtain ⟨pe, pA, pc, pA2, pc2⟩ := p
                                obtain ⟨ck, ctb, cbf, caf⟩ := ch
                                simp only at he hpr1 hpr2
                                subst he
                                have r1 := hcell 1 _ (by decide) rfl
                                have r3 := hcell 3 _ (by decide) rfl
                                have r4 := hcell 4 _ (by decide) rfl
                                have r5 := hcell 5 _ (by decide) rfl
                                have r6 := hcell 6 _ (by decide) rfl
                                simp only [addr_add, Nat.zero_add] at r1 r3 r4 r5 r6
                                have HWZ := Lib.hid (bt HC14.out HBZ.out)
                                have HCA : Hid (ChAt w b2 (off2 + k * 4) ck ctb A3 A4 cbf.length caf.length c3 c4) := ⟨hbl2, f0, f1, f2, f3⟩
                                have HSM := Lib.hid (fun (g : Nat) (W : World) (hW : Below wr.heap.size wr W) (hg : Blk W g #[.int .u8 ck, .int .i64 ctb, .slice pA cbf.length pc, .slice pA2 caf.length pc2] 57) => same15_at ck ctb pA pA2 A3 A4 pc pc2 c3 c4 cbf caf g 1 b2 (off2 + k * 4) (c1 - k) W hg (HCA.out.ext (bt HWZ.out hW)) (hpr1.vrow.ext hW) (hpr2.vrow.ext hW) (v3.ext (bt HWZ.out hW)) (v4.ext (bt HWZ.out hW)))
                                obtain ⟨e12, l12⟩ := HE.out wr HWZ.out
                                have HCELL := Lib.hid (And.intro (And.intro r1 (And.intro r3 (And.intro r4 (And.intro r5 r6)))) (And.intro lO (And.intro e12 l12)))
                                have hkI : (k : Int) < lc1.length := by omega
                                have hkC : (k : Int) + 1 ≤ c1 := by omega
                                have hkP : (0 : Int) ≤ (k : Int) + 1 := by omega
                                have hkN : ¬ c1 = k := by omega
                                have hwk : IntKind.i64.wrap ((k : Int) + 1) = (k : Int) + 1 := IntWalk.i64_in _ (by omega)
                                have hk0 : (0 : Int) ≤ k := by omega
                                clear hp hch hcw hbl2 f0 f1 f2 f3 v3 v4 hpk hpr1 hpr2 hcell r1 r3 r4 r5 r6 lO e12 l12
                                go_upto_region 34 with fail
                                refine region_grow [false, false, false, false, false, false, false, false, false, false, false, false, false, false, false, false, false, false, false, false, false, false, false, false, false, false, false, false, false, false, false, false, false, false, false, false, false, false, false, false, false, false, false, false, false, false, false, false, false, false, false, false, false, false, false, false, false, false, false, false, false, false, false, false, false, false, false, false, false, false, false, false, false, false, false, false, false, false, false, false, false, false, false, false, false, false, false, false, false, false, false, false, false, false, false, false, false, false, false, false, false, false, false, false, false, false, false, false, false, false, false, false, false, false, false, false, false, false, false, false, false, false, false, false, false, false, false, false, false, false, false, false, false, false, false, false, false, false, false, false, false, false, false, false, false, false, false, false, false, false, false, false, false, false, false, false, false, false, false, false, false, false, false, false, false, false, false, false, false, false, false, false, false, false, false, false, false, false, false, false, false, false, false, false, false, false, false, false, false, false, false, false, false, false, false, false, false, false, false, false, false, false, false, false, true, true, true, true, true, true, true, true, true, true, true, true, true, true, true, true, true, true, true, true, true, true, true, true, true, false, false, false, false, false, false, false, false] [204, 205, 206, 207, 208, 209, 210, 211, 212, 213, 214, 215, 216, 217, 218, 219, 220, 221, 222, 223, 224, 225, 226, 227, 228] [.val (.slice (some ⟨O, 0, none⟩) lc1.length oc), .val (.int .i64 k), .val (.pointer (some ⟨O, k * 7, none⟩)), .val (.pointer (some ⟨O, k * 7 + 1, none⟩)), .val (.int .i64 k), .val (.int .i64 k), .val (.bool false), .val (.bool false), .val (.slice (some ⟨O, 0, none⟩) lc1.length oc), .val (.int .i64 k), .val (.pointer (some ⟨O, k * 7, none⟩)), .val (.pointer (some ⟨O, k * 7 + 3, none⟩)), .val (.agg #[.int .u8 ck, .int .i64 ctb, .slice pA cbf.length pc, .slice pA2 caf.length pc2]), .new (fun g => .slice (some ⟨g, 0, none⟩) 1 1) #[.int .u8 ck, .int .i64 ctb, .slice pA cbf.length pc, .slice pA2 caf.length pc2] 57, .val (.slice (some ⟨b, off, none⟩) ls.length lc), .val (.int .i64 d), .val (.pointer (some ⟨b, off + d, none⟩)), .val (.slice (some ⟨b2, off2, none⟩) lc1.length c1), .val (.int .i64 k), .val (.int .i64 k), .val (.int .i64 ((k : Int) + 1)), .val (.slice (some ⟨b2, off2 + k * 4, none⟩) 1 (c1 - k)), .val (.bool true), .val (.bool false), .val (.bool false)] [24] (by kernel_rfl) (by kernel_rfl) (by kernel_rfl) (by kernel_rfl) (by kernel_rfl) ⟨?_, ?_, ?_, ?_, ?_, ?_, ?_, ?_, ?_, ?_, ?_, ?_, ?_, ?_, ?_, ?_, ?_, ?_, ?_, ?_, ?_, ?_, ?_, ?_, ?_, trivial⟩ ?done
                                case done =>
                                  intro x w5 hb5
                                  simp only [StepGoal, overlay, upd, cond_true, cond_false, List.getD_cons_zero, List.getD_cons_succ, Nat.zero_add, Nat.reduceAdd, Nat.reduceEqDiff, reduceIte]
                                  have hD5 := Lib.hid (bt HBZ.out hb5)
                                  clear hb5
                                  go_wp2_with fail
                                  go_roundw
                                  case rel => exact ⟨k + 1, by omega, by go_num, hD5⟩
                                  case measure => simp [intOf]; omega
                                all_goals
                                  intro x w5 hb5
                                  obtain ⟨⟨r1, r3, r4, r5, r6⟩, lO, e12, l12⟩ := HCELL.out
                                  have r1 := (hb5.cell (p := ⟨O, k * 7 + 1, none⟩) lO).trans r1
                                  have r3 := (hb5.cell (p := ⟨O, k * 7 + 3, none⟩) lO).trans r3
                                  have r4 := (hb5.cell (p := ⟨O, k * 7 + 4, none⟩) lO).trans r4
                                  have r5 := (hb5.cell (p := ⟨O, k * 7 + 5, none⟩) lO).trans r5
                                  have r6 := (hb5.cell (p := ⟨O, k * 7 + 6, none⟩) lO).trans r6
                                  have e12 := (hb5.cell (p := ⟨b, off + d, none⟩) l12).trans e12
                                  have lO5 := Nat.lt_of_lt_of_le lO hb5.size
                                  have l125 := Nat.lt_of_lt_of_le l12 hb5.size
                                  first
                                    | (intro K hK
                                       rw [if_pos (by rfl)]; simp only [overlay, upd, cond_true, cond_false, List.getD_cons_zero, List.getD_cons_succ, Nat.reduceEqDiff, reduceIte]
                                       go_simp
                                       first
                                         | exact hK.out _ _ (Below.refl _ _) rfl
                                         | exact hK.out _ _ (by repeat (first | exact Below.refl _ _ | assumption | refine Below.drew ?_ | refine below_drewN ?_ _ | refine Below.alloc ?_ (by simp <;> omega) _)) ⟨_, rfl, Blk.new _ _ _⟩)
                                    | (intro bq hq K hK
                                       rw [if_pos (by rfl)]; simp only [overlay, upd, cond_true, cond_false, List.getD_cons_zero, List.getD_cons_succ, Nat.reduceEqDiff, reduceIte]
                                       go_simp
                                       with_reducible refine (HSM.out _ _ hb5 hq).mono ?_
                                       rintro r wa ⟨rfl, hba⟩
                                       go_wp2_with fail
                                       exact hK.out _ _ hba rfl)
                              · have hke : k = lc1.length := by omega
                                subst hke
                                have HL15 := Lib.hid (HL14.out.ext HBZ.out)
                                have HT15 := Lib.hid (HT14.out.ext HBZ.out)
                                have HBL15 := Lib.hid (bt HBL14.out HBZ.out)
                                clear HBZ HL14 HT14 HBL14
                                go_wp2_with fail
                                go_roundw
                                case rel => exact ⟨s1.drop, step + 1, by show Value.int .i64 _ = Value.int .i64 ((s1.done + 1 : Nat) : Int); rw [HD1.out]; go_num, by go_num, HNX1, HL15, HBL15, HT15⟩
                                case measure => simp [intOf]; omega
                      · have hde : d = ls.length := by omega
                        subst hde
                        go_wp2_with fail
                        refine (HL.out.len HP.out).mono ?_
                        rintro r w10 ⟨m, hm, hmz, rfl, rfl⟩
                        have hm0 := hmz HD.out
                        subst hm0
                        go_wp2_with fail
                        refine (HAL.out _ HCW.out).mono ?_
                        rintro r w99 ⟨rfl, hb99⟩
                        have hbw := bt HCW.out hb99
                        go_wp2_with fail
                        go_ret
                        exact ⟨rfl, hbw⟩
              · have hqf : schB ts = false := by simpa using hq
                rw [hqf]
                clear hq hqf
                go_wp2_with fail
                refine (HAL.out _ hC5.out).mono ?_
                rintro r w99 ⟨rfl, hb99⟩
                have hbw := bt hC5.out hb99
                go_wp2_with fail
                go_ret
                exact ⟨rfl, hbw⟩
end Go.Proofs.YtkfhfegogmlchaaDoor
