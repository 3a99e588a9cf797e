/- Several texts in one: see each part's head. -/
import Derived.Test.YtkfhfegogmlchaaDoorJ12
/- event.Get's contract, with the room of a nil row told too (it has none). -/
namespace Go.Proofs.YtkfhfegogmlchaaDoor
open Go.RowKit

theorem RowS.ok.z {p : RowS} {w : World} (h : p.ok w) : p.A = none → p.c = 0 := by
  obtain ⟨_, _, base, h3⟩ := h
  intro e
  rcases h3.2 with ⟨h4, _⟩ | ⟨g, cap, cur, h4, _⟩
  · unfold RowS.val at h4
    simp only [Value.slice.injEq] at h4
    exact h4.2.2
  · unfold RowS.val at h4
    rw [e] at h4
    simp at h4
def GetPostZ (w : World) (R : Option Ev) (e : Ending) (w' : World) : Prop :=
  Below w.heap.size w w' ∧ match R with
  | none => e = .returned (.tuple #[.agg (evCells ⟨0, 0, 0, 0, 0, [], []⟩ (.slice none 0 0) (.slice none 0 0)), .int .i64 7])
  | some v => ∃ A c B d, e = .returned (.tuple #[.agg (evCells v (.slice A v.bf.length c) (.slice B v.af.length d)), .int .i64 0]) ∧ VRow w' A v.bf ∧ VRow w' B v.af ∧ (A = none → c = 0) ∧ (B = none → d = 0)
set_option maxRecDepth 100000 in
set_option maxHeartbeats 40000000 in
theorem evgetz_long (s : ByteArray) (w : World) (h : 14 ≤ s.size) (hs : s.size ≤ 140737488355328) (hT : Tabs w) :
    Calls Tryd.prog 30 #[.string s] w (GetPostZ w (evGet s.data.toList)) := by
  generalize hG : evGet s.data.toList = G
  have HG := Lib.hid hG
  have HT := Lib.hid hT
  have z8 : (s.extract 0 8).size = 8 := by simp [ByteArray.size_extract]; omega
  have z2 : (s.extract 8 10).size = 2 := by simp [ByteArray.size_extract]; omega
  have z2' : (s.extract 10 12).size = 2 := by simp [ByteArray.size_extract]; omega
  have H8 := Lib.hid (evget8 (s.extract 0 8) z8)
  have H2 := Lib.hid (evget2 (s.extract 8 10) z2)
  have H2' := Lib.hid (evget2 (s.extract 10 12) z2')
  rw [slice_at s 0 8] at H8
  rw [slice_at s 8 10] at H2
  rw [slice_at s 10 12] at H2'
  clear hG hT z8 z2 z2'
  obtain ⟨tx, htx⟩ : ∃ q : Int, q = (valL (List.take (8 - 0) (List.drop 0 s.data.toList)) : Nat) := ⟨_, rfl⟩
  obtain ⟨tot, htot⟩ : ∃ q : Int, q = (valL (List.take (10 - 8) (List.drop 8 s.data.toList)) : Nat) := ⟨_, rfl⟩
  obtain ⟨nth, hnth⟩ : ∃ q : Int, q = (valL (List.take (12 - 10) (List.drop 10 s.data.toList)) : Nat) := ⟨_, rfl⟩
  rw [← htx] at H8
  rw [← htot] at H2
  rw [← hnth] at H2'
  have HTX := Lib.hid htx
  have HTOT := Lib.hid htot
  have HNTH := Lib.hid hnth
  clear htx htot hnth
  obtain ⟨tb, htb⟩ : ∃ q : Int, q = ((s.data.toList.getD 12 0).toNat : Int) := ⟨_, rfl⟩
  obtain ⟨kd, hkd⟩ : ∃ q : Int, q = ((s.data.toList.getD 13 0).toNat : Int) := ⟨_, rfl⟩
  have HTB := Lib.hid htb
  have HKD := Lib.hid hkd
  have hbt : 0 ≤ tb ∧ tb ≤ 255 := by have := (s.data.toList.getD 12 0).toNat_lt; omega
  have hbk : 0 ≤ kd ∧ kd ≤ 255 := by have := (s.data.toList.getD 13 0).toNat_lt; omega
  have e12 : ∀ hh, ((s[12]'hh).toNat : Int) = tb := fun hh => by rw [htb, byte_at s 12 hh]
  have e13 : ∀ hh, ((s[13]'hh).toNat : Int) = kd := fun hh => by rw [hkd, byte_at s 13 hh]
  have i8 : (8 : Int) ≤ s.size := by omega
  have i10 : (10 : Int) ≤ s.size := by omega
  have i12 : (12 : Int) ≤ s.size := by omega
  have j12 : (12 : Int) < s.size := by omega
  have j13 : (13 : Int) < s.size := by omega
  have wt : IntKind.i64.wrap tb = tb := by rw [IntKind.wrap_i64]; omega
  clear htb hkd
  go_enter Tryd.func30, Tryd.ntmps30
  go_upto_region 3 with fail
  go_cut [4] (fun s4 wx => ∃ b, s4 = .pointer (some ⟨b, 0, none⟩) ∧ Blk wx w.heap.size #[.int .u64 0, .int .i64 0, .int .i64 0, .int .u8 0, .int .i64 0, .slice none 0 0, .slice none 0 0] 59 ∧
    Blk wx b #[.int .u64 tx, .int .i64 tot, .int .i64 nth, .int .u8 kd, .int .i64 tb, .slice none 0 0, .slice none 0 0] 59 ∧ w.heap.size + 1 ≤ b ∧ Below w.heap.size w wx)
  case first =>
    refine region_last 17 _ [false, false, false, false, true, false, false, false, false, false, false, false, false, false, false, false, true, true, true, true, true, true, true, true, true, true, true, true, true, true, true, true] [16, 17, 18, 19, 20, 21, 22, 23, 24, 25, 26, 27, 28, 29, 30, 31, 4] [.val (.string s), .val (.string (s.extract 0 8)), .val (.int .u64 tx), .val (.string s), .val (.string (s.extract 8 10)), .val (.int .i64 tot), .val (.string s), .val (.string (s.extract 10 12)), .val (.int .i64 nth), .val (.string s), .val (.int .u8 tb), .val (.int .i64 tb), .val (.string s), .val (.int .u8 kd), .val (.agg #[.int .u8 kd, .int .i64 tb, .slice none 0 0, .slice none 0 0]), .val (.agg #[.int .u64 tx, .int .i64 tot, .int .i64 nth, .int .u8 kd, .int .i64 tb, .slice none 0 0, .slice none 0 0]), .mem (fun v w2 => ∃ b, v = .pointer (some ⟨b, 0, none⟩) ∧ Blk w2 b #[.int .u64 0, .int .i64 0, .int .i64 0, .int .u8 0, .int .i64 0, .slice none 0 0, .slice none 0 0] 59 ∧ w.heap.size + 1 ≤ b) (fun v w2 w3 ⟨b, h1, h2, h3⟩ hb => ⟨b, h1, h2.ext hb, h3⟩)] [15, 16] (by kernel_rfl) (by kernel_rfl) rfl (by kernel_rfl) (by kernel_rfl) (by kernel_rfl) (by kernel_rfl) (by kernel_rfl) ⟨?_, ?_, ?_, ?_, ?_, ?_, ?_, ?_, ?_, ?_, ?_, ?_, ?_, ?_, ?_, ?_, ?_, trivial⟩ ?done
    case done =>
      intro x w2 hb2
      simp only [StepGoal, List.getD_cons_zero, List.getD_cons_succ]
      rintro v ⟨b, rfl, hb, hbb⟩ K hK
      have hZ := (Blk.new w #[.int .u64 0, .int .i64 0, .int .i64 0, .int .u8 0, .int .i64 0, .slice none 0 0, .slice none 0 0] 59).ext hb2
      have hBw : Below w.heap.size w w2 := bt (by repeat (first | exact Below.refl _ _ | assumption | refine Below.drew ?_ | refine below_drewN ?_ _ | refine Below.alloc ?_ (by simp <;> omega) _)) hb2
      clear hb2
      obtain ⟨w3, rfl, lt⟩ := blk_put hb
      obtain ⟨pc, pf, pS⟩ := putBlk_facts (w := w3) 59 lt
      rw [if_pos (by rfl)]; simp only [overlay, upd, cond_true, cond_false, Nat.reduceEqDiff, reduceIte]
      go_simp
      refine hK.out _ _ ?_
      go_wp2_with fail
      go_meet
      exact ⟨b, rfl, putBlk_old hZ (by omega) _, putBlk_blk _ _ lt, hbb, putBlk_belows hBw (by omega) _⟩
    all_goals
      intro x w2 hb2
      intro K hK
      rw [if_pos (by rfl)]; simp only [overlay, upd, cond_true, cond_false, List.getD_cons_zero, List.getD_cons_succ, Nat.reduceEqDiff, reduceIte]
      go_simp
      first
        | exact hK.out _ _ (Below.refl _ _) rfl
        | exact hK.out _ _ (by repeat (first | exact Below.refl _ _ | assumption | refine Below.drew ?_ | refine below_drewN ?_ _ | refine Below.alloc ?_ (by simp <;> omega) _)) ⟨_, rfl, Blk.new _ _ _, by have := hb2.size; simp at this; omega⟩
        | ((with_reducible refine (H8.out _).mono ?_); rintro e wa ⟨rfl, rfl⟩; go_wp2_with fail; exact hK.out _ _ (Below.refl _ _) rfl)
        | ((with_reducible refine (H2.out _).mono ?_); rintro e wa ⟨rfl, rfl⟩; go_wp2_with fail; exact hK.out _ _ (Below.refl _ _) rfl)
        | ((with_reducible refine (H2'.out _).mono ?_); rintro e wa ⟨rfl, rfl⟩; go_wp2_with fail; exact hK.out _ _ (Below.refl _ _) rfl)
  case rest =>
    obtain ⟨b, rfl, hZ, hE, hbb, hB1⟩ := hcut
    obtain ⟨i0, hi0, hz0, hz1, hz2⟩ := info_parts info_R
    obtain ⟨M, hM⟩ : ∃ M, M = getRows 2 (s.data.toList.drop 14) := ⟨_, rfl⟩
    have HM := Lib.hid hM
    have HHZ := Lib.hid hZ
    have HHE := Lib.hid hE
    have HRS := Lib.hid (fun (rb : ByteArray) (W : World) => getrow_any rb W)
    clear hM hZ hE H8 H2 H2' i8 i10 i12 j12 j13 e12 e13 wt
    go_wp2_with fail
    go_loopw [5, 6] (fun l r wr => ∃ (rs : List RowS) (rb : ByteArray), rs.length ≤ 2 ∧ r = .string rb ∧ rb.size ≤ s.size ∧ Hid (M = (getRows (2 - rs.length) rb.data.toList).map (fun t => rs.map (·.l) ++ t)) ∧ Hid (∀ p ∈ rs, p.ok wr) ∧ Hid (Blk wr w.heap.size #[.int .u64 0, .int .i64 0, .int .i64 0, .int .u8 0, .int .i64 0, .slice none 0 0, .slice none 0 0] 59) ∧ Hid (Blk wr b #[.int .u64 tx, .int .i64 tot, .int .i64 nth, .int .u8 kd, .int .i64 tb, .slice none 0 0, .slice none 0 0] 59) ∧ wr.ownsRow w.heap.size 55 1 l rs.length (rs.map (·.val)) ∧ Below w.heap.size w wr) (fun _ r _ => strLen r)
    case atStart => exact ⟨[], s.extract 14 s.size, by simp, rfl, by simp [ByteArray.size_extract], (by show _ = _; rw [HM.out, drop_str]; cases getRows 2 (s.data.toList.drop 14) <;> simp), (by intro p hp; cases hp), HHZ, HHE, World.ownsRow_nil _ _ _ _, hB1⟩
    case round =>
      obtain ⟨rs, rb, hrs, rfl, hrb, HMM, HOK, HZ, HE, hown, hbw⟩ := hrel
      obtain ⟨LA, lc, rfl⟩ := own_form hown
      by_cases he : rb.size = 0
      · obtain rfl : rb = ByteArray.empty := by
          apply ByteArray.ext; apply Array.eq_empty_of_size_eq_zero; exact he
        have hMs : Hid (M = some (rs.map (·.l))) := by
          show _ = _
          rw [HMM.out]
          show Option.map _ (getRows _ []) = _
          cases (2 - rs.length) <;> simp [getRows]
        obtain ⟨y0, y1, y2, y3, y4, y5, y6⟩ := blk7 HE.out
        clear hrb he HMM
        have hGG : Hid (G = match fillE ⟨tx, tot, nth, kd, tb, [], []⟩ (rs.map (·.l)) with | none => none | some e => if evB e then some e else none) := by
          show _ = _
          rw [← HG.out, evget_fill (by simpa using h) (HM.out.symm.trans hMs.out)]
          unfold evHead
          rw [HTX.out, HTOT.out, HNTH.out, HTB.out, HKD.out]
          rfl
        clear hMs
        by_cases hk1 : kd = 1 ∨ kd = 4
        · have HR := Lib.hid (rows_ins ⟨tx, tot, nth, kd, tb, [], []⟩ none none 0 0 0 0 wr hk1)
          simp only [evCells] at HR
          have hkk : ((kd == 1) = true) ∨ ((kd == 1) = false ∧ (kd == 4) = true) := by rcases hk1 with rfl | rfl <;> decide
          rcases rs with _ | ⟨p, _ | ⟨q, _ | ⟨_, _⟩⟩⟩
          · have hGn : Hid (G = none) := by show _ = _; rw [hGG.out]; unfold fillE; rw [if_pos hk1]; rfl
            clear hGG hown; go_wp2_with fail; refine HR.out.mono ?_; rintro r w2 ⟨b1, b2, rfl, hq1, hq2, hb2⟩; have hbw2 := bt hbw hb2; have hZ2 := HZ.out.ext hb2; clear hq1 hq2 hb2 y0 y1 y2 y3 y4 y5 y6; obtain ⟨w3, rfl, lt⟩ := blk_put hZ2; obtain ⟨pc, pf, pS⟩ := putBlk_facts (w := w3) 59 lt; clear hZ2; go_wp2_with fail; refine bodyPost_ret (v := .tuple #[.agg (evCells ⟨0, 0, 0, 0, 0, [], []⟩ (.slice none 0 0) (.slice none 0 0)), .int .i64 7]) (by simp [results, Tryd.results30, go_sem, evCells, pc]) rfl ?_; rw [hGn.out]; exact ⟨hbw2, rfl⟩
          · have hGs : Hid (G = if evB ⟨tx, tot, nth, kd, tb, [], p.l⟩ then some ⟨tx, tot, nth, kd, tb, [], p.l⟩ else none) := by show _ = _; rw [hGG.out]; unfold fillE; rw [if_pos hk1]; rfl
            have Hp := Lib.hid (HOK.out p (by simp))
            clear hGG HOK
            go_wp2_with fail
            refine HR.out.mono ?_
            rintro r w2 ⟨b1, b2, rfl, hq1, hq2, hb2⟩; clear hq1 hq2
            have hbw2 := bt hbw hb2
            have Hp2 := Lib.hid (Hp.out.below hb2)
            have HZ2 := Lib.hid (HZ.out.ext hb2)
            have hE2 := HE.out.ext hb2
            obtain ⟨g, rfl, cg, _⟩ := own_first (own_below hown hb2)
            clear hb2 y0 y1 y2 y3 y4 y5 y6 hown hbw HZ HE Hp
            obtain ⟨w3, rfl, lt⟩ := blk_put hE2
            obtain ⟨pc, pf, pS⟩ := putBlk_facts (w := w3) 59 lt
            clear hE2
            unfold RowS.val at cg
            have HC := Lib.hid (evcheck_any ⟨tx, tot, nth, kd, tb, [], p.l⟩ none p.A 0 p.c (putBlk w3 b #[.int .u64 tx, .int .i64 tot, .int .i64 nth, .int .u8 kd, .int .i64 tb, .slice none 0 0, .slice p.A p.l.length p.c] 59) (HT.out.ext (putBlk_belows hbw2 (by omega) _)) (VRow.nil _ _) (Hp2.out.put lt (by decide) _).vrow)
            simp only [evCells, List.length_nil] at HC
            have HB5 := Lib.hid (putBlk_belows hbw2 (by omega) #[.int .u64 tx, .int .i64 tot, .int .i64 nth, .int .u8 kd, .int .i64 tb, .slice none 0 0, .slice p.A p.l.length p.c])
            have HZ5 := Lib.hid (putBlk_old HZ2.out (by omega) #[.int .u64 tx, .int .i64 tot, .int .i64 nth, .int .u8 kd, .int .i64 tb, .slice none 0 0, .slice p.A p.l.length p.c])
            have Hp5 := Lib.hid (Hp2.out.put lt (by decide) #[.int .u64 tx, .int .i64 tot, .int .i64 nth, .int .u8 kd, .int .i64 tb, .slice none 0 0, .slice p.A p.l.length p.c])
            have HE5 := Lib.hid (putBlk_blk #[.int .u64 tx, .int .i64 tot, .int .i64 nth, .int .u8 kd, .int .i64 tb, .slice none 0 0, .slice p.A p.l.length p.c] 59 lt)
            clear hbw2 HZ2 Hp2
            cases heb : evB ⟨tx, tot, nth, kd, tb, [], p.l⟩
            · rw [heb] at HC hGs
              rw [okE_f] at HC
              clear heb
              rcases hkk with n1 | ⟨n1, n4⟩
              all_goals
                go_wp2_with fail
                refine HC.out.mono ?_
                rintro r w5 ⟨rfl, hb5⟩
                have hbw2 := bt HB5.out hb5
                have hZ6 := HZ5.out.ext hb5
                clear hb5 pc pf pS lt cg HC
                obtain ⟨w6, rfl, lt⟩ := blk_put hZ6
                obtain ⟨pc, pf, pS⟩ := putBlk_facts (w := w6) 59 lt
                clear hZ6
                go_wp2_with fail
                have hGn : Hid (G = none) := hGs
                refine bodyPost_ret (v := .tuple #[.agg (evCells ⟨0, 0, 0, 0, 0, [], []⟩ (.slice none 0 0) (.slice none 0 0)), .int .i64 7]) (by simp [results, Tryd.results30, go_sem, evCells, pc]) rfl ?_; rw [hGn.out]; exact ⟨hbw2, rfl⟩
            · rw [heb] at HC hGs
              rw [okE_t] at HC
              clear heb
              rcases hkk with n1 | ⟨n1, n4⟩
              all_goals
                go_wp2_with fail
                refine HC.out.mono ?_
                rintro r w5 ⟨rfl, hb5⟩
                have hbw2 := bt HB5.out hb5
                have hZ6 := HZ5.out.ext hb5
                have hy := HE5.out.ext hb5
                have Hp6 := Lib.hid (Hp5.out.below hb5)
                clear hb5 pc pf pS lt cg HC
                obtain ⟨w6, rfl, lt⟩ := blk_put hZ6
                obtain ⟨pc, pf, pS⟩ := putBlk_facts (w := w6) 59 lt
                obtain ⟨y0, y1, y2, y3, y4, y5, y6⟩ := blk7 hy
                clear hZ6 hy
                go_wp2_with fail
                refine bodyPost_ret (v := .tuple #[.agg (evCells ⟨tx, tot, nth, kd, tb, [], p.l⟩ (.slice none 0 0) (.slice p.A p.l.length p.c)), .int .i64 0]) (by simp [results, Tryd.results30, go_sem, evCells, pc]) rfl ?_
                rw [show G = some _ from hGs]
                exact ⟨putBlk_belows hbw2 (by omega) _, none, 0, p.A, p.c, rfl, VRow.nil _ _, (Hp6.out.put lt (by decide) _).vrow, fun _ => rfl, Hp6.out.z⟩
          · have hGn : Hid (G = none) := by show _ = _; rw [hGG.out]; unfold fillE; rw [if_pos hk1]; rfl
            clear hGG hown; go_wp2_with fail; refine HR.out.mono ?_; rintro r w2 ⟨b1, b2, rfl, hq1, hq2, hb2⟩; have hbw2 := bt hbw hb2; have hZ2 := HZ.out.ext hb2; clear hq1 hq2 hb2 y0 y1 y2 y3 y4 y5 y6; obtain ⟨w3, rfl, lt⟩ := blk_put hZ2; obtain ⟨pc, pf, pS⟩ := putBlk_facts (w := w3) 59 lt; clear hZ2; go_wp2_with fail; refine bodyPost_ret (v := .tuple #[.agg (evCells ⟨0, 0, 0, 0, 0, [], []⟩ (.slice none 0 0) (.slice none 0 0)), .int .i64 7]) (by simp [results, Tryd.results30, go_sem, evCells, pc]) rfl ?_; rw [hGn.out]; exact ⟨hbw2, rfl⟩
          · simp at hrs
        · by_cases hk3 : kd = 3
          · have HR := Lib.hid (rows_del ⟨tx, tot, nth, kd, tb, [], []⟩ none none 0 0 0 0 wr hk3)
            simp only [evCells] at HR
            have n1 : (kd == 1) = false := by rw [hk3]; decide
            have n4 : (kd == 4) = false := by rw [hk3]; decide
            have n3 : (kd == 3) = true := by rw [hk3]; decide
            have HK3 := Lib.hid hk3
            clear hk3
            rcases rs with _ | ⟨p, _ | ⟨q, _ | ⟨_, _⟩⟩⟩
            · have hGn : Hid (G = none) := by show _ = _; rw [hGG.out]; unfold fillE; rw [if_neg hk1, if_pos HK3.out]; rfl
              clear hGG hown; go_wp2_with fail; refine HR.out.mono ?_; rintro r w2 ⟨b1, b2, rfl, hq1, hq2, hb2⟩; have hbw2 := bt hbw hb2; have hZ2 := HZ.out.ext hb2; clear hq1 hq2 hb2 y0 y1 y2 y3 y4 y5 y6; obtain ⟨w3, rfl, lt⟩ := blk_put hZ2; obtain ⟨pc, pf, pS⟩ := putBlk_facts (w := w3) 59 lt; clear hZ2; go_wp2_with fail; refine bodyPost_ret (v := .tuple #[.agg (evCells ⟨0, 0, 0, 0, 0, [], []⟩ (.slice none 0 0) (.slice none 0 0)), .int .i64 7]) (by simp [results, Tryd.results30, go_sem, evCells, pc]) rfl ?_; rw [hGn.out]; exact ⟨hbw2, rfl⟩
            · have hGs : Hid (G = if evB ⟨tx, tot, nth, kd, tb, p.l, []⟩ then some ⟨tx, tot, nth, kd, tb, p.l, []⟩ else none) := by show _ = _; rw [hGG.out]; unfold fillE; rw [if_neg hk1, if_pos HK3.out]; rfl
              have Hp := Lib.hid (HOK.out p (by simp))
              clear hGG HOK
              go_wp2_with fail
              refine HR.out.mono ?_
              rintro r w2 ⟨b1, b2, rfl, hq1, hq2, hb2⟩; clear hq1 hq2
              have hbw2 := bt hbw hb2
              have Hp2 := Lib.hid (Hp.out.below hb2)
              have HZ2 := Lib.hid (HZ.out.ext hb2)
              have hE2 := HE.out.ext hb2
              obtain ⟨g, rfl, cg, _⟩ := own_first (own_below hown hb2)
              clear hb2 y0 y1 y2 y3 y4 y5 y6 hown hbw HZ HE Hp
              obtain ⟨w3, rfl, lt⟩ := blk_put hE2
              obtain ⟨pc, pf, pS⟩ := putBlk_facts (w := w3) 59 lt
              clear hE2
              unfold RowS.val at cg
              have HC := Lib.hid (evcheck_any ⟨tx, tot, nth, kd, tb, p.l, []⟩ p.A none p.c 0 (putBlk w3 b #[.int .u64 tx, .int .i64 tot, .int .i64 nth, .int .u8 kd, .int .i64 tb, .slice p.A p.l.length p.c, .slice none 0 0] 59) (HT.out.ext (putBlk_belows hbw2 (by omega) _)) (Hp2.out.put lt (by decide) _).vrow (VRow.nil _ _))
              simp only [evCells, List.length_nil] at HC
              have HB5 := Lib.hid (putBlk_belows hbw2 (by omega) #[.int .u64 tx, .int .i64 tot, .int .i64 nth, .int .u8 kd, .int .i64 tb, .slice p.A p.l.length p.c, .slice none 0 0])
              have HZ5 := Lib.hid (putBlk_old HZ2.out (by omega) #[.int .u64 tx, .int .i64 tot, .int .i64 nth, .int .u8 kd, .int .i64 tb, .slice p.A p.l.length p.c, .slice none 0 0])
              have Hp5 := Lib.hid (Hp2.out.put lt (by decide) #[.int .u64 tx, .int .i64 tot, .int .i64 nth, .int .u8 kd, .int .i64 tb, .slice p.A p.l.length p.c, .slice none 0 0])
              have HE5 := Lib.hid (putBlk_blk #[.int .u64 tx, .int .i64 tot, .int .i64 nth, .int .u8 kd, .int .i64 tb, .slice p.A p.l.length p.c, .slice none 0 0] 59 lt)
              clear hbw2 HZ2 Hp2
              cases heb : evB ⟨tx, tot, nth, kd, tb, p.l, []⟩
              · rw [heb] at HC hGs
                rw [okE_f] at HC
                clear heb
                iterate 1
                  go_wp2_with fail
                  refine HC.out.mono ?_
                  rintro r w5 ⟨rfl, hb5⟩
                  have hbw2 := bt HB5.out hb5
                  have hZ6 := HZ5.out.ext hb5
                  clear hb5 pc pf pS lt cg HC
                  obtain ⟨w6, rfl, lt⟩ := blk_put hZ6
                  obtain ⟨pc, pf, pS⟩ := putBlk_facts (w := w6) 59 lt
                  clear hZ6
                  go_wp2_with fail
                  have hGn : Hid (G = none) := hGs
                  refine bodyPost_ret (v := .tuple #[.agg (evCells ⟨0, 0, 0, 0, 0, [], []⟩ (.slice none 0 0) (.slice none 0 0)), .int .i64 7]) (by simp [results, Tryd.results30, go_sem, evCells, pc]) rfl ?_; rw [hGn.out]; exact ⟨hbw2, rfl⟩
              · rw [heb] at HC hGs
                rw [okE_t] at HC
                clear heb
                iterate 1
                  go_wp2_with fail
                  refine HC.out.mono ?_
                  rintro r w5 ⟨rfl, hb5⟩
                  have hbw2 := bt HB5.out hb5
                  have hZ6 := HZ5.out.ext hb5
                  have hy := HE5.out.ext hb5
                  have Hp6 := Lib.hid (Hp5.out.below hb5)
                  clear hb5 pc pf pS lt cg HC
                  obtain ⟨w6, rfl, lt⟩ := blk_put hZ6
                  obtain ⟨pc, pf, pS⟩ := putBlk_facts (w := w6) 59 lt
                  obtain ⟨y0, y1, y2, y3, y4, y5, y6⟩ := blk7 hy
                  clear hZ6 hy
                  go_wp2_with fail
                  refine bodyPost_ret (v := .tuple #[.agg (evCells ⟨tx, tot, nth, kd, tb, p.l, []⟩ (.slice p.A p.l.length p.c) (.slice none 0 0)), .int .i64 0]) (by simp [results, Tryd.results30, go_sem, evCells, pc]) rfl ?_
                  rw [show G = some _ from hGs]
                  exact ⟨putBlk_belows hbw2 (by omega) _, p.A, p.c, none, 0, rfl, (Hp6.out.put lt (by decide) _).vrow, VRow.nil _ _, Hp6.out.z, fun _ => rfl⟩
            · have hGn : Hid (G = none) := by show _ = _; rw [hGG.out]; unfold fillE; rw [if_neg hk1, if_pos HK3.out]; rfl
              clear hGG hown; go_wp2_with fail; refine HR.out.mono ?_; rintro r w2 ⟨b1, b2, rfl, hq1, hq2, hb2⟩; have hbw2 := bt hbw hb2; have hZ2 := HZ.out.ext hb2; clear hq1 hq2 hb2 y0 y1 y2 y3 y4 y5 y6; obtain ⟨w3, rfl, lt⟩ := blk_put hZ2; obtain ⟨pc, pf, pS⟩ := putBlk_facts (w := w3) 59 lt; clear hZ2; go_wp2_with fail; refine bodyPost_ret (v := .tuple #[.agg (evCells ⟨0, 0, 0, 0, 0, [], []⟩ (.slice none 0 0) (.slice none 0 0)), .int .i64 7]) (by simp [results, Tryd.results30, go_sem, evCells, pc]) rfl ?_; rw [hGn.out]; exact ⟨hbw2, rfl⟩
            · simp at hrs
          · have HR := Lib.hid (rows_upd ⟨tx, tot, nth, kd, tb, [], []⟩ none none 0 0 0 0 wr hk1 hk3)
            simp only [evCells] at HR
            have n1 : (kd == 1) = false := by rw [beq_eq_false_iff_ne]; omega
            have n3 : (kd == 3) = false := by rw [beq_eq_false_iff_ne]; omega
            have n4 : (kd == 4) = false := by rw [beq_eq_false_iff_ne]; omega
            rcases rs with _ | ⟨p, _ | ⟨q, _ | ⟨_, _⟩⟩⟩
            · have hGn : Hid (G = none) := by show _ = _; rw [hGG.out]; unfold fillE; rw [if_neg hk1, if_neg hk3]; rfl
              clear hGG hown; go_wp2_with fail; refine HR.out.mono ?_; rintro r w2 ⟨b1, rfl, hq1, hb2⟩; have hbw2 := bt hbw hb2; have hZ2 := HZ.out.ext hb2; clear hq1 hb2 y0 y1 y2 y3 y4 y5 y6; obtain ⟨w3, rfl, lt⟩ := blk_put hZ2; obtain ⟨pc, pf, pS⟩ := putBlk_facts (w := w3) 59 lt; clear hZ2; go_wp2_with fail; refine bodyPost_ret (v := .tuple #[.agg (evCells ⟨0, 0, 0, 0, 0, [], []⟩ (.slice none 0 0) (.slice none 0 0)), .int .i64 7]) (by simp [results, Tryd.results30, go_sem, evCells, pc]) rfl ?_; rw [hGn.out]; exact ⟨hbw2, rfl⟩
            · have hGn : Hid (G = none) := by show _ = _; rw [hGG.out]; unfold fillE; rw [if_neg hk1, if_neg hk3]; rfl
              clear hGG hown; go_wp2_with fail; refine HR.out.mono ?_; rintro r w2 ⟨b1, rfl, hq1, hb2⟩; have hbw2 := bt hbw hb2; have hZ2 := HZ.out.ext hb2; clear hq1 hb2 y0 y1 y2 y3 y4 y5 y6; obtain ⟨w3, rfl, lt⟩ := blk_put hZ2; obtain ⟨pc, pf, pS⟩ := putBlk_facts (w := w3) 59 lt; clear hZ2; go_wp2_with fail; refine bodyPost_ret (v := .tuple #[.agg (evCells ⟨0, 0, 0, 0, 0, [], []⟩ (.slice none 0 0) (.slice none 0 0)), .int .i64 7]) (by simp [results, Tryd.results30, go_sem, evCells, pc]) rfl ?_; rw [hGn.out]; exact ⟨hbw2, rfl⟩
            · have hGs : Hid (G = if evB ⟨tx, tot, nth, kd, tb, p.l, q.l⟩ then some ⟨tx, tot, nth, kd, tb, p.l, q.l⟩ else none) := by show _ = _; rw [hGG.out]; unfold fillE; rw [if_neg hk1, if_neg hk3]; rfl
              have Hp := Lib.hid (HOK.out p (by simp))
              have Hq := Lib.hid (HOK.out q (by simp))
              clear hGG HOK
              go_wp2_with fail
              refine HR.out.mono ?_
              rintro r w2 ⟨b1, rfl, hq1, hb2⟩; clear hq1
              have hbw2 := bt hbw hb2
              have Hp2 := Lib.hid (Hp.out.below hb2)
              have Hq2 := Lib.hid (Hq.out.below hb2)
              have HZ2 := Lib.hid (HZ.out.ext hb2)
              have HE2 := Lib.hid (HE.out.ext hb2)
              have HOW := Lib.hid (own_below hown hb2)
              obtain ⟨g, rfl, cg, cq⟩ := own_first (own_below hown hb2)
              have cg1 := cq _ _ rfl
              have glt := cell_lt cg
              obtain ⟨y0, y1, y2, y3, y4, y5, y6⟩ := blk7 HE2.out
              clear cq
              clear hb2 hown hbw HZ HE Hp Hq
              unfold RowS.val at cg cg1
              have hgb : g ≠ b := own_blk_far HOW.out HE2.out (by decide)
              clear HOW
              go_wp2_with fail
              clear y0 y1 y2 y3 y4 y5 y6
              have HCG := Lib.hid cg
              have HCG1 := Lib.hid cg1
              clear cg cg1
              refine region_app 11 8 _ [false, false, false, false, false, false, false, false, false, false, false, false, false, false, false, false, false, false, false, false, false, false, false, false, false, false, false, false, false, false, false, false, false, false, false, false, false, false, false, false, false, false, false, false, false, false, false, false, false, false, false, false, false, false, false, false, false, false, false, false, false, false, false, false, false, false, false, false, false, false, false, true, true, true, true, true, true, true, true, true, true, false, false, false, false, false, false, false, false, false, false, false, false, false, false, false, false, false, false, false, false] [71, 72, 73, 74, 75, 76, 77, 78, 0, 79, 80] [.val (.slice (some ⟨g, 0, none⟩) 2 lc), .val (.pointer (some ⟨g, 0, none⟩)), .val (.slice p.A p.l.length p.c), .val (.slice (some ⟨g, 0, none⟩) 2 lc), .val (.pointer (some ⟨g, 1, none⟩)), .val (.slice q.A q.l.length q.c), .val (.pointer (some ⟨b, 3, none⟩)), .val (.pointer (some ⟨b, 5, none⟩)), kAny, .val (.pointer (some ⟨b, 3, none⟩)), .val (.pointer (some ⟨b, 6, none⟩))] [3, 4, 5, 9, 10] (fun W => W.cell? ⟨g, 1, none⟩ = some (.slice q.A q.l.length q.c)) (fun _ W => W.cell? ⟨g, 1, none⟩ = some (.slice q.A q.l.length q.c) ∧ Blk W w.heap.size #[.int .u64 0, .int .i64 0, .int .i64 0, .int .u8 0, .int .i64 0, .slice none 0 0, .slice none 0 0] 59 ∧ Blk W b #[.int .u64 tx, .int .i64 tot, .int .i64 nth, .int .u8 kd, .int .i64 tb, .slice p.A p.l.length p.c, .slice none 0 0] 59 ∧ p.ok W ∧ q.ok W ∧ Below w.heap.size w W) [2, 7] [5, 10] (fun W hW => (hW.cell (p := ⟨g, 1, none⟩) glt).trans HCG1.out) (fun _ _ h => h.1) (by kernel_rfl) (by kernel_rfl) rfl (by decide) (by kernel_rfl) (by kernel_rfl) (by kernel_rfl) (by kernel_rfl) rfl (by kernel_rfl) (by kernel_rfl) (by kernel_rfl) (by kernel_rfl) (by kernel_rfl) ⟨?_, ?_, ?_, ?_, ?_, ?_, ?_, ?_, ?sto, ?_, ?_, trivial⟩ ?done3
              case sto =>
                intro x W hW
                simp only [StepGoal, List.getD_cons_zero, List.getD_cons_succ]
                intro K hK
                have hEW := HE2.out.ext hW
                have c1 := (hW.cell (p := ⟨g, 1, none⟩) glt).trans HCG1.out
                have HZW := Lib.hid (HZ2.out.ext hW)
                have HpW := Lib.hid (Hp2.out.below hW)
                have HqW := Lib.hid (Hq2.out.below hW)
                have HbW := Lib.hid (bt hbw2 hW)
                clear hW
                obtain ⟨w3, rfl, lt⟩ := blk_put hEW
                obtain ⟨pc, pf, pS⟩ := putBlk_facts (w := w3) 59 lt
                have HC1 : Hid ((putBlk w3 b #[.int .u64 tx, .int .i64 tot, .int .i64 nth, .int .u8 kd, .int .i64 tb, .slice p.A p.l.length p.c, .slice none 0 0] 59).cell? ⟨g, 1, none⟩ = some (.slice q.A q.l.length q.c)) := (putBlk_cell_ne hgb _ _ _ _).trans c1
                clear hEW c1
                rw [if_pos (by rfl)]; simp only [overlay, upd, cond_true, cond_false, Nat.reduceEqDiff, reduceIte]
                go_simp
                exact hK.out undef _ ⟨HC1.out, putBlk_old HZW.out (by omega) _, putBlk_blk _ _ lt, HpW.out.put lt (by decide) _, HqW.out.put lt (by decide) _, putBlk_belows HbW.out (by omega) _⟩
              case done3 =>
                rintro x W v2 ⟨_, hZW, hEW, hpW, hqW, hbW⟩
                simp only [StepGoal, List.getD_cons_zero, List.getD_cons_succ]
                intro K hK
                obtain ⟨w3, rfl, lt⟩ := blk_put hEW
                obtain ⟨pc, pf, pS⟩ := putBlk_facts (w := w3) 59 lt
                have HC := Lib.hid (evcheck_any ⟨tx, tot, nth, kd, tb, p.l, q.l⟩ p.A q.A p.c q.c (putBlk w3 b #[.int .u64 tx, .int .i64 tot, .int .i64 nth, .int .u8 kd, .int .i64 tb, .slice p.A p.l.length p.c, .slice q.A q.l.length q.c] 59) (HT.out.ext (putBlk_belows hbW (by omega) _)) (hpW.put lt (by decide) _).vrow (hqW.put lt (by decide) _).vrow)
                simp only [evCells] at HC
                have HB5 := Lib.hid (putBlk_belows hbW (by omega) #[.int .u64 tx, .int .i64 tot, .int .i64 nth, .int .u8 kd, .int .i64 tb, .slice p.A p.l.length p.c, .slice q.A q.l.length q.c])
                have HZ5 := Lib.hid (putBlk_old hZW (by omega) #[.int .u64 tx, .int .i64 tot, .int .i64 nth, .int .u8 kd, .int .i64 tb, .slice p.A p.l.length p.c, .slice q.A q.l.length q.c])
                have Hp5 := Lib.hid (hpW.put lt (by decide) #[.int .u64 tx, .int .i64 tot, .int .i64 nth, .int .u8 kd, .int .i64 tb, .slice p.A p.l.length p.c, .slice q.A q.l.length q.c])
                have Hq5 := Lib.hid (hqW.put lt (by decide) #[.int .u64 tx, .int .i64 tot, .int .i64 nth, .int .u8 kd, .int .i64 tb, .slice p.A p.l.length p.c, .slice q.A q.l.length q.c])
                have HE5 := Lib.hid (putBlk_blk #[.int .u64 tx, .int .i64 tot, .int .i64 nth, .int .u8 kd, .int .i64 tb, .slice p.A p.l.length p.c, .slice q.A q.l.length q.c] 59 lt)
                clear hbW hZW hpW hqW hbw2 HZ2 Hp2 Hq2 HE2 hEW
                rw [if_pos (by rfl)]; simp only [overlay, upd, cond_true, cond_false, Nat.reduceEqDiff, reduceIte]
                go_simp
                refine hK.out _ _ ?_
                cases heb : evB ⟨tx, tot, nth, kd, tb, p.l, q.l⟩
                · rw [heb] at HC hGs
                  rw [okE_f] at HC
                  clear heb
                  go_wp2_with fail
                  refine HC.out.mono ?_
                  rintro r w5 ⟨rfl, hb5⟩
                  have hbw2 := bt HB5.out hb5
                  have hZ6 := HZ5.out.ext hb5
                  clear hb5 pc pf pS lt HC
                  obtain ⟨w6, rfl, lt⟩ := blk_put hZ6
                  obtain ⟨pc, pf, pS⟩ := putBlk_facts (w := w6) 59 lt
                  clear hZ6
                  go_wp2_with fail
                  have hGn : Hid (G = none) := hGs
                  refine bodyPost_ret (v := .tuple #[.agg (evCells ⟨0, 0, 0, 0, 0, [], []⟩ (.slice none 0 0) (.slice none 0 0)), .int .i64 7]) (by simp [results, Tryd.results30, go_sem, evCells, pc]) rfl ?_; rw [hGn.out]; exact ⟨hbw2, rfl⟩
                · rw [heb] at HC hGs
                  rw [okE_t] at HC
                  clear heb
                  go_wp2_with fail
                  refine HC.out.mono ?_
                  rintro r w5 ⟨rfl, hb5⟩
                  have hbw2 := bt HB5.out hb5
                  have hZ6 := HZ5.out.ext hb5
                  have hy := HE5.out.ext hb5
                  have Hp6 := Lib.hid (Hp5.out.below hb5)
                  have Hq6 := Lib.hid (Hq5.out.below hb5)
                  clear hb5 pc pf pS lt HC
                  obtain ⟨w6, rfl, lt⟩ := blk_put hZ6
                  obtain ⟨pc, pf, pS⟩ := putBlk_facts (w := w6) 59 lt
                  obtain ⟨y0, y1, y2, y3, y4, y5, y6⟩ := blk7 hy
                  clear hZ6 hy
                  go_wp2_with fail
                  refine bodyPost_ret (v := .tuple #[.agg (evCells ⟨tx, tot, nth, kd, tb, p.l, q.l⟩ (.slice p.A p.l.length p.c) (.slice q.A q.l.length q.c)), .int .i64 0]) (by simp [results, Tryd.results30, go_sem, evCells, pc]) rfl ?_
                  rw [show G = some _ from hGs]
                  exact ⟨putBlk_belows hbw2 (by omega) _, p.A, p.c, q.A, q.c, rfl, (Hp6.out.put lt (by decide) _).vrow, (Hq6.out.put lt (by decide) _).vrow, Hp6.out.z, Hq6.out.z⟩
              all_goals
                intro x W hW
                intro K hK
                (try (have c0 := (Below.cell hW (p := ⟨g, 0, none⟩) glt).trans HCG.out))
                rw [if_pos (by rfl)]; simp only [overlay, upd, cond_true, cond_false, List.getD_cons_zero, List.getD_cons_succ, Nat.reduceEqDiff, reduceIte]
                go_simp
                first
                  | exact hK.out _ _ (Below.refl _ _) rfl
                  | exact hK.out _ rfl
            · simp at hrs
      · obtain ⟨hne, hnl⟩ := ne_empty he
        have HNL := Lib.hid hnl
        clear hnl
        go_wp2_with fail
        refine (HRS.out rb wr (by omega) (HT.out.ext hbw)).mono ?_
        rintro e w2 ⟨hb2, hor⟩
        have hbw2 := bt hbw hb2
        rcases hor with ⟨h0, A, c, rfl, hown2⟩ | ⟨h0, rfl⟩
        · obtain ⟨g1, g2, g3, g4⟩ := getRow_wf h0
          by_cases hf : rs.length = 2
          · have hGn : Hid (G = none) := by
              show _ = _
              rw [← HG.out, evget_none]
              rw [← HM.out, HMM.out, hf, getRows_full HNL.out]; rfl
            have hf' : (rs.length : Int) = 2 := by omega
            have hZ2 := HZ.out.ext hb2
            clear HMM HNL hown hown2 g1 g2 g3 g4 h0 hb2 hf
            obtain ⟨w3, rfl, lt⟩ := blk_put hZ2
            obtain ⟨pc, pf, pS⟩ := putBlk_facts (w := w3) 59 lt
            clear hZ2
            go_wp2_with fail
            refine bodyPost_ret (v := .tuple #[.agg (evCells ⟨0, 0, 0, 0, 0, [], []⟩ (.slice none 0 0) (.slice none 0 0)), .int .i64 7]) (by simp [results, Tryd.results30, go_sem, evCells, pc]) rfl ?_; rw [hGn.out]; exact ⟨hbw2, rfl⟩
          · obtain ⟨row, hrow⟩ : ∃ q, q = (getRow rb.data.toList).2.1 := ⟨_, rfl⟩
            obtain ⟨n, hn⟩ : ∃ q, q = (getRow rb.data.toList).2.2 := ⟨_, rfl⟩
            have hMn : Hid (M = (getRows (2 - (rs ++ [(⟨A, c, row⟩ : RowS)]).length) (rb.extract n rb.size).data.toList).map (fun t => (rs ++ [(⟨A, c, row⟩ : RowS)]).map (·.l) ++ t)) := by
              show _ = _
              rw [HMM.out, show 2 - rs.length = (2 - (rs ++ [(⟨A, c, row⟩ : RowS)]).length) + 1 by simp; omega, getRows_ok HNL.out h0, hrow, hn, drop_str]
              cases getRows (2 - (rs ++ [(⟨A, c, (getRow rb.data.toList).2.1⟩ : RowS)]).length) (rb.data.toList.drop (getRow rb.data.toList).2.2) <;> simp
            rw [← hrow] at hown2
            rw [← hrow] at g1 g2
            rw [← hn] at g3 g4
            simp only [← hrow, ← hn]
            have g3' : n ≤ rb.size := by simpa using g3
            have hf' : ((rs.length : Int) == 2) = false := by rw [beq_eq_false_iff_ne]; omega
            have hf2 : rs.length ≤ 1 := by omega
            have hownL := own_below hown hb2
            have HOK2 := Lib.hid (fun p hp => (HOK.out p hp).below hb2)
            have HZ2 := Lib.hid (HZ.out.ext hb2)
            have HE2 := Lib.hid (HE.out.ext hb2)
            have HP : Hid (RowS.ok ⟨A, c, row⟩ w2) := ⟨g1, g2, _, hown2⟩
            clear HMM HNL hown hown2 g1 g2 h0 hb2 hf HOK HZ HE hrow hn g3 hbw
            go_wp2_with (at_builtin; refine wpList_append_own _ rfl _ _ 118 rfl w.heap.size 55 i0 _ 1 24 Tryd.underlying118 hi0 hz0 hz1 hz2 rfl (by decide) _ rs.length (rs.map (·.val)) rfl (hownL.alloc _) ⟨w2.heap.size, 0, none⟩ 1 1 [.slice A row.length c] rfl rfl (cells_new1 w2 _ _) ?c2 ?c3 ?c4 ?c5 ?_)
            case c2 => simp [Value.oneCell']
            case c3 => simp only [maxLen]; omega
            case c4 => omega
            case c5 => have := hbw2.size; simp; omega
            intro v' w3 hown3 hg3 _
            have hoL := hownL.alloc (.cells #[.slice A row.length c] 55)
            have HOK3 : Hid (∀ p ∈ rs ++ [(⟨A, c, row⟩ : RowS)], p.ok w3) := by
              intro p hp
              rcases List.mem_append.1 hp with hp | hp
              · exact ((HOK2.out p hp).below (by repeat (first | exact Below.refl _ _ | assumption | refine Below.drew ?_ | refine below_drewN ?_ _ | refine Below.alloc ?_ (by simp <;> omega) _))).grown hoL (by decide) hg3
              · obtain rfl : p = _ := by simpa using hp
                exact (HP.out.below (by repeat (first | exact Below.refl _ _ | assumption | refine Below.drew ?_ | refine below_drewN ?_ _ | refine Below.alloc ?_ (by simp <;> omega) _))).grown hoL (by decide) hg3
            have HZ3 := Lib.hid ((HZ2.out.old _).grown hoL (by decide) hg3)
            have HE3 := Lib.hid ((HE2.out.old _).grown hoL (by decide) hg3)
            have hbw3 : Below w.heap.size w w3 := (hbw2.alloc hbw2.size _).grown hg3 (by have := hbw2.size; simp; omega) (own_ge hownL)
            have hown4 : w3.ownsRow w.heap.size 55 1 v' (rs ++ [(⟨A, c, row⟩ : RowS)]).length ((rs ++ [(⟨A, c, row⟩ : RowS)]).map (·.val)) := by
              simpa [RowS.val] using hown3
            clear hown3 hg3 hoL HOK2 HZ2 HE2 HP hownL hbw2
            go_wp2_with fail
            go_roundw
            case rel => exact ⟨rs ++ [⟨A, c, row⟩], rb.extract n rb.size, by simp; omega, rfl, by simp [ByteArray.size_extract]; omega, hMn, HOK3, HZ3, HE3, hown4, hbw3⟩
            case measure => simp [strLen, ByteArray.size_extract]; omega
        · have hGn : Hid (G = none) := by
            show _ = _
            rw [← HG.out, evget_none]
            rw [← HM.out, HMM.out, getRows_no HNL.out h0]; rfl
          have hZ2 := HZ.out.ext hb2
          have h0' : ((getRow rb.data.toList).1 == 0) = false := by rw [beq_eq_false_iff_ne]; exact h0
          generalize (getRow rb.data.toList).1 = E at h0'
          clear HMM HNL hown hb2 h0
          obtain ⟨w3, rfl, lt⟩ := blk_put hZ2
          obtain ⟨pc, pf, pS⟩ := putBlk_facts (w := w3) 59 lt
          clear hZ2
          go_wp2_with fail
          refine bodyPost_ret (v := .tuple #[.agg (evCells ⟨0, 0, 0, 0, 0, [], []⟩ (.slice none 0 0) (.slice none 0 0)), .int .i64 7]) (by simp [results, Tryd.results30, go_sem, evCells, pc]) rfl ?_; rw [hGn.out]; exact ⟨hbw2, rfl⟩
end Go.Proofs.YtkfhfegogmlchaaDoor
