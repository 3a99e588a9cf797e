/- The reference's Get of events. -/
import Derived.Test.YtjdfodmialhakaaDoorEr3
import Derived.Test.YtjdfodmialhakaaDoorEr4
namespace Go.Proofs.YtjdfodmialhakaaDoor
open Go.RowKit

theorem evget_bad1 {b : List UInt8} (h14 : 14 ≤ b.length) (h : ¬ (getRow (b.drop 14)).1 = 0) : evGet b = none := by
  by_cases hn : b.drop 14 = []
  · have hr : getRows 2 (b.drop 14) = some [] := by rw [hn]; rfl
    rw [evget_fill h14 hr]
    unfold fillE
    split
    · rfl
    · next h => split at h <;> (first | (cases h; done) | (split at h <;> cases h))
  · exact evget_none (getRows_no hn h)
theorem getRows1_ne {l : List UInt8} (h : l ≠ []) : getRows 1 l = none ∨ ∃ x, getRows 1 l = some [x] := by
  by_cases h0 : (getRow l).1 = 0
  · rw [getRows_ok h h0]
    cases hd : l.drop (getRow l).2.2 with
    | nil => exact Or.inr ⟨_, rfl⟩
    | cons c r => exact Or.inl rfl
  · exact Or.inl (getRows_no h h0)
theorem getRow_ne {l : List UInt8} (h : (getRow l).1 = 0) : l ≠ [] := by
  intro e
  subst e
  exact absurd h (by decide)
theorem evget_one {b : List UInt8} (h14 : 14 ≤ b.length) (h : (getRow (b.drop 14)).1 = 0) (hk : ¬ (evHead b).k = 2) :
    evGet b = if (b.drop 14).drop (getRow (b.drop 14)).2.2 = [] then
      (if (evHead b).k = 3 then (if evB { evHead b with bf := (getRow (b.drop 14)).2.1 } then some { evHead b with bf := (getRow (b.drop 14)).2.1 } else none)
        else (if evB { evHead b with af := (getRow (b.drop 14)).2.1 } then some { evHead b with af := (getRow (b.drop 14)).2.1 } else none)) else none := by
  have hg : getRows 2 (b.drop 14) = _ := getRows_ok (getRow_ne h) h
  by_cases hd : (b.drop 14).drop (getRow (b.drop 14)).2.2 = []
  · rw [if_pos hd]
    have h1 : getRows 1 ((b.drop 14).drop (getRow (b.drop 14)).2.2) = some [] := by rw [hd]; rfl
    rw [h1] at hg
    rw [evget_fill h14 hg]
    unfold fillE
    by_cases hk1 : (evHead b).k = 1 ∨ (evHead b).k = 4
    · rw [if_pos hk1, if_neg (by omega)]
    · rw [if_neg hk1]
      by_cases hk3 : (evHead b).k = 3
      · rw [if_pos hk3, if_pos hk3]
      · rw [if_neg hk3, if_neg hk3]
        have : evB { evHead b with af := (getRow (b.drop 14)).2.1 } = false := by
          unfold evB
          rw [show evG { evHead b with af := (getRow (b.drop 14)).2.1 } = false by
            unfold evG
            apply decide_eq_false
            simp only
            omega]
          rfl
        rw [this]
        rfl
  · rw [if_neg hd]
    rcases getRows1_ne hd with h1 | ⟨x, h1⟩
    · rw [h1] at hg
      exact evget_none hg
    · rw [h1] at hg
      rw [evget_fill h14 hg]
      unfold fillE
      by_cases hk1 : (evHead b).k = 1 ∨ (evHead b).k = 4
      · rw [if_pos hk1]
      · rw [if_neg hk1]
        by_cases hk3 : (evHead b).k = 3
        · rw [if_pos hk3]
        · rw [if_neg hk3]
          have : evB { evHead b with bf := (getRow (b.drop 14)).2.1, af := x } = false := by
            unfold evB
            rw [show evG { evHead b with bf := (getRow (b.drop 14)).2.1, af := x } = false by
              unfold evG
              apply decide_eq_false
              simp only
              omega]
            rfl
          show (match (some ({ evHead b with bf := (getRow (b.drop 14)).2.1, af := x } : Ev)) with | none => none | some e => if evB e = true then some e else none) = none
          simp only [this]
          rfl
theorem evget_two {b : List UInt8} (h14 : 14 ≤ b.length) (h : (getRow (b.drop 14)).1 = 0) (hk : (evHead b).k = 2) {r2 : List UInt8} (hr2 : r2 = (b.drop 14).drop (getRow (b.drop 14)).2.2) :
    evGet b = if (getRow r2).1 = 0 then (if r2.drop (getRow r2).2.2 = [] then
      (if evB { evHead b with bf := (getRow (b.drop 14)).2.1, af := (getRow r2).2.1 } then some { evHead b with bf := (getRow (b.drop 14)).2.1, af := (getRow r2).2.1 } else none) else none) else none := by
  have hg : getRows 2 (b.drop 14) = _ := getRows_ok (getRow_ne h) h
  rw [← hr2] at hg
  by_cases h2 : (getRow r2).1 = 0
  · rw [if_pos h2]
    have hg1 : getRows 1 r2 = _ := getRows_ok (getRow_ne h2) h2
    by_cases hd : r2.drop (getRow r2).2.2 = []
    · rw [if_pos hd]
      rw [hd] at hg1
      rw [hg1] at hg
      rw [evget_fill h14 hg]
      unfold fillE
      rw [if_neg (by omega), if_neg (by omega)]
    · rw [if_neg hd]
      rw [getRows_full hd] at hg1
      rw [hg1] at hg
      exact evget_none hg
  · rw [if_neg h2]
    by_cases hn : r2 = []
    · have h1 : getRows 1 r2 = some [] := by rw [hn]; rfl
      rw [h1] at hg
      rw [evget_fill h14 hg]
      unfold fillE
      rw [if_neg (by omega), if_neg (by omega)]
    · rw [getRows_no hn h2] at hg
      exact evget_none hg
theorem has_2 : hasB 2 = true ∧ hasA 2 = true := by decide
theorem has_3 : hasB 3 = true ∧ hasA 3 = false := by decide
theorem has_x {k : Int} (h2 : ¬ k = 2) (h3 : ¬ k = 3) : hasB k = false ∧ hasA k = true := by
  unfold hasB hasA
  rw [decide_eq_false (by omega), decide_eq_false h3]
  exact ⟨rfl, rfl⟩
theorem rows_nil (w : World) (base : Nat) : RowS.ok ⟨none, 0, []⟩ w := ⟨by simp, by simp, base, World.ownsRow_nil _ _ _ _⟩
set_option maxRecDepth 100000 in
theorem refget16_short (s : ByteArray) (w : World) (h : s.size < 14) :
    Calls Tryd.prog 72 #[.string s] w (GetPost w none) := by
  go_enter Tryd.func72, Tryd.ntmps72
  go_wp2
  refine bodyPost_ret (v := .tuple #[.agg (evCells ⟨0, 0, 0, 0, 0, [], []⟩ (.slice none 0 0) (.slice none 0 0)), .int .i64 7]) (by simp [results, Tryd.results72, go_sem, evCells]) rfl ⟨(by repeat (first | exact Below.refl _ _ | assumption | refine Below.drew ?_ | refine below_drewN ?_ _ | refine Below.alloc ?_ (by simp <;> omega) _)), rfl⟩
theorem nil_if {s : ByteArray} {α : Type} (a b : α) : (if s.data.toList = [] then a else b) = (if s.size = 0 then a else b) := by
  by_cases h : s.size = 0
  · rw [if_pos h, if_pos]
    rw [str_empty h]
    rfl
  · rw [if_neg h, if_neg]
    intro e
    apply h
    have := congrArg List.length e
    simpa using this
set_option maxRecDepth 100000 in
set_option maxHeartbeats 4000000 in
theorem refget16_long (s : ByteArray) (w : World) (h : 14 ≤ s.size) (hs : s.size ≤ 140737488355328) (hT : Tabs w) :
    Calls Tryd.prog 72 #[.string s] w (GetPost w (evGet s.data.toList)) := by
  generalize hG : evGet s.data.toList = G
  have HG := Lib.hid hG
  have HT := Lib.hid hT
  have z8 : (s.extract 0 8).size = 8 := by simp [ByteArray.size_extract]; omega
  have z2 : (s.extract 8 10).size = 2 := by simp [ByteArray.size_extract]; omega
  have z2' : (s.extract 10 12).size = 2 := by simp [ByteArray.size_extract]; omega
  have H8 := Lib.hid (refvalue8 (s.extract 0 8) (by omega) (by omega))
  have H2 := Lib.hid (refvalue2 (s.extract 8 10) (by omega) (by omega))
  have H2' := Lib.hid (refvalue2 (s.extract 10 12) (by omega) (by omega))
  rw [slice_at s 0 8] at H8
  rw [slice_at s 8 10] at H2
  rw [slice_at s 10 12] at H2'
  clear hG hT z8 z2 z2'
  obtain ⟨tx, htx⟩ : ∃ q : Int, q = (valL (List.take (8 - 0) (List.drop 0 s.data.toList)) : Nat) := ⟨_, rfl⟩
  obtain ⟨tot, htot⟩ : ∃ q : Int, q = (valL (List.take (10 - 8) (List.drop 8 s.data.toList)) : Nat) := ⟨_, rfl⟩
  obtain ⟨nth, hnth⟩ : ∃ q : Int, q = (valL (List.take (12 - 10) (List.drop 10 s.data.toList)) : Nat) := ⟨_, rfl⟩
  have bt1 : 0 ≤ tot ∧ tot < 65536 := by have := valL_bound (List.take (10 - 8) (List.drop 8 s.data.toList)) 2 (by simp; omega); omega
  have bn1 : 0 ≤ nth ∧ nth < 65536 := by have := valL_bound (List.take (12 - 10) (List.drop 10 s.data.toList)) 2 (by simp; omega); omega
  rw [← htx] at H8
  rw [← htot] at H2
  rw [← hnth] at H2'
  have HTX := Lib.hid htx
  have HTOT := Lib.hid htot
  have HNTH := Lib.hid hnth
  clear htx htot hnth
  obtain ⟨tb, htb⟩ : ∃ q : Int, q = ((s.data.toList.getD 12 0).toNat : Int) := ⟨_, rfl⟩
  obtain ⟨kd, hkd⟩ : ∃ q : Int, q = ((s.data.toList.getD 13 0).toNat : Int) := ⟨_, rfl⟩
  have HTB := Lib.hid htb
  have HKD := Lib.hid hkd
  have hbt : 0 ≤ tb ∧ tb ≤ 255 := by have := (s.data.toList.getD 12 0).toNat_lt; omega
  have hbk : 0 ≤ kd ∧ kd ≤ 255 := by have := (s.data.toList.getD 13 0).toNat_lt; omega
  have HHD : Hid (evHead s.data.toList = ⟨tx, tot, nth, kd, tb, [], []⟩) := by
    show _ = _
    unfold evHead
    rw [HTX.out, HTOT.out, HNTH.out, HTB.out, HKD.out]
    rfl
  have e12 : ∀ hh, ((s[12]'hh).toNat : Int) = tb := fun hh => by rw [htb, byte_at s 12 hh]
  have e13 : ∀ hh, ((s[13]'hh).toNat : Int) = kd := fun hh => by rw [hkd, byte_at s 13 hh]
  have i8 : (8 : Int) ≤ s.size := by omega
  have i10 : (10 : Int) ≤ s.size := by omega
  have i12 : (12 : Int) ≤ s.size := by omega
  have j12 : (12 : Int) < s.size := by omega
  have j13 : (13 : Int) < s.size := by omega
  have wt : IntKind.i64.wrap tb = tb := by rw [IntKind.wrap_i64]; omega
  have wt1 : IntKind.i64.wrap tot = tot := by rw [IntKind.wrap_i64]; omega
  have wt2 : IntKind.i64.wrap nth = nth := by rw [IntKind.wrap_i64]; omega
  clear htb hkd HTX HTOT HNTH HTB HKD
  go_enter Tryd.func72, Tryd.ntmps72
  go_upto_region 3 with fail
  go_cut [4] (fun s4 wx => ∃ b, s4 = .pointer (some ⟨b, 0, none⟩) ∧ Blk wx w.heap.size #[.int .u64 0, .int .i64 0, .int .i64 0, .int .u8 0, .int .i64 0, .slice none 0 0, .slice none 0 0] 52 ∧
    Blk wx b #[.int .u64 tx, .int .i64 tot, .int .i64 nth, .int .u8 0, .int .i64 0, .slice none 0 0, .slice none 0 0] 52 ∧ w.heap.size + 1 ≤ b ∧ Below w.heap.size w wx)
  case first =>
    refine region_last 13 _ [false, false, false, false, true, false, false, false, false, false, false, false, false, false, false, false, false, false, true, true, true, true, true, true, true, true, true, true, true, true, false, false, false, false, false, false, false, false, false, false, false, false, false, false, false, false, false, false, false, false, false, false, false, false, false, false, false, false, false, false, false, false, false, false, false, false, false, false, false, false, false, false, false, false, false, false, false, false, false, false, false, false, false, false, false, false, false, false, false] [18, 19, 20, 21, 22, 23, 24, 25, 26, 27, 28, 29, 4] [.val (.string s), .val (.string (s.extract 0 8)), .val (.int .u64 tx), .val (.string s), .val (.string (s.extract 8 10)), .val (.int .u64 tot), .val (.int .i64 tot), .val (.string s), .val (.string (s.extract 10 12)), .val (.int .u64 nth), .val (.int .i64 nth), .val (.agg #[.int .u64 tx, .int .i64 tot, .int .i64 nth, .int .u8 0, .int .i64 0, .slice none 0 0, .slice none 0 0]), .mem (fun v w2 => ∃ b, v = .pointer (some ⟨b, 0, none⟩) ∧ Blk w2 b #[.int .u64 0, .int .i64 0, .int .i64 0, .int .u8 0, .int .i64 0, .slice none 0 0, .slice none 0 0] 52 ∧ w.heap.size + 1 ≤ b) (fun v w2 w3 ⟨b, h1, h2, h3⟩ hb => ⟨b, h1, h2.ext hb, h3⟩)] [11, 12] (by kernel_rfl) (by kernel_rfl) rfl (by kernel_rfl) (by kernel_rfl) (by kernel_rfl) (by kernel_rfl) (by kernel_rfl) ⟨?_, ?_, ?_, ?_, ?_, ?_, ?_, ?_, ?_, ?_, ?_, ?_, ?_, trivial⟩ ?done
    case done =>
      intro x w2 hb2
      simp only [StepGoal, List.getD_cons_zero, List.getD_cons_succ]
      rintro v ⟨b, rfl, hb, hbb⟩ K hK
      have hZ := (Blk.new w #[.int .u64 0, .int .i64 0, .int .i64 0, .int .u8 0, .int .i64 0, .slice none 0 0, .slice none 0 0] 52).ext hb2
      have hBw : Below w.heap.size w w2 := bt (by repeat (first | exact Below.refl _ _ | assumption | refine Below.drew ?_ | refine below_drewN ?_ _ | refine Below.alloc ?_ (by simp <;> omega) _)) hb2
      clear hb2
      obtain ⟨w3, rfl, lt⟩ := blk_put hb
      obtain ⟨pc, pf, pS⟩ := putBlk_facts (w := w3) 52 lt
      rw [if_pos (by rfl)]; simp only [overlay, upd, cond_true, cond_false, Nat.reduceEqDiff, reduceIte]
      go_simp
      refine hK.out _ _ ?_
      go_wp2_with fail
      go_meet
      exact ⟨b, rfl, putBlk_old hZ (by omega) _, putBlk_blk _ _ lt, hbb, putBlk_belows hBw (by omega) _⟩
    all_goals
      intro x w2 hb2
      intro K hK
      rw [if_pos (by rfl)]; simp only [overlay, upd, cond_true, cond_false, List.getD_cons_zero, List.getD_cons_succ, Nat.reduceEqDiff, reduceIte]
      go_simp
      first
        | exact hK.out _ _ (Below.refl _ _) rfl
        | exact hK.out _ _ (by repeat (first | exact Below.refl _ _ | assumption | refine Below.drew ?_ | refine below_drewN ?_ _ | refine Below.alloc ?_ (by simp <;> omega) _)) ⟨_, rfl, Blk.new _ _ _, by have := hb2.size; simp at this; omega⟩
        | ((with_reducible refine (H8.out _).mono ?_); rintro e wa ⟨rfl, rfl⟩; go_wp2_with fail; exact hK.out _ _ (Below.refl _ _) rfl)
        | ((with_reducible refine (H2.out _).mono ?_); rintro e wa ⟨rfl, rfl⟩; go_wp2_with fail; exact hK.out _ _ (Below.refl _ _) rfl)
        | ((with_reducible refine (H2'.out _).mono ?_); rintro e wa ⟨rfl, rfl⟩; go_wp2_with fail; exact hK.out _ _ (Below.refl _ _) rfl)
  case rest =>
    obtain ⟨b, rfl, hZ, hE, hbb, hB1⟩ := hcut
    obtain ⟨w3, rfl, lt⟩ := blk_put hE
    obtain ⟨pc, pf, pS⟩ := putBlk_facts (w := w3) 52 lt
    obtain ⟨rb, hrb⟩ : ∃ q, q = s.extract 14 s.size := ⟨_, rfl⟩
    have hrb' : s.extract 14 s.size = rb := hrb.symm
    have hrz : rb.size ≤ s.size := by rw [hrb, extract_rest]; omega
    have hrl : rb.data.toList = s.data.toList.drop 14 := by rw [hrb, drop_str]
    have h14 : 14 ≤ s.data.toList.length := by simpa using h
    have HB5 := Lib.hid (putBlk_belows hB1 (by omega) #[.int .u64 tx, .int .i64 tot, .int .i64 nth, .int .u8 kd, .int .i64 tb, .slice none 0 0, .slice none 0 0])
    have HZ5 := Lib.hid (putBlk_old hZ (by omega) #[.int .u64 tx, .int .i64 tot, .int .i64 nth, .int .u8 kd, .int .i64 tb, .slice none 0 0, .slice none 0 0])
    have HE5 := Lib.hid (putBlk_blk #[.int .u64 tx, .int .i64 tot, .int .i64 nth, .int .u8 kd, .int .i64 tb, .slice none 0 0, .slice none 0 0] 52 lt)
    have HRS := Lib.hid (fun (rb : ByteArray) (W : World) => refgetrow_any rb W)
    have HRL := Lib.hid hrl
    have H14 := Lib.hid h14
    have HBAD : Hid (¬ (getRow rb.data.toList).1 = 0 → G = none) := fun hx => by rw [← HG.out]; rw [HRL.out] at hx; exact evget_bad1 H14.out hx
    clear hrb hrl h14 hZ hE hB1 H8 H2 H2' i8 i10 i12
    by_cases hk2 : kd = 2
    · subst hk2
      have HH := Lib.hid (refhas_any 2)
      rw [has_2.1, has_2.2] at HH
      go_wp2_with fail
      refine (HH.out _).mono ?_
      rintro r w4 ⟨rfl, rfl⟩
      go_wp2_with fail
      refine (HRS.out rb _ (by omega) (HT.out.ext HB5.out)).mono ?_
      rintro r w4 ⟨hb2, hor⟩
      have HB2 := Lib.hid (bt HB5.out hb2)
      have HZ2 := Lib.hid (HZ5.out.ext hb2)
      have HE2 := Lib.hid (HE5.out.ext hb2)
      clear HB5 HZ5 HE5 pc pf pS lt
      rcases hor with ⟨h0, A, c, rfl, hown2⟩ | ⟨h0, rfl⟩
      · obtain ⟨g1, g2, g3, g4⟩ := getRow_wf h0
        have hGG := evget_two H14.out (by rw [← HRL.out]; exact h0) (by rw [HHD.out]) rfl
        rw [← HRL.out, HG.out, HHD.out] at hGG
        obtain ⟨l, hl⟩ : ∃ q, q = (getRow rb.data.toList).2.1 := ⟨_, rfl⟩
        obtain ⟨n, hn⟩ : ∃ q, q = (getRow rb.data.toList).2.2 := ⟨_, rfl⟩
        rw [← hl] at hown2 g1 g2 hGG
        rw [← hn] at g3 g4 hGG
        simp only [← hl, ← hn]
        have g3' : n ≤ rb.size := by simpa using g3
        have HOB : Hid (RowS.ok ⟨A, c, l⟩ w4) := ⟨g1, g2, _, hown2⟩
        obtain ⟨rb2, hrb2⟩ : ∃ q, q = rb.extract n rb.size := ⟨_, rfl⟩
        have hrb2' : rb.extract n rb.size = rb2 := hrb2.symm
        have hrz2 : rb2.size ≤ rb.size := by rw [hrb2, extract_rest]; omega
        rw [← drop_str, hrb2'] at hGG
        have HGG := Lib.hid hGG
        clear h0 hl hn g1 g2 g3 hown2 hGG hb2 hrb2 HBAD
        obtain ⟨w5, rfl, lt⟩ := blk_put HE2.out
        obtain ⟨pc, pf, pS⟩ := putBlk_facts (w := w5) 52 lt
        have HB5 := Lib.hid (putBlk_belows HB2.out (by omega) #[.int .u64 tx, .int .i64 tot, .int .i64 nth, .int .u8 2, .int .i64 tb, .slice A l.length c, .slice none 0 0])
        have HZ5 := Lib.hid (putBlk_old HZ2.out (by omega) #[.int .u64 tx, .int .i64 tot, .int .i64 nth, .int .u8 2, .int .i64 tb, .slice A l.length c, .slice none 0 0])
        have HE5 := Lib.hid (putBlk_blk #[.int .u64 tx, .int .i64 tot, .int .i64 nth, .int .u8 2, .int .i64 tb, .slice A l.length c, .slice none 0 0] 52 lt)
        have HOB5 := Lib.hid (HOB.out.put lt (by decide) #[.int .u64 tx, .int .i64 tot, .int .i64 nth, .int .u8 2, .int .i64 tb, .slice A l.length c, .slice none 0 0])
        clear HB2 HZ2 HE2 HOB
        go_wp2_with fail
        refine (HRS.out rb2 _ (by omega) (HT.out.ext HB5.out)).mono ?_
        rintro r w4 ⟨hb2, hor⟩
        have HB2 := Lib.hid (bt HB5.out hb2)
        have HZ2 := Lib.hid (HZ5.out.ext hb2)
        have HE2 := Lib.hid (HE5.out.ext hb2)
        have HOB2 := Lib.hid (HOB5.out.below hb2)
        clear HB5 HZ5 HE5 HOB5 pc pf pS lt
        rcases hor with ⟨h0, A2, c2, rfl, hown2⟩ | ⟨h0, rfl⟩
        · obtain ⟨g1, g2, g3, g4⟩ := getRow_wf h0
          have hGG := HGG.out
          rw [if_pos h0] at hGG
          obtain ⟨m, hl⟩ : ∃ q, q = (getRow rb2.data.toList).2.1 := ⟨_, rfl⟩
          obtain ⟨n2, hn⟩ : ∃ q, q = (getRow rb2.data.toList).2.2 := ⟨_, rfl⟩
          rw [← hl] at hown2 g1 g2 hGG
          rw [← hn] at g3 g4 hGG
          simp only [← hl, ← hn]
          have g3' : n2 ≤ rb2.size := by simpa using g3
          have HOA2 : Hid (RowS.ok ⟨A2, c2, m⟩ w4) := ⟨g1, g2, _, hown2⟩
          obtain ⟨rb3, hrb3⟩ : ∃ q, q = rb2.extract n2 rb2.size := ⟨_, rfl⟩
          have hrb3' : rb2.extract n2 rb2.size = rb3 := hrb3.symm
          rw [← drop_str, hrb3', nil_if] at hGG
          have HGE := Lib.hid hGG
          clear h0 hl hn g1 g2 g3 hown2 hGG hb2 hrb3 HGG
          obtain ⟨w5, rfl, lt⟩ := blk_put HE2.out
          obtain ⟨pc, pf, pS⟩ := putBlk_facts (w := w5) 52 lt
          have HB5 := Lib.hid (putBlk_belows HB2.out (by omega) #[.int .u64 tx, .int .i64 tot, .int .i64 nth, .int .u8 2, .int .i64 tb, .slice A l.length c, .slice A2 m.length c2])
          have HZ5 := Lib.hid (putBlk_old HZ2.out (by omega) #[.int .u64 tx, .int .i64 tot, .int .i64 nth, .int .u8 2, .int .i64 tb, .slice A l.length c, .slice A2 m.length c2])
          have HE5 := Lib.hid (putBlk_blk #[.int .u64 tx, .int .i64 tot, .int .i64 nth, .int .u8 2, .int .i64 tb, .slice A l.length c, .slice A2 m.length c2] 52 lt)
          have HOB := Lib.hid (HOB2.out.put lt (by decide) #[.int .u64 tx, .int .i64 tot, .int .i64 nth, .int .u8 2, .int .i64 tb, .slice A l.length c, .slice A2 m.length c2])
          have HOA := Lib.hid (HOA2.out.put lt (by decide) #[.int .u64 tx, .int .i64 tot, .int .i64 nth, .int .u8 2, .int .i64 tb, .slice A l.length c, .slice A2 m.length c2])
          clear HB2 HZ2 HE2 HOB2 HOA2
          by_cases hre : rb3.size = 0
          · obtain rfl := str_empty hre
            have HC := Lib.hid (refmay_any16 ⟨tx, tot, nth, 2, tb, l, m⟩ A A2 c c2 _ (HT.out.ext HB5.out) HOB.out.vrow HOA.out.vrow)
            simp only [evCells] at HC
            (try simp only [List.length_nil] at HC)
            have hGE := HGE.out
            rw [if_pos hre] at hGE
            have HGF := Lib.hid hGE
            clear hre HGE hGE
            cases heb : evB ⟨tx, tot, nth, 2, tb, l, m⟩
            · rw [heb] at HC HGF
              have hGn : Hid (G = none) := HGF
              clear heb
              go_wp2_with fail
              refine HC.out.mono ?_
              rintro r w6 ⟨rfl, hb6⟩
              have hbw2 := bt HB5.out hb6
              have hZ6 := HZ5.out.ext hb6
              clear hb6 pc pf pS lt HC HB5
              obtain ⟨w7, rfl, lt⟩ := blk_put hZ6
              obtain ⟨pc, pf, pS⟩ := putBlk_facts (w := w7) 52 lt
              clear hZ6
              go_wp2_with fail
              refine bodyPost_ret (v := .tuple #[.agg (evCells ⟨0, 0, 0, 0, 0, [], []⟩ (.slice none 0 0) (.slice none 0 0)), .int .i64 7]) (by simp [results, Tryd.results72, go_sem, evCells, pc]) rfl ?_
              rw [hGn.out]
              exact ⟨putBlk_belows hbw2 (by omega) _, rfl⟩
            · rw [heb] at HC HGF
              clear heb
              go_wp2_with fail
              refine HC.out.mono ?_
              rintro r w6 ⟨rfl, hb6⟩
              have hbw2 := bt HB5.out hb6
              have hZ6 := HZ5.out.ext hb6
              obtain ⟨y0, y1, y2, y3, y4, y5, y6⟩ := blk7 (HE5.out.ext hb6)
              have HV1 := Lib.hid (HOB.out.below hb6)
              have HV2 := Lib.hid (HOA.out.below hb6)
              clear hb6 pc pf pS lt HC HB5
              obtain ⟨w7, rfl, lt⟩ := blk_put hZ6
              obtain ⟨pc, pf, pS⟩ := putBlk_facts (w := w7) 52 lt
              clear hZ6
              go_wp2_with fail
              refine bodyPost_ret (v := .tuple #[.agg (evCells ⟨tx, tot, nth, 2, tb, l, m⟩ (.slice A (Ev.bf ⟨tx, tot, nth, 2, tb, l, m⟩).length c) (.slice A2 (Ev.af ⟨tx, tot, nth, 2, tb, l, m⟩).length c2)), .int .i64 0]) (by simp [results, Tryd.results72, go_sem, evCells, pc]) rfl ?_
              rw [show G = some _ from HGF]
              exact ⟨putBlk_belows hbw2 (by omega) _, A, c, A2, c2, rfl, (HV1.out.put lt (by decide) _).vrow, (HV2.out.put lt (by decide) _).vrow⟩
          · have hGE := HGE.out
            rw [if_neg hre] at hGE
            have hGn := Lib.hid hGE
            obtain ⟨hne, _⟩ := ne_empty hre
            have hne' : (!rb3.toList.isEmpty) = true := by rw [hne]; rfl
            clear hre HGE hGE
            go_upto_region 20 with fail
            have hbw2 := HB5.out
            have hZ6 := HZ5.out
            clear pc pf pS lt HB5 HZ5 HE5 HOA HOB
            generalize putBlk w5 b #[.int .u64 tx, .int .i64 tot, .int .i64 nth, .int .u8 2, .int .i64 tb, .slice A l.length c, .slice A2 m.length c2] 52 = W2 at hbw2 hZ6 ⊢
            obtain ⟨w7, rfl, lt⟩ := blk_put hZ6
            obtain ⟨pc, pf, pS⟩ := putBlk_facts (w := w7) 52 lt
            clear hZ6
            go_wp2_with fail
            refine bodyPost_ret (v := .tuple #[.agg (evCells ⟨0, 0, 0, 0, 0, [], []⟩ (.slice none 0 0) (.slice none 0 0)), .int .i64 7]) (by simp [results, Tryd.results72, go_sem, evCells, pc]) rfl ?_
            rw [hGn.out]
            exact ⟨putBlk_belows hbw2 (by omega) _, rfl⟩
        · have hGG := HGG.out
          rw [if_neg h0] at hGG
          have hGn := Lib.hid hGG
          have h0' : ((getRow rb2.data.toList).1 == 0) = false := by rw [beq_eq_false_iff_ne]; exact h0
          have h0'' : ((getRow rb2.data.toList).1 != 0) = true := by rw [bne_iff_ne]; exact h0
          generalize (getRow rb2.data.toList).1 = E at h0' h0''
          have hbw2 := HB2.out
          have hZ6 := HZ2.out
          clear h0 hGG HGG hb2 HB2 HZ2 HOB2
          obtain ⟨w7, rfl, lt⟩ := blk_put hZ6
          obtain ⟨pc, pf, pS⟩ := putBlk_facts (w := w7) 52 lt
          clear hZ6
          go_wp2_with fail
          refine bodyPost_ret (v := .tuple #[.agg (evCells ⟨0, 0, 0, 0, 0, [], []⟩ (.slice none 0 0) (.slice none 0 0)), .int .i64 7]) (by simp [results, Tryd.results72, go_sem, evCells, pc]) rfl ?_
          rw [hGn.out]
          exact ⟨putBlk_belows hbw2 (by omega) _, rfl⟩
      · have hGn := Lib.hid (HBAD.out h0)
        have h0' : ((getRow rb.data.toList).1 == 0) = false := by rw [beq_eq_false_iff_ne]; exact h0
        have h0'' : ((getRow rb.data.toList).1 != 0) = true := by rw [bne_iff_ne]; exact h0
        generalize (getRow rb.data.toList).1 = E at h0' h0''
        have hbw2 := HB2.out
        have hZ6 := HZ2.out
        clear h0 hb2 HB2 HZ2
        obtain ⟨w7, rfl, lt⟩ := blk_put hZ6
        obtain ⟨pc, pf, pS⟩ := putBlk_facts (w := w7) 52 lt
        clear hZ6
        go_wp2_with fail
        refine bodyPost_ret (v := .tuple #[.agg (evCells ⟨0, 0, 0, 0, 0, [], []⟩ (.slice none 0 0) (.slice none 0 0)), .int .i64 7]) (by simp [results, Tryd.results72, go_sem, evCells, pc]) rfl ?_
        rw [hGn.out]
        exact ⟨putBlk_belows hbw2 (by omega) _, rfl⟩
    · by_cases hk3 : kd = 3
      · subst hk3
        have HH := Lib.hid (refhas_any 3)
        rw [has_3.1, has_3.2] at HH
        clear hk2
        go_wp2_with fail
        refine (HH.out _).mono ?_
        rintro r w4 ⟨rfl, rfl⟩
        go_wp2_with fail
        refine (HRS.out rb _ (by omega) (HT.out.ext HB5.out)).mono ?_
        rintro r w4 ⟨hb2, hor⟩
        have HB2 := Lib.hid (bt HB5.out hb2)
        have HZ2 := Lib.hid (HZ5.out.ext hb2)
        have HE2 := Lib.hid (HE5.out.ext hb2)
        clear HB5 HZ5 HE5 pc pf pS lt
        rcases hor with ⟨h0, A, c, rfl, hown2⟩ | ⟨h0, rfl⟩
        · obtain ⟨g1, g2, g3, g4⟩ := getRow_wf h0
          have hGG := evget_one H14.out (by rw [← HRL.out]; exact h0) (by rw [HHD.out]; first | exact HK2.out | (show ¬ (3 : Int) = 2; decide))
          rw [← HRL.out, HG.out, HHD.out] at hGG
          simp only at hGG
          first | rw [if_neg HK3.out] at hGG | rw [if_pos rfl] at hGG | rw [if_pos trivial] at hGG
          obtain ⟨l, hl⟩ : ∃ q, q = (getRow rb.data.toList).2.1 := ⟨_, rfl⟩
          obtain ⟨n, hn⟩ : ∃ q, q = (getRow rb.data.toList).2.2 := ⟨_, rfl⟩
          rw [← hl] at hown2 g1 g2 hGG
          rw [← hn] at g3 g4 hGG
          simp only [← hl, ← hn]
          have g3' : n ≤ rb.size := by simpa using g3
          have HOR : Hid (RowS.ok ⟨A, c, l⟩ w4) := ⟨g1, g2, _, hown2⟩
          obtain ⟨rb3, hrb3⟩ : ∃ q, q = rb.extract n rb.size := ⟨_, rfl⟩
          have hrb3' : rb.extract n rb.size = rb3 := hrb3.symm
          rw [← drop_str, hrb3', nil_if] at hGG
          have HGE := Lib.hid hGG
          clear h0 hl hn g1 g2 g3 hown2 hGG hb2 hrb3 HBAD
          obtain ⟨w5, rfl, lt⟩ := blk_put HE2.out
          obtain ⟨pc, pf, pS⟩ := putBlk_facts (w := w5) 52 lt
          have HB5 := Lib.hid (putBlk_belows HB2.out (by omega) #[.int .u64 tx, .int .i64 tot, .int .i64 nth, .int .u8 3, .int .i64 tb, (.slice A l.length c), (.slice none 0 0)])
          have HZ5 := Lib.hid (putBlk_old HZ2.out (by omega) #[.int .u64 tx, .int .i64 tot, .int .i64 nth, .int .u8 3, .int .i64 tb, (.slice A l.length c), (.slice none 0 0)])
          have HE5 := Lib.hid (putBlk_blk #[.int .u64 tx, .int .i64 tot, .int .i64 nth, .int .u8 3, .int .i64 tb, (.slice A l.length c), (.slice none 0 0)] 52 lt)
          have HOB := Lib.hid (HOR.out.put lt (by decide) #[.int .u64 tx, .int .i64 tot, .int .i64 nth, .int .u8 3, .int .i64 tb, (.slice A l.length c), (.slice none 0 0)])
          have HOA := Lib.hid (rows_nil (putBlk w5 b #[.int .u64 tx, .int .i64 tot, .int .i64 nth, .int .u8 3, .int .i64 tb, (.slice A l.length c), (.slice none 0 0)] 52) 0)
          clear HB2 HZ2 HE2 HOR
          by_cases hre : rb3.size = 0
          · obtain rfl := str_empty hre
            have HC := Lib.hid (refmay_any16 ⟨tx, tot, nth, 3, tb, l, []⟩ A none c 0 _ (HT.out.ext HB5.out) HOB.out.vrow HOA.out.vrow)
            simp only [evCells] at HC
            (try simp only [List.length_nil] at HC)
            have hGE := HGE.out
            rw [if_pos hre] at hGE
            have HGF := Lib.hid hGE
            clear hre HGE hGE
            cases heb : evB ⟨tx, tot, nth, 3, tb, l, []⟩
            · rw [heb] at HC HGF
              have hGn : Hid (G = none) := HGF
              clear heb
              go_wp2_with fail
              refine HC.out.mono ?_
              rintro r w6 ⟨rfl, hb6⟩
              have hbw2 := bt HB5.out hb6
              have hZ6 := HZ5.out.ext hb6
              clear hb6 pc pf pS lt HC HB5
              obtain ⟨w7, rfl, lt⟩ := blk_put hZ6
              obtain ⟨pc, pf, pS⟩ := putBlk_facts (w := w7) 52 lt
              clear hZ6
              go_wp2_with fail
              refine bodyPost_ret (v := .tuple #[.agg (evCells ⟨0, 0, 0, 0, 0, [], []⟩ (.slice none 0 0) (.slice none 0 0)), .int .i64 7]) (by simp [results, Tryd.results72, go_sem, evCells, pc]) rfl ?_
              rw [hGn.out]
              exact ⟨putBlk_belows hbw2 (by omega) _, rfl⟩
            · rw [heb] at HC HGF
              clear heb
              go_wp2_with fail
              refine HC.out.mono ?_
              rintro r w6 ⟨rfl, hb6⟩
              have hbw2 := bt HB5.out hb6
              have hZ6 := HZ5.out.ext hb6
              obtain ⟨y0, y1, y2, y3, y4, y5, y6⟩ := blk7 (HE5.out.ext hb6)
              have HV1 := Lib.hid (HOB.out.below hb6)
              have HV2 := Lib.hid (HOA.out.below hb6)
              clear hb6 pc pf pS lt HC HB5
              obtain ⟨w7, rfl, lt⟩ := blk_put hZ6
              obtain ⟨pc, pf, pS⟩ := putBlk_facts (w := w7) 52 lt
              clear hZ6
              go_wp2_with fail
              refine bodyPost_ret (v := .tuple #[.agg (evCells ⟨tx, tot, nth, 3, tb, l, []⟩ (.slice A (Ev.bf ⟨tx, tot, nth, 3, tb, l, []⟩).length c) (.slice none (Ev.af ⟨tx, tot, nth, 3, tb, l, []⟩).length 0)), .int .i64 0]) (by simp [results, Tryd.results72, go_sem, evCells, pc]) rfl ?_
              rw [show G = some _ from HGF]
              exact ⟨putBlk_belows hbw2 (by omega) _, A, c, none, 0, rfl, (HV1.out.put lt (by decide) _).vrow, (HV2.out.put lt (by decide) _).vrow⟩
          · have hGE := HGE.out
            rw [if_neg hre] at hGE
            have hGn := Lib.hid hGE
            obtain ⟨hne, _⟩ := ne_empty hre
            have hne' : (!rb3.toList.isEmpty) = true := by rw [hne]; rfl
            clear hre HGE hGE
            go_upto_region 20 with fail
            have hbw2 := HB5.out
            have hZ6 := HZ5.out
            clear pc pf pS lt HB5 HZ5 HE5 HOA HOB
            generalize putBlk w5 b #[.int .u64 tx, .int .i64 tot, .int .i64 nth, .int .u8 3, .int .i64 tb, (.slice A l.length c), (.slice none 0 0)] 52 = W2 at hbw2 hZ6 ⊢
            obtain ⟨w7, rfl, lt⟩ := blk_put hZ6
            obtain ⟨pc, pf, pS⟩ := putBlk_facts (w := w7) 52 lt
            clear hZ6
            go_wp2_with fail
            refine bodyPost_ret (v := .tuple #[.agg (evCells ⟨0, 0, 0, 0, 0, [], []⟩ (.slice none 0 0) (.slice none 0 0)), .int .i64 7]) (by simp [results, Tryd.results72, go_sem, evCells, pc]) rfl ?_
            rw [hGn.out]
            exact ⟨putBlk_belows hbw2 (by omega) _, rfl⟩
        · have hGn := Lib.hid (HBAD.out h0)
          have h0' : ((getRow rb.data.toList).1 == 0) = false := by rw [beq_eq_false_iff_ne]; exact h0
          have h0'' : ((getRow rb.data.toList).1 != 0) = true := by rw [bne_iff_ne]; exact h0
          generalize (getRow rb.data.toList).1 = E at h0' h0''
          have hbw2 := HB2.out
          have hZ6 := HZ2.out
          clear h0 hb2 HB2 HZ2
          obtain ⟨w7, rfl, lt⟩ := blk_put hZ6
          obtain ⟨pc, pf, pS⟩ := putBlk_facts (w := w7) 52 lt
          clear hZ6
          go_wp2_with fail
          refine bodyPost_ret (v := .tuple #[.agg (evCells ⟨0, 0, 0, 0, 0, [], []⟩ (.slice none 0 0) (.slice none 0 0)), .int .i64 7]) (by simp [results, Tryd.results72, go_sem, evCells, pc]) rfl ?_
          rw [hGn.out]
          exact ⟨putBlk_belows hbw2 (by omega) _, rfl⟩
      · have HH := Lib.hid (refhas_any kd)
        rw [(has_x hk2 hk3).1, (has_x hk2 hk3).2] at HH
        have HK2 := Lib.hid hk2
        have HK3 := Lib.hid hk3
        clear hk2 hk3
        go_wp2_with fail
        refine (HH.out _).mono ?_
        rintro r w4 ⟨rfl, rfl⟩
        go_wp2_with fail
        refine (HRS.out rb _ (by omega) (HT.out.ext HB5.out)).mono ?_
        rintro r w4 ⟨hb2, hor⟩
        have HB2 := Lib.hid (bt HB5.out hb2)
        have HZ2 := Lib.hid (HZ5.out.ext hb2)
        have HE2 := Lib.hid (HE5.out.ext hb2)
        clear HB5 HZ5 HE5 pc pf pS lt
        rcases hor with ⟨h0, A, c, rfl, hown2⟩ | ⟨h0, rfl⟩
        · obtain ⟨g1, g2, g3, g4⟩ := getRow_wf h0
          have hGG := evget_one H14.out (by rw [← HRL.out]; exact h0) (by rw [HHD.out]; first | exact HK2.out | (show ¬ (3 : Int) = 2; decide))
          rw [← HRL.out, HG.out, HHD.out] at hGG
          simp only at hGG
          first | rw [if_neg HK3.out] at hGG | rw [if_pos rfl] at hGG | rw [if_pos trivial] at hGG
          obtain ⟨l, hl⟩ : ∃ q, q = (getRow rb.data.toList).2.1 := ⟨_, rfl⟩
          obtain ⟨n, hn⟩ : ∃ q, q = (getRow rb.data.toList).2.2 := ⟨_, rfl⟩
          rw [← hl] at hown2 g1 g2 hGG
          rw [← hn] at g3 g4 hGG
          simp only [← hl, ← hn]
          have g3' : n ≤ rb.size := by simpa using g3
          have HOR : Hid (RowS.ok ⟨A, c, l⟩ w4) := ⟨g1, g2, _, hown2⟩
          obtain ⟨rb3, hrb3⟩ : ∃ q, q = rb.extract n rb.size := ⟨_, rfl⟩
          have hrb3' : rb.extract n rb.size = rb3 := hrb3.symm
          rw [← drop_str, hrb3', nil_if] at hGG
          have HGE := Lib.hid hGG
          clear h0 hl hn g1 g2 g3 hown2 hGG hb2 hrb3 HBAD
          obtain ⟨w5, rfl, lt⟩ := blk_put HE2.out
          obtain ⟨pc, pf, pS⟩ := putBlk_facts (w := w5) 52 lt
          have HB5 := Lib.hid (putBlk_belows HB2.out (by omega) #[.int .u64 tx, .int .i64 tot, .int .i64 nth, .int .u8 kd, .int .i64 tb, (.slice none 0 0), (.slice A l.length c)])
          have HZ5 := Lib.hid (putBlk_old HZ2.out (by omega) #[.int .u64 tx, .int .i64 tot, .int .i64 nth, .int .u8 kd, .int .i64 tb, (.slice none 0 0), (.slice A l.length c)])
          have HE5 := Lib.hid (putBlk_blk #[.int .u64 tx, .int .i64 tot, .int .i64 nth, .int .u8 kd, .int .i64 tb, (.slice none 0 0), (.slice A l.length c)] 52 lt)
          have HOA := Lib.hid (HOR.out.put lt (by decide) #[.int .u64 tx, .int .i64 tot, .int .i64 nth, .int .u8 kd, .int .i64 tb, (.slice none 0 0), (.slice A l.length c)])
          have HOB := Lib.hid (rows_nil (putBlk w5 b #[.int .u64 tx, .int .i64 tot, .int .i64 nth, .int .u8 kd, .int .i64 tb, (.slice none 0 0), (.slice A l.length c)] 52) 0)
          clear HB2 HZ2 HE2 HOR
          by_cases hre : rb3.size = 0
          · obtain rfl := str_empty hre
            have HC := Lib.hid (refmay_any16 ⟨tx, tot, nth, kd, tb, [], l⟩ none A 0 c _ (HT.out.ext HB5.out) HOB.out.vrow HOA.out.vrow)
            simp only [evCells] at HC
            (try simp only [List.length_nil] at HC)
            have hGE := HGE.out
            rw [if_pos hre] at hGE
            have HGF := Lib.hid hGE
            clear hre HGE hGE
            cases heb : evB ⟨tx, tot, nth, kd, tb, [], l⟩
            · rw [heb] at HC HGF
              have hGn : Hid (G = none) := HGF
              clear heb
              go_wp2_with fail
              refine HC.out.mono ?_
              rintro r w6 ⟨rfl, hb6⟩
              have hbw2 := bt HB5.out hb6
              have hZ6 := HZ5.out.ext hb6
              clear hb6 pc pf pS lt HC HB5
              obtain ⟨w7, rfl, lt⟩ := blk_put hZ6
              obtain ⟨pc, pf, pS⟩ := putBlk_facts (w := w7) 52 lt
              clear hZ6
              go_wp2_with fail
              refine bodyPost_ret (v := .tuple #[.agg (evCells ⟨0, 0, 0, 0, 0, [], []⟩ (.slice none 0 0) (.slice none 0 0)), .int .i64 7]) (by simp [results, Tryd.results72, go_sem, evCells, pc]) rfl ?_
              rw [hGn.out]
              exact ⟨putBlk_belows hbw2 (by omega) _, rfl⟩
            · rw [heb] at HC HGF
              clear heb
              go_wp2_with fail
              refine HC.out.mono ?_
              rintro r w6 ⟨rfl, hb6⟩
              have hbw2 := bt HB5.out hb6
              have hZ6 := HZ5.out.ext hb6
              obtain ⟨y0, y1, y2, y3, y4, y5, y6⟩ := blk7 (HE5.out.ext hb6)
              have HV1 := Lib.hid (HOB.out.below hb6)
              have HV2 := Lib.hid (HOA.out.below hb6)
              clear hb6 pc pf pS lt HC HB5
              obtain ⟨w7, rfl, lt⟩ := blk_put hZ6
              obtain ⟨pc, pf, pS⟩ := putBlk_facts (w := w7) 52 lt
              clear hZ6
              go_wp2_with fail
              refine bodyPost_ret (v := .tuple #[.agg (evCells ⟨tx, tot, nth, kd, tb, [], l⟩ (.slice none (Ev.bf ⟨tx, tot, nth, kd, tb, [], l⟩).length 0) (.slice A (Ev.af ⟨tx, tot, nth, kd, tb, [], l⟩).length c)), .int .i64 0]) (by simp [results, Tryd.results72, go_sem, evCells, pc]) rfl ?_
              rw [show G = some _ from HGF]
              exact ⟨putBlk_belows hbw2 (by omega) _, none, 0, A, c, rfl, (HV1.out.put lt (by decide) _).vrow, (HV2.out.put lt (by decide) _).vrow⟩
          · have hGE := HGE.out
            rw [if_neg hre] at hGE
            have hGn := Lib.hid hGE
            obtain ⟨hne, _⟩ := ne_empty hre
            have hne' : (!rb3.toList.isEmpty) = true := by rw [hne]; rfl
            clear hre HGE hGE
            go_upto_region 20 with fail
            have hbw2 := HB5.out
            have hZ6 := HZ5.out
            clear pc pf pS lt HB5 HZ5 HE5 HOA HOB
            generalize putBlk w5 b #[.int .u64 tx, .int .i64 tot, .int .i64 nth, .int .u8 kd, .int .i64 tb, (.slice none 0 0), (.slice A l.length c)] 52 = W2 at hbw2 hZ6 ⊢
            obtain ⟨w7, rfl, lt⟩ := blk_put hZ6
            obtain ⟨pc, pf, pS⟩ := putBlk_facts (w := w7) 52 lt
            clear hZ6
            go_wp2_with fail
            refine bodyPost_ret (v := .tuple #[.agg (evCells ⟨0, 0, 0, 0, 0, [], []⟩ (.slice none 0 0) (.slice none 0 0)), .int .i64 7]) (by simp [results, Tryd.results72, go_sem, evCells, pc]) rfl ?_
            rw [hGn.out]
            exact ⟨putBlk_belows hbw2 (by omega) _, rfl⟩
        · have hGn := Lib.hid (HBAD.out h0)
          have h0' : ((getRow rb.data.toList).1 == 0) = false := by rw [beq_eq_false_iff_ne]; exact h0
          have h0'' : ((getRow rb.data.toList).1 != 0) = true := by rw [bne_iff_ne]; exact h0
          generalize (getRow rb.data.toList).1 = E at h0' h0''
          have hbw2 := HB2.out
          have hZ6 := HZ2.out
          clear h0 hb2 HB2 HZ2
          obtain ⟨w7, rfl, lt⟩ := blk_put hZ6
          obtain ⟨pc, pf, pS⟩ := putBlk_facts (w := w7) 52 lt
          clear hZ6
          go_wp2_with fail
          refine bodyPost_ret (v := .tuple #[.agg (evCells ⟨0, 0, 0, 0, 0, [], []⟩ (.slice none 0 0) (.slice none 0 0)), .int .i64 7]) (by simp [results, Tryd.results72, go_sem, evCells, pc]) rfl ?_
          rw [hGn.out]
          exact ⟨putBlk_belows hbw2 (by omega) _, rfl⟩
theorem refget16_any (s : ByteArray) (w : World) (hs : s.size ≤ 140737488355328) (hT : Tabs w) :
    Calls Tryd.prog 72 #[.string s] w (GetPost w (evGet s.data.toList)) := by
  by_cases h : s.size < 14
  · have e : evGet s.data.toList = none := by unfold evGet; rw [if_pos (by simpa using h)]
    rw [e]
    exact refget16_short s w h
  · exact refget16_long s w (by omega) hs hT
end Go.Proofs.YtjdfodmialhakaaDoor
