/- The reference's GetMark. -/
import Derived.Test.YtjdfodmialhakaaDoorEr4
import Derived.Test.YtjdfodmialhakaaDoorRegApp
namespace Go.Proofs.YtjdfodmialhakaaDoor
open Go.RowKit

def refC (b : List UInt8) : Nat := if ((b.getD 0 0).toNat : Int) = 2 then (b.getD 9 0).toNat else 0
def refMkGet (b : List UInt8) : Option Mk :=
  if b.length < 10 then none else if ¬ b.length = 10 + 8 * (b.getD 9 0).toNat + 2 * refC b then none
  else if mkB (mkOf b (refC b)) then some (mkOf b (refC b)) else none
theorem mkB_cs {m : Mk} (h1 : m.k = 1 → ¬ m.cs.length = 0) (h2 : m.k = 2 → ¬ m.cs.length = m.sq.length) : mkB m = false := by
  unfold mkB
  by_cases k1 : m.k = 1
  · rw [if_pos k1, decide_eq_false (h1 k1), Bool.and_false]
  · rw [if_neg k1]
    by_cases k2 : m.k = 2
    · rw [if_pos k2, decide_eq_false (h2 k2), Bool.false_and, Bool.and_false]
    · rw [if_neg k2, Bool.and_false]
theorem mkget_ref (b : List UInt8) : mkGet b = refMkGet b := by
  unfold mkGet refMkGet
  by_cases h0 : b.length < 10
  · rw [if_pos (Or.inl h0), if_pos h0]
  · rw [if_neg h0]
    by_cases h1 : (b.drop 10).length < 8 * (b.getD 9 0).toNat
    · rw [if_pos (Or.inr h1), if_pos]
      rw [List.length_drop] at h1
      omega
    · rw [if_neg (by rintro (h | h) <;> contradiction)]
      rw [List.length_drop] at h1 ⊢
      by_cases h2 : b.length = 10 + 8 * (b.getD 9 0).toNat + 2 * refC b
      · rw [if_neg (not_not_intro h2)]
        have hr : refC b ≤ (b.getD 9 0).toNat := by unfold refC; split <;> omega
        have hc : mkC b = refC b := by
          unfold mkC
          rw [List.length_drop]
          omega
        rw [hc, if_pos (by omega)]
      · rw [if_pos h2]
        by_cases h3 : b.length - 10 - 8 * (b.getD 9 0).toNat = 2 * mkC b
        · rw [if_pos h3, if_neg]
          rw [mkB_cs]
          · simp
          · intro hk
            simp only [mkOf, chunk_length] at hk ⊢
            unfold refC at h2
            rw [if_neg (by omega)] at h2
            omega
          · intro hk
            simp only [mkOf, chunk_length] at hk ⊢
            unfold refC at h2
            rw [if_pos hk] at h2
            omega
        · rw [if_neg h3]
set_option maxRecDepth 100000 in
theorem refgetmark_short (s : ByteArray) (w : World) (h : s.size < 10) :
    Calls Tryd.prog 70 #[.string s] w (MkPost w none) := by
  go_enter Tryd.func70, Tryd.ntmps70
  go_wp2
  refine bodyPost_ret (v := .tuple #[.agg (mkCells ⟨0, 0, [], []⟩ (.slice none 0 0) (.slice none 0 0)), .int .i64 7]) (by simp [results, Tryd.results70, go_sem, mkCells]) rfl ⟨(by repeat (first | exact Below.refl _ _ | assumption | refine Below.drew ?_ | refine below_drewN ?_ _ | refine Below.alloc ?_ (by simp <;> omega) _)), rfl⟩
theorem refmk_len {b : List UInt8} (h0 : ¬ b.length < 10) (h : ¬ b.length = 10 + 8 * (b.getD 9 0).toNat + 2 * refC b) : refMkGet b = none := by
  unfold refMkGet; rw [if_neg h0, if_pos h]
theorem refmk_end {b : List UInt8} (h0 : ¬ b.length < 10) (h : b.length = 10 + 8 * (b.getD 9 0).toNat + 2 * refC b) : refMkGet b = if mkB (mkOf b (refC b)) then some (mkOf b (refC b)) else none := by
  unfold refMkGet; rw [if_neg h0, if_neg (not_not_intro h)]
set_option maxRecDepth 100000 in
set_option maxHeartbeats 4000000 in
theorem refgetmark_long (s : ByteArray) (w : World) (h : 10 ≤ s.size) (hs : s.size ≤ 140737488355328) :
    Calls Tryd.prog 70 #[.string s] w (MkPost w (refMkGet s.data.toList)) := by
  generalize hG : refMkGet s.data.toList = G
  have HG := Lib.hid hG
  have z8 : (s.extract 1 9).size = 8 := by simp [ByteArray.size_extract]; omega
  have H8 := Lib.hid (refvalue8 (s.extract 1 9) (by omega) (by omega))
  rw [slice_at s 1 9] at H8
  clear hG z8
  obtain ⟨tx, htx⟩ : ∃ q : Int, q = (valL (List.take (9 - 1) (List.drop 1 s.data.toList)) : Nat) := ⟨_, rfl⟩
  rw [← htx] at H8
  have HTX := Lib.hid htx
  obtain ⟨kd, hkd⟩ : ∃ q : Int, q = ((s.data.toList.getD 0 0).toNat : Int) := ⟨_, rfl⟩
  obtain ⟨n, hn⟩ : ∃ q : Nat, q = (s.data.toList.getD 9 0).toNat := ⟨_, rfl⟩
  have HKD := Lib.hid hkd
  have HN := Lib.hid hn
  have hbk : 0 ≤ kd ∧ kd ≤ 255 := by have := (s.data.toList.getD 0 0).toNat_lt; omega
  have hbn : n ≤ 255 := by have := (s.data.toList.getD 9 0).toNat_lt; omega
  have e0 : ∀ hh, ((s[0]'hh).toNat : Int) = kd := fun hh => by rw [hkd, byte_at s 0 hh]
  have e9 : ∀ hh, ((s[9]'hh).toNat : Int) = n := fun hh => by rw [hn, byte_at s 9 hh]
  have i1 : (1 : Int) ≤ s.size := by omega
  have i9 : (9 : Int) ≤ s.size := by omega
  have j0 : 0 < s.size := by omega
  have j9 : (9 : Int) < s.size := by omega
  have hRC : refC s.data.toList = if kd = 2 then n else 0 := by unfold refC; rw [← hkd, ← hn]
  have hl10 : ¬ s.data.toList.length < 10 := by simpa using h
  have hsl : s.data.toList.length = s.size := by simp
  have HLEN : Hid (¬ s.size = 10 + 8 * n + 2 * (if kd = 2 then n else 0) → G = none) := fun hx => by
    rw [← HG.out]; refine refmk_len hl10 ?_; rw [hRC, ← hn, hsl]; exact hx
  have HEND : Hid (s.size = 10 + 8 * n + 2 * (if kd = 2 then n else 0) → G = if mkB ⟨kd, tx, chunk 2 (if kd = 2 then n else 0) ((s.data.toList.drop 10).drop (8 * n)), chunk 8 n (s.data.toList.drop 10)⟩ then some ⟨kd, tx, chunk 2 (if kd = 2 then n else 0) ((s.data.toList.drop 10).drop (8 * n)), chunk 8 n (s.data.toList.drop 10)⟩ else none) := fun hx => by
    rw [← HG.out, refmk_end hl10 (by rw [hRC, ← hn, hsl]; exact hx)]
    unfold mkOf
    rw [hRC, ← hn, ← hkd, ← show tx = _ from htx]
  have HWF : Hid (∀ c, (⟨kd, tx, chunk 2 c ((s.data.toList.drop 10).drop (8 * n)), chunk 8 n (s.data.toList.drop 10)⟩ : Mk).wf) := fun c => by
    have := mkOf_wf s.data.toList c
    unfold mkOf at this
    rw [← hn, ← hkd, ← show tx = _ from htx] at this
    exact this
  clear htx hkd hn hRC hl10 hsl HTX HKD HN HG
  go_enter Tryd.func70, Tryd.ntmps70
  go_upto_region 3 with fail
  go_cut [4] (fun s4 wx => ∃ b, s4 = .pointer (some ⟨b, 0, none⟩) ∧ Blk wx w.heap.size #[.int .u8 0, .int .u64 0, .slice none 0 0, .slice none 0 0] 48 ∧
    Blk wx b #[.int .u8 kd, .int .u64 tx, .slice none 0 0, .slice none 0 0] 48 ∧ w.heap.size + 1 ≤ b ∧ Below w.heap.size w wx)
  case first =>
    refine region_last 7 _ [false, false, false, false, true, false, false, false, false, false, false, false, false, true, true, true, true, true, true, false, false, false, false, false, false, false, false, false, false, false, false, false, false, false, false, false, false, false, false, false, false, false, false, false, false, false, false, false, false, false, false, false, false, false, false, false, false, false, false, false, false, false, false, false, false, false, false, false, false, false, false, false, false, false, false, false, false, false, false, false, false, false] [13, 14, 15, 16, 17, 18, 4] [.val (.string s), .val (.int .u8 kd), .val (.string s), .val (.string (s.extract 1 9)), .val (.int .u64 tx), .val (.agg #[.int .u8 kd, .int .u64 tx, .slice none 0 0, .slice none 0 0]), .mem (fun v w2 => ∃ b, v = .pointer (some ⟨b, 0, none⟩) ∧ Blk w2 b #[.int .u8 0, .int .u64 0, .slice none 0 0, .slice none 0 0] 48 ∧ w.heap.size + 1 ≤ b) (fun v w2 w3 ⟨b, h1, h2, h3⟩ hb => ⟨b, h1, h2.ext hb, h3⟩)] [5, 6] (by kernel_rfl) (by kernel_rfl) rfl (by kernel_rfl) (by kernel_rfl) (by kernel_rfl) (by kernel_rfl) (by kernel_rfl) ⟨?_, ?_, ?_, ?_, ?_, ?_, ?_, trivial⟩ ?done
    case done =>
      intro x w2 hb2
      simp only [StepGoal, List.getD_cons_zero, List.getD_cons_succ]
      rintro v ⟨b, rfl, hb, hbb⟩ K hK
      have hZ := (Blk.new w #[.int .u8 0, .int .u64 0, .slice none 0 0, .slice none 0 0] 48).ext hb2
      have hBw : Below w.heap.size w w2 := bt (by repeat (first | exact Below.refl _ _ | assumption | refine Below.drew ?_ | refine below_drewN ?_ _ | refine Below.alloc ?_ (by simp <;> omega) _)) hb2
      clear hb2
      obtain ⟨w3, rfl, lt⟩ := blk_put hb
      obtain ⟨pc, pf, pS⟩ := putBlk_facts (w := w3) 48 lt
      rw [if_pos (by rfl)]; simp only [overlay, upd, cond_true, cond_false, Nat.reduceEqDiff, reduceIte]
      go_simp
      refine hK.out _ _ ?_
      go_wp2_with fail
      go_meet
      exact ⟨b, rfl, putBlk_old hZ (by omega) _, putBlk_blk _ _ lt, hbb, putBlk_belows hBw (by omega) _⟩
    all_goals
      intro x w2 hb2
      intro K hK
      rw [if_pos (by rfl)]; simp only [overlay, upd, cond_true, cond_false, List.getD_cons_zero, List.getD_cons_succ, Nat.reduceEqDiff, reduceIte]
      go_simp
      first
        | exact hK.out _ _ (Below.refl _ _) rfl
        | exact hK.out _ _ (by repeat (first | exact Below.refl _ _ | assumption | refine Below.drew ?_ | refine below_drewN ?_ _ | refine Below.alloc ?_ (by simp <;> omega) _)) ⟨_, rfl, Blk.new _ _ _, by have := hb2.size; simp at this; omega⟩
        | ((with_reducible refine (H8.out _).mono ?_); rintro e wa ⟨rfl, rfl⟩; go_wp2_with fail; exact hK.out _ _ (Below.refl _ _) rfl)
  case rest =>
    obtain ⟨b, rfl, hZ, hE, hbb, hB1⟩ := hcut
    obtain ⟨i0, hi0, hz0, hz1, hz2⟩ := info_parts info_u64
    obtain ⟨i3, hi3, hy0, hy1, hy2⟩ := info_parts info_i64
    have HHZ := Lib.hid hZ
    have HHE := Lib.hid hE
    clear hZ H8 i1 i9 j0 e0
    obtain ⟨_, y0, y1, y2, y3⟩ := mk4 hE
    clear hE
    by_cases hsz : s.size = 10 + 8 * n + 2 * (if kd = 2 then n else 0)
    · have HGE := Lib.hid (HEND.out hsz)
      have HSZ := Lib.hid hsz
      clear HLEN HEND
      by_cases hk2 : kd = 2
      · rw [if_pos hk2] at hsz HGE
        subst hk2
        have hq1 : ((s.size : Int) != 10 + 8 * (n : Int) + 2 * (n : Int)) = false := by rw [bne_eq_false_iff_eq]; omega
        have hsz1 : s.size ≤ 10 + 8 * n + 2 * n := by omega
        have hsz2 : 10 + 8 * n + 2 * n ≤ s.size := by omega
        clear hsz HSZ
        go_wp2_with fail
        go_loopw [7] (fun i wr => ∃ (j : Nat) (A : Option Addr) (c : Nat) (B : Option Addr) (d : Nat), j ≤ n ∧ i = .int .i64 j ∧ Hid (Blk wr w.heap.size #[.int .u8 0, .int .u64 0, .slice none 0 0, .slice none 0 0] 48) ∧ Hid (Blk wr b #[.int .u8 2, .int .u64 tx, .slice B j d, .slice A j c] 48) ∧ Hid (wr.ownsRow w.heap.size 3 1 (.slice B j d) j ((chunk 2 j ((s.data.toList.drop 10).drop (8 * n))).map (Value.int .i64))) ∧ Hid (wr.ownsRow w.heap.size 22 1 (.slice A j c) j ((chunk 8 j (s.data.toList.drop 10)).map (Value.int .u64))) ∧ Below w.heap.size w wr) (fun i _ => n - (intOf i).toNat)
        case atStart => exact ⟨0, none, 0, none, 0, by omega, rfl, HHZ.out, HHE.out, World.ownsRow_nil _ _ _ _, World.ownsRow_nil _ _ _ _, hB1⟩
        case round =>
          clear HHZ HHE y0 y1 y2 y3 hB1
          obtain ⟨j, A, c, B, d, hj, rfl, HZ, HE, HOC, HOS, hbw⟩ := hrel
          by_cases hlt : j < n
          · have z8 : (s.extract (10 + 8 * j) (18 + 8 * j)).size = 8 := by simp [ByteArray.size_extract]; omega
            have HC8 := Lib.hid (refvalue8 (s.extract (10 + 8 * j) (18 + 8 * j)) (by omega) (by omega))
            rw [slice_at] at HC8
            obtain ⟨v, hv⟩ : ∃ q : Int, q = (valL (List.take (18 + 8 * j - (10 + 8 * j)) (List.drop (10 + 8 * j) s.data.toList)) : Nat) := ⟨_, rfl⟩
            rw [← hv] at HC8
            have HV := Lib.hid hv
            have q1 : (10 + 8 * (j : Int)).toNat = 10 + 8 * j := by omega
            have q2 : (18 + 8 * (j : Int)).toNat = 18 + 8 * j := by omega
            have q3 : 18 + 8 * (j : Int) ≤ s.size := by omega
            have q4 : 10 + 8 * (j : Int) ≤ 18 + 8 * (j : Int) := by omega
            have q5 : 0 ≤ 10 + 8 * (j : Int) := by omega
            have q13 : IntKind.i64.wrap (8 * (j : Int)) = 8 * (j : Int) := by rw [IntKind.wrap_i64]; omega
            have q14 : IntKind.i64.wrap (10 + 8 * (j : Int)) = 10 + 8 * (j : Int) := by rw [IntKind.wrap_i64]; omega
            have q15 : IntKind.i64.wrap (18 + 8 * (j : Int)) = 18 + 8 * (j : Int) := by rw [IntKind.wrap_i64]; omega
            clear hv z8
            go_wp2_with fail
            refine region_app 14 12 _ [false, false, false, false, false, false, false, false, false, false, false, false, false, false, false, false, false, false, false, false, false, false, false, false, false, false, false, false, false, false, false, false, false, false, false, false, false, false, false, false, false, false, true, true, true, true, true, true, true, true, true, true, true, true, true, true, false, false, false, false, false, false, false, false, false, false, false, false, false, false, false, false, false, false, false, false, false, false, false, false, false, false] [42, 43, 44, 45, 46, 47, 48, 49, 50, 51, 52, 53, 54, 55] [.val (.pointer (some ⟨b, 3, none⟩)), .val (.slice A j c), .val (.string s), .val (.int .i64 j), .val (.int .i64 (8 * (j : Int))), .val (.int .i64 (10 + 8 * (j : Int))), .val (.int .i64 j), .val (.int .i64 (8 * (j : Int))), .val (.int .i64 (18 + 8 * (j : Int))), .val (.string (s.extract (10 + 8 * j) (18 + 8 * j))), .val (.int .u64 v), .new (fun g => .slice (some ⟨g, 0, none⟩) 1 1) #[.int .u64 v] 22, kAny, .val (.pointer (some ⟨b, 3, none⟩))] [13] (fun _ => True) (fun v' w' => ∃ A' c', v' = .slice A' (j + 1) c' ∧ w'.ownsRow w.heap.size 22 1 v' (j + 1) ((chunk 8 j (s.data.toList.drop 10)).map (Value.int .u64) ++ [.int .u64 v]) ∧ w'.ownsRow w.heap.size 3 1 (.slice B j d) j ((chunk 2 j ((s.data.toList.drop 10).drop (8 * n))).map (Value.int .i64)) ∧ Blk w' w.heap.size #[.int .u8 0, .int .u64 0, .slice none 0 0, .slice none 0 0] 48 ∧ Blk w' b #[.int .u8 2, .int .u64 tx, .slice B j d, .slice A j c] 48 ∧ Below w.heap.size w w') [1, 11] [13] (fun _ _ => trivial) (fun _ _ _ => trivial) (by kernel_rfl) (by kernel_rfl) rfl (by decide) (by kernel_rfl) (by kernel_rfl) (by kernel_rfl) (by kernel_rfl) rfl (by kernel_rfl) (by kernel_rfl) (by kernel_rfl) (by kernel_rfl) (by kernel_rfl) ⟨?_, ?_, ?_, ?_, ?_, ?_, ?_, ?_, ?_, ?_, ?_, ?_, ?app, ?_, trivial⟩ ?done
            case app =>
              intro x w2 hb2
              simp only [StepGoal, List.getD_cons_zero, List.getD_cons_succ]
              intro bq hq K hK
              rw [if_pos (by rfl)]
              simp only [overlay, upd, cond_true, cond_false, Nat.reduceEqDiff, reduceIte]
              have hcl := chunk_length 8 j (s.data.toList.drop 10)
              have hsz2 := hb2.size
              have hsz1 := hbw.size
              refine wp_append_own w2 (.tmp 43) (.tmp 53) 46 rfl w.heap.size 22 i0 _ 1 8 Tryd.underlying46 hi0 hz0 hz1 hz2 rfl (by decide) (.slice A j c) j _ rfl (own_below HOS.out hb2) ⟨bq, 0, none⟩ 1 1 [.int .u64 v] rfl rfl (cells_blk1 hq) (by simp [Value.oneCell']) (by simp only [maxLen]; omega) (by omega) (by omega) ?_
              intro v' w' ho' hg' _
              obtain ⟨A', c', rfl⟩ := own_form ho'
              have hoC := own_below HOC.out hb2
              have hoS := own_below HOS.out hb2
              refine hK.out _ _ ⟨A', c', rfl, ho', own_grown hoC hg' (own_far hoC hoS (by decide)), (HZ.out.ext hb2).grown hoS (by decide) hg', (HE.out.ext hb2).grown hoS (by decide) hg', ?_⟩
              exact (bt hbw hb2).grown hg' (by omega) (own_ge hoS)
            case done =>
              rintro x w2 v2 ⟨A', c', rfl, ho', hoC, hZ', hE', hbw'⟩
              simp only [StepGoal, List.getD_cons_zero, List.getD_cons_succ]
              intro K hK
              obtain ⟨w3, rfl, lt⟩ := blk_put hE'
              obtain ⟨pc, pf, pS⟩ := putBlk_facts (w := w3) 48 lt
              have HZ4 := Lib.hid (putBlk_old hZ' (by omega) #[.int .u8 2, .int .u64 tx, .slice B j d, .slice A' (j + 1) c'])
              have HE4 := Lib.hid (putBlk_blk #[.int .u8 2, .int .u64 tx, .slice B j d, .slice A' (j + 1) c'] 48 lt)
              have HO4 := Lib.hid (own_put ho' lt (by decide) #[.int .u8 2, .int .u64 tx, .slice B j d, .slice A' (j + 1) c'])
              have HC4 := Lib.hid (own_put hoC lt (by decide) #[.int .u8 2, .int .u64 tx, .slice B j d, .slice A' (j + 1) c'])
              have HB4 := Lib.hid (putBlk_belows hbw' (by omega) #[.int .u8 2, .int .u64 tx, .slice B j d, .slice A' (j + 1) c'])
              have HS4 : Hid ((putBlk w3 b #[.int .u8 2, .int .u64 tx, .slice B j d, .slice A' (j + 1) c'] 48).ownsRow w.heap.size 22 1 (.slice A' (j + 1) c') (j + 1) ((chunk 8 (j + 1) (s.data.toList.drop 10)).map (Value.int .u64))) := by
                have h4 := HO4.out
                rw [HV.out] at h4
                show World.ownsRow _ _ _ _ _ _ _
                rw [chunk_snoc, List.map_append, List.drop_drop]
                rw [show 18 + 8 * j - (10 + 8 * j) = 8 by omega] at h4
                exact h4
              clear hZ' hE' ho' hoC hbw' HO4 HC8 HV HOS HOC HZ HE hbw
              rw [if_pos (by rfl)]; simp only [overlay, upd, cond_true, cond_false, Nat.reduceEqDiff, reduceIte]
              go_simp
              refine hK.out _ _ ?_
              have z2 : (s.extract (10 + 8 * n + 2 * j) (10 + 8 * n + 2 * j + 2)).size = 2 := by simp [ByteArray.size_extract]; omega
              have HC2 := Lib.hid (refvalue2 (s.extract (10 + 8 * n + 2 * j) (10 + 8 * n + 2 * j + 2)) (by omega) (by omega))
              rw [slice_at] at HC2
              obtain ⟨u, hu⟩ : ∃ q : Int, q = (valL (List.take (10 + 8 * n + 2 * j + 2 - (10 + 8 * n + 2 * j)) (List.drop (10 + 8 * n + 2 * j) s.data.toList)) : Nat) := ⟨_, rfl⟩
              have bu : 0 ≤ u ∧ u < 65536 := by have := valL_bound (List.take (10 + 8 * n + 2 * j + 2 - (10 + 8 * n + 2 * j)) (List.drop (10 + 8 * n + 2 * j) s.data.toList)) 2 (by simp; omega); omega
              rw [← hu] at HC2
              have HU := Lib.hid hu
              have wu : IntKind.i64.wrap u = u := by rw [IntKind.wrap_i64]; omega
              obtain ⟨at1, hat⟩ : ∃ q : Int, q = 10 + 8 * (n : Int) + 2 * (j : Int) := ⟨_, rfl⟩
              have hat' : 10 + 8 * (n : Int) + 2 * (j : Int) = at1 := hat.symm
              have q6 : at1.toNat = 10 + 8 * n + 2 * j := by omega
              have q7 : (at1 + 2).toNat = 10 + 8 * n + 2 * j + 2 := by omega
              have q8 : at1 + 2 ≤ s.size := by omega
              have q9 : 0 ≤ at1 ∧ at1 ≤ 10000 := by omega
              have q10 : IntKind.i64.wrap (at1 + 2) = at1 + 2 := by rw [IntKind.wrap_i64]; omega
              have q11 : 0 ≤ at1 + 2 := by omega
              have q12 : at1 ≤ at1 + 2 := by omega
              clear hu z2 hat pc pf pS lt
              obtain ⟨_, y0, y1, y2, y3⟩ := mk4 HE4.out
              generalize putBlk w3 b #[.int .u8 2, .int .u64 tx, .slice B j d, .slice A' (j + 1) c'] 48 = W4 at HZ4 HE4 HS4 HC4 HB4 y0 y1 y2 y3 ⊢
              go_wp2_with fail
              clear y0 y1 y2 y3
              refine region_app 12 10 _ [false, false, false, false, false, false, false, false, false, false, false, false, false, false, false, false, false, false, false, false, false, false, false, false, false, false, false, false, false, false, false, false, false, false, false, false, false, false, false, false, false, false, false, false, false, false, false, false, false, false, false, false, false, false, false, false, false, false, false, false, false, false, false, false, false, true, true, true, true, true, true, true, true, true, true, true, true, false, false, false, false, false] [65, 66, 67, 68, 69, 70, 71, 72, 73, 74, 75, 76] [.val (.pointer (some ⟨b, 2, none⟩)), .val (.slice B j d), .val (.string s), .val (.int .i64 at1), .val (.int .i64 at1), .val (.int .i64 (at1 + 2)), .val (.string (s.extract (10 + 8 * n + 2 * j) (10 + 8 * n + 2 * j + 2))), .val (.int .u64 u), .val (.int .i64 u), .new (fun g => .slice (some ⟨g, 0, none⟩) 1 1) #[.int .i64 u] 3, kAny, .val (.pointer (some ⟨b, 2, none⟩))] [11] (fun _ => True) (fun v' w' => ∃ B' d', v' = .slice B' (j + 1) d' ∧ w'.ownsRow w.heap.size 3 1 v' (j + 1) ((chunk 2 j ((s.data.toList.drop 10).drop (8 * n))).map (Value.int .i64) ++ [.int .i64 u]) ∧ w'.ownsRow w.heap.size 22 1 (.slice A' (j + 1) c') (j + 1) ((chunk 8 (j + 1) (s.data.toList.drop 10)).map (Value.int .u64)) ∧ Blk w' w.heap.size #[.int .u8 0, .int .u64 0, .slice none 0 0, .slice none 0 0] 48 ∧ Blk w' b #[.int .u8 2, .int .u64 tx, .slice B j d, .slice A' (j + 1) c'] 48 ∧ Below w.heap.size w w') [1, 9] [11] (fun _ _ => trivial) (fun _ _ _ => trivial) (by kernel_rfl) (by kernel_rfl) rfl (by decide) (by kernel_rfl) (by kernel_rfl) (by kernel_rfl) (by kernel_rfl) rfl (by kernel_rfl) (by kernel_rfl) (by kernel_rfl) (by kernel_rfl) (by kernel_rfl) ⟨?_, ?_, ?_, ?_, ?_, ?_, ?_, ?_, ?_, ?_, ?app2, ?_, trivial⟩ ?done2
              case app2 =>
                intro x w2 hb2
                simp only [StepGoal, List.getD_cons_zero, List.getD_cons_succ]
                intro bq hq K hK
                rw [if_pos (by rfl)]
                simp only [overlay, upd, cond_true, cond_false, Nat.reduceEqDiff, reduceIte]
                have hcl := chunk_length 2 j ((s.data.toList.drop 10).drop (8 * n))
                have hsz2 := hb2.size
                have hsz1 := HB4.out.size
                have hoS := own_below HS4.out hb2
                have hoC := own_below HC4.out hb2
                refine wp_append_own w2 (.tmp 66) (.tmp 74) 45 rfl w.heap.size 3 i3 _ 1 8 Tryd.underlying45 hi3 hy0 hy1 hy2 rfl (by decide) (.slice B j d) j _ rfl hoC ⟨bq, 0, none⟩ 1 1 [.int .i64 u] rfl rfl (cells_blk1 hq) (by simp [Value.oneCell']) (by simp only [maxLen]; omega) (by omega) (by omega) ?_
                intro v' w' ho' hg' _
                obtain ⟨B', d', rfl⟩ := own_form ho'
                refine hK.out _ _ ⟨B', d', rfl, ho', own_grown hoS hg' (own_far hoS hoC (by decide)), (HZ4.out.ext hb2).grown hoC (by decide) hg', (HE4.out.ext hb2).grown hoC (by decide) hg', ?_⟩
                exact (bt HB4.out hb2).grown hg' (by omega) (own_ge hoC)
              case done2 =>
                rintro x w2 v2 ⟨B', d', rfl, ho', hoS, hZ', hE', hbw'⟩
                simp only [StepGoal, List.getD_cons_zero, List.getD_cons_succ]
                intro K hK
                obtain ⟨w3, rfl, lt⟩ := blk_put hE'
                obtain ⟨pc, pf, pS⟩ := putBlk_facts (w := w3) 48 lt
                have HZ6 := Lib.hid (putBlk_old hZ' (by omega) #[.int .u8 2, .int .u64 tx, .slice B' (j + 1) d', .slice A' (j + 1) c'])
                have HE6 := Lib.hid (putBlk_blk #[.int .u8 2, .int .u64 tx, .slice B' (j + 1) d', .slice A' (j + 1) c'] 48 lt)
                have HO6 := Lib.hid (own_put ho' lt (by decide) #[.int .u8 2, .int .u64 tx, .slice B' (j + 1) d', .slice A' (j + 1) c'])
                have HS6 := Lib.hid (own_put hoS lt (by decide) #[.int .u8 2, .int .u64 tx, .slice B' (j + 1) d', .slice A' (j + 1) c'])
                have HB6 := Lib.hid (putBlk_belows hbw' (by omega) #[.int .u8 2, .int .u64 tx, .slice B' (j + 1) d', .slice A' (j + 1) c'])
                have HC6 : Hid ((putBlk w3 b #[.int .u8 2, .int .u64 tx, .slice B' (j + 1) d', .slice A' (j + 1) c'] 48).ownsRow w.heap.size 3 1 (.slice B' (j + 1) d') (j + 1) ((chunk 2 (j + 1) ((s.data.toList.drop 10).drop (8 * n))).map (Value.int .i64))) := by
                  have h4 := HO6.out
                  rw [HU.out] at h4
                  show World.ownsRow _ _ _ _ _ _ _
                  have e : ((s.data.toList.drop 10).drop (8 * n)).drop (2 * j) = s.data.toList.drop (10 + 8 * n + 2 * j) := by rw [List.drop_drop, List.drop_drop, Nat.add_assoc]
                  rw [chunk_snoc, List.map_append, e]
                  rw [show 10 + 8 * n + 2 * j + 2 - (10 + 8 * n + 2 * j) = 2 by omega] at h4
                  exact h4
                clear hZ' hE' ho' hoS hbw' HO6 HC2 HU HS4 HC4 HZ4 HE4 HB4
                rw [if_pos (by rfl)]; simp only [overlay, upd, cond_true, cond_false, Nat.reduceEqDiff, reduceIte]
                go_simp
                refine hK.out _ _ ?_
                go_wp2_with fail
                go_roundw
                case rel => exact ⟨j + 1, A', c', B', d', by omega, by go_num, HZ6, HE6, HC6, HS6, HB6.out⟩
                case measure => simp [intOf]; omega
              all_goals
                intro x w2 hb2
                intro K hK
                (try (have hm4 := mk4 (HE4.out.ext hb2); obtain ⟨_, y0, y1, y2, y3⟩ := hm4))
                rw [if_pos (by rfl)]; simp only [overlay, upd, cond_true, cond_false, List.getD_cons_zero, List.getD_cons_succ, Nat.reduceEqDiff, reduceIte]
                go_simp
                first
                  | exact hK.out _ _ (Below.refl _ _) rfl
                  | exact hK.out _ rfl
                  | exact hK.out _ _ (by repeat (first | exact Below.refl _ _ | assumption | refine Below.drew ?_ | refine below_drewN ?_ _ | refine Below.alloc ?_ (by simp <;> omega) _)) ⟨_, rfl, Blk.new _ _ _⟩
                  | ((with_reducible refine (HC2.out _).mono ?_); rintro e wa ⟨rfl, rfl⟩; go_wp2_with fail; exact hK.out _ _ (Below.refl _ _) rfl)
            all_goals
              intro x w2 hb2
              intro K hK
              (try (have hm4 := mk4 (HE.out.ext hb2); obtain ⟨_, y0, y1, y2, y3⟩ := hm4))
              rw [if_pos (by rfl)]; simp only [overlay, upd, cond_true, cond_false, List.getD_cons_zero, List.getD_cons_succ, Nat.reduceEqDiff, reduceIte]
              go_simp
              first
                | exact hK.out _ _ (Below.refl _ _) rfl
                | exact hK.out _ rfl
                | exact hK.out _ _ (by repeat (first | exact Below.refl _ _ | assumption | refine Below.drew ?_ | refine below_drewN ?_ _ | refine Below.alloc ?_ (by simp <;> omega) _)) ⟨_, rfl, Blk.new _ _ _⟩
                | ((with_reducible refine (HC8.out _).mono ?_); rintro e wa ⟨rfl, rfl⟩; go_wp2_with fail; exact hK.out _ _ (Below.refl _ _) rfl)
          · obtain rfl : j = n := by omega
            have hC1 := (NRow.of_own (by rw [chunk_length]; omega) HOC.out).1
            have hck := maymark_any ⟨2, tx, chunk 2 j ((s.data.toList.drop 10).drop (8 * j)), chunk 8 j (s.data.toList.drop 10)⟩ B A d c wr (HWF.out _) hC1 (by simp only [chunk_length]; omega)
            simp only [mkCells, chunk_length] at hck
            have HCK := Lib.hid hck
            obtain ⟨_, y0, y1, y2, y3⟩ := mk4 HE.out
            clear hck hC1 hlt hj HWF
            cases hb : mkB ⟨2, tx, chunk 2 j ((s.data.toList.drop 10).drop (8 * j)), chunk 8 j (s.data.toList.drop 10)⟩
            · rw [hb] at HCK HGE
              have hGn : Hid (G = none) := HGE
              clear hb
              go_wp2_with fail
              refine HCK.out.mono ?_
              rintro r w2 ⟨rfl, hb2⟩
              have hbw2 := bt hbw hb2
              have hZ6 := HZ.out.ext hb2
              clear hb2 HCK hbw y0 y1 y2 y3
              obtain ⟨w7, rfl, lt⟩ := blk_put hZ6
              obtain ⟨pc, pf, pS⟩ := putBlk_facts (w := w7) 48 lt
              clear hZ6
              go_wp2_with fail
              refine bodyPost_ret (v := .tuple #[.agg (mkCells ⟨0, 0, [], []⟩ (.slice none 0 0) (.slice none 0 0)), .int .i64 7]) (by simp [results, Tryd.results70, go_sem, mkCells, pc]) rfl ?_
              rw [hGn.out]
              exact ⟨putBlk_belows hbw2 (by omega) _, rfl⟩
            · rw [hb] at HCK HGE
              clear hb
              go_wp2_with fail
              refine HCK.out.mono ?_
              rintro r w2 ⟨rfl, hb2⟩
              have hbw2 := bt hbw hb2
              have hZ2 := HZ.out.ext hb2
              have HE2 := Lib.hid (HE.out.ext hb2)
              have HC2 := Lib.hid (own_below HOC.out hb2)
              have HS2 := Lib.hid (own_below HOS.out hb2)
              clear hb2 HCK hbw y0 y1 y2 y3
              obtain ⟨_, y0, y1, y2, y3⟩ := mk4 HE2.out
              obtain ⟨w3, rfl, lt⟩ := blk_put hZ2
              obtain ⟨pc, pf, pS⟩ := putBlk_facts (w := w3) 48 lt
              clear hZ2
              go_wp2_with fail
              refine bodyPost_ret (v := .tuple #[.agg (mkCells ⟨2, tx, chunk 2 j ((s.data.toList.drop 10).drop (8 * j)), chunk 8 j (s.data.toList.drop 10)⟩ (.slice B j d) (.slice A j c)), .int .i64 0]) (by simp [results, Tryd.results70, go_sem, mkCells, pc]) rfl ?_
              rw [show G = some _ from HGE]
              refine ⟨putBlk_belows hbw2 (by omega) _, B, d, A, c, by simp only [chunk_length], ?_, ?_⟩
              · exact (NRow.of_own (by rw [chunk_length]; omega) (own_put HC2.out lt (by decide) _)).1
              · exact (NRow.of_own (by rw [chunk_length]; omega) (own_put HS2.out lt (by decide) _)).1
      · rw [if_neg hk2] at hsz HGE
        have hk2' : (kd == 2) = false := beq_eq_false_iff_ne.2 hk2
        have hq1 : ((s.size : Int) != 10 + 8 * (n : Int)) = false := by rw [bne_eq_false_iff_eq]; omega
        have hsz1 : s.size ≤ 10 + 8 * n := by omega
        have hsz2 : 10 + 8 * n ≤ s.size := by omega
        clear hsz HSZ hk2
        go_wp2_with fail
        go_loopw [7] (fun i wr => ∃ (j : Nat) (A : Option Addr) (c : Nat) (B : Option Addr) (d : Nat), j ≤ n ∧ i = .int .i64 j ∧ Hid (Blk wr w.heap.size #[.int .u8 0, .int .u64 0, .slice none 0 0, .slice none 0 0] 48) ∧ Hid (Blk wr b #[.int .u8 kd, .int .u64 tx, .slice B 0 d, .slice A j c] 48) ∧ Hid (wr.ownsRow w.heap.size 3 1 (.slice B 0 d) 0 ((chunk 2 0 ((s.data.toList.drop 10).drop (8 * n))).map (Value.int .i64))) ∧ Hid (wr.ownsRow w.heap.size 22 1 (.slice A j c) j ((chunk 8 j (s.data.toList.drop 10)).map (Value.int .u64))) ∧ Below w.heap.size w wr) (fun i _ => n - (intOf i).toNat)
        case atStart => exact ⟨0, none, 0, none, 0, by omega, rfl, HHZ.out, HHE.out, World.ownsRow_nil _ _ _ _, World.ownsRow_nil _ _ _ _, hB1⟩
        case round =>
          clear HHZ HHE y0 y1 y2 y3 hB1
          obtain ⟨j, A, c, B, d, hj, rfl, HZ, HE, HOC, HOS, hbw⟩ := hrel
          by_cases hlt : j < n
          · have z8 : (s.extract (10 + 8 * j) (18 + 8 * j)).size = 8 := by simp [ByteArray.size_extract]; omega
            have HC8 := Lib.hid (refvalue8 (s.extract (10 + 8 * j) (18 + 8 * j)) (by omega) (by omega))
            rw [slice_at] at HC8
            obtain ⟨v, hv⟩ : ∃ q : Int, q = (valL (List.take (18 + 8 * j - (10 + 8 * j)) (List.drop (10 + 8 * j) s.data.toList)) : Nat) := ⟨_, rfl⟩
            rw [← hv] at HC8
            have HV := Lib.hid hv
            have q1 : (10 + 8 * (j : Int)).toNat = 10 + 8 * j := by omega
            have q2 : (18 + 8 * (j : Int)).toNat = 18 + 8 * j := by omega
            have q3 : 18 + 8 * (j : Int) ≤ s.size := by omega
            have q4 : 10 + 8 * (j : Int) ≤ 18 + 8 * (j : Int) := by omega
            have q5 : 0 ≤ 10 + 8 * (j : Int) := by omega
            have q13 : IntKind.i64.wrap (8 * (j : Int)) = 8 * (j : Int) := by rw [IntKind.wrap_i64]; omega
            have q14 : IntKind.i64.wrap (10 + 8 * (j : Int)) = 10 + 8 * (j : Int) := by rw [IntKind.wrap_i64]; omega
            have q15 : IntKind.i64.wrap (18 + 8 * (j : Int)) = 18 + 8 * (j : Int) := by rw [IntKind.wrap_i64]; omega
            clear hv z8
            go_wp2_with fail
            refine region_app 14 12 _ [false, false, false, false, false, false, false, false, false, false, false, false, false, false, false, false, false, false, false, false, false, false, false, false, false, false, false, false, false, false, false, false, false, false, false, false, false, false, false, false, false, false, true, true, true, true, true, true, true, true, true, true, true, true, true, true, false, false, false, false, false, false, false, false, false, false, false, false, false, false, false, false, false, false, false, false, false, false, false, false, false, false] [42, 43, 44, 45, 46, 47, 48, 49, 50, 51, 52, 53, 54, 55] [.val (.pointer (some ⟨b, 3, none⟩)), .val (.slice A j c), .val (.string s), .val (.int .i64 j), .val (.int .i64 (8 * (j : Int))), .val (.int .i64 (10 + 8 * (j : Int))), .val (.int .i64 j), .val (.int .i64 (8 * (j : Int))), .val (.int .i64 (18 + 8 * (j : Int))), .val (.string (s.extract (10 + 8 * j) (18 + 8 * j))), .val (.int .u64 v), .new (fun g => .slice (some ⟨g, 0, none⟩) 1 1) #[.int .u64 v] 22, kAny, .val (.pointer (some ⟨b, 3, none⟩))] [13] (fun _ => True) (fun v' w' => ∃ A' c', v' = .slice A' (j + 1) c' ∧ w'.ownsRow w.heap.size 22 1 v' (j + 1) ((chunk 8 j (s.data.toList.drop 10)).map (Value.int .u64) ++ [.int .u64 v]) ∧ w'.ownsRow w.heap.size 3 1 (.slice B 0 d) 0 ((chunk 2 0 ((s.data.toList.drop 10).drop (8 * n))).map (Value.int .i64)) ∧ Blk w' w.heap.size #[.int .u8 0, .int .u64 0, .slice none 0 0, .slice none 0 0] 48 ∧ Blk w' b #[.int .u8 kd, .int .u64 tx, .slice B 0 d, .slice A j c] 48 ∧ Below w.heap.size w w') [1, 11] [13] (fun _ _ => trivial) (fun _ _ _ => trivial) (by kernel_rfl) (by kernel_rfl) rfl (by decide) (by kernel_rfl) (by kernel_rfl) (by kernel_rfl) (by kernel_rfl) rfl (by kernel_rfl) (by kernel_rfl) (by kernel_rfl) (by kernel_rfl) (by kernel_rfl) ⟨?_, ?_, ?_, ?_, ?_, ?_, ?_, ?_, ?_, ?_, ?_, ?_, ?app, ?_, trivial⟩ ?done
            case app =>
              intro x w2 hb2
              simp only [StepGoal, List.getD_cons_zero, List.getD_cons_succ]
              intro bq hq K hK
              rw [if_pos (by rfl)]
              simp only [overlay, upd, cond_true, cond_false, Nat.reduceEqDiff, reduceIte]
              have hcl := chunk_length 8 j (s.data.toList.drop 10)
              have hsz2 := hb2.size
              have hsz1 := hbw.size
              refine wp_append_own w2 (.tmp 43) (.tmp 53) 46 rfl w.heap.size 22 i0 _ 1 8 Tryd.underlying46 hi0 hz0 hz1 hz2 rfl (by decide) (.slice A j c) j _ rfl (own_below HOS.out hb2) ⟨bq, 0, none⟩ 1 1 [.int .u64 v] rfl rfl (cells_blk1 hq) (by simp [Value.oneCell']) (by simp only [maxLen]; omega) (by omega) (by omega) ?_
              intro v' w' ho' hg' _
              obtain ⟨A', c', rfl⟩ := own_form ho'
              have hoC := own_below HOC.out hb2
              have hoS := own_below HOS.out hb2
              refine hK.out _ _ ⟨A', c', rfl, ho', own_grown hoC hg' (own_far hoC hoS (by decide)), (HZ.out.ext hb2).grown hoS (by decide) hg', (HE.out.ext hb2).grown hoS (by decide) hg', ?_⟩
              exact (bt hbw hb2).grown hg' (by omega) (own_ge hoS)
            case done =>
              rintro x w2 v2 ⟨A', c', rfl, ho', hoC, hZ', hE', hbw'⟩
              simp only [StepGoal, List.getD_cons_zero, List.getD_cons_succ]
              intro K hK
              obtain ⟨w3, rfl, lt⟩ := blk_put hE'
              obtain ⟨pc, pf, pS⟩ := putBlk_facts (w := w3) 48 lt
              have HZ4 := Lib.hid (putBlk_old hZ' (by omega) #[.int .u8 kd, .int .u64 tx, .slice B 0 d, .slice A' (j + 1) c'])
              have HE4 := Lib.hid (putBlk_blk #[.int .u8 kd, .int .u64 tx, .slice B 0 d, .slice A' (j + 1) c'] 48 lt)
              have HO4 := Lib.hid (own_put ho' lt (by decide) #[.int .u8 kd, .int .u64 tx, .slice B 0 d, .slice A' (j + 1) c'])
              have HC4 := Lib.hid (own_put hoC lt (by decide) #[.int .u8 kd, .int .u64 tx, .slice B 0 d, .slice A' (j + 1) c'])
              have HB4 := Lib.hid (putBlk_belows hbw' (by omega) #[.int .u8 kd, .int .u64 tx, .slice B 0 d, .slice A' (j + 1) c'])
              have HS4 : Hid ((putBlk w3 b #[.int .u8 kd, .int .u64 tx, .slice B 0 d, .slice A' (j + 1) c'] 48).ownsRow w.heap.size 22 1 (.slice A' (j + 1) c') (j + 1) ((chunk 8 (j + 1) (s.data.toList.drop 10)).map (Value.int .u64))) := by
                have h4 := HO4.out
                rw [HV.out] at h4
                show World.ownsRow _ _ _ _ _ _ _
                rw [chunk_snoc, List.map_append, List.drop_drop]
                rw [show 18 + 8 * j - (10 + 8 * j) = 8 by omega] at h4
                exact h4
              clear hZ' hE' ho' hoC hbw' HO4 HC8 HV HOS HOC HZ HE hbw
              rw [if_pos (by rfl)]; simp only [overlay, upd, cond_true, cond_false, Nat.reduceEqDiff, reduceIte]
              go_simp
              refine hK.out _ _ ?_
              go_wp2_with fail
              go_roundw
              case rel => exact ⟨j + 1, A', c', B, d, by omega, by go_num, HZ4, HE4, HC4, HS4, HB4.out⟩
              case measure => simp [intOf]; omega
            all_goals
              intro x w2 hb2
              intro K hK
              (try (have hm4 := mk4 (HE.out.ext hb2); obtain ⟨_, y0, y1, y2, y3⟩ := hm4))
              rw [if_pos (by rfl)]; simp only [overlay, upd, cond_true, cond_false, List.getD_cons_zero, List.getD_cons_succ, Nat.reduceEqDiff, reduceIte]
              go_simp
              first
                | exact hK.out _ _ (Below.refl _ _) rfl
                | exact hK.out _ rfl
                | exact hK.out _ _ (by repeat (first | exact Below.refl _ _ | assumption | refine Below.drew ?_ | refine below_drewN ?_ _ | refine Below.alloc ?_ (by simp <;> omega) _)) ⟨_, rfl, Blk.new _ _ _⟩
                | ((with_reducible refine (HC8.out _).mono ?_); rintro e wa ⟨rfl, rfl⟩; go_wp2_with fail; exact hK.out _ _ (Below.refl _ _) rfl)
          · obtain rfl : j = n := by omega
            have hC1 := (NRow.of_own (by rw [chunk_length]; omega) HOC.out).1
            have hck := maymark_any ⟨kd, tx, chunk 2 0 ((s.data.toList.drop 10).drop (8 * j)), chunk 8 j (s.data.toList.drop 10)⟩ B A d c wr (HWF.out _) hC1 (by simp only [chunk_length]; omega)
            simp only [mkCells, chunk_length] at hck
            have HCK := Lib.hid hck
            obtain ⟨_, y0, y1, y2, y3⟩ := mk4 HE.out
            clear hck hC1 hlt hj HWF
            cases hb : mkB ⟨kd, tx, chunk 2 0 ((s.data.toList.drop 10).drop (8 * j)), chunk 8 j (s.data.toList.drop 10)⟩
            · rw [hb] at HCK HGE
              have hGn : Hid (G = none) := HGE
              clear hb
              go_wp2_with fail
              refine HCK.out.mono ?_
              rintro r w2 ⟨rfl, hb2⟩
              have hbw2 := bt hbw hb2
              have hZ6 := HZ.out.ext hb2
              clear hb2 HCK hbw y0 y1 y2 y3
              obtain ⟨w7, rfl, lt⟩ := blk_put hZ6
              obtain ⟨pc, pf, pS⟩ := putBlk_facts (w := w7) 48 lt
              clear hZ6
              go_wp2_with fail
              refine bodyPost_ret (v := .tuple #[.agg (mkCells ⟨0, 0, [], []⟩ (.slice none 0 0) (.slice none 0 0)), .int .i64 7]) (by simp [results, Tryd.results70, go_sem, mkCells, pc]) rfl ?_
              rw [hGn.out]
              exact ⟨putBlk_belows hbw2 (by omega) _, rfl⟩
            · rw [hb] at HCK HGE
              clear hb
              go_wp2_with fail
              refine HCK.out.mono ?_
              rintro r w2 ⟨rfl, hb2⟩
              have hbw2 := bt hbw hb2
              have hZ2 := HZ.out.ext hb2
              have HE2 := Lib.hid (HE.out.ext hb2)
              have HC2 := Lib.hid (own_below HOC.out hb2)
              have HS2 := Lib.hid (own_below HOS.out hb2)
              clear hb2 HCK hbw y0 y1 y2 y3
              obtain ⟨_, y0, y1, y2, y3⟩ := mk4 HE2.out
              obtain ⟨w3, rfl, lt⟩ := blk_put hZ2
              obtain ⟨pc, pf, pS⟩ := putBlk_facts (w := w3) 48 lt
              clear hZ2
              go_wp2_with fail
              refine bodyPost_ret (v := .tuple #[.agg (mkCells ⟨kd, tx, chunk 2 0 ((s.data.toList.drop 10).drop (8 * j)), chunk 8 j (s.data.toList.drop 10)⟩ (.slice B 0 d) (.slice A j c)), .int .i64 0]) (by simp [results, Tryd.results70, go_sem, mkCells, pc]) rfl ?_
              rw [show G = some _ from HGE]
              refine ⟨putBlk_belows hbw2 (by omega) _, B, d, A, c, by simp only [chunk_length], ?_, ?_⟩
              · exact (NRow.of_own (by rw [chunk_length]; omega) (own_put HC2.out lt (by decide) _)).1
              · exact (NRow.of_own (by rw [chunk_length]; omega) (own_put HS2.out lt (by decide) _)).1
    · have hGn := Lib.hid (HLEN.out hsz)
      clear HLEN HEND
      have hbw2 := hB1
      have hZ6 := HHZ.out
      by_cases hk2 : kd = 2
      · rw [if_pos hk2] at hsz
        have hq1 : ((s.size : Int) != 10 + 8 * (n : Int) + 2 * (n : Int)) = true := by rw [bne_iff_ne]; omega
        subst hk2
        clear hsz HHZ hB1
        obtain ⟨w7, rfl, lt⟩ := blk_put hZ6
        obtain ⟨pc, pf, pS⟩ := putBlk_facts (w := w7) 48 lt
        clear hZ6
        go_wp2_with fail
        refine bodyPost_ret (v := .tuple #[.agg (mkCells ⟨0, 0, [], []⟩ (.slice none 0 0) (.slice none 0 0)), .int .i64 7]) (by simp [results, Tryd.results70, go_sem, mkCells, pc]) rfl ?_
        rw [hGn.out]
        exact ⟨putBlk_belows hbw2 (by omega) _, rfl⟩
      · rw [if_neg hk2] at hsz
        have hq1 : ((s.size : Int) != 10 + 8 * (n : Int)) = true := by rw [bne_iff_ne]; omega
        have hk2' : (kd == 2) = false := beq_eq_false_iff_ne.2 hk2
        clear hsz HHZ hB1 hk2
        obtain ⟨w7, rfl, lt⟩ := blk_put hZ6
        obtain ⟨pc, pf, pS⟩ := putBlk_facts (w := w7) 48 lt
        clear hZ6
        go_wp2_with fail
        refine bodyPost_ret (v := .tuple #[.agg (mkCells ⟨0, 0, [], []⟩ (.slice none 0 0) (.slice none 0 0)), .int .i64 7]) (by simp [results, Tryd.results70, go_sem, mkCells, pc]) rfl ?_
        rw [hGn.out]
        exact ⟨putBlk_belows hbw2 (by omega) _, rfl⟩
theorem refgetmark_any (s : ByteArray) (w : World) (hs : s.size ≤ 140737488355328) :
    Calls Tryd.prog 70 #[.string s] w (MkPost w (mkGet s.data.toList)) := by
  rw [mkget_ref]
  by_cases h : s.size < 10
  · have e : refMkGet s.data.toList = none := by unfold refMkGet; rw [if_pos (by simpa using h)]
    rw [e]
    exact refgetmark_short s w h
  · exact refgetmark_long s w (by omega) hs
end Go.Proofs.YtjdfodmialhakaaDoor
