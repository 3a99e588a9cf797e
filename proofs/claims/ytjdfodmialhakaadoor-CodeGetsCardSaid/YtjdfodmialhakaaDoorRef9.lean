/- The contract of the reference's GetRow: the same row as the code's. -/
import Derived.Test.YtjdfodmialhakaaDoorPlain4
namespace Go.Proofs.YtjdfodmialhakaaDoor
open Go.RowKit

theorem cells_new5 (w : World) (o : Obj) (a b c d : Value) (t : TypeId) : ∀ j u, [a, b, c, d][j]? = some u → ((w.alloc o).alloc (.cells #[a, b, c, d] t)).cell? ((⟨w.heap.size + 1, 0, none⟩ : Addr).add j) = some u := by
  have h := cells_new4 (w.alloc o) a b c d t
  have e : (w.alloc o).heap.size = w.heap.size + 1 := by simp
  rw [e] at h
  exact h
theorem refget_at (s : ByteArray) (hs : s.size ≤ 140737488355328) (pos : Nat) (w : World) (hT : Tabs w) :
    Calls Tryd.prog 29 #[.string (s.extract pos s.size)] w fun e w' => e = .returned (trip (getV (s.data.toList.drop pos))) ∧ Below w.heap.size w w' := by
  have := refget_any (s.extract pos s.size) (by rw [ByteArray.size_extract]; omega) w hT
  rw [tail_list, ← getV_refG] at this
  exact this
theorem ret_row {tmps : Array Value} {W : World} (a b c : Value) (h2 : tmps.getD 2 undef = a) (h3 : tmps.getD 3 undef = b) (h4 : tmps.getD 4 undef = c) :
    (results Tryd.f30 tmps).run Tryd.prog W = .ok (.tuple #[a, b, c]) W := by
  have h2' : tmps[2]?.getD undef = a := by simpa using h2
  have h3' : tmps[3]?.getD undef = b := by simpa using h3
  have h4' : tmps[4]?.getD undef = c := by simpa using h4
  simp only [results, Tryd.results30]
  simp [h2', h3', h4']
set_option maxRecDepth 100000 in
theorem refgetrow_nil (w : World) :
    Calls Tryd.prog 30 #[.string ByteArray.empty] w (RowPost w (getRow [])) := by
  go_enter Tryd.func30, Tryd.ntmps30
  go_wp2
  exact bodyPost_ret (ret_row _ _ _ rfl rfl rfl) rfl ⟨Below.refl _ _, .inr ⟨by decide, rfl⟩⟩
set_option maxRecDepth 100000 in
set_option maxHeartbeats 400000 in
theorem refgetrow_cons (s : ByteArray) (w : World) (hs : s.size ≤ 140737488355328) (hT : Tabs w) (c : UInt8) (r : List UInt8) (hl : s.data.toList = c :: r) :
    Calls Tryd.prog 30 #[.string s] w (RowPost w (getRow (c :: r))) := by
  obtain ⟨hlt, e2, e3, e4⟩ := hd_lt (p := 0) (by rw [List.drop_zero]; exact hl)
  obtain ⟨p0, e0⟩ := head_at (s := s) (i := 0) (c := c) (by rw [hl]; rfl)
  rw [Nat.zero_add] at e3
  have HTw := Lib.hid hT
  have g0 : ((s.size : Int) == 0) = false := by rw [beq_eq_false_iff_ne]; omega
  have hb : (c.toNat : Int) < 256 := by have := c.toNat_lt; omega
  have hb0 : (0 : Int) ≤ (c.toNat : Int) := by omega
  have HE3 := Lib.hid e3
  clear e2 e3 e4 hl hT
  by_cases hcount : c.toNat < 1 ∨ 8 < c.toNat
  · have e : getRow (c :: r) = (7, [], 0) := by rw [getRow, if_pos hcount]
    rw [e]
    clear e
    rcases hcount with hcount | hcount
    · have hi : (c.toNat : Int) < 1 := by omega
      clear hcount
      go_enter Tryd.func30, Tryd.ntmps30
      go_wp2
      exact bodyPost_ret (ret_row _ _ _ rfl rfl rfl) rfl ⟨Below.refl _ _, .inr ⟨by decide, rfl⟩⟩
    · have hi : (8 : Int) < c.toNat := by omega
      clear hcount
      go_enter Tryd.func30, Tryd.ntmps30
      go_wp2
      exact bodyPost_ret (ret_row _ _ _ rfl rfl rfl) rfl ⟨Below.refl _ _, .inr ⟨by decide, rfl⟩⟩
  · have e : getRow (c :: r) = joinR [] 1 (getVs c.toNat r) := by rw [getRow, if_neg hcount, joinR]; simp
    rw [e]
    clear e
    have hc1 : (1 : Int) ≤ c.toNat := by omega
    have hc8 : (c.toNat : Int) ≤ 8 := by omega
    clear hcount
    obtain ⟨R, hR⟩ : ∃ R, R = joinR [] 1 (getVs c.toNat r) := ⟨_, rfl⟩
    rw [← hR]
    have HR := Lib.hid hR
    clear hR
    obtain ⟨i0, hi0, hz0, hz1, hz2⟩ := info_parts info_V
    go_enter Tryd.func30, Tryd.ntmps30
    go_wp2
    go_loopw [5, 7, 8] (fun p out i wr => ∃ (k pos : Nat) (vs : List V), k ≤ c.toNat ∧ p = .int .i64 pos ∧ i = .int .i64 k ∧ pos ≤ s.size ∧ Hid (R = joinR vs pos (getVs (c.toNat - k) (s.data.toList.drop pos))) ∧ wr.ownsRow w.heap.size 24 4 out k (rowCells vs) ∧ Below w.heap.size w wr) (fun _ _ i _ => c.toNat - (intOf i).toNat)
    case atStart => exact ⟨0, 1, [], by omega, rfl, rfl, by omega, (by rw [← HE3.out]; exact HR.out : _ = _), World.ownsRow_nil _ _ _ _, Below.refl _ _⟩
    case round =>
      obtain ⟨k, pos, vs, hk, rfl, rfl, hpos, HRR, hown, hbw⟩ := hrel
      by_cases hlt' : k < c.toNat
      · have hli : (k : Int) < c.toNat := by omega
        obtain ⟨m, hm⟩ : ∃ m, c.toNat - k = m + 1 := ⟨c.toNat - k - 1, by omega⟩
        have hval := refget_at s hs pos wr (HTw.out.ext hbw)
        have hsl := slice_tail s pos hpos
        by_cases hv : (getV (s.data.toList.drop pos)).1 = 0
        · have hle := (getV_le (s.data.toList.drop pos) hv).1
          have hjoin := HRR.out
          rw [hm, join_ok hv, List.drop_drop] at hjoin
          rw [List.length_drop] at hle
          unfold trip at hval
          rw [hv] at hval
          generalize (getV (s.data.toList.drop pos)).2.2 = z at hval hle hjoin
          generalize (getV (s.data.toList.drop pos)).2.1 = v at hval hjoin
          have hmk : m = c.toNat - (k + 1) := by omega
          rw [hmk] at hjoin
          have HJ := Lib.hid hjoin
          have hposz : pos + z ≤ s.size := by have : s.data.toList.length = s.size := by simp
                                              omega
          obtain ⟨vk, vn, vr, vt⟩ := v
          unfold V.agg at hval
          have HVAL := Lib.hid hval
          clear hval hjoin hmk hm hv hle HRR
          go_wp2_with (first
            | (go_at_call 29; refine (HVAL.out).mono ?_; rintro e w2 ⟨rfl, hB2⟩; have hown2 := own_grown hown (only_below hB2 none) (.inl rfl); have hb2 := bt hbw hB2; clear hB2 hown hbw HVAL)
            | (at_builtin; refine wpList_append_own _ rfl _ _ 25 rfl w.heap.size 24 i0 _ 4 40 Tryd.underlying25 hi0 hz0 hz1 hz2 rfl (by decide) _ k (rowCells vs) rfl ((hown2.alloc _).alloc _) ⟨w2.heap.size + 1, 0, none⟩ 1 1 [.int .u8 vk, .int .i64 vn, .int .u64 vr, .string vt] rfl rfl (cells_new5 w2 _ _ _ _ _ _) ?c2 ?c3 ?c4 ?c5 ?_))
          case c2 => simp [Value.oneCell']
          case c3 => simp only [maxLen]; omega
          case c4 => omega
          case c5 => have := hb2.size; simp; omega
          intro v' w3 hown3 hg3 _
          have hown4 : w3.ownsRow w.heap.size 24 4 v' (k + 1) (rowCells (vs ++ [⟨vk, vn, vr, vt⟩])) := by rw [rowCells_snoc]; exact hown3
          have hbw3 : Below w.heap.size w w3 := ((hb2.alloc hb2.size _).alloc (by have := hb2.size; simp; omega) _).grown hg3 (by have := hb2.size; simp; omega) (own_ge hown2)
          clear hown3 hg3 hown2 hb2
          go_wp2
          go_roundw
          case rel => exact ⟨k + 1, pos + z, vs ++ [⟨vk, vn, vr, vt⟩], by omega, by go_num, by go_num, hposz, HJ, hown4, hbw3⟩
          case measure => simp [intOf]; omega
        · have hjoin := HRR.out
          rw [hm, join_no hv] at hjoin
          unfold trip at hval
          generalize (getV (s.data.toList.drop pos)).1 = E at hval hjoin hv
          generalize (getV (s.data.toList.drop pos)).2.2 = z at hval
          generalize (getV (s.data.toList.drop pos)).2.1 = v at hval
          obtain ⟨vk, vn, vr, vt⟩ := v
          unfold V.agg at hval
          have gE : (E == 0) = false := by rw [beq_eq_false_iff_ne]; exact hv
          have HJ := Lib.hid hjoin
          have HVAL := Lib.hid hval
          have HEV := Lib.hid hv
          clear hval hjoin hm hv HRR
          go_wp2_with (go_at_call 29; refine (HVAL.out).mono ?_; rintro e w2 ⟨rfl, hB2⟩; have hb2 := bt hbw hB2)
          refine bodyPost_ret (ret_row _ _ _ rfl rfl rfl) rfl ⟨hb2.alloc hb2.size _, .inr ⟨?_, ?_⟩⟩
          · rw [HJ.out]; exact HEV.out
          · rw [HJ.out]; rfl
      · have hli : (c.toNat : Int) ≤ k := by omega
        have hkk : k = c.toNat := by omega
        have hjoin := HRR.out
        rw [hkk, Nat.sub_self, getVs, joinR] at hjoin
        simp only [if_true, List.append_nil, Nat.add_zero] at hjoin
        rw [hkk] at hown
        have hlen : c.toNat = vs.length := by have := hown.1; rw [rowCells_length] at this; omega
        rw [hlen] at hown
        obtain ⟨A, cc, rfl⟩ : ∃ A cc, u7 = .slice A vs.length cc := by
          rcases hown.2 with ⟨rfl, h⟩ | ⟨g', cap, cur, rfl, _⟩
          · exact ⟨none, 0, by rw [h]⟩
          · exact ⟨_, _, rfl⟩
        subst hjoin
        have HOWN := Lib.hid hown
        have HKK := Lib.hid hkk
        clear hkk HRR hown hlen HR
        go_wp2
        exact bodyPost_ret (ret_row _ _ _ rfl rfl rfl) rfl ⟨hbw, .inl ⟨rfl, A, cc, rfl, HOWN.out⟩⟩
theorem refgetrow_any (s : ByteArray) (w : World) (hs : s.size ≤ 140737488355328) (hT : Tabs w) :
    Calls Tryd.prog 30 #[.string s] w (RowPost w (getRow s.data.toList)) := by
  cases hl : s.data.toList with
  | nil =>
    obtain rfl : s = ByteArray.empty := by
      obtain ⟨⟨l⟩⟩ := s
      simp only at hl
      subst hl
      rfl
    exact refgetrow_nil w
  | cons c r => exact refgetrow_cons s w hs hT c r hl
end Go.Proofs.YtjdfodmialhakaaDoor
