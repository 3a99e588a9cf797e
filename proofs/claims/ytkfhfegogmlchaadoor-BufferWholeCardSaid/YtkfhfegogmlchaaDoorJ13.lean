/- Several texts in one: see each part's head. -/
import Derived.Test.YtkfhfegogmlchaaDoorJ12
import Derived.Test.YtkfhfegogmlchaaDoorJ11
import Derived.Test.YtkfhfegogmlchaaDoorJ10
/- event.GetMark: which mark bytes are. -/
namespace Go.Proofs.YtkfhfegogmlchaaDoor
open Go.RowKit

/-- So many numbers of w bytes each. -/
def chunk (w : Nat) : Nat → List UInt8 → List Int
  | 0, _ => []
  | k + 1, l => (valL (l.take w) : Int) :: chunk w k (l.drop w)
theorem chunk_length (w : Nat) : ∀ k l, (chunk w k l).length = k
  | 0, _ => rfl
  | k + 1, l => by simp [chunk, chunk_length w k]
theorem chunk_snoc (w : Nat) : ∀ k l, chunk w (k + 1) l = chunk w k l ++ [(valL ((l.drop (w * k)).take w) : Int)]
  | 0, l => by simp [chunk]
  | k + 1, l => by
    rw [chunk, chunk_snoc w k (l.drop w), chunk]
    simp only [List.cons_append, List.drop_drop, List.cons.injEq, true_and]
    rw [show w + w * k = w * (k + 1) by rw [Nat.mul_succ, Nat.add_comm]]
def mkOf (b : List UInt8) (c : Nat) : Mk := ⟨(b.getD 0 0).toNat, valL ((b.drop 1).take 8), chunk 2 c ((b.drop 10).drop (8 * (b.getD 9 0).toNat)), chunk 8 (b.getD 9 0).toNat (b.drop 10)⟩
/-- How many counts are read. -/
def mkC (b : List UInt8) : Nat := min (b.getD 9 0).toNat (((b.drop 10).length - 8 * (b.getD 9 0).toNat) / 2)
def mkGet (b : List UInt8) : Option Mk :=
  if b.length < 10 ∨ (b.drop 10).length < 8 * (b.getD 9 0).toNat then none
  else if (b.drop 10).length - 8 * (b.getD 9 0).toNat = 2 * mkC b then (if mkB (mkOf b (mkC b)) then some (mkOf b (mkC b)) else none) else none
def MkPost (w : World) (R : Option Mk) (e : Ending) (w' : World) : Prop :=
  Below w.heap.size w w' ∧ match R with
  | none => e = .returned (.tuple #[.agg (mkCells ⟨0, 0, [], []⟩ (.slice none 0 0) (.slice none 0 0)), .int .i64 7])
  | some m => ∃ C c S d, e = .returned (.tuple #[.agg (mkCells m (.slice C m.cs.length c) (.slice S m.sq.length d)), .int .i64 0]) ∧ NRow .i64 w' C m.cs ∧ NRow .u64 w' S m.sq
set_option maxRecDepth 100000 in
theorem getmark_short (s : ByteArray) (w : World) (h : s.size < 10) :
    Calls Tryd.prog 29 #[.string s] w (MkPost w none) := by
  go_enter Tryd.func29, Tryd.ntmps29
  go_wp2
  refine bodyPost_ret (v := .tuple #[.agg (mkCells ⟨0, 0, [], []⟩ (.slice none 0 0) (.slice none 0 0)), .int .i64 7]) (by simp [results, Tryd.results29, go_sem, mkCells]) rfl ⟨(by repeat (first | exact Below.refl _ _ | assumption | refine Below.drew ?_ | refine below_drewN ?_ _ | refine Below.alloc ?_ (by simp <;> omega) _)), rfl⟩
theorem NRow.of_own {k : IntKind} {w : World} {base n c : Nat} {e : TypeId} {A : Option Addr} {l : List Int} (hlen : l.length ≤ 17592186044416)
    (h : w.ownsRow base e 1 (.slice A n c) n (l.map (Value.int k))) : NRow k w A l ∧ n = l.length := by
  have hn : n = l.length := by have := h.1; simp at this; omega
  refine ⟨⟨hlen, fun hl => ?_⟩, hn⟩
  have hpos : 0 < n := by rw [hn]; exact List.length_pos_iff.2 hl
  obtain ⟨g, cap, hv, _, hlt⟩ := h.form hpos
  have hA : A = some ⟨g, 0, none⟩ := by injection hv
  subst hA
  refine ⟨g, 0, rfl, hlt, fun i v hi => ?_⟩
  have hc := h.cells (g := g) rfl i (.int k v) (by rw [List.getElem?_map, hi]; rfl)
  have e : (⟨g, 0, none⟩ : Addr).add i = ⟨g, 0 + i, none⟩ := by
    unfold Addr.add; split
    · next h0 => subst h0; rfl
    · simp
  rwa [e] at hc
theorem info_u64 : (Tryd.prog.info? 29).map (fun i => (i.zero, i.size, i.bytes)) = some (some (.int .u64 0), 1, 8) := by kernel_rfl
theorem info_i64 : (Tryd.prog.info? 3).map (fun i => (i.zero, i.size, i.bytes)) = some (some (.int .i64 0), 1, 8) := by kernel_rfl
theorem mkget_none1 {b : List UInt8} (h : (b.drop 10).length < 8 * (b.getD 9 0).toNat) : mkGet b = none := by
  unfold mkGet; rw [if_pos (Or.inr h)]
theorem extract_rest (s : ByteArray) (i : Nat) : (s.extract i s.size).size = s.size - i := by simp [ByteArray.size_extract]
theorem valL_bound (l : List UInt8) (k : Nat) (h : l.length ≤ k) : valL l < 256 ^ k := Nat.lt_of_lt_of_le (valL_lt l) (Nat.pow_le_pow_right (by decide) h)
theorem chunk_bound (w : Nat) : ∀ k l (v : Int), v ∈ chunk w k l → 0 ≤ v ∧ v < ((256 ^ w : Nat) : Int)
  | 0, _, v, h => by cases h
  | k + 1, l, v, h => by
    rw [chunk] at h
    rcases List.mem_cons.1 h with rfl | h
    · have := valL_bound (l.take w) w (by simp; omega)
      exact ⟨by omega, by exact_mod_cast this⟩
    · exact chunk_bound w k _ v h
theorem mkOf_wf (b : List UInt8) (c : Nat) : (mkOf b c).wf := by
  refine ⟨⟨?_, ?_⟩, ⟨?_, ?_⟩, ?_, ?_⟩
  · simp only [mkOf]; omega
  · simp only [mkOf]; have := (b.getD 0 0).toNat_lt; omega
  · simp only [mkOf]; omega
  · simp only [mkOf]; have := valL_bound ((b.drop 1).take 8) 8 (by simp; omega); omega
  · intro v hv; have := chunk_bound 2 _ _ v hv; omega
  · intro v hv; have := chunk_bound 8 _ _ v hv; omega
theorem mkC_at {b : List UInt8} {n i r : Nat} (hn : n = (b.getD 9 0).toNat) (h : r + 2 * i + 8 * n + 10 = b.length) (hi : i ≤ n) (hx : r < 2 ∨ i = n) : mkC b = i ∧ (b.drop 10).length - 8 * (b.getD 9 0).toNat = r + 2 * i := by
  unfold mkC
  rw [← hn]
  simp only [List.length_drop]
  refine ⟨?_, by omega⟩
  rw [show b.length - 10 - 8 * n = r + 2 * i by omega]
  omega
theorem mkget_rest {b : List UInt8} {n i r : Nat} (hn : n = (b.getD 9 0).toNat) (h : r + 2 * i + 8 * n + 10 = b.length) (hi : i ≤ n) (hx : r < 2 ∨ i = n) (hr : ¬ r = 0) : mkGet b = none := by
  obtain ⟨h1, h2⟩ := mkC_at hn h hi hx
  unfold mkGet
  rw [if_neg (by rw [← hn]; simp only [List.length_drop]; omega), if_neg (by rw [h1, h2]; omega)]
theorem mkget_end {b : List UInt8} {n i : Nat} (hn : n = (b.getD 9 0).toNat) (h : 0 + 2 * i + 8 * n + 10 = b.length) (hi : i ≤ n) : mkGet b = if mkB (mkOf b i) then some (mkOf b i) else none := by
  obtain ⟨h1, h2⟩ := mkC_at hn h hi (Or.inl (by omega))
  unfold mkGet
  rw [if_neg (by rw [← hn]; simp only [List.length_drop]; omega), if_pos (by rw [h1, h2]; omega), h1]
theorem cells_blk1 {w : World} {b : Nat} {a : Value} {t : TypeId} (h : Blk w b #[a] t) : ∀ j u, [a][j]? = some u → w.cell? ((⟨b, 0, none⟩ : Addr).add j) = some u := by
  intro j u hu
  match j with
  | 0 => exact (h.cell 0).trans (by simpa using hu)
  | j + 1 => simp at hu
theorem str_empty {rb : ByteArray} (h : rb.size = 0) : rb = ByteArray.empty := by
  apply ByteArray.ext; apply Array.eq_empty_of_size_eq_zero; exact h
set_option maxRecDepth 100000 in
set_option maxHeartbeats 4000000 in
theorem getmark_long (s : ByteArray) (w : World) (h : 10 ≤ s.size) (hs : s.size ≤ 140737488355328) :
    Calls Tryd.prog 29 #[.string s] w (MkPost w (mkGet s.data.toList)) := by
  generalize hG : mkGet s.data.toList = G
  have HG := Lib.hid hG
  have z8 : (s.extract 1 9).size = 8 := by simp [ByteArray.size_extract]; omega
  have H8 := Lib.hid (evget8 (s.extract 1 9) z8)
  rw [slice_at s 1 9] at H8
  clear hG z8
  obtain ⟨tx, htx⟩ : ∃ q : Int, q = (valL (List.take (9 - 1) (List.drop 1 s.data.toList)) : Nat) := ⟨_, rfl⟩
  rw [← htx] at H8
  have HTX := Lib.hid htx
  obtain ⟨kd, hkd⟩ : ∃ q : Int, q = ((s.data.toList.getD 0 0).toNat : Int) := ⟨_, rfl⟩
  obtain ⟨n, hn⟩ : ∃ q : Nat, q = (s.data.toList.getD 9 0).toNat := ⟨_, rfl⟩
  have HKD := Lib.hid hkd
  have HN := Lib.hid hn
  have hbk : 0 ≤ kd ∧ kd ≤ 255 := by have := (s.data.toList.getD 0 0).toNat_lt; omega
  have hbn : n ≤ 255 := by have := (s.data.toList.getD 9 0).toNat_lt; omega
  have e0 : ∀ hh, ((s[0]'hh).toNat : Int) = kd := fun hh => by rw [hkd, byte_at s 0 hh]
  have e9 : ∀ hh, ((s[9]'hh).toNat : Int) = n := fun hh => by rw [hn, byte_at s 9 hh]
  have i1 : (1 : Int) ≤ s.size := by omega
  have i9 : (9 : Int) ≤ s.size := by omega
  have j0 : 0 < s.size := by omega
  have j9 : (9 : Int) < s.size := by omega
  clear htx hkd hn
  go_enter Tryd.func29, Tryd.ntmps29
  go_upto_region 3 with fail
  go_cut [4] (fun s4 wx => ∃ b, s4 = .pointer (some ⟨b, 0, none⟩) ∧ Blk wx w.heap.size #[.int .u8 0, .int .u64 0, .slice none 0 0, .slice none 0 0] 50 ∧
    Blk wx b #[.int .u8 kd, .int .u64 tx, .slice none 0 0, .slice none 0 0] 50 ∧ w.heap.size + 1 ≤ b ∧ Below w.heap.size w wx)
  case first =>
    refine region_last 7 _ [false, false, false, false, true, false, false, false, false, false, false, true, true, true, true, true, true, false, false, false, false, false, false, false, false, false, false, false, false, false, false, false, false, false, false, false, false, false, false, false, false, false, false, false, false, false, false, false, false, false, false, false, false, false, false, false, false, false, false, false, false, false, false, false, false, false, false, false, false] [11, 12, 13, 14, 15, 16, 4] [.val (.string s), .val (.int .u8 kd), .val (.string s), .val (.string (s.extract 1 9)), .val (.int .u64 tx), .val (.agg #[.int .u8 kd, .int .u64 tx, .slice none 0 0, .slice none 0 0]), .mem (fun v w2 => ∃ b, v = .pointer (some ⟨b, 0, none⟩) ∧ Blk w2 b #[.int .u8 0, .int .u64 0, .slice none 0 0, .slice none 0 0] 50 ∧ w.heap.size + 1 ≤ b) (fun v w2 w3 ⟨b, h1, h2, h3⟩ hb => ⟨b, h1, h2.ext hb, h3⟩)] [5, 6] (by kernel_rfl) (by kernel_rfl) rfl (by kernel_rfl) (by kernel_rfl) (by kernel_rfl) (by kernel_rfl) (by kernel_rfl) ⟨?_, ?_, ?_, ?_, ?_, ?_, ?_, trivial⟩ ?done
    case done =>
      intro x w2 hb2
      simp only [StepGoal, List.getD_cons_zero, List.getD_cons_succ]
      rintro v ⟨b, rfl, hb, hbb⟩ K hK
      have hZ := (Blk.new w #[.int .u8 0, .int .u64 0, .slice none 0 0, .slice none 0 0] 50).ext hb2
      have hBw : Below w.heap.size w w2 := bt (by repeat (first | exact Below.refl _ _ | assumption | refine Below.drew ?_ | refine below_drewN ?_ _ | refine Below.alloc ?_ (by simp <;> omega) _)) hb2
      clear hb2
      obtain ⟨w3, rfl, lt⟩ := blk_put hb
      obtain ⟨pc, pf, pS⟩ := putBlk_facts (w := w3) 50 lt
      rw [if_pos (by rfl)]; simp only [overlay, upd, cond_true, cond_false, Nat.reduceEqDiff, reduceIte]
      go_simp
      refine hK.out _ _ ?_
      go_wp2_with fail
      go_meet
      exact ⟨b, rfl, putBlk_old hZ (by omega) _, putBlk_blk _ _ lt, hbb, putBlk_belows hBw (by omega) _⟩
    all_goals
      intro x w2 hb2
      intro K hK
      rw [if_pos (by rfl)]; simp only [overlay, upd, cond_true, cond_false, List.getD_cons_zero, List.getD_cons_succ, Nat.reduceEqDiff, reduceIte]
      go_simp
      first
        | exact hK.out _ _ (Below.refl _ _) rfl
        | exact hK.out _ _ (by repeat (first | exact Below.refl _ _ | assumption | refine Below.drew ?_ | refine below_drewN ?_ _ | refine Below.alloc ?_ (by simp <;> omega) _)) ⟨_, rfl, Blk.new _ _ _, by have := hb2.size; simp at this; omega⟩
        | ((with_reducible refine (H8.out _).mono ?_); rintro e wa ⟨rfl, rfl⟩; go_wp2_with fail; exact hK.out _ _ (Below.refl _ _) rfl)
  case rest =>
    obtain ⟨b, rfl, hZ, hE, hbb, hB1⟩ := hcut
    obtain ⟨i0, hi0, hz0, hz1, hz2⟩ := info_parts info_u64
    obtain ⟨i3, hi3, hy0, hy1, hy2⟩ := info_parts info_i64
    have HHZ := Lib.hid hZ
    have HHE := Lib.hid hE
    clear hZ hE H8 i1 i9 j0 e0
    go_wp2_with fail
    go_quiet (fail)
    go_wp2_with fail
    go_loopw [6, 23] (fun r i wr => ∃ (j : Nat) (rb : ByteArray) (A : Option Addr) (c : Nat), j ≤ n ∧ i = .int .i64 j ∧ r = .string rb ∧ rb.size + 8 * j + 10 ≤ s.size ∧ s.size ≤ rb.size + 8 * j + 10 ∧ Hid (rb.data.toList = (s.data.toList.drop 10).drop (8 * j)) ∧ Hid (Blk wr w.heap.size #[.int .u8 0, .int .u64 0, .slice none 0 0, .slice none 0 0] 50) ∧ Hid (Blk wr b #[.int .u8 kd, .int .u64 tx, .slice none 0 0, .slice A j c] 50) ∧ wr.ownsRow w.heap.size 29 1 (.slice A j c) j ((chunk 8 j (s.data.toList.drop 10)).map (Value.int .u64)) ∧ Below w.heap.size w wr) (fun _ i _ => n - (intOf i).toNat)
    case atStart => exact ⟨0, s.extract 10 s.size, none, 0, by omega, rfl, rfl, by rw [extract_rest]; omega, by rw [extract_rest]; omega, (by show _ = _; rw [drop_str]; simp), HHZ.out, HHE.out, World.ownsRow_nil _ _ _ _, below_drewN hB1 _⟩
    case round =>
      obtain ⟨j, rb, A, c, hj, rfl, rfl, hz1', hz2', HR, HZ, HE, hown, hbw⟩ := hrel
      by_cases hlt : j < n
      · by_cases h8 : rb.size < 8
        · have hGn : Hid (G = none) := by
            show _ = _
            rw [← HG.out]
            refine mkget_none1 ?_
            rw [← HN.out]
            simp only [List.length_drop, Array.length_toList]
            have : s.data.size = s.size := rfl
            omega
          have hZ2 := HZ.out
          clear hown HR
          obtain ⟨w3, rfl, lt⟩ := blk_put hZ2
          obtain ⟨pc, pf, pS⟩ := putBlk_facts (w := w3) 50 lt
          clear hZ2
          go_wp2_with fail
          refine bodyPost_ret (v := .tuple #[.agg (mkCells ⟨0, 0, [], []⟩ (.slice none 0 0) (.slice none 0 0)), .int .i64 7]) (by simp [results, Tryd.results29, go_sem, mkCells, pc]) rfl ?_; rw [hGn.out]; exact ⟨putBlk_belows hbw (by omega) _, rfl⟩
        · have z8 : (rb.extract 0 8).size = 8 := by simp [ByteArray.size_extract]; omega
          have HC8 := Lib.hid (evget8 (rb.extract 0 8) z8)
          rw [slice_at rb 0 8] at HC8
          obtain ⟨v, hv⟩ : ∃ q : Int, q = (valL (List.take (8 - 0) (List.drop 0 rb.data.toList)) : Nat) := ⟨_, rfl⟩
          rw [← hv] at HC8
          have HV := Lib.hid hv
          have HOWN := Lib.hid hown
          clear hv z8 hown
          go_wp2_with fail
          refine region_app 8 6 _ [false, false, false, false, false, false, false, false, false, false, false, false, false, false, false, false, false, false, false, false, false, false, false, false, false, false, false, false, false, true, true, true, true, true, true, true, true, false, false, false, false, false, false, false, false, false, false, false, false, false, false, false, false, false, false, false, false, false, false, false, false, false, false, false, false, false, false, false, false] [29, 30, 31, 32, 33, 34, 35, 36] [.val (.pointer (some ⟨b, 3, none⟩)), .val (.slice A j c), .val (.string rb), .val (.string (rb.extract 0 8)), .val (.int .u64 v), .new (fun g => .slice (some ⟨g, 0, none⟩) 1 1) #[.int .u64 v] 29, kAny, .val (.pointer (some ⟨b, 3, none⟩))] [7] (fun _ => True) (fun v' w' => ∃ A' c', v' = .slice A' (j + 1) c' ∧ w'.ownsRow w.heap.size 29 1 v' (j + 1) ((chunk 8 j (s.data.toList.drop 10)).map (Value.int .u64) ++ [.int .u64 v]) ∧ Blk w' w.heap.size #[.int .u8 0, .int .u64 0, .slice none 0 0, .slice none 0 0] 50 ∧ Blk w' b #[.int .u8 kd, .int .u64 tx, .slice none 0 0, .slice A j c] 50 ∧ Below w.heap.size w w') [1, 5] [7] (fun _ _ => trivial) (fun _ _ _ => trivial) (by kernel_rfl) (by kernel_rfl) rfl (by decide) (by kernel_rfl) (by kernel_rfl) (by kernel_rfl) (by kernel_rfl) rfl (by kernel_rfl) (by kernel_rfl) (by kernel_rfl) (by kernel_rfl) (by kernel_rfl) ⟨?_, ?_, ?_, ?_, ?_, ?_, ?app, ?_, trivial⟩ ?done
          case app =>
            intro x w2 hb2
            simp only [StepGoal, List.getD_cons_zero, List.getD_cons_succ]
            intro bq hq K hK
            rw [if_pos (by rfl)]
            simp only [overlay, upd, cond_true, cond_false, Nat.reduceEqDiff, reduceIte]
            have hcl := chunk_length 8 j (s.data.toList.drop 10)
            have hsz2 := hb2.size
            have hsz1 := hbw.size
            refine wp_append_own w2 (.tmp 30) (.tmp 34) 30 rfl w.heap.size 29 i0 _ 1 8 Tryd.underlying30 hi0 hz0 hz1 hz2 rfl (by decide) (.slice A j c) j _ rfl (own_below HOWN.out hb2) ⟨bq, 0, none⟩ 1 1 [.int .u64 v] rfl rfl (cells_blk1 hq) (by simp [Value.oneCell']) (by simp only [maxLen]; omega) (by omega) (by omega) ?_
            intro v' w' ho' hg' _
            obtain ⟨A', c', rfl⟩ := own_form ho'
            refine hK.out _ _ ⟨A', c', rfl, ho', (HZ.out.ext hb2).grown (own_below HOWN.out hb2) (by decide) hg', (HE.out.ext hb2).grown (own_below HOWN.out hb2) (by decide) hg', ?_⟩
            exact (bt hbw hb2).grown hg' (by omega) (own_ge (own_below HOWN.out hb2))
          case done =>
            rintro x w2 v2 ⟨A', c', rfl, ho', hZ', hE', hbw'⟩
            simp only [StepGoal, List.getD_cons_zero, List.getD_cons_succ]
            intro K hK
            obtain ⟨w3, rfl, lt⟩ := blk_put hE'
            obtain ⟨pc, pf, pS⟩ := putBlk_facts (w := w3) 50 lt
            have HZ4 := Lib.hid (putBlk_old hZ' (by omega) #[.int .u8 kd, .int .u64 tx, .slice none 0 0, .slice A' (j + 1) c'])
            have HE4 := Lib.hid (putBlk_blk #[.int .u8 kd, .int .u64 tx, .slice none 0 0, .slice A' (j + 1) c'] 50 lt)
            have HO4 := Lib.hid (own_put ho' lt (by decide) #[.int .u8 kd, .int .u64 tx, .slice none 0 0, .slice A' (j + 1) c'])
            have HB4 := Lib.hid (putBlk_belows hbw' (by omega) #[.int .u8 kd, .int .u64 tx, .slice none 0 0, .slice A' (j + 1) c'])
            clear hZ' hE' ho' hbw'
            rw [if_pos (by rfl)]; simp only [overlay, upd, cond_true, cond_false, Nat.reduceEqDiff, reduceIte]
            go_simp
            refine hK.out _ _ ?_
            go_wp2_with fail
            go_roundw
            case rel =>
              refine ⟨j + 1, rb.extract 8 rb.size, A', c', by omega, by go_num, rfl, by rw [extract_rest]; omega, by rw [extract_rest]; omega, ?_, HZ4, HE4, ?_, HB4.out⟩
              · show _ = _
                rw [drop_str, HR.out, List.drop_drop]
                rfl
              · have h4 := HO4.out
                rw [chunk_snoc, List.map_append, ← HR.out]
                rw [HV.out] at h4
                exact h4
            case measure => simp [intOf]; omega
          all_goals
            intro x w2 hb2
            intro K hK
            (try (have hm4 := mk4 (HE.out.ext hb2); obtain ⟨_, y0, y1, y2, y3⟩ := hm4))
            rw [if_pos (by rfl)]; simp only [overlay, upd, cond_true, cond_false, List.getD_cons_zero, List.getD_cons_succ, Nat.reduceEqDiff, reduceIte]
            go_simp
            first
              | exact hK.out _ _ (Below.refl _ _) rfl
              | exact hK.out _ rfl
              | exact hK.out _ _ (by repeat (first | exact Below.refl _ _ | assumption | refine Below.drew ?_ | refine below_drewN ?_ _ | refine Below.alloc ?_ (by simp <;> omega) _)) ⟨_, rfl, Blk.new _ _ _⟩
              | ((with_reducible refine (HC8.out _).mono ?_); rintro e wa ⟨rfl, rfl⟩; go_wp2_with fail; exact hK.out _ _ (Below.refl _ _) rfl)
      · obtain rfl : j = n := by omega
        have HOS := Lib.hid hown
        have HR0 : Hid (rb.data.toList = ((s.data.toList.drop 10).drop (8 * j)).drop (2 * 0)) := by show _ = _; rw [HR.out]; simp
        clear hown HR hlt hj
        go_wp2_with fail
        go_loopw [6] (fun r wr => ∃ (i : Nat) (rb : ByteArray) (B : Option Addr) (d : Nat), i ≤ j ∧ r = .string rb ∧ rb.size + 2 * i + 8 * j + 10 ≤ s.size ∧ s.size ≤ rb.size + 2 * i + 8 * j + 10 ∧ Hid (rb.data.toList = ((s.data.toList.drop 10).drop (8 * j)).drop (2 * i)) ∧ Hid (Blk wr w.heap.size #[.int .u8 0, .int .u64 0, .slice none 0 0, .slice none 0 0] 50) ∧ Hid (Blk wr b #[.int .u8 kd, .int .u64 tx, .slice B i d, .slice A j c] 50) ∧ wr.ownsRow w.heap.size 3 1 (.slice B i d) i ((chunk 2 i ((s.data.toList.drop 10).drop (8 * j))).map (Value.int .i64)) ∧ Hid (wr.ownsRow w.heap.size 29 1 (.slice A j c) j ((chunk 8 j (s.data.toList.drop 10)).map (Value.int .u64))) ∧ Below w.heap.size w wr) (fun r _ => strLen r)
        case atStart => exact ⟨0, rb, none, 0, by omega, rfl, by omega, by omega, HR0, HZ, HE, World.ownsRow_nil _ _ _ _, HOS, hbw⟩
        case round =>
          clear HZ HE HOS HR0 hz1' hz2' hbw
          obtain ⟨i, rb2, B, d, hi, rfl, hz1', hz2', HR, HZ, HE, hown, HOS, hbw⟩ := hrel
          have hMC : rb2.size < 2 ∨ i = j → Hid (∀ r, r = rb2.size → r < 2 ∨ i = j) := fun h r hr => by rw [hr]; exact h
          obtain ⟨_, y0, y1, y2, y3⟩ := mk4 HE.out
          by_cases hgo : 2 ≤ rb2.size ∧ i < j
          · obtain ⟨g2, g3⟩ := hgo
            have z2 : (rb2.extract 0 2).size = 2 := by simp [ByteArray.size_extract]; omega
            have HC8 := Lib.hid (evget2 (rb2.extract 0 2) z2)
            rw [slice_at rb2 0 2] at HC8
            obtain ⟨v, hv⟩ : ∃ q : Int, q = (valL (List.take (2 - 0) (List.drop 0 rb2.data.toList)) : Nat) := ⟨_, rfl⟩
            rw [← hv] at HC8
            have HV := Lib.hid hv
            have HOWN := Lib.hid hown
            clear hv z2 hown hMC
            go_wp2_with fail
            clear y0 y1 y2 y3
            refine region_app 8 6 _ [false, false, false, false, false, false, false, false, false, false, false, false, false, false, false, false, false, false, false, false, false, false, false, false, false, false, false, false, false, false, false, false, false, false, false, false, false, false, false, false, false, false, false, false, false, false, false, false, false, false, true, true, true, true, true, true, true, true, false, false, false, false, false, false, false, false, false, false, false] [50, 51, 52, 53, 54, 55, 56, 57] [.val (.pointer (some ⟨b, 2, none⟩)), .val (.slice B i d), .val (.string rb2), .val (.string (rb2.extract 0 2)), .val (.int .i64 v), .new (fun g => .slice (some ⟨g, 0, none⟩) 1 1) #[.int .i64 v] 3, kAny, .val (.pointer (some ⟨b, 2, none⟩))] [7] (fun _ => True) (fun v' w' => ∃ A' c', v' = .slice A' (i + 1) c' ∧ w'.ownsRow w.heap.size 3 1 v' (i + 1) ((chunk 2 i ((s.data.toList.drop 10).drop (8 * j))).map (Value.int .i64) ++ [.int .i64 v]) ∧ w'.ownsRow w.heap.size 29 1 (.slice A j c) j ((chunk 8 j (s.data.toList.drop 10)).map (Value.int .u64)) ∧ Blk w' w.heap.size #[.int .u8 0, .int .u64 0, .slice none 0 0, .slice none 0 0] 50 ∧ Blk w' b #[.int .u8 kd, .int .u64 tx, .slice B i d, .slice A j c] 50 ∧ Below w.heap.size w w') [1, 5] [7] (fun _ _ => trivial) (fun _ _ _ => trivial) (by kernel_rfl) (by kernel_rfl) rfl (by decide) (by kernel_rfl) (by kernel_rfl) (by kernel_rfl) (by kernel_rfl) rfl (by kernel_rfl) (by kernel_rfl) (by kernel_rfl) (by kernel_rfl) (by kernel_rfl) ⟨?_, ?_, ?_, ?_, ?_, ?_, ?app2, ?_, trivial⟩ ?done2
            case app2 =>
              intro x w2 hb2
              simp only [StepGoal, List.getD_cons_zero, List.getD_cons_succ]
              intro bq hq K hK
              rw [if_pos (by rfl)]
              simp only [overlay, upd, cond_true, cond_false, Nat.reduceEqDiff, reduceIte]
              have hcl := chunk_length 2 i ((s.data.toList.drop 10).drop (8 * j))
              have hsz2 := hb2.size
              have hsz1 := hbw.size
              refine wp_append_own w2 (.tmp 51) (.tmp 55) 37 rfl w.heap.size 3 i3 _ 1 8 Tryd.underlying37 hi3 hy0 hy1 hy2 rfl (by decide) (.slice B i d) i _ rfl (own_below HOWN.out hb2) ⟨bq, 0, none⟩ 1 1 [.int .i64 v] rfl rfl (cells_blk1 hq) (by simp [Value.oneCell']) (by simp only [maxLen]; omega) (by omega) (by omega) ?_
              intro v' w' ho' hg' _
              obtain ⟨A', c', rfl⟩ := own_form ho'
              have hoS := own_below HOS.out hb2
              refine hK.out _ _ ⟨A', c', rfl, ho', own_grown hoS hg' (own_far hoS (own_below HOWN.out hb2) (by decide)), (HZ.out.ext hb2).grown (own_below HOWN.out hb2) (by decide) hg', (HE.out.ext hb2).grown (own_below HOWN.out hb2) (by decide) hg', ?_⟩
              exact (bt hbw hb2).grown hg' (by omega) (own_ge (own_below HOWN.out hb2))
            case done2 =>
              rintro x w2 v2 ⟨A', c', rfl, ho', hoS, hZ', hE', hbw'⟩
              simp only [StepGoal, List.getD_cons_zero, List.getD_cons_succ]
              intro K hK
              obtain ⟨w3, rfl, lt⟩ := blk_put hE'
              obtain ⟨pc, pf, pS⟩ := putBlk_facts (w := w3) 50 lt
              have HZ4 := Lib.hid (putBlk_old hZ' (by omega) #[.int .u8 kd, .int .u64 tx, .slice A' (i + 1) c', .slice A j c])
              have HE4 := Lib.hid (putBlk_blk #[.int .u8 kd, .int .u64 tx, .slice A' (i + 1) c', .slice A j c] 50 lt)
              have HO4 := Lib.hid (own_put ho' lt (by decide) #[.int .u8 kd, .int .u64 tx, .slice A' (i + 1) c', .slice A j c])
              have HO5 := Lib.hid (own_put hoS lt (by decide) #[.int .u8 kd, .int .u64 tx, .slice A' (i + 1) c', .slice A j c])
              have HB4 := Lib.hid (putBlk_belows hbw' (by omega) #[.int .u8 kd, .int .u64 tx, .slice A' (i + 1) c', .slice A j c])
              clear hZ' hE' ho' hbw' hoS
              rw [if_pos (by rfl)]; simp only [overlay, upd, cond_true, cond_false, Nat.reduceEqDiff, reduceIte]
              go_simp
              refine hK.out _ _ ?_
              go_wp2_with fail
              go_roundw
              case rel =>
                refine ⟨i + 1, rb2.extract 2 rb2.size, A', c', by omega, rfl, by rw [extract_rest]; omega, by rw [extract_rest]; omega, ?_, HZ4, HE4, ?_, HO5, HB4.out⟩
                · show _ = _
                  rw [drop_str, HR.out, List.drop_drop]
                  rfl
                · have h4 := HO4.out
                  rw [chunk_snoc, List.map_append, ← HR.out]
                  rw [HV.out] at h4
                  exact h4
              case measure => simp [strLen, ByteArray.size_extract]; omega
            all_goals
              intro x w2 hb2
              intro K hK
              (try (have hm4 := mk4 (HE.out.ext hb2); obtain ⟨_, y0, y1, y2, y3⟩ := hm4))
              rw [if_pos (by rfl)]; simp only [overlay, upd, cond_true, cond_false, List.getD_cons_zero, List.getD_cons_succ, Nat.reduceEqDiff, reduceIte]
              go_simp
              first
                | exact hK.out _ _ (Below.refl _ _) rfl
                | exact hK.out _ rfl
                | exact hK.out _ _ (by repeat (first | exact Below.refl _ _ | assumption | refine Below.drew ?_ | refine below_drewN ?_ _ | refine Below.alloc ?_ (by simp <;> omega) _)) ⟨_, rfl, Blk.new _ _ _⟩
                | ((with_reducible refine (HC8.out _).mono ?_); rintro e wa ⟨rfl, rfl⟩; go_wp2_with fail; exact hK.out _ _ (Below.refl _ _) rfl)
          · have hx : rb2.size < 2 ∨ i = j := by omega
            have hlen : s.data.toList.length = s.size := by simp
            have HX := hMC hx
            clear hMC
            by_cases hrz : rb2.size = 0
            · have HGE : Hid (G = if mkB (mkOf s.data.toList i) then some (mkOf s.data.toList i) else none) := by
                show _ = _
                rw [← HG.out]
                exact mkget_end HN.out (by omega) hi
              obtain rfl := str_empty hrz
              have hwf := mkOf_wf s.data.toList i
              have hC1 := (NRow.of_own (by rw [chunk_length]; omega) hown).1
              have hck := ckmark_any (mkOf s.data.toList i) B A d c wr hwf (by simp only [mkOf, ← HN.out]; exact hC1) (by simp only [mkOf, ← HN.out, chunk_length]; omega)
              have em : mkOf s.data.toList i = ⟨kd, tx, chunk 2 i ((s.data.toList.drop 10).drop (8 * j)), chunk 8 j (s.data.toList.drop 10)⟩ := by
                unfold mkOf
                rw [← HN.out, HKD.out, HTX.out]
              rw [em] at hck HGE
              simp only [mkCells, chunk_length] at hck
              have HCK := Lib.hid hck
              clear hck hC1 em hwf hrz HX hlen hz1' hz2' hx hgo
              cases hb : mkB ⟨kd, tx, chunk 2 i ((s.data.toList.drop 10).drop (8 * j)), chunk 8 j (s.data.toList.drop 10)⟩
              · rw [hb] at HCK HGE
                rw [okE_f' rfl] at HCK
                have hGn : Hid (G = none) := HGE
                clear hb
                go_wp2_with fail
                refine HCK.out.mono ?_
                rintro r w2 ⟨rfl, hb2⟩
                have hbw2 := bt hbw hb2
                have hZ2 := HZ.out.ext hb2
                clear hb2 HCK hbw y0 y1 y2 y3
                have hbw := hbw2
                obtain ⟨w3, rfl, lt⟩ := blk_put hZ2
                obtain ⟨pc, pf, pS⟩ := putBlk_facts (w := w3) 50 lt
                clear hZ2 hbw2
                go_wp2_with fail
                refine bodyPost_ret (v := .tuple #[.agg (mkCells ⟨0, 0, [], []⟩ (.slice none 0 0) (.slice none 0 0)), .int .i64 7]) (by simp [results, Tryd.results29, go_sem, mkCells, pc]) rfl ?_; rw [hGn.out]; exact ⟨putBlk_belows hbw (by omega) _, rfl⟩
              · rw [hb] at HCK HGE
                rw [okE_t' rfl] at HCK
                clear hb
                go_wp2_with fail
                refine HCK.out.mono ?_
                rintro r w2 ⟨rfl, hb2⟩
                have hbw2 := bt hbw hb2
                have hZ2 := HZ.out.ext hb2
                have HE2 := Lib.hid (HE.out.ext hb2)
                have HC2 := Lib.hid (own_below hown hb2)
                have HS2 := Lib.hid (own_below HOS.out hb2)
                clear hb2 HCK hbw y0 y1 y2 y3
                obtain ⟨_, y0, y1, y2, y3⟩ := mk4 HE2.out
                obtain ⟨w3, rfl, lt⟩ := blk_put hZ2
                obtain ⟨pc, pf, pS⟩ := putBlk_facts (w := w3) 50 lt
                clear hZ2
                go_wp2_with fail
                refine bodyPost_ret (v := .tuple #[.agg (mkCells ⟨kd, tx, chunk 2 i ((s.data.toList.drop 10).drop (8 * j)), chunk 8 j (s.data.toList.drop 10)⟩ (.slice B i d) (.slice A j c)), .int .i64 0]) (by simp [results, Tryd.results29, go_sem, mkCells, pc]) rfl ?_
                rw [show G = some _ from HGE]
                refine ⟨putBlk_belows hbw2 (by omega) _, B, d, A, c, by simp only [chunk_length], ?_, ?_⟩
                · exact (NRow.of_own (by rw [chunk_length]; omega) (own_put HC2.out lt (by decide) _)).1
                · exact (NRow.of_own (by rw [chunk_length]; omega) (own_put HS2.out lt (by decide) _)).1
            · have hGn : Hid (G = none) := by
                show _ = _
                rw [← HG.out]
                exact mkget_rest HN.out (by omega) hi (HX.out _ rfl) hrz
              obtain ⟨hne, hnl⟩ := ne_empty hrz
              have hne' : (!rb2.toList.isEmpty) = true := by rw [hne]; rfl
              clear hnl hlen hrz hown
              have hZ2 := HZ.out
              have HB0 := Lib.hid hbw
              clear y0 y1 y3
              by_cases hq2 : 2 ≤ rb2.size
              · obtain rfl : i = j := by omega
                obtain ⟨w3, rfl, lt⟩ := blk_put hZ2
                obtain ⟨pc, pf, pS⟩ := putBlk_facts (w := w3) 50 lt
                clear hZ2
                go_wp2_with fail
                refine bodyPost_ret (v := .tuple #[.agg (mkCells ⟨0, 0, [], []⟩ (.slice none 0 0) (.slice none 0 0)), .int .i64 7]) (by simp [results, Tryd.results29, go_sem, mkCells, pc]) rfl ?_; rw [hGn.out]; exact ⟨putBlk_belows hbw (by omega) _, rfl⟩
              · obtain ⟨w3, rfl, lt⟩ := blk_put hZ2
                obtain ⟨pc, pf, pS⟩ := putBlk_facts (w := w3) 50 lt
                clear hZ2
                go_wp2_with fail
                refine bodyPost_ret (v := .tuple #[.agg (mkCells ⟨0, 0, [], []⟩ (.slice none 0 0) (.slice none 0 0)), .int .i64 7]) (by simp [results, Tryd.results29, go_sem, mkCells, pc]) rfl ?_; rw [hGn.out]; exact ⟨putBlk_belows hbw (by omega) _, rfl⟩
theorem getmark_any (s : ByteArray) (w : World) (hs : s.size ≤ 140737488355328) :
    Calls Tryd.prog 29 #[.string s] w (MkPost w (mkGet s.data.toList)) := by
  by_cases h : s.size < 10
  · have e : mkGet s.data.toList = none := by unfold mkGet; rw [if_pos (Or.inl (by simpa using h))]
    rw [e]
    exact getmark_short s w h
  · exact getmark_long s w (by omega) hs
end Go.Proofs.YtkfhfegogmlchaaDoor
