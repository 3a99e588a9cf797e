/- Several texts in one: see each part's head. -/
import Derived.Test.YtjdfodmialhakaaDoorCheck
import Derived.LoopN
import Derived.Laws.IdiomStrings
import Derived.Laws.BytesArg
import Derived.OwnWalk
/- Contracts of word.Put at eight bytes, code.num, and the reference's Num at eight: a number's bytes, the lowest first. -/
namespace Go.Proofs.YtjdfodmialhakaaDoor
open Go.RowKit

/-- A number's so many bytes, the lowest first. -/
def numL : Nat → Nat → List UInt8
  | 0, _ => []
  | n + 1, v => UInt8.ofNat (v % 256) :: numL n (v / 256)
theorem numL_length : ∀ n v, (numL n v).length = n
  | 0, _ => rfl
  | n + 1, v => by simp [numL, numL_length n]


theorem cell_new (w : World) (C : Array Value) (t : TypeId) (j : Nat) : (w.alloc (.cells C t)).cell? ⟨w.heap.size, j, none⟩ = C[j]? := World.cell?_alloc_mark w C t (0, 0) j
/-- 'string(b)' of a new row of bytes. -/
theorem conv_new (w : World) (xs : List Int) (n c : Nat) (hn : xs.length = n) :
    (convert 125 9 (.slice (some ⟨w.heap.size, 0, none⟩) n c)).run Tryd.prog (w.alloc (.cells (xs.map (Value.int .u8)).toArray 5)) = .ok (.string (strOfNums xs)) (w.alloc (.cells (xs.map (Value.int .u8)).toArray 5)) :=
  run_convert_bytes_arg _ 125 5 Tryd.underlying125 Tryd.underlying5 w.heap.size 0 n c xs hn (fun i hi => by
    rw [Nat.zero_add, cell_new]
    simp [List.getElem?_eq_getElem (show i < xs.length by omega)]) 9 Tryd.underlying9
theorem conv1 (w : World) (a : Int) (c : Nat) :
    (convert 125 9 (.slice (some ⟨w.heap.size, 0, none⟩) 1 c)).run Tryd.prog (w.alloc (.cells #[.int .u8 a] 5)) = .ok (.string (strOfNums [a])) (w.alloc (.cells #[.int .u8 a] 5)) :=
  conv_new w [a] 1 c rfl
theorem conv8 (w : World) (a b c d e f g h : Int) (k : Nat) :
    (convert 125 9 (.slice (some ⟨w.heap.size, 0, none⟩) 8 k)).run Tryd.prog (w.alloc (.cells #[.int .u8 a, .int .u8 b, .int .u8 c, .int .u8 d, .int .u8 e, .int .u8 f, .int .u8 g, .int .u8 h] 5)) =
      .ok (.string (strOfNums [a, b, c, d, e, f, g, h])) (w.alloc (.cells #[.int .u8 a, .int .u8 b, .int .u8 c, .int .u8 d, .int .u8 e, .int .u8 f, .int .u8 g, .int .u8 h] 5)) :=
  conv_new w [a, b, c, d, e, f, g, h] 8 k rfl
theorem num8_eq (v : Nat) (hv : v ≤ 18446744073709551615) :
    numL 8 v = [(v : Int) % 256, (v : Int) / 256 % 256, (v : Int) / 65536 % 256, (v : Int) / 16777216 % 256, (v : Int) / 4294967296 % 256, (v : Int) / 1099511627776 % 256, (v : Int) / 281474976710656 % 256, (v : Int) / 72057594037927936].map fun n => UInt8.ofNat n.toNat := by
  simp only [numL, List.map_cons, List.map_nil, Nat.div_div_eq_div_mul, List.cons.injEq, and_true]
  refine ⟨?_, ?_, ?_, ?_, ?_, ?_, ?_, ?_⟩ <;> congr 1 <;> omega
theorem strOf8 (v : Int) (h0 : 0 ≤ v) (h1 : v ≤ 18446744073709551615) :
    strOfNums [v % 256, v / 256 % 256, v / 65536 % 256, v / 16777216 % 256, v / 4294967296 % 256, v / 1099511627776 % 256, v / 281474976710656 % 256, v / 72057594037927936] = ⟨(numL 8 v.toNat).toArray⟩ := by
  obtain ⟨n, rfl⟩ := Int.eq_ofNat_of_zero_le h0
  rw [Int.toNat_natCast, num8_eq n (by omega)]
  rfl
theorem ret_tup2 {a b c d : Value} (h : a = b) (k : c = d) : Ending.returned (.tuple #[a, c]) = .returned (.tuple #[b, d]) := by rw [h, k]

set_option maxRecDepth 100000 in
theorem wput8 (v : Int) (h0 : 0 ≤ v) (h1 : v ≤ 18446744073709551615) (w : World) :
    Calls Tryd.prog 155 #[.int .u64 v, .int .i64 8] w fun e w' => e = .returned (.tuple #[.string ⟨(numL 8 v.toNat).toArray⟩, .int .i64 0]) ∧ Below w.heap.size w w' := by
  have hmk : ∀ w : World, (Instr.makeSlice 125 (.int .i64 8) (.int .i64 8)).run Tryd.prog w = .ok (.slice (some ⟨w.heap.size, 0, none⟩) 8 8) (w.alloc (.cells #[.int .u8 0, .int .u8 0, .int .u8 0, .int .u8 0, .int .u8 0, .int .u8 0, .int .u8 0, .int .u8 0] 5)) := fun _ => by kernel_rfl
  have hcv := conv8
  generalize hM : numL 8 v.toNat = M
  have HM := Lib.hid hM
  clear hM
  go_enter Tryd.func155, Tryd.ntmps155
  go_wp2
  refine wp_loop_rounds 9 ?_
  iterate 9 (rw [rounds_succ]; go_wp2)
  go_ret2
  refine ⟨ret_tup2 ?_ rfl, (Below.refl _ _).alloc (Nat.le_refl _) _⟩
  rw [← HM.out]
  exact congrArg Value.string (strOf8 v h0 h1)
theorem num_any (v : Int) (h0 : 0 ≤ v) (h1 : v ≤ 18446744073709551615) (w : World) :
    Calls Tryd.prog 95 #[.int .u64 v] w fun e w' => e = .returned (.string ⟨(numL 8 v.toNat).toArray⟩) ∧ Below w.heap.size w w' := by
  have HC := Lib.hid (wput8 v h0 h1)
  generalize numL 8 v.toNat = M at HC ⊢
  go_enter Tryd.func95, Tryd.ntmps95
  go_wp2_with (go_at_call 155; refine (HC.out _).mono ?_; rintro e w' ⟨rfl, hb⟩)
  go_ret
  exact ⟨rfl, hb⟩


def byteCell (b : UInt8) : Value := .int .u8 (b.toNat : Int)
theorem byteCell_one (u : Value) (l : List UInt8) (h : u ∈ l.map byteCell) : u.oneCell' = true := by
  simp only [List.mem_map] at h
  obtain ⟨b, _, rfl⟩ := h
  rfl
/-- 'string(b)' of a row of bytes of the call's own. -/
theorem conv_own {w : World} {base n : Nat} {v : Value} (l : List UInt8) (h : w.ownsRow base 5 1 v n (l.map byteCell)) :
    (convert 125 9 v).run Tryd.prog w = .ok (.string ⟨l.toArray⟩) w := by
  obtain ⟨hl, h | ⟨g, cap, cur, rfl, _, hg, hnc, _, hcs, htk⟩⟩ := h
  · obtain ⟨rfl, rfl⟩ := h
    have : l = [] := List.eq_nil_of_length_eq_zero (by simpa using hl)
    subst this
    exact run_convert_bytes_nil w 125 5 Tryd.underlying125 Tryd.underlying5 0 0 9 Tryd.underlying9
  · obtain rfl : n = l.length := by simpa using hl.symm
    refine run_convert_bytes_back w 125 9 5 ⟨g, 0, none⟩ cap l Tryd.underlying125 Tryd.underlying5 Tryd.underlying9 (fun j hj => ?_)
    have e : (⟨g, 0, none⟩ : Addr).add j = ⟨g, j, none⟩ := by unfold Addr.add; split <;> simp_all
    rw [e, cell_of_row w g j cur 5 (0, 0) hg]
    have : (cur.toList.take (l.length * 1))[j]? = (l.map byteCell)[j]? := by rw [htk]
    rw [List.getElem?_take_of_lt (by omega)] at this
    rw [← Array.getElem?_toList, this]
    simp [List.getElem?_eq_getElem hj, byteCell]
theorem info_u8 : (Tryd.prog.info? 5).map (fun i => (i.zero, i.size, i.bytes)) = some (some (.int .u8 0), 1, 1) := by kernel_rfl

theorem numL_step' {n k : Nat} {M : List UInt8} {q : Int} {done : List UInt8} (h : M = done ++ numL (n - k) q.toNat) (hk : k < n) (h0 : 0 ≤ q) :
    Hid (M = (done ++ [UInt8.ofNat (q.toNat % 256)]) ++ numL (n - (k + 1)) (q / 256).toNat) := by
  show M = _
  rw [h]
  obtain ⟨m, hm⟩ : ∃ m, n - k = m + 1 := ⟨n - k - 1, by omega⟩
  have e : n - (k + 1) = m := by omega
  have e2 : (q / 256).toNat = q.toNat / 256 := by omega
  rw [hm, e, e2, numL, List.append_assoc]
  rfl
theorem byteCell_ofNat (q : Int) (h : 0 ≤ q) : byteCell (UInt8.ofNat (q.toNat % 256)) = .int .u8 (q % 256) := by
  unfold byteCell
  have : ((UInt8.ofNat (q.toNat % 256)).toNat : Int) = q % 256 := by
    rw [UInt8.toNat_ofNat']; omega
  rw [this]
theorem own_ge {w : World} {base : Nat} {e : TypeId} {size n : Nat} {v : Value} {xs : List Value} (h : w.ownsRow base e size v n xs) : ∀ g, v.ownBlock = some g → base ≤ g := by
  intro g hg
  rcases h.2 with ⟨rfl, _⟩ | ⟨g', cap, cur, rfl, hb, _⟩
  · cases hg
  · have : g' = g := by simpa [Value.ownBlock] using hg
    omega
set_option maxRecDepth 100000 in
set_option maxHeartbeats 400000 in
/-- The reference's: each round appends one byte to a row of the call's own. -/
theorem refnum (v : Int) (n : Nat) (h0 : 0 ≤ v) (h1 : v ≤ 18446744073709551615) (hn : n ≤ 8) (w : World) :
    Calls Tryd.prog 99 #[.int .u64 v, .int .i64 n] w fun e w' => e = .returned (.string ⟨(numL n v.toNat).toArray⟩) ∧ Below w.heap.size w w' := by
  obtain ⟨i0, hi0, hz0, hz1, hz2⟩ := info_parts info_u8
  generalize hM : numL n v.toNat = M
  have HM := Lib.hid hM
  clear hM
  go_enter Tryd.func99, Tryd.ntmps99
  go_wp2
  go_loopw [0, 5, 6] (fun vv b i wr => ∃ (k : Nat) (q : Int) (done : List UInt8), k ≤ n ∧ i = .int .i64 k ∧ vv = .int .u64 q ∧ 0 ≤ q ∧ q ≤ 18446744073709551615 ∧ done.length = k ∧ Hid (M = done ++ numL (n - k) q.toNat) ∧ wr.ownsRow w.heap.size 5 1 b k (done.map byteCell) ∧ Below w.heap.size w wr) (fun _ _ i _ => n - (intOf i).toNat)
  case atStart => exact ⟨0, v, [], by omega, rfl, rfl, h0, h1, rfl, by rw [← HM.out]; rfl, ⟨by simp, .inl ⟨rfl, rfl⟩⟩, Below.refl _ _⟩
  case round =>
    obtain ⟨k, q, done, hk, rfl, rfl, hq0, hq1, hdl, HR, hown, hbw⟩ := hrel
    have HD := Lib.hid hdl
    clear hdl
    by_cases hlt : k < n
    · have e8 : IntKind.u8.wrap (q % 256) = q % 256 := by simp [IntKind.wrap, IntKind.bits, IntKind.signed]
      have HE := Lib.hid e8
      go_wp2_with (at_builtin; refine wpList_append_own _ rfl _ _ 125 rfl w.heap.size 5 i0 (.int .u8 0) 1 1 Tryd.underlying125 hi0 hz0 hz1 hz2 rfl (by decide) _ k (done.map byteCell) rfl (hown.alloc _) ⟨wr.heap.size, 0, none⟩ 1 1 [.int .u8 (q % 256)] rfl rfl ?c1 ?c2 ?c3 ?c4 ?c5 ?_)
      case c1 => exact cell_one_new _ _ _
      case c2 => simp [Value.oneCell']
      case c3 => simp only [maxLen]; omega
      case c4 => omega
      case c5 => have := hbw.size; simp; omega
      intro v' w1 hown1 hg1 _
      have hown2 : w1.ownsRow w.heap.size 5 1 v' (k + 1) ((done ++ [UInt8.ofNat (q.toNat % 256)]).map byteCell) := by
        rw [List.map_append, List.map_singleton, byteCell_ofNat q hq0]; exact hown1
      have hbw1 : Below w.heap.size w w1 := (hbw.alloc hbw.size _).grown hg1 (by have := hbw.size; simp; omega) (own_ge hown)
      clear hown1 hg1 hbw hown
      go_wp2
      go_roundw
      case rel => exact ⟨k + 1, q / 256, done ++ [UInt8.ofNat (q.toNat % 256)], by omega, by go_num, rfl, by omega, by omega, by simp [HD.out], numL_step' HR.out hlt hq0, hown2, hbw1⟩
      case measure => simp [intOf]; omega
    · have hcv := conv_own done hown
      obtain rfl : n = k := by omega
      have hMd : M = done := by
        have := HR.out
        rw [Nat.sub_self, numL, List.append_nil] at this
        exact this
      have HMd := Lib.hid hMd
      clear hMd
      go_wp2
      go_ret
      exact ⟨by rw [HMd.out]; rfl, hbw⟩
end Go.Proofs.YtjdfodmialhakaaDoor

/- Contracts of code.Put and of the reference's Put: which bytes any value has, or that it has none. -/
namespace Go.Proofs.YtjdfodmialhakaaDoor
open Go.RowKit

def u64of (n : Int) : Nat := (n % 18446744073709551616).toNat
/-- A value's bytes. -/
def putL (v : V) : List UInt8 :=
  UInt8.ofNat v.k.toNat ::
    (if v.k = 1 then [UInt8.ofNat v.n.toNat]
     else if v.k = 2 then numL 8 (u64of v.n)
     else if v.k = 3 then numL 8 v.r.toNat
     else if v.k = 4 ∨ v.k = 5 then UInt8.ofNat v.t.size :: v.t.data.toList
     else [])
/-- What is told of a value: its bytes and OK, or nothing and ErrArg. -/
def putR (v : V) : Value := .tuple #[.string ⟨(if mayB v then putL v else []).toArray⟩, .int .i64 (okE (mayB v))]

theorem check_yes (v : V) (hv : v.wf) (hm : mayB v = true) (w : World) (hT : Tabs w) :
    Calls Tryd.prog 94 #[v.agg] w fun e w' => e = .returned (.int .i64 0) ∧ Below w.heap.size w w' := by
  have h := check_any v hv w hT
  rw [hm] at h
  exact h
theorem check_not (v : V) (hv : v.wf) (hm : mayB v = false) (w : World) (hT : Tabs w) :
    Calls Tryd.prog 94 #[v.agg] w fun e w' => e = .returned (.int .i64 2) ∧ Below w.heap.size w w' := by
  have h := check_any v hv w hT
  rw [hm] at h
  exact h
theorem conv1b (w : World) (o : Obj) (a : Int) (c : Nat) :
    (convert 125 9 (.slice (some ⟨w.heap.size + 1, 0, none⟩) 1 c)).run Tryd.prog ((w.alloc o).alloc (.cells #[.int .u8 a] 5)) = .ok (.string (strOfNums [a])) ((w.alloc o).alloc (.cells #[.int .u8 a] 5)) := by
  have := conv1 (w.alloc o) a c
  simpa using this
theorem conv1c (w : World) (o o' : Obj) (a : Int) (c : Nat) :
    (convert 125 9 (.slice (some ⟨w.heap.size + 1 + 1, 0, none⟩) 1 c)).run Tryd.prog (((w.alloc o).alloc o').alloc (.cells #[.int .u8 a] 5)) = .ok (.string (strOfNums [a])) (((w.alloc o).alloc o').alloc (.cells #[.int .u8 a] 5)) := by
  have := conv1 ((w.alloc o).alloc o') a c
  simpa using this
theorem refnum8 (v : Int) (h0 : 0 ≤ v) (h1 : v ≤ 18446744073709551615) (w : World) :
    Calls Tryd.prog 99 #[.int .u64 v, .int .i64 8] w fun e w' => e = .returned (.string ⟨(numL 8 v.toNat).toArray⟩) ∧ Below w.heap.size w w' := refnum v 8 h0 h1 (by omega) w
theorem may_size {v : V} (h : mayB v = true) : v.t.size ≤ 100 := by
  unfold mayB at h
  repeat' split at h
  all_goals first | (simp only [Bool.and_eq_true, decide_eq_true_eq] at h; omega) | cases h
theorem bool_of {v : V} (h : mayB v = true) (hk : v.k = 1) : v.n = 0 ∨ v.n = 1 := by
  unfold mayB at h
  rw [if_neg (by omega), if_pos hk] at h
  simp at h
  omega
theorem may_kind {v : V} (hm : mayB v = true) : v.k = 0 ∨ v.k = 1 ∨ v.k = 2 ∨ v.k = 3 ∨ v.k = 4 ∨ v.k = 5 := by
  unfold mayB at hm
  by_cases c0 : v.k = 0; · omega
  by_cases c1 : v.k = 1; · omega
  by_cases c2 : v.k = 2; · omega
  by_cases c3 : v.k = 3; · omega
  by_cases c4 : v.k = 4; · omega
  by_cases c5 : v.k = 5; · omega
  simp [c0, c1, c2, c3, c4, c5] at hm
theorem ba_of {s : ByteArray} {l : List UInt8} (h : s.data.toList = l) : s = ⟨l.toArray⟩ := by
  rw [← h]
theorem putR_of (v : V) (hm : mayB v = true) (s : ByteArray) (hs : s.data.toList = putL v) : Value.tuple #[.string s, .int .i64 0] = putR v := by
  unfold putR
  rw [hm, if_pos rfl, ← hs]
  rfl
theorem strOf1 (a : Int) : strOfNums [a] = ⟨#[UInt8.ofNat a.toNat]⟩ := rfl

set_option maxRecDepth 100000 in
theorem put_not (v : V) (hv : v.wf) (hm : mayB v = false) (w : World) (hT : Tabs w) :
    Calls Tryd.prog 20 #[v.agg] w fun e w' => e = .returned (putR v) ∧ Below w.heap.size w w' := by
  have HC := Lib.hid (check_not v hv hm)
  have hR : putR v = .tuple #[.string ⟨#[]⟩, .int .i64 2] := by unfold putR; rw [hm]; rfl
  rw [hR]
  clear hm hR hv
  have HT := Lib.hid hT
  clear hT
  obtain ⟨k, n, r, t⟩ := v
  unfold V.agg at HC ⊢
  go_enter Tryd.func20, Tryd.ntmps20
  go_wp2_with (go_at_call 94; refine (HC.out _ (HT.out.ext ((Below.refl _ _).alloc (Nat.le_refl _) _))).mono ?_; rintro e w' ⟨rfl, hb⟩)
  go_ret2
  exact ⟨rfl, ((Below.refl _ _).alloc (Nat.le_refl _) _).trans (hb.mono (by simp))⟩

set_option maxRecDepth 100000 in
theorem put_yes (v : V) (hv : v.wf) (hm : mayB v = true) (w : World) (hT : Tabs w) :
    Calls Tryd.prog 20 #[v.agg] w fun e w' => e = .returned (putR v) ∧ Below w.heap.size w w' := by
  have HC := Lib.hid (check_yes v hv hm)
  have HT := Lib.hid hT
  clear hT
  have HMY := Lib.hid hm
  have hc1 := conv1
  have hk5 := may_kind hm
  clear hm
  obtain ⟨k, n, r, t⟩ := v
  obtain ⟨hk0, hkM, h1, h2, h3, h4, h5⟩ := hv
  simp only at h1 h2 h3 h4 h5 hk5 hk0 hkM
  unfold V.agg at HC ⊢
  generalize hR : putR _ = R
  have HR := Lib.hid hR
  clear hR
  have hc2 := conv1b
  have hs1 : ∀ a : Int, (strOfNums [a]).size = 1 := fun _ => rfl
  have hs8 : ∀ a : Nat, (ByteArray.mk (numL 8 a).toArray).size = 8 := fun a => by simp [ByteArray.size, numL_length]
  have HN2 := Lib.hid (num_any (IntKind.u64.wrap n) (by rw [IntKind.wrap_u64]; omega) (by rw [IntKind.wrap_u64]; omega))
  have HN3 := Lib.hid (num_any r h3 h4)
  rcases hk5 with rfl | rfl | rfl | rfl | rfl | rfl
  all_goals
    have ht := may_size HMY.out
    simp only at ht
    go_enter Tryd.func20, Tryd.ntmps20
    go_wp2_with (first | (go_at_call 94; refine (HC.out _ (HT.out.ext ((Below.refl _ _).alloc (Nat.le_refl _) _))).mono ?_; rintro e w1 ⟨rfl, hb⟩; obtain ⟨hcl, hfr⟩ := bcell hb; have hz : w.heap.size < w1.heap.size := (by have := hb.size; simp at this; omega); have HB := Lib.hid hb; clear hb) | (go_at_call 95; ((with_reducible refine (HN2.out _).mono ?_); rintro e w2 ⟨rfl, hb2⟩)) | (go_at_call 95; ((with_reducible refine (HN3.out _).mono ?_); rintro e w2 ⟨rfl, hb2⟩)))
    go_ret2
    refine ⟨?_, ?_⟩
    · rw [← HR.out]
      refine congrArg Ending.returned (putR_of _ HMY.out _ ?_)
      have hm := HMY.out
      clear hcl hfr HB
      first
        | (rcases bool_of hm rfl with rfl | rfl <;> rfl)
        | (simp [putL, strOfNums, ByteArray.data_append, IntKind.wrap_u64, u64of]; done)
        | (simp [putL, strOfNums, ByteArray.data_append]; exact congrArg UInt8.ofNat (by omega))
        | rfl
    · have hb := HB.out
      have hw1 : Below w.heap.size w w1 := ((Below.refl _ _).alloc (Nat.le_refl _) _).trans (hb.mono (by simp))
      first
        | exact (hw1.alloc hw1.size _).trans (hb2.mono (by simp; omega))
        | exact (hw1.alloc hw1.size _).alloc (by simp; omega) _
        | exact hw1.alloc hw1.size _
theorem put_any (v : V) (hv : v.wf) (w : World) (hT : Tabs w) :
    Calls Tryd.prog 20 #[v.agg] w fun e w' => e = .returned (putR v) ∧ Below w.heap.size w w' := by
  cases hm : mayB v
  · exact put_not v hv hm w hT
  · exact put_yes v hv hm w hT

set_option maxRecDepth 100000 in
theorem refput_any (v : V) (hv : v.wf) (hm : mayB v = true) (w : World) :
    Calls Tryd.prog 25 #[v.agg] w fun e w' => e = .returned (.string ⟨(putL v).toArray⟩) ∧ Below w.heap.size w w' := by
  have HMY := Lib.hid hm
  have hc1 := conv1
  have hc2 := conv1b
  have hc3 := conv1c
  have hk5 := may_kind hm
  clear hm
  obtain ⟨k, n, r, t⟩ := v
  obtain ⟨hk0, hkM, h1, h2, h3, h4, h5⟩ := hv
  simp only at h1 h2 h3 h4 h5 hk5 hk0 hkM
  unfold V.agg
  generalize hR : putL _ = R
  have HR := Lib.hid hR
  clear hR
  have hs1 : ∀ a : Int, (strOfNums [a]).size = 1 := fun _ => rfl
  have hs8 : ∀ a : Nat, (ByteArray.mk (numL 8 a).toArray).size = 8 := fun a => by simp [ByteArray.size, numL_length]
  have HN2 := Lib.hid (refnum8 (IntKind.u64.wrap n) (by rw [IntKind.wrap_u64]; omega) (by rw [IntKind.wrap_u64]; omega))
  have HN3 := Lib.hid (refnum8 r h3 h4)
  rcases hk5 with rfl | rfl | rfl | rfl | rfl | rfl
  all_goals
    have ht := may_size HMY.out
    simp only at ht
    go_enter Tryd.func25, Tryd.ntmps25
    go_wp2_with (first | (go_at_call 99; ((with_reducible refine (HN2.out _).mono ?_); rintro e w2 ⟨rfl, hb2⟩)) | (go_at_call 99; ((with_reducible refine (HN3.out _).mono ?_); rintro e w2 ⟨rfl, hb2⟩)))
    go_ret
    refine ⟨?_, ?_⟩
    · rw [← HR.out]
      refine congrArg (fun s => Ending.returned (.string s)) (ba_of ?_)
      have hm := HMY.out
      first
        | (rcases bool_of hm rfl with rfl | rfl <;> rfl)
        | (simp [putL, strOfNums, ByteArray.data_append, IntKind.wrap_u64, u64of]; done)
        | (simp [putL, strOfNums, ByteArray.data_append]; exact congrArg UInt8.ofNat (by omega))
        | rfl
    · first
        | exact (((Below.refl _ _).alloc (Nat.le_refl _) _).alloc (by simp) _).trans (hb2.mono (by simp; omega))
        | exact (((Below.refl _ _).alloc (Nat.le_refl _) _).alloc (by simp) _).alloc (by simp; omega) _
        | exact ((Below.refl _ _).alloc (Nat.le_refl _) _).alloc (by simp) _
end Go.Proofs.YtjdfodmialhakaaDoor
