/- Several texts in one: see each part's head. -/
import Derived.LoopN
import Derived.Laws.IdiomStrings
import Derived.Laws.BytesArg
import Derived.OwnWalk
import Derived.Test.YtkfhfegogmlchaaDoorJ1
import Derived.IntWalk
import Derived.Laws.BitsAllLaws
/- Several texts in one: see each part's head. -/
/- Contracts of word.Put at eight bytes, code.num, and the reference's Num at eight: a number's bytes, the lowest first. -/
namespace Go.Proofs.YtkfhfegogmlchaaDoor
open Go.RowKit

/-- A number's so many bytes, the lowest first. -/
def numL : Nat → Nat → List UInt8
  | 0, _ => []
  | n + 1, v => UInt8.ofNat (v % 256) :: numL n (v / 256)
theorem numL_length : ∀ n v, (numL n v).length = n
  | 0, _ => rfl
  | n + 1, v => by simp [numL, numL_length n]


theorem cell_new (w : World) (C : Array Value) (t : TypeId) (j : Nat) : (w.alloc (.cells C t)).cell? ⟨w.heap.size, j, none⟩ = C[j]? := World.cell?_alloc_mark w C t (0, 0) j
/-- 'string(b)' of a new row of bytes. -/
theorem conv_new (w : World) (xs : List Int) (n c : Nat) (hn : xs.length = n) :
    (convert 27 9 (.slice (some ⟨w.heap.size, 0, none⟩) n c)).run Tryd.prog (w.alloc (.cells (xs.map (Value.int .u8)).toArray 5)) = .ok (.string (strOfNums xs)) (w.alloc (.cells (xs.map (Value.int .u8)).toArray 5)) :=
  run_convert_bytes_arg _ 27 5 Tryd.underlying27 Tryd.underlying5 w.heap.size 0 n c xs hn (fun i hi => by
    rw [Nat.zero_add, cell_new]
    simp [List.getElem?_eq_getElem (show i < xs.length by omega)]) 9 Tryd.underlying9
theorem conv1 (w : World) (a : Int) (c : Nat) :
    (convert 27 9 (.slice (some ⟨w.heap.size, 0, none⟩) 1 c)).run Tryd.prog (w.alloc (.cells #[.int .u8 a] 5)) = .ok (.string (strOfNums [a])) (w.alloc (.cells #[.int .u8 a] 5)) :=
  conv_new w [a] 1 c rfl
theorem conv8 (w : World) (a b c d e f g h : Int) (k : Nat) :
    (convert 27 9 (.slice (some ⟨w.heap.size, 0, none⟩) 8 k)).run Tryd.prog (w.alloc (.cells #[.int .u8 a, .int .u8 b, .int .u8 c, .int .u8 d, .int .u8 e, .int .u8 f, .int .u8 g, .int .u8 h] 5)) =
      .ok (.string (strOfNums [a, b, c, d, e, f, g, h])) (w.alloc (.cells #[.int .u8 a, .int .u8 b, .int .u8 c, .int .u8 d, .int .u8 e, .int .u8 f, .int .u8 g, .int .u8 h] 5)) :=
  conv_new w [a, b, c, d, e, f, g, h] 8 k rfl
theorem num8_eq (v : Nat) (hv : v ≤ 18446744073709551615) :
    numL 8 v = [(v : Int) % 256, (v : Int) / 256 % 256, (v : Int) / 65536 % 256, (v : Int) / 16777216 % 256, (v : Int) / 4294967296 % 256, (v : Int) / 1099511627776 % 256, (v : Int) / 281474976710656 % 256, (v : Int) / 72057594037927936].map fun n => UInt8.ofNat n.toNat := by
  simp only [numL, List.map_cons, List.map_nil, Nat.div_div_eq_div_mul, List.cons.injEq, and_true]
  refine ⟨?_, ?_, ?_, ?_, ?_, ?_, ?_, ?_⟩ <;> congr 1 <;> omega
theorem strOf8 (v : Int) (h0 : 0 ≤ v) (h1 : v ≤ 18446744073709551615) :
    strOfNums [v % 256, v / 256 % 256, v / 65536 % 256, v / 16777216 % 256, v / 4294967296 % 256, v / 1099511627776 % 256, v / 281474976710656 % 256, v / 72057594037927936] = ⟨(numL 8 v.toNat).toArray⟩ := by
  obtain ⟨n, rfl⟩ := Int.eq_ofNat_of_zero_le h0
  rw [Int.toNat_natCast, num8_eq n (by omega)]
  rfl
theorem ret_tup2 {a b c d : Value} (h : a = b) (k : c = d) : Ending.returned (.tuple #[a, c]) = .returned (.tuple #[b, d]) := by rw [h, k]

set_option maxRecDepth 100000 in
theorem wput8 (v : Int) (h0 : 0 ≤ v) (h1 : v ≤ 18446744073709551615) (w : World) :
    Calls Tryd.prog 71 #[.int .u64 v, .int .i64 8] w fun e w' => e = .returned (.tuple #[.string ⟨(numL 8 v.toNat).toArray⟩, .int .i64 0]) ∧ Below w.heap.size w w' := by
  have hmk : ∀ w : World, (Instr.makeSlice 27 (.int .i64 8) (.int .i64 8)).run Tryd.prog w = .ok (.slice (some ⟨w.heap.size, 0, none⟩) 8 8) (w.alloc (.cells #[.int .u8 0, .int .u8 0, .int .u8 0, .int .u8 0, .int .u8 0, .int .u8 0, .int .u8 0, .int .u8 0] 5)) := fun _ => by kernel_rfl
  have hcv := conv8
  generalize hM : numL 8 v.toNat = M
  have HM := Lib.hid hM
  clear hM
  go_enter Tryd.func71, Tryd.ntmps71
  go_wp2
  refine wp_loop_rounds 9 ?_
  iterate 9 (rw [rounds_succ]; go_wp2)
  go_ret2
  refine ⟨ret_tup2 ?_ rfl, (Below.refl _ _).alloc (Nat.le_refl _) _⟩
  rw [← HM.out]
  exact congrArg Value.string (strOf8 v h0 h1)
theorem num_any (v : Int) (h0 : 0 ≤ v) (h1 : v ≤ 18446744073709551615) (w : World) :
    Calls Tryd.prog 81 #[.int .u64 v] w fun e w' => e = .returned (.string ⟨(numL 8 v.toNat).toArray⟩) ∧ Below w.heap.size w w' := by
  have HC := Lib.hid (wput8 v h0 h1)
  generalize numL 8 v.toNat = M at HC ⊢
  go_enter Tryd.func81, Tryd.ntmps81
  go_wp2_with (go_at_call 71; refine (HC.out _).mono ?_; rintro e w' ⟨rfl, hb⟩)
  go_ret
  exact ⟨rfl, hb⟩



theorem own_ge {w : World} {base : Nat} {e : TypeId} {size n : Nat} {v : Value} {xs : List Value} (h : w.ownsRow base e size v n xs) : ∀ g, v.ownBlock = some g → base ≤ g := by
  intro g hg
  rcases h.2 with ⟨rfl, _⟩ | ⟨g', cap, cur, rfl, hb, _⟩
  · cases hg
  · have : g' = g := by simpa [Value.ownBlock] using hg
    omega
end Go.Proofs.YtkfhfegogmlchaaDoor

/- Contracts of code.Put and of the reference's Put: which bytes any value has, or that it has none. -/
namespace Go.Proofs.YtkfhfegogmlchaaDoor
open Go.RowKit

def u64of (n : Int) : Nat := (n % 18446744073709551616).toNat
/-- A value's bytes. -/
def putL (v : V) : List UInt8 :=
  UInt8.ofNat v.k.toNat ::
    (if v.k = 1 then [UInt8.ofNat v.n.toNat]
     else if v.k = 2 then numL 8 (u64of v.n)
     else if v.k = 3 then numL 8 v.r.toNat
     else if v.k = 4 ∨ v.k = 5 then UInt8.ofNat v.t.size :: v.t.data.toList
     else [])
/-- What is told of a value: its bytes and OK, or nothing and ErrArg. -/
def putR (v : V) : Value := .tuple #[.string ⟨(if mayB v then putL v else []).toArray⟩, .int .i64 (okE (mayB v))]

theorem check_yes (v : V) (hv : v.wf) (hm : mayB v = true) (w : World) (hT : Tabs w) :
    Calls Tryd.prog 67 #[v.agg] w fun e w' => e = .returned (.int .i64 0) ∧ Below w.heap.size w w' := by
  have h := check_any v hv w hT
  rw [hm] at h
  exact h
theorem check_not (v : V) (hv : v.wf) (hm : mayB v = false) (w : World) (hT : Tabs w) :
    Calls Tryd.prog 67 #[v.agg] w fun e w' => e = .returned (.int .i64 2) ∧ Below w.heap.size w w' := by
  have h := check_any v hv w hT
  rw [hm] at h
  exact h
theorem conv1b (w : World) (o : Obj) (a : Int) (c : Nat) :
    (convert 27 9 (.slice (some ⟨w.heap.size + 1, 0, none⟩) 1 c)).run Tryd.prog ((w.alloc o).alloc (.cells #[.int .u8 a] 5)) = .ok (.string (strOfNums [a])) ((w.alloc o).alloc (.cells #[.int .u8 a] 5)) := by
  have := conv1 (w.alloc o) a c
  simpa using this
theorem may_size {v : V} (h : mayB v = true) : v.t.size ≤ 100 := by
  unfold mayB at h
  repeat' split at h
  all_goals first | (simp only [Bool.and_eq_true, decide_eq_true_eq] at h; omega) | cases h
theorem bool_of {v : V} (h : mayB v = true) (hk : v.k = 1) : v.n = 0 ∨ v.n = 1 := by
  unfold mayB at h
  rw [if_neg (by omega), if_pos hk] at h
  simp at h
  omega
theorem may_kind {v : V} (hm : mayB v = true) : v.k = 0 ∨ v.k = 1 ∨ v.k = 2 ∨ v.k = 3 ∨ v.k = 4 ∨ v.k = 5 := by
  unfold mayB at hm
  by_cases c0 : v.k = 0; · omega
  by_cases c1 : v.k = 1; · omega
  by_cases c2 : v.k = 2; · omega
  by_cases c3 : v.k = 3; · omega
  by_cases c4 : v.k = 4; · omega
  by_cases c5 : v.k = 5; · omega
  simp [c0, c1, c2, c3, c4, c5] at hm
theorem ba_of {s : ByteArray} {l : List UInt8} (h : s.data.toList = l) : s = ⟨l.toArray⟩ := by
  rw [← h]
theorem putR_of (v : V) (hm : mayB v = true) (s : ByteArray) (hs : s.data.toList = putL v) : Value.tuple #[.string s, .int .i64 0] = putR v := by
  unfold putR
  rw [hm, if_pos rfl, ← hs]
  rfl

set_option maxRecDepth 100000 in
theorem put_not (v : V) (hv : v.wf) (hm : mayB v = false) (w : World) (hT : Tabs w) :
    Calls Tryd.prog 72 #[v.agg] w fun e w' => e = .returned (putR v) ∧ Below w.heap.size w w' := by
  have HC := Lib.hid (check_not v hv hm)
  have hR : putR v = .tuple #[.string ⟨#[]⟩, .int .i64 2] := by unfold putR; rw [hm]; rfl
  rw [hR]
  clear hm hR hv
  have HT := Lib.hid hT
  clear hT
  obtain ⟨k, n, r, t⟩ := v
  unfold V.agg at HC ⊢
  go_enter Tryd.func72, Tryd.ntmps72
  go_wp2_with (go_at_call 67; refine (HC.out _ (HT.out.ext ((Below.refl _ _).alloc (Nat.le_refl _) _))).mono ?_; rintro e w' ⟨rfl, hb⟩)
  go_ret2
  exact ⟨rfl, ((Below.refl _ _).alloc (Nat.le_refl _) _).trans (hb.mono (by simp))⟩

set_option maxRecDepth 100000 in
theorem put_yes (v : V) (hv : v.wf) (hm : mayB v = true) (w : World) (hT : Tabs w) :
    Calls Tryd.prog 72 #[v.agg] w fun e w' => e = .returned (putR v) ∧ Below w.heap.size w w' := by
  have HC := Lib.hid (check_yes v hv hm)
  have HT := Lib.hid hT
  clear hT
  have HMY := Lib.hid hm
  have hc1 := conv1
  have hk5 := may_kind hm
  clear hm
  obtain ⟨k, n, r, t⟩ := v
  obtain ⟨hk0, hkM, h1, h2, h3, h4, h5⟩ := hv
  simp only at h1 h2 h3 h4 h5 hk5 hk0 hkM
  unfold V.agg at HC ⊢
  generalize hR : putR _ = R
  have HR := Lib.hid hR
  clear hR
  have hc2 := conv1b
  have hs1 : ∀ a : Int, (strOfNums [a]).size = 1 := fun _ => rfl
  have hs8 : ∀ a : Nat, (ByteArray.mk (numL 8 a).toArray).size = 8 := fun a => by simp [ByteArray.size, numL_length]
  have HN2 := Lib.hid (num_any (IntKind.u64.wrap n) (by rw [IntKind.wrap_u64]; omega) (by rw [IntKind.wrap_u64]; omega))
  have HN3 := Lib.hid (num_any r h3 h4)
  rcases hk5 with rfl | rfl | rfl | rfl | rfl | rfl
  all_goals
    have ht := may_size HMY.out
    simp only at ht
    go_enter Tryd.func72, Tryd.ntmps72
    go_wp2_with (first | (go_at_call 67; refine (HC.out _ (HT.out.ext ((Below.refl _ _).alloc (Nat.le_refl _) _))).mono ?_; rintro e w1 ⟨rfl, hb⟩; obtain ⟨hcl, hfr⟩ := bcell hb; have hz : w.heap.size < w1.heap.size := (by have := hb.size; simp at this; omega); have HB := Lib.hid hb; clear hb) | (go_at_call 81; ((with_reducible refine (HN2.out _).mono ?_); rintro e w2 ⟨rfl, hb2⟩)) | (go_at_call 81; ((with_reducible refine (HN3.out _).mono ?_); rintro e w2 ⟨rfl, hb2⟩)))
    go_ret2
    refine ⟨?_, ?_⟩
    · rw [← HR.out]
      refine congrArg Ending.returned (putR_of _ HMY.out _ ?_)
      have hm := HMY.out
      clear hcl hfr HB
      first
        | (rcases bool_of hm rfl with rfl | rfl <;> rfl)
        | (simp [putL, strOfNums, ByteArray.data_append, IntKind.wrap_u64, u64of]; done)
        | (simp [putL, strOfNums, ByteArray.data_append]; exact congrArg UInt8.ofNat (by omega))
        | rfl
    · have hb := HB.out
      have hw1 : Below w.heap.size w w1 := ((Below.refl _ _).alloc (Nat.le_refl _) _).trans (hb.mono (by simp))
      first
        | exact (hw1.alloc hw1.size _).trans (hb2.mono (by simp; omega))
        | exact (hw1.alloc hw1.size _).alloc (by simp; omega) _
        | exact hw1.alloc hw1.size _
theorem put_any (v : V) (hv : v.wf) (w : World) (hT : Tabs w) :
    Calls Tryd.prog 72 #[v.agg] w fun e w' => e = .returned (putR v) ∧ Below w.heap.size w w' := by
  cases hm : mayB v
  · exact put_not v hv hm w hT
  · exact put_yes v hv hm w hT

end Go.Proofs.YtkfhfegogmlchaaDoor

/- Several texts in one: see each part's head. -/
/- Contracts of the reader's take and number. -/
namespace Go.Proofs.YtkfhfegogmlchaaDoor
open Go.RowKit

/-- The reader lies in block g: its text, and where it stands. -/
def Rd (w : World) (g : Nat) (s : ByteArray) (p : Nat) : Prop := w.heap[g]? = some (.cells #[.string s, .int .i64 p] 138 (0, 0))
theorem Rd.lt {w : World} {g : Nat} {s : ByteArray} {p : Nat} (h : Rd w g s p) : g < w.heap.size := by
  rcases Nat.lt_or_ge g w.heap.size with hlt | hge
  · exact hlt
  · unfold Rd at h; rw [Array.getElem?_eq_none hge] at h; cases h
theorem Rd.c0 {w : World} {g : Nat} {s : ByteArray} {p : Nat} (h : Rd w g s p) : w.cell? ⟨g, 0, none⟩ = some (.string s) := cell_of_row w g 0 _ _ (0, 0) h
theorem Rd.c1 {w : World} {g : Nat} {s : ByteArray} {p : Nat} (h : Rd w g s p) : w.cell? ⟨g, 1, none⟩ = some (.int .i64 p) := cell_of_row w g 1 _ _ (0, 0) h
theorem Rd.fr {w : World} {g : Nat} {s : ByteArray} {p : Nat} (h : Rd w g s p) (i : Nat) : w.frozen? ⟨g, i, none⟩ = false := by
  unfold Rd at h
  simp [World.frozen?, h]
theorem Rd.set {w : World} {g : Nat} {s : ByteArray} {p : Nat} (h : Rd w g s p) (q : Nat) : Rd (w.setCell ⟨g, 1, none⟩ (.int .i64 q)) g s q := by
  unfold Rd at h ⊢
  simp [World.setCell, Array.getElem?_modify, h]
theorem Rd.far {w w' : World} {g : Nat} {s : ByteArray} {p : Nat} (h : Rd w g s p) (hb : Below w.heap.size w w') : Rd w' g s p := (hb.block g h.lt).trans h
theorem Rd.grown {w w' : World} {g : Nat} {s : ByteArray} {p : Nat} {row : Option Nat} (h : Rd w g s p) (hb : w.grownBy w' row) (hg : some g ≠ row) : Rd w' g s p := (hb.block g h.lt hg).trans h
theorem only_below {a w : World} (h : Below a.heap.size a w) (row : Option Nat) : a.grownBy w row := ⟨h.os, h.tape, h.output, h.size, fun i hi _ => h.block i hi⟩
theorem only_drewN {a w : World} {row : Option Nat} (h : a.grownBy w row) (n : Nat) : a.grownBy (w.drewN n) row := ⟨h.os, h.tape, h.output, h.size, h.block⟩
theorem only_set {a w : World} {g : Nat} (h : a.grownBy w (some g)) (i : Nat) (u : Value) : a.grownBy (w.setCell ⟨g, i, none⟩ u) (some g) :=
  ⟨h.os, h.tape, h.output, by simpa [World.setCell] using h.size, fun k hk hne => (Below.heap_setCell w ⟨g, i, none⟩ u k (fun e => hne (by rw [e]))).trans (h.block k hk hne)⟩
theorem only_trans {a b c : World} {row : Option Nat} (h : a.grownBy b row) (k : b.grownBy c row) : a.grownBy c row :=
  ⟨k.os.trans h.os, k.tape.trans h.tape, k.output.trans h.output, Nat.le_trans h.size k.size, fun i hi hne => (k.block i (Nat.lt_of_lt_of_le hi h.size) hne).trans (h.block i hi hne)⟩

/-- Giving up: the panic's value. -/
def gaveUp (n : Int) : Ending := .panicked [{ v := .iface 43 (.int .i64 n), recovered := false }]

set_option maxRecDepth 100000 in
theorem take_ok (s : ByteArray) (g p n : Nat) (w : World) (hr : Rd w g s p) (hs : s.size ≤ 140737488355328) (h : p + n ≤ s.size) :
    Calls Tryd.prog 63 #[.pointer (some ⟨g, 0, none⟩), .int .i64 n] w fun e w' => e = .returned (.string (s.extract p (p + n))) ∧ Rd w' g s (p + n) ∧ w.grownBy w' (some g) := by
  have c0 := hr.c0
  have c1 := hr.c1
  have f1 := hr.fr 1
  have HR := Lib.hid hr
  clear hr
  have s1 : IntKind.i64.wrap ((s.size : Int) - (p : Int)) = (s.size : Int) - p := IntWalk.i64_in _ (by omega)
  have t1 : decide ((s.size : Int) - (p : Int) < (n : Int)) = false := by simp; omega
  go_enter Tryd.func63, Tryd.ntmps63
  go_wp2
  go_quiet (fail)
  clear s1 t1
  go_wp2
  have hR1 : Rd ((w.drewN nq).setCell ⟨g, 1, none⟩ (.int .i64 ((p : Int) + n))) g s (p + n) := by
    have := (show Rd (w.drewN nq) g s p from HR.out).set (p + n)
    rwa [Int.natCast_add] at this
  have hG1 : w.grownBy ((w.drewN nq).setCell ⟨g, 1, none⟩ (.int .i64 ((p : Int) + n))) (some g) := only_set (only_drewN (World.grownBy.refl w _) nq) 1 _
  generalize (w.drewN nq).setCell ⟨g, 1, none⟩ (.int .i64 ((p : Int) + n)) = W at hR1 hG1 ⊢
  have d0 := hR1.c0
  have d1 := hR1.c1
  rw [Int.natCast_add] at d1
  have HR1 := Lib.hid hR1
  have HG1 := Lib.hid hG1
  clear hR1 hG1 c0 c1 f1
  have s1 : IntKind.i64.wrap ((p : Int) + n - n) = p := by rw [IntWalk.i64_in _ (by omega)]; omega
  have b0 : (0 : Int) ≤ p := by omega
  have b1 : (p : Int) ≤ (p : Int) + n := by omega
  have b2 : (p : Int) + n ≤ s.size := by omega
  have b3 : (0 : Int) ≤ (p : Int) + n := by omega
  have e1 : ((p : Int) + n).toNat = p + n := by omega
  have hsl : ∀ W : World, (Instr.slice 9 (.string s) (some (.int .i64 (p : Int))) (some (.int .i64 ((p : Int) + n))) none).run Tryd.prog W = .ok (.string (s.extract p (p + n))) W := fun W => by
    go_simp
  go_quiet (fail)
  go_wp2
  go_ret
  exact ⟨rfl, HR1.out, only_drewN HG1.out _⟩
set_option maxRecDepth 100000 in
theorem take_no (s : ByteArray) (g p n : Nat) (w : World) (hr : Rd w g s p) (_hs : s.size ≤ 140737488355328) (hp : p ≤ s.size) (hn : n ≤ 140737488355328) (h : s.size < p + n) :
    Calls Tryd.prog 63 #[.pointer (some ⟨g, 0, none⟩), .int .i64 n] w fun e w' => e = gaveUp 6 ∧ Rd w' g s p ∧ w.grownBy w' (some g) := by
  have c0 := hr.c0
  have c1 := hr.c1
  have HR := Lib.hid hr
  clear hr
  have s1 : IntKind.i64.wrap ((s.size : Int) - (p : Int)) = (s.size : Int) - p := IntWalk.i64_in _ (by omega)
  have t1 : decide ((s.size : Int) - (p : Int) < (n : Int)) = true := by simp; omega
  go_enter Tryd.func63, Tryd.ntmps63
  go_wp2
  go_quiet (fail)
  clear s1 t1
  go_wp2
  exact ⟨rfl, rfl, HR.out, only_drewN (World.grownBy.refl w _) _⟩
end Go.Proofs.YtkfhfegogmlchaaDoor

/- Contracts of word.Get at eight bytes and of the reader's number. -/
namespace Go.Proofs.YtkfhfegogmlchaaDoor
open Go.RowKit

/-- The number of bytes, the lowest first. -/
def valL : List UInt8 → Nat
  | [] => 0
  | b :: l => b.toNat + 256 * valL l

theorem or_step (v b n m : Nat) (hm : m = 2 ^ n) (hn : n ≤ 56) (hv : v < m) (hb : b < 256) :
    bits .or .u64 (v : Int) (IntKind.u64.wrap (IntKind.u64.wrap (b : Int) * (m : Int))) = ((v + b * m : Nat) : Int) := by
  have hpow : (2 : Nat) ^ n ≤ 2 ^ 56 := Nat.pow_le_pow_right (by omega) hn
  have hm2 : m ≤ 72057594037927936 := by rw [hm]; exact hpow
  have hbm : b * m ≤ 255 * m := Nat.mul_le_mul_right _ (by omega)
  have hbm2 : b * m < 18446744073709551616 := by omega
  have e1 : IntKind.u64.wrap (b : Int) = b := by rw [IntKind.wrap_u64]; omega
  have e2 : IntKind.u64.wrap ((b : Int) * m) = ((b * m : Nat) : Int) := by
    rw [IntKind.wrap_u64, ← Int.natCast_mul]; omega
  rw [e1, e2, u64_or_nat v (b * m) (by omega) hbm2]
  congr 1
  rw [Nat.or_comm, nat_join n (b * m) v (by rw [hm]; exact Nat.mul_mod_left _ _) (by rw [← hm]; exact hv)]
  omega
theorem or_first (b : Nat) (hb : b < 256) : bits .or .u64 0 (IntKind.u64.wrap (IntKind.u64.wrap (b : Int))) = (b : Int) := by
  have e1 : IntKind.u64.wrap (b : Int) = b := by rw [IntKind.wrap_u64]; omega
  rw [e1, e1]
  have := u64_or_nat 0 b (by omega) (by omega)
  simpa using this
theorem or8 (a b c d e f g h : UInt8) :
    bits .or .u64 (bits .or .u64 (bits .or .u64 (bits .or .u64 (bits .or .u64 (bits .or .u64 (bits .or .u64 (bits .or .u64 0 (IntKind.u64.wrap (IntKind.u64.wrap (a.toNat : Int))))
      (IntKind.u64.wrap (IntKind.u64.wrap (b.toNat : Int) * 256))) (IntKind.u64.wrap (IntKind.u64.wrap (c.toNat : Int) * 65536))) (IntKind.u64.wrap (IntKind.u64.wrap (d.toNat : Int) * 16777216)))
      (IntKind.u64.wrap (IntKind.u64.wrap (e.toNat : Int) * 4294967296))) (IntKind.u64.wrap (IntKind.u64.wrap (f.toNat : Int) * 1099511627776))) (IntKind.u64.wrap (IntKind.u64.wrap (g.toNat : Int) * 281474976710656)))
      (IntKind.u64.wrap (IntKind.u64.wrap (h.toNat : Int) * 72057594037927936)) = ((valL [a, b, c, d, e, f, g, h] : Nat) : Int) := by
  have ha := a.toNat_lt
  have hb := b.toNat_lt
  have hc := c.toNat_lt
  have hd := d.toNat_lt
  have he := e.toNat_lt
  have hf := f.toNat_lt
  have hg := g.toNat_lt
  have hh := h.toNat_lt
  rw [or_first _ (by omega)]
  rw [show (256 : Int) = ((256 : Nat) : Int) from rfl, or_step _ _ 8 256 rfl (by omega) (by omega) (by omega)]
  rw [show (65536 : Int) = ((65536 : Nat) : Int) from rfl, or_step _ _ 16 65536 rfl (by omega) (by omega) (by omega)]
  rw [show (16777216 : Int) = ((16777216 : Nat) : Int) from rfl, or_step _ _ 24 16777216 rfl (by omega) (by omega) (by omega)]
  rw [show (4294967296 : Int) = ((4294967296 : Nat) : Int) from rfl, or_step _ _ 32 4294967296 rfl (by omega) (by omega) (by omega)]
  rw [show (1099511627776 : Int) = ((1099511627776 : Nat) : Int) from rfl, or_step _ _ 40 1099511627776 rfl (by omega) (by omega) (by omega)]
  rw [show (281474976710656 : Int) = ((281474976710656 : Nat) : Int) from rfl, or_step _ _ 48 281474976710656 rfl (by omega) (by omega) (by omega)]
  rw [show (72057594037927936 : Int) = ((72057594037927936 : Nat) : Int) from rfl, or_step _ _ 56 72057594037927936 rfl (by omega) (by omega) (by omega)]
  simp only [valL]
  omega
theorem list8 (s : ByteArray) (h : s.size = 8) : s.data.toList = [s[0]'(by omega), s[1]'(by omega), s[2]'(by omega), s[3]'(by omega), s[4]'(by omega), s[5]'(by omega), s[6]'(by omega), s[7]'(by omega)] := by
  obtain ⟨⟨l⟩⟩ := s
  simp only [ByteArray.size] at h
  match l, h with
  | [a, b, c, d, e, f, g, i], _ => rfl

set_option maxRecDepth 100000 in
theorem wget8 (s : ByteArray) (h : s.size = 8) (w : World) :
    Calls Tryd.prog 61 #[.string s] w fun e w' => e = .returned (.tuple #[.int .u64 (valL s.data.toList), .int .i64 0]) ∧ w = w' := by
  have h1 : 8 ≤ s.size := by omega
  have h2 : s.size ≤ 8 := by omega
  have HS := Lib.hid h
  clear h
  generalize hM : valL s.data.toList = M
  have HM := Lib.hid hM
  clear hM
  go_enter Tryd.func61, Tryd.ntmps61
  go_wp2
  refine wp_loop_rounds 9 ?_
  iterate 9 (rw [rounds_succ]; go_wp2)
  go_ret2
  refine ⟨ret_tup2 ?_ rfl, rfl⟩
  rw [← HM.out, list8 s HS.out]
  exact congrArg (Value.int .u64) (or8 _ _ _ _ _ _ _ _)
theorem valL_lt : ∀ l : List UInt8, valL l < 256 ^ l.length
  | [] => by simp [valL]
  | b :: l => by
    have := valL_lt l
    have hb := b.toNat_lt
    simp only [valL, List.length_cons, Nat.pow_succ]
    omega
theorem valL_numL : ∀ n v, v < 256 ^ n → valL (numL n v) = v
  | 0, v, h => by simp [numL, valL] at h ⊢; omega
  | n + 1, v, h => by
    rw [numL, valL, valL_numL n (v / 256) (by rw [Nat.pow_succ] at h; omega)]
    rw [UInt8.toNat_ofNat']
    omega
theorem numL_valL : ∀ l : List UInt8, numL l.length (valL l) = l
  | [] => rfl
  | b :: l => by
    have hb := b.toNat_lt
    rw [List.length_cons, numL, valL]
    have e1 : (b.toNat + 256 * valL l) / 256 = valL l := by omega
    have e2 : (b.toNat + 256 * valL l) % 256 = b.toNat := by omega
    rw [e1, e2, numL_valL l]
    simp
theorem number_ok (s : ByteArray) (g p : Nat) (w : World) (hr : Rd w g s p) (hs : s.size ≤ 140737488355328) (h : p + 8 ≤ s.size) :
    Calls Tryd.prog 73 #[.pointer (some ⟨g, 0, none⟩)] w fun e w' => e = .returned (.int .u64 (valL ((s.data.toList.drop p).take 8))) ∧ Rd w' g s (p + 8) ∧ w.grownBy w' (some g) := by
  have HT := Lib.hid (take_ok s g p 8 w hr hs h)
  have hz : (s.extract p (p + 8)).size = 8 := by rw [ByteArray.size_extract]; omega
  have HG := Lib.hid (wget8 (s.extract p (p + 8)) hz)
  have e : (s.extract p (p + 8)).data.toList = (s.data.toList.drop p).take 8 := by
    simp [ByteArray.data_extract, List.take_drop]
  rw [e] at HG
  clear e hz hr
  generalize valL ((s.data.toList.drop p).take 8) = M at HG ⊢
  go_enter Tryd.func73, Tryd.ntmps73
  go_wp2_with (first | (go_at_call 63; refine (HT.out).mono ?_; rintro e w1 ⟨rfl, hR1, hG1⟩) | (go_at_call 61; refine (HG.out _).mono ?_; rintro e w2 ⟨rfl, rfl⟩))
  go_ret
  exact ⟨rfl, hR1, hG1⟩
theorem number_no (s : ByteArray) (g p : Nat) (w : World) (hr : Rd w g s p) (hs : s.size ≤ 140737488355328) (hp : p ≤ s.size) (h : s.size < p + 8) :
    Calls Tryd.prog 73 #[.pointer (some ⟨g, 0, none⟩)] w fun e w' => e = gaveUp 6 ∧ Rd w' g s p ∧ w.grownBy w' (some g) := by
  have HT := Lib.hid (take_no s g p 8 w hr hs hp (by omega) h)
  clear hr
  go_enter Tryd.func73, Tryd.ntmps73
  go_wp2_with (go_at_call 63; refine (HT.out).mono ?_; rintro e w1 ⟨rfl, hR1, hG1⟩; unfold gaveUp)
  exact ⟨rfl, rfl, hR1, hG1⟩
end Go.Proofs.YtkfhfegogmlchaaDoor
