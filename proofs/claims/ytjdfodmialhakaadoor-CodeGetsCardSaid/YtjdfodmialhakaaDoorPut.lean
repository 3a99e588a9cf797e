/- Contracts of code.Put and of the reference's Put: which bytes any value has, or that it has none. -/
import Derived.Test.YtjdfodmialhakaaDoorNum
namespace Go.Proofs.YtjdfodmialhakaaDoor
open Go.RowKit

def u64of (n : Int) : Nat := (n % 18446744073709551616).toNat
/-- A value's bytes. -/
def putL (v : V) : List UInt8 :=
  UInt8.ofNat v.k.toNat ::
    (if v.k = 1 then [UInt8.ofNat v.n.toNat]
     else if v.k = 2 then numL 8 (u64of v.n)
     else if v.k = 3 then numL 8 v.r.toNat
     else if v.k = 4 ∨ v.k = 5 then UInt8.ofNat v.t.size :: v.t.data.toList
     else [])
/-- What is told of a value: its bytes and OK, or nothing and ErrArg. -/
def putR (v : V) : Value := .tuple #[.string ⟨(if mayB v then putL v else []).toArray⟩, .int .i64 (okE (mayB v))]

theorem check_yes (v : V) (hv : v.wf) (hm : mayB v = true) (w : World) (hT : Tabs w) :
    Calls Tryd.prog 94 #[v.agg] w fun e w' => e = .returned (.int .i64 0) ∧ Below w.heap.size w w' := by
  have h := check_any v hv w hT
  rw [hm] at h
  exact h
theorem check_not (v : V) (hv : v.wf) (hm : mayB v = false) (w : World) (hT : Tabs w) :
    Calls Tryd.prog 94 #[v.agg] w fun e w' => e = .returned (.int .i64 2) ∧ Below w.heap.size w w' := by
  have h := check_any v hv w hT
  rw [hm] at h
  exact h
theorem conv1b (w : World) (o : Obj) (a : Int) (c : Nat) :
    (convert 125 9 (.slice (some ⟨w.heap.size + 1, 0, none⟩) 1 c)).run Tryd.prog ((w.alloc o).alloc (.cells #[.int .u8 a] 5)) = .ok (.string (strOfNums [a])) ((w.alloc o).alloc (.cells #[.int .u8 a] 5)) := by
  have := conv1 (w.alloc o) a c
  simpa using this
theorem conv1c (w : World) (o o' : Obj) (a : Int) (c : Nat) :
    (convert 125 9 (.slice (some ⟨w.heap.size + 1 + 1, 0, none⟩) 1 c)).run Tryd.prog (((w.alloc o).alloc o').alloc (.cells #[.int .u8 a] 5)) = .ok (.string (strOfNums [a])) (((w.alloc o).alloc o').alloc (.cells #[.int .u8 a] 5)) := by
  have := conv1 ((w.alloc o).alloc o') a c
  simpa using this
theorem refnum8 (v : Int) (h0 : 0 ≤ v) (h1 : v ≤ 18446744073709551615) (w : World) :
    Calls Tryd.prog 99 #[.int .u64 v, .int .i64 8] w fun e w' => e = .returned (.string ⟨(numL 8 v.toNat).toArray⟩) ∧ Below w.heap.size w w' := refnum v 8 h0 h1 (by omega) w
theorem may_size {v : V} (h : mayB v = true) : v.t.size ≤ 100 := by
  unfold mayB at h
  repeat' split at h
  all_goals first | (simp only [Bool.and_eq_true, decide_eq_true_eq] at h; omega) | cases h
theorem bool_of {v : V} (h : mayB v = true) (hk : v.k = 1) : v.n = 0 ∨ v.n = 1 := by
  unfold mayB at h
  rw [if_neg (by omega), if_pos hk] at h
  simp at h
  omega
theorem may_kind {v : V} (hm : mayB v = true) : v.k = 0 ∨ v.k = 1 ∨ v.k = 2 ∨ v.k = 3 ∨ v.k = 4 ∨ v.k = 5 := by
  unfold mayB at hm
  by_cases c0 : v.k = 0; · omega
  by_cases c1 : v.k = 1; · omega
  by_cases c2 : v.k = 2; · omega
  by_cases c3 : v.k = 3; · omega
  by_cases c4 : v.k = 4; · omega
  by_cases c5 : v.k = 5; · omega
  simp [c0, c1, c2, c3, c4, c5] at hm
theorem ba_of {s : ByteArray} {l : List UInt8} (h : s.data.toList = l) : s = ⟨l.toArray⟩ := by
  rw [← h]
theorem putR_of (v : V) (hm : mayB v = true) (s : ByteArray) (hs : s.data.toList = putL v) : Value.tuple #[.string s, .int .i64 0] = putR v := by
  unfold putR
  rw [hm, if_pos rfl, ← hs]
  rfl
theorem strOf1 (a : Int) : strOfNums [a] = ⟨#[UInt8.ofNat a.toNat]⟩ := rfl

set_option maxRecDepth 100000 in
theorem put_not (v : V) (hv : v.wf) (hm : mayB v = false) (w : World) (hT : Tabs w) :
    Calls Tryd.prog 20 #[v.agg] w fun e w' => e = .returned (putR v) ∧ Below w.heap.size w w' := by
  have HC := Lib.hid (check_not v hv hm)
  have hR : putR v = .tuple #[.string ⟨#[]⟩, .int .i64 2] := by unfold putR; rw [hm]; rfl
  rw [hR]
  clear hm hR hv
  have HT := Lib.hid hT
  clear hT
  obtain ⟨k, n, r, t⟩ := v
  unfold V.agg at HC ⊢
  go_enter Tryd.func20, Tryd.ntmps20
  go_wp2_with (go_at_call 94; refine (HC.out _ (HT.out.ext ((Below.refl _ _).alloc (Nat.le_refl _) _))).mono ?_; rintro e w' ⟨rfl, hb⟩)
  go_ret2
  exact ⟨rfl, ((Below.refl _ _).alloc (Nat.le_refl _) _).trans (hb.mono (by simp))⟩

set_option maxRecDepth 100000 in
theorem put_yes (v : V) (hv : v.wf) (hm : mayB v = true) (w : World) (hT : Tabs w) :
    Calls Tryd.prog 20 #[v.agg] w fun e w' => e = .returned (putR v) ∧ Below w.heap.size w w' := by
  have HC := Lib.hid (check_yes v hv hm)
  have HT := Lib.hid hT
  clear hT
  have HMY := Lib.hid hm
  have hc1 := conv1
  have hk5 := may_kind hm
  clear hm
  obtain ⟨k, n, r, t⟩ := v
  obtain ⟨hk0, hkM, h1, h2, h3, h4, h5⟩ := hv
  simp only at h1 h2 h3 h4 h5 hk5 hk0 hkM
  unfold V.agg at HC ⊢
  generalize hR : putR _ = R
  have HR := Lib.hid hR
  clear hR
  have hc2 := conv1b
  have hs1 : ∀ a : Int, (strOfNums [a]).size = 1 := fun _ => rfl
  have hs8 : ∀ a : Nat, (ByteArray.mk (numL 8 a).toArray).size = 8 := fun a => by simp [ByteArray.size, numL_length]
  have HN2 := Lib.hid (num_any (IntKind.u64.wrap n) (by rw [IntKind.wrap_u64]; omega) (by rw [IntKind.wrap_u64]; omega))
  have HN3 := Lib.hid (num_any r h3 h4)
  rcases hk5 with rfl | rfl | rfl | rfl | rfl | rfl
  all_goals
    have ht := may_size HMY.out
    simp only at ht
    go_enter Tryd.func20, Tryd.ntmps20
    go_wp2_with (first | (go_at_call 94; refine (HC.out _ (HT.out.ext ((Below.refl _ _).alloc (Nat.le_refl _) _))).mono ?_; rintro e w1 ⟨rfl, hb⟩; obtain ⟨hcl, hfr⟩ := bcell hb; have hz : w.heap.size < w1.heap.size := (by have := hb.size; simp at this; omega); have HB := Lib.hid hb; clear hb) | (go_at_call 95; ((with_reducible refine (HN2.out _).mono ?_); rintro e w2 ⟨rfl, hb2⟩)) | (go_at_call 95; ((with_reducible refine (HN3.out _).mono ?_); rintro e w2 ⟨rfl, hb2⟩)))
    go_ret2
    refine ⟨?_, ?_⟩
    · rw [← HR.out]
      refine congrArg Ending.returned (putR_of _ HMY.out _ ?_)
      have hm := HMY.out
      clear hcl hfr HB
      first
        | (rcases bool_of hm rfl with rfl | rfl <;> rfl)
        | (simp [putL, strOfNums, ByteArray.data_append, IntKind.wrap_u64, u64of]; done)
        | (simp [putL, strOfNums, ByteArray.data_append]; exact congrArg UInt8.ofNat (by omega))
        | rfl
    · have hb := HB.out
      have hw1 : Below w.heap.size w w1 := ((Below.refl _ _).alloc (Nat.le_refl _) _).trans (hb.mono (by simp))
      first
        | exact (hw1.alloc hw1.size _).trans (hb2.mono (by simp; omega))
        | exact (hw1.alloc hw1.size _).alloc (by simp; omega) _
        | exact hw1.alloc hw1.size _
theorem put_any (v : V) (hv : v.wf) (w : World) (hT : Tabs w) :
    Calls Tryd.prog 20 #[v.agg] w fun e w' => e = .returned (putR v) ∧ Below w.heap.size w w' := by
  cases hm : mayB v
  · exact put_not v hv hm w hT
  · exact put_yes v hv hm w hT

set_option maxRecDepth 100000 in
theorem refput_any (v : V) (hv : v.wf) (hm : mayB v = true) (w : World) :
    Calls Tryd.prog 25 #[v.agg] w fun e w' => e = .returned (.string ⟨(putL v).toArray⟩) ∧ Below w.heap.size w w' := by
  have HMY := Lib.hid hm
  have hc1 := conv1
  have hc2 := conv1b
  have hc3 := conv1c
  have hk5 := may_kind hm
  clear hm
  obtain ⟨k, n, r, t⟩ := v
  obtain ⟨hk0, hkM, h1, h2, h3, h4, h5⟩ := hv
  simp only at h1 h2 h3 h4 h5 hk5 hk0 hkM
  unfold V.agg
  generalize hR : putL _ = R
  have HR := Lib.hid hR
  clear hR
  have hs1 : ∀ a : Int, (strOfNums [a]).size = 1 := fun _ => rfl
  have hs8 : ∀ a : Nat, (ByteArray.mk (numL 8 a).toArray).size = 8 := fun a => by simp [ByteArray.size, numL_length]
  have HN2 := Lib.hid (refnum8 (IntKind.u64.wrap n) (by rw [IntKind.wrap_u64]; omega) (by rw [IntKind.wrap_u64]; omega))
  have HN3 := Lib.hid (refnum8 r h3 h4)
  rcases hk5 with rfl | rfl | rfl | rfl | rfl | rfl
  all_goals
    have ht := may_size HMY.out
    simp only at ht
    go_enter Tryd.func25, Tryd.ntmps25
    go_wp2_with (first | (go_at_call 99; ((with_reducible refine (HN2.out _).mono ?_); rintro e w2 ⟨rfl, hb2⟩)) | (go_at_call 99; ((with_reducible refine (HN3.out _).mono ?_); rintro e w2 ⟨rfl, hb2⟩)))
    go_ret
    refine ⟨?_, ?_⟩
    · rw [← HR.out]
      refine congrArg (fun s => Ending.returned (.string s)) (ba_of ?_)
      have hm := HMY.out
      first
        | (rcases bool_of hm rfl with rfl | rfl <;> rfl)
        | (simp [putL, strOfNums, ByteArray.data_append, IntKind.wrap_u64, u64of]; done)
        | (simp [putL, strOfNums, ByteArray.data_append]; exact congrArg UInt8.ofNat (by omega))
        | rfl
    · first
        | exact (((Below.refl _ _).alloc (Nat.le_refl _) _).alloc (by simp) _).trans (hb2.mono (by simp; omega))
        | exact (((Below.refl _ _).alloc (Nat.le_refl _) _).alloc (by simp) _).alloc (by simp; omega) _
        | exact ((Below.refl _ _).alloc (Nat.le_refl _) _).alloc (by simp) _
end Go.Proofs.YtjdfodmialhakaaDoor
