/- Contracts of value.Row and what it calls. -/
import Derived.Test.YtjdfodmialhakaaDoorRows1
import Derived.Test.YtjdfodmialhakaaDoorPut
namespace Go.Proofs.YtjdfodmialhakaaDoor
open Go.RowKit

theorem pred_any (v : V) (hv : v.wf) (w : World) (hT : Tabs w) :
    Calls Tryd.prog 157 #[v.agg] w fun e w' => e = .returned (.bool (!mayB v)) ∧ Below w.heap.size w w' := by
  have HY := Lib.hid (check_any v hv)
  have HT := Lib.hid hT
  clear hT hv
  cases hm : mayB v
  all_goals
    rw [hm] at HY
    clear hm
    obtain ⟨k, n, r, t⟩ := v
    unfold V.agg at HY ⊢
    go_enter Tryd.func157, Tryd.ntmps157
    go_wp2_with (go_at_call 94; refine (HY.out _ (HT.out.ext ((Below.refl _ _).alloc (Nat.le_refl _) _))).mono ?_; rintro e w' ⟨rfl, hb⟩)
    go_ret
    exact ⟨rfl, ((Below.refl _ _).alloc (Nat.le_refl _) _).trans (hb.mono (by simp))⟩
/-- The first that may not be. -/
def idxB (l : List V) : Int := match l.findIdx? (fun v => !mayB v) with | some i => (i : Int) | none => -1
theorem idx_hit {l : List V} {k : Nat} {v : V} (h : (l.take k).all mayB = true) (hk : l[k]? = some v) (hm : mayB v = false) : (k : Int) = idxB l := by
  obtain ⟨hlt, hv⟩ := List.getElem?_eq_some_iff.1 hk
  have : l.findIdx? (fun v => !mayB v) = some k := by
    rw [List.findIdx?_eq_some_iff_getElem]
    refine ⟨hlt, by rw [hv]; simp [hm], fun j hj => ?_⟩
    have hj' : (l.take k)[j]'(by simp; omega) ∈ l.take k := List.getElem_mem _
    rw [List.getElem_take] at hj'
    have := List.all_eq_true.1 h _ hj'
    simp [this]
  unfold idxB
  rw [this]
theorem idx_none {l : List V} {k : Nat} (h : (l.take k).all mayB = true) (hk : k = l.length) : (-1 : Int) = idxB l := by
  rw [hk, List.take_length] at h
  have : l.findIdx? (fun v => !mayB v) = none := by
    rw [List.findIdx?_eq_none_iff]
    intro v hv
    simp [List.all_eq_true.1 h v hv]
  unfold idxB
  rw [this]
theorem idx_all (l : List V) : decide (0 ≤ idxB l) = !l.all mayB := by
  unfold idxB
  cases h : l.findIdx? (fun v => !mayB v) with
  | none =>
    rw [List.findIdx?_eq_none_iff] at h
    have : l.all mayB = true := List.all_eq_true.2 fun v hv => by have := h v hv; simpa using this
    simp [this]
  | some i =>
    rw [List.findIdx?_eq_some_iff_getElem] at h
    obtain ⟨hlt, hv, _⟩ := h
    have : l.all mayB = false := List.all_eq_false.2 ⟨l[i], List.getElem_mem hlt, by simpa using hv⟩
    simp [this]
set_option maxRecDepth 100000 in
theorem index_any (l : List V) (A : Option Addr) (c : Nat) (w : World) (hr : VRow w A l) (hT : Tabs w) :
    Calls Tryd.prog 175 #[.slice A l.length c, .func (.func 157) #[] #[]] w fun e w' => e = .returned (.int .i64 (idxB l)) ∧ Below w.heap.size w w' := by
  have hlen := hr.2.1
  have HM := Lib.hid pred_any
  generalize hM : idxB l = M
  have HR := Lib.hid hM
  clear hM
  have HT := Lib.hid hT
  have HV := Lib.hid hr
  clear hT hr
  go_enter Tryd.func175, Tryd.ntmps175
  go_wp2
  go_loopw [8] (fun i wr => ∃ k : Nat, k ≤ l.length ∧ i = .int .i64 k ∧ Hid ((l.take k).all mayB = true) ∧ Below w.heap.size w wr) (fun i _ => l.length - (intOf i).toNat)
  case atStart => exact ⟨0, by omega, rfl, (by simp : _ = _), Below.refl _ _⟩
  case round =>
    obtain ⟨k, hk1, rfl, HS, hbw⟩ := hrel
    by_cases hlt : k < l.length
    · obtain ⟨b, off, v, rfl, hb, hlk, hmem, hwf, c0, c1, c2, c3⟩ := (HV.out.ext hbw).at_ hlt
      have HC := Lib.hid (HM.out v hwf wr (HT.out.ext hbw))
      have HL := Lib.hid hlk
      obtain ⟨vk, vn, vr, vt⟩ := v
      unfold V.agg at HC
      simp only at c0 c1 c2 c3
      clear hlk hwf hmem
      cases hm : mayB ⟨vk, vn, vr, vt⟩
      all_goals
        rw [hm] at HC
        have HMV := Lib.hid hm
        clear hm
        go_wp2_with (go_at_call 157; ((with_reducible refine HC.out.mono ?_); rintro e w1 ⟨rfl, hb1⟩))
      · go_ret
        exact ⟨ret_int (by rw [← HR.out]; exact idx_hit HS.out HL.out HMV.out), bt hbw hb1⟩
      · go_roundw
        case rel => exact ⟨k + 1, by omega, by go_num, all_step HS.out HL.out HMV.out, bt hbw hb1⟩
        case measure => simp [intOf]; omega
    · have hk : k = l.length := by omega
      have HK := Lib.hid hk
      clear hk
      go_wp2
      go_ret
      exact ⟨ret_int (by rw [← HR.out]; exact idx_none HS.out HK.out), hbw⟩
theorem contains_any (l : List V) (A : Option Addr) (c : Nat) (w : World) (hr : VRow w A l) (hT : Tabs w) :
    Calls Tryd.prog 156 #[.slice A l.length c, .func (.func 157) #[] #[]] w fun e w' => e = .returned (.bool (!l.all mayB)) ∧ Below w.heap.size w w' := by
  have HC := Lib.hid (index_any l A c w hr hT)
  clear hr hT
  rw [← idx_all l]
  generalize idxB l = M at HC ⊢
  go_enter Tryd.func156, Tryd.ntmps156
  go_wp2_with (go_at_call 175; ((with_reducible refine HC.out.mono ?_); rintro e w1 ⟨rfl, hb1⟩))
  go_ret
  exact ⟨rfl, hb1⟩
theorem vrow_any (l : List V) (A : Option Addr) (c : Nat) (w : World) (hr : VRow w A l) (hT : Tabs w) :
    Calls Tryd.prog 96 #[.slice A l.length c] w fun e w' => e = .returned (.int .i64 (okE (rowB l))) ∧ Below w.heap.size w w' := by
  have hlen := hr.2.1
  by_cases h1 : l.length < 1
  · have e : rowB l = false := by simp [rowB]; omega
    rw [e]
    clear e hr hT
    go_enter Tryd.func96, Tryd.ntmps96
    go_wp2
    go_ret
    exact ⟨rfl, Below.refl _ _⟩
  · by_cases h8 : 8 < l.length
    · have e : rowB l = false := by simp [rowB]; omega
      rw [e]
      clear e hr hT
      go_enter Tryd.func96, Tryd.ntmps96
      go_wp2
      go_ret
      exact ⟨rfl, Below.refl _ _⟩
    · have HC := Lib.hid (contains_any l A c w hr hT)
      have e : rowB l = l.all mayB := by
        have a : decide (1 ≤ l.length) = true := decide_eq_true (by omega)
        have b : decide (l.length ≤ 8) = true := decide_eq_true (by omega)
        unfold rowB
        rw [a, b]; rfl
      rw [e]
      clear e hr hT
      generalize l.all mayB = a at HC ⊢
      cases a
      all_goals
        go_enter Tryd.func96, Tryd.ntmps96
        go_wp2_with (go_at_call 156; ((with_reducible refine HC.out.mono ?_); rintro e w1 ⟨rfl, hb1⟩))
        go_ret
        exact ⟨rfl, hb1⟩
theorem vrow_yes (l : List V) (A : Option Addr) (c : Nat) (w : World) (hr : VRow w A l) (hT : Tabs w) (hm : rowB l = true) :
    Calls Tryd.prog 96 #[.slice A l.length c] w fun e w' => e = .returned (.int .i64 0) ∧ Below w.heap.size w w' := by
  have h := vrow_any l A c w hr hT
  rw [hm] at h
  exact h
theorem vrow_not (l : List V) (A : Option Addr) (c : Nat) (w : World) (hr : VRow w A l) (hT : Tabs w) (hm : rowB l = false) :
    Calls Tryd.prog 96 #[.slice A l.length c] w fun e w' => e = .returned (.int .i64 2) ∧ Below w.heap.size w w' := by
  have h := vrow_any l A c w hr hT
  rw [hm] at h
  exact h

/-- A row's bytes. -/
def putRowL (l : List V) : List UInt8 := UInt8.ofNat l.length :: l.flatMap putL
theorem putL_length {v : V} (hm : mayB v = true) : (putL v).length ≤ 102 := by
  have hs := may_size hm
  unfold putL
  have h8 := numL_length 8
  repeat' split
  all_goals simp [numL_length]
  all_goals omega
theorem flat_step {l : List V} {k : Nat} {v : V} {s : List UInt8} (h : s = UInt8.ofNat l.length :: (l.take k).flatMap putL) (hk : l[k]? = some v) :
    Hid (s ++ putL v = UInt8.ofNat l.length :: (l.take (k + 1)).flatMap putL) := by
  show _ = _
  obtain ⟨hlt, hv⟩ := List.getElem?_eq_some_iff.1 hk
  rw [List.take_succ_eq_append_getElem hlt, List.flatMap_append, hv, h]
  simp
def putRowR (l : List V) : Value := .tuple #[.string ⟨(if rowB l then putRowL l else []).toArray⟩, .int .i64 (okE (rowB l))]
theorem row_may {l : List V} (h : rowB l = true) : 1 ≤ l.length ∧ l.length ≤ 8 ∧ ∀ v ∈ l, mayB v = true := by
  unfold rowB at h
  simp only [Bool.and_eq_true, decide_eq_true_eq, List.all_eq_true] at h
  exact ⟨h.1.1, h.1.2, h.2⟩
set_option maxRecDepth 100000 in
theorem putrow_not (l : List V) (A : Option Addr) (c : Nat) (w : World) (hr : VRow w A l) (hT : Tabs w) (hm : rowB l = false) :
    Calls Tryd.prog 21 #[.slice A l.length c] w fun e w' => e = .returned (putRowR l) ∧ Below w.heap.size w w' := by
  have HC := Lib.hid (vrow_not l A c w hr hT hm)
  have hR : putRowR l = .tuple #[.string ⟨#[]⟩, .int .i64 2] := by unfold putRowR; rw [hm]; rfl
  rw [hR]
  clear hR hr hT hm
  go_enter Tryd.func21, Tryd.ntmps21
  go_wp2_with (go_at_call 96; ((with_reducible refine HC.out.mono ?_); rintro e w1 ⟨rfl, hb1⟩))
  go_ret2
  exact ⟨rfl, hb1⟩
set_option maxRecDepth 100000 in
theorem putrow_yes (l : List V) (A : Option Addr) (c : Nat) (w : World) (hr : VRow w A l) (hT : Tabs w) (hm : rowB l = true) :
    Calls Tryd.prog 21 #[.slice A l.length c] w fun e w' => e = .returned (putRowR l) ∧ Below w.heap.size w w' := by
  have HC := Lib.hid (vrow_yes l A c w hr hT hm)
  obtain ⟨h1, h8, hall⟩ := row_may hm
  have HALL := Lib.hid hall
  have hR : putRowR l = .tuple #[.string ⟨(putRowL l).toArray⟩, .int .i64 0] := by unfold putRowR; rw [hm]; rfl
  rw [hR]
  have HT := Lib.hid hT
  have HV := Lib.hid hr
  have HP := Lib.hid put_any
  clear hR hr hT hm hall
  have hc1 := conv1
  have hmod : (l.length : Int) % 256 = l.length := by omega
  have HMOD := Lib.hid hmod
  clear hmod
  generalize hP : putRowL l = P
  have HPL := Lib.hid hP
  clear hP
  go_enter Tryd.func21, Tryd.ntmps21
  go_wp2_with (go_at_call 96; ((with_reducible refine HC.out.mono ?_); rintro e w1 ⟨rfl, hb1⟩))
  have hb0 : Below w.heap.size w (w1.alloc (.cells #[.int .u8 (l.length : Int)] 5)) := hb1.alloc hb1.size _
  generalize w1.alloc (.cells #[.int .u8 (l.length : Int)] 5) = w0 at hb0 ⊢
  clear hb1
  go_loopw [5, 22] (fun s i wr => ∃ (k : Nat) (sb : ByteArray), k ≤ l.length ∧ i = .int .i64 k ∧ s = .string sb ∧ sb.size ≤ 1 + 102 * k ∧ Hid (sb.data.toList = UInt8.ofNat l.length :: (l.take k).flatMap putL) ∧ Below w.heap.size w wr) (fun _ i _ => l.length - (intOf i).toNat)
  case atStart => exact ⟨0, strOfNums [(l.length : Int)], by omega, rfl, rfl, by rw [strOfNums_size]; simp, (by simp [strOfNums] : _ = _), hb0⟩
  case round =>
    obtain ⟨k, sb, hk1, rfl, rfl, hsz, HS, hbw⟩ := hrel
    clear hb0
    by_cases hlt : k < l.length
    · obtain ⟨b, off, v, rfl, hb, hlk, hmem, hwf, c0, c1, c2, c3⟩ := (HV.out.ext hbw).at_ hlt
      have hmv := HALL.out v hmem
      have hpl := putL_length hmv
      have HPC := Lib.hid (fun W hW => HP.out v hwf W hW)
      have hRv : putR v = .tuple #[.string ⟨(putL v).toArray⟩, .int .i64 0] := by unfold putR; rw [hmv]; rfl
      rw [hRv] at HPC
      clear hRv
      have HL := Lib.hid hlk
      have hst := flat_step HS.out hlk
      obtain ⟨q, hq⟩ : ∃ q, q = putL v := ⟨_, rfl⟩
      rw [← hq] at hpl HPC hst
      have hqs : (ByteArray.mk q.toArray).size ≤ 102 := by simpa [ByteArray.size] using hpl
      obtain ⟨qb, hqb⟩ : ∃ qb : ByteArray, qb = ⟨q.toArray⟩ := ⟨_, rfl⟩
      rw [← hqb] at hqs HPC
      have hst2 : Hid ((sb ++ qb).data.toList = UInt8.ofNat l.length :: (l.take (k + 1)).flatMap putL) := by
        show _ = _
        rw [hqb, ByteArray.data_append]
        simpa using hst.out
      clear hst hqb hq hpl
      obtain ⟨vk, vn, vr, vt⟩ := v
      unfold V.agg at HPC
      simp only at c0 c1 c2 c3
      clear hlk hwf hmem hmv
      go_wp2_with (go_at_call 20; refine (HPC.out _ (HT.out.ext (hbw.alloc hbw.size _))).mono ?_; rintro e w2 ⟨rfl, hb2⟩)
      go_roundw
      case rel => exact ⟨k + 1, sb ++ qb, by omega, by go_num, rfl, by rw [ByteArray.size_append]; omega, hst2, (hbw.alloc hbw.size _).trans (hb2.mono (by have := hbw.size; simp; omega))⟩
      case measure => simp [intOf]; omega
    · have hk : k = l.length := by omega
      have HK := Lib.hid hk
      clear hk
      go_wp2
      go_ret2
      refine ⟨ret_tup2 (congrArg Value.string (ba_of ?_)) rfl, hbw⟩
      rw [← HPL.out, HS.out, HK.out, List.take_length]
      rfl
theorem putrow_any (l : List V) (A : Option Addr) (c : Nat) (w : World) (hr : VRow w A l) (hT : Tabs w) :
    Calls Tryd.prog 21 #[.slice A l.length c] w fun e w' => e = .returned (putRowR l) ∧ Below w.heap.size w w' := by
  cases hm : rowB l
  · exact putrow_not l A c w hr hT hm
  · exact putrow_yes l A c w hr hT hm

set_option maxRecDepth 100000 in
theorem refputrow_any (l : List V) (A : Option Addr) (c : Nat) (w : World) (hr : VRow w A l) (hm : rowB l = true) :
    Calls Tryd.prog 26 #[.slice A l.length c] w fun e w' => e = .returned (.string ⟨(putRowL l).toArray⟩) ∧ Below w.heap.size w w' := by
  obtain ⟨h1, h8, hall⟩ := row_may hm
  have HALL := Lib.hid hall
  have HV := Lib.hid hr
  have HP := Lib.hid refput_any
  clear hr hm hall
  have hc1 := conv1
  generalize hP : putRowL l = P
  have HPL := Lib.hid hP
  clear hP
  go_enter Tryd.func26, Tryd.ntmps26
  go_wp2
  have hb0 : Below w.heap.size w (w.alloc (.cells #[.int .u8 (l.length : Int)] 5)) := (Below.refl _ _).alloc (Nat.le_refl _) _
  generalize w.alloc (.cells #[.int .u8 (l.length : Int)] 5) = w0 at hb0 ⊢
  go_loopw [3, 4] (fun s i wr => ∃ (k : Nat) (sb : ByteArray), k ≤ l.length ∧ i = .int .i64 k ∧ s = .string sb ∧ sb.size ≤ 1 + 102 * k ∧ Hid (sb.data.toList = UInt8.ofNat l.length :: (l.take k).flatMap putL) ∧ Below w.heap.size w wr) (fun _ i _ => l.length - (intOf i).toNat)
  case atStart => exact ⟨0, strOfNums [(l.length : Int)], by omega, rfl, rfl, by rw [strOfNums_size]; simp, (by simp [strOfNums] : _ = _), hb0⟩
  case round =>
    obtain ⟨k, sb, hk1, rfl, rfl, hsz, HS, hbw⟩ := hrel
    clear hb0
    by_cases hlt : k < l.length
    · obtain ⟨b, off, v, rfl, hb, hlk, hmem, hwf, c0, c1, c2, c3⟩ := (HV.out.ext hbw).at_ hlt
      have hmv := HALL.out v hmem
      have hpl := putL_length hmv
      have HPC := Lib.hid (fun W => HP.out v hwf hmv W)
      have hst := flat_step HS.out hlk
      obtain ⟨q, hq⟩ : ∃ q, q = putL v := ⟨_, rfl⟩
      rw [← hq] at hpl HPC hst
      have hqs : (ByteArray.mk q.toArray).size ≤ 102 := by simpa [ByteArray.size] using hpl
      obtain ⟨qb, hqb⟩ : ∃ qb : ByteArray, qb = ⟨q.toArray⟩ := ⟨_, rfl⟩
      rw [← hqb] at hqs HPC
      have hst2 : Hid ((sb ++ qb).data.toList = UInt8.ofNat l.length :: (l.take (k + 1)).flatMap putL) := by
        show _ = _
        rw [hqb, ByteArray.data_append]
        simpa using hst.out
      clear hst hqb hq hpl
      obtain ⟨vk, vn, vr, vt⟩ := v
      unfold V.agg at HPC
      simp only at c0 c1 c2 c3
      clear hlk hwf hmem hmv
      go_wp2_with (go_at_call 25; refine (HPC.out _).mono ?_; rintro e w2 ⟨rfl, hb2⟩)
      go_roundw
      case rel => exact ⟨k + 1, sb ++ qb, by omega, by go_num, rfl, by rw [ByteArray.size_append]; omega, hst2, bt hbw hb2⟩
      case measure => simp [intOf]; omega
    · have hk : k = l.length := by omega
      have HK := Lib.hid hk
      clear hk
      go_wp2
      go_ret
      refine ⟨congrArg (fun s => Ending.returned (.string s)) (ba_of ?_), hbw⟩
      rw [← HPL.out, HS.out, HK.out, List.take_length]
      rfl
end Go.Proofs.YtjdfodmialhakaaDoor
