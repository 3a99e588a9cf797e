/- Several texts in one: see each part's head. -/
import Derived.Test.YtkfhfegogmlchaaDoorJ1
import Derived.Test.YtkfhfegogmlchaaDoorJ2
import Derived.Test.YtkfhfegogmlchaaDoorJ6
/- Contracts of value.Row and what it calls. -/
namespace Go.Proofs.YtkfhfegogmlchaaDoor
open Go.RowKit

theorem pred_any (v : V) (hv : v.wf) (w : World) (hT : Tabs w) :
    Calls Tryd.prog 66 #[v.agg] w fun e w' => e = .returned (.bool (!mayB v)) ∧ Below w.heap.size w w' := by
  have HY := Lib.hid (check_any v hv)
  have HT := Lib.hid hT
  clear hT hv
  cases hm : mayB v
  all_goals
    rw [hm] at HY
    clear hm
    obtain ⟨k, n, r, t⟩ := v
    unfold V.agg at HY ⊢
    go_enter Tryd.func66, Tryd.ntmps66
    go_wp2_with (go_at_call 67; refine (HY.out _ (HT.out.ext ((Below.refl _ _).alloc (Nat.le_refl _) _))).mono ?_; rintro e w' ⟨rfl, hb⟩)
    go_ret
    exact ⟨rfl, ((Below.refl _ _).alloc (Nat.le_refl _) _).trans (hb.mono (by simp))⟩
/-- The first that may not be. -/
def idxB (l : List V) : Int := match l.findIdx? (fun v => !mayB v) with | some i => (i : Int) | none => -1
theorem idx_hit {l : List V} {k : Nat} {v : V} (h : (l.take k).all mayB = true) (hk : l[k]? = some v) (hm : mayB v = false) : (k : Int) = idxB l := by
  obtain ⟨hlt, hv⟩ := List.getElem?_eq_some_iff.1 hk
  have : l.findIdx? (fun v => !mayB v) = some k := by
    rw [List.findIdx?_eq_some_iff_getElem]
    refine ⟨hlt, by rw [hv]; simp [hm], fun j hj => ?_⟩
    have hj' : (l.take k)[j]'(by simp; omega) ∈ l.take k := List.getElem_mem _
    rw [List.getElem_take] at hj'
    have := List.all_eq_true.1 h _ hj'
    simp [this]
  unfold idxB
  rw [this]
theorem idx_none {l : List V} {k : Nat} (h : (l.take k).all mayB = true) (hk : k = l.length) : (-1 : Int) = idxB l := by
  rw [hk, List.take_length] at h
  have : l.findIdx? (fun v => !mayB v) = none := by
    rw [List.findIdx?_eq_none_iff]
    intro v hv
    simp [List.all_eq_true.1 h v hv]
  unfold idxB
  rw [this]
theorem idx_all (l : List V) : decide (0 ≤ idxB l) = !l.all mayB := by
  unfold idxB
  cases h : l.findIdx? (fun v => !mayB v) with
  | none =>
    rw [List.findIdx?_eq_none_iff] at h
    have : l.all mayB = true := List.all_eq_true.2 fun v hv => by have := h v hv; simpa using this
    simp [this]
  | some i =>
    rw [List.findIdx?_eq_some_iff_getElem] at h
    obtain ⟨hlt, hv, _⟩ := h
    have : l.all mayB = false := List.all_eq_false.2 ⟨l[i], List.getElem_mem hlt, by simpa using hv⟩
    simp [this]
set_option maxRecDepth 100000 in
theorem index_any (l : List V) (A : Option Addr) (c : Nat) (w : World) (hr : VRow w A l) (hT : Tabs w) :
    Calls Tryd.prog 75 #[.slice A l.length c, .func (.func 66) #[] #[]] w fun e w' => e = .returned (.int .i64 (idxB l)) ∧ Below w.heap.size w w' := by
  have hlen := hr.2.1
  have HM := Lib.hid pred_any
  generalize hM : idxB l = M
  have HR := Lib.hid hM
  clear hM
  have HT := Lib.hid hT
  have HV := Lib.hid hr
  clear hT hr
  go_enter Tryd.func75, Tryd.ntmps75
  go_wp2
  go_loopw [8] (fun i wr => ∃ k : Nat, k ≤ l.length ∧ i = .int .i64 k ∧ Hid ((l.take k).all mayB = true) ∧ Below w.heap.size w wr) (fun i _ => l.length - (intOf i).toNat)
  case atStart => exact ⟨0, by omega, rfl, (by simp : _ = _), Below.refl _ _⟩
  case round =>
    obtain ⟨k, hk1, rfl, HS, hbw⟩ := hrel
    by_cases hlt : k < l.length
    · obtain ⟨b, off, v, rfl, hb, hlk, hmem, hwf, c0, c1, c2, c3⟩ := (HV.out.ext hbw).at_ hlt
      have HC := Lib.hid (HM.out v hwf wr (HT.out.ext hbw))
      have HL := Lib.hid hlk
      obtain ⟨vk, vn, vr, vt⟩ := v
      unfold V.agg at HC
      simp only at c0 c1 c2 c3
      clear hlk hwf hmem
      cases hm : mayB ⟨vk, vn, vr, vt⟩
      all_goals
        rw [hm] at HC
        have HMV := Lib.hid hm
        clear hm
        go_wp2_with (go_at_call 66; ((with_reducible refine HC.out.mono ?_); rintro e w1 ⟨rfl, hb1⟩))
      · go_ret
        exact ⟨ret_int (by rw [← HR.out]; exact idx_hit HS.out HL.out HMV.out), bt hbw hb1⟩
      · go_roundw
        case rel => exact ⟨k + 1, by omega, by go_num, all_step HS.out HL.out HMV.out, bt hbw hb1⟩
        case measure => simp [intOf]; omega
    · have hk : k = l.length := by omega
      have HK := Lib.hid hk
      clear hk
      go_wp2
      go_ret
      exact ⟨ret_int (by rw [← HR.out]; exact idx_none HS.out HK.out), hbw⟩
theorem contains_any (l : List V) (A : Option Addr) (c : Nat) (w : World) (hr : VRow w A l) (hT : Tabs w) :
    Calls Tryd.prog 65 #[.slice A l.length c, .func (.func 66) #[] #[]] w fun e w' => e = .returned (.bool (!l.all mayB)) ∧ Below w.heap.size w w' := by
  have HC := Lib.hid (index_any l A c w hr hT)
  clear hr hT
  rw [← idx_all l]
  generalize idxB l = M at HC ⊢
  go_enter Tryd.func65, Tryd.ntmps65
  go_wp2_with (go_at_call 75; ((with_reducible refine HC.out.mono ?_); rintro e w1 ⟨rfl, hb1⟩))
  go_ret
  exact ⟨rfl, hb1⟩
theorem vrow_any (l : List V) (A : Option Addr) (c : Nat) (w : World) (hr : VRow w A l) (hT : Tabs w) :
    Calls Tryd.prog 53 #[.slice A l.length c] w fun e w' => e = .returned (.int .i64 (okE (rowB l))) ∧ Below w.heap.size w w' := by
  have hlen := hr.2.1
  by_cases h1 : l.length < 1
  · have e : rowB l = false := by simp [rowB]; omega
    rw [e]
    clear e hr hT
    go_enter Tryd.func53, Tryd.ntmps53
    go_wp2
    go_ret
    exact ⟨rfl, Below.refl _ _⟩
  · by_cases h8 : 8 < l.length
    · have e : rowB l = false := by simp [rowB]; omega
      rw [e]
      clear e hr hT
      go_enter Tryd.func53, Tryd.ntmps53
      go_wp2
      go_ret
      exact ⟨rfl, Below.refl _ _⟩
    · have HC := Lib.hid (contains_any l A c w hr hT)
      have e : rowB l = l.all mayB := by
        have a : decide (1 ≤ l.length) = true := decide_eq_true (by omega)
        have b : decide (l.length ≤ 8) = true := decide_eq_true (by omega)
        unfold rowB
        rw [a, b]; rfl
      rw [e]
      clear e hr hT
      generalize l.all mayB = a at HC ⊢
      cases a
      all_goals
        go_enter Tryd.func53, Tryd.ntmps53
        go_wp2_with (go_at_call 65; ((with_reducible refine HC.out.mono ?_); rintro e w1 ⟨rfl, hb1⟩))
        go_ret
        exact ⟨rfl, hb1⟩
theorem vrow_yes (l : List V) (A : Option Addr) (c : Nat) (w : World) (hr : VRow w A l) (hT : Tabs w) (hm : rowB l = true) :
    Calls Tryd.prog 53 #[.slice A l.length c] w fun e w' => e = .returned (.int .i64 0) ∧ Below w.heap.size w w' := by
  have h := vrow_any l A c w hr hT
  rw [hm] at h
  exact h
theorem vrow_not (l : List V) (A : Option Addr) (c : Nat) (w : World) (hr : VRow w A l) (hT : Tabs w) (hm : rowB l = false) :
    Calls Tryd.prog 53 #[.slice A l.length c] w fun e w' => e = .returned (.int .i64 2) ∧ Below w.heap.size w w' := by
  have h := vrow_any l A c w hr hT
  rw [hm] at h
  exact h

/-- A row's bytes. -/
def putRowL (l : List V) : List UInt8 := UInt8.ofNat l.length :: l.flatMap putL
theorem putL_length {v : V} (hm : mayB v = true) : (putL v).length ≤ 102 := by
  have hs := may_size hm
  unfold putL
  have h8 := numL_length 8
  repeat' split
  all_goals simp [numL_length]
  all_goals omega
theorem flat_step {l : List V} {k : Nat} {v : V} {s : List UInt8} (h : s = UInt8.ofNat l.length :: (l.take k).flatMap putL) (hk : l[k]? = some v) :
    Hid (s ++ putL v = UInt8.ofNat l.length :: (l.take (k + 1)).flatMap putL) := by
  show _ = _
  obtain ⟨hlt, hv⟩ := List.getElem?_eq_some_iff.1 hk
  rw [List.take_succ_eq_append_getElem hlt, List.flatMap_append, hv, h]
  simp
def putRowR (l : List V) : Value := .tuple #[.string ⟨(if rowB l then putRowL l else []).toArray⟩, .int .i64 (okE (rowB l))]
theorem row_may {l : List V} (h : rowB l = true) : 1 ≤ l.length ∧ l.length ≤ 8 ∧ ∀ v ∈ l, mayB v = true := by
  unfold rowB at h
  simp only [Bool.and_eq_true, decide_eq_true_eq, List.all_eq_true] at h
  exact ⟨h.1.1, h.1.2, h.2⟩
set_option maxRecDepth 100000 in
theorem putrow_not (l : List V) (A : Option Addr) (c : Nat) (w : World) (hr : VRow w A l) (hT : Tabs w) (hm : rowB l = false) :
    Calls Tryd.prog 60 #[.slice A l.length c] w fun e w' => e = .returned (putRowR l) ∧ Below w.heap.size w w' := by
  have HC := Lib.hid (vrow_not l A c w hr hT hm)
  have hR : putRowR l = .tuple #[.string ⟨#[]⟩, .int .i64 2] := by unfold putRowR; rw [hm]; rfl
  rw [hR]
  clear hR hr hT hm
  go_enter Tryd.func60, Tryd.ntmps60
  go_wp2_with (go_at_call 53; ((with_reducible refine HC.out.mono ?_); rintro e w1 ⟨rfl, hb1⟩))
  go_ret2
  exact ⟨rfl, hb1⟩
set_option maxRecDepth 100000 in
theorem putrow_yes (l : List V) (A : Option Addr) (c : Nat) (w : World) (hr : VRow w A l) (hT : Tabs w) (hm : rowB l = true) :
    Calls Tryd.prog 60 #[.slice A l.length c] w fun e w' => e = .returned (putRowR l) ∧ Below w.heap.size w w' := by
  have HC := Lib.hid (vrow_yes l A c w hr hT hm)
  obtain ⟨h1, h8, hall⟩ := row_may hm
  have HALL := Lib.hid hall
  have hR : putRowR l = .tuple #[.string ⟨(putRowL l).toArray⟩, .int .i64 0] := by unfold putRowR; rw [hm]; rfl
  rw [hR]
  have HT := Lib.hid hT
  have HV := Lib.hid hr
  have HP := Lib.hid put_any
  clear hR hr hT hm hall
  have hc1 := conv1
  have hmod : (l.length : Int) % 256 = l.length := by omega
  have HMOD := Lib.hid hmod
  clear hmod
  generalize hP : putRowL l = P
  have HPL := Lib.hid hP
  clear hP
  go_enter Tryd.func60, Tryd.ntmps60
  go_wp2_with (go_at_call 53; ((with_reducible refine HC.out.mono ?_); rintro e w1 ⟨rfl, hb1⟩))
  have hb0 : Below w.heap.size w (w1.alloc (.cells #[.int .u8 (l.length : Int)] 5)) := hb1.alloc hb1.size _
  generalize w1.alloc (.cells #[.int .u8 (l.length : Int)] 5) = w0 at hb0 ⊢
  clear hb1
  go_loopw [5, 22] (fun s i wr => ∃ (k : Nat) (sb : ByteArray), k ≤ l.length ∧ i = .int .i64 k ∧ s = .string sb ∧ sb.size ≤ 1 + 102 * k ∧ Hid (sb.data.toList = UInt8.ofNat l.length :: (l.take k).flatMap putL) ∧ Below w.heap.size w wr) (fun _ i _ => l.length - (intOf i).toNat)
  case atStart => exact ⟨0, strOfNums [(l.length : Int)], by omega, rfl, rfl, by rw [strOfNums_size]; simp, (by simp [strOfNums] : _ = _), hb0⟩
  case round =>
    obtain ⟨k, sb, hk1, rfl, rfl, hsz, HS, hbw⟩ := hrel
    clear hb0
    by_cases hlt : k < l.length
    · obtain ⟨b, off, v, rfl, hb, hlk, hmem, hwf, c0, c1, c2, c3⟩ := (HV.out.ext hbw).at_ hlt
      have hmv := HALL.out v hmem
      have hpl := putL_length hmv
      have HPC := Lib.hid (fun W hW => HP.out v hwf W hW)
      have hRv : putR v = .tuple #[.string ⟨(putL v).toArray⟩, .int .i64 0] := by unfold putR; rw [hmv]; rfl
      rw [hRv] at HPC
      clear hRv
      have HL := Lib.hid hlk
      have hst := flat_step HS.out hlk
      obtain ⟨q, hq⟩ : ∃ q, q = putL v := ⟨_, rfl⟩
      rw [← hq] at hpl HPC hst
      have hqs : (ByteArray.mk q.toArray).size ≤ 102 := by simpa [ByteArray.size] using hpl
      obtain ⟨qb, hqb⟩ : ∃ qb : ByteArray, qb = ⟨q.toArray⟩ := ⟨_, rfl⟩
      rw [← hqb] at hqs HPC
      have hst2 : Hid ((sb ++ qb).data.toList = UInt8.ofNat l.length :: (l.take (k + 1)).flatMap putL) := by
        show _ = _
        rw [hqb, ByteArray.data_append]
        simpa using hst.out
      clear hst hqb hq hpl
      obtain ⟨vk, vn, vr, vt⟩ := v
      unfold V.agg at HPC
      simp only at c0 c1 c2 c3
      clear hlk hwf hmem hmv
      go_wp2_with (go_at_call 72; refine (HPC.out _ (HT.out.ext (hbw.alloc hbw.size _))).mono ?_; rintro e w2 ⟨rfl, hb2⟩)
      go_roundw
      case rel => exact ⟨k + 1, sb ++ qb, by omega, by go_num, rfl, by rw [ByteArray.size_append]; omega, hst2, (hbw.alloc hbw.size _).trans (hb2.mono (by have := hbw.size; simp; omega))⟩
      case measure => simp [intOf]; omega
    · have hk : k = l.length := by omega
      have HK := Lib.hid hk
      clear hk
      go_wp2
      go_ret2
      refine ⟨ret_tup2 (congrArg Value.string (ba_of ?_)) rfl, hbw⟩
      rw [← HPL.out, HS.out, HK.out, List.take_length]
      rfl
theorem putrow_any (l : List V) (A : Option Addr) (c : Nat) (w : World) (hr : VRow w A l) (hT : Tabs w) :
    Calls Tryd.prog 60 #[.slice A l.length c] w fun e w' => e = .returned (putRowR l) ∧ Below w.heap.size w w' := by
  cases hm : rowB l
  · exact putrow_not l A c w hr hT hm
  · exact putrow_yes l A c w hr hT hm

end Go.Proofs.YtkfhfegogmlchaaDoor

/- Plain laws: what was put is got, whatever stands behind it; rows' bytes do not begin one another. -/
namespace Go.Proofs.YtkfhfegogmlchaaDoor
open Go.RowKit

theorem valid_opens : ∀ (f : Nat) (l : List UInt8) (m : Nat), l.length ≤ f → Lib.validD l = true → opensGo f l m = true
  | 0, _, _, _, _ => rfl
  | f + 1, l, m, hf, hv => by
    unfold opensGo
    by_cases hl : l = []
    · rw [if_pos hl]
    · rw [if_neg hl]
      rw [Lib.validD_step l hl] at hv
      by_cases hb : (Lib.decodeL l).1 = 65533 ∧ (Lib.decodeL l).2 = 1
      · rw [if_pos hb] at hv; cases hv
      · rw [if_neg hb] at hv
        have hbad : ¬ badL l = true := by
          intro h
          simp [badL] at h
          exact hb h
        rw [if_neg hbad]
        have hw := Lib.decodeL_width l
        exact valid_opens f _ _ (by rw [List.length_drop]; omega) hv
theorem opensB_valid {l : List UInt8} (m : Nat) (h : Lib.validD l = true) : opensB l m = true := valid_opens _ l m (Nat.le_refl _) h

theorem may_1 {n r : Int} {t : ByteArray} (h : mayB ⟨1, n, r, t⟩ = true) : (n = 0 ∨ n = 1) ∧ r = 0 ∧ t = ByteArray.empty := by
  simp [mayB] at h
  exact ⟨h.1.1, h.1.2, h.2⟩
theorem may_0 {n r : Int} {t : ByteArray} (h : mayB ⟨0, n, r, t⟩ = true) : n = 0 ∧ r = 0 ∧ t = ByteArray.empty := by
  simp [mayB] at h
  exact ⟨h.1.1, h.1.2, h.2⟩
theorem may_2 {n r : Int} {t : ByteArray} (h : mayB ⟨2, n, r, t⟩ = true) : r = 0 ∧ t = ByteArray.empty := by
  simpa [mayB] using h
theorem may_3 {n r : Int} {t : ByteArray} (h : mayB ⟨3, n, r, t⟩ = true) : n = 0 ∧ t = ByteArray.empty := by
  simp [mayB] at h
  exact ⟨h.1.1, h.2⟩
theorem may_4 {n r : Int} {t : ByteArray} (h : mayB ⟨4, n, r, t⟩ = true) : n = 0 ∧ r = 0 ∧ t.size ≤ 100 := by
  simp [mayB] at h
  exact ⟨h.1.1, h.1.2, h.2⟩
theorem may_5 {n r : Int} {t : ByteArray} (h : mayB ⟨5, n, r, t⟩ = true) : n = 0 ∧ r = 0 ∧ t.size ≤ 100 ∧ Lib.validD t.data.toList = true := by
  simp [mayB] at h
  exact ⟨h.2.1.1, h.2.1.2, h.2.2, h.1⟩
theorem toNat_small {n : Nat} (h : n ≤ 100) : (UInt8.ofNat n).toNat = n := by rw [UInt8.toNat_ofNat']; omega

theorem put_get_text (k : Nat) (hk : k = 4 ∨ k = 5) (t : ByteArray) (ht : t.size ≤ 100) (hv : k = 5 → Lib.validD t.data.toList = true) (hm : mayB ⟨k, 0, 0, t⟩ = true) (more : List UInt8) :
    getV (UInt8.ofNat k :: UInt8.ofNat t.size :: (t.data.toList ++ more)) = (0, ⟨k, 0, 0, t⟩, t.size + 2) := by
  have hk' : (UInt8.ofNat k).toNat = k := toNat_small (by omega)
  have hs := toNat_small ht
  have hlen : t.data.toList.length = t.size := by simp
  have htk : (t.data.toList ++ more).take t.size = t.data.toList := by rw [← hlen, List.take_left]
  have hE : textE (k == 5) (UInt8.ofNat t.size :: (t.data.toList ++ more)) = 0 := by
    rw [textE, hs, if_neg (by omega), htk]
    have ho : ((k == 5) && !opensB t.data.toList t.size) = false := by
      rcases hk with rfl | rfl
      · rfl
      · rw [opensB_valid _ (hv rfl)]; rfl
    rw [ho]
    have : ¬ (t.data.toList ++ more).length < t.size := by rw [List.length_append, hlen]; omega
    simp only [Bool.false_eq_true, if_false, if_neg this]
  rw [getV, hk', if_neg (by omega), if_neg (by omega), if_neg (by omega), if_neg (by omega), if_pos hk]
  simp only [hE, if_true, hs, htk]
  have hta : (⟨t.data.toList.toArray⟩ : ByteArray) = t := (ba_of rfl).symm
  rw [hta, finV_yes hm, Nat.add_comm]

theorem getV_2 (x : List UInt8) (h : ¬ x.length < 8) : getV (2 :: x) = finV ⟨2, i64of (valL (x.take 8)), 0, ByteArray.empty⟩ 9 := by
  simp [getV, h]
theorem getV_3 (x : List UInt8) (h : ¬ x.length < 8) : getV (3 :: x) = finV ⟨3, 0, valL (x.take 8), ByteArray.empty⟩ 9 := by
  simp [getV, h]
theorem put_get (v : V) (hw : v.wf) (hm : mayB v = true) (more : List UInt8) : getV (putL v ++ more) = (0, v, (putL v).length) := by
  have hk := may_kind hm
  obtain ⟨k, n, r, t⟩ := v
  obtain ⟨_, _, h1, h2, h3, h4, _⟩ := hw
  simp only at hk h1 h2 h3 h4
  rcases hk with rfl | rfl | rfl | rfl | rfl | rfl
  · obtain ⟨rfl, rfl, rfl⟩ := may_0 hm
    simp [putL, getV, finV, hm]
  · obtain ⟨hn, rfl, rfl⟩ := may_1 hm
    rcases hn with rfl | rfl <;> simp [putL, getV, finV, hm]
  · obtain ⟨rfl, rfl⟩ := may_2 hm
    have hl8 := numL_length 8 (u64of n)
    have htk : (numL 8 (u64of n) ++ more).take 8 = numL 8 (u64of n) := by
      have := List.take_left (l₁ := numL 8 (u64of n)) (l₂ := more)
      rwa [hl8] at this
    have hu : u64of n < 256 ^ 8 := by
      have : (256 : Nat) ^ 8 = 18446744073709551616 := by decide
      unfold u64of; omega
    have hv := valL_numL 8 (u64of n) hu
    have hi : i64of (u64of n) = n := by unfold i64of u64of wrap64; omega
    have hlen : ¬ (numL 8 (u64of n) ++ more).length < 8 := by rw [List.length_append, hl8]; omega
    have e : putL ⟨2, n, 0, ByteArray.empty⟩ = 2 :: numL 8 (u64of n) := by simp [putL]
    rw [e, List.cons_append, List.length_cons, hl8]
    rw [getV_2 _ hlen, htk, hv, hi, finV_yes hm]
  · obtain ⟨rfl, rfl⟩ := may_3 hm
    have hl8 := numL_length 8 r.toNat
    have htk : (numL 8 r.toNat ++ more).take 8 = numL 8 r.toNat := by
      have := List.take_left (l₁ := numL 8 r.toNat) (l₂ := more)
      rwa [hl8] at this
    have hu : r.toNat < 256 ^ 8 := by
      have : (256 : Nat) ^ 8 = 18446744073709551616 := by decide
      omega
    have hv := valL_numL 8 r.toNat hu
    have hi : ((r.toNat : Nat) : Int) = r := by omega
    have hlen : ¬ (numL 8 r.toNat ++ more).length < 8 := by rw [List.length_append, hl8]; omega
    have e : putL ⟨3, 0, r, ByteArray.empty⟩ = 3 :: numL 8 r.toNat := by simp [putL]
    rw [e, List.cons_append, List.length_cons, hl8]
    rw [getV_3 _ hlen, htk, hv, hi, finV_yes hm]
  · obtain ⟨rfl, rfl, ht⟩ := may_4 hm
    have := put_get_text 4 (.inl rfl) t ht (fun h => by cases h) hm more
    simpa [putL] using this
  · obtain ⟨rfl, rfl, ht, hv⟩ := may_5 hm
    have := put_get_text 5 (.inr rfl) t ht (fun _ => hv) hm more
    simpa [putL] using this
theorem puts_get : ∀ (l : List V), (∀ v ∈ l, v.wf) → (∀ v ∈ l, mayB v = true) → ∀ more, getVs l.length (l.flatMap putL ++ more) = (0, l, (l.flatMap putL).length)
  | [], _, _, _ => rfl
  | v :: l, hw, hm, more => by
    have hv := put_get v (hw v (by simp)) (hm v (by simp)) (l.flatMap putL ++ more)
    have ih := puts_get l (fun x hx => hw x (by simp [hx])) (fun x hx => hm x (by simp [hx])) more
    rw [List.length_cons, List.flatMap_cons, List.append_assoc, getVs, hv]
    simp only [if_true]
    have hd : (putL v ++ (l.flatMap putL ++ more)).drop (putL v).length = l.flatMap putL ++ more := List.drop_left
    rw [hd, ih]
    simp
/-- What was put is got, whatever stands behind it. -/
theorem putRow_getRow (l : List V) (hw : ∀ v ∈ l, v.wf) (hm : rowB l = true) (more : List UInt8) : getRow (putRowL l ++ more) = (0, l, (putRowL l).length) := by
  obtain ⟨h1, h8, hall⟩ := row_may hm
  have hs : (UInt8.ofNat l.length).toNat = l.length := toNat_small (by omega)
  have h := puts_get l hw hall more
  unfold putRowL
  rw [List.cons_append, getRow, hs, if_neg (by omega), h]
  simp [Nat.add_comm]
end Go.Proofs.YtkfhfegogmlchaaDoor
