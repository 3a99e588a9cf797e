/- Texts joined by a tool: contracts and walks of this claim. -/
import Derived.Test.YtceoficoappkpaaGreatDoorB6
import Derived.StillTailTactics
import Derived.Sort.Statements
import Derived.Lib.Bytealg
namespace Go.Proofs.YtceoficoappkpaaGreatDoor
open Go.RowKit
theorem pred_any (v : V) (hv : v.wf) (w : World) (hT : Tabs w) :
  Calls Tryz.prog 111 #[v.agg] w fun e w' => e = .returned (.bool (!mayB v)) ∧ Below w.heap.size w w' := by
 have HY := hd_ (check_any v hv)
 have HT := hd_ hT
 clear hT hv
 cases hm : mayB v
 all_goals
  rw [hm] at HY
  clear hm
  obtain ⟨k, n, r, t⟩ := v
  unfold V.agg at HY ⊢
  go_enter Tryz.func111, Tryz.ntmps111
  go_wp2_with (go_at_call 58; refine (HY.out _ (HT.out.ext ((Below.refl _ _).alloc (Nat.le_refl _) _))).mono ?_; rintro e w' ⟨rfl, hb⟩)
  go_ret
  exact ⟨rfl, ((Below.refl _ _).alloc (Nat.le_refl _) _).trans (hb.mono (by simp))⟩
def idxB (l : List V) : Int := match l.findIdx? (fun v => !mayB v) with | some i => (i : Int) | none => -1
theorem idx_hit {l : List V} {k : Nat} {v : V} (h : (l.take k).all mayB = true) (hk : l[k]? = some v) (hm : mayB v = false) : (k : Int) = idxB l := by
 obtain ⟨hlt, hv⟩ := List.getElem?_eq_some_iff.1 hk
 have : l.findIdx? (fun v => !mayB v) = some k := by
  rw [List.findIdx?_eq_some_iff_getElem]
  refine ⟨hlt, by rw [hv]; simp [hm], fun j hj => ?_⟩
  have hj' : (l.take k)[j]'(by simp; omega) ∈ l.take k := List.getElem_mem _
  rw [List.getElem_take] at hj'
  have := List.all_eq_true.1 h _ hj'
  simp [this]
 unfold idxB
 rw [this]
theorem idx_none {l : List V} {k : Nat} (h : (l.take k).all mayB = true) (hk : k = l.length) : (-1 : Int) = idxB l := by
 rw [hk, List.take_length] at h
 have : l.findIdx? (fun v => !mayB v) = none := by
  rw [List.findIdx?_eq_none_iff]
  intro v hv
  simp [List.all_eq_true.1 h v hv]
 unfold idxB
 rw [this]
theorem idx_all (l : List V) : decide (0 ≤ idxB l) = !l.all mayB := by
 unfold idxB
 cases h : l.findIdx? (fun v => !mayB v) with
 | none =>
  rw [List.findIdx?_eq_none_iff] at h
  have : l.all mayB = true := List.all_eq_true.2 fun v hv => by have := h v hv; simpa using this
  simp [this]
 | some i =>
  rw [List.findIdx?_eq_some_iff_getElem] at h
  obtain ⟨hlt, hv, _⟩ := h
  have : l.all mayB = false := List.all_eq_false.2 ⟨l[i], List.getElem_mem hlt, by simpa using hv⟩
  simp [this]
set_option maxRecDepth 100000 in
theorem index_any (l : List V) (A : Option Addr) (c : Nat) (w : World) (hr : VRow w A l) (hT : Tabs w) :
  Calls Tryz.prog 160 #[.slice A l.length c, .func (.func 111) #[] #[]] w fun e w' => e = .returned (.int .i64 (idxB l)) ∧ Below w.heap.size w w' := by
 have hlen := hr.2.1
 have HM := hd_ pred_any
 generalize hM : idxB l = M
 have HR := hd_ hM
 clear hM
 have HT := hd_ hT
 have HV := hd_ hr
 clear hT hr
 go_enter Tryz.func160, Tryz.ntmps160
 go_wp2
 go_loopw [8] (fun i wr => ∃ k : Nat, k ≤ l.length ∧ i = .int .i64 k ∧ Hid ((l.take k).all mayB = true) ∧ Below w.heap.size w wr) (fun i _ => l.length - (intOf i).toNat)
 case atStart => exact ⟨0, by omega, rfl, (by simp : _ = _), Below.refl _ _⟩
 case round =>
  obtain ⟨k, hk1, rfl, HS, hbw⟩ := hrel
  by_cases hlt : k < l.length
  · obtain ⟨b, off, v, rfl, hb, hlk, hmem, hwf, c0, c1, c2, c3⟩ := (HV.out.ext hbw).at_ hlt
    have HC := hd_ (HM.out v hwf wr (HT.out.ext hbw))
    have HL := hd_ hlk
    obtain ⟨vk, vn, vr, vt⟩ := v
    unfold V.agg at HC
    simp only at c0 c1 c2 c3
    clear hlk hwf hmem
    cases hm : mayB ⟨vk, vn, vr, vt⟩
    all_goals
     rw [hm] at HC
     have HMV := hd_ hm
     clear hm
     go_wp2_with (go_at_call 111; ((with_reducible refine HC.out.mono ?_); rintro e w1 ⟨rfl, hb1⟩))
    · go_ret
      exact ⟨ret_int (by rw [← HR.out]; exact idx_hit HS.out HL.out HMV.out), bt hbw hb1⟩
    · go_roundw
      case rel => exact ⟨k + 1, by omega, by go_num, all_step HS.out HL.out HMV.out, bt hbw hb1⟩
      case measure => simp [intOf]; omega
  · have hk : k = l.length := by omega
    have HK := hd_ hk
    clear hk
    go_wp2
    go_ret
    exact ⟨ret_int (by rw [← HR.out]; exact idx_none HS.out HK.out), hbw⟩
theorem contains_any (l : List V) (A : Option Addr) (c : Nat) (w : World) (hr : VRow w A l) (hT : Tabs w) :
  Calls Tryz.prog 110 #[.slice A l.length c, .func (.func 111) #[] #[]] w fun e w' => e = .returned (.bool (!l.all mayB)) ∧ Below w.heap.size w w' := by
 have HC := hd_ (index_any l A c w hr hT)
 clear hr hT
 rw [← idx_all l]
 generalize idxB l = M at HC ⊢
 go_enter Tryz.func110, Tryz.ntmps110
 go_wp2_with (go_at_call 160; ((with_reducible refine HC.out.mono ?_); rintro e w1 ⟨rfl, hb1⟩))
 go_ret
 exact ⟨rfl, hb1⟩
theorem vrow_any (l : List V) (A : Option Addr) (c : Nat) (w : World) (hr : VRow w A l) (hT : Tabs w) :
  Calls Tryz.prog 74 #[.slice A l.length c] w fun e w' => e = .returned (.int .i64 (okE (rowB l))) ∧ Below w.heap.size w w' := by
 have hlen := hr.2.1
 by_cases h1 : l.length < 1
 · have e : rowB l = false := by simp [rowB]; omega
   rw [e]
   clear e hr hT
   go_enter Tryz.func74, Tryz.ntmps74
   go_wp2
   go_ret
   exact ⟨rfl, Below.refl _ _⟩
 · by_cases h8 : 8 < l.length
   · have e : rowB l = false := by simp [rowB]; omega
     rw [e]
     clear e hr hT
     go_enter Tryz.func74, Tryz.ntmps74
     go_wp2
     go_ret
     exact ⟨rfl, Below.refl _ _⟩
   · have HC := hd_ (contains_any l A c w hr hT)
     have e : rowB l = l.all mayB := by
      have a : decide (1 ≤ l.length) = true := decide_eq_true (by omega)
      have b : decide (l.length ≤ 8) = true := decide_eq_true (by omega)
      unfold rowB
      rw [a, b]; rfl
     rw [e]
     clear e hr hT
     generalize l.all mayB = a at HC ⊢
     cases a
     all_goals
      go_enter Tryz.func74, Tryz.ntmps74
      go_wp2_with (go_at_call 110; ((with_reducible refine HC.out.mono ?_); rintro e w1 ⟨rfl, hb1⟩))
      go_ret
      exact ⟨rfl, hb1⟩
theorem vrow_yes (l : List V) (A : Option Addr) (c : Nat) (w : World) (hr : VRow w A l) (hT : Tabs w) (hm : rowB l = true) :
  Calls Tryz.prog 74 #[.slice A l.length c] w fun e w' => e = .returned (.int .i64 0) ∧ Below w.heap.size w w' := by
 have h := vrow_any l A c w hr hT
 rw [hm] at h
 exact h
theorem vrow_not (l : List V) (A : Option Addr) (c : Nat) (w : World) (hr : VRow w A l) (hT : Tabs w) (hm : rowB l = false) :
  Calls Tryz.prog 74 #[.slice A l.length c] w fun e w' => e = .returned (.int .i64 2) ∧ Below w.heap.size w w' := by
 have h := vrow_any l A c w hr hT
 rw [hm] at h
 exact h
def putRowL (l : List V) : List UInt8 := UInt8.ofNat l.length :: l.flatMap putL
theorem putL_length {v : V} (hm : mayB v = true) : (putL v).length ≤ 102 := by
 have hs := may_size hm
 unfold putL
 have h8 := numL_length 8
 repeat' split
 all_goals simp [numL_length]
 all_goals omega
theorem flat_step {l : List V} {k : Nat} {v : V} {s : List UInt8} (h : s = UInt8.ofNat l.length :: (l.take k).flatMap putL) (hk : l[k]? = some v) :
  Hid (s ++ putL v = UInt8.ofNat l.length :: (l.take (k + 1)).flatMap putL) := by
 show _ = _
 obtain ⟨hlt, hv⟩ := List.getElem?_eq_some_iff.1 hk
 rw [List.take_succ_eq_append_getElem hlt, List.flatMap_append, hv, h]
 simp
def putRowR (l : List V) : Value := .tuple #[.string ⟨(if rowB l then putRowL l else []).toArray⟩, .int .i64 (okE (rowB l))]
theorem row_may {l : List V} (h : rowB l = true) : 1 ≤ l.length ∧ l.length ≤ 8 ∧ ∀ v ∈ l, mayB v = true := by
 unfold rowB at h
 simp only [Bool.and_eq_true, decide_eq_true_eq, List.all_eq_true] at h
 exact ⟨h.1.1, h.1.2, h.2⟩
set_option maxRecDepth 100000 in
theorem putrow_not (l : List V) (A : Option Addr) (c : Nat) (w : World) (hr : VRow w A l) (hT : Tabs w) (hm : rowB l = false) :
  Calls Tryz.prog 45 #[.slice A l.length c] w fun e w' => e = .returned (putRowR l) ∧ Below w.heap.size w w' := by
 have HC := hd_ (vrow_not l A c w hr hT hm)
 have hR : putRowR l = .tuple #[.string ⟨#[]⟩, .int .i64 2] := by unfold putRowR; rw [hm]; rfl
 rw [hR]
 clear hR hr hT hm
 go_enter Tryz.func45, Tryz.ntmps45
 go_wp2_with (go_at_call 74; ((with_reducible refine HC.out.mono ?_); rintro e w1 ⟨rfl, hb1⟩))
 go_ret2
 exact ⟨rfl, hb1⟩
set_option maxRecDepth 100000 in
theorem putrow_yes (l : List V) (A : Option Addr) (c : Nat) (w : World) (hr : VRow w A l) (hT : Tabs w) (hm : rowB l = true) :
  Calls Tryz.prog 45 #[.slice A l.length c] w fun e w' => e = .returned (putRowR l) ∧ Below w.heap.size w w' := by
 have HC := hd_ (vrow_yes l A c w hr hT hm)
 obtain ⟨h1, h8, hall⟩ := row_may hm
 have HALL := hd_ hall
 have hR : putRowR l = .tuple #[.string ⟨(putRowL l).toArray⟩, .int .i64 0] := by unfold putRowR; rw [hm]; rfl
 rw [hR]
 have HT := hd_ hT
 have HV := hd_ hr
 have HP := hd_ put_any
 clear hR hr hT hm hall
 have hc1 := conv1
 have hmod : (l.length : Int) % 256 = l.length := by omega
 have HMOD := hd_ hmod
 clear hmod
 generalize hP : putRowL l = P
 have HPL := hd_ hP
 clear hP
 go_enter Tryz.func45, Tryz.ntmps45
 go_wp2_with (go_at_call 74; ((with_reducible refine HC.out.mono ?_); rintro e w1 ⟨rfl, hb1⟩))
 have hb0 : Below w.heap.size w (w1.alloc (.cells #[.int .u8 (l.length : Int)] 5)) := hb1.alloc hb1.size _
 generalize w1.alloc (.cells #[.int .u8 (l.length : Int)] 5) = w0 at hb0 ⊢
 clear hb1
 go_loopw [5, 22] (fun s i wr => ∃ (k : Nat) (sb : ByteArray), k ≤ l.length ∧ i = .int .i64 k ∧ s = .string sb ∧ sb.size ≤ 1 + 102 * k ∧ Hid (sb.data.toList = UInt8.ofNat l.length :: (l.take k).flatMap putL) ∧ Below w.heap.size w wr) (fun _ i _ => l.length - (intOf i).toNat)
 case atStart => exact ⟨0, strOfNums [(l.length : Int)], by omega, rfl, rfl, by rw [strOfNums_size]; simp, (by simp [strOfNums] : _ = _), hb0⟩
 case round =>
  obtain ⟨k, sb, hk1, rfl, rfl, hsz, HS, hbw⟩ := hrel
  clear hb0
  by_cases hlt : k < l.length
  · obtain ⟨b, off, v, rfl, hb, hlk, hmem, hwf, c0, c1, c2, c3⟩ := (HV.out.ext hbw).at_ hlt
    have hmv := HALL.out v hmem
    have hpl := putL_length hmv
    have HPC := hd_ (fun W hW => HP.out v hwf W hW)
    have hRv : putR v = .tuple #[.string ⟨(putL v).toArray⟩, .int .i64 0] := by unfold putR; rw [hmv]; rfl
    rw [hRv] at HPC
    clear hRv
    have HL := hd_ hlk
    have hst := flat_step HS.out hlk
    obtain ⟨q, hq⟩ : ∃ q, q = putL v := ⟨_, rfl⟩
    rw [← hq] at hpl HPC hst
    have hqs : (ByteArray.mk q.toArray).size ≤ 102 := by simpa [ByteArray.size] using hpl
    obtain ⟨qb, hqb⟩ : ∃ qb : ByteArray, qb = ⟨q.toArray⟩ := ⟨_, rfl⟩
    rw [← hqb] at hqs HPC
    have hst2 : Hid ((sb ++ qb).data.toList = UInt8.ofNat l.length :: (l.take (k + 1)).flatMap putL) := by
     show _ = _
     rw [hqb, ByteArray.data_append]
     simpa using hst.out
    clear hst hqb hq hpl
    obtain ⟨vk, vn, vr, vt⟩ := v
    unfold V.agg at HPC
    simp only at c0 c1 c2 c3
    clear hlk hwf hmem hmv
    go_wp2_with (go_at_call 75; refine (HPC.out _ (HT.out.ext (hbw.alloc hbw.size _))).mono ?_; rintro e w2 ⟨rfl, hb2⟩)
    go_roundw
    case rel => exact ⟨k + 1, sb ++ qb, by omega, by go_num, rfl, by rw [ByteArray.size_append]; omega, hst2, (hbw.alloc hbw.size _).trans (hb2.mono (by have := hbw.size; simp; omega))⟩
    case measure => simp [intOf]; omega
  · have hk : k = l.length := by omega
    have HK := hd_ hk
    clear hk
    go_wp2
    go_ret2
    refine ⟨ret_tup2 (congrArg Value.string (ba_of ?_)) rfl, hbw⟩
    rw [← HPL.out, HS.out, HK.out, List.take_length]
    rfl
theorem putrow_any (l : List V) (A : Option Addr) (c : Nat) (w : World) (hr : VRow w A l) (hT : Tabs w) :
  Calls Tryz.prog 45 #[.slice A l.length c] w fun e w' => e = .returned (putRowR l) ∧ Below w.heap.size w w' := by
 cases hm : rowB l
 · exact putrow_not l A c w hr hT hm
 · exact putrow_yes l A c w hr hT hm
theorem putrow_ok (l : List V) (A : Option Addr) (c : Nat) (w : World) (hr : VRow w A l) (hT : Tabs w) (hm : rowB l = true) :
  Calls Tryz.prog 45 #[.slice A l.length c] w fun e w' => e = .returned (.tuple #[.string ⟨(putRowL l).toArray⟩, .int .i64 0]) ∧ Below w.heap.size w w' := by
 have h := putrow_any l A c w hr hT
 unfold putRowR at h
 rw [hm] at h
 exact h
theorem VBlk.cells {w : World} {b : Nat} {v : V} (h : VBlk w b v) : w.cell? ⟨b, 0, none⟩ = some (.int .u8 v.k) ∧ w.cell? ⟨b, 1, none⟩ = some (.int .i64 v.n) ∧ w.cell? ⟨b, 2, none⟩ = some (.int .u64 v.r) ∧ w.cell? ⟨b, 3, none⟩ = some (.string v.t) :=
 ⟨cell_of_row w b 0 _ _ (0, 0) h, cell_of_row w b 1 _ _ (0, 0) h, cell_of_row w b 2 _ _ (0, 0) h, cell_of_row w b 3 _ _ (0, 0) h⟩
theorem VBlk.made (w : World) (v : V) : VBlk (w.alloc (.cells #[.int .u8 v.k, .int .i64 v.n, .int .u64 v.r, .string v.t] 47)) w.heap.size v := heap_alloc_new w _
theorem str_ne (l : List UInt8) (h : l ≠ []) : (⟨l.toArray⟩ : ByteArray).toList.isEmpty = false ∧ ¬ (⟨l.toArray⟩ : ByteArray).toList = [] := by
 have e : (⟨l.toArray⟩ : ByteArray).toList = l := by rw [Lib.toList_data]
 rw [e]
 exact ⟨by cases l <;> simp_all, h⟩
inductive De where
 | mk (tb : Int) (row : List V) (kids : List De)
def De.tb : De → Int | .mk t _ _ => t
def De.row : De → List V | .mk _ r _ => r
def De.kids : De → List De | .mk _ _ k => k
def preD : De → List De
 | .mk t r ks => .mk t r ks :: ks.attach.flatMap fun x => preD x.1
 termination_by d => SizeOf.sizeOf d
 decreasing_by have := List.sizeOf_lt_of_mem x.2; simp only [De.mk.sizeOf_spec]; omega
def ordB : List De → Bool
 | a :: b :: ks => decide (a.tb ≤ b.tb) && ordB (b :: ks)
 | _ => true
def nodeB (d : De) : Bool := decide (0 ≤ d.tb) && decide (d.tb < 12) && rowB d.row && ordB d.kids
def fitsB (d : De) : Bool := (preD d).all nodeB
def KRow (R : Value → De → Prop) (w : World) (K : Option Addr) (ks : List De) : Prop :=
 ks.length ≤ 2932031007402 ∧ (ks ≠ [] → ∃ b off, K = some ⟨b, off, none⟩ ∧ b < w.heap.size ∧ ∀ i k, ks[i]? = some k →
  ∃ c0 c1 c2, w.cell? ⟨b, off + i * 3, none⟩ = some c0 ∧ w.cell? ⟨b, off + i * 3 + 1, none⟩ = some c1 ∧ w.cell? ⟨b, off + i * 3 + 2, none⟩ = some c2 ∧ R (.agg #[c0, c1, c2]) k)
def DRd : Nat → World → Value → De → Prop
 | 0, _, _, _ => False
 | n + 1, w, v, d => ∃ (A : Option Addr) (ca : Nat) (K : Option Addr) (ck : Nat), v = .agg #[.int .i64 d.tb, .slice A d.row.length ca, .slice K d.kids.length ck] ∧
  (-9223372036854775808 ≤ d.tb ∧ d.tb ≤ 9223372036854775807) ∧ VRow w A d.row ∧ KRow (DRd n w) w K d.kids
theorem KRow.ext {R R' : Value → De → Prop} {w w' : World} {K : Option Addr} {ks : List De} (h : KRow R w K ks) (hb : Below w.heap.size w w') (hR : ∀ v k, R v k → R' v k) : KRow R' w' K ks := by
 refine ⟨h.1, fun hl => ?_⟩
 obtain ⟨b, off, rfl, hlt, hc⟩ := h.2 hl
 refine ⟨b, off, rfl, Nat.lt_of_lt_of_le hlt hb.size, fun i k hi => ?_⟩
 obtain ⟨c0, c1, c2, h0, h1, h2, h3⟩ := hc i k hi
 exact ⟨c0, c1, c2, (hb.cell (p := ⟨b, _, none⟩) hlt).trans h0, (hb.cell (p := ⟨b, _, none⟩) hlt).trans h1, (hb.cell (p := ⟨b, _, none⟩) hlt).trans h2, hR _ _ h3⟩
theorem DRd.ext : ∀ {n : Nat} {w w' : World} {v : Value} {d : De}, DRd n w v d → Below w.heap.size w w' → DRd n w' v d
 | 0, _, _, _, _, h, _ => h.elim
 | _ + 1, _, _, _, _, ⟨A, ca, K, ck, hv, hr, ha, hk⟩, hb => ⟨A, ca, K, ck, hv, hr, ha.ext hb, hk.ext hb (fun _ _ h => DRd.ext h hb)⟩
theorem KRow.at_ {R : Value → De → Prop} {w : World} {K : Option Addr} {ks : List De} (h : KRow R w K ks) {k : Nat} (hk : k < ks.length) :
  ∃ (b off : Nat) (d : De) (c0 c1 c2 : Value), K = some ⟨b, off, none⟩ ∧ b < w.heap.size ∧ ks.drop k = d :: ks.drop (k + 1) ∧ ks[k]? = some d ∧
   w.cell? ⟨b, off + k * 3, none⟩ = some c0 ∧ w.cell? ⟨b, off + k * 3 + 1, none⟩ = some c1 ∧ w.cell? ⟨b, off + k * 3 + 2, none⟩ = some c2 ∧ R (.agg #[c0, c1, c2]) d := by
 obtain ⟨b, off, rfl, hlt, hc⟩ := h.2 (by intro e; simp [e] at hk)
 have hv := List.getElem?_eq_getElem hk
 obtain ⟨c0, c1, c2, h0, h1, h2, h3⟩ := hc k _ hv
 exact ⟨b, off, ks[k], c0, c1, c2, rfl, hlt, List.drop_eq_getElem_cons hk, hv, h0, h1, h2, h3⟩
end Go.Proofs.YtceoficoappkpaaGreatDoor
namespace Go.Proofs.YtceoficoappkpaaGreatDoor



abbrev Rw := Nat × List V
section
variable (kids : Nat → List Nat) (key ref : Nat → List V → V)
def ofS (st : List Rw) (c : Nat) (k : V) : List Rw := open Classical in st.filter fun x => decide (x.1 = c ∧ ref c x.2 = k)
def belowS (st : List Rw) (x : Rw) : List Rw := (kids x.1).flatMap fun c => ofS ref st c (key x.1 x.2)
variable {kids key ref} {dp : Nat → Nat} {st : List Rw}
def Anc (kids : Nat → List Nat) (key ref : Nat → List V → V) (st : List Rw) : Nat → Rw → Rw → Prop
 | 0, x, q => x = q ∧ x ∈ st
 | n + 1, x, q => q ∈ st ∧ ∃ y, Anc kids key ref st n x y ∧ y ∈ belowS kids key ref st q
theorem Anc.mem : ∀ {n : Nat} {x q : Rw}, Anc kids key ref st n x q → x ∈ st
 | 0, _, _, h => h.2
 | _ + 1, _, _, h => by obtain ⟨_, y, h1, _⟩ := h; exact h1.mem
end
end Go.Proofs.YtceoficoappkpaaGreatDoor
namespace Go.Proofs.YtceoficoappkpaaGreatDoor
open Go.Sort (SWO)

def lexL {α : Type} (p q : α → α → Bool) (a b : α) : Bool := p a b || (!p b a && q a b)
def keyZ (r : Int) : Int := if canonZ r < 9223372036854775808 then canonZ r + 9223372036854775808 else 18446744073709551615 - canonZ r
def vLess : V → V → Bool :=
 lexL (fun a b => decide (a.k < b.k)) (lexL (fun a b => decide (a.n < b.n)) (lexL (fun a b => decide (keyZ a.r < keyZ b.r)) (fun a b => decide (Lib.compareBytes a.t.data.toList b.t.data.toList < 0))))
end Go.Proofs.YtceoficoappkpaaGreatDoor
namespace Go.Proofs.YtceoficoappkpaaGreatDoor
open Go.RowKit
theorem bytesLt_eq : ∀ (x y : List UInt8), Op.bytesLess x y = decide (x < y)
 | [], [] => by simp [Op.bytesLess]
 | _ :: _, [] => by simp [Op.bytesLess]
 | [], _ :: _ => by simp [Op.bytesLess]
 | a :: x, b :: y => by
  rw [Op.bytesLess, bytesLt_eq x y]
  simp only [List.cons_lt_cons_iff]
  by_cases h1 : a < b <;> by_cases h2 : a = b <;> by_cases h3 : x < y <;> simp [h1, h2, h3]
def kLt (a b : ByteArray) : Bool := Op.bytesLess a.toList b.toList
theorem kLt_iff {a b : ByteArray} : kLt a b = true ↔ a.toList < b.toList := by
 unfold kLt; rw [bytesLt_eq]; exact decide_eq_true_iff
theorem kLt_irr (a : ByteArray) : kLt a a = false := by
 rw [Bool.eq_false_iff]; intro h; exact List.lt_irrefl _ (kLt_iff.1 h)
theorem kLt_trans {a b c : ByteArray} (h : kLt a b = true) (k : kLt b c = true) : kLt a c = true := kLt_iff.2 (List.lt_trans (kLt_iff.1 h) (kLt_iff.1 k))
theorem kLt_asymm {a b : ByteArray} (h : kLt a b = true) : kLt b a = false := by
 rw [Bool.eq_false_iff]; intro k; have := kLt_trans h k; rw [kLt_irr] at this; cases this
theorem ba_toList {a b : ByteArray} (h : a.toList = b.toList) : a = b := by
 rw [ByteArray.toList_eq, ByteArray.toList_eq] at h
 cases a; cases b; simp_all
theorem kLt_total {a b : ByteArray} (h : kLt a b = false) (k : kLt b a = false) : a = b := by
 rw [Bool.eq_false_iff] at h k
 exact ba_toList (List.le_antisymm (fun x => k (kLt_iff.2 x)) (fun x => h (kLt_iff.2 x)))
structure Pr where
 k : ByteArray
 v : ByteArray
 g : Bool
inductive Tr where
 | nil
 | node (b : Nat) (p : Pr) (r : Int) (l t : Tr)
def Tr.blks : Tr → List Nat
 | .nil => []
 | .node b _ _ l t => b :: (l.blks ++ t.blks)
def Tr.toL : Tr → List Pr
 | .nil => []
 | .node _ p _ l t => l.toL ++ p :: t.toL
def Rise (l : List Pr) : Prop := l.Pairwise fun a b => kLt a.k b.k = true
def insP (p : Pr) : List Pr → List Pr
 | [] => [p]
 | q :: l => if kLt p.k q.k then p :: q :: l else if kLt q.k p.k then q :: insP p l else p :: l
def Tr.liftL (b : Nat) (p : Pr) (r : Int) (L R : Tr) : Tr := match L with
 | .nil => .node b p r .nil R
 | .node c q s LL LR => if r < s then .node c q s LL (.node b p r LR R) else .node b p r (.node c q s LL LR) R
def Tr.liftR (b : Nat) (p : Pr) (r : Int) (L R : Tr) : Tr := match R with
 | .nil => .node b p r L .nil
 | .node c q s RL RR => if r < s then .node c q s (.node b p r L RL) RR else .node b p r L (.node c q s RL RR)
def Tr.put (nb : Nat) (rk : Int) (p : Pr) : Tr → Tr × Bool
 | .nil => (.node nb p rk .nil .nil, true)
 | .node b q r L R =>
  if kLt p.k q.k then (if (L.put nb rk p).2 then (liftL b q r (L.put nb rk p).1 R, true) else (.node b q r (L.put nb rk p).1 R, false))
  else if kLt q.k p.k then (if (R.put nb rk p).2 then (liftR b q r L (R.put nb rk p).1, true) else (.node b q r L (R.put nb rk p).1, false))
  else (.node b p r L R, false)
theorem liftL_toL (b : Nat) (p : Pr) (r : Int) (L R : Tr) : (Tr.liftL b p r L R).toL = L.toL ++ p :: R.toL := by
 unfold Tr.liftL
 split
 · rfl
 · split <;> simp [Tr.toL]
theorem liftR_toL (b : Nat) (p : Pr) (r : Int) (L R : Tr) : (Tr.liftR b p r L R).toL = L.toL ++ p :: R.toL := by
 unfold Tr.liftR
 split
 · rfl
 · split <;> simp [Tr.toL]
theorem insP_left {p q : Pr} (h : kLt p.k q.k = true) (m : List Pr) : ∀ l : List Pr, insP p (l ++ q :: m) = insP p l ++ q :: m
 | [] => by simp [insP, h]
 | x :: l => by
  have ih := insP_left h m l
  simp only [List.cons_append, insP]
  split
  · rfl
  · split
    · rw [ih]; rfl
    · rfl
theorem insP_mid {p q : Pr} (h : kLt p.k q.k = false) (h2 : kLt q.k p.k = false) (m : List Pr) : ∀ l : List Pr, (∀ x ∈ l, kLt x.k q.k = true) → insP p (l ++ q :: m) = l ++ p :: m
 | [], _ => by simp [insP, h, h2]
 | x :: l, hl => by
  have ih := insP_mid h h2 m l (fun y hy => hl y (by simp [hy]))
  have e := kLt_total h h2
  have hx := hl x (by simp)
  rw [← e] at hx
  simp only [List.cons_append, insP]
  rw [kLt_asymm hx, if_neg Bool.false_ne_true, if_pos hx, ih]
theorem insP_right {p q : Pr} (h2 : kLt q.k p.k = true) (m : List Pr) : ∀ l : List Pr, (∀ x ∈ l, kLt x.k q.k = true) → insP p (l ++ q :: m) = l ++ q :: insP p m
 | [], _ => by simp [insP, kLt_asymm h2, h2]
 | x :: l, hl => by
  have ih := insP_right h2 m l (fun y hy => hl y (by simp [hy]))
  have hx := kLt_trans (hl x (by simp)) h2
  simp only [List.cons_append, insP]
  rw [kLt_asymm hx, if_neg Bool.false_ne_true, if_pos hx, ih]
theorem Tr.put_toL (nb : Nat) (rk : Int) (p : Pr) : ∀ t : Tr, Rise t.toL → (t.put nb rk p).1.toL = insP p t.toL
 | .nil, _ => rfl
 | .node b q r L R, h => by
  unfold Rise at h
  rw [Tr.toL, List.pairwise_append] at h
  obtain ⟨h1, h2, h3⟩ := h
  have h4 := (List.pairwise_cons.1 h2)
  have hl : ∀ x ∈ L.toL, kLt x.k q.k = true := fun x hx => h3 x hx q (by simp)
  have ihL := Tr.put_toL nb rk p L h1
  have ihR := Tr.put_toL nb rk p R h4.2
  rw [Tr.put, Tr.toL]
  by_cases c1 : kLt p.k q.k = true
  · rw [if_pos c1, insP_left c1, ← ihL]
    split
    · exact liftL_toL ..
    · rfl
  · rw [if_neg c1]
    by_cases c2 : kLt q.k p.k = true
    · rw [if_pos c2, insP_right c2 _ _ hl, ← ihR]
      split
      · exact liftR_toL ..
      · rfl
    · rw [if_neg c2, insP_mid (by simpa using c1) (by simpa using c2) _ _ hl]
      rfl
theorem insP_mem {p x : Pr} : ∀ {l : List Pr}, x ∈ insP p l → x = p ∨ x ∈ l
 | [], h => by simp [insP] at h; exact Or.inl h
 | q :: l, h => by
  rw [insP] at h
  split at h
  · simpa using h
  · split at h
    · rcases List.mem_cons.1 h with e | h
      · exact Or.inr (by simp [e])
      · rcases insP_mem h with e | h
        · exact Or.inl e
        · exact Or.inr (by simp [h])
    · rcases List.mem_cons.1 h with e | h
      · exact Or.inl e
      · exact Or.inr (by simp [h])
theorem insP_rise {p : Pr} : ∀ {l : List Pr}, Rise l → Rise (insP p l)
 | [], _ => by simp [insP, Rise]
 | q :: l, h => by
  have h' := List.pairwise_cons.1 h
  rw [insP]
  split
  · next c => exact List.pairwise_cons.2 ⟨fun x hx => by
     rcases List.mem_cons.1 hx with e | hx
     · rw [e]; exact c
     · exact kLt_trans c (h'.1 x hx), h⟩
  · next c =>
    split
    · next c2 => exact List.pairwise_cons.2 ⟨fun x hx => by
       rcases insP_mem hx with e | hx
       · rw [e]; exact c2
       · exact h'.1 x hx, insP_rise h'.2⟩
    · next c2 =>
      have e := kLt_total (by simpa using c) (by simpa using c2)
      exact List.pairwise_cons.2 ⟨fun x hx => by rw [e]; exact h'.1 x hx, h'.2⟩
def findP (k : ByteArray) (l : List Pr) : Option Pr := l.find? fun p => decide (p.k = k)
def Tr.find (k : ByteArray) : Tr → Option Pr
 | .nil => none
 | .node _ p _ L R => if kLt k p.k then L.find k else if kLt p.k k then R.find k else some p
theorem find_none {k : ByteArray} {l : List Pr} (h : ∀ x ∈ l, x.k ≠ k) : findP k l = none := by
 unfold findP; rw [List.find?_eq_none]; intro x hx; simpa using h x hx
theorem Tr.find_eq (k : ByteArray) : ∀ t : Tr, Rise t.toL → t.find k = findP k t.toL
 | .nil, _ => rfl
 | .node b q r L R, h => by
  unfold Rise at h
  rw [Tr.toL, List.pairwise_append] at h
  obtain ⟨h1, h2, h3⟩ := h
  have h4 := (List.pairwise_cons.1 h2)
  have ihL := Tr.find_eq k L h1
  have ihR := Tr.find_eq k R h4.2
  have hl : ∀ x ∈ L.toL, kLt x.k q.k = true := fun x hx => h3 x hx q (by simp)
  rw [Tr.find, Tr.toL]
  have hap : findP k (L.toL ++ q :: R.toL) = (findP k L.toL).or (findP k (q :: R.toL)) := List.find?_append
  rw [hap]
  split
  · next c =>
    have hq : findP k (q :: R.toL) = none := find_none fun x hx e => by
     subst e
     rcases List.mem_cons.1 hx with e | hx
     · subst e; rw [kLt_irr] at c; cases c
     · have := kLt_trans c (h4.1 x hx); rw [kLt_irr] at this; cases this
    rw [hq, ihL, Option.or_none]
  · next c =>
    split
    · next c2 =>
      have hL : findP k L.toL = none := find_none fun x hx e => by
       subst e; have := kLt_trans (hl x hx) c2; rw [kLt_irr] at this; cases this
      have hq : findP k (q :: R.toL) = findP k R.toL := by
       unfold findP; rw [List.find?_cons_of_neg]; simp; intro e; rw [e, kLt_irr] at c2; cases c2
      rw [hL, hq, ihR]; rfl
    · next c2 =>
      have e := kLt_total (by simpa using c) (by simpa using c2)
      subst e
      have hL : findP q.k L.toL = none := find_none fun x hx e => by
       have := hl x hx; rw [e, kLt_irr] at this; cases this
      rw [hL]; unfold findP; rw [List.find?_cons_of_pos (by simp)]; rfl
end Go.Proofs.YtceoficoappkpaaGreatDoor
namespace Go.Proofs.YtceoficoappkpaaGreatDoor
open Go.Sort (SWO)

def pLess : Nat × V → Nat × V → Bool := lexL (fun a b => decide ((a.1 : Int) < b.1)) (fun a b => vLess a.2 b.2)
section
variable (pl : Rw → Nat × V)
def Ris (l : List Rw) : Prop := l.Pairwise fun a b => pLess (pl a) (pl b) = true
variable {pl} {l : List Rw} {p : Nat × V}
end
end Go.Proofs.YtceoficoappkpaaGreatDoor
namespace Go.Proofs.YtceoficoappkpaaGreatDoor
open Go.RowKit
theorem EBlk.drew {w : World} {b : Nat} {n : Int} (h : EBlk w b n) : EBlk w.drew b n := h
theorem VBlk.drew {w : World} {b : Nat} {v : V} (h : VBlk w b v) : VBlk w.drew b v := h
def W0 (w : World) (s : ByteArray) : World := ((w.alloc (.cells #[.int .u8 0, .int .i64 0, .int .u64 0, .string ⟨#[]⟩] 47)).alloc (.cells #[.int .i64 0] 37)).alloc (.cells #[.string s, .int .i64 0] 163)
theorem conv2 (w : World) (a b : Int) (k : Nat) :
  (convert 128 9 (.slice (some ⟨w.heap.size, 0, none⟩) 2 k)).run Tryz.prog (w.alloc (.cells #[.int .u8 a, .int .u8 b] 5)) =
    .ok (.string (strOfNums [a, b])) (w.alloc (.cells #[.int .u8 a, .int .u8 b] 5)) :=
 conv_new w [a, b] 2 k rfl
def Blk (w : World) (b : Nat) (cs : Array Value) (t : TypeId) : Prop := w.heap[b]? = some (.cells cs t (0, 0))
theorem Blk.lt {w : World} {b : Nat} {cs : Array Value} {t : TypeId} (h : Blk w b cs t) : b < w.heap.size := by
 rcases Nat.lt_or_ge b w.heap.size with h' | h'
 · exact h'
 · unfold Blk at h; rw [Array.getElem?_eq_none h'] at h; cases h
theorem Blk.ext {w w' : World} {b : Nat} {cs : Array Value} {t : TypeId} (h : Blk w b cs t) (hb : Below w.heap.size w w') : Blk w' b cs t := (hb.block b h.lt).trans h
theorem Blk.cell {w : World} {b : Nat} {cs : Array Value} {t : TypeId} (h : Blk w b cs t) (i : Nat) : w.cell? ⟨b, i, none⟩ = cs[i]? := cell_of_row w b i _ _ (0, 0) h
theorem Blk.new (w : World) (cs : Array Value) (t : TypeId) : Blk (w.alloc (.cells cs t)) w.heap.size cs t := heap_alloc_new w _
theorem Blk.at {w : World} {cs : Array Value} {t : TypeId} {b : Nat} (h : w.heap.size = b) : Blk (w.alloc (.cells cs t)) b cs t := by subst h; exact Blk.new _ _ _
theorem Blk.old {w : World} {b : Nat} {cs : Array Value} {t : TypeId} (h : Blk w b cs t) (o : Obj) : Blk (w.alloc o) b cs t := h.ext ((Below.refl _ _).alloc (Nat.le_refl _) _)
theorem Blk.drew {w : World} {b : Nat} {cs : Array Value} {t : TypeId} (h : Blk w b cs t) : Blk w.drew b cs t := h
theorem Blk.frozen {w : World} {b : Nat} {cs : Array Value} {t : TypeId} (h : Blk w b cs t) (i : Nat) : w.frozen? ⟨b, i, none⟩ = false := by
 unfold Blk at h
 simp [World.frozen?, h]
structure Ev where
 tx : Int
 tot : Int
 nth : Int
 k : Int
 tb : Int
 bf : List V
 af : List V
def Ev.wf (e : Ev) : Prop := (0 ≤ e.tx ∧ e.tx ≤ 18446744073709551615) ∧ (-9223372036854775808 ≤ e.tot ∧ e.tot ≤ 9223372036854775807) ∧ (-9223372036854775808 ≤ e.nth ∧ e.nth ≤ 9223372036854775807) ∧ (0 ≤ e.k ∧ e.k ≤ 255) ∧ (-9223372036854775808 ≤ e.tb ∧ e.tb ≤ 9223372036854775807)
def NRow (k : IntKind) (w : World) (A : Option Addr) (l : List Int) : Prop :=
 l.length ≤ 17592186044416 ∧ (l ≠ [] → ∃ b off, A = some ⟨b, off, none⟩ ∧ b < w.heap.size ∧ ∀ i v, l[i]? = some v → w.cell? ⟨b, off + i, none⟩ = some (.int k v))
theorem NRow.ext {k : IntKind} {w w' : World} {A : Option Addr} {l : List Int} (h : NRow k w A l) (hb : Below w.heap.size w w') : NRow k w' A l := by
 refine ⟨h.1, fun hl => ?_⟩
 obtain ⟨b, off, rfl, hlt, hc⟩ := h.2 hl
 exact ⟨b, off, rfl, Nat.lt_of_lt_of_le hlt hb.size, fun i v hi => (hb.cell (p := ⟨b, _, none⟩) hlt).trans (hc i v hi)⟩
theorem NRow.at_ {k : IntKind} {w : World} {A : Option Addr} {l : List Int} (h : NRow k w A l) {j : Nat} (hj : j < l.length) :
  ∃ (b off : Nat) (v : Int), A = some ⟨b, off, none⟩ ∧ b < w.heap.size ∧ l[j]? = some v ∧ v ∈ l ∧ w.cell? ⟨b, off + j, none⟩ = some (.int k v) := by
 obtain ⟨b, off, rfl, hlt, hc⟩ := h.2 (by intro e; simp [e] at hj)
 have hv := List.getElem?_eq_getElem hj
 exact ⟨b, off, l[j], rfl, hlt, hv, List.getElem_mem hj, hc j _ hv⟩
theorem NRow.nil (k : IntKind) (w : World) (A : Option Addr) : NRow k w A [] := ⟨by simp, fun h => absurd rfl h⟩
structure Mk where
 k : Int
 tx : Int
 cs : List Int
 sq : List Int
def Mk.wf (m : Mk) : Prop := (0 ≤ m.k ∧ m.k ≤ 255) ∧ (0 ≤ m.tx ∧ m.tx ≤ 18446744073709551615) ∧ (∀ v ∈ m.cs, -9223372036854775808 ≤ v ∧ v ≤ 9223372036854775807) ∧ (∀ v ∈ m.sq, 0 ≤ v ∧ v ≤ 18446744073709551615)
theorem okE_f' {b : Bool} (h : b = false) : okE b = 2 := by rw [h]; rfl
theorem okE_t' {b : Bool} (h : b = true) : okE b = 0 := by rw [h]; rfl
theorem Blk.c0 {w : World} {b : Nat} {x : Value} {t : TypeId} (h : Blk w b #[x] t) : w.cell? ⟨b, 0, none⟩ = some x := h.cell 0
end Go.Proofs.YtceoficoappkpaaGreatDoor
