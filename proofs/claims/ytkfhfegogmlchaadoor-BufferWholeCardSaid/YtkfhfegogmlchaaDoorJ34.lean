/- Several texts in one: see each part's head. -/
import Derived.Test.YtkfhfegogmlchaaDoorJ21
import Derived.Test.YtkfhfegogmlchaaDoorJ33
import Derived.Test.YtkfhfegogmlchaaDoorJ14
/- A transaction's records: a record is put; whether a place fits; the topics. -/
namespace Go.Proofs.YtkfhfegogmlchaaDoor
open Go.RowKit

theorem cells_blkL {w : World} {b : Nat} {l : List Value} {t : TypeId} (h : Blk w b l.toArray t) : ∀ j u, l[j]? = some u → w.cell? ((⟨b, 0, none⟩ : Addr).add j) = some u := by
  intro j u hu
  rw [addr_add, Nat.zero_add, h.cell j]
  simpa using hu
/-- All but some blocks, and those of one type, are as they were. -/
def Kp (S : List Nat) (t : TypeId) (w w' : World) : Prop := w.heap.size ≤ w'.heap.size ∧ ∀ g, g < w.heap.size → g ∉ S → (∀ cs f, w.heap[g]? ≠ some (.cells cs t f)) → w'.heap[g]? = w.heap[g]?
theorem Kp.of_below {S : List Nat} {t : TypeId} {w w' : World} (h : Below w.heap.size w w') : Kp S t w w' := ⟨h.size, fun g hg _ _ => h.block g hg⟩
theorem Kp.refl (S : List Nat) (t : TypeId) (w : World) : Kp S t w w := ⟨Nat.le_refl _, fun _ _ _ _ => rfl⟩
theorem Kp.trans {S S' : List Nat} {t : TypeId} {w w1 w2 : World} (h1 : Kp S t w w1) (h2 : Kp S' t w1 w2) (hs : ∀ g ∈ S', g ∈ S) : Kp S t w w2 :=
  ⟨Nat.le_trans h1.1 h2.1, fun g hg hn ht => by
    have e := h1.2 g hg hn ht
    exact (h2.2 g (Nat.lt_of_lt_of_le hg h1.1) (fun h => hn (hs g h)) (fun cs f => by rw [e]; exact ht cs f)).trans e⟩
theorem Kp.mono {S S' : List Nat} {t : TypeId} {w w1 : World} (h1 : Kp S t w w1) (hs : ∀ g ∈ S, g ∈ S') : Kp S' t w w1 := ⟨h1.1, fun g hg hn ht => h1.2 g hg (fun h => hn (hs g h)) ht⟩
theorem Kp.put {t u : TypeId} {w : World} {b : Nat} (cs : Array Value) : Kp [b] t w (putBlk w b cs u) :=
  ⟨by rw [putBlk_size]; exact Nat.le_refl _, fun g _ hn _ => by
    unfold putBlk
    simp only
    rw [Array.getElem?_setIfInBounds_ne (fun e => hn (by simp [e]))]⟩
theorem Kp.put2 {t u : TypeId} {w : World} {b : Nat} (cs ds : Array Value) : Kp [b] t (putBlk w b cs u) (putBlk w b ds u) :=
  ⟨by rw [putBlk_size, putBlk_size]; exact Nat.le_refl _, fun g _ hn _ => by
    unfold putBlk
    simp only
    rw [Array.getElem?_setIfInBounds_ne (fun e => hn (by simp [e])), Array.getElem?_setIfInBounds_ne (fun e => hn (by simp [e]))]⟩
theorem Kp.row {t : TypeId} {S : List Nat} {w w' : World} {lo sz n : Nat} {v : Value} {xs : List Value} (h : w.ownsRow lo t sz v n xs) (hg : w.grownBy w' v.ownBlock) : Kp S t w w' :=
  ⟨hg.size, fun g hg' _ ht => hg.block g hg' (fun e => by
    rcases h.2 with ⟨rfl, _⟩ | ⟨g', cap, cur, rfl, _, hh, _⟩
    · cases e
    · obtain rfl : g = g' := by simpa [Value.ownBlock] using e
      exact ht _ _ hh)⟩
theorem Kp.blk {S : List Nat} {t u : TypeId} {w w' : World} {b : Nat} {cs : Array Value} (h : Kp S t w w') (hb : Blk w b cs u) (hn : b ∉ S) (hu : u ≠ t) : Blk w' b cs u :=
  (h.2 b hb.lt hn (fun cs' f e => by
    unfold Blk at hb
    rw [hb] at e
    simp only [Option.some.injEq, Obj.cells.injEq] at e
    exact hu e.2.1)).trans hb
theorem grown_below {w a w' : World} {B : Nat} {lo sz n : Nat} {t : TypeId} {v : Value} {xs : List Value} (h : Below B a w) (ho : w.ownsRow lo t sz v n xs) (hg : w.grownBy w' v.ownBlock) (hB : B ≤ lo) (hw : lo ≤ w.heap.size) : Below B a w' := h.grown hg (Nat.le_trans hB hw) (fun b hb => Nat.le_trans hB (ho.lt b hb).1)
theorem info_Out : (Tryd.prog.info? 82).map (fun i => (i.zero, i.size, i.bytes)) = some (some (.agg #[.string ByteArray.empty, .int .u64 0, .string ByteArray.empty]), 3, 40) := by kernel_rfl
def outC (tp tx : ByteArray) (v : Int) : List Value := [.string tp, .int .u64 v, .string tx]
/-- What the append of a record gives. -/
def Of1M (q O lo : Nat) (cs : Array Value) (tq : TypeId) (off : Nat) (v : Int) (tp tx : ByteArray) (sv : Value) (n : Nat) (xs : List Value) (w : World) (v' : Value) (w' : World) : Prop :=
  w'.ownsRow lo 82 3 v' (n + 1) (xs ++ outC tp tx (v + 1)) ∧ Blk w' q (cs.setIfInBounds off (.int .u64 (v + 1))) tq ∧ Blk w' O #[sv] 78 ∧ Kp [q] 82 w w' ∧ Below lo w w'
def Of1P (q O lo : Nat) (cs : Array Value) (tq : TypeId) (off : Nat) (v : Int) (tp tx : ByteArray) (n : Nat) (xs : List Value) (w : World) (r : Ending) (w' : World) : Prop :=
  r = .returned (.tuple #[]) ∧ (∃ sv, w'.ownsRow lo 82 3 sv (n + 1) (xs ++ outC tp tx (v + 1)) ∧ Blk w' O #[sv] 78) ∧ Blk w' q (cs.setIfInBounds off (.int .u64 (v + 1))) tq ∧ Kp [q, O] 82 w w' ∧ Below lo w w'
set_option maxRecDepth 100000 in
set_option maxHeartbeats 1600000 in
set_option linter.unusedSimpArgs false in
theorem of1_any (q off O lo n : Nat) (tq : TypeId) (cs : Array Value) (v : Int) (tp tx : ByteArray) (sv : Value) (xs : List Value) (w : World) (hq : Blk w q cs tq) (hv : cs[off]? = some (.int .u64 v)) (hv0 : 0 ≤ v) (hv1 : v ≤ 4611686018427387904) (hO : Blk w O #[sv] 78) (hown : w.ownsRow lo 82 3 sv n xs)
    (hqO : q ≠ O) (ht1 : tq ≠ 82) (hlo : lo ≤ q) (hlO : lo ≤ O) (hn : n ≤ 100000) :
    Calls Tryd.prog 46 #[.string tp, .pointer (some ⟨q, off, none⟩), .string tx, .pointer (some ⟨O, 0, none⟩)] w (Of1P q O lo cs tq off v tp tx n xs w) := by
  obtain ⟨i3, hi3, hy0, hy1, hy2⟩ := info_parts info_Out
  have hlw : lo ≤ w.heap.size := Nat.le_trans hlo (Nat.le_of_lt hq.lt)
  have hwr : IntKind.u64.wrap (v + 1) = v + 1 := IntWalk.u64_in _ (by omega)
  have hoff : off < cs.size := (Array.getElem?_eq_some_iff.1 hv).1
  have hv2 : (cs.setIfInBounds off (.int .u64 (v + 1)))[off]? = some (.int .u64 (v + 1)) := by simp [hoff]
  obtain ⟨w6, rfl, lt⟩ := blk_put hq
  obtain ⟨pc, pf, pS⟩ := putBlk_facts (w := w6) tq lt
  have HO := Lib.hid (putBlk_old hO (fun e => hqO e.symm) (cs.setIfInBounds off (.int .u64 (v + 1))))
  have HOWN := Lib.hid (own_put hown lt (fun e => ht1 e.symm) (cs.setIfInBounds off (.int .u64 (v + 1))))
  have HKP := Lib.hid (Kp.put2 (t := 82) (u := tq) (w := w6) (b := q) cs (cs.setIfInBounds off (.int .u64 (v + 1))))
  have HBL := Lib.hid (putBlk_belows (Below.refl lo (putBlk w6 q cs tq)) hlo (cs.setIfInBounds off (.int .u64 (v + 1))))
  have HOLD := Lib.hid hlw
  clear hq hO hown hlw hoff
  go_enter Tryd.func46, Tryd.ntmps46
  go_upto_region 1 with fail
  have HQ := Lib.hid (putBlk_blk (w := w6) (cs.setIfInBounds off (.int .u64 (v + 1))) tq lt)
  generalize putBlk w6 q cs tq = W0 at HKP HBL HOLD ⊢
  clear pc pf pS lt hv
  generalize putBlk w6 q (cs.setIfInBounds off (.int .u64 (v + 1))) tq = w1 at HO HOWN HKP HBL HQ ⊢
  have HW1S := Lib.hid HBL.out.size
  refine region_app 9 8 _ [false, false, false, false, false, false, false, false, false, false, false, false, true, true, true, true, true, true, true, true, true] [12, 13, 14, 15, 16, 17, 18, 19, 20] [.val (sv), .val (.string tp), .val (.pointer (some ⟨q, off, none⟩)), .val (.pointer (some ⟨q, off, none⟩)), .val (.int .u64 (v + 1)), .val (.string tx), .val (.agg #[.string tp, .int .u64 (v + 1), .string tx]), .new (fun g => .slice (some ⟨g, 0, none⟩) 1 1) #[.string tp, .int .u64 (v + 1), .string tx] 82, kAny] [] (fun _ => True) (Of1M q O lo cs tq off v tp tx sv n xs W0) [0, 7] [] ?hj1 ?hj2 (by kernel_rfl) (by kernel_rfl) rfl (by decide) (by kernel_rfl) (by kernel_rfl) (by kernel_rfl) (by kernel_rfl) rfl (by kernel_rfl) (by kernel_rfl) (by kernel_rfl) (by kernel_rfl) (by kernel_rfl) ⟨?_, ?_, ?_, ?_, ?_, ?_, ?_, ?_, ?app, trivial⟩ ?done
  case hj1 => intro W _; trivial
  case hj2 => intro _ _ _; trivial
  case app =>
    intro x W2 hb2
    simp only [StepGoal, List.getD_cons_zero, List.getD_cons_succ]
    intro bq hq K hK
    rw [if_pos (by rfl)]
    simp only [overlay, upd, cond_true, cond_false, Nat.reduceEqDiff, reduceIte]
    have ho2 := own_below HOWN.out hb2
    have hs2 : lo ≤ W2.heap.size := Nat.le_trans (Nat.le_trans HOLD.out HW1S.out) hb2.size
    refine wp_append_own W2 (.tmp 12) (.tmp 19) 78 rfl lo 82 i3 _ 3 40 Tryd.underlying78 hi3 hy0 hy1 hy2 rfl (by decide) sv n xs rfl ho2 ⟨bq, 0, none⟩ 1 1 (outC tp tx (v + 1)) rfl rfl (cells_blkL hq) (by simp [outC, Value.oneCell']) (by simp only [maxLen]; omega) (by omega) hs2 ?_
    intro v' w' ho' hg' _
    refine hK.out _ _ ⟨ho', (HQ.out.ext hb2).grown ho2 (fun e => ht1 e.symm) hg', (HO.out.ext hb2).grown ho2 (by decide) hg', ?_, ?_⟩
    · exact (HKP.out.trans (Kp.of_below hb2) (fun _ h => h)).trans (Kp.row ho2 hg') (fun _ h => h)
    · exact grown_below (HBL.out.trans (hb2.mono (Nat.le_trans HOLD.out HW1S.out))) ho2 hg' (Nat.le_refl _) hs2
  case done =>
    rintro x w2 v2 ⟨ho', hq', hO', hk', hb'⟩
    simp only [StepGoal, List.getD_cons_zero, List.getD_cons_succ]
    intro K hK
    obtain ⟨A', c', rfl⟩ := own_form ho'
    obtain ⟨w3, rfl, lt⟩ := blk_put hO'
    obtain ⟨pc, pf, pS⟩ := putBlk_facts (w := w3) 78 lt
    have HQ4 := Lib.hid (putBlk_old hq' hqO #[.slice A' (n + 1) c'])
    have HO4 := Lib.hid (own_put ho' lt (by decide) #[.slice A' (n + 1) c'])
    have HB4 := Lib.hid (putBlk_belows hb' hlO #[.slice A' (n + 1) c'])
    have HK4 := Lib.hid ((hk'.mono (S' := [q, O]) (by simp)).trans (Kp.put2 (u := 78) #[sv] #[.slice A' (n + 1) c']) (by simp))
    have HV4 := Lib.hid (putBlk_blk (w := w3) #[.slice A' (n + 1) c'] 78 lt)
    clear hq' hO' ho' hb' hk'
    rw [if_pos (by rfl)]; simp only [overlay, upd, cond_true, cond_false, Nat.reduceEqDiff, reduceIte]
    go_simp
    refine hK.out _ _ ?_
    go_wp2_with fail
    go_end0
    exact ⟨rfl, ⟨_, HO4.out, HV4.out⟩, HQ4.out, HK4.out, HB4.out⟩
  all_goals
    intro x w2 hb2
    intro K hK
    have hQ := HQ.out.ext hb2
    have q0 := hQ.cell off
    rw [hv2] at q0
    have lq := hQ.lt
    have hO := HO.out.ext hb2
    have o0 := hO.cell 0
    have lO := hO.lt
    simp only [List.getElem?_toArray, List.getElem?_cons_zero] at o0
    clear hQ hO
    rw [if_pos (by rfl)]; simp only [overlay, upd, cond_true, cond_false, List.getD_cons_zero, List.getD_cons_succ, Nat.reduceEqDiff, reduceIte]
    go_simp
    first
      | exact hK.out _ _ (Below.refl _ _) rfl
      | exact hK.out _ rfl
      | exact hK.out _ _ (by repeat (first | exact Below.refl _ _ | assumption | refine Below.drew ?_ | refine below_drewN ?_ _ | refine Below.alloc ?_ (by simp <;> omega) _)) ⟨_, rfl, Blk.new _ _ _⟩
/-- Whether a place fits. -/
theorem fits1_any (v : Int) (hv : v ≤ 4611686018427387904) (w : World) : Calls Tryd.prog 57 #[.int .u64 v] w fun r w' => r = .returned (.bool false) ∧ w = w' := by
  have h : ¬ (4611686018427387904 : Int) < v := by omega
  go_enter Tryd.func57, Tryd.ntmps57
  go_wp2
  go_ret
  exact ⟨rfl, rfl⟩
set_option maxRecDepth 100000 in
theorem idxU_no (l : List Int) (A : Option Addr) (c : Nat) (w : World) (h : NRow .u64 w A l) (hl : l.length ≤ 1000) (hb : ∀ v ∈ l, v ≤ 4611686018427387904) :
    Calls Tryd.prog 70 #[.slice A l.length c, .func (.func 57) #[] #[]] w fun r w' => r = .returned (.int .i64 (-1)) ∧ w = w' := by
  have HN := Lib.hid h
  have HB := Lib.hid hb
  have HF := Lib.hid (fun (v : Int) (hv : v ≤ 4611686018427387904) (w : World) => fits1_any v hv w)
  clear h hb
  go_enter Tryd.func70, Tryd.ntmps70
  go_wp2_with fail
  go_loopw [8] (fun i wr => ∃ j : Nat, j ≤ l.length ∧ i = .int .i64 j ∧ wr = w) (fun i _ => l.length - (intOf i).toNat)
  case atStart => exact ⟨0, by omega, rfl, rfl⟩
  case round =>
    obtain ⟨j, hj, rfl, rfl⟩ := hrel
    by_cases hlt : j < l.length
    · obtain ⟨b, off, v, rfl, lb, hv, _, hcell⟩ := HN.out.at_ hlt
      have hv' := HB.out v (List.mem_of_getElem? hv)
      clear hv
      go_wp2_with fail
      refine (HF.out v hv' _).mono ?_
      rintro r w1 ⟨rfl, rfl⟩
      go_wp2_with fail
      go_roundw
      case rel => exact ⟨j + 1, by omega, by go_num, trivial⟩
      case measure => simp [intOf]; omega
    · have hjl : j = l.length := by omega
      have HJ := Lib.hid hjl
      clear hjl
      go_wp2_with fail
      go_ret
      exact ⟨rfl, rfl⟩
theorem contU_no (l : List Int) (A : Option Addr) (c : Nat) (w : World) (h : NRow .u64 w A l) (hl : l.length ≤ 1000) (hb : ∀ v ∈ l, v ≤ 4611686018427387904) :
    Calls Tryd.prog 56 #[.slice A l.length c, .func (.func 57) #[] #[]] w fun r w' => r = .returned (.bool false) ∧ w = w' := by
  have HC := Lib.hid (idxU_no l A c w h hl hb)
  clear h hb
  go_enter Tryd.func56, Tryd.ntmps56
  go_wp2_with fail
  refine HC.out.mono ?_
  rintro r w1 ⟨rfl, rfl⟩
  go_wp2_with fail
  go_ret
  exact ⟨rfl, rfl⟩
set_option maxRecDepth 100000 in
theorem fits_yes (A S : Option Addr) (c d nt : Nat) (mk : Int) (sq : List Int) (w : World) (h : NRow .u64 w S sq) (hn : sq.length = nt) (hl : nt ≤ 1000) (hm : mk ≤ 4611686018427387904) (hb : ∀ v ∈ sq, v ≤ 4611686018427387904) :
    Calls Tryd.prog 45 #[.agg #[.slice A nt c], .agg #[.int .u64 mk, .slice S nt d]] w fun r w' => r = .returned (.bool true) ∧ Below w.heap.size w w' := by
  have HC := Lib.hid (fun (W : World) (hW : Below w.heap.size w W) => contU_no sq S d W (NRow.ext h hW) (by omega) hb)
  rw [hn] at HC
  clear h hb hn
  go_enter Tryd.func45, Tryd.ntmps45
  go_wp2_with fail
  refine (HC.out _ (by repeat (first | exact Below.refl _ _ | assumption | refine Below.drew ?_ | refine below_drewN ?_ _ | refine Below.alloc ?_ (by simp <;> omega) _))).mono ?_
  rintro r w1 ⟨rfl, rfl⟩
  go_wp2_with fail
  go_ret
  exact ⟨rfl, (by repeat (first | exact Below.refl _ _ | assumption | refine Below.drew ?_ | refine below_drewN ?_ _ | refine Below.alloc ?_ (by simp <;> omega) _))⟩
/-- The topics. -/
def marksS : ByteArray := ⟨#[109, 97, 114, 107, 115]⟩
def tS : ByteArray := ⟨#[116, 45]⟩
def topAt (ts : List Ta) : Nat → ByteArray
  | 0 => marksS
  | i + 1 => match ts[i]? with
    | some t => tS ++ t.nm
    | none => ByteArray.empty
theorem made_cells1 (v : Value) (hv : v.cells = #[v]) (n : Nat) : madeCells v.cells (n * 1) = Array.replicate n v := by
  rw [hv]
  apply Array.ext
  · simp [madeCells]
  · intro i h1 h2
    simp [madeCells, Nat.mod_one]
theorem madeS_run (n : Nat) (hn : n ≤ 1000) (W : World) : (Instr.makeSlice 76 (.int .i64 n) (.int .i64 n)).run Tryd.prog W = .ok (.slice (some ⟨W.heap.size, 0, none⟩) n n) (W.alloc (.cells (Array.replicate n (Value.string ⟨#[]⟩)) 9)) := by
  obtain ⟨i3, hi3, hy0, hy1, hy2⟩ := info_parts info_str
  refine (run_makeSlice W 76 9 i3 _ Tryd.underlying76 hi3 hy0 .i64 .i64 n n (by omega) (by omega) (by rw [hy1]; omega) (by rw [hy2]; omega) (by omega)).trans ?_
  rw [hy1, show (n : Int).toNat = n by omega, made_cells1 _ rfl]
def TopP (ts : List Ta) (w : World) (r : Ending) (w' : World) : Prop := ∃ (g : Nat) (cs : Array Value), r = .returned (.slice (some ⟨g, 0, none⟩) (ts.length + 1) (ts.length + 1)) ∧ w.heap.size ≤ g ∧ Blk w' g cs 9 ∧ cs.size = ts.length + 1 ∧ (∀ i, i ≤ ts.length → cs[i]? = some (.string (topAt ts i))) ∧ Below w.heap.size w w'
set_option maxRecDepth 100000 in
set_option maxHeartbeats 800000 in
theorem topics_any (ts : List Ta) (A : Option Addr) (c : Nat) (w : World) (hT : TRow w A c ts) (hs : schB ts = true) (hl : ts.length ≤ 12) :
    Calls Tryd.prog 27 #[.agg #[.slice A ts.length c]] w (TopP ts w) := by
  have HT := Lib.hid hT
  have HC := Lib.hid (fun (W : World) (hW : Below w.heap.size w W) => check13_any ts A c W (hT.ext hW))
  rw [hs] at HC
  have hms := fun (W : World) => madeS_run (ts.length + 1) (by omega) W
  clear hT hs
  have hlz : ts.length + 1 ≤ 1000 := by omega
  go_enter Tryd.func27, Tryd.ntmps27
  go_wp2_with fail
  refine (HC.out _ (by repeat (first | exact Below.refl _ _ | assumption | refine Below.drew ?_ | refine below_drewN ?_ _ | refine Below.alloc ?_ (by simp <;> omega) _))).mono ?_
  rintro r w1 ⟨rfl, hb⟩
  obtain ⟨n, hn⟩ : ∃ n, n = ts.length := ⟨_, rfl⟩
  have hC : Below w.heap.size w w1 := bt (by repeat (first | exact Below.refl _ _ | assumption | refine Below.drew ?_ | refine below_drewN ?_ _ | refine Below.alloc ?_ (by simp <;> omega) _)) hb
  have hS : Blk w1 w.heap.size #[.slice A n c] 24 := by rw [hn]; exact (Blk.new w _ _).ext hb
  have s0 := hS.cell 0
  have lS := hS.lt
  simp only [List.getElem?_toArray, List.getElem?_cons_zero] at s0
  rw [← hn] at hms hl hlz ⊢
  have HN := Lib.hid hn
  have HCB := Lib.hid hC
  have HSB := Lib.hid hS
  clear hb hC hn hS HC
  have e1 : ((n + 1 : Nat) : Int) = (n : Int) + 1 := by omega
  simp only [e1] at hms
  clear e1
  go_upto_region 4 with fail
  have hC2 : Below w.heap.size w (w1.alloc (.cells (Array.replicate (n + 1) (Value.string ⟨#[]⟩)) 9)) := bt HCB.out (by repeat (first | exact Below.refl _ _ | assumption | refine Below.drew ?_ | refine below_drewN ?_ _ | refine Below.alloc ?_ (by simp <;> omega) _))
  have hG : Blk (w1.alloc (.cells (Array.replicate (n + 1) (Value.string ⟨#[]⟩)) 9)) w1.heap.size (Array.replicate (n + 1) (Value.string ⟨#[]⟩)) 9 := Blk.new _ _ _
  have hS2 := HSB.out.old (.cells (Array.replicate (n + 1) (Value.string ⟨#[]⟩)) 9)
  have hgw : w.heap.size ≤ w1.heap.size := HCB.out.size
  clear s0 lS hms HCB HSB
  generalize w1.alloc (.cells (Array.replicate (n + 1) (Value.string ⟨#[]⟩)) 9) = W2 at hC2 hG hS2 ⊢
  generalize w1.heap.size = g at hG hgw ⊢
  have hSg : w.heap.size ≠ g := by
    intro e
    unfold Blk at hG hS2
    rw [← e, hS2] at hG
    simp at hG
  obtain ⟨w6, rfl, lt⟩ := blk_put hG
  obtain ⟨pc, pf, pS⟩ := putBlk_facts (w := w6) 9 lt
  have HS2 := Lib.hid (putBlk_old hS2 hSg ((Array.replicate (n + 1) (Value.string ⟨#[]⟩)).setIfInBounds 0 (.string ⟨#[109, 97, 114, 107, 115]⟩)))
  have HC2 := Lib.hid (putBlk_belows hC2 hgw ((Array.replicate (n + 1) (Value.string ⟨#[]⟩)).setIfInBounds 0 (.string ⟨#[109, 97, 114, 107, 115]⟩)))
  have HG2 := Lib.hid (putBlk_blk (w := w6) ((Array.replicate (n + 1) (Value.string ⟨#[]⟩)).setIfInBounds 0 (.string ⟨#[109, 97, 114, 107, 115]⟩)) 9 lt)
  have hc0 : (Array.replicate (n + 1) (Value.string ⟨#[]⟩))[0]? = some (Value.string ⟨#[]⟩) := by simp
  have HZ := Lib.hid (show ((Array.replicate (n + 1) (Value.string ⟨#[]⟩)).setIfInBounds 0 (.string ⟨#[109, 97, 114, 107, 115]⟩)).size = n + 1 ∧ ∀ i, i ≤ 0 → ((Array.replicate (n + 1) (Value.string ⟨#[]⟩)).setIfInBounds 0 (.string ⟨#[109, 97, 114, 107, 115]⟩))[i]? = some (.string (topAt ts i)) from ⟨by simp, fun i hi => by
    obtain rfl : i = 0 := by omega
    simp [topAt, marksS]⟩)
  have hi0 : 0 < n + 1 := by omega
  have HSG := Lib.hid hSg
  have HGW := Lib.hid hgw
  clear hG hS2 hC2 hSg hgw
  go_upto_region 5 with fail
  clear pc pf pS lt hc0 hi0
  generalize putBlk w6 g ((Array.replicate (n + 1) (Value.string ⟨#[]⟩)).setIfInBounds 0 (.string ⟨#[109, 97, 114, 107, 115]⟩)) 9 = W3 at HS2 HC2 HG2 ⊢
  generalize (Array.replicate (n + 1) (Value.string ⟨#[]⟩)).setIfInBounds 0 (.string ⟨#[109, 97, 114, 107, 115]⟩) = cs0 at HG2 HZ
  have s0 := HS2.out.cell 0
  have lS := HS2.out.lt
  simp only [List.getElem?_toArray, List.getElem?_cons_zero] at s0
  go_wp2_with fail
  clear s0 lS
  go_loopw [18] (fun i wr => ∃ k : Nat, k ≤ n ∧ i = .int .i64 k ∧ Hid (∃ cs, Blk wr g cs 9 ∧ cs.size = n + 1 ∧ ∀ i, i ≤ k → cs[i]? = some (.string (topAt ts i))) ∧ Hid (Blk wr w.heap.size #[.slice A n c] 24) ∧ Hid (Below w.heap.size w wr)) (fun i _ => n - (intOf i).toNat)
  case atStart => exact ⟨0, by omega, rfl, ⟨cs0, HG2.out, HZ.out⟩, HS2, HC2⟩
  case round =>
    obtain ⟨k, hk, rfl, HCS, HS, HC⟩ := hrel
    by_cases hlt : k < n
    · obtain ⟨cs, hG, hcs, hall⟩ := HCS.out
      obtain ⟨tb, off, t, rfl, hblt, htt, htm, htw, _, hcell, _⟩ := (HT.out.ext HC.out).at_ (k := k) (by rw [← HN.out]; exact hlt)
      have hnm : t.nm.size ≤ 140737488355328 := htw.1
      have hcat := fun (W : World) => run_string_add_sum (P := Tryd.prog) W ⟨#[116, 45]⟩ t.nm (by have : (ByteArray.mk #[116, 45]).size = 2 := rfl; omega)
      have HTA := Lib.hid (show topAt ts (k + 1) = ⟨#[116, 45]⟩ ++ t.nm by rw [topAt, htt]; rfl)
      have hS := HS.out
      have s0 := hS.cell 0
      have lS := hS.lt
      simp only [List.getElem?_toArray, List.getElem?_cons_zero] at s0
      obtain ⟨w6, rfl, lt⟩ := blk_put hG
      obtain ⟨pc, pf, pS⟩ := putBlk_facts (w := w6) 9 lt
      have HSN := Lib.hid (fun ds => putBlk_old hS HSG.out ds)
      have HCN := Lib.hid (fun ds => putBlk_belows HC.out HGW.out ds)
      have HGN := Lib.hid (fun ds => putBlk_blk (w := w6) ds 9 lt)
      have HALL := Lib.hid hall
      have HCSZ := Lib.hid hcs
      have hk1 : k + 1 < cs.size := by omega
      clear hall hG hS HC HS HCS htt htm htw hcs
      go_wp2_with fail
      go_roundw
      case rel =>
        refine ⟨k + 1, by omega, by go_num, ⟨_, HGN.out _, by simpa using HCSZ.out, fun i hi => ?_⟩, HSN.out _, HCN.out _⟩
        by_cases hik : i = k + 1
        · subst hik
          rw [HTA.out]
          simp [hk1]
        · rw [Array.getElem?_setIfInBounds_ne (fun e => hik e.symm)]
          exact HALL.out i (by omega)
      case measure => simp [intOf]; omega
    · have hjl : k = n := by omega
      have HJ := Lib.hid hjl
      clear hjl
      go_wp2_with fail
      go_ret
      obtain ⟨cs, h1, h2, h3⟩ := HCS.out
      exact ⟨g, cs, by rw [HN.out]; rfl, HGW.out, h1, by rw [h2, HN.out], fun i hi => h3 i (by rw [HJ.out, HN.out]; exact hi), HC.out⟩
end Go.Proofs.YtkfhfegogmlchaaDoor
