/- Several texts in one: see each part's head. -/
import Derived.Test.YtgklopgeimjgiaaGreatDoorJ12
import Derived.Test.YtgklopgeimjgiaaGreatDoorJ17
import Derived.Shelf.SlSortCmp.NoneTotal
import Derived.Test.YtgklopgeimjgiaaGreatDoorJ6
import Derived.Test.YtgklopgeimjgiaaGreatDoorShelfB
import Derived.Test.YtgklopgeimjgiaaGreatDoorJ3
import Derived.Test.YtgklopgeimjgiaaGreatDoorJ7
import Derived.Test.YtgklopgeimjgiaaGreatDoorJ5
import Derived.Deep.DeepCutAuto
import Derived.ArgAppend
import Derived.Test.YtgklopgeimjgiaaGreatDoorJ2
/- VerifySees, the plain law: what an op makes of a state's rows, and which error it has (doS); a state stays one (doS_ok). -/
namespace Go.Proofs.YtgklopgeimjgiaaGreatDoor
open Go.Sort (SWO)

theorem okK_of {v : V} (hw : v.wf) (h : mayB v = true) : okK v := by
  refine ⟨hw, ?_⟩
  have z : canonZ 0 = 0 := by decide
  unfold mayB at h
  split at h
  · simp at h; rw [h.1.2, z]
  · split at h
    · simp at h; rw [h.1.2, z]
    · split at h
      · simp at h; rw [h.1, z]
      · split at h
        · simp at h; exact h.1.2
        · split at h
          · simp at h; rw [h.1.2, z]
          · split at h
            · simp at h; rw [h.2.1.2, z]
            · exact absurd h (by simp)
theorem zV_ok : okK zV := ⟨by unfold V.wf zV; decide, by decide⟩
theorem rowF_all {cs : List Co} {row : List V} (h : rowF cs row = true) {v : V} (hv : v ∈ row) : mayB v = true := by
  unfold rowF at h
  rw [Bool.and_eq_true, decide_eq_true_eq, List.all_eq_true] at h
  obtain ⟨i, hi, rfl⟩ := List.getElem_of_mem hv
  have h1 := h.2 i (by rw [List.mem_range, h.1]; exact hi)
  unfold fitAt at h1
  rw [List.getElem?_eq_getElem hi, List.getElem?_eq_getElem (show i < cs.length by omega)] at h1
  simp only [fitB, Bool.and_eq_true] at h1
  exact h1.1
/-- A row of a table has a key that may be. -/
theorem rowS_ok {ts : List Ta} {t : Nat} {row : List V} (h : rowS ts t row = true) (hw : ∀ v ∈ row, v.wf) : okK (keyN ts t row) := by
  unfold rowS at h
  rw [Bool.and_eq_true] at h
  have h2 := h.2
  rw [Int.toNat_natCast] at h2
  unfold keyN
  cases e : ts[t]? with
  | none => exact zV_ok
  | some u =>
    rw [e] at h2
    simp only
    rw [List.getD_eq_getElem?_getD]
    cases e2 : row[u.key.toNat]? with
    | none => exact zV_ok
    | some v =>
      have hm := List.mem_of_getElem? e2
      exact okK_of (hw v hm) (rowF_all h2 hm)
/-- A state: rows in order, each of which fits its table; 200 at most. -/
structure StI (ts : List Ta) (l : List Rw) : Prop where
  ris : Ris (plN ts) l
  fit : ∀ x ∈ l, rowS ts x.1 x.2 = true ∧ ∀ v ∈ x.2, v.wf
  few : l.length ≤ 200
theorem StI.nil (ts : List Ta) : StI ts [] := ⟨List.Pairwise.nil, by simp, by simp⟩
open Classical in
/-- An op: its error, and the rows behind it. -/
noncomputable def doS (ts : List Ta) (l : List Rw) (kd t : Int) (row : List V) : Int × List Rw :=
  if kd = 3 then
    match row with
    | [k] => if keyS ts t k then
        let p := (t.toNat, k)
        if HasP (plN ts) l p then (0, l.eraseIdx (atI (plN ts) l p)) else (3, l)
      else (2, l)
    | _ => (2, l)
  else if (kd = 1 ∨ kd = 2) ∧ rowS ts t row = true then
    let x := (t.toNat, row)
    let i := atI (plN ts) l (plN ts x)
    if kd = 1 then
      if HasP (plN ts) l (plN ts x) then (9, l) else if 200 ≤ l.length then (4, l) else (0, l.take i ++ x :: l.drop i)
    else if HasP (plN ts) l (plN ts x) then (0, l.set i x) else (3, l)
  else (2, l)
theorem rowS_nat {ts : List Ta} {t : Int} {row : List V} (h : rowS ts t row = true) : (t.toNat : Int) = t := by
  unfold rowS at h
  rw [Bool.and_eq_true] at h
  obtain ⟨j, u, h1, _⟩ := has_at h.1
  omega
theorem doS_ok {ts : List Ta} {l : List Rw} (h : StI ts l) (kd t : Int) {row : List V} (hw : ∀ v ∈ row, v.wf) : StI ts (doS ts l kd t row).2 := by
  have hok : ∀ y ∈ l, okK (plN ts y).2 := fun y hy => rowS_ok (h.fit y hy).1 (h.fit y hy).2
  unfold doS
  split
  · split
    · split
      · simp only
        split
        · exact ⟨del_ris h.ris _, fun x hx => h.fit x (List.mem_of_mem_eraseIdx hx), Nat.le_trans (List.length_eraseIdx_le ..) h.few⟩
        · exact h
      · exact h
    · exact h
  · split
    · rename_i hc
      simp only
      have hn := rowS_nat hc.2
      have hx : rowS ts (t.toNat : Nat) row = true := by rw [hn]; exact hc.2
      split
      · split
        · exact h
        · split
          · exact h
          · rename_i h1 h2
            exact ⟨ins_ris rfl (rowS_ok hx hw) h.ris hok h1, fun x hxm => (ins_mem.1 hxm).elim (fun e => e ▸ ⟨hx, hw⟩) (fun hxm => h.fit x hxm), by
              rw [List.length_append, List.length_cons, List.length_take, List.length_drop]; have := h.few; omega⟩
      · split
        · rename_i h1
          obtain ⟨y, h2, h3⟩ := (at_has h.ris).1 h1
          exact ⟨set_ris h.ris h2 h3.symm, fun x hxm => (List.mem_or_eq_of_mem_set hxm).elim (fun hxm => h.fit x hxm) (fun e => e ▸ ⟨hx, hw⟩), by rw [List.length_set]; exact h.few⟩
        · exact h
    · exact h
end Go.Proofs.YtgklopgeimjgiaaGreatDoor

/- VerifySees, the plain law, put together: rows collected in whatever order and sorted (some_sorted); roots sorted, each once (roots_ok); the gaps (vs_none, vs_want, vs_more, vs_other). -/
namespace Go.Proofs.YtgklopgeimjgiaaGreatDoor
open Go.Sort (SWO)

/-- Rows of a table, collected in whatever order, then sorted by their keys: as the state has them. -/
theorem some_sorted {ts : List Ta} {l m : List Rw} (h : StI ts l) {q : Rw → Bool} {t : Nat} (hq : ∀ x ∈ l, q x = true → x.1 = t) (hm : m.Perm (l.filter q))
    (hs : m.Pairwise fun a b => vLess (keyN ts t b.2) (keyN ts t a.2) = false) : m = l.filter q := by
  have hmem : ∀ x, x ∈ m ↔ x ∈ l.filter q := fun x => hm.mem_iff
  have hin : ∀ x ∈ m, x ∈ l ∧ x.1 = t := fun x hx => by
    have h1 := List.mem_filter.1 ((hmem x).1 hx)
    exact ⟨h1.1, hq x h1.1 h1.2⟩
  have hnd : m.Nodup := hm.nodup_iff.2 (List.Pairwise.filter _ (ris_nodup h.ris))
  refine ris_unique (pl := plN ts) ?_ (List.Pairwise.filter _ h.ris) hmem
  refine (List.Pairwise.and_mem.1 (hs.and hnd)).imp fun {a b} ⟨ha, hb, h1, h2⟩ => ?_
  obtain ⟨a1, a2⟩ := hin a ha
  obtain ⟨b1, b2⟩ := hin b hb
  have ka := rowS_ok (h.fit a a1).1 (h.fit a a1).2
  have kb := rowS_ok (h.fit b b1).1 (h.fit b b1).2
  have hba : pLess (plN ts b) (plN ts a) = false := by
    unfold pLess lexL plN
    rw [a2, b2]; simp [h1]
  cases e : pLess (plN ts a) (plN ts b) with
  | true => rfl
  | false => exact absurd (ris_one h.ris a1 b1 (pLess_eq e hba ka kb)) h2
/-- Roots sorted, each once: they are all there, and no one twice. -/
theorem roots_ok {l m : List (Nat × V)} (hk : ∀ x ∈ l, okK x.2) (hm : m.Perm l) (hs : m.Pairwise fun a b => pLess b a = false) :
    (compP (fun a b => !pLess a b && !pLess b a) m).Nodup ∧ ∀ x, x ∈ compP (fun a b => !pLess a b && !pLess b a) m ↔ x ∈ l := by
  refine ⟨ris_nd pLess_swo (compP_ris pLess_swo (fun _ _ => rfl) m.length m (Nat.le_refl _) hs), fun x => ?_⟩
  rw [compP_mem m.length m (Nat.le_refl _) (fun a ha b hb e => ?_), hm.mem_iff]
  have e : (!pLess a b && !pLess b a) = true := e
  rw [Bool.and_eq_true, Bool.not_eq_true', Bool.not_eq_true'] at e
  exact pLess_eq e.1 e.2 (hk a (hm.mem_iff.1 ha)) (hk b (hm.mem_iff.1 hb))
open Classical in
/-- Are two documents that are small the same? -/
noncomputable def smD (a b : De) : Bool := decide (0 < sizeD a ∧ 0 < sizeD b ∧ a = b)
theorem smD_comm (a b : De) : smD a b = smD b a := by
  unfold smD
  exact decide_eq_decide.2 ⟨fun h => ⟨h.2.1, h.1, h.2.2.symm⟩, fun h => ⟨h.2.1, h.1, h.2.2.symm⟩⟩
theorem smD_self {d : De} (h : 0 < sizeD d) : smD d d = true := by unfold smD; simp [h]
noncomputable instance : DecidableEq (Nat × V) := fun _ _ => Classical.propDecidable _
section
variable {ts : List Ta} {l : List Rw} (hp : preB ts ts.length = true) (h : StI ts l) {rs : List (Nat × V)}
include hp h
theorem vs_none (hm : ∀ x, x ∈ rs ↔ x ∈ (docsN ts l ++ docsN ts l).map (rtD (keyN ts))) : gapsP (rtD (keyN ts)) smD (docsN ts l) (docsN ts l) rs = [] :=
  gaps_none (docsN_nodup hp h.ris) (fun _ hd => smD_self (docsN_size hp h.ris h.few hd)) hm
variable {k : Nat} (hk : k < (docsN ts l).length) (hr : rs.Nodup)
include hr
theorem vs_want (hm : ∀ x, x ∈ rs ↔ x ∈ (docsN ts l ++ ((docsN ts l).take k ++ (docsN ts l).drop (k + 1))).map (rtD (keyN ts))) :
    gapsP (rtD (keyN ts)) smD (docsN ts l) ((docsN ts l).take k ++ (docsN ts l).drop (k + 1)) rs = [(1, rtD (keyN ts) (docsN ts l)[k])] :=
  gaps_want (docsN_nodup hp h.ris) (fun _ hd => smD_self (docsN_size hp h.ris h.few hd)) hk hr hm
theorem vs_more (hm : ∀ x, x ∈ rs ↔ x ∈ (docsN ts l ++ (docsN ts l ++ [(docsN ts l)[k]])).map (rtD (keyN ts))) :
    gapsP (rtD (keyN ts)) smD (docsN ts l) (docsN ts l ++ [(docsN ts l)[k]]) rs = [(2, rtD (keyN ts) (docsN ts l)[k])] :=
  gaps_more (docsN_nodup hp h.ris) (fun _ hd => smD_self (docsN_size hp h.ris h.few hd)) hk hr hm
theorem vs_other {d : De} (hd : rtD (keyN ts) d = rtD (keyN ts) (docsN ts l)[k]) (hdn : smD d (docsN ts l)[k] = false)
    (hm : ∀ x, x ∈ rs ↔ x ∈ (docsN ts l ++ ((docsN ts l).take k ++ (docsN ts l).drop (k + 1) ++ [d])).map (rtD (keyN ts))) :
    gapsP (rtD (keyN ts)) smD (docsN ts l) ((docsN ts l).take k ++ (docsN ts l).drop (k + 1) ++ [d]) rs = [(3, rtD (keyN ts) (docsN ts l)[k])] :=
  gaps_other (docsN_nodup hp h.ris) (fun _ hd => smD_self (docsN_size hp h.ris h.few hd)) hk hr hd ((smD_comm _ _).trans hdn) hm
end
end Go.Proofs.YtgklopgeimjgiaaGreatDoor

/- VerifySees: roots: verify.order; sorting them (slices.SortFunc). -/
namespace Go.Proofs.YtgklopgeimjgiaaGreatDoor
open Go.RowKit
open Go.Sort (SWO)

theorem gw_grow {w w' : World} (h : Gw w w') : ∃ q os, w' = Go.Sort.grow (w.drewN q) os := by
  obtain ⟨h1, h2⟩ := h
  refine ⟨w'.drawn - w.drawn, w'.heap.extract w.heap.size w'.heap.size, ?_⟩
  obtain ⟨hp, tp, dr, os, out⟩ := w'
  obtain ⟨hp0, tp0, dr0, os0, out0⟩ := w
  obtain ⟨a1, a2, a3, a4, a5⟩ := h2
  simp only at a1 a2 a3 a4 a5 h1
  subst a1; subst a2; subst a3
  unfold Go.Sort.grow World.drewN
  simp only [World.mk.injEq, true_and, and_true]
  refine ⟨?_, by omega⟩
  apply Array.ext_getElem?
  intro i
  by_cases hi : i < hp0.size
  · rw [Array.getElem?_append_left hi]
    exact a5 i hi
  · rw [Array.getElem?_append_right (by omega), Array.getElem?_extract]
    by_cases h : i < hp.size
    · rw [if_pos (by omega)]
      congr 1
      omega
    · rw [if_neg (by omega), Array.getElem?_eq_none (by omega)]
/-- Which of two roots stands ahead. -/
def ordF (a b : Int × V) : Int := if Lib.compareInt a.1 b.1 ≠ 0 then Lib.compareInt a.1 b.1 else if vLess a.2 b.2 then -1 else if vLess b.2 a.2 then 1 else 0
def pLI : Int × V → Int × V → Bool := lexL (fun a b => decide (a.1 < b.1)) (fun a b => vLess a.2 b.2)
theorem pLI_swo : SWO pLI := by
  have h2 := swo_map vLess_swo (fun a : Int × V => a.2)
  have h1 := swo_lex (swo_on fun a : Int × V => a.1) h2
  unfold pLI
  exact h1
theorem ordF_less (a b : Int × V) : decide (ordF a b < 0) = pLI a b := by
  unfold ordF pLI lexL Lib.compareInt
  simp only []
  by_cases h1 : a.1 < b.1
  · simp [h1]
  · by_cases h2 : b.1 < a.1
    · simp [h1, h2]
    · cases h3 : vLess a.2 b.2 <;> cases h4 : vLess b.2 a.2 <;> simp [h1, h2]
theorem ordF_zero (a b : Int × V) : (ordF a b == 0) = (!pLI a b && !pLI b a) := by
  have hirr := vLess_swo.irrefl
  have htr := vLess_swo.trans a.2 b.2 a.2
  unfold ordF pLI lexL Lib.compareInt
  simp only []
  by_cases h1 : a.1 < b.1
  · have h2 : ¬ b.1 < a.1 := by omega
    simp [h1]
  · by_cases h2 : b.1 < a.1
    · simp [h1, h2]
    · cases h3 : vLess a.2 b.2 <;> cases h4 : vLess b.2 a.2 <;> simp [h1, h2]
def rtV (p : Int × V) : Value := .agg #[.int .i64 p.1, .int .u8 p.2.k, .int .i64 p.2.n, .int .u64 p.2.r, .string p.2.t]
set_option maxRecDepth 100000 in
set_option maxHeartbeats 800000 in
theorem order_any (a b : Int × V) (w : World) (ha : a.2.wf) (hb : b.2.wf) : Calls Tryz.prog 33 #[rtV a, rtV b] w fun e w' => e = .returned (.int .i64 (ordF a b)) ∧ Gw w w' := by
  obtain ⟨R, hR⟩ : ∃ q, q = ordF a b := ⟨_, rfl⟩
  rw [← hR]
  unfold ordF at hR
  have HCI := Lib.hid (compare_i a.1 b.1)
  have HL1 := Lib.hid (fun W => vless_gw a.2 b.2 W ha hb)
  have HL2 := Lib.hid (fun W => vless_gw b.2 a.2 W hb ha)
  obtain ⟨at', ak, an, ar, as'⟩ := a
  obtain ⟨bt', bk, bn, br, bs'⟩ := b
  unfold V.agg at HL1 HL2
  unfold rtV
  simp only at hR HCI HL1 HL2 ⊢
  generalize Lib.compareInt at' bt' = C at hR HCI
  generalize vLess ⟨ak, an, ar, as'⟩ ⟨bk, bn, br, bs'⟩ = L1 at hR HL1
  generalize vLess ⟨bk, bn, br, bs'⟩ ⟨ak, an, ar, as'⟩ = L2 at hR HL2
  have HR := Lib.hid hR
  clear hR ha hb
  go_enter Tryz.func33, Tryz.ntmps33
  go_upto_region 1 with fail
  have HB0 : Hid (Blk ((w.alloc (.cells #[.int .i64 at', .int .u8 ak, .int .i64 an, .int .u64 ar, .string as'] 78)).alloc (.cells #[.int .i64 bt', .int .u8 bk, .int .i64 bn, .int .u64 br, .string bs'] 78)) w.heap.size #[.int .i64 at', .int .u8 ak, .int .i64 an, .int .u64 ar, .string as'] 78) := (Blk.new w _ _).old _
  have HB1 : Hid (Blk ((w.alloc (.cells #[.int .i64 at', .int .u8 ak, .int .i64 an, .int .u64 ar, .string as'] 78)).alloc (.cells #[.int .i64 bt', .int .u8 bk, .int .i64 bn, .int .u64 br, .string bs'] 78)) (w.heap.size + 1) #[.int .i64 bt', .int .u8 bk, .int .i64 bn, .int .u64 br, .string bs'] 78) := (by repeat (first | exact Blk.at (by simp) | assumption | refine Blk.drew ?_ | refine Blk.old ?_ _))
  have HC : Hid (Gw w ((w.alloc (.cells #[.int .i64 at', .int .u8 ak, .int .i64 an, .int .u64 ar, .string as'] 78)).alloc (.cells #[.int .i64 bt', .int .u8 bk, .int .i64 bn, .int .u64 br, .string bs'] 78))) := ((Gw.refl w).alloc _).alloc _
  generalize (w.alloc (.cells #[.int .i64 at', .int .u8 ak, .int .i64 an, .int .u64 ar, .string as'] 78)).alloc (.cells #[.int .i64 bt', .int .u8 bk, .int .i64 bn, .int .u64 br, .string bs'] 78) = W0 at HB0 HB1 HC ⊢
  generalize w.heap.size + 1 = B1 at HB1 ⊢
  generalize w.heap.size = B0 at HB0 ⊢
  have x0 := HB0.out.cell 0
  have x1 := HB0.out.cell 1
  have x2 := HB0.out.cell 2
  have x3 := HB0.out.cell 3
  have x4 := HB0.out.cell 4
  have y0 := HB1.out.cell 0
  have y1 := HB1.out.cell 1
  have y2 := HB1.out.cell 2
  have y3 := HB1.out.cell 3
  have y4 := HB1.out.cell 4
  have l0 := HB0.out.lt
  have l1 := HB1.out.lt
  simp only [List.getElem?_toArray, List.getElem?_cons_zero, List.getElem?_cons_succ] at x0 x1 x2 x3 x4 y0 y1 y2 y3 y4
  go_wp2_with fail
  refine (HCI.out _).mono ?_
  rintro r w1 ⟨rfl, rfl⟩
  by_cases hc : C = 0
  · have q1 : (C != 0) = false := by simp [hc]
    have HR2 : Hid (R = if L1 then -1 else if L2 then 1 else 0) := by show _ = _; rw [HR.out, if_neg (by omega)]
    clear hc HR
    go_wp2_with fail
    refine (HL1.out _).mono ?_
    rintro r w1 ⟨rfl, hb1⟩
    have HC1 := Lib.hid (HC.out.trans hb1)
    cases L1
    · have HB0 := Lib.hid (HB0.out.ext hb1.2)
      have HB1 := Lib.hid (HB1.out.ext hb1.2)
      clear hb1 x0 x1 x2 x3 x4 y0 y1 y2 y3 y4 l0 l1
      have x1 := HB0.out.cell 1
      have x2 := HB0.out.cell 2
      have x3 := HB0.out.cell 3
      have x4 := HB0.out.cell 4
      have y1 := HB1.out.cell 1
      have y2 := HB1.out.cell 2
      have y3 := HB1.out.cell 3
      have y4 := HB1.out.cell 4
      have l0 := HB0.out.lt
      have l1 := HB1.out.lt
      simp only [List.getElem?_toArray, List.getElem?_cons_zero, List.getElem?_cons_succ] at x1 x2 x3 x4 y1 y2 y3 y4
      go_wp2_with fail
      refine (HL2.out _).mono ?_
      rintro r w2 ⟨rfl, hb2⟩
      have HC2 := Lib.hid (HC1.out.trans hb2)
      clear hb2
      cases L2
      · go_wp2_with fail
        go_ret
        exact ⟨by rw [HR2.out]; rfl, HC2.out⟩
      · go_wp2_with fail
        go_ret
        exact ⟨by rw [HR2.out]; rfl, HC2.out⟩
    · clear hb1
      go_wp2_with fail
      go_ret
      exact ⟨by rw [HR2.out]; rfl, HC1.out⟩
  · have q1 : (C != 0) = true := by simp [hc]
    have HR2 : Hid (R = C) := by show _ = _; rw [HR.out, if_pos hc]
    clear hc HR
    go_wp2_with fail
    go_ret
    exact ⟨ret_int HR2.out.symm, HC.out⟩
end Go.Proofs.YtgklopgeimjgiaaGreatDoor

/- Several texts in one: see each part's head. -/
/- Documents: how large they are. -/
namespace Go.Proofs.YtgklopgeimjgiaaGreatDoor
open Go.RowKit

set_option maxRecDepth 100000 in
theorem aggsize_any (n : Nat) (v : Value) (d : De) (w : World) (hd : DRd n w v d) :
    Calls Tryz.prog 36 #[v] w fun r w' => r = .returned (.int .i64 (sizeD d)) ∧ Below w.heap.size w w' := by
  have HD := Lib.hid hd
  obtain ⟨A, ca, K, ck, hv⟩ : ∃ (A : Option Addr) (ca : Nat) (K : Option Addr) (ck : Nat), v = .agg #[.int .i64 d.tb, .slice A d.row.length ca, .slice K d.kids.length ck] := by
    cases n with
    | zero => exact hd.elim
    | succ n => obtain ⟨A, ca, K, ck, h, _⟩ := hd; exact ⟨A, ca, K, ck, h⟩
  subst hv
  clear hd
  have hl := leftI_le 8 200 d
  have hs := size_left d
  have HL := Lib.hid (fun (W : World) (hW : Below w.heap.size w W) => left_any n 8 200 _ d W (HD.out.ext hW) (by omega) (by omega) (by omega) (by omega))
  rw [show (8 : Int).toNat = 8 from rfl] at HL
  clear HD
  generalize leftI 8 200 d = q at HL hl hs
  generalize sizeD d = R at hs ⊢
  by_cases hq : q < 0
  · have HR := Lib.hid (show R = 0 by omega)
    clear hs
    go_enter Tryz.func36, Tryz.ntmps36
    go_wp2_with fail
    refine (HL.out _ (by repeat (first | exact Below.refl _ _ | assumption | refine Below.drew ?_ | refine below_drewN ?_ _ | refine Below.alloc ?_ (by simp <;> omega) _))).mono ?_
    rintro r w2 ⟨rfl, hb2⟩
    have HW2 : Hid (Below w.heap.size w w2) := bt (by repeat (first | exact Below.refl _ _ | assumption | refine Below.drew ?_ | refine below_drewN ?_ _ | refine Below.alloc ?_ (by simp <;> omega) _)) hb2
    clear hb2 HL
    go_wp2_with fail
    go_ret
    exact ⟨ret_int HR.out.symm, HW2.out⟩
  · have HR := Lib.hid (show R = 200 - q by omega)
    have h0 : 0 ≤ q := by omega
    have h1 : q ≤ 200 := hl.2 h0
    clear hs hl hq
    go_enter Tryz.func36, Tryz.ntmps36
    go_wp2_with fail
    refine (HL.out _ (by repeat (first | exact Below.refl _ _ | assumption | refine Below.drew ?_ | refine below_drewN ?_ _ | refine Below.alloc ?_ (by simp <;> omega) _))).mono ?_
    rintro r w2 ⟨rfl, hb2⟩
    have HW2 : Hid (Below w.heap.size w w2) := bt (by repeat (first | exact Below.refl _ _ | assumption | refine Below.drew ?_ | refine below_drewN ?_ _ | refine Below.alloc ?_ (by simp <;> omega) _)) hb2
    clear hb2 HL
    go_wp2_with fail
    go_ret
    exact ⟨ret_int HR.out.symm, HW2.out⟩
end Go.Proofs.YtgklopgeimjgiaaGreatDoor

/- Documents: the law's guard; the document's size. -/
namespace Go.Proofs.YtgklopgeimjgiaaGreatDoor
open Go.RowKit

theorem DRd.form {n : Nat} {w : World} {v : Value} {d : De} (h : DRd n w v d) : ∃ (A : Option Addr) (ca : Nat) (K : Option Addr) (ck : Nat), v = .agg #[.int .i64 d.tb, .slice A d.row.length ca, .slice K d.kids.length ck] := by
  cases n with
  | zero => exact h.elim
  | succ n => obtain ⟨A, ca, K, ck, h, _⟩ := h; exact ⟨A, ca, K, ck, h⟩
end Go.Proofs.YtgklopgeimjgiaaGreatDoor

/- Documents: which may be, by the document. -/
namespace Go.Proofs.YtgklopgeimjgiaaGreatDoor
open Go.RowKit

/-- The documents ahead of the k-th are right. -/
def OkK (ks : List De) (k : Nat) : Prop := (∀ i x, i < k → ks[i]? = some x → fitsB x = true) ∧ (∀ i a b, i + 1 < k → ks[i]? = some a → ks[i + 1]? = some b → a.tb ≤ b.tb)
theorem OkK.step {ks : List De} {k : Nat} {x : De} (h : OkK ks k) (hx : ks[k]? = some x) (hf : fitsB x = true) (ho : ∀ j a, k = j + 1 → ks[j]? = some a → a.tb ≤ x.tb) : OkK ks (k + 1) := by
  refine ⟨fun i y hi hy => ?_, fun i a b hi ha hb => ?_⟩
  · by_cases e : i = k
    · subst e; rw [hx] at hy; cases hy; exact hf
    · exact h.1 i y (by omega) hy
  · by_cases e : i + 1 = k
    · subst e; rw [hx] at hb; cases hb; exact ho i a rfl ha
    · exact h.2 i a b (by omega) ha hb
end Go.Proofs.YtgklopgeimjgiaaGreatDoor

/- Several texts in one: see each part's head. -/
/- Documents: those that are alike are the same; which may be. -/
namespace Go.Proofs.YtgklopgeimjgiaaGreatDoor
open Go.RowKit

theorem blk3 {w : World} {b : Nat} {a0 a1 a2 : Value} {t : TypeId} (h : Blk w b #[a0, a1, a2] t) : b < w.heap.size ∧ w.cell? ⟨b, 0, none⟩ = some a0 ∧ w.cell? ⟨b, 1, none⟩ = some a1 ∧ w.cell? ⟨b, 2, none⟩ = some a2 := ⟨h.lt, h.cell 0, h.cell 1, h.cell 2⟩
end Go.Proofs.YtgklopgeimjgiaaGreatDoor

/- Documents: rows of them that are alike; May. -/
namespace Go.Proofs.YtgklopgeimjgiaaGreatDoor
open Go.RowKit

end Go.Proofs.YtgklopgeimjgiaaGreatDoor

/- Documents: where they lie; a row of them that the call owns. -/
namespace Go.Proofs.YtgklopgeimjgiaaGreatDoor
open Go.RowKit

theorem cell_block {w w' : World} {b : Nat} (h : w'.heap[b]? = w.heap[b]?) (o : Nat) : w'.cell? ⟨b, o, none⟩ = w.cell? ⟨b, o, none⟩ := by simp only [World.cell?, h]
theorem VRow.keep {w w' : World} {A : Option Addr} {l : List V} (h : VRow w A l) (hs : w.heap.size ≤ w'.heap.size) (hk : ∀ b off, A = some ⟨b, off, none⟩ → l ≠ [] → b < w.heap.size → w'.heap[b]? = w.heap[b]?) : VRow w' A l := by
  refine ⟨h.1, h.2.1, fun hl => ?_⟩
  obtain ⟨b, off, rfl, hlt, hc⟩ := h.2.2 hl
  have e := hk b off rfl hl hlt
  refine ⟨b, off, rfl, Nat.lt_of_lt_of_le hlt hs, fun i v hi => ?_⟩
  simp only [cell_block e]
  exact hc i v hi
/-- As DRd; each block that the document leads to meets P. -/
def DRp (P : Nat → Prop) : Nat → World → Value → De → Prop
  | 0, _, _, _ => False
  | n + 1, w, v, d => ∃ (A : Option Addr) (ca : Nat) (K : Option Addr) (ck : Nat), v = .agg #[.int .i64 d.tb, .slice A d.row.length ca, .slice K d.kids.length ck] ∧
    (-9223372036854775808 ≤ d.tb ∧ d.tb ≤ 9223372036854775807) ∧ (VRow w A d.row ∧ ∀ b off, A = some ⟨b, off, none⟩ → d.row ≠ [] → P b) ∧ (KRow (DRp P n w) w K d.kids ∧ ∀ b off, K = some ⟨b, off, none⟩ → d.kids ≠ [] → P b)
theorem KRow.mono {R R' : Value → De → Prop} {w : World} {K : Option Addr} {ks : List De} (h : KRow R w K ks) (hR : ∀ v k, R v k → R' v k) : KRow R' w K ks := by
  refine ⟨h.1, fun hl => ?_⟩
  obtain ⟨b, off, rfl, hlt, hc⟩ := h.2 hl
  refine ⟨b, off, rfl, hlt, fun i k hi => ?_⟩
  obtain ⟨c0, c1, c2, h0, h1, h2, h3⟩ := hc i k hi
  exact ⟨c0, c1, c2, h0, h1, h2, hR _ _ h3⟩
theorem KRow.keep {R R' : Value → De → Prop} {w w' : World} {K : Option Addr} {ks : List De} (h : KRow R w K ks) (hs : w.heap.size ≤ w'.heap.size) (hk : ∀ b off, K = some ⟨b, off, none⟩ → ks ≠ [] → b < w.heap.size → w'.heap[b]? = w.heap[b]?) (hR : ∀ v k, R v k → R' v k) : KRow R' w' K ks := by
  refine ⟨h.1, fun hl => ?_⟩
  obtain ⟨b, off, rfl, hlt, hc⟩ := h.2 hl
  have e := hk b off rfl hl hlt
  refine ⟨b, off, rfl, Nat.lt_of_lt_of_le hlt hs, fun i k hi => ?_⟩
  obtain ⟨c0, c1, c2, h0, h1, h2, h3⟩ := hc i k hi
  exact ⟨c0, c1, c2, (cell_block e _).trans h0, (cell_block e _).trans h1, (cell_block e _).trans h2, hR _ _ h3⟩
theorem DRp.rd : ∀ {P : Nat → Prop} {n : Nat} {w : World} {v : Value} {d : De}, DRp P n w v d → DRd n w v d
  | _, 0, _, _, _, h => h.elim
  | _, _ + 1, _, _, _, ⟨A, ca, K, ck, hv, hr, ha, hk⟩ => ⟨A, ca, K, ck, hv, hr, ha.1, hk.1.mono (fun _ _ h => h.rd)⟩
theorem DRp.keep : ∀ {P : Nat → Prop} {n : Nat} {w w' : World} {v : Value} {d : De}, DRp P n w v d → w.heap.size ≤ w'.heap.size → (∀ b, P b → b < w.heap.size → w'.heap[b]? = w.heap[b]?) → DRp P n w' v d
  | _, 0, _, _, _, _, h, _, _ => h.elim
  | _, _ + 1, _, _, _, _, ⟨A, ca, K, ck, hv, hr, ha, hk⟩, hs, hb =>
    ⟨A, ca, K, ck, hv, hr, ⟨ha.1.keep hs (fun b off e hl hlt => hb b (ha.2 b off e hl) hlt), ha.2⟩, hk.1.keep hs (fun b off e hl hlt => hb b (hk.2 b off e hl) hlt) (fun _ _ h => h.keep hs hb), hk.2⟩
theorem below_block {B : Nat} {w w' : World} (h : Below B w w') {b : Nat} (hb : b < B) : w'.heap[b]? = w.heap[b]? := h.block b hb
theorem DRp.ext {P : Nat → Prop} {n : Nat} {w w' : World} {v : Value} {d : De} (h : DRp P n w v d) (hb : Below w.heap.size w w') : DRp P n w' v d := h.keep hb.size (fun _ _ hlt => below_block hb hlt)
theorem DRp.weak : ∀ {P Q : Nat → Prop} {n : Nat} {w : World} {v : Value} {d : De}, DRp P n w v d → (∀ b, P b → b < w.heap.size → Q b) → DRp Q n w v d
  | _, _, 0, _, _, _, h, _ => h.elim
  | _, _, _ + 1, w, _, d, ⟨A, ca, K, ck, hv, hr, ha, hk⟩, hq => by
    refine ⟨A, ca, K, ck, hv, hr, ⟨ha.1, fun b off e hl => ?_⟩, hk.1.mono (fun _ _ h => h.weak hq), fun b off e hl => ?_⟩
    · obtain ⟨b', off', e', hlt, _⟩ := ha.1.2.2 hl
      rw [e] at e'
      simp only [Option.some.injEq, Addr.mk.injEq, and_true] at e'
      exact hq b (ha.2 b off e hl) (by rw [e'.1]; exact hlt)
    · obtain ⟨b', off', e', hlt, _⟩ := hk.1.2 hl
      rw [e] at e'
      simp only [Option.some.injEq, Addr.mk.injEq, and_true] at e'
      exact hq b (hk.2 b off e hl) (by rw [e'.1]; exact hlt)
theorem DRp.grown {P : Nat → Prop} {n : Nat} {w w' : World} {v : Value} {d : De} {row : Option Nat} (h : DRp P n w v d) (hg : w.grownBy w' row) (hr : ∀ b, P b → row ≠ some b) : DRp P n w' v d :=
  h.keep hg.size (fun b hp hlt => hg.block b hlt (fun e => hr b hp e.symm))
theorem DRp.put {P : Nat → Prop} {n : Nat} {w : World} {v : Value} {d : De} {b : Nat} {cs : Array Value} {t : TypeId} (h : DRp P n (putBlk w b cs t) v d) (hb : ¬ P b) (ds : Array Value) : DRp P n (putBlk w b ds t) v d :=
  h.keep (by unfold putBlk; simp) (fun x hx _ => by
    have : x ≠ b := fun e => hb (e ▸ hx)
    unfold putBlk
    simp only
    rw [Array.getElem?_setIfInBounds_ne (Ne.symm this), Array.getElem?_setIfInBounds_ne (Ne.symm this)])
theorem DRp.cells {P : Nat → Prop} {n : Nat} {w : World} {v : Value} {d : De} (h : DRp P n w v d) : ∃ (A : Option Addr) (ca : Nat) (K : Option Addr) (ck : Nat), v = .agg #[.int .i64 d.tb, .slice A d.row.length ca, .slice K d.kids.length ck] := h.rd.form
/-- The cells of a row of documents. -/
def KCells (R : Value → De → Prop) (xs : List Value) (ks : List De) : Prop := xs.length = ks.length * 3 ∧ ∀ i k, ks[i]? = some k → ∃ c0 c1 c2, xs[i * 3]? = some c0 ∧ xs[i * 3 + 1]? = some c1 ∧ xs[i * 3 + 2]? = some c2 ∧ R (.agg #[c0, c1, c2]) k
theorem KCells.nil (R : Value → De → Prop) : KCells R [] [] := ⟨rfl, by simp⟩
theorem KCells.mono {R R' : Value → De → Prop} {xs : List Value} {ks : List De} (h : KCells R xs ks) (hR : ∀ v k, R v k → R' v k) : KCells R' xs ks :=
  ⟨h.1, fun i k hi => by obtain ⟨c0, c1, c2, h0, h1, h2, h3⟩ := h.2 i k hi; exact ⟨c0, c1, c2, h0, h1, h2, hR _ _ h3⟩⟩
theorem KCells.app {R : Value → De → Prop} {xs ys : List Value} {ks ls : List De} (h : KCells R xs ks) (h' : KCells R ys ls) : KCells R (xs ++ ys) (ks ++ ls) := by
  refine ⟨by simp [h.1, h'.1]; omega, fun i k hi => ?_⟩
  by_cases hlt : i < ks.length
  · rw [List.getElem?_append_left hlt] at hi
    obtain ⟨c0, c1, c2, h0, h1, h2, h3⟩ := h.2 i k hi
    have hx := h.1
    refine ⟨c0, c1, c2, ?_, ?_, ?_, h3⟩ <;> rw [List.getElem?_append_left (by omega)] <;> assumption
  · rw [List.getElem?_append_right (by omega)] at hi
    obtain ⟨c0, c1, c2, h0, h1, h2, h3⟩ := h'.2 (i - ks.length) k hi
    have hx := h.1
    refine ⟨c0, c1, c2, ?_, ?_, ?_, h3⟩ <;> rw [List.getElem?_append_right (by omega)] <;> rw [← ‹ys[_]? = some _›] <;> congr 1 <;> omega
theorem KCells.one {R : Value → De → Prop} {c0 c1 c2 : Value} {k : De} (h : R (.agg #[c0, c1, c2]) k) : KCells R [c0, c1, c2] [k] :=
  ⟨rfl, fun i x hi => by
    match i, hi with
    | 0, hi =>
      have : k = x := by simpa using hi
      subst this
      exact ⟨c0, c1, c2, rfl, rfl, rfl, h⟩
    | i + 1, hi => simp at hi⟩
theorem KRow.of_own {R : Value → De → Prop} {w : World} {base n c : Nat} {A : Option Addr} {xs : List Value} {ks : List De} (ho : w.ownsRow base 42 3 (.slice A n c) n xs) (hc : KCells R xs ks) (hl : ks.length ≤ 2932031007402) :
    (KRow R w A ks ∧ n = ks.length) ∧ ∀ b off, A = some ⟨b, off, none⟩ → ks ≠ [] → base ≤ b := by
  have hn : n = ks.length := by have h1 := ho.1; have h2 := hc.1; omega
  by_cases hpos : 0 < n
  · obtain ⟨g, cap, hv, hg, hlt⟩ := ho.form hpos
    have hA : A = some ⟨g, 0, none⟩ := by injection hv
    subst hA
    have hce := ho.cells (g := g) rfl
    refine ⟨⟨⟨hl, fun _ => ⟨g, 0, rfl, hlt, fun i k hi => ?_⟩⟩, hn⟩, fun b off e _ => ?_⟩
    · obtain ⟨c0, c1, c2, h0, h1, h2, h3⟩ := hc.2 i k hi
      have ea : ∀ j, (⟨g, 0, none⟩ : Addr).add j = ⟨g, 0 + j, none⟩ := by
        intro j; unfold Addr.add; split
        · next h => subst h; rfl
        · simp
      have k0 := hce _ _ h0
      have k1 := hce _ _ h1
      have k2 := hce _ _ h2
      rw [ea] at k0 k1 k2
      exact ⟨c0, c1, c2, k0, k1, k2, h3⟩
    · simp only [Option.some.injEq, Addr.mk.injEq, and_true] at e
      rw [← e.1]; exact hg
  · have : ks = [] := List.length_eq_zero_iff.1 (by omega)
    subst this
    exact ⟨⟨⟨hl, fun h => absurd rfl h⟩, hn⟩, fun _ _ _ h => absurd rfl h⟩
end Go.Proofs.YtgklopgeimjgiaaGreatDoor
