/- Several texts in one: see each part's head. -/
import Derived.BigQuiet
import Derived.Test.YtkfhfegogmlchaaDoorJ39
/- The next record of a topic comes to the buffer: topics.come. -/
namespace Go.Proofs.YtkfhfegogmlchaaDoor
open Go.RowKit

def atN (s : Bs) : Nat → Nat
  | 0 => s.a0
  | k + 1 => s.a k
def atL (nt : Nat) (s : Bs) : List Value := (List.range (nt + 1)).map fun m => .int .i64 (atN s m)
theorem atL_at {nt m : Nat} (s : Bs) (h : m < nt + 1) : (atL nt s)[m]? = some (.int .i64 (atN s m)) := by simp [atL, h]
def stepB (s : Bs) : Nat → Bs
  | 0 => { s with a0 := s.a0 + 1 }
  | k + 1 => s.takeK k
theorem atN_step (s : Bs) (top m : Nat) : atN (stepB s top) m = if m = top then atN s m + 1 else atN s m := by
  cases top with
  | zero =>
    cases m with
    | zero => rfl
    | succ m => rfl
  | succ k =>
    cases m with
    | zero => rfl
    | succ m =>
      show (if m = k then s.a m + 1 else s.a m) = if m + 1 = k + 1 then s.a m + 1 else s.a m
      by_cases e : m = k
      · rw [if_pos e, if_pos (by omega)]
      · rw [if_neg e, if_neg (by omega)]
theorem atL_step (nt : Nat) (s : Bs) (top : Nat) : (atL nt s).set top (.int .i64 ((atN s top : Nat) + 1 : Int)) = atL nt (stepB s top) := by
  apply List.ext_getElem
  · simp [atL]
  · intro i h1 h2
    have hi : i < nt + 1 := by simpa [atL] using h2
    rw [List.getElem_set]
    have e := atN_step s top i
    by_cases ei : top = i
    · subst ei
      rw [if_pos rfl] at e
      simp [atL, e]
    · rw [if_neg (fun h => ei h.symm)] at e
      simp [atL, e, ei]
/-- All that the loop of the statement knows. -/
structure LoopS (B nt n lo g h : Nat) (first : Int) (ls : List (List Ch)) (vs : List Value) (R : Nat → List ByteArray) (s : Bs) (w : World) : Prop where
  top : TopR lo nt g vs R w
  lt : g < B ∧ h < B ∧ lo ≤ h ∧ ∀ (m : Nat) v, vs[m]? = some v → ∀ b, v.ownBlock = some b → b < B
  at_ : Blk w h (atL nt s).toArray 3
  bu : BufS B nt n first ls s w
theorem own_belowB {w w' : World} {B lo e sz n : Nat} {v : Value} {xs : List Value} (h : w.ownsRow lo e sz v n xs) (hb : Below B w w') (hl : ∀ b, v.ownBlock = some b → b < B) : w'.ownsRow lo e sz v n xs := by
  refine ⟨h.1, ?_⟩
  rcases h.2 with h0 | ⟨g, cap, cur, rfl, hlo, hh, h3⟩
  · exact Or.inl h0
  · exact Or.inr ⟨g, cap, cur, rfl, hlo, (hb.block g (hl g rfl)).trans hh, h3⟩
theorem TopR.belowB {lo nt g B : Nat} {vs : List Value} {R : Nat → List ByteArray} {w w' : World} (h : TopR lo nt g vs R w) (hb : Below B w w') (hg : g < B) (hl : ∀ (m : Nat) v, vs[m]? = some v → ∀ b, v.ownBlock = some b → b < B) : TopR lo nt g vs R w' :=
  ⟨h.b.below hb hg, h.l, h.lg, fun n v hv => by
    obtain ⟨ol, h1, h2⟩ := h.r n v hv
    exact ⟨ol, h1, own_belowB h2 hb (hl n v hv)⟩, h.a⟩
theorem TopR.kpI {lo nt g : Nat} {vs : List Value} {R : Nat → List ByteArray} {w w' : World} (h : TopR lo nt g vs R w) (hk : Kp [] 3 w w') : TopR lo nt g vs R w' :=
  ⟨hk.blk h.b (by simp) (by decide), h.l, h.lg, fun n v hv => by
    obtain ⟨ol, h1, h2⟩ := h.r n v hv
    exact ⟨ol, h1, own_kp h2 hk (by decide) (fun _ _ => by simp)⟩, h.a⟩
theorem BufS.putAt {B nt n h0 : Nat} {first : Int} {ls : List (List Ch)} {s : Bs} {w : World} {cs : Array Value} (h : BufS B nt n first ls s (putBlk w h0 cs 3)) (lt : h0 < w.heap.size) (hlt : h0 < B) (ds : Array Value) : BufS B nt n first ls s (putBlk w h0 ds 3) := by
  obtain ⟨l, nx, has, hB, hD, hW, hG⟩ := h
  have hb := putBlk_blk cs 3 lt
  have hg := put_grown w h0 cs ds 3
  refine ⟨l, nx, has, hB.keep hg (NoT.blk hb (by decide)) (NoT.blk hb (by decide)) rfl (fun t ht => (hB.t t ht).farB hg hb (by decide) (by decide) (by decide) (fun e => absurd e (by decide)) (fun _ b hb' => ?_)), hD, hW, hG⟩
  have hN := (hB.t t ht).ln
  rcases List.mem_cons.1 hb' with rfl | hb'
  · omega
  · cases hf : t.fin with
    | none => rw [hf] at hb'; cases hb'
    | some f =>
      rw [hf] at hb'
      obtain rfl := List.mem_singleton.1 hb'
      have := hG t ht f hf
      omega
theorem LoopS.ext {B nt n lo g h : Nat} {first : Int} {ls : List (List Ch)} {vs : List Value} {R : Nat → List ByteArray} {s : Bs} {w w' : World} (hL : LoopS B nt n lo g h first ls vs R s w) (hb : Below w.heap.size w w') : LoopS B nt n lo g h first ls vs R s w' :=
  ⟨hL.top.ext hb, hL.lt, hL.at_.ext hb, hL.bu.ext hb⟩
theorem LoopS.same {B nt n lo g h : Nat} {first : Int} {ls : List (List Ch)} {vs : List Value} {R : Nat → List ByteArray} {s : Bs} {w w' : World} (hL : LoopS B nt n lo g h first ls vs R s w) (hb : Below B w w') (hbu : BufS B nt n first ls s w') : LoopS B nt n lo g h first ls vs R s w' :=
  ⟨hL.top.belowB hb hL.lt.1 hL.lt.2.2.2, hL.lt, hL.at_.below hb hL.lt.2.1, hbu⟩
theorem LoopS.step {B nt n lo g h top : Nat} {first : Int} {ls : List (List Ch)} {vs : List Value} {R : Nat → List ByteArray} {s : Bs} {w w6 : World} (hL : LoopS B nt n lo g h first ls vs R s w) (hb : Below B w (putBlk w6 h (atL nt s).toArray 3)) (lt : h < w6.heap.size) (hbu : BufS B nt n first ls (stepB s top) (putBlk w6 h (atL nt s).toArray 3)) :
    LoopS B nt n lo g h first ls vs R (stepB s top) (putBlk w6 h ((atL nt s).set top (.int .i64 ((atN s top : Nat) + 1 : Int))).toArray 3) := by
  have hblk := putBlk_blk (w := w6) (atL nt s).toArray 3 lt
  have hk := Kp.put_same (ds := ((atL nt s).set top (.int .i64 ((atN s top : Nat) + 1 : Int))).toArray) hblk
  rw [put_put7] at hk
  refine ⟨(hL.top.belowB hb hL.lt.1 hL.lt.2.2.2).kpI hk, hL.lt, ?_, hbu.putAt lt hL.lt.2.1 _⟩
  rw [atL_step]
  exact putBlk_blk _ _ lt
theorem txC_at : ∀ (ol : List (ByteArray × Int × ByteArray)) (j : Nat) (q : ByteArray × Int × ByteArray), ol[j]? = some q → (txC ol)[j * 3 + 2]? = some (.string q.2.2)
  | [], j, q, h => by simp at h
  | p :: ol, 0, q, h => by
    simp only [List.getElem?_cons_zero, Option.some.injEq] at h
    subst h
    rfl
  | p :: ol, j + 1, q, h => by
    have ih := txC_at ol j q (by simpa using h)
    show (outC p.1 p.2.2 p.2.1 ++ txC ol)[(j + 1) * 3 + 2]? = _
    rw [List.getElem?_append_right (by simp [outC]; omega), ← ih]
    congr 1
    simp [outC]
    omega
/-- What comes. -/
def CmP (B nt n lo g h top : Nat) (first : Int) (ls : List (List Ch)) (vs : List Value) (R : Nat → List ByteArray) (s : Bs) (w : World) (r : Ending) (w' : World) : Prop :=
  ∃ (is : Bool) (s1 : Bs), r = .returned (.tuple #[.bool is, .int .i64 0]) ∧ comeB nt n (tabsOf ls) s top s1 ∧ LoopS B nt n lo g h first ls vs R s1 w' ∧ Below lo w w' ∧ FrS (fun t => t = 39) w w'
set_option maxRecDepth 100000 in
set_option maxHeartbeats 3200000 in
set_option linter.unusedSimpArgs false in
theorem come_any {B nt n lo g h top : Nat} {first : Int} {ls : List (List Ch)} {vs : List Value} {R : Nat → List ByteArray} {s : Bs} {w : World} (hL : LoopS B nt n lo g h first ls vs R s w) (hlB : lo ≤ B) (hP : PlanR nt n first ls) (hM : MadeR nt first ls ls.length R) (hT : Tabs w)
    (hok : ∀ l ∈ ls, okC nt l) (hwf : ∀ l ∈ ls, ∀ c ∈ l, c.wf ∧ (∀ v ∈ c.bf, v.wf) ∧ ∀ v ∈ c.af, v.wf) (hd : s.done < ls.length) (ht : top < nt + 1) :
    Calls Tryd.prog 9 #[.agg #[.slice (some ⟨g, 0, none⟩) (nt + 1) (nt + 1), .slice (some ⟨h, 0, none⟩) (nt + 1) (nt + 1)], .pointer (some ⟨B, 0, none⟩), .int .i64 top] w (CmP B nt n lo g h top first ls vs R s w) := by
  obtain ⟨v, hv⟩ : ∃ v, vs[top]? = some v := ⟨_, List.getElem?_eq_getElem (by rw [hL.top.l]; exact ht)⟩
  obtain ⟨ol, hol, hown⟩ := hL.top.r top v hv
  obtain ⟨A', c', rfl⟩ := own_form hown
  have hBs : B < w.heap.size := by obtain ⟨l, nx, has, hB, _⟩ := hL.bu; exact hB.lt
  have hlen : ol.length = (R top).length := by rw [← hol, List.length_map]
  have HL := Lib.hid hL
  have HV := Lib.hid hv
  have HT := Lib.hid hT
  have HOWN := Lib.hid hown
  clear hL hv hT hown
  go_enter Tryd.func9, Tryd.ntmps9
  go_upto_region 1 with fail
  have hA : Below w.heap.size w (w.alloc (.cells #[.slice (some ⟨g, 0, none⟩) (nt + 1) (nt + 1), .slice (some ⟨h, 0, none⟩) (nt + 1) (nt + 1)] 39)) := (by repeat (first | exact Below.refl _ _ | assumption | refine Below.drew ?_ | refine below_drewN ?_ _ | refine Below.alloc ?_ (by simp <;> omega) _))
  have HX : Hid (Blk (w.alloc (.cells #[.slice (some ⟨g, 0, none⟩) (nt + 1) (nt + 1), .slice (some ⟨h, 0, none⟩) (nt + 1) (nt + 1)] 39)) w.heap.size #[.slice (some ⟨g, 0, none⟩) (nt + 1) (nt + 1), .slice (some ⟨h, 0, none⟩) (nt + 1) (nt + 1)] 39) := Blk.new _ _ _
  have HL1 := Lib.hid (HL.out.ext hA)
  have HC1 := Lib.hid hA
  have HT1 := Lib.hid (HT.out.ext hA)
  have HXB : Hid (B < w.heap.size) := hBs
  have HOWN := Lib.hid (own_below HOWN.out hA)
  clear hA
  generalize w.alloc (.cells #[.slice (some ⟨g, 0, none⟩) (nt + 1) (nt + 1), .slice (some ⟨h, 0, none⟩) (nt + 1) (nt + 1)] 39) = W1 at HX HL1 HC1 HT1 HOWN ⊢
  have HC1 : Hid (Below w.heap.size w W1) := HC1.out
  generalize hbx : w.heap.size = bx at HX HXB ⊢
  have HBX := Lib.hid hbx
  clear hbx
  have hpos0 : (0 : Int) ≤ (top : Int) := by omega
  have htop : (top : Int) < (nt : Int) + 1 := by omega
  have x0 := HX.out.cell 0
  have x1 := HX.out.cell 1
  have lX := HX.out.lt
  have g0 := HL1.out.top.b.cell top
  rw [List.getElem?_toArray, HV.out] at g0
  have lG := HL1.out.top.b.lt
  have h0 := HL1.out.at_.cell top
  rw [List.getElem?_toArray, atL_at s ht] at h0
  have lH := HL1.out.at_.lt
  simp only [List.getElem?_toArray, List.getElem?_cons_zero, List.getElem?_cons_succ] at x0 x1
  obtain ⟨pos, hps⟩ : ∃ p, p = atN s top := ⟨_, rfl⟩
  rw [← hps] at h0
  by_cases hpos : pos < ol.length
  · obtain ⟨q, hq⟩ : ∃ q, ol[pos]? = some q := ⟨_, List.getElem?_eq_getElem hpos⟩
    obtain ⟨O, e1⟩ : ∃ O, A' = some ⟨O, 0, none⟩ := by
      rcases HOWN.out.2 with ⟨_, h0⟩ | ⟨O, cap, cur, e, _⟩
      · omega
      · simp only [Value.slice.injEq] at e
        exact ⟨O, e.1⟩
    subst e1
    have hR : (R top)[pos]? = some q.2.2 := by rw [← hol, List.getElem?_map, hq]; rfl
    have hc := HOWN.out.cells (g := O) rfl _ _ (txC_at ol pos q hq)
    rw [addr_add, Nat.zero_add] at hc
    have lO := (HOWN.out.lt O rfl).2
    have hge2 : decide ((ol.length : Int) ≤ (pos : Int)) = false := decide_eq_false (by omega)
    have hlt1 : (pos : Int) < ol.length := by omega
    have hpp : (0 : Int) ≤ pos := by omega
    generalize q.2.2 = text at hR hc
    have HPS := Lib.hid hps
    have HRR := Lib.hid hR
    clear hq hlen hps hR hol HOWN
    go_quiet (fail)
    rename Nat => nq1
    go_upto_region 3 with fail
    go_quiet (fail)
    go_upto_region 6 with fail
    have hbW : Below W1.heap.size W1 ((W1.drewN nq1).drewN nq) := below_drewN (below_drewN (Below.refl _ _) _) _
    have HL2 := Lib.hid (HL1.out.ext hbW)
    have HX2 := Lib.hid (HX.out.ext hbW)
    have HC2 := Lib.hid (bt HC1.out hbW)
    have HT2 := Lib.hid (HT1.out.ext hbW)
    clear hbW x0 x1 lX g0 lG h0 lH HX HL1 HC1 hc lO hge2 hlt1
    generalize (W1.drewN nq1).drewN nq = W2 at HL2 HX2 HC2 HT2 ⊢
    have hRB : (R top).length ≤ 8000 := hM.bound (fun l hl => hP.l200 l (List.mem_of_mem_take hl)) hP.len top ht
    have hpl : pos < (R top).length := (List.getElem?_eq_some_iff.1 HRR.out).1
    have hwr : IntKind.i64.wrap ((pos : Int) + 1) = (pos : Int) + 1 := IntWalk.i64_in _ (by omega)
    rcases Nat.eq_zero_or_pos top with rfl | htp
    · obtain ⟨lc, sq, hl, hsq, e⟩ := hM.m pos text HRR.out
      have hps0 : pos = s.a0 := HPS.out
      have hlm := List.mem_of_getElem? hl
      have hf := hP.f
      have hql := (List.getElem?_eq_some_iff.1 hl).1
      have h40 := hP.len
      have hv : (mkAt nt (first + ((pos / 2 : Nat) : Int)) lc (pos % 2 == 1) sq).wf ∧ mkB (mkAt nt (first + ((pos / 2 : Nat) : Int)) lc (pos % 2 == 1) sq) = true := by
        cases (pos % 2 == 1) with
        | false => exact sqOk_mk hsq hP.n1 hP.n12 (by omega)
        | true => exact sqOk_mk2 hsq hP.n1 hP.n12 (hP.hp lc hlm) (hP.l200 lc hlm) (by omega)
      have HGM := Lib.hid (fun (W : World) => mk_texts (w := W) hv.1 hv.2)
      have hsq0 : (mkAt nt (first + ((pos / 2 : Nat) : Int)) lc (s.a0 % 2 == 1) sq).sq = sq := by cases (s.a0 % 2 == 1) <;> rfl
      have HMK := Lib.hid (fun (W : World) (C S : Option Addr) (c1 c2 : Nat) (hS : BufS B nt n first ls s W) (hc : NRow .i64 W C (mkAt nt (first + ((pos / 2 : Nat) : Int)) lc (s.a0 % 2 == 1) sq).cs) (hs : NRow .u64 W S (mkAt nt (first + ((pos / 2 : Nat) : Int)) lc (s.a0 % 2 == 1) sq).sq) => mark_st (c1 := c1) (c2 := c2) hS hP (by rw [← hps0]) hl hsq hc (by have h := hs; rw [hsq0] at h; exact h))
      rw [← hps0] at HMK
      rw [← e] at HGM
      generalize mkAt nt (first + ((pos / 2 : Nat) : Int)) lc (pos % 2 == 1) sq = m at HGM HMK
      obtain ⟨mk, mtx, mcs, msq⟩ := m
      simp only [mkCells, MkPost] at HGM HMK
      clear e hl hsq hv hsq0 hps0 hlm hql
      go_wp2_with fail
      refine (HGM.out _).mono ?_
      rintro r w3 ⟨hb, C, c1, S, c2, rfl, n1, n2⟩
      simp only [mkCells]
      have hbB : Below W2.heap.size W2 (w3.alloc (.cells #[.int .u8 mk, .int .u64 mtx, .slice C mcs.length c1, .slice S msq.length c2] 50)) := bt hb (by repeat (first | exact Below.refl _ _ | assumption | refine Below.drew ?_ | refine below_drewN ?_ _ | refine Below.alloc ?_ (by simp <;> omega) _))
      have hb3 : Below w3.heap.size w3 (w3.alloc (.cells #[.int .u8 mk, .int .u64 mtx, .slice C mcs.length c1, .slice S msq.length c2] 50)) := (by repeat (first | exact Below.refl _ _ | assumption | refine Below.drew ?_ | refine below_drewN ?_ _ | refine Below.alloc ?_ (by simp <;> omega) _))
      have HM2 := Lib.hid (HMK.out _ C S c1 c2 (HL2.out.bu.ext hbB) (n1.ext hb3) (n2.ext hb3))
      have hlW : B ≤ W2.heap.size := Nat.le_trans (Nat.le_of_lt HXB.out) (by have := HC2.out.size; have := HBX.out; omega)
      have HBF2 := Lib.hid (BelF.of hbB hlW)
      clear hb hb3 n1 n2 hbB HGM HMK hlW
      go_wp2_with fail
      refine HM2.out.mono ?_
      rintro r w5 ⟨is, rfl, hcm⟩
      replace hcm := hcm.ahead HBF2.out
      clear HM2 HBF2
      obtain ⟨s1, hs1, hcome, hbu, hbl⟩ := hcm
      have HBE : Hid (Below lo w w5) := (HC2.out.mono (by have := HXB.out; have := HBX.out; omega)).trans (hbl.b.mono hlB)
      have HFE := Lib.hid ((FrS.of_below HC2.out).trans hbl.f)
      rcases hs1 with ⟨rfl, rfl⟩ | ⟨rfl, hs1⟩
      · have HL5 := Lib.hid (HL2.out.same hbl.b hbu)
        have HCM := Lib.hid hcome
        clear hcome hbu hbl HL2 HX2 HC2
        go_wp2_with fail
        go_ret2
        exact ⟨false, _, rfl, HCM.out, HL5.out, HBE.out, HFE.out⟩
      · have hs2 : s1 = stepB s 0 := hs1
        subst hs2
        have hx5 := hbl.f.blk HX2.out rfl
        have hat := HL2.out.at_.below hbl.b HL2.out.lt.2.1
        have hlt2 := HL2.out.lt.2.1
        have HCM := Lib.hid hcome
        have x0 := hx5.cell 0
        have x1 := hx5.cell 1
        have lX := hx5.lt
        simp only [List.getElem?_toArray, List.getElem?_cons_zero, List.getElem?_cons_succ] at x0 x1
        have ha := atL_at (nt := nt) s ht
        have hps : atN s 0 = pos := HPS.out.symm
        rw [hps] at ha
        have hlA : (atL nt s).length = nt + 1 := by simp [atL]
        have hbl0 := hbl.b
        have hlo := HL2.out.lt.2.2.1
        clear hs1 hx5 hcome HX2 HC2
        obtain ⟨w6, rfl, lt⟩ := blk_put hat
        obtain ⟨pc1, pf1, pS1⟩ := putBlk_facts (w := w6) 3 lt
        have HF0 := HL2.out.step hbl0 lt hbu
        have hbf := putBlk_belows HBE.out hlo ((atL nt s).set 0 (.int .i64 ((pos : Int) + 1))).toArray
        have hff := HFE.out.trans (FrS.put (S := fun t => t = 39) (t := 3) lt (show ¬ 3 = 39 by decide) ((atL nt s).set 0 (.int .i64 ((pos : Int) + 1))).toArray)
        rw [hps] at HF0
        have hset : ((atL nt s).set 0 (.int .i64 ((pos : Int) + 1))).toArray = (atL nt s).toArray.setIfInBounds 0 (.int .i64 ((pos : Int) + 1)) := by simp
        rw [hset] at HF0 hbf hff
        have HF := Lib.hid HF0
        have HBF := Lib.hid hbf
        have HFF := Lib.hid hff
        have hak : (atL nt s).toArray[0]? = some (.int .i64 pos) := by rw [List.getElem?_toArray]; exact ha
        have hsz : 0 < (atL nt s).toArray.size := (Array.getElem?_eq_some_iff.1 hak).1
        clear HF0 hbf hff HFE hset hbu hbl hbl0 hat HL2 HBE ha hlA hps
        generalize (atL nt s).toArray = arr at HF HBF HFF hak hsz pc1 x0 x1 lX ⊢
        have pck := pc1 arr 0
        rw [hak] at pck
        have hge0 := (Array.getElem?_eq_some_iff.1 hak).2
        go_wp2_with fail
        go_ret2
        exact ⟨true, _, rfl, HCM.out, HF.out, HBF.out, HFF.out⟩
    · obtain ⟨k, hkt⟩ : ∃ k, top = k + 1 := ⟨top - 1, by omega⟩
      have hkn : k < nt := by omega
      have hR2 := HRR.out
      rw [hkt] at hR2
      obtain ⟨i, lc, j, c, hl, hj, htb, hax, e⟩ := hM.e k hkn pos text hR2
      have hps0 : s.a k = pos := by have h := HPS.out; rw [hkt] at h; exact h.symm
      have hra : RecAt ls s k i j lc c := ⟨hl, hj, htb, by rw [hps0]; exact hax⟩
      have hlm := List.mem_of_getElem? hl
      have hcm := List.mem_of_getElem? hj
      obtain ⟨hcw, hbv, hav⟩ := hwf lc hlm c hcm
      have hf := hP.f
      have hil := (List.getElem?_eq_some_iff.1 hl).1
      have hjl := (List.getElem?_eq_some_iff.1 hj).1
      have h40 := hP.len
      have h200 := hP.l200 lc hlm
      have hcn : cntT (lc.take j) c.tb ≤ 200 := Nat.le_trans (cntT_le lc j c.tb) (Nat.le_trans List.countP_le_length h200)
      have hev : evB (evAt (first + ((i : Nat) : Int)) lc j c) = true := (hok lc hlm j c hj).2.2
      have hew : (evAt (first + ((i : Nat) : Int)) lc j c).wf := by
        refine ⟨?_, ?_, ?_, hcw.1, hcw.2⟩
        · show 0 ≤ first + ((i : Nat) : Int) ∧ first + ((i : Nat) : Int) ≤ 18446744073709551615
          omega
        · show -9223372036854775808 ≤ ((j : Nat) : Int) ∧ ((j : Nat) : Int) ≤ 9223372036854775807
          omega
        · show -9223372036854775808 ≤ ((cntT (lc.take j) c.tb : Nat) : Int) ∧ ((cntT (lc.take j) c.tb : Nat) : Int) ≤ 9223372036854775807
          omega
      have HGM := Lib.hid (fun (W : World) (hT : Tabs W) => ev_texts (w := W) hew hev hbv hav hT)
      have HMK := Lib.hid (fun (W : World) (A A2 : Option Addr) (c1 c2 : Nat) (hS : BufS B nt n first ls s W) (hT : Tabs W) (h1 : VRow W A (evAt (first + ((i : Nat) : Int)) lc j c).bf) (h2 : VRow W A2 (evAt (first + ((i : Nat) : Int)) lc j c).af) (hz1 : A = none → c1 = 0) (hz2 : A2 = none → c2 = 0) => event_st (c := c1) (c2 := c2) hS hP hT hra hkn hev h1 h2 hz1 hz2)
      have hbf : c.bf = (evAt (first + ((i : Nat) : Int)) lc j c).bf := rfl
      have haf : c.af = (evAt (first + ((i : Nat) : Int)) lc j c).af := rfl
      rw [hbf, haf, ← hkt] at HMK
      rw [← e] at HGM
      clear hR2
      generalize evAt (first + ((i : Nat) : Int)) lc j c = ev at HGM HMK
      obtain ⟨etx, etot, enth, ek, etb, ebf, eaf⟩ := ev
      simp only [evCells, GetPostZ] at HGM HMK
      have hne : ¬ ((top : Int) = 0) := by omega
      have HKT := Lib.hid hkt
      clear e hl hj htb hax hra hlm hcm hcw hbv hav hev hew hbf haf hcn hil hjl hps0 hkt
      go_wp2_with fail
      refine (HGM.out _ HT2.out).mono ?_
      rintro r w3 ⟨hb, C, c1, S, c2, rfl, n1, n2, z1, z2⟩
      simp only [evCells]
      have hbB : Below W2.heap.size W2 (w3.alloc (.cells #[.int .u64 etx, .int .i64 etot, .int .i64 enth, .int .u8 ek, .int .i64 etb, .slice C ebf.length c1, .slice S eaf.length c2] 59)) := bt hb (by repeat (first | exact Below.refl _ _ | assumption | refine Below.drew ?_ | refine below_drewN ?_ _ | refine Below.alloc ?_ (by simp <;> omega) _))
      have hb3 : Below w3.heap.size w3 (w3.alloc (.cells #[.int .u64 etx, .int .i64 etot, .int .i64 enth, .int .u8 ek, .int .i64 etb, .slice C ebf.length c1, .slice S eaf.length c2] 59)) := (by repeat (first | exact Below.refl _ _ | assumption | refine Below.drew ?_ | refine below_drewN ?_ _ | refine Below.alloc ?_ (by simp <;> omega) _))
      have HM2 := Lib.hid (HMK.out _ C S c1 c2 (HL2.out.bu.ext hbB) (HT2.out.ext hbB) (n1.ext hb3) (n2.ext hb3) z1 z2)
      have hlW : B ≤ W2.heap.size := Nat.le_trans (Nat.le_of_lt HXB.out) (by have := HC2.out.size; have := HBX.out; omega)
      have HBF2 := Lib.hid (BelF.of hbB hlW)
      clear hb hb3 n1 n2 z1 z2 hbB HGM HMK hlW
      go_wp2_with fail
      refine HM2.out.mono ?_
      rintro r w5 ⟨is, rfl, hcm⟩
      replace hcm := hcm.ahead HBF2.out
      clear HM2 HBF2
      obtain ⟨s1, hs1, hcome, hbu, hbl⟩ := hcm
      have HBE : Hid (Below lo w w5) := (HC2.out.mono (by have := HXB.out; have := HBX.out; omega)).trans (hbl.b.mono hlB)
      have HFE := Lib.hid ((FrS.of_below HC2.out).trans hbl.f)
      rcases hs1 with ⟨rfl, rfl⟩ | ⟨rfl, hs1⟩
      · have HL5 := Lib.hid (HL2.out.same hbl.b hbu)
        have HCM := Lib.hid hcome
        clear hcome hbu hbl HL2 HX2 HC2
        go_wp2_with fail
        go_ret2
        exact ⟨false, _, rfl, HCM.out, HL5.out, HBE.out, HFE.out⟩
      · have hs2 : s1 = stepB s top := hs1
        subst hs2
        have hx5 := hbl.f.blk HX2.out rfl
        have hat := HL2.out.at_.below hbl.b HL2.out.lt.2.1
        have hlt2 := HL2.out.lt.2.1
        have HCM := Lib.hid hcome
        have x0 := hx5.cell 0
        have x1 := hx5.cell 1
        have lX := hx5.lt
        simp only [List.getElem?_toArray, List.getElem?_cons_zero, List.getElem?_cons_succ] at x0 x1
        have ha := atL_at (nt := nt) s ht
        have hps : atN s top = pos := HPS.out.symm
        rw [hps] at ha
        have hlA : (atL nt s).length = nt + 1 := by simp [atL]
        have hbl0 := hbl.b
        have hlo := HL2.out.lt.2.2.1
        clear hs1 hx5 hcome HX2 HC2
        obtain ⟨w6, rfl, lt⟩ := blk_put hat
        obtain ⟨pc1, pf1, pS1⟩ := putBlk_facts (w := w6) 3 lt
        have HF0 := HL2.out.step hbl0 lt hbu
        have hbf := putBlk_belows HBE.out hlo ((atL nt s).set top (.int .i64 ((pos : Int) + 1))).toArray
        have hff := HFE.out.trans (FrS.put (S := fun t => t = 39) (t := 3) lt (show ¬ 3 = 39 by decide) ((atL nt s).set top (.int .i64 ((pos : Int) + 1))).toArray)
        rw [hps] at HF0
        have hset : ((atL nt s).set top (.int .i64 ((pos : Int) + 1))).toArray = (atL nt s).toArray.setIfInBounds top (.int .i64 ((pos : Int) + 1)) := by simp
        rw [hset] at HF0 hbf hff
        have HF := Lib.hid HF0
        have HBF := Lib.hid hbf
        have HFF := Lib.hid hff
        have hak : (atL nt s).toArray[top]? = some (.int .i64 pos) := by rw [List.getElem?_toArray]; exact ha
        have hsz : top < (atL nt s).toArray.size := (Array.getElem?_eq_some_iff.1 hak).1
        clear HF0 hbf hff HFE hset hbu hbl hbl0 hat HL2 HBE ha hlA hps
        generalize (atL nt s).toArray = arr at HF HBF HFF hak hsz pc1 x0 x1 lX ⊢
        have pck := pc1 arr top
        rw [hak] at pck
        have hge0 := (Array.getElem?_eq_some_iff.1 hak).2
        go_wp2_with fail
        go_ret2
        exact ⟨true, _, rfl, HCM.out, HF.out, HBF.out, HFF.out⟩
  · have hge : (ol.length : Int) ≤ (pos : Int) := by omega
    have hge2 : decide ((ol.length : Int) ≤ (pos : Int)) = true := decide_eq_true hge
    have HFIN : Hid (∀ W, Below W1.heap.size W1 W → CmP B nt n lo g h top first ls vs R s w (.returned (.tuple #[.bool false, .int .i64 0])) W) := by
      intro W hW
      refine ⟨false, s, rfl, ?_, HL1.out.ext hW, (HC1.out.mono (by have := HXB.out; have := HBX.out; omega)).trans (hW.mono ?_), (FrS.of_below HC1.out).trans (FrS.of_below hW)⟩
      · cases top with
        | zero =>
          refine BW.markEnd hd ?_
          rw [hM.l0] at hlen
          have : pos = s.a0 := hps
          omega
        | succ k =>
          refine BW.evEnd hd ?_
          rw [hM.lk k (by omega)] at hlen
          have : pos = s.a k := hps
          omega
      · have := HC1.out.size
        have := HXB.out
        have := HBX.out
        omega
    clear hps hlen
    go_quiet (fail)
    go_wp2_with fail
    go_ret2
    exact HFIN.out _ (below_drewN (Below.refl _ _) _)
end Go.Proofs.YtkfhfegogmlchaaDoor

/- The buffer at a state of the loop: Len, Ready, Peek, Drop. -/
namespace Go.Proofs.YtkfhfegogmlchaaDoor
open Go.RowKit

theorem okT_of {nt n : Nat} {first : Int} {ls : List (List Ch)} (hP : PlanR nt n first ls) : okT nt (tabsOf ls) := by
  intro l hl t ht
  obtain ⟨lc, hlc, rfl⟩ := List.mem_map.1 hl
  obtain ⟨c, hc, rfl⟩ := List.mem_map.1 ht
  have := hP.hp lc hlc c hc
  omega
theorem BW.lenOk {nt n : Nat} {first : Int} {ls : List (List Ch)} {s : Bs} {l : List Tb} {nx : Int} {has : Bool} (h : BW nt n first ls s l nx has) (hP : PlanR nt n first ls) : lenL l ≤ n :=
  Nat.le_trans (len_rel hP.hp l s.done h.rel.at_) (h.inv.few (okT_of hP))
theorem BW.esOk {nt n : Nat} {first : Int} {ls : List (List Ch)} {s : Bs} {l : List Tb} {nx : Int} {has : Bool} (h : BW nt n first ls s l nx has) (hP : PlanR nt n first ls) : ∀ t ∈ l, t.es.length ≤ 4096 := by
  intro t ht
  obtain ⟨j, hj⟩ := List.getElem?_of_mem ht
  obtain ⟨lc, h1, h2⟩ := h.rel.at_ j t hj
  have hle : t.es.length ≤ lc.length := by
    rw [h2.len, ← cnt_total (hP.hp lc (List.mem_of_getElem? h1))]
    exact sumN_le nt (fun x _ => Nat.min_le_left _ _)
  have := hP.l200 lc (List.mem_of_getElem? h1)
  omega
theorem BW.drop {nt n : Nat} {first : Int} {ls : List (List Ch)} {s : Bs} {l : List Tb} {t : Tb} {nx : Int} {has : Bool} (h : BW nt n first ls s (t :: l) nx has) (hP : PlanR nt n first ls) (hd : s.done < ls.length) (hc : compB nt (tabsOf ls) s s.done) : BW nt n first ls s.drop l (IntKind.u64.wrap (nx + 1)) has := by
  have hf := hP.f
  have h40 := hP.len
  refine ⟨h.rel.drop_, h.inv.drop hc, h.nx0, fun e => ?_⟩
  rw [h.nx1 e]
  rw [IntWalk.u64_in _ (by omega)]
  show first + ((s.done : Nat) : Int) + 1 = first + ((s.done + 1 : Nat) : Int)
  omega
theorem LoopS.len {B nt n lo g h : Nat} {first : Int} {ls : List (List Ch)} {vs : List Value} {R : Nat → List ByteArray} {s : Bs} {w : World} (hL : LoopS B nt n lo g h first ls vs R s w) (hP : PlanR nt n first ls) :
    Calls Tryd.prog 10 #[.pointer (some ⟨B, 0, none⟩)] w fun r w' => ∃ m : Nat, m ≤ n ∧ (s.done = ls.length → m = 0) ∧ r = .returned (.int .i64 m) ∧ w = w' := by
  obtain ⟨l, nx, has, hB, hD, hW, hG⟩ := hL.bu
  have hlen := hW.len
  refine (len_any B nt n nx 0 has l w hB (by omega) (hW.esOk hP)).mono ?_
  rintro r w' ⟨rfl, rfl⟩
  refine ⟨lenL l, hW.lenOk hP, fun e => ?_, rfl, rfl⟩
  have h1 := hW.inv.hi
  rw [tabs_length] at h1
  have h2 : l.length = 0 := by omega
  cases l with
  | nil => rfl
  | cons t l => simp at h2
theorem LoopS.ready {B nt n lo g h : Nat} {first : Int} {ls : List (List Ch)} {vs : List Value} {R : Nat → List ByteArray} {s : Bs} {w : World} (hL : LoopS B nt n lo g h first ls vs R s w) (hP : PlanR nt n first ls) (hd : s.done < ls.length) :
    Calls Tryd.prog 11 #[.pointer (some ⟨B, 0, none⟩)] w fun r w' => ∃ c : Bool, (c = true ↔ compB nt (tabsOf ls) s s.done) ∧ r = .returned (.bool c) ∧ Below w.heap.size w w' := by
  obtain ⟨l, nx, has, hB, hD, hW, hG⟩ := hL.bu
  refine (ready_any B nt n nx 0 has l w hB).mono ?_
  rintro r w' ⟨rfl, hb⟩
  exact ⟨readyL l, ready_rel hW.rel hW.inv hP.hp (List.getElem?_eq_getElem hd), rfl, hb⟩
/-- What Peek gives. -/
def PeekS (first : Int) (s : Bs) (lc : List Ch) (w : World) (r : Ending) (w' : World) : Prop :=
  Below w.heap.size w w' ∧ ∃ v ps C S c1 c2 n1 n2, r = .returned (.tuple #[.agg #[.int .u8 2, .int .u64 (first + (s.done : Nat)), .slice C n1 c1, .slice S n2 c2], v, .int .i64 0]) ∧ PkR w.heap.size w' v ps ∧ ps.length = lc.length ∧ ∀ (k : Nat) p, ps[k]? = some p → ∃ c, lc[k]? = some c ∧ p.e = evAt (first + (s.done : Nat)) lc k c
theorem BuR.nodup {B nt : Nat} {bd nx : Int} {has : Bool} {fa : Int} {l : List Tb} {w : World} (h : BuR B nt bd nx has fa l w) : ∀ t ∈ l, (t.ev.map (·.1)).Nodup := fun t ht => (h.t t ht).m.2
theorem LoopS.peek {B nt n lo g h : Nat} {first : Int} {ls : List (List Ch)} {vs : List Value} {R : Nat → List ByteArray} {s : Bs} {w : World} {lc : List Ch} (hL : LoopS B nt n lo g h first ls vs R s w) (hP : PlanR nt n first ls) (hl : ls[s.done]? = some lc) (hc : compB nt (tabsOf ls) s s.done) :
    Calls Tryd.prog 12 #[.pointer (some ⟨B, 0, none⟩)] w (PeekS first s lc w) := by
  obtain ⟨l, nx, has, hB, hD, hW, hG⟩ := hL.bu
  obtain ⟨t, l', f, rfl, hw, hn, hs, hes⟩ := whole_rel hW.rel hW.inv hP.hp hP.n1 hP.n12 hl hc hB.nodup
  refine (peek_gen B nt n nx has t f l' w hB hw).mono ?_
  rintro r w' ⟨hb, v, ps, g1, c1, g2, c2, rfl, hpk, hpl, hat⟩
  refine ⟨hb, v, ps, some ⟨g1, 0, none⟩, some ⟨g2, 0, none⟩, c1, c2, _, _, by rw [hn], hpk, by omega, fun k p hp => ?_⟩
  obtain ⟨e1, u, hu⟩ := hat k p hp
  obtain ⟨m, c, e2, e3⟩ := hes _ hu
  have e3 : p.e = evAt (first + ((s.done : Nat) : Int)) lc m c := e3
  have hmk : m = k := by
    rw [e3] at e1
    have : ((m : Nat) : Int) = (k : Int) := e1
    omega
  subst hmk
  exact ⟨c, e2, e3⟩
/-- What Drop does. -/
def DropS (B nt n lo g h : Nat) (first : Int) (ls : List (List Ch)) (vs : List Value) (R : Nat → List ByteArray) (s : Bs) (w : World) (r : Ending) (w' : World) : Prop :=
  r = .returned (.int .i64 0) ∧ LoopS B nt n lo g h first ls vs R s.drop w' ∧ Below B w w' ∧ FrS (fun T => T ≠ 85) w w'
theorem LoopS.drop {B nt n lo g h : Nat} {first : Int} {ls : List (List Ch)} {vs : List Value} {R : Nat → List ByteArray} {s : Bs} {w : World} {lc : List Ch} (hL : LoopS B nt n lo g h first ls vs R s w) (hP : PlanR nt n first ls) (hl : ls[s.done]? = some lc) (hc : compB nt (tabsOf ls) s s.done) :
    Calls Tryd.prog 13 #[.pointer (some ⟨B, 0, none⟩)] w (DropS B nt n lo g h first ls vs R s w) := by
  obtain ⟨l, nx, has, hB, hD, hW, hG⟩ := hL.bu
  obtain ⟨t, l', f, rfl, hw, hn, hs, hes⟩ := whole_rel hW.rel hW.inv hP.hp hP.n1 hP.n12 hl hc hB.nodup
  have hd := (List.getElem?_eq_some_iff.1 hl).1
  refine (drop_genz B nt n nx has t f l' w hB hw (fun u hu f' hf' => ?_)).mono ?_
  · obtain ⟨j, hj⟩ := List.getElem?_of_mem hu
    obtain ⟨lc', h1, h2⟩ := hW.rel.at_ (j + 1) u (by simpa using hj)
    obtain ⟨_, _, _, b4⟩ := fin_sum h2 (hP.hp lc' (List.mem_of_getElem? h1)) hf'
    have := hP.most lc' (List.mem_of_getElem? h1)
    omega
  · rintro r w' ⟨rfl, hb, hB', hF⟩
    refine ⟨rfl, ⟨hL.top.belowB hb hL.lt.1 hL.lt.2.2.2, hL.lt, hL.at_.below hb hL.lt.2.1, ?_⟩, hb, hF⟩
    exact ⟨l', _, has, hB', hD.tail, hW.drop hP hd hc, fun u hu => hG u (by simp [hu])⟩
theorem RowR.frS {w w' : World} {A : Option Addr} {c : Nat} {l : List V} {S : TypeId → Prop} (h : RowR w A c l) (hF : FrS S w w') (hS : S 97) : RowR w' A c l := by
  obtain ⟨⟨b, h1⟩, h2⟩ := h
  exact ⟨⟨b, hF.own h1 hS⟩, h2⟩
theorem PkR.frS {lo : Nat} {w w' : World} {v : Value} {l : List Pk} {S : TypeId → Prop} (h : PkR lo w v l) (hF : FrS S w w') (h1 : S 59) (h2 : S 97) : PkR lo w' v l :=
  ⟨hF.own h.1 h1, fun p hp => ⟨(h.2 p hp).1.frS hF h2, (h.2 p hp).2.frS hF h2⟩⟩
end Go.Proofs.YtkfhfegogmlchaaDoor
