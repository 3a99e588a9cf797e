/- Texts joined by a tool: contracts and walks of this claim. -/
import Derived.Test.YtfekohonidggjaaGreatDoorB22
namespace Go.Proofs.YtfekohonidggjaaGreatDoor
open Go.RowKit
def RdS (w : World) (B M : Nat) : Prop := ∃ n f, MS w M n f ∧ B ≤ M ∧ ∀ wd, match opAt wd with
 | some k => ∃ a, f wd = some (rdO a) ∧ B ≤ a ∧ Blk w a #[.int .i64 (k - 1)] 3
 | none => match formAt wd with
  | some (d, c, fl) => ∃ a b, f wd = some (rdF a b) ∧ B ≤ a ∧ B ≤ b ∧ Blk w a #[.int .u8 d] 5 ∧ Blk w b #[.string (bsO wd), .int .i64 c, .bool fl] 129
  | none => f wd = none
theorem look_form {k : Int} {v : Value} (h0 : 0 ≤ k) (h : lookI formsL.reverse k = some v) : ∃ wd c fl, formOf k = some (wd, c, fl) ∧ v = .agg #[.string (bsO wd), .int .i64 c, .bool fl] := by
 have hh := forms_look k h0
 rw [h] at hh
 simp only [Value.tuple.injEq, Array.mk.injEq, List.cons.injEq, Value.bool.injEq, and_true] at hh
 obtain ⟨h1, h2⟩ := hh
 cases hf : formOf k with
 | none => rw [hf] at h2; cases h2
 | some x =>
  obtain ⟨wd, c, fl⟩ := x
  rw [hf] at h1
  exact ⟨wd, c, fl, rfl, h1⟩
theorem form_look {k : Int} {wd : List UInt8} {c : Nat} {fl : Bool} (h0 : 0 ≤ k) (h : formOf k = some (wd, c, fl)) : lookI formsL.reverse k = some (.agg #[.string (bsO wd), .int .i64 c, .bool fl]) := by
 have hh := forms_look k h0
 rw [h] at hh
 cases hl : lookI formsL.reverse k with
 | none => rw [hl] at hh; simp at hh
 | some v =>
  rw [hl] at hh
  simp only [Value.tuple.injEq, Array.mk.injEq, List.cons.injEq, and_true] at hh
  rw [hh.1]
  rfl
theorem same_u8 (a b : Int) : (Lit.int .u8 a).sameKey (Lit.int .u8 b) = decide (a = b) := by
 simp [Lit.sameKey]
theorem left_le {w : World} {P : Program} {k : TypeId} {R : Value → Option (DataW Value × List MemPlace)} {b r n : Nat} {D : DataW Value} {left : Lit → Bool} {cnt : Nat} (h : w.ranges P k R b r n D left cnt) : cnt ≤ n := by
 obtain ⟨es, clock, since, seen, c0, hb, F, hs, hD, hr, h1, hc, _⟩ := h
 have : (leftOf es seen).size ≤ es.size := by unfold leftOf; exact Array.size_filter_le
 omega
theorem form_short {d : Int} {wd : List UInt8} {c : Nat} {f : Bool} (h : formOf d = some (wd, c, f)) : wd.length ≤ 1000 := by
 have key : ∀ y ∈ formL, y.2.1.length ≤ 10 := by decide
 unfold formOf at h
 cases hf : formL.find? (·.1 == d) with
 | none => rw [hf] at h; cases h
 | some x =>
  rw [hf] at h
  simp only [Option.map_some, Option.some.injEq] at h
  have := key x (List.mem_of_find?_eq_some hf)
  rw [h] at this
  have h2 : wd.length ≤ 10 := this
  omega
theorem ops4 {w : World} {b : Nat} {t : TypeId} (h : Blk w b #[.string ⟨#[]⟩, .string (bsO tOp1), .string (bsO tOp2), .string (bsO tOp3)] t) :
 b < w.heap.size ∧ w.cell? ⟨b, 0, none⟩ = some (.string ⟨#[]⟩) ∧ w.cell? ⟨b, 1, none⟩ = some (.string (bsO tOp1)) ∧ w.cell? ⟨b, 2, none⟩ = some (.string (bsO tOp2)) ∧ w.cell? ⟨b, 3, none⟩ = some (.string (bsO tOp3)) := by
 have e0 := h.cell 0
 have e1 := h.cell 1
 have e2 := h.cell 2
 have e3 := h.cell 3
 simp only [List.getElem?_toArray, List.getElem?_cons_zero, List.getElem?_cons_succ] at e0 e1 e2 e3
 exact ⟨h.lt, e0, e1, e2, e3⟩
theorem ranges_ne {w : World} {P : Program} {k : TypeId} {R : Value → Option (DataW Value × List MemPlace)} {b r n : Nat} {D : DataW Value} {left : Lit → Bool} {cnt : Nat} (h : w.ranges P k R b r n D left cnt) {g : Nat} {cs : Array Value} {t : TypeId} (hg : Blk w g cs t) : r ≠ g ∧ b ≠ g := by
 obtain ⟨es, clock, since, seen, c0, hb, F, hs, hD, hr, _⟩ := h
 unfold Blk at hg
 constructor
 · intro e
   rw [e, hg] at hr
   cases hr
 · intro e
   rw [e, hg] at hb
   cases hb
theorem MS.ne {w : World} {M n : Nat} {f : List UInt8 → Option Value} (h : MS w M n f) {g : Nat} {cs : Array Value} {t : TypeId} (hg : Blk w g cs t) : M ≠ g := by
 obtain ⟨D, ⟨es, clock, hh, _⟩, _⟩ := h
 intro e
 unfold Blk at hg
 rw [e, hg] at hh
 cases hh
set_option maxRecDepth 100000 in
set_option maxHeartbeats 6400000 in
theorem readers_any (w : World) :
 Calls Tryz.prog 94 #[] w fun r w' => ∃ M, r = .returned (.map (some M)) ∧ RdS w' w.heap.size M ∧ Below w.heap.size w w' := by
 have hmm := @run_makeMap Tryz.prog
 have HFO := hd_ (forms_any (w.alloc (.map #[] 0)))
 have HOP := hd_ (fun W : World => ops_any W)
 have hM0 := MS.new w
 have hb0 : Below w.heap.size w (w.alloc (.map #[] 0)) := (by repeat (first | exact Below.refl _ _ | assumption | refine Below.drew ?_ | refine below_drewN ?_ _ | refine Below.alloc ?_ (by simp <;> omega) _))
 have hsz0 : (w.alloc (.map #[] 0)).heap.size = w.heap.size + 1 := by simp
 have HM0 := hd_ hM0
 have HB0 := hd_ hb0
 have HS0 := hd_ hsz0
 clear hM0 hb0 hsz0
 go_enter Tryz.func94, Tryz.ntmps94
 go_wp2_with fail
 generalize w.alloc (.map #[] 0) = w1 at HFO HM0 HB0 HS0 ⊢
 refine HFO.out.mono ?_
 rintro r w2 ⟨rfl, hmf, hb2⟩
 obtain ⟨D0, hown0, hmap0, hat0⟩ := hmf
 have HAT := hd_ hat0
 have HB2 := hd_ (bt HB0.out hb2)
 have HM2 := hd_ (HM0.out.ext (by rw [show w1.heap.size = w1.heap.size from rfl] at hb2; exact hb2))
 clear hat0 hb2 hmap0 HM0 HFO
 go_wp2_with (first | (at_range; refine wpList_range_own _ rfl _ 131 rfl 5 129 (Maps.int_keyed Tryz.underlying5) Tryz.underlying131 RW w1.heap.size 15 D0 rfl hown0 ?_; intro w3 hrg3 hg3 hs3) | fail)
 have HB3 := hd_ (HB2.out.grown hg3 HB2.out.size (fun g hg => by cases hg))
 have HM3 := hd_ (HM2.out.kept hg3 (by simp))
 have HR3 := hd_ hrg3
 have HS2 : Hid (w.heap.size < w1.heap.size ∧ w1.heap.size < w2.heap.size) := ⟨by rw [HS0.out]; omega, by have := World.ownsMap.lt hown0; exact this⟩
 clear hown0 hrg3 hg3 hs3 HM2 HB2
 go_frame
 go_loopw [2] (fun _ wr => ∃ left cnt n f, wr.ranges Tryz.prog 5 RW w1.heap.size w2.heap.size 15 D0 left cnt ∧ MS wr w.heap.size n f ∧ n + cnt ≤ 15 ∧ RdM wr w.heap.size (fun d => left (.int .u8 d) = false) f ∧ Below w.heap.size w wr) (fun _ wr => wr.rangeLeft w1.heap.size w2.heap.size)
 case atStart =>
  refine ⟨_, _, 0, _, HR3.out, HM3.out, by have := left_le HR3.out; omega, RdM.start _ _ _ (fun d wd c fl hf hp => ?_), HB3.out⟩
  have hd := (formAt_of hf).2.2.1
  have hh : Maps.has D0 (.int .u8 d) = true := Maps.has_true_of_atKey (fun z => by rw [HAT.out, form_look hd.1 hf]; rfl)
  rw [hh] at hp
  cases hp
 case round =>
  obtain ⟨left, cnt, n, f, hrg, hms, hn, hrd, hbw⟩ := hrel
  have HRG := hd_ hrg
  have HMS := hd_ hms
  have HRD := hd_ hrd
  have HBW := hd_ hbw
  clear HR3 HM3 HB3 hms hrd hbw
  go_wp2_with (first | (at_next; refine wpList_next_ranges _ rfl _ rfl 5 (Maps.int_keyed Tryz.underlying5) RW (Value.int .u8) id (fun key kl h => by obtain ⟨x, rfl, _⟩ := Maps.keyOf_int_inv Tryz.underlying5 h; exact ⟨x, rfl⟩) (fun v y _ => ⟨v, rfl⟩) w1.heap.size w2.heap.size 15 D0 _ _ rfl hrg ?_ ?_) | fail)
  · intro hc0 hl0
    have hall : ∀ d wd c fl, formOf d = some (wd, c, fl) → ∃ a b, f wd = some (rdF a b) ∧ w.heap.size ≤ a ∧ w.heap.size ≤ b ∧ Blk wr a #[.int .u8 d] 5 ∧ Blk wr b #[.string (bsO wd), .int .i64 c, .bool fl] 129 := fun d wd c fl hf => HRD.out.yes d wd c fl hf (hl0 _)
    have hnone : ∀ wd, (∀ d c fl, formOf d ≠ some (wd, c, fl)) → f wd = none := fun wd h => HRD.out.no wd fun d c fl hf _ => h d c fl hf
    have HALL := hd_ hall
    have HNONE := hd_ hnone
    clear hrg hall hnone hl0 hc0 HRG HAT HRD HS2
    go_wp2_with fail
    refine (HOP.out _).mono ?_
    rintro r w5 ⟨rfl, hbk, hb5⟩
    have hms5 := HMS.out.ext (by exact hb5)
    have hk5 : ∀ b cs t, Blk wr b cs t → Blk w5 b cs t := fun b cs t h => h.ext hb5
    have hbw5 := bt HBW.out hb5
    -- the three ops
    have m6 := hms5.kept (World.grownBy_alloc w5 (.cells #[.int .i64 0] 3) none) (by simp)
    obtain ⟨w6, u6, hms6, g6⟩ := MS.put m6 (by omega) tOp1 (by decide) (rdO w5.heap.size)
    have k6 : ∀ b cs t, Blk w5 b cs t → Blk w6 b cs t := fun b cs t h => blk_grown (h.old (.cells #[.int .i64 0] 3)) g6 (fun e => by injection e with e; exact m6.ne (h.old (.cells #[.int .i64 0] 3)) e)
    have a6 := blk_grown (Blk.new w5 #[.int .i64 0] 3) g6 (fun e => by injection e with e; exact m6.ne (Blk.new w5 #[.int .i64 0] 3) e)
    have hbw6 := (hbw5.alloc hbw5.size (.cells #[.int .i64 0] 3)).grown g6 (by have := hbw5.size; simp; omega) (fun g hg => by injection hg with hg; omega)
    have m7 := hms6.kept (World.grownBy_alloc w6 (.cells #[.int .i64 1] 3) none) (by simp)
    obtain ⟨w7, u7, hms7, g7⟩ := MS.put m7 (by omega) tOp2 (by decide) (rdO w6.heap.size)
    have k7 : ∀ b cs t, Blk w6 b cs t → Blk w7 b cs t := fun b cs t h => blk_grown (h.old (.cells #[.int .i64 1] 3)) g7 (fun e => by injection e with e; exact m7.ne (h.old (.cells #[.int .i64 1] 3)) e)
    have a7 := blk_grown (Blk.new w6 #[.int .i64 1] 3) g7 (fun e => by injection e with e; exact m7.ne (Blk.new w6 #[.int .i64 1] 3) e)
    have hbw7 := (hbw6.alloc hbw6.size (.cells #[.int .i64 1] 3)).grown g7 (by have := hbw6.size; simp; omega) (fun g hg => by injection hg with hg; omega)
    have m8 := hms7.kept (World.grownBy_alloc w7 (.cells #[.int .i64 2] 3) none) (by simp)
    obtain ⟨w8, u8, hms8, g8⟩ := MS.put m8 (by omega) tOp3 (by decide) (rdO w7.heap.size)
    have k8 : ∀ b cs t, Blk w7 b cs t → Blk w8 b cs t := fun b cs t h => blk_grown (h.old (.cells #[.int .i64 2] 3)) g8 (fun e => by injection e with e; exact m8.ne (h.old (.cells #[.int .i64 2] 3)) e)
    have a8 := blk_grown (Blk.new w7 #[.int .i64 2] 3) g8 (fun e => by injection e with e; exact m8.ne (Blk.new w7 #[.int .i64 2] 3) e)
    have hbw8 := (hbw7.alloc hbw7.size (.cells #[.int .i64 2] 3)).grown g8 (by have := hbw7.size; simp; omega) (fun g hg => by injection hg with hg; omega)
    have o5 := hbk
    have o6 := k6 _ _ _ hbk
    have o7 := k7 _ _ _ o6
    have HFIN : Hid (RdS w8 w.heap.size w.heap.size) := by
     refine ⟨_, _, hms8, Nat.le_refl _, fun wd => ?_⟩
     cases ho : opAt wd with
     | some k =>
      obtain ⟨hk, rfl⟩ := opAt_some.1 ho
      have : k = 1 ∨ k = 2 ∨ k = 3 := by omega
      rcases this with rfl | rfl | rfl
      · exact ⟨w5.heap.size, rfl, hbw5.size, k8 _ _ _ (k7 _ _ _ a6)⟩
      · exact ⟨w6.heap.size, rfl, hbw6.size, k8 _ _ _ a7⟩
      · exact ⟨w7.heap.size, rfl, hbw7.size, a8⟩
     | none =>
      have hn : ∀ v1 v2 v3, putF (putF (putF f tOp1 v1) tOp2 v2) tOp3 v3 wd = f wd := by
       intro v1 v2 v3
       unfold opAt at ho
       split at ho
       · cases ho
       · split at ho
         · cases ho
         · split at ho
           · cases ho
           · unfold putF
             simp only [*, if_false]
      simp only
      rw [hn]
      cases hfa : formAt wd with
      | some x =>
       obtain ⟨d, c, fl⟩ := x
       obtain ⟨a, b, h1, h2, h3, h4, h5⟩ := HALL.out d wd c fl (formOf_at hfa)
       exact ⟨a, b, h1, h2, h3, k8 _ _ _ (k7 _ _ _ (k6 _ _ _ (hk5 _ _ _ h4))), k8 _ _ _ (k7 _ _ _ (k6 _ _ _ (hk5 _ _ _ h5)))⟩
      | none =>
       refine HNONE.out wd fun d c fl hf => ?_
       rw [(formAt_of hf).1] at hfa
       cases hfa
    have HBF := hd_ hbw8
    unfold rdO at u6 u7 u8
    obtain ⟨p5, p50, p51, p52, p53⟩ := ops4 o5
    obtain ⟨p6, p60, p61, p62, p63⟩ := ops4 o6
    obtain ⟨p7, p70, p71, p72, p73⟩ := ops4 o7
    clear hbk hb5 hms5 hk5 hbw5 m6 hms6 g6 k6 a6 hbw6 m7 hms7 g7 k7 a7 hbw7 m8 hms8 g8 k8 a8 hbw8 o5 o6 o7
    go_wp2_with fail
    refine wp_loop_rounds 4 ?_
    rw [rounds_succ]
    go_wp2_with fail
    rw [rounds_succ]
    go_wp2_with fail
    rw [rounds_succ]
    go_wp2_with fail
    rw [rounds_succ]
    go_wp2_with fail
    go_ret
    exact ⟨_, rfl, HFIN.out, HBF.out⟩
  · intro x c kl ya yb w4 cnt1 hkey hlk hRv hat hrg1 hlt hg1 hs1 hen
    obtain ⟨x', ex, rfl, hwf⟩ := Maps.keyOf_int_inv Tryz.underlying5 hkey
    cases ex
    have hx : 0 ≤ x ∧ x ≤ 255 := by
     simp only [Lit.wf, IntKind.min, IntKind.max, IntKind.signed, IntKind.bits, Bool.and_eq_true, decide_eq_true_eq, Bool.false_eq_true, if_false] at hwf
     omega
    have hy : ya = .held c := by
     unfold RW at hRv
     simp only [Option.some.injEq, Prod.mk.injEq] at hRv
     exact hRv.1.symm
    have hl : lookI formsL.reverse x = some c := by
     have e0 := hat (.lit (.bool true))
     have e1 := HAT.out x (.lit (.bool true))
     rw [e0, hy] at e1
     cases hq : lookI formsL.reverse x with
     | none => rw [hq] at e1; cases e1
     | some v =>
      rw [hq] at e1
      simp only [Option.map_some, Option.getD_some, DataW.held.injEq] at e1
      rw [e1]
    obtain ⟨wd, fc, fl, hfo, rfl⟩ := look_form hx.1 hl
    have hne : w2.heap.size ≠ w.heap.size ∧ w1.heap.size ≠ w.heap.size := by have := HS2.out; omega
    have hms4 := HMS.out.kept hg1 (by intro e; injection e with e; exact hne.1 e)
    have hms6 := (hms4.kept (World.grownBy_alloc _ (.cells #[.int .u8 x] 5) none) (by simp)).kept (World.grownBy_alloc _ (.cells #[.string (bsO wd), .int .i64 fc, .bool fl] 129) none) (by simp)
    obtain ⟨w7, hup, hms7, hg7⟩ := MS.put hms6 (by omega) wd (form_short hfo) (rdF wr.heap.size (wr.heap.size + 1))
    unfold rdF at hup
    have hk1 : ∀ b cs t, Blk wr b cs t → Blk w7 b cs t := fun b cs t hb => by
     have h4 := blk_grown hb hg1 (fun e => by injection e with e; exact (ranges_ne HRG.out hb).1 e)
     have h6 := (h4.old (.cells #[.int .u8 x] 5)).old (.cells #[.string (bsO wd), .int .i64 fc, .bool fl] 129)
     exact blk_grown h6 hg7 (fun e => by injection e with e; exact (hms6.ne h6) e)
    have hA : Blk ((w4.alloc (.cells #[.int .u8 x] 5)).alloc (.cells #[.string (bsO wd), .int .i64 fc, .bool fl] 129)) wr.heap.size #[.int .u8 x] 5 := by
     rw [← hs1]; exact (Blk.new w4 _ _).old _
    have hB : Blk ((w4.alloc (.cells #[.int .u8 x] 5)).alloc (.cells #[.string (bsO wd), .int .i64 fc, .bool fl] 129)) (wr.heap.size + 1) #[.string (bsO wd), .int .i64 fc, .bool fl] 129 := by
     rw [← hs1]
     have := Blk.new (w4.alloc (.cells #[.int .u8 x] 5)) #[.string (bsO wd), .int .i64 fc, .bool fl] 129
     simpa using this
    have hA7 := blk_grown hA hg7 (fun e => by injection e with e; exact (hms6.ne hA) e)
    have hB7 := blk_grown hB hg7 (fun e => by injection e with e; exact (hms6.ne hB) e)
    have hrd7 := (HRD.out.ext hk1).step (P' := fun d => ((fun z : Lit => left z && !z.sameKey (.int .u8 x)) (.int .u8 d)) = false) hfo (fun e => by
     simp only [same_u8, Bool.and_eq_false_iff, Bool.not_eq_false', decide_eq_true_eq]) HBW.out.size (by have := HBW.out.size; omega) hA7 hB7
    have hrg7 := (((hrg1.alloc (.cells #[.int .u8 x] 5)).alloc (.cells #[.string (bsO wd), .int .i64 fc, .bool fl] 129))).kept hg7 (by intro e; injection e with e; exact hne.2 e) (by intro e; injection e with e; exact hne.1 e)
    have hbw4 := HBW.out.grown hg1 HBW.out.size (fun g hg => by injection hg with hg; have := HS2.out; omega)
    have hbw7 := ((hbw4.alloc hbw4.size (.cells #[.int .u8 x] 5)).alloc (by have := hbw4.size; simp; omega) (.cells #[.string (bsO wd), .int .i64 fc, .bool fl] 129)).grown hg7 (by have := hbw4.size; simp; omega) (fun g hg => by injection hg with hg; omega)
    have HF := hd_ (And.intro hrg7 (And.intro hms7 (And.intro hrd7 hbw7)))
    have HLT := hd_ hlt
    have HNN : Hid (n + 1 + cnt1 ≤ 15) := by show _ ≤ _; omega
    clear hfo hms4 hms6 hms7 hg7 hk1 hA hB hA7 hB7 hrd7 hrg7 hbw4 hbw7 hrg1 hlt hg1 hne
    go_wp2_with fail
    go_roundw
    case rel =>
     obtain ⟨h1, h2, h3, h4⟩ := HF.out
     exact ⟨_, cnt1, n + 1, _, h1, h2, HNN.out, h3, h4⟩
    case measure =>
     rw [HF.out.1.left_eq, HRG.out.left_eq]
     exact HLT.out
def PairBodyG (P : Program) (ops : Array Oper) (Q : Exit → Act → World → Prop) (mask : List Bool) (L : List Value) (df : List Deferred) (w : World) (g : Nat) (FP : Array Value → World → Prop) (t : TypeId) (d : Nat) (o : Oper) (x : Nat → Value) : Prop :=
 ∀ K' : Act → World → Prop, Shut (∀ v F, FP F (putBlk w g F t) → K' ⟨(overlay (upd x d v) 0 mask L).toArray, df⟩ (putBlk w g F t)) →
  if Region.wanted o (yielded ops (overlay x 0 mask L).toArray) = true then Oper.wp P o ⟨(overlay x 0 mask L).toArray, df⟩ w K' Q else K' (Act.put ⟨(overlay x 0 mask L).toArray, df⟩ o.dst undef) w
def StepsG (P : Program) (ops : Array Oper) (Q : Exit → Act → World → Prop) (mask : List Bool) (L : List Value) (df : List Deferred) (ps : List Known) (dst : Nat → Nat) (a s : Nat) (Z : Array Value) (FP : Array Value → World → Prop) (t : TypeId) (w0 : World) : Nat → List Oper → Prop
 | _, [] => True
 | i, o :: os => (if i = s then ∀ x w g, Below w0.heap.size w0 w → w0.heap.size ≤ g → Blk w g Z t → StepGoal ps dst w (fun x => PairBodyG P ops Q mask L df w g FP t (dst s) o (upd x (dst a) (.pointer (some ⟨g, 0, none⟩)))) ((depsOf o).filter fun j => !decide (j = a)) x
  else ∀ x w, Below w0.heap.size w0 w → StepGoal ps dst w (StepBody P ops Q mask L df (ps.getD i kAny) w (dst i) o) ((depsOf o).filter fun j => !decide (j = a) && !decide (j = s)) x) ∧ StepsG P ops Q mask L df ps dst a s Z FP t w0 (i + 1) os
theorem StepsG.at_ {P : Program} {ops : Array Oper} {Q : Exit → Act → World → Prop} {mask : List Bool} {L : List Value} {df : List Deferred} {ps : List Known} {dst : Nat → Nat} {a s : Nat} {Z : Array Value} {FP : Array Value → World → Prop} {t : TypeId} {w0 : World} :
 ∀ (os : List Oper) (n i : Nat) (o : Oper), StepsG P ops Q mask L df ps dst a s Z FP t w0 n os → os[i]? = some o → (if n + i = s then ∀ x w g, Below w0.heap.size w0 w → w0.heap.size ≤ g → Blk w g Z t → StepGoal ps dst w (fun x => PairBodyG P ops Q mask L df w g FP t (dst s) o (upd x (dst a) (.pointer (some ⟨g, 0, none⟩)))) ((depsOf o).filter fun j => !decide (j = a)) x
  else ∀ x w, Below w0.heap.size w0 w → StepGoal ps dst w (StepBody P ops Q mask L df (ps.getD (n + i) kAny) w (dst (n + i)) o) ((depsOf o).filter fun j => !decide (j = a) && !decide (j = s)) x)
 | [], _, _, _, _, h => by simp at h
 | o' :: os, n, 0, o, hs, h => by
  simp only [List.getElem?_cons_zero, Option.some.injEq] at h
  subst h
  exact hs.1
 | o' :: os, n, i + 1, o, hs, h => by
  have := StepsG.at_ os (n + 1) i o hs.2 (by simpa using h)
  rw [show n + 1 + i = n + (i + 1) by omega] at this
  exact this
theorem region_pairG {P : Program} {id : Nat} {ops : Array Oper} {Q : Exit → Act → World → Prop} {L : List Value} {df : List Deferred} {w0 : World} (a s : Nat) (Z : Array Value) (FP : Array Value → World → Prop) (t : TypeId) (mask : List Bool) (dsts : List Nat) (ps : List Known) (fin : List Nat)
 (hpa : ps.getD a kAny = kPair w0.heap.size Z t) (hFP : ∀ F w w', FP F w → Below w.heap.size w w' → FP F w') (hkp : ∀ F i, i ≠ a → i ≠ s → KP w0.heap.size Z F t (ps.getD i kAny))
 (hm : P.follows .mixedOrders = true) (ha : a < ops.size) (hs0 : s < ops.size) (hb : backB ops = true) (hsa : (match ops[s]? with | some o => (depsOf o).contains a | none => false) = true) (hdl : dsts = (List.range ops.size).map (dstN ops)) (hd : distB ops = true) (hfin : fin.all (fun j => decide (j < ops.size) && !decide (j = a) && !decide (j = s)) = true)
 (hs : StepsG P ops Q mask L df ps (fun i => dsts.getD i 0) a s Z FP t w0 0 ops.toList)
 (hdone : ∀ x w g F, Below w0.heap.size w0 w → w0.heap.size ≤ g → Blk w g F t → FP F w → StepGoal ps (fun i => dsts.getD i 0) w (fun x => Q .normal ⟨(overlay (upd x (dsts.getD a 0) (.pointer (some ⟨g, 0, none⟩))) 0 mask L).toArray, df⟩ w) fin x) :
 (Code.region id ops true).wp P Q ⟨L.toArray, df⟩ w0 := by
 have hdg : ∀ i, i < ops.size → dsts.getD i 0 = dstN ops i := by
  intro i hi
  rw [hdl, List.getD_eq_getElem?_getD, List.getElem?_map, List.getElem?_range hi]
  rfl
 have hne : ∀ i j, i < ops.size → j < ops.size → i ≠ j → dsts.getD i 0 ≠ dsts.getD j 0 := by
  intro i j hi hj hij
  rw [hdg i hi, hdg j hj]
  have h1 := List.all_eq_true.1 (List.all_eq_true.1 hd i (List.mem_range.2 hi)) j (List.mem_range.2 hj)
  simpa [hij] using h1
 have hlt : ∀ i o, ops[i]? = some o → ∀ j ∈ depsOf o, j < i := by
  intro i o ho j hj
  obtain ⟨e, he, hbd, rfl⟩ := mem_deps (i := j) (o := o) (by simpa using hj)
  exact back_lt hb ho he hbd
 have has : a ≠ s := by
  intro e
  subst e
  have ho : ops[a]? = some ops[a] := Array.getElem?_eq_getElem ha
  rw [ho] at hsa
  have := hlt a _ ho a (by simpa using hsa)
  omega
 refine wp_region_any hm (wpAny_inv (fun listed ac w => ∃ x : Nat → Value, ac = ⟨(overlay x 0 mask L).toArray, df⟩ ∧ Below w0.heap.size w0 w ∧ (∀ i, i < ops.size → listed.getD i false = true → i ≠ a → i ≠ s → (ps.getD i kAny).holds (x (dsts.getD i 0)) w) ∧ (listed.getD s false = true → listed.getD a false = true) ∧ (listed.getD a false = true → ∃ g, x (dsts.getD a 0) = .pointer (some ⟨g, 0, none⟩) ∧ w0.heap.size ≤ g ∧ (listed.getD s false = true → ∃ F, Blk w g F t ∧ FP F w) ∧ (listed.getD s false = false → Blk w g Z t))) ?_ ?_ _ _ _ _ (by simp) (by simp) ?_)
 · rintro listed ac w i hsz ⟨x, rfl, hbw, hk, hsl, hp⟩ hi
   obtain ⟨hun, o, ho, hall⟩ := mem_ready.1 hi
   have his : i < ops.size := (Array.getElem?_eq_some_iff.1 ho).1
   have hun' : listed.getD i false = false := by
    rw [Array.getD_eq_getD_getElem?] at hun ⊢
    rw [Array.getElem?_eq_getElem (by omega)] at hun ⊢
    exact hun
   have hset : ∀ j, j ≠ i → (listed.setIfInBounds i true).getD j false = listed.getD j false := by
    intro j hj
    rw [Array.getD_eq_getD_getElem?, Array.getD_eq_getD_getElem?, Array.getElem?_setIfInBounds_ne (Ne.symm hj)]
   have hseti : (listed.setIfInBounds i true).getD i false = true := by
    rw [Array.getD_eq_getD_getElem?, Array.getElem?_setIfInBounds_self_of_lt (by omega)]
    rfl
   have hdl' : ∀ j ∈ depsOf o, listed.getD j false = true ∧ j < ops.size := by
    intro j hj
    obtain ⟨e, he, rfl⟩ := List.mem_map.1 hj
    obtain ⟨he1, he2⟩ := List.mem_filter.1 he
    have hl := hall e (by simpa using he1) he2
    refine ⟨hl, ?_⟩
    rcases Nat.lt_or_ge e.on listed.size with h' | h'
    · omega
    · rw [Array.getD_eq_getD_getElem?, Array.getElem?_eq_none h'] at hl; cases hl
   have hst := StepsG.at_ ops.toList 0 i o hs (by rw [Array.getElem?_toList]; exact ho)
   rw [Nat.zero_add] at hst
   by_cases hxs : i = s
   · subst hxs
     rw [if_pos rfl] at hst
     have hla : listed.getD a false = true := by
      rw [ho] at hsa
      exact (hdl' a (by simpa using hsa)).1
     obtain ⟨g, hg1, hg2, hg3, hg4⟩ := hp hla
     have hZ := hg4 hun'
     have hbd := StepGoal.use ((depsOf o).filter fun j => !decide (j = a)) x (fun j hj => by
      obtain ⟨hj1, hj2⟩ := List.mem_filter.1 hj
      have hja : j ≠ a := by simpa using hj2
      have hji : j ≠ i := by have := hlt i o ho j hj1; omega
      exact hk j (hdl' j hj1).2 (hdl' j hj1).1 hja hji) (hst x w g hbw hg2 hZ)
     have e1 : upd x (dsts.getD a 0) (.pointer (some ⟨g, 0, none⟩)) = x := by rw [← hg1]; exact upd_self x _
     simp only [e1] at hbd
     refine wpOp_step ho (fun K' hK => hbd K' (fun v F hF => hK _ _ ⟨upd x (dsts.getD i 0) v, rfl, putBlk_below _ _ hbw hg2, fun j hj hlj hja hji => ?_, fun _ => by rw [hset a has]; exact hla, fun _ => ⟨g, by rw [upd_ne (hne a i ha his has)]; exact hg1, hg2, fun _ => ?_, fun h => ?_⟩⟩))
     · rw [hset j hji] at hlj
       rw [upd_ne (hne j i hj his hji)]
       exact hkp F j hja hji _ w g hg2 hZ (hk j hj hlj hja hji)
     · exact ⟨F, putBlk_blk _ _ hZ.lt, hF⟩
     · rw [hseti] at h; cases h
   · rw [if_neg hxs] at hst
     have hbd := StepGoal.use ((depsOf o).filter fun j => !decide (j = a) && !decide (j = s)) x (fun j hj => by
      obtain ⟨hj1, hj2⟩ := List.mem_filter.1 hj
      simp only [Bool.and_eq_true, Bool.not_eq_true', decide_eq_false_iff_not] at hj2
      exact hk j (hdl' j hj1).2 (hdl' j hj1).1 hj2.1 hj2.2) (hst x w hbw)
     refine wpOp_step ho (fun K' hK => hbd K' (fun v w' hb' hv => hK _ _ ⟨upd x (dsts.getD i 0) v, rfl, hbw.trans (hb'.mono hbw.size), fun j hj hlj hja hjs => ?_, fun h => ?_, fun h => ?_⟩))
     · by_cases hji : j = i
       · subst hji; rw [upd_eq]; exact hv
       · rw [hset j hji] at hlj
         rw [upd_ne (hne j i hj his hji)]
         exact Known.ext (hk j hj hlj hja hjs) hb'
     · rw [hset s (Ne.symm hxs)] at h
       by_cases hia : a = i
       · subst hia; exact hseti
       · rw [hset a hia]; exact hsl h
     · rw [hset s (Ne.symm hxs)]
       by_cases hia : a = i
       · subst hia
         rw [hpa] at hv
         obtain ⟨g, hg1, hg2, hg3⟩ := hv
         exact ⟨g, by rw [upd_eq]; exact hg1, hg2, fun h' => (by rw [hsl h'] at hun'; cases hun'), fun _ => hg3⟩
       · rw [hset a hia] at h
         obtain ⟨g, hg1, hg2, hg3, hg4⟩ := hp h
         exact ⟨g, by rw [upd_ne (hne a i ha his hia)]; exact hg1, hg2, fun h' => (by obtain ⟨F, h1, h2⟩ := hg3 h'; exact ⟨F, h1.ext hb', hFP F _ _ h2 hb'⟩), fun h' => (hg4 h').ext hb'⟩
 · rintro listed ac w hsz ⟨x, rfl, hbw, hk, hsl, hp⟩ hr
   have hal := all_listed hb hsz hr
   obtain ⟨g, hg1, hg2, hg3, _⟩ := hp (hal (a + 1) a (by omega) ha)
   obtain ⟨F, hF1, hF2⟩ := hg3 (hal (s + 1) s (by omega) hs0)
   have hx := StepGoal.use fin x (fun j hj => by
    have h1 := List.all_eq_true.1 hfin j hj
    simp only [Bool.and_eq_true, decide_eq_true_eq, Bool.not_eq_true', decide_eq_false_iff_not] at h1
    exact hk j h1.1.1 (hal (j + 1) j (by omega) h1.1.1) h1.1.2 h1.2) (hdone x w g F hbw hg2 hF1 hF2)
   have e1 : upd x (dsts.getD a 0) (.pointer (some ⟨g, 0, none⟩)) = x := by rw [← hg1]; exact upd_self x _
   simp only [e1] at hx
   exact hx
 · refine ⟨fun j => L.getD j undef, ?_, (Below.refl _ _).drew, fun i hi h => ?_, fun h => ?_, fun h => ?_⟩
   · have := overlay_self L [] mask
     rw [List.nil_append, List.length_nil] at this
     rw [this]
   · rw [Array.getD_eq_getD_getElem?] at h
     simp [hi] at h
   · rw [Array.getD_eq_getD_getElem?] at h
     simp [hs0] at h
   · rw [Array.getD_eq_getD_getElem?] at h
     simp [ha] at h
end Go.Proofs.YtfekohonidggjaaGreatDoor
