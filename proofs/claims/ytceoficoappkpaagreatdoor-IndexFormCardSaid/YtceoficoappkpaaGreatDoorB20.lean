/- Texts joined by a tool: contracts and walks of this claim. -/
import Derived.Test.YtceoficoappkpaaGreatDoorB19
import Derived.Sort.LoopGhostIn
import Derived.Sort.QuietIn
namespace Go.Proofs.YtceoficoappkpaaGreatDoor
open Go.RowKit Go.Shelf
attribute [local go_sem] Oper.semAt_some

def PrRow (w : World) (A : Option Addr) (l : List Pr) : Prop := l ≠ [] → ∃ b off, A = some ⟨b, off, none⟩ ∧ b < w.heap.size ∧ ∀ k p, l[k]? = some p → w.cell? ⟨b, off + k * 3, none⟩ = some (.string p.k) ∧ w.cell? ⟨b, off + k * 3 + 1, none⟩ = some (.string p.v) ∧ w.cell? ⟨b, off + k * 3 + 2, none⟩ = some (.bool p.g)
theorem PrRow.at_ {w : World} {A : Option Addr} {l : List Pr} (h : PrRow w A l) {k : Nat} (hk : k < l.length) :
  ∃ (b off : Nat) (p : Pr), A = some ⟨b, off, none⟩ ∧ b < w.heap.size ∧ l[k]? = some p ∧ w.cell? ⟨b, off + k * 3, none⟩ = some (.string p.k) ∧ w.cell? ⟨b, off + k * 3 + 1, none⟩ = some (.string p.v) ∧ w.cell? ⟨b, off + k * 3 + 2, none⟩ = some (.bool p.g) := by
 obtain ⟨b, off, rfl, hlt, hc⟩ := h (by intro e; simp [e] at hk)
 have hv := List.getElem?_eq_getElem hk
 exact ⟨b, off, l[k], rfl, hlt, hv, hc k _ hv⟩
def RowOut (S : List Nat) (A : Option Addr) : Prop := ∀ a, A = some a → a.block ∉ S
theorem PrRow.chg {w w' : World} {S : List Nat} {A : Option Addr} {l : List Pr} (h : PrRow w A l) (hc : Chg S w w') (ho : RowOut S A) : PrRow w' A l := by
 intro hl
 obtain ⟨b, off, rfl, hlt, hh⟩ := h hl
 refine ⟨b, off, rfl, Nat.lt_of_lt_of_le hlt hc.size, fun k p hk => ?_⟩
 have e := hc.block b hlt (ho _ rfl)
 obtain ⟨h1, h2, h3⟩ := hh k p hk
 exact ⟨(World.cell?_of_block (a := ⟨b, _, none⟩) e).trans h1, (World.cell?_of_block (a := ⟨b, _, none⟩) e).trans h2, (World.cell?_of_block (a := ⟨b, _, none⟩) e).trans h3⟩
theorem PrRow.ext {w w' : World} {A : Option Addr} {l : List Pr} (h : PrRow w A l) (hb : Below w.heap.size w w') : PrRow w' A l := h.chg (Chg.of_below (S := []) hb) (fun _ _ => by simp)
def insAll (l : List Pr) (m : List Pr) : List Pr := l.foldl (fun a p => insP p a) m
def LayQ (w : World) (B v kk m : Nat) (t : Tr) (l : List Pr) (r : Ending) (W : World) : Prop :=
 ((∀ p ∈ l, prB p = true) ∧ r = .returned (.int .i64 0) ∧ ∃ t', VwR W B v kk m t' ∧ t'.toL = insAll l t.toL ∧ Chg (m :: t.blks) w W ∧ ∀ x ∈ t'.blks, x ∈ t.blks ∨ w.heap.size ≤ x) ∨
 ((∃ p ∈ l, prB p = false) ∧ r = .returned (.int .i64 2) ∧ Below w.heap.size w W)
theorem insP_len (p : Pr) : ∀ l : List Pr, (insP p l).length ≤ l.length + 1
 | [] => by simp [insP]
 | q :: l => by
  rw [insP]
  split
  · simp
  · split
    · have := insP_len p l; simp; omega
    · simp
theorem insAll_len : ∀ (l m : List Pr), (insAll l m).length ≤ m.length + l.length
 | [], m => by simp [insAll]
 | p :: l, m => by
  have h1 := insAll_len l (insP p m)
  have h2 := insP_len p m
  have h3 : insAll (p :: l) m = insAll l (insP p m) := rfl
  rw [h3, List.length_cons]; omega
theorem insAll_take {l : List Pr} {k : Nat} {p : Pr} (h : l[k]? = some p) (m : List Pr) : insAll (l.take (k + 1)) m = insP p (insAll (l.take k) m) := by
 have hk : k < l.length := (List.getElem?_eq_some_iff.1 h).1
 have : l.take (k + 1) = l.take k ++ [p] := by
  rw [List.take_add_one, h]; rfl
 rw [this]
 simp [insAll]
def LayI (w : World) (B v kk m : Nat) (t : Tr) (l : List Pr) (k : Nat) (W : World) : Prop :=
 ∃ t', VwR W B v kk m t' ∧ t'.toL = insAll (l.take k) t.toL ∧ Chg (m :: t.blks) w W ∧ ∀ x ∈ t'.blks, x ∈ t.blks ∨ w.heap.size ≤ x
theorem LayI.below {w : World} {B v kk m : Nat} {t : Tr} {l : List Pr} {k : Nat} {W W' : World} (h : LayI w B v kk m t l k W) (hb : Below W.heap.size W W') : LayI w B v kk m t l k W' := by
 obtain ⟨t', h1, h2, h3, h4⟩ := h
 exact ⟨t', h1.ext hb, h2, h3.andBelow hb, h4⟩
theorem LayI.put {w : World} {B v kk m : Nat} {t t1 t' : Tr} {l : List Pr} {k : Nat} {p : Pr} {W W' : World} (hp : l[k]? = some p) (hB : B ≤ w.heap.size) (hv : v < w.heap.size) (h1 : VwR W B v kk m t1) (h2 : t1.toL = insAll (l.take k) t.toL) (h3 : Chg (m :: t.blks) w W) (h4 : ∀ x ∈ t1.blks, x ∈ t.blks ∨ w.heap.size ≤ x)
  (hm : MemR W' m t') (ht : t'.toL = insP p t1.toL) (hc : Chg (m :: t1.blks) W W') (hn : ∀ x ∈ t'.blks, x ∈ t1.blks ∨ W.heap.size ≤ x) : LayI w B v kk m t l (k + 1) W' := by
 have hs := h3.size
 refine ⟨t', ⟨?_, hm, ?_, ?_⟩, ?_, ?_, ?_⟩
 · have := hc.block v h1.b.lt h1.out
   exact this.trans h1.b
 · intro hx
   rcases List.mem_cons.1 hx with rfl | hx
   · exact h1.out (by simp)
   · rcases hn _ hx with hx | hx
     · exact h1.out (by simp [hx])
     · omega
 · intro x hx
   rcases List.mem_cons.1 hx with rfl | hx
   · exact h1.lo _ (by simp)
   · rcases hn _ hx with hx | hx
     · exact h1.lo _ (by simp [hx])
     · omega
 · rw [ht, h2, insAll_take hp]
 · refine h3.trans hc ?_
   intro x hx
   rcases List.mem_cons.1 hx with rfl | hx
   · exact Or.inl (by simp)
   · rcases h4 _ hx with hx | hx
     · exact Or.inl (by simp [hx])
     · exact Or.inr hx
 · intro x hx
   rcases hn _ hx with hx | hx
   · exact h4 _ hx
   · exact Or.inr (by omega)
set_option maxRecDepth 100000 in
set_option maxHeartbeats 1000000 in
theorem lay_any (B v kk m : Nat) (t : Tr) (A : Option Addr) (c : Nat) (l : List Pr) (w : World) (h : VwR w B v kk m t) (hB : B ≤ w.heap.size) (hr : PrRow w A l) (ho : RowOut (m :: t.blks) A) (hlen : t.toL.length + l.length ≤ 1000000000) :
  Calls Tryz.prog 21 #[.pointer (some ⟨v, 0, none⟩), .slice A l.length c] w (LayQ w B v kk m t l) := by
 have HR := hd_ hr
 have HO := hd_ ho
 have HV := hd_ h
 have HC := hd_ (fun p W => memcheck_any p W)
 have hl : l.length ≤ 1000000000 := by omega
 clear h hr ho
 go_enter Tryz.func21, Tryz.ntmps21
 go_wp2_with fail
 go_loopw [14] (fun i wr => ∃ k : Nat, k ≤ l.length ∧ i = .int .i64 k ∧ Hid (∀ x ∈ l.take k, prB x = true) ∧ Hid (Below w.heap.size w wr)) (fun i _ => l.length - (intOf i).toNat)
 case atStart => exact ⟨0, by omega, rfl, hd_ (by simp), Below.refl _ _⟩
 case round =>
  obtain ⟨k, hk1, rfl, HA, HBW⟩ := hrel
  by_cases hlt : k < l.length
  · obtain ⟨b, off, p, rfl, hbl, hp, e0, e1, e2⟩ := (HR.out.ext HBW.out).at_ hlt
    have HP := hd_ hp
    have HC1 := hd_ (HC.out p)
    unfold Pr.agg okE at HC1
    clear hp
    cases hpb : prB p with
    | false =>
     have HPB := hd_ hpb
     simp only [hpb, Bool.false_eq_true, if_false] at HC1
     clear hpb
     go_wp2_with fail
     refine (HC1.out _).mono ?_
     rintro r w1 ⟨rfl, hb1⟩
     have HB1 : Hid (Below w.heap.size w w1) := bt (bt HBW.out ((by repeat (first | exact Below.refl _ _ | assumption | refine Below.drew ?_ | refine below_drewN ?_ _ | refine Below.alloc ?_ (by simp <;> omega) _)))) hb1
     clear hb1
     go_wp2_with fail
     go_ret
     exact Or.inr ⟨⟨p, List.mem_of_getElem? HP.out, HPB.out⟩, rfl, HB1.out⟩
    | true =>
     have HPB := hd_ hpb
     simp only [hpb, if_true] at HC1
     clear hpb
     go_wp2_with fail
     refine (HC1.out _).mono ?_
     rintro r w1 ⟨rfl, hb1⟩
     have HB1 : Hid (Below w.heap.size w w1) := bt (bt HBW.out ((by repeat (first | exact Below.refl _ _ | assumption | refine Below.drew ?_ | refine below_drewN ?_ _ | refine Below.alloc ?_ (by simp <;> omega) _)))) hb1
     clear hb1
     go_wp2_with fail
     go_roundw
     case rel =>
      refine ⟨k + 1, by omega, by go_num, hd_ ?_, HB1.out⟩
      intro x hx
      rw [List.take_add_one, HP.out] at hx
      rcases List.mem_append.1 hx with hx | hx
      · exact HA.out x hx
      · simp at hx; rw [hx]; exact HPB.out
     case measure => simp [intOf]; omega
  · have hkl : k = l.length := by omega
    have HKL := hd_ hkl
    clear hkl
    have HALL : Hid (∀ p ∈ l, prB p = true) := by
     have := HA.out
     rw [HKL.out, List.take_of_length_le (Nat.le_refl _)] at this
     exact this
    have HI0 : Hid (LayI w B v kk m t l 0 wr) := ⟨t, HV.out.ext HBW.out, by simp [insAll], Chg.of_below HBW.out, fun x hx => Or.inl hx⟩
    have hvw := HV.out.b.lt
    go_wp2_with fail
    go_loopw [26] (fun i wx => ∃ k : Nat, k ≤ l.length ∧ i = .int .i64 k ∧ Hid (LayI w B v kk m t l k wx)) (fun i _ => l.length - (intOf i).toNat)
    case atStart => exact ⟨0, by omega, rfl, HI0.out⟩
    case round =>
     obtain ⟨k, hk1, rfl, HI⟩ := hrel
     by_cases hlt : k < l.length
     · have hrow : PrRow wr A l := by
        obtain ⟨t', h1, h2, h3, h4⟩ := HI.out
        exact HR.out.chg h3 HO.out
       obtain ⟨b, off, p, rfl, hbl, hp, e0, e1, e2⟩ := hrow.at_ hlt
       have HP := hd_ hp
       have HPB := hd_ (HALL.out p (List.mem_of_getElem? hp))
       clear hp hrow
       go_upto_region 13 with fail
       have hb0 : Below wr.heap.size wr (wr.alloc (.cells #[.string p.k, .string p.v, .bool p.g] 45)) := bel1 _ _
       have hP0 : Blk (wr.alloc (.cells #[.string p.k, .string p.v, .bool p.g] 45)) wr.heap.size #[.string p.k, .string p.v, .bool p.g] 45 := Blk.new _ _ _
       have HI2 := hd_ (HI.out.below hb0)
       clear HI e0 e1 e2 hb0
       generalize wr.alloc (.cells #[.string p.k, .string p.v, .bool p.g] 45) = W0 at hP0 HI2 ⊢
       generalize wr.heap.size = b9 at hP0 ⊢
       obtain ⟨l9, p0, p1, p2⟩ := blk3f hP0
       obtain ⟨t1, g1, g2, g3, g4⟩ := HI2.out.below (show Below W0.heap.size W0 W0.drew from (by repeat (first | exact Below.refl _ _ | assumption | refine Below.drew ?_ | refine below_drewN ?_ _ | refine Below.alloc ?_ (by simp <;> omega) _)))
       obtain ⟨lv, v0, v1, vf⟩ := blk2f g1.b
       have hn1 : t1.toL.length + 1 ≤ 4611686018427387904 := by
        rw [g2]
        have h1 := insAll_len (l.take k) t.toL
        have h2 : (l.take k).length ≤ l.length := by simp; omega
        omega
       have HM := hd_ (memput_any m t1 p HPB.out W0.drew g1.mem hn1)
       unfold Pr.agg at HM
       have HPT := hd_ (fun (t' : Tr) (W' : World) (hm : MemR W' m t') (ht : t'.toL = insP p t1.toL) (hc : Chg (m :: t1.blks) W0.drew W') (hn : ∀ x ∈ t'.blks, x ∈ t1.blks ∨ W0.drew.heap.size ≤ x) => LayI.put HP.out hB hvw g1 g2 g3 g4 hm ht hc hn)
       clear g1 g2 g3 g4 hn1
       have lv0 : v < W0.heap.size := lv
       have v1' : W0.cell? ⟨v, 1, none⟩ = some (.pointer (some ⟨m, 0, none⟩)) := v1
       let Iv : Nat → Unit → World → Prop := fun q _ W1 => match q with
        | 0 => W1 = W0.drew
        | _ => LayI w B v kk m t l (k + 1) W1
       refine region_phase (Iv) (fun _ _ _ => True) (()) (fun _ => [.pointer (some ⟨v, 0, none⟩), .pointer (some ⟨v, 0, none⟩), .pointer (some ⟨v, 1, none⟩), .pointer (some ⟨m, 0, none⟩), .agg #[.string p.k, .string p.v, .bool p.g], .int .i64 0]) [5] [(0, 0), (0, 0), (0, 0), (0, 0), (0, 0), (0, 1)] [false, false, false, false, false, false, false, false, false, false, false, false, false, false, false, false, false, false, false, false, false, false, false, false, false, false, false, false, false, false, true, true, true, true, true, true, false] [30, 31, 32, 33, 34, 35] [] rfl (fun _ => rfl) (fun _ _ _ _ _ _ _ _ _ => rfl) (by kernel_rfl) (by kernel_rfl) (by kernel_rfl) (by decide) (by kernel_rfl) (by kernel_rfl) (by kernel_rfl) (by kernel_rfl) (by kernel_rfl) ⟨PhStep.pure rfl ?_, PhStep.pure rfl ?_, PhStep.pure rfl ?_, PhStep.pure rfl ?_, PhStep.pure rfl ?_, PhStep.chain 0 rfl ?c13_5, trivial⟩ ?done13
       case done13 =>
        intro g x W1 hiv
        have hF : LayI w B v kk m t l (k + 1) W1 := hiv
        simp only [StepGoal, overlay, cond_true, cond_false, Nat.zero_add, Nat.reduceAdd]
        clear hiv Iv
        have HF := hd_ hF
        clear hF
        go_wp2_with fail
        go_roundw
        case rel => exact ⟨k + 1, by omega, by go_num, HF.out⟩
        case measure => simp [intOf]; omega
       case c13_5 =>
        intro g x W1 hiv
        have hW1 : W1 = W0.drew := hiv
        subst hW1
        intro K hK
        rw [if_pos (by rfl)]; simp only [overlay, upd, cond_true, cond_false, List.getD_cons_zero, List.getD_cons_succ, Nat.reduceEqDiff, reduceIte]
        go_simp
        refine HM.out.mono ?_
        rintro e W' ⟨rfl, t', q1, q2, q3, q4⟩
        exact hK.out _ _ () (HPT.out t' W' q1 q2 q3 q4) trivial rfl
       all_goals
        intro q hk1 hk2 g x W1 hiv
        intro K hK
        first
         | (rw [if_pos (by rfl)]; simp only [overlay, upd, cond_true, cond_false, List.getD_cons_zero, List.getD_cons_succ, Nat.reduceEqDiff, reduceIte]
            go_simp
            exact hK.out _ _ _ hiv rfl rfl)
         | (obtain rfl : q = 0 := by simp at hk2; omega
            have hW : W1 = W0.drew := hiv
            subst hW
            first
             | (rw [if_pos (by rfl)]; simp only [overlay, upd, cond_true, cond_false, List.getD_cons_zero, List.getD_cons_succ, Nat.reduceEqDiff, reduceIte]
                go_simp
                exact hK.out _ _ _ rfl rfl rfl)
             | (rw [if_pos (by rfl)]; simp only [overlay, cond_true, cond_false]
                go_simp
                exact hK.out _ _ _ rfl rfl rfl))
     · have hkl : k = l.length := by omega
       have HKL := hd_ hkl
       clear hkl
       go_wp2_with fail
       go_ret
       obtain ⟨t', h1, h2, h3, h4⟩ := HI.out
       rw [HKL.out, List.take_of_length_le (Nat.le_refl _)] at h2
       exact Or.inl ⟨HALL.out, rfl, t', h1, h2, h3, h4⟩
end Go.Proofs.YtceoficoappkpaaGreatDoor
namespace Go.Proofs.YtceoficoappkpaaGreatDoor
open Go.RowKit Go.Shelf

def SeqStopsW {α : Type} (bb : Nat) (F : Fence) (n : Nat) (P : Program) (g : Nat) (lb : Array Value) (encs : α → Array Value) (Kp : World → World → Prop) (S Sp : List α → Prop) (N : Nat) (w : World) : Prop :=
 ∀ (l : Nat) (J Jx : List α → World → Prop) (W : World), Below w.heap.size w W → AbidesFrom W.heap.size J → AbidesFrom W.heap.size Jx → (∀ s A B, J s A → A.grownBy B (some bb) → J s B) →
  (∀ pre x W1, J pre W1 → pre.length < N → YieldAt F (n - 1) P l (encs x) W1 fun e W' =>
    (e = .returned (.bool true) ∧ J (pre ++ [x]) W' ∧ Kp W1 W') ∨ (e = .returned (.bool false) ∧ Jx (pre ++ [x]) W')) →
  J [] W →
  CallsIn F n P g (#[.func (.yield l) #[] #[]] ++ lb) W fun e W' => (∃ v, e = .returned v) ∧ ((∃ xs, S xs ∧ J xs W') ∨ (∃ pre, Sp pre ∧ Jx pre W'))
def postW {α : Type} (B : Nat) (Kp : World → World → Prop) (I : List α → World → Prop) (xs : List α) (W0 W : World) : Exit → Act → World → Prop
 | .normal, _, W' => KeepsFrom B W W' ∧ Kp W0 W' ∧ I xs W'
 | _, _, _ => False
theorem wpIn_rangeFunc_ownW {F : Fence} {n : Nat} {P : Program} {w : World} {α : Type} {g : Operand} {ps : Array Tmp} {assign body : Code} {Q : Exit → Act → World → Prop} {a : Act}
  (hro : F.round = none) (h1 : 1 ≤ n) {gf : Nat} {lb : Array Value} (hg : a.eval g = .func (.func gf) #[] lb) (hFg : F.fn gf) (eg : ∀ args w, (callFunc gf args).run P w = .ok (.enter gf args) w)
  {encs : α → Array Value} {Kp : World → World → Prop} {S Sp : List α → Prop} {N : Nat} {w0 : World} {bb : Nat} (hseq : SeqStopsW bb F (n - 1) P gf lb encs Kp S Sp N w0) (hbb : bb < w.heap.size)
  (hKt : ∀ {A B C : World}, Kp A B → Kp B C → Kp A C) (hKb : ∀ (W : World) (l : Nat) (o o' : Obj), w.heap.size ≤ l → W.heap[l]? = some o → o.isCells = false → o.isWalk = false → Kp W (W.putObj l o'))
  (hb0 : Below w0.heap.size w0 w) (hps : ∀ x, (encs x).size = ps.size)
  (I : List α → World → Prop) (hI : OwnFrom w.heap.size I) (h0 : I [] w) (hIT : ∀ s A B, I s A → A.grownBy B (some bb) → I s B) (Ax : World → α → Act → World → Prop) (hAx : ∀ W0 x a', OwnFrom w.heap.size (fun (_ : Unit) W => Ax W0 x a' W))
  (hassign : ∀ (l : Nat) (pre : List α) (x : α) (W : World) (K : Act → World → Prop), I pre W → (∀ a' W', KeepsFrom w.heap.size W W' → I pre W' → Ax W x a' W' → K a' W') →
    assign.wpIn (F.inRound l) (n - 1 - 1) P (Exit.then K (fun _ _ _ => False)) { tmps := (ps.zip (encs x)).foldl (fun t (p, v) => t.setIfInBounds p v) a.tmps, defers := [] } W)
  (hbody : ∀ (l : Nat) (pre : List α) (x : α) (a' : Act) (W0 W : World), w.heap.size ≤ l → I pre W → Ax W0 x a' W → pre.length < N → body.wpIn (F.inRound l) (n - 1 - 1) P (postW w.heap.size Kp I (pre ++ [x]) W0 W) a' W)
  (hdone : ∀ (D : Nat) (xs : List α) (W : World), w.heap.size ≤ D → S xs → I xs W → W.heap[D]? = some (.deferred (some [])) → Q .normal { a with defers := { target := .collected D, args := #[] } :: a.defers } W) :
  (Code.rangeFunc g ps assign body).wpIn F n P Q a w := by
 refine wpIn_rangeFunc fun fn hfn => ?_
 rw [hro]
 generalize hrec : (fun (st : LoopState) (pe : Option Code) => ({ state := st, pending := pe, fn, tmps := a.tmps, params := ps, assign, body, defers := w.heap.size } : Loop)) = rec
 have hr0 : ∀ st pe, rec st pe = { state := st, pending := pe, fn, tmps := a.tmps, params := ps, assign, body, defers := w.heap.size } := fun st pe => by rw [← hrec]
 generalize hW1 : (w.alloc (.deferred (some []))).alloc (.loop (rec .ready none)) = W1
 have hL1 : W1.heap[w.heap.size + 1]? = some (.loop (rec .ready none)) := by
  have h := World.alloc_heap_new (w.alloc (.deferred (some []))) (.loop (rec .ready none))
  rw [World.size_alloc, hW1] at h
  exact h
 have hK1 : W1.heap[w.heap.size]? = some (.deferred (some [])) := by
  rw [← hW1]; exact (Below.heap_alloc _ _ _ (by simp)).trans (World.alloc_heap_new w _)
 have hI1 : I [] W1 := by rw [← hW1]; exact hI.alloc _ (hI.alloc _ h0)
 have hb1 : Below w0.heap.size w0 W1 := by
  rw [← hW1]; exact hb0.trans ((((Below.refl _ w).alloc (Nat.le_refl _) _).alloc (by simp) _).mono hb0.size)
 have hs1 : W1.heap.size = w.heap.size + 2 := by rw [← hW1]; simp
 refine ⟨w.heap.size + 1, [{ target := .collected w.heap.size, args := #[] }], W1, { target := .fn (.func gf) lb, args := #[.func (.yield (w.heap.size + 1)) #[] #[]] }, W1, gf,
  #[.func (.yield (w.heap.size + 1)) #[] #[]] ++ lb, W1, ?_, ?_, ?_, ?_, fun _ => h1, ?_⟩
 · rw [← hW1, hr0]; exact run_enterLoop_outer _ _ _ _ _
 · simp only [resolve, hg]
   simp [go_sem]
 · intro f' hf'
   simp [Target.leads] at hf'
   subst hf'
   exact hFg
 · simp [invoke, go_sem, eg]
 · have hnw : ∀ {A : World} {row : Option Nat}, (∀ r, row = some r → W1.heap.size ≤ r ∧ ∃ o : Obj, A.heap[r]? = some o ∧ o.isWalk = true) → (∀ r, row = some r → w.heap.size ≤ r ∧ ∃ o : Obj, A.heap[r]? = some o ∧ o.isCells = false) := fun hr r e => by
    obtain ⟨hB, o, ho, hw⟩ := hr r e
    exact ⟨by omega, o, ho, Obj.not_cells_of_walk hw⟩
   refine (hseq (w.heap.size + 1)
    (fun pre W => I pre W ∧ W.heap[w.heap.size + 1]? = some (.loop (rec .ready none)) ∧ W.heap[w.heap.size]? = some (.deferred (some [])))
    (fun _ _ => False) W1 hb1
    (fun s A B row hs hg' hr => ⟨hI s A B row hs.1 hg' (hnw hr), (grownBy_keeps hg' (fun r e => (hr r e).2) hs.2.1 rfl).trans hs.2.1, (grownBy_keeps hg' (fun r e => (hr r e).2) hs.2.2 rfl).trans hs.2.2⟩)
    (fun _ _ _ _ h _ _ => h)
    (fun s A B hs hg' => ⟨hIT s A B hs.1 hg', (hg'.block _ (Array.getElem?_eq_some_iff.1 hs.2.1).1 (by simp; omega)).trans hs.2.1, (hg'.block _ (Array.getElem?_eq_some_iff.1 hs.2.2).1 (by simp; omega)).trans hs.2.2⟩)
    ?_ ⟨hI1, hL1, hK1⟩).mono ?_
   · rintro pre x W ⟨hi, hl, hk⟩ hlen
     have hy := run_yield (P := P) (args := encs x) hl (by rw [hr0]; exact hps x)
     rw [hr0] at hy
     refine ⟨fn, _, assign, body, hy, roundIn_of_wpIn hfn (hassign _ pre x W _ hi ?_)⟩
     clear hy
     intro a' Wa hkf hia hax
     have hl1 := hkf.same _ _ (by omega) hl rfl
     have hk1 := hkf.same _ _ (Nat.le_refl _) hk rfl
     have hlt := (Array.getElem?_eq_some_iff.1 hl1).1
     refine ⟨_, run_beginRound hl1 (by rw [hr0]), ?_⟩
     have hl2 : (Wa.putObj (w.heap.size + 1) (.loop { rec .ready none with state := .busy })).heap[w.heap.size + 1]? = some (.loop { rec .ready none with state := .busy }) := World.putObj_heap_same hlt
     have hk2 : (Wa.putObj (w.heap.size + 1) (.loop { rec .ready none with state := .busy })).heap[w.heap.size]? = some (.deferred (some [])) := (World.putObj_heap_other (by omega)).trans hk1
     refine wpIn_mono (hbody _ pre x a' W _ (by omega) (hI.putObj _ hia (by omega) hl1 rfl) ((hAx W x a').putObj (s := ()) _ hax (by omega) hl1 rfl) hlen) ?_
     rintro e a3 W3 hp
     cases e with
     | normal =>
      obtain ⟨hk3, hkp3, hi3⟩ := hp
      have hl3 := hk3.same _ _ (by omega) hl2 rfl
      have hr := run_endRound (P := P) none hl3
      have hr' : ({ ({ rec .ready none with state := .busy } : Loop) with state := .ready, pending := none } : Loop) = rec .ready none := by rw [hr0]
      have hl4 : (W3.putObj (w.heap.size + 1) (.loop (rec .ready none))).heap[w.heap.size + 1]? = some (.loop (rec .ready none)) := World.putObj_heap_same (Array.getElem?_eq_some_iff.1 hl3).1
      have hk4 : (W3.putObj (w.heap.size + 1) (.loop (rec .ready none))).heap[w.heap.size]? = some (.deferred (some [])) := (World.putObj_heap_other (by omega)).trans (hk3.same _ _ (Nat.le_refl _) hk2 rfl)
      refine ⟨.bool true, W3.putObj (w.heap.size + 1) (.loop (rec .ready none)), ?_, .inl ⟨rfl, ⟨hI.putObj _ hi3 (by omega) hl3 rfl, hl4, hk4⟩, hKt hkp3 (hKb _ _ _ _ (by omega) hl3 rfl rfl)⟩⟩
      rw [hr]
      simp [hr0]
     | ret => exact hp.elim
     | exit id => exact hp.elim
     | goto t => exact hp.elim
     | panic ch => exact hp.elim
     | outgrown => exact hp.elim
   · rintro e W2 ⟨⟨v, rfl⟩, (⟨xs, hS, hi, hl, hk⟩ | ⟨pre, hSp, h⟩)⟩
     · exact ⟨none, _, by have := run_endLoop (P := P) hl (by rw [hr0]; simp); rw [hr0] at this; exact this, hdone _ xs _ (Nat.le_refl _) hS (hI.putObj _ hi (by omega) hl rfl) ((World.putObj_heap_other (by omega)).trans hk)⟩
     · exact h.elim
end Go.Proofs.YtceoficoappkpaaGreatDoor
namespace Go.Proofs.YtceoficoappkpaaGreatDoor
open Go.RowKit Go.Shelf
attribute [local go_sem] Oper.semAt_some

def KpX (B rb : Nat) (W W' : World) : Prop := (W'.os = W.os ∧ W'.tape = W.tape ∧ W'.output = W.output) ∧ W.heap.size ≤ W'.heap.size ∧ ∀ k, k < B → k ≠ rb → W'.heap[k]? = W.heap[k]?
theorem KpX.trans {B rb : Nat} {X Y Z : World} (h : KpX B rb X Y) (k : KpX B rb Y Z) : KpX B rb X Z :=
 ⟨⟨k.1.1.trans h.1.1, k.1.2.1.trans h.1.2.1, k.1.2.2.trans h.1.2.2⟩, Nat.le_trans h.2.1 k.2.1, fun i hi hn => (k.2.2 i hi hn).trans (h.2.2 i hi hn)⟩
theorem KpX.blk {B rb : Nat} {W W' : World} {b : Nat} {cs : Array Value} {t : TypeId} (h : KpX B rb W W') (hb : Blk W b cs t) (h1 : b < B) (h2 : b ≠ rb) : Blk W' b cs t := (h.2.2 b h1 h2).trans hb
theorem KpX.row {B rb : Nat} {W W' : World} {A : Option Addr} {l : List Pr} (h : KpX B rb W W') (hr : PrRow W A l) (hA : ∀ a, A = some a → a.block < B ∧ a.block ≠ rb) : PrRow W' A l := by
 intro hl
 obtain ⟨b, off, rfl, hlt, hh⟩ := hr hl
 obtain ⟨q1, q2⟩ := hA _ rfl
 refine ⟨b, off, rfl, Nat.lt_of_lt_of_le hlt h.2.1, fun k p hk => ?_⟩
 have e := h.2.2 b q1 q2
 obtain ⟨h1, h2, h3⟩ := hh k p hk
 exact ⟨(World.cell?_of_block (a := ⟨b, _, none⟩) e).trans h1, (World.cell?_of_block (a := ⟨b, _, none⟩) e).trans h2, (World.cell?_of_block (a := ⟨b, _, none⟩) e).trans h3⟩
def MgI (l : List Pr) (J : List Pr → World → Prop) (B rb Ba Bb : Nat) (g : Nat) (W : World) : Prop :=
 ∃ (pre rest : List Pr) (A : Option Addr) (c : Nat), l = pre ++ rest ∧ rest.length = g ∧ J pre W ∧ Blk W Bb #[.slice A rest.length c] 36 ∧ Blk W Ba #[.slice none 0 0] 36 ∧ PrRow W A rest ∧ (∀ a, A = some a → a.block < B ∧ a.block ≠ rb ∧ a.block ≠ Bb) ∧ rest.length ≤ c
theorem Rg.put_only (w : World) (b : Nat) (cs ds : Array Value) (t : TypeId) : (putBlk w b cs t).grownBy (putBlk w b ds t) (some b) :=
 ⟨rfl, rfl, rfl, by simp [putBlk_size], fun k _ hk => by
   have hne : k ≠ b := fun e => hk (by rw [e])
   unfold putBlk
   simp only
   rw [Array.getElem?_setIfInBounds_ne (Ne.symm hne), Array.getElem?_setIfInBounds_ne (Ne.symm hne)]⟩
theorem PrRow.tail {w : World} {b off : Nat} {p : Pr} {l : List Pr} (h : PrRow w (some ⟨b, off, none⟩) (p :: l)) : PrRow w (some ⟨b, off + 3, none⟩) l := by
 intro _
 obtain ⟨b', off', he, hlt, hh⟩ := h (by simp)
 simp only [Option.some.injEq, Addr.mk.injEq, and_true] at he
 obtain ⟨rfl, rfl⟩ := he
 refine ⟨b, off + 3, rfl, hlt, fun k q hk => ?_⟩
 have := hh (k + 1) q (by simpa using hk)
 rw [show off + (k + 1) * 3 = off + 3 + k * 3 by omega] at this
 exact this
theorem MgI.step {l : List Pr} {J : List Pr → World → Prop} {B rb Ba Bb : Nat} {pre rest : List Pr} {p : Pr} {w3 : World} {b off n1 c gk o' c' : Nat} {cs : Array Value} (hl : l = pre ++ p :: rest) (hn : n1 = (p :: rest).length) (hg : (p :: rest).length = gk)
  (hj : J (pre ++ [p]) (putBlk w3 Bb cs 36)) (hJT : ∀ s A B, J s A → A.grownBy B (some Bb) → J s B) (ha : Blk (putBlk w3 Bb cs 36) Ba #[.slice none 0 0] 36) (hne : Ba ≠ Bb) (lt : Bb < w3.heap.size)
  (hr : PrRow (putBlk w3 Bb cs 36) (some ⟨b, off, none⟩) (p :: rest)) (hA : ∀ a, some (⟨b, off, none⟩ : Addr) = some a → a.block < B ∧ a.block ≠ rb ∧ a.block ≠ Bb) (hc : n1 ≤ c) (hcc : (c = 1 ∧ o' = off ∧ c' = 0) ∨ (o' = off + 3 ∧ c' = c - 1)) :
  MgI l J B rb Ba Bb (gk - 1) (putBlk w3 Bb #[.slice (some ⟨b, o', none⟩) (n1 - 1) c'] 36) := by
 have e1 : rest.length = n1 - 1 := by rw [hn]; simp
 have e2 : rest.length = gk - 1 := by rw [← hg]; simp
 have hA' := hA _ rfl
 refine ⟨pre ++ [p], rest, some ⟨b, o', none⟩, c', by rw [hl]; simp, e2, hJT _ _ _ hj (Rg.put_only _ _ _ _ _), by rw [e1]; exact putBlk_blk _ _ lt, putBlk_old ha hne _, ?_, fun a e => by cases e; exact hA', ?_⟩
 · rcases hcc with ⟨h1, h2, h3⟩ | ⟨h1, h2⟩
   · have : rest = [] := List.eq_nil_of_length_eq_zero (by omega)
     rw [this]
     intro h; exact absurd rfl h
   · rw [h1]
     exact hr.tail.chg (Chg.of_grown (S := [Bb]) (Rg.put_only _ _ _ _ _) (by simp)) (fun a e => by cases e; simpa using hA'.2.2)
 · rcases hcc with ⟨h1, h2, h3⟩ | ⟨h1, h2⟩ <;> omega
set_option maxRecDepth 100000 in
set_option maxHeartbeats 2000000 in
theorem merged1_stops (n B rb Ba Bb : Nat) (A : Option Addr) (c : Nat) (l : List Pr) (w : World) (hBa : Blk w Ba #[.slice none 0 0] 36) (hBb : Blk w Bb #[.slice A l.length c] 36) (hr : PrRow w A l)
  (hA : ∀ a, A = some a → a.block < B ∧ a.block ≠ rb ∧ a.block ≠ Bb) (h1 : Ba < B ∧ Ba ≠ rb ∧ Ba ≠ Bb) (h2 : Bb < B ∧ Bb ≠ rb) (hc : l.length ≤ c) (hl : l.length ≤ 1000000000) :
  SeqStopsW Bb Fence.wide n Tryz.prog 82 #[.pointer (some ⟨Ba, 0, none⟩), .pointer (some ⟨Bb, 0, none⟩)] (fun x : Pr => #[x.agg]) (KpX B rb) (fun ys => ys = l) (fun pre => pre <+: l) l.length w := by
 intro id J Jx W hW hJ hJx hJT hY h0
 have HI0 : Hid (MgI l J B rb Ba Bb l.length W) := ⟨[], l, A, c, rfl, rfl, h0, hBb.ext hW, hBa.ext hW, hr.ext hW, hA, hc⟩
 have HY := hd_ (fun m' pre x W1 hj hl => yield_any' rfl m' (hY pre x W1 hj hl))
 have HJT := hd_ hJT
 clear hJ hJx hY h0 hBa hBb hr hA hc hW hJT
 have hdd : ∀ k : Nat, (Fence.wide.depth.isSome = true → 1 ≤ k) := fun k h => by simp [Fence.wide] at h
 refine callsIn_of_wp Tryz.func82 rfl trivial ?_ rfl
 simp only [Tryz.ntmps82, List.size_toArray, List.length_cons, List.length_nil, Nat.reduceAdd, Nat.reduceSub, Array.replicate_succ, Array.replicate_zero, List.push_toArray, List.append_toArray, List.nil_append, List.cons_append]
 gi_wp2_with fail
 gi_loopg [] l.length (fun g wr => Hid (MgI l J B rb Ba Bb g wr))
 case atStart => exact HI0
 case round =>
  obtain ⟨pre, rest, A, c, hpr, hg, hj, hb, ha, hr, hA, hc⟩ := hrel.out
  clear hrel
  have HJ0 := hd_ hj
  have HG := hd_ hg
  clear hg
  obtain ⟨lb, b0⟩ := (show Bb < wr.heap.size ∧ wr.cell? ⟨Bb, 0, none⟩ = some (.slice A rest.length c) from ⟨hb.lt, hb.cell 0⟩)
  obtain ⟨la, a0⟩ := (show Ba < wr.heap.size ∧ wr.cell? ⟨Ba, 0, none⟩ = some (.slice none 0 0) from ⟨ha.lt, ha.cell 0⟩)
  have HB := hd_ hb
  have HA := hd_ ha
  have HR := hd_ hr
  have HO := hd_ hA
  clear hj hb ha hA
  cases rest with
  | nil =>
   have HPR : Hid (l = pre) := by rw [hpr]; show _ = _; simp
   clear hpr hr
   simp only [List.length_nil] at b0
   gi_wp2_with fail
   go_end0
   exact ⟨⟨_, rfl⟩, Or.inl ⟨l, rfl, by rw [HPR.out]; exact HJ0.out⟩⟩
  | cons p rest =>
   obtain ⟨b, off, rfl, lg, hcs⟩ := hr (by simp)
   obtain ⟨p0, p1, p2⟩ := hcs 0 p rfl
   clear hcs
   have HPR := hd_ hpr
   clear hpr
   obtain ⟨n1, hn1⟩ : ∃ n1, n1 = (p :: rest).length := ⟨_, rfl⟩
   rw [← hn1] at b0 hc
   have hn0 : 0 < n1 := by rw [hn1]; simp
   have hnl : n1 ≤ 1000000000 := by
    have := congrArg List.length HPR.out
    rw [List.length_append, ← hn1] at this
    omega
   have HN1 := hd_ hn1
   clear hn1
   have hne : ((n1 : Int) == 0) = false := by simp; omega
   gi_wp2_with fail
   gi_quiet (fail)
   gi_wp2_with fail
   gi_quiet (fail)
   generalize hW1 : World.drewN _ _ = W1
   have hbW : Below wr.heap.size wr W1 := by rw [← hW1]; exact (by repeat (first | exact Below.refl _ _ | assumption | refine Below.drew ?_ | refine below_drewN ?_ _ | refine Below.alloc ?_ (by simp <;> omega) _))
   have hgW : wr.grownBy W1 (some Bb) := ⟨hbW.os, hbW.tape, hbW.output, hbW.size, fun k hk _ => hbW.block k hk⟩
   have hj1 := HJT.out _ _ _ HJ0.out hgW
   have hb1 := HB.out.ext hbW
   have HA1 := hd_ (HA.out.ext hbW)
   have hr1 := HR.out.ext hbW
   obtain ⟨fn, tmps, assign, body, hy, hR⟩ := HY.out (n - 1) pre p W1 hj1 (by rw [HPR.out]; simp)
   unfold Pr.agg at hy
   clear hW1 hgW hj1 hbW b0 a0 la lb lg p0 p1 p2
   obtain ⟨b', off', hbe, lg, hcs⟩ := hr1 (by simp)
   simp only [Option.some.injEq, Addr.mk.injEq, and_true] at hbe
   obtain ⟨rfl, rfl⟩ := hbe
   obtain ⟨p0, p1, p2⟩ := hcs 0 p rfl
   simp only [Nat.zero_mul, Nat.add_zero] at p0 p1 p2
   obtain ⟨lb, b0⟩ := (show Bb < W1.heap.size ∧ W1.cell? ⟨Bb, 0, none⟩ = some (.slice (some ⟨b, off, none⟩) n1 c) from ⟨hb1.lt, by rw [HN1.out]; exact hb1.cell 0⟩)
   have HB1 := hd_ hb1
   have HR1 := hd_ hr1
   clear hcs hb1 hr1
   gi_wp2_with fail
   refine ⟨hdd _, hR.mono ?_⟩
   rintro e W2 (⟨rfl, hj2, hk2⟩ | ⟨rfl, hx2⟩)
   · have hb2 := hk2.blk HB1.out h2.1 h2.2
     rw [← HN1.out] at hb2
     have HA2 := hd_ (hk2.blk HA1.out h1.1 h1.2.1)
     have HR2 := hd_ (hk2.row HR1.out (fun a e => ⟨(HO.out a e).1, (HO.out a e).2.1⟩))
     have HJ2 := hd_ hj2
     clear hk2 hj2 hy hR lb b0 lg p0 p1 p2
     obtain ⟨w3, he3, lt⟩ := blk_put hb2
     subst he3
     obtain ⟨pc, pf, pS⟩ := putBlk_facts (w := w3) 36 lt
     clear hb2
     have HST := hd_ (fun (o' c' : Nat) (h : (c = 1 ∧ o' = off ∧ c' = 0) ∨ (o' = off + 3 ∧ c' = c - 1)) => MgI.step HPR.out HN1.out HG.out HJ2.out HJT.out HA2.out h1.2.2 lt HR2.out HO.out hc h)
     gi_wp2_with fail
     all_goals
      gi_roundg (gk - 1)
      case rel => first | exact HST.out _ _ (Or.inr ⟨rfl, rfl⟩) | exact HST.out _ _ (Or.inl ⟨by omega, rfl, by omega⟩)
      case measure => have := HG.out; simp at this; omega
   · have HX2 := hd_ hx2
     clear hx2 hy hR lb b0 lg p0 p1 p2
     gi_wp2_with fail
     refine bodyPost_ret (results_none rfl _ _ _) rfl ?_
     refine ⟨⟨_, rfl⟩, Or.inr ⟨pre ++ [p], ?_, HX2.out⟩⟩
     rw [HPR.out]
     exact ⟨rest, by simp⟩
end Go.Proofs.YtceoficoappkpaaGreatDoor
