/- Texts joined by a tool: contracts and walks of this claim. -/
import Derived.Test.YtfekohonidggjaaGreatDoorB25
import Derived.Test.YtfekohonidggjaaGreatDoorB26
namespace Go.Proofs.YtfekohonidggjaaGreatDoor
open Go.RowKit
theorem RdS.ext {w w' : World} {B M : Nat} (h : RdS w B M) (hb : Below w.heap.size w w') : RdS w' B M := by
 obtain ⟨n, f, h1, h2, h3⟩ := h
 refine ⟨n, f, h1.ext hb, h2, fun wd => ?_⟩
 have := h3 wd
 split at this
 · obtain ⟨a, e1, e2, e3⟩ := this
   exact ⟨a, e1, e2, e3.ext hb⟩
 · split at this
   · obtain ⟨a, b, e1, e2, e3, e4, e5⟩ := this
     exact ⟨a, b, e1, e2, e3, e4.ext hb, e5.ext hb⟩
   · exact this
def LkU (wd : List UInt8) (u : Value) (w : World) : Prop := match opAt wd with
 | some k => ∃ a, u = .func (Fn.func 133) #[] #[.pointer (some ⟨a, 0, none⟩)] ∧ Blk w a #[.int .i64 (k - 1)] 3
 | none => match formAt wd with
  | some (d, c, fl) => ∃ a b, u = .func (Fn.func 130) #[] #[.pointer (some ⟨a, 0, none⟩), .pointer (some ⟨b, 0, none⟩)] ∧ Blk w a #[.int .u8 d] 5 ∧ Blk w b #[.string (bsO wd), .int .i64 c, .bool fl] 129
  | none => u = .nilFunc
def hasW (wd : List UInt8) : Bool := (opAt wd).isSome || (formAt wd).isSome
theorem LkU.ext {wd : List UInt8} {u : Value} {w w' : World} (h : LkU wd u w) (hb : ∀ b cs t, t ≠ 147 → Blk w b cs t → Blk w' b cs t) : LkU wd u w' := by
 unfold LkU at h ⊢
 split at h
 · obtain ⟨a, e1, e2⟩ := h
   exact ⟨a, e1, hb _ _ _ (by decide) e2⟩
 · split at h
   · obtain ⟨a, b, e1, e2, e3⟩ := h
     exact ⟨a, b, e1, hb _ _ _ (by decide) e2, hb _ _ _ (by decide) e3⟩
   · exact h
theorem LkU.below {wd : List UInt8} {u : Value} {w w' : World} (h : LkU wd u w) (hb : Below w.heap.size w w') : LkU wd u w' := h.ext fun _ _ _ _ k => k.ext hb
theorem LkU.put {wd : List UInt8} {u : Value} {w : World} (h : LkU wd u w) {g : Nat} {Z : Array Value} (hg : Blk w g Z 147) (F : Array Value) : LkU wd u (putBlk w g F 147) :=
 h.ext fun b cs t ht k => putBlk_ne k (fun e => by
  subst e
  unfold Blk at hg k
  rw [hg] at k
  simp only [Option.some.injEq, Obj.cells.injEq] at k
  exact ht k.2.1.symm)
theorem RdS.look {w : World} {B M : Nat} (h : RdS w B M) (wd : List UInt8) (hw : wd.length ≤ 140737488355328) : ∃ u, (Instr.lookup 149 (.map (some M)) (.string (bsO wd)) true).run Tryz.prog w = .ok (.tuple #[.agg #[u], .bool (hasW wd)]) w ∧ LkU wd u w := by
 obtain ⟨n, f, h1, _, h3⟩ := h
 have hk := h1.look (bsO wd) (by rw [bsO_size]; exact hw)
 rw [bsO_data] at hk
 have hv := h3 wd
 unfold hasW LkU
 cases ho : opAt wd with
 | some k =>
  rw [ho] at hv
  obtain ⟨a, e1, _, e3⟩ := hv
  rw [e1] at hk
  exact ⟨_, hk, a, rfl, e3⟩
 | none =>
  rw [ho] at hv
  simp only at hv
  cases hf : formAt wd with
  | some x =>
   obtain ⟨d, c, fl⟩ := x
   rw [hf] at hv
   obtain ⟨a, b, e1, _, _, e4, e5⟩ := hv
   rw [e1] at hk
   exact ⟨_, hk, a, b, rfl, e4, e5⟩
  | none =>
   rw [hf] at hv
   have hv' : f wd = none := hv
   rw [hv'] at hk
   exact ⟨_, hk, rfl⟩
def kRd : Known := .mem (fun v w => ∃ B M, v = .map (some M) ∧ RdS w B M) (fun _ _ _ ⟨B, M, h1, h2⟩ hb => ⟨B, M, h1, h2.ext hb⟩)
def kLk (wd : List UInt8) : Known := .mem (fun v w => ∃ u, v = .tuple #[.agg #[u], .bool (hasW wd)] ∧ LkU wd u w) (fun _ _ _ ⟨u, h1, h2⟩ hb => ⟨u, h1, h2.below hb⟩)
def kLu (wd : List UInt8) : Known := .mem (fun v w => ∃ u, v = .agg #[u] ∧ LkU wd u w) (fun _ _ _ ⟨u, h1, h2⟩ hb => ⟨u, h1, h2.below hb⟩)
def FPu (wd : List UInt8) (F : Array Value) (w : World) : Prop := ∃ u, F = #[u] ∧ LkU wd u w
theorem LkU_form {wd : List UInt8} {u : Value} {w : World} (h : LkU wd u w) : (∃ fn f1 f2, u = .func fn f1 f2) ∨ u = .nilFunc := by
 unfold LkU at h
 split at h
 · obtain ⟨a, e1, _⟩ := h
   exact Or.inl ⟨_, _, _, e1⟩
 · split at h
   · obtain ⟨a, b, e1, _⟩ := h
     exact Or.inl ⟨_, _, _, e1⟩
   · exact Or.inr h
theorem RdS.put {w : World} {B M : Nat} (h : RdS w B M) {g : Nat} {Z : Array Value} (hg : Blk w g Z 147) (F : Array Value) : RdS (putBlk w g F 147) B M := by
 have hne : ∀ {b cs t}, t ≠ 147 → Blk w b cs t → Blk (putBlk w g F 147) b cs t := fun {b cs t} ht k => putBlk_ne k (fun e => by
  subst e
  unfold Blk at hg k
  rw [hg] at k
  simp only [Option.some.injEq, Obj.cells.injEq] at k
  exact ht k.2.1.symm)
 obtain ⟨n, f, h1, h2, h3⟩ := h
 refine ⟨n, f, h1.putne hg F, h2, fun wd => ?_⟩
 have := h3 wd
 split at this
 · obtain ⟨a, e1, e2, e3⟩ := this
   exact ⟨a, e1, e2, hne (by decide) e3⟩
 · split at this
   · obtain ⟨a, b, e1, e2, e3, e4, e5⟩ := this
     exact ⟨a, b, e1, e2, e3, hne (by decide) e4, hne (by decide) e5⟩
   · exact this
theorem wordsR_op {w0 : List UInt8} {l : List (List UInt8)} {k : Int} (h : opAt w0 = some k) : wordsR (w0 :: l) = opR k l := by
 unfold wordsR; simp only [h]
theorem wordsR_form {w0 : List UInt8} {l : List (List UInt8)} {d : Int} {c : Nat} {f : Bool} (h : opAt w0 = none) (h2 : formAt w0 = some (d, c, f)) : wordsR (w0 :: l) = formR d c f l := by
 unfold wordsR; simp only [h, h2]
theorem wordsR_no {w0 : List UInt8} {l : List (List UInt8)} (h : opAt w0 = none) (h2 : formAt w0 = none) : wordsR (w0 :: l) = none := by
 unfold wordsR; simp only [h, h2]
theorem VRow.put {w : World} {A : Option Addr} {l : List V} {b : Nat} {cs : Array Value} {t : TypeId} (h : VRow (putBlk w b cs t) A l) (hA : ∀ p, A = some p → b < p.block) (ds : Array Value) : VRow (putBlk w b ds t) A l := by
 refine ⟨h.1, h.2.1, fun hl => ?_⟩
 obtain ⟨g, off, rfl, hlt, hc⟩ := h.2.2 hl
 have hg := hA _ rfl
 have hne : g ≠ b := by simp only at hg; omega
 refine ⟨g, off, rfl, by rw [putBlk_size] at hlt ⊢; exact hlt, fun i v hi => ?_⟩
 obtain ⟨c0, c1, c2, c3⟩ := hc i v hi
 exact ⟨(putBlk_cell_ne hne cs ds t _).trans c0, (putBlk_cell_ne hne cs ds t _).trans c1, (putBlk_cell_ne hne cs ds t _).trans c2, (putBlk_cell_ne hne cs ds t _).trans c3⟩
theorem formR_row {d : Int} {c : Nat} {f : Bool} {l : List (List UInt8)} {a : Ac} (h : formR d c f l = some a) : a.row = [] := by
 cases f with
 | false =>
  rw [formR_no] at h
  unfold numO at h
  cases hn : numsR c l with
  | none => rw [hn] at h; cases h
  | some x => rw [hn] at h; simp only [Option.map_some, Option.some.injEq] at h; rw [← h]
 | true =>
  by_cases hl : l.length = 4
  · obtain ⟨x0, nm, x1, x2, rfl⟩ := len4 hl
    unfold formR at h
    simp only [if_true] at h
    split at h
    · cases hn : numsR 3 [x0, x1, x2] with
      | none => rw [hn] at h; cases h
      | some x => obtain ⟨u, v, t⟩ := x; rw [hn] at h; simp only [Option.some.injEq] at h; rw [← h]
    · cases h
  · unfold formR at h
    simp only [if_true] at h
    rcases l with _ | ⟨a, _ | ⟨b, _ | ⟨c, _ | ⟨e, _ | ⟨f, l⟩⟩⟩⟩⟩
    · cases h
    · cases h
    · cases h
    · cases h
    · exact absurd rfl hl
    · cases h
theorem acO_act {o : Option Ac} (h : ∀ a, o = some a → a.row = []) {B : Nat} {r : Ending} {w' : World} (hr : r = acO o) : ActP o B r w' := by
 subst hr
 cases o with
 | none => rfl
 | some a =>
  refine ⟨none, 0, rfl, ?_, fun p hp => by cases hp⟩
  rw [h a rfl]
  exact ⟨(fun v hv => by cases hv), by simp, fun h => absurd rfl h⟩
theorem rdF_all (d : Int) (wd : List UInt8) (c : Nat) (fl : Bool) (hf : formOf d = some (wd, c, fl)) (ws : List (List UInt8)) (hw : ∀ x ∈ ws, x.length ≤ 140737488355328) (hlw : ws.length ≤ 281474976710656) (g off cap a b : Nat) (w : World) (hL : LayS w) (hl : WsAt w g off ws) (ha : Blk w a #[.int .u8 d] 5) (hb : Blk w b #[.string (bsO wd), .int .i64 c, .bool fl] 129) :
 Calls Tryz.prog 130 #[.slice (some ⟨g, off, none⟩) ws.length cap, .pointer (some ⟨a, 0, none⟩), .pointer (some ⟨b, 0, none⟩)] w fun r w' => ActP (formR d c fl ws) w.heap.size r w' ∧ Below w.heap.size w w' := by
 obtain ⟨h1, h2⟩ := formOf_le hf
 have hw2 : ∀ x ∈ ws, x.length ≤ 281474976710656 := fun x hx => by have := hw x hx; omega
 cases fl with
 | false =>
  have hc : c = 0 ∨ c = 1 ∨ c = 2 ∨ c = 3 := by omega
  rcases hc with rfl | rfl | rfl | rfl
  · exact (rdF0_any d wd ws hw2 hlw g off cap a b w hL hl ha hb).mono fun _ _ h => ⟨acO_act (fun _ => formR_row) h.1, h.2⟩
  · exact (rdF1_any d wd ws hw2 hlw g off cap a b w hL hl ha hb).mono fun _ _ h => ⟨acO_act (fun _ => formR_row) h.1, h.2⟩
  · exact (rdF2_any d wd ws hw2 hlw g off cap a b w hL hl ha hb).mono fun _ _ h => ⟨acO_act (fun _ => formR_row) h.1, h.2⟩
  · exact (rdF3_any d wd ws hw2 hlw g off cap a b w hL hl ha hb).mono fun _ _ h => ⟨acO_act (fun _ => formR_row) h.1, h.2⟩
 | true =>
  obtain rfl := h2 rfl
  exact (rdFt_any d wd ws hw hlw g off cap a b w hL hl ha hb).mono fun _ _ h => ⟨acO_act (fun _ => formR_row) h.1, h.2⟩
theorem blk1r {w : World} {b : Nat} {a : Value} {t : TypeId} (h : Blk w b #[a] t) : b < w.heap.size ∧ w.cell? ⟨b, 0, none⟩ = some a := by
 have e0 := h.cell 0
 simp only [List.getElem?_toArray, List.getElem?_cons_zero] at e0
 exact ⟨h.lt, e0⟩
set_option maxRecDepth 100000 in
set_option maxHeartbeats 6400000 in
theorem readAct_any (s : ByteArray) (hs : s.size < 4294967281) (w : World) (hL : LayS w) :
 Calls Tryz.prog 52 #[.string s] w fun r w' => ActP (readA s.data.toList) w.heap.size r w' ∧ Below w.heap.size w w' := by
 have hb0 : Below w.heap.size w (w.alloc (.cells #[.int .u8 0, .int .u8 0, .int .i64 0, .slice none 0 0, .int .i64 0, .int .i64 0, .int .i64 0, .string ⟨#[]⟩] 42)) := bel1 _ _
 have hR0 := Blk.new w #[.int .u8 0, .int .u8 0, .int .i64 0, .slice none 0 0, .int .i64 0, .int .i64 0, .int .i64 0, .string ⟨#[]⟩] 42
 have HWD := hd_ (words_any s hs (w.alloc (.cells #[.int .u8 0, .int .u8 0, .int .i64 0, .slice none 0 0, .int .i64 0, .int .i64 0, .int .i64 0, .string ⟨#[]⟩] 42)) (hL.ext hb0))
 have HB0 := hd_ hb0
 have HR0 := hd_ hR0
 have HL := hd_ hL
 have hlen : s.data.toList.length = s.size := by simp
 have HLEN := hd_ hlen
 clear hb0 hR0 hL hlen
 generalize hO : readA s.data.toList = O
 go_enter Tryz.func52, Tryz.ntmps52
 go_wp2_with fail
 generalize w.alloc (.cells #[.int .u8 0, .int .u8 0, .int .i64 0, .slice none 0 0, .int .i64 0, .int .i64 0, .int .i64 0, .string ⟨#[]⟩] 42) = W0 at HWD HB0 HR0 ⊢
 cases hwf : wordsF s.data.toList with
 | none =>
  have hN : O = none := by rw [← hO]; unfold readA; rw [hwf]
  have HN := hd_ hN
  rw [hwf] at HWD
  clear hN hO hwf
  refine HWD.out.mono ?_
  rintro r w1 ⟨hr, hb1⟩
  obtain rfl : r = gaveW := hr
  unfold gaveW
  go_wp2_with fail
  exact ⟨rfl, by rw [HN.out]; rfl, bt HB0.out hb1⟩
 | some ws =>
  have hR : O = wordsR ws := by rw [← hO]; unfold readA; rw [hwf]
  rw [hwf] at HWD
  obtain ⟨hne, _, hjn⟩ := wordsF_some.1 hwf
  have hwl : ∀ x ∈ ws, x.length ≤ 4294967281 := fun x hx => by
   have := jn_len 32 ws x hx
   rw [hjn] at this
   have := HLEN.out
   omega
  have hlw : ws.length ≤ 4294967290 := by
   have := jn_ge 32 ws
   rw [hjn] at this
   have := HLEN.out
   omega
  clear hO hwf hjn
  rcases ws with _ | ⟨w0, l⟩
  · exact absurd rfl hne
  have HR := hd_ hR
  have HWL := hd_ hwl
  have HLW : Hid (l.length ≤ 4294967290) := by show _ ≤ _; simp at hlw; omega
  clear hR hwl hne hlw
  refine HWD.out.mono ?_
  rintro r w1 ⟨⟨g, rfl, hrow, hgb⟩, hb1⟩
  have hBW := bt HB0.out hb1
  have HR1 := hd_ (HR0.out.ext hb1)
  have HBW := hd_ hBW
  have HROW := hd_ hrow
  have hl1 : W0.heap.size ≤ w1.heap.size := hb1.size
  have HRD := hd_ (fun W : World => readers_any W)
  clear hb1 hBW hrow hgb HWD
  simp only [List.length_cons]
  go_upto_region 2 with fail
  go_cut [4, 5] (fun p q wx => ∃ b u, p = .pointer (some ⟨b, 0, none⟩) ∧ q = .bool (hasW w0) ∧ Blk wx b #[u] 147 ∧ LkU w0 u wx ∧ Below w1.heap.size w1 wx)
  case first =>
   refine region_pairG 8 9 #[.nilFunc] (FPu w0) 147 [false, false, false, false, true, true, false, false, true, true, true, true, true, true, true, true, false, false, false, false, false, false, false] [9, 10, 11, 12, 13, 8, 14, 15, 4, 0, 5] [kRd, .val (.slice (some ⟨g, 0, none⟩) (l.length + 1) (l.length + 1)), .val (.pointer (some ⟨g, 0, none⟩)), .val (.string (bsO w0)), kLk w0, kLk w0, kLu w0, .val (.bool (hasW w0)), kPair w1.heap.size #[.nilFunc] 147, kAny, .val (.bool (hasW w0))] [10] rfl ?fp ?kp (by kernel_rfl) (show 8 < 11 by decide) (show 9 < 11 by decide) (by kernel_rfl) (by kernel_rfl) (by kernel_rfl) (by kernel_rfl) (by kernel_rfl) ⟨?_, ?_, ?_, ?_, ?_, ?_, ?_, ?_, ?_, ?store, ?_, trivial⟩ ?done
   case fp =>
    rintro F wa wb ⟨u, rfl, hu⟩ hb
    exact ⟨u, rfl, hu.below hb⟩
   case kp =>
    intro F i h8 h9
    match i, h8, h9 with
    | 0, _, _ => exact fun v w g _ hg ⟨B, M, e, h⟩ => ⟨B, M, e, h.put hg F⟩
    | 1, _, _ | 2, _, _ | 3, _, _ | 7, _, _ | 10, _, _ => exact KP.val _
    | 4, _, _ | 5, _, _ => exact fun v w g _ hg ⟨u, e, h⟩ => ⟨u, e, h.put hg F⟩
    | 6, _, _ => exact fun v w g _ hg ⟨u, e, h⟩ => ⟨u, e, h.put hg F⟩
    | n + 11, _, _ => exact fun _ _ _ _ _ _ => trivial
   case done =>
    rintro x w2 b _ hb2 hg hB ⟨u, rfl, hu⟩
    simp only [StepGoal, overlay, upd, cond_true, cond_false, List.getD_cons_zero, List.getD_cons_succ, Nat.zero_add, Nat.reduceAdd, Nat.reduceEqDiff, reduceIte]
    go_wp2_with fail
    go_meet
    exact ⟨b, u, rfl, rfl, hB, hu, hb2⟩
   case store =>
    rintro x w2 b hb2 hg hB v6 h6 v0 h0 v0' h0' v4 h4 v5 h5 _ ⟨u, rfl, hu⟩ K hK
    have hu2 := hu.put hB #[u]
    obtain ⟨w5, rfl, lt⟩ := blk_put hB
    obtain ⟨pc, pf, pS⟩ := putBlk_facts (w := w5) 147 lt
    simp only [putputS] at hK hu2
    clear hB hb2 h6 h0 h0' h4 h5 hu
    rcases LkU_form hu2 with ⟨fn, f1, f2, rfl⟩ | rfl
    · rw [if_pos (by rfl)]; simp only [overlay, upd, cond_true, cond_false, List.getD_cons_zero, List.getD_cons_succ, Nat.reduceEqDiff, reduceIte]
      go_simp
      exact hK.out undef _ ⟨_, rfl, hu2⟩
    · rw [if_pos (by rfl)]; simp only [overlay, upd, cond_true, cond_false, List.getD_cons_zero, List.getD_cons_succ, Nat.reduceEqDiff, reduceIte]
      go_simp
      exact hK.out undef _ ⟨_, rfl, hu2⟩
   all_goals
    intro x w2 hb2
    have hrow2 := HROW.out.ext hb2
    have hx0 := hrow2.at_ (j := 0) (x := w0) rfl
    have hgl := hrow2.lt
    have hpos : (0 : Int) < (l.length + 1 : Nat) := by omega
    first
     | (intro K hK
        rw [if_pos (by rfl)]; simp only [overlay, upd, cond_true, cond_false, List.getD_cons_zero, List.getD_cons_succ, Nat.reduceEqDiff, reduceIte]
        go_simp
        first
         | exact hK.out _ _ (Below.refl _ _) rfl
         | exact hK.out _ _ (by repeat (first | exact Below.refl _ _ | assumption | refine Below.drew ?_ | refine below_drewN ?_ _ | refine Below.alloc ?_ (by simp <;> omega) _)) ⟨_, rfl, hb2.size, Blk.new _ _ _⟩
         | ((with_reducible refine (HRD.out _).mono ?_); rintro e wa ⟨M, rfl, hm, hba⟩; go_wp2_with fail; exact hK.out _ _ hba ⟨_, M, rfl, hm⟩))
     | (rintro v ⟨B, M, rfl, hM⟩ K hK
        obtain ⟨u, hlk, hu⟩ := hM.look w0 (by have := HWL.out w0 (by simp); omega)
        rw [if_pos (by rfl)]; simp only [overlay, upd, cond_true, cond_false, List.getD_cons_zero, List.getD_cons_succ, Nat.reduceEqDiff, reduceIte]
        go_simp
        exact hK.out _ _ (Below.refl _ _) ⟨u, rfl, hu⟩)
     | (rintro v ⟨u, rfl, hu⟩ K hK
        rw [if_pos (by rfl)]; simp only [overlay, upd, cond_true, cond_false, List.getD_cons_zero, List.getD_cons_succ, Nat.reduceEqDiff, reduceIte]
        go_simp
        first
         | exact hK.out _ _ (Below.refl _ _) ⟨u, rfl, hu⟩
         | exact hK.out _ _ (Below.refl _ _) rfl)
     | (intro v0 h0 v4 h4 v5 h5 v6 h6 K hK
        rw [if_pos (by rfl)]; simp only [overlay, upd, cond_true, cond_false, List.getD_cons_zero, List.getD_cons_succ, Nat.reduceEqDiff, reduceIte]
        go_simp
        exact hK.out _ _ (Below.refl _ _) rfl)
  case rest =>
   obtain ⟨b, u, rfl, rfl, hB, hu, hb2⟩ := hcut
   have HB2 := hd_ hB
   have HU := hd_ hu
   have HBW2 := hd_ (bt HBW.out hb2)
   have HR2 := hd_ (HR1.out.ext hb2)
   have HROW2 := hd_ (HROW.out.ext hb2)
   clear hB hu hb2 HBW HR1 HROW HRD
   cases hh : hasW w0 with
   | false =>
    unfold hasW at hh
    simp only [Bool.or_eq_false_iff, Option.isSome_eq_false_iff, Option.isNone_iff_eq_none] at hh
    have hN : O = none := by rw [HR.out, wordsR_no hh.1 hh.2]
    have HN := hd_ hN
    clear hN hh
    go_wp2_with fail
    refine (need_no _).mono ?_
    rintro r w3 ⟨rfl, rfl⟩
    unfold gaveW
    go_wp2_with fail
    exact ⟨rfl, by rw [HN.out]; rfl, HBW2.out⟩
   | true =>
    go_wp2_with fail
    refine (need_yes _).mono ?_
    rintro r w9 ⟨rfl, rfl⟩
    have hU := HU.out
    have hL9 := HL.out.ext HBW2.out
    unfold LkU at hU
    unfold hasW at hh
    cases ho : opAt w0 with
    | some k =>
     rw [ho] at hU
     obtain ⟨a, rfl, ha⟩ := hU
     obtain ⟨lB, cB⟩ := blk1r HB2.out
     have hk := (opAt_some.1 ho).1
     rw [wordsR_op ho] at HR
     have hE := HR.out
     clear HR ho hh
     rcases l with _ | ⟨y, l⟩
     · simp only [List.length_nil, Nat.zero_add]
       go_upto_region 4 with fail
       go_still_tail 4, (by kernel_rfl)
       change wpList _ _ _ _ _ w9.drew
       have hd9 : Below w9.heap.size w9 w9.drew := Below.drew (Below.refl _ _)
       have HR3 := hd_ (HR2.out.ext hd9)
       have HBW3 := hd_ (bt HBW2.out hd9)
       have HC := (fun (hd : Below w9.heap.size w9 w9.drew) => (show Calls Tryz.prog 133 #[.slice (some ⟨g, 0, none⟩) 0 0, .pointer (some ⟨a, 0, none⟩)] w9.drew (fun r w' => ActP O w9.drew.heap.size r w' ∧ Below w9.drew.heap.size w9.drew w') from hE ▸ rdOp_any k hk [] (fun x hx => by cases hx) (by simp) g 0 a w9.drew (hL9.ext hd) ⟨(HROW2.out.ext hd).lt, fun j x hj => by simp at hj⟩ (ha.ext hd))) hd9
       have HC := hd_ HC
       clear HB2 HU HBW2 HR2 HROW2 hd9 cB
       generalize w9.drew = w3 at HR3 HBW3 HC ⊢
       go_wp2_with fail
       cases ho : O with
       | none =>
        rw [ho] at HC
        have HN := hd_ ho
        clear ho
        refine HC.out.mono ?_
        rintro r w5 ⟨hr, hb5⟩
        obtain rfl : r = gaveW := hr
        unfold gaveW
        go_wp2_with fail
        exact ⟨rfl, by rw [HN.out]; rfl, HBW3.out.trans (hb5.mono HBW3.out.size)⟩
       | some ac =>
        rw [ho] at HC
        have HN := hd_ ho
        clear ho
        refine HC.out.mono ?_
        rintro r w5 ⟨⟨A, cA, rfl, hvr, hA⟩, hb5⟩
        have hR5 := HR3.out.ext hb5
        have hB5 := HBW3.out.trans (hb5.mono HBW3.out.size)
        have hsz3 : w.heap.size < w3.heap.size := HR3.out.lt
        obtain ⟨xd, xk, xtb, xrow, xn, xm, xq, xnm⟩ := ac
        unfold Ac.agg
        simp only at hvr ⊢
        obtain ⟨w6, rfl, lt⟩ := blk_put hR5
        obtain ⟨pc, pf, pS⟩ := putBlk_facts (w := w6) 42 lt
        have HVR := hd_ (hvr.put (fun p hp => Nat.lt_of_lt_of_le hsz3 (hA p hp)) #[.int .u8 xd, .int .u8 xk, .int .i64 xtb, .slice A xrow.length cA, .int .i64 xn, .int .i64 xm, .int .i64 xq, .string xnm])
        have HBF := hd_ (putBlk_belows hB5 (Nat.le_refl _) #[.int .u8 xd, .int .u8 xk, .int .i64 xtb, .slice A xrow.length cA, .int .i64 xn, .int .i64 xm, .int .i64 xq, .string xnm])
        have HPA : Hid (∀ p, A = some p → w.heap.size ≤ p.block) := fun p hp => Nat.le_of_lt (Nat.lt_of_lt_of_le hsz3 (hA p hp))
        clear hvr hA hb5 hR5 hB5 hsz3
        go_wp2_with fail
        refine bodyPost_ret (v := Ac.agg ⟨xd, xk, xtb, xrow, xn, xm, xq, xnm⟩ A cA) (by simp [results, Tryz.results52, go_sem, Ac.agg, pc]) rfl ?_
        refine ⟨?_, HBF.out⟩
        rw [HN.out]
        exact ⟨A, cA, rfl, HVR.out, HPA.out⟩
     · simp only [List.length_cons]
       go_upto_region 4 with fail
       have HCC := hd_ (fun (W : World) (hd : Below w9.heap.size w9 W) => (show Calls Tryz.prog 133 #[.slice (some ⟨g, 1, none⟩) (l.length + 1) (l.length + 1), .pointer (some ⟨a, 0, none⟩)] W (fun r w' => ActP O W.heap.size r w' ∧ Below W.heap.size W w') from hE ▸ rdOp_any k hk (y :: l) (fun x hx => by have := HWL.out x (List.mem_cons_of_mem _ hx); omega) (by have := HLW.out; omega) g 1 a W (hL9.ext hd) ⟨(HROW2.out.ext hd).lt, fun j x hj => (HROW2.out.ext hd).at_ (j := 1 + j) (x := x) (by rw [Nat.add_comm]; simpa using hj)⟩ (ha.ext hd)))
       refine region_tail 4 [false, false, false, false, false, false, false, false, false, false, false, false, false, false, false, false, false, false, true, true, true, true, false] [18, 19, 20, 21] [.val (.pointer (some ⟨b, 0, none⟩)), .val (.func (Fn.func 133) #[] #[.pointer (some ⟨a, 0, none⟩)]), .val (.slice (some ⟨g, 0, none⟩) (l.length + 1 + 1) (l.length + 1 + 1)), .val (.slice (some ⟨g, 1, none⟩) (l.length + 1) (l.length + 1))] [1, 3] (by kernel_rfl) (by decide) (by kernel_rfl) (by kernel_rfl) (by kernel_rfl) (by kernel_rfl) (by kernel_rfl) (by kernel_rfl) ⟨?_, ?_, ?_, ?_, trivial⟩ ?done
       case done =>
        intro x w3 hd9
        simp only [StepGoal, List.getD_cons_zero, List.getD_cons_succ]
        intro K1 hK1
        have HR3 := hd_ (HR2.out.ext hd9)
        have HBW3 := hd_ (bt HBW2.out hd9)
        have HC := HCC.out w3 hd9
        clear HB2 HU HBW2 HR2 HROW2 hd9 HCC
        rw [if_pos (by rfl)]; simp only [overlay, upd, cond_true, cond_false, Nat.reduceEqDiff, reduceIte]
        go_simp
        cases ho : O with
        | none =>
         rw [ho] at HC
         have HN := hd_ ho
         clear ho
         refine HC.mono ?_
         rintro r w5 ⟨hr, hb5⟩
         obtain rfl : r = gaveW := hr
         unfold gaveW
         go_wp2_with fail
         exact ⟨rfl, by rw [HN.out]; rfl, HBW3.out.trans (hb5.mono HBW3.out.size)⟩
        | some ac =>
         rw [ho] at HC
         have HN := hd_ ho
         clear ho
         refine HC.mono ?_
         rintro r w5 ⟨⟨A, cA, rfl, hvr, hA⟩, hb5⟩
         have hR5 := HR3.out.ext hb5
         have hB5 := HBW3.out.trans (hb5.mono HBW3.out.size)
         have hsz3 : w.heap.size < w3.heap.size := HR3.out.lt
         obtain ⟨xd, xk, xtb, xrow, xn, xm, xq, xnm⟩ := ac
         unfold Ac.agg
         simp only at hvr ⊢
         obtain ⟨w6, rfl, lt⟩ := blk_put hR5
         obtain ⟨pc, pf, pS⟩ := putBlk_facts (w := w6) 42 lt
         have HVR := hd_ (hvr.put (fun p hp => Nat.lt_of_lt_of_le hsz3 (hA p hp)) #[.int .u8 xd, .int .u8 xk, .int .i64 xtb, .slice A xrow.length cA, .int .i64 xn, .int .i64 xm, .int .i64 xq, .string xnm])
         have HBF := hd_ (putBlk_belows hB5 (Nat.le_refl _) #[.int .u8 xd, .int .u8 xk, .int .i64 xtb, .slice A xrow.length cA, .int .i64 xn, .int .i64 xm, .int .i64 xq, .string xnm])
         have HPA : Hid (∀ p, A = some p → w.heap.size ≤ p.block) := fun p hp => Nat.le_of_lt (Nat.lt_of_lt_of_le hsz3 (hA p hp))
         clear hvr hA hb5 hR5 hB5 hsz3
         refine hK1.out _ _ ?_
         intro K2 hK2
         rw [if_pos (by rfl)]
         go_simp
         refine hK2.out _ _ (tailNil ?_)
         go_wp2_with fail
         refine bodyPost_ret (v := Ac.agg ⟨xd, xk, xtb, xrow, xn, xm, xq, xnm⟩ A cA) (by simp [results, Tryz.results52, go_sem, Ac.agg, pc]) rfl ?_
         refine ⟨?_, HBF.out⟩
         rw [HN.out]
         exact ⟨A, cA, rfl, HVR.out, HPA.out⟩
       all_goals
        intro x w3 hd9
        obtain ⟨lC, cC⟩ := blk1r (HB2.out.ext hd9)
        have hpv : (1 : Int) ≤ (l.length : Int) + 1 + 1 := by omega
        intro K hK
        rw [if_pos (by rfl)]; simp only [overlay, upd, cond_true, cond_false, List.getD_cons_zero, List.getD_cons_succ, Nat.reduceEqDiff, reduceIte]
        go_simp
        exact hK.out _ _ (Below.refl _ _) rfl
    | none =>
     rw [ho] at hU
     cases hfa : formAt w0 with
     | none => rw [ho, hfa] at hh; cases hh
     | some x =>
      obtain ⟨d, c, fl⟩ := x
      rw [hfa] at hU
      obtain ⟨a, a2, rfl, ha, ha2⟩ := hU
      obtain ⟨lB, cB⟩ := blk1r HB2.out
      rw [wordsR_form ho hfa] at HR
      have hE := HR.out
      clear HR ho hh
      rcases l with _ | ⟨y, l⟩
      · simp only [List.length_nil, Nat.zero_add]
        go_upto_region 4 with fail
        go_still_tail 4, (by kernel_rfl)
        change wpList _ _ _ _ _ w9.drew
        have hd9 : Below w9.heap.size w9 w9.drew := Below.drew (Below.refl _ _)
        have HR3 := hd_ (HR2.out.ext hd9)
        have HBW3 := hd_ (bt HBW2.out hd9)
        have HC := (fun (hd : Below w9.heap.size w9 w9.drew) => (show Calls Tryz.prog 130 #[.slice (some ⟨g, 0, none⟩) 0 0, .pointer (some ⟨a, 0, none⟩), .pointer (some ⟨a2, 0, none⟩)] w9.drew (fun r w' => ActP O w9.drew.heap.size r w' ∧ Below w9.drew.heap.size w9.drew w') from hE ▸ rdF_all d w0 c fl (formOf_at hfa) [] (fun x hx => by cases hx) (by simp) g 0 0 a a2 w9.drew (hL9.ext hd) ⟨(HROW2.out.ext hd).lt, fun j x hj => by simp at hj⟩ (ha.ext hd) (ha2.ext hd))) hd9
        have HC := hd_ HC
        clear HB2 HU HBW2 HR2 HROW2 hd9 cB
        generalize w9.drew = w3 at HR3 HBW3 HC ⊢
        go_wp2_with fail
        cases ho : O with
        | none =>
         rw [ho] at HC
         have HN := hd_ ho
         clear ho
         refine HC.out.mono ?_
         rintro r w5 ⟨hr, hb5⟩
         obtain rfl : r = gaveW := hr
         unfold gaveW
         go_wp2_with fail
         exact ⟨rfl, by rw [HN.out]; rfl, HBW3.out.trans (hb5.mono HBW3.out.size)⟩
        | some ac =>
         rw [ho] at HC
         have HN := hd_ ho
         clear ho
         refine HC.out.mono ?_
         rintro r w5 ⟨⟨A, cA, rfl, hvr, hA⟩, hb5⟩
         have hR5 := HR3.out.ext hb5
         have hB5 := HBW3.out.trans (hb5.mono HBW3.out.size)
         have hsz3 : w.heap.size < w3.heap.size := HR3.out.lt
         obtain ⟨xd, xk, xtb, xrow, xn, xm, xq, xnm⟩ := ac
         unfold Ac.agg
         simp only at hvr ⊢
         obtain ⟨w6, rfl, lt⟩ := blk_put hR5
         obtain ⟨pc, pf, pS⟩ := putBlk_facts (w := w6) 42 lt
         have HVR := hd_ (hvr.put (fun p hp => Nat.lt_of_lt_of_le hsz3 (hA p hp)) #[.int .u8 xd, .int .u8 xk, .int .i64 xtb, .slice A xrow.length cA, .int .i64 xn, .int .i64 xm, .int .i64 xq, .string xnm])
         have HBF := hd_ (putBlk_belows hB5 (Nat.le_refl _) #[.int .u8 xd, .int .u8 xk, .int .i64 xtb, .slice A xrow.length cA, .int .i64 xn, .int .i64 xm, .int .i64 xq, .string xnm])
         have HPA : Hid (∀ p, A = some p → w.heap.size ≤ p.block) := fun p hp => Nat.le_of_lt (Nat.lt_of_lt_of_le hsz3 (hA p hp))
         clear hvr hA hb5 hR5 hB5 hsz3
         go_wp2_with fail
         refine bodyPost_ret (v := Ac.agg ⟨xd, xk, xtb, xrow, xn, xm, xq, xnm⟩ A cA) (by simp [results, Tryz.results52, go_sem, Ac.agg, pc]) rfl ?_
         refine ⟨?_, HBF.out⟩
         rw [HN.out]
         exact ⟨A, cA, rfl, HVR.out, HPA.out⟩
      · simp only [List.length_cons]
        go_upto_region 4 with fail
        have HCC := hd_ (fun (W : World) (hd : Below w9.heap.size w9 W) => (show Calls Tryz.prog 130 #[.slice (some ⟨g, 1, none⟩) (l.length + 1) (l.length + 1), .pointer (some ⟨a, 0, none⟩), .pointer (some ⟨a2, 0, none⟩)] W (fun r w' => ActP O W.heap.size r w' ∧ Below W.heap.size W w') from hE ▸ rdF_all d w0 c fl (formOf_at hfa) (y :: l) (fun x hx => by have := HWL.out x (List.mem_cons_of_mem _ hx); omega) (by have := HLW.out; omega) g 1 (l.length + 1) a a2 W (hL9.ext hd) ⟨(HROW2.out.ext hd).lt, fun j x hj => (HROW2.out.ext hd).at_ (j := 1 + j) (x := x) (by rw [Nat.add_comm]; simpa using hj)⟩ (ha.ext hd) (ha2.ext hd)))
        refine region_tail 4 [false, false, false, false, false, false, false, false, false, false, false, false, false, false, false, false, false, false, true, true, true, true, false] [18, 19, 20, 21] [.val (.pointer (some ⟨b, 0, none⟩)), .val (.func (Fn.func 130) #[] #[.pointer (some ⟨a, 0, none⟩), .pointer (some ⟨a2, 0, none⟩)]), .val (.slice (some ⟨g, 0, none⟩) (l.length + 1 + 1) (l.length + 1 + 1)), .val (.slice (some ⟨g, 1, none⟩) (l.length + 1) (l.length + 1))] [1, 3] (by kernel_rfl) (by decide) (by kernel_rfl) (by kernel_rfl) (by kernel_rfl) (by kernel_rfl) (by kernel_rfl) (by kernel_rfl) ⟨?_, ?_, ?_, ?_, trivial⟩ ?done
        case done =>
         intro x w3 hd9
         simp only [StepGoal, List.getD_cons_zero, List.getD_cons_succ]
         intro K1 hK1
         have HR3 := hd_ (HR2.out.ext hd9)
         have HBW3 := hd_ (bt HBW2.out hd9)
         have HC := HCC.out w3 hd9
         clear HB2 HU HBW2 HR2 HROW2 hd9 HCC
         rw [if_pos (by rfl)]; simp only [overlay, upd, cond_true, cond_false, Nat.reduceEqDiff, reduceIte]
         go_simp
         cases ho : O with
         | none =>
          rw [ho] at HC
          have HN := hd_ ho
          clear ho
          refine HC.mono ?_
          rintro r w5 ⟨hr, hb5⟩
          obtain rfl : r = gaveW := hr
          unfold gaveW
          go_wp2_with fail
          exact ⟨rfl, by rw [HN.out]; rfl, HBW3.out.trans (hb5.mono HBW3.out.size)⟩
         | some ac =>
          rw [ho] at HC
          have HN := hd_ ho
          clear ho
          refine HC.mono ?_
          rintro r w5 ⟨⟨A, cA, rfl, hvr, hA⟩, hb5⟩
          have hR5 := HR3.out.ext hb5
          have hB5 := HBW3.out.trans (hb5.mono HBW3.out.size)
          have hsz3 : w.heap.size < w3.heap.size := HR3.out.lt
          obtain ⟨xd, xk, xtb, xrow, xn, xm, xq, xnm⟩ := ac
          unfold Ac.agg
          simp only at hvr ⊢
          obtain ⟨w6, rfl, lt⟩ := blk_put hR5
          obtain ⟨pc, pf, pS⟩ := putBlk_facts (w := w6) 42 lt
          have HVR := hd_ (hvr.put (fun p hp => Nat.lt_of_lt_of_le hsz3 (hA p hp)) #[.int .u8 xd, .int .u8 xk, .int .i64 xtb, .slice A xrow.length cA, .int .i64 xn, .int .i64 xm, .int .i64 xq, .string xnm])
          have HBF := hd_ (putBlk_belows hB5 (Nat.le_refl _) #[.int .u8 xd, .int .u8 xk, .int .i64 xtb, .slice A xrow.length cA, .int .i64 xn, .int .i64 xm, .int .i64 xq, .string xnm])
          have HPA : Hid (∀ p, A = some p → w.heap.size ≤ p.block) := fun p hp => Nat.le_of_lt (Nat.lt_of_lt_of_le hsz3 (hA p hp))
          clear hvr hA hb5 hR5 hB5 hsz3
          refine hK1.out _ _ ?_
          intro K2 hK2
          rw [if_pos (by rfl)]
          go_simp
          refine hK2.out _ _ (tailNil ?_)
          go_wp2_with fail
          refine bodyPost_ret (v := Ac.agg ⟨xd, xk, xtb, xrow, xn, xm, xq, xnm⟩ A cA) (by simp [results, Tryz.results52, go_sem, Ac.agg, pc]) rfl ?_
          refine ⟨?_, HBF.out⟩
          rw [HN.out]
          exact ⟨A, cA, rfl, HVR.out, HPA.out⟩
        all_goals
         intro x w3 hd9
         obtain ⟨lC, cC⟩ := blk1r (HB2.out.ext hd9)
         have hpv : (1 : Int) ≤ (l.length : Int) + 1 + 1 := by omega
         intro K hK
         rw [if_pos (by rfl)]; simp only [overlay, upd, cond_true, cond_false, List.getD_cons_zero, List.getD_cons_succ, Nat.reduceEqDiff, reduceIte]
         go_simp
         exact hK.out _ _ (Below.refl _ _) rfl
end Go.Proofs.YtfekohonidggjaaGreatDoor
