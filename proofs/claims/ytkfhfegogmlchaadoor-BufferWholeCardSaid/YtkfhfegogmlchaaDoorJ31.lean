/- Several texts in one: see each part's head. -/
import Derived.Test.YtkfhfegogmlchaaDoorJ30
import Derived.Test.YtkfhfegogmlchaaDoorJ24
import Derived.Test.YtkfhfegogmlchaaDoorJ25
import Derived.Test.YtkfhfegogmlchaaDoorJ27
import Derived.Test.YtkfhfegogmlchaaDoorJ15
/- An event comes: what it turns, and what stays. -/
namespace Go.Proofs.YtkfhfegogmlchaaDoor
open Go.RowKit

set_option maxRecDepth 100000 in
theorem event_genz (B nt k c c2 : Nat) (tx tot nth kd bd nx : Int) (has : Bool) (l : List Tb) (bf af : List V) (A A2 : Option Addr) (w : World)
    (h : BuR B nt bd nx has 0 l w) (hd : Dis l) (hl : l.length ≤ 40) (he : EvOk k nt bd nx tx tot nth kd has bf af A A2 c c2 l w) :
    Calls Tryd.prog 18 #[.pointer (some ⟨B, 0, none⟩), .agg #[.int .u64 tx, .int .i64 tot, .int .i64 nth, .int .u8 kd, .int .i64 k, .slice A bf.length c, .slice A2 af.length c2]] w fun r w' => ∃ is : Bool, r = .returned (.tuple #[.bool is, .int .i64 0]) ∧ BelF B w w' ∧ Ev1Pz B nt bd nx 0 has l k tx tot nth kd bf af w r w' := by
  have hC : Below w.heap.size w ((w.alloc (.cells #[.pointer (some ⟨B, 0, none⟩)] 42)).alloc (.cells #[.int .u64 tx, .int .i64 tot, .int .i64 nth, .int .u8 kd, .int .i64 k, .slice A bf.length c, .slice A2 af.length c2] 59)) := (by repeat (first | exact Below.refl _ _ | assumption | refine Below.drew ?_ | refine below_drewN ?_ _ | refine Below.alloc ?_ (by simp <;> omega) _))
  have hq : Blk ((w.alloc (.cells #[.pointer (some ⟨B, 0, none⟩)] 42)).alloc (.cells #[.int .u64 tx, .int .i64 tot, .int .i64 nth, .int .u8 kd, .int .i64 k, .slice A bf.length c, .slice A2 af.length c2] 59)) w.heap.size #[.pointer (some ⟨B, 0, none⟩)] 42 := (Blk.new w _ _).old _
  have hp : Blk ((w.alloc (.cells #[.pointer (some ⟨B, 0, none⟩)] 42)).alloc (.cells #[.int .u64 tx, .int .i64 tot, .int .i64 nth, .int .u8 kd, .int .i64 k, .slice A bf.length c, .slice A2 af.length c2] 59)) (w.heap.size + 1) #[.int .u64 tx, .int .i64 tot, .int .i64 nth, .int .u8 kd, .int .i64 k, .slice A bf.length c, .slice A2 af.length c2] 59 := (by repeat (first | exact Blk.at (by simp) | assumption | refine Blk.drew ?_ | refine Blk.old ?_ _))
  have hBl : B < w.heap.size := by obtain ⟨v, hb, _⟩ := h.b; exact hb.lt
  have HTK := Lib.hid (takenE B nt (w.heap.size + 1) w.heap.size bd nx has l (fun is W => BelF B w W ∧ Ev1Pz B nt bd nx 0 has l k tx tot nth kd bf af w (.returned (.tuple #[.bool is, .int .i64 0])) W) _ (h.ext hC)
    ((ev1_genz (w.heap.size + 1) w.heap.size B nt k bd nx 0 tx tot nth kd has bf af A A2 c c2 l _ (he.tb.ext hC) (by omega) hp hq (h.ext hC) hd hl he.kl he.ev (he.r1.ext hC) (he.r2.ext hC) he.l1 he.l2 he.z1 he.z2 he.nx he.tk).mono (by
      rintro r w1 (⟨h1, rfl, hbel⟩ | ⟨l1, t, l2, v, h1, h2, rfl, hbel, h3, h4⟩)
      · exact ⟨false, rfl, BelF.of (bt hC hbel) (Nat.le_of_lt hBl), Or.inl ⟨h1, rfl, bt hC hbel⟩⟩
      · have hB2 := (BelF.of hC (Nat.le_of_lt hBl)).trans hbel
        exact ⟨true, rfl, hB2, Or.inr ⟨l1, t, l2, v, h1, h2, rfl, hB2, h3, h4⟩⟩)))
  clear hC hq hp h hd he
  go_enter Tryd.func18, Tryd.ntmps18
  go_wp2_with fail
  refine HTK.out.mono ?_
  rintro r w2 ⟨is, rfl, hbel, hq⟩
  have HQ := Lib.hid hq
  have HBL := Lib.hid hbel
  clear hq HTK hbel
  go_wp2_with fail
  go_ret2
  exact ⟨is, rfl, HBL.out, HQ.out⟩
end Go.Proofs.YtkfhfegogmlchaaDoor

/- The buffer, in general: Drop. -/
namespace Go.Proofs.YtkfhfegogmlchaaDoor
open Go.RowKit

def dropA (g off n : Nat) : Option Addr := if n = 1 then some ⟨g, off, none⟩ else some ⟨g, off + 1, none⟩
set_option maxRecDepth 100000 in
theorem drop_slice (g off n c ln : Nat) (hn : n = ln + 1) (hc : n ≤ c) (W : World) :
    (Instr.slice 83 (.slice (some ⟨g, off, none⟩) n c) (some (.int .i64 1)) (some (.int .i64 n)) (some (.int .i64 n))).run Tryd.prog W = .ok (.slice (dropA g off n) ln ln) W := by
  have h := run_slice_lhm (P := Tryd.prog) (w := W) 83 (some ⟨g, off, none⟩) n c rfl .i64 .i64 .i64 1 n n (by omega) (by omega) (by omega) (by omega)
  rw [h]
  have hs : (sizeOf (Tryd.prog.elem 83)).run Tryd.prog W = .ok 1 W := by kernel_rfl
  rw [hs]
  simp only [Result.andThen, sliced, dropA]
  have e1 : (n : Int).toNat = n := by omega
  have e2 : (1 : Int).toNat = 1 := rfl
  rw [e1, e2, show n - 1 = ln by omega]
  by_cases h1 : n = 1
  · rw [if_pos h1, if_pos h1]
  · rw [if_neg h1, if_neg h1]
    simp [addr_add]
/-- What is left of a list. -/
theorem PtrL.drop {lo : Nat} {w : World} {g off c x n : Nat} {ps : List Nat} (h : PtrL lo w (.slice (some ⟨g, off, none⟩) n c) (x :: ps)) (hn : n = ps.length + 1) : PtrL lo w (.slice (dropA g off n) ps.length ps.length) ps := by
  obtain ⟨A, c', e, h1, h2⟩ := h
  simp only [Value.slice.injEq] at e
  obtain ⟨rfl, _, rfl⟩ := e
  obtain ⟨g', off', e, hl, hlt, hc⟩ := h1 (by simp)
  simp only [Option.some.injEq, Addr.mk.injEq, and_true] at e
  obtain ⟨rfl, rfl⟩ := e
  have hty : ∃ cs f, w.heap[g]? = some (.cells cs 90 f) := by
    rcases h2 with h2 | h2
    · rcases h2.2 with ⟨e, _⟩ | ⟨g2, cap, cur, e, _, hh, _⟩
      · cases e
      · simp only [Value.slice.injEq, Option.some.injEq, Addr.mk.injEq] at e
        obtain ⟨⟨rfl, _⟩, _⟩ := e
        exact ⟨cur, _, hh⟩
    · exact h2.2 _ rfl
  refine ⟨dropA g off n, ps.length, rfl, fun hne => ?_, Or.inr ⟨rfl, fun a ha => ?_⟩⟩
  · have hp := List.length_pos_iff.2 hne
    refine ⟨g, off + 1, by unfold dropA; rw [if_neg (by omega)], hl, hlt, fun i p hi => ?_⟩
    have := hc (i + 1) p (by simpa using hi)
    rw [show off + 1 + i = off + (i + 1) by omega]
    exact this
  · unfold dropA at ha
    split at ha
    · obtain rfl := Option.some.inj ha
      exact hty
    · obtain rfl := Option.some.inj ha
      exact hty
/-- The buffer's own block is told anew. -/
theorem BuR.self {B nt : Nat} {bd nx nx' : Int} {has has' : Bool} {fa fa' : Int} {l l' : List Tb} {w w' : World} {v : Value} (h : BuR B nt bd nx has fa l w) (hg : w.grownBy w' (some B)) (hb : Blk w' B #[.int .i64 nt, .int .i64 bd, .int .u64 nx', .bool has', v, .int .i64 fa'] 85) (hp : PtrL B w v (l'.map (·.X))) (hs : ∀ t ∈ l', t ∈ l) : BuR B nt bd nx' has' fa' l' w' := by
  obtain ⟨v0, h0, _⟩ := h.b
  exact ⟨⟨v, hb, hp.keep hg (NoT.blk h0 (by decide))⟩, fun t ht => (h.t t (hs t ht)).farB hg h0 (by decide) (by decide) (by decide) (fun e => absurd e (by decide)) (fun e => absurd e (by decide))⟩
end Go.Proofs.YtkfhfegogmlchaaDoor

/- The next transaction is let go: all but the buffer's own block stays. -/
namespace Go.Proofs.YtkfhfegogmlchaaDoor
open Go.RowKit

set_option maxRecDepth 100000 in
set_option maxHeartbeats 1600000 in
set_option linter.unusedSimpArgs false in
theorem drop_genz (B nt : Nat) (bd nx : Int) (has : Bool) (t : Tb) (f : Fi) (l : List Tb) (w : World) (h : BuR B nt bd nx has 0 (t :: l) w) (hw : Whole t f) (hbd : ∀ u ∈ l, ∀ f, u.fin = some f → f.cnt.sum ≤ bd) :
    Calls Tryd.prog 13 #[.pointer (some ⟨B, 0, none⟩)] w fun r w' => r = .returned (.int .i64 0) ∧ Below B w w' ∧ BuR B nt bd (IntKind.u64.wrap (nx + 1)) has 0 l w' ∧ FrS (fun T => T ≠ 85) w w' := by
  have HPK := Lib.hid (peek_gen B nt bd nx has t f l w h hw)
  have HB0 := Lib.hid h
  have HBD := Lib.hid hbd
  have hBw : B < w.heap.size := by obtain ⟨v, hb, _⟩ := h.b; exact hb.lt
  clear h hw hbd
  go_enter Tryd.func13, Tryd.ntmps13
  go_wp2_with fail
  refine HPK.out.mono ?_
  rintro r w1 ⟨hb, v2, ps, g1, c1, g2, c2, rfl, _, _, _⟩
  have HC := Lib.hid hb
  clear hb HPK
  go_upto_region 4 with fail
  have hCA : Below w1.heap.size w1 (w1.alloc (.cells #[.int .u8 2, .int .u64 t.n, .slice (some ⟨g1, 0, none⟩) f.cnt.length c1, .slice (some ⟨g2, 0, none⟩) f.sq.length c2] 50)) := (by repeat (first | exact Below.refl _ _ | assumption | refine Below.drew ?_ | refine below_drewN ?_ _ | refine Below.alloc ?_ (by simp <;> omega) _))
  have HC : Hid (Below w.heap.size w (w1.alloc (.cells #[.int .u8 2, .int .u64 t.n, .slice (some ⟨g1, 0, none⟩) f.cnt.length c1, .slice (some ⟨g2, 0, none⟩) f.sq.length c2] 50))) := bt HC.out hCA
  clear hCA
  generalize w1.alloc (.cells #[.int .u8 2, .int .u64 t.n, .slice (some ⟨g1, 0, none⟩) f.cnt.length c1, .slice (some ⟨g2, 0, none⟩) f.sq.length c2] 50) = W1 at HC ⊢
  obtain ⟨v, hb, hp⟩ := (HB0.out.ext HC.out).b
  obtain ⟨A, c, rfl, hp1, hp2⟩ := id hp
  obtain ⟨g, off, rfl, _, lg, _⟩ := hp1 (by simp)
  obtain ⟨ln, hln⟩ : ∃ ln, ln = l.length := ⟨_, rfl⟩
  obtain ⟨n, hn⟩ : ∃ n, n = ((t :: l).map (·.X)).length := ⟨_, rfl⟩
  have hnl : n = ln + 1 := by rw [hn, hln]; simp
  have hnc : n ≤ c := by
    rcases hp2 with h2 | h2
    · rcases h2.2 with ⟨e, _⟩ | ⟨g2, cap, cur, e, _, _, h3, _⟩
      · cases e
      · simp only [Value.slice.injEq] at e
        rw [e.2.2, hn]
        exact h3
    · rw [h2.1, hn]
      exact Nat.le_refl _
  rw [← hn] at hb hp
  have hsl := drop_slice g off n c ln hnl hnc
  have hpd := hp.drop (by rw [hnl, hln]; simp)
  rw [List.length_map, ← hln] at hpd
  generalize dropA g off n = A1 at hsl hpd
  have HB := Lib.hid hb
  have HPD := Lib.hid hpd
  have HLN := Lib.hid hln
  clear hb hp hp1 hp2 hpd hn hln hnl hnc
  refine region_last 18 _ [false, false, false, false, false, false, false, false, false, false, false, false, false, false, false, true, true, true, true, true, true, true, true, true, true, true, true, true, true, true, true, true, true, false, false, false, false, false, false, false, false, false, false, false, false, false, false, false, false, false, false, false, false, false, false, false, false, false, false, false, false, false, false, false, false, false, false, false, false, false, false, false, false, false, false] [15, 16, 17, 18, 19, 20, 21, 22, 23, 24, 25, 26, 27, 28, 29, 30, 31, 32] [.val (.pointer (some ⟨B, 0, none⟩)), .val (.pointer (some ⟨B, 0, none⟩)), .val (.pointer (some ⟨B, 0, none⟩)), .val (.pointer (some ⟨B, 4, none⟩)), .val (.slice (some ⟨g, off, none⟩) n c), .val (.pointer (some ⟨B, 0, none⟩)), .val (.pointer (some ⟨B, 0, none⟩)), .val (.pointer (some ⟨B, 4, none⟩)), .val (.slice (some ⟨g, off, none⟩) n c), .val (.int .i64 n), .val (.pointer (some ⟨B, 0, none⟩)), .val (.pointer (some ⟨B, 0, none⟩)), .val (.pointer (some ⟨B, 4, none⟩)), .val (.slice (some ⟨g, off, none⟩) n c), .val (.int .i64 n), .val (.slice A1 ln ln), .val (.pointer (some ⟨B, 0, none⟩)), .val (.pointer (some ⟨B, 4, none⟩))] [15, 17] (by kernel_rfl) (by kernel_rfl) rfl (by kernel_rfl) (by kernel_rfl) (by kernel_rfl) (by kernel_rfl) (by kernel_rfl) ⟨?_, ?_, ?_, ?_, ?_, ?_, ?_, ?_, ?_, ?_, ?_, ?_, ?_, ?_, ?_, ?_, ?_, ?_, trivial⟩ ?done
  case done =>
    intro x w5 hb5
    simp only [StepGoal, List.getD_cons_zero, List.getD_cons_succ]
    have hBu := (HB0.out.ext HC.out).ext hb5
    have hB := HB.out.ext hb5
    have hC : Below B w w5 := (bt HC.out hb5).mono (Nat.le_of_lt hBw)
    have hpd := HPD.out.ext hb5
    have hfr := FrS.of_below (S := fun T => T ≠ 85) (bt HC.out hb5)
    clear hb5 HB HC hsl HPD
    obtain ⟨w6, rfl, lt⟩ := blk_put hB
    have HC := Lib.hid (putBlk_belows hC (Nat.le_refl B) #[.int .i64 nt, .int .i64 bd, .int .u64 (IntKind.u64.wrap (nx + 1)), .bool has, .slice A1 ln ln, .int .i64 0])
    have HFR := Lib.hid (hfr.trans (FrS.put lt (fun h => h rfl) #[.int .i64 nt, .int .i64 bd, .int .u64 (IntKind.u64.wrap (nx + 1)), .bool has, .slice A1 ln ln, .int .i64 0]))
    have HBN := Lib.hid (hBu.self (l' := l) (nx' := IntKind.u64.wrap (nx + 1)) (has' := has) (fa' := 0) (put_grown w6 B #[.int .i64 nt, .int .i64 bd, .int .u64 nx, .bool has, .slice (some ⟨g, off, none⟩) n c, .int .i64 0] #[.int .i64 nt, .int .i64 bd, .int .u64 (IntKind.u64.wrap (nx + 1)), .bool has, .slice A1 ln ln, .int .i64 0] 85) (putBlk_blk _ _ lt) hpd (fun u hu => by simp [hu]))
    obtain ⟨pc, pf, pS⟩ := putBlk_facts (w := w6) 85 lt
    clear hB hC hBu hpd
    intro K hK
    rw [if_pos (by rfl)]; simp only [overlay, upd, cond_true, cond_false, Nat.reduceEqDiff, reduceIte]
    go_simp
    refine hK.out _ _ ?_
    go_upto_region 6 with fail
    have hB := putBlk_blk (w := w6) #[.int .i64 nt, .int .i64 bd, .int .u64 (IntKind.u64.wrap (nx + 1)), .bool has, .slice A1 ln ln, .int .i64 0] 85 lt
    clear pc pf pS lt HB0
    generalize putBlk w6 B #[.int .i64 nt, .int .i64 bd, .int .u64 (IntKind.u64.wrap (nx + 1)), .bool has, .slice A1 ln ln, .int .i64 0] 85 = W2 at hB HC HBN HFR ⊢
    have b4 := hB.cell 4
    have b1 := hB.cell 1
    have lB := hB.lt
    simp only [List.getElem?_toArray, List.getElem?_cons_zero, List.getElem?_cons_succ] at b1 b4
    have HFIN : Hid (∀ q, Below B w (W2.drewN q) ∧ BuR B nt bd (IntKind.u64.wrap (nx + 1)) has 0 l (W2.drewN q) ∧ FrS (fun T => T ≠ 85) w (W2.drewN q)) := Lib.hid (fun q =>
      ⟨HC.out.trans ((below_drewN (Below.refl _ _) q).mono (Nat.le_of_lt lB)), HBN.out.ext (below_drewN (Below.refl _ _) q), HFR.out.trans (FrS.of_below (below_drewN (Below.refl _ _) q))⟩)
    cases l with
    | nil =>
      obtain rfl : ln = 0 := HLN.out
      clear hB HC HBN HBD HLN
      go_quiet (fail)
      go_wp2_with fail
      go_ret
      exact ⟨rfl, HFIN.out _⟩
    | cons u l =>
      have hlp : 0 < ln := by rw [HLN.out]; simp
      have hlp2 : (0 : Int) < ln := by omega
      obtain ⟨v3, hb3, hp3⟩ := HBN.out.b
      have hsame : v3 = .slice A1 ln ln := by
        have e := hb3.symm.trans hB
        simp at e
        exact e
      subst hsame
      obtain ⟨A3, c3, e3, hp3, _⟩ := hp3
      obtain ⟨g3, off3, rfl, _, lg3, hcell3⟩ := hp3 (by simp)
      simp only [Value.slice.injEq] at e3
      obtain ⟨rfl, -, -⟩ := e3
      have u0 := hcell3 0 u.X rfl
      rw [Nat.add_zero] at u0
      have hT := HBN.out.t u (by simp)
      have hx := hT.x
      cases hf : u.fin with
      | none =>
        rw [hf] at hx
        have x1 := hx.cell 1
        have lx := hx.lt
        simp only [List.getElem?_toArray, List.getElem?_cons_zero, List.getElem?_cons_succ, endV] at x1
        clear hB HC HBN HBD HLN hb3 hcell3 hp3 hT hx hf
        go_quiet (fail)
        go_wp2_with fail
        go_ret
        exact ⟨rfl, HFIN.out _⟩
      | some fu =>
        have HSZ := Lib.hid (fun (W : World) (hW : Below W2.heap.size W2 W) => (hT.ext hW).size hf)
        have hle := HBD.out u (by simp) fu hf
        rw [hf] at hx
        have x1 := hx.cell 1
        have lx := hx.lt
        simp only [List.getElem?_toArray, List.getElem?_cons_zero, List.getElem?_cons_succ, endV] at x1
        generalize fu.cnt.sum = fs at HSZ hle
        have hle2 : ¬ bd < fs := by omega
        clear hB HC HBN HBD HLN hb3 hcell3 hp3 hT hx hf
        go_quiet (refine Calls.quiet_of_same ((HSZ.out _ (below_drewN (Below.refl _ _) _)).mono fun _ _ h => ⟨h.1, h.2.symm⟩))
        go_wp2_with fail
        go_ret
        exact ⟨rfl, HFIN.out _⟩
  all_goals
    intro x w5 hb5
    intro K hK
    have hB := HB.out.ext hb5
    have b4 := hB.cell 4
    have lB := hB.lt
    simp only [List.getElem?_toArray, List.getElem?_cons_zero, List.getElem?_cons_succ] at b4
    clear hB
    rw [if_pos (by rfl)]; simp only [overlay, upd, cond_true, cond_false, List.getD_cons_zero, List.getD_cons_succ, Nat.reduceEqDiff, reduceIte]
    go_simp
    exact hK.out _ _ (Below.refl _ _) rfl
end Go.Proofs.YtkfhfegogmlchaaDoor

/- Schemas, the plain side: which may be (schB), depths, roots. -/
namespace Go.Proofs.YtkfhfegogmlchaaDoor
open Go.RowKit

def colK (c : Co) : Bool := decide (1 ≤ c.k ∧ c.k ≤ 5)
def kAt (l : List Co) (i : Int) : Int := (l[i.toNat]?.map (·.k)).getD 0
def nlAt (l : List Co) (i : Int) : Bool := (l[i.toNat]?.map (·.nl)).getD false
def colsB (t : Ta) : Bool := decide (1 ≤ t.cs.length ∧ t.cs.length ≤ 8) && (t.cs.all colK && (namedB (t.cs.map (·.nm)) && (decide (0 ≤ t.key ∧ t.key < t.cs.length) && !(nlAt t.cs t.key))))
def rootB (t : Ta) : Bool := decide (t.ref = -1 ∧ t.par = -1)
def relB (n : Nat) (t : Ta) : Bool := decide ((0 ≤ t.ref ∧ t.ref < t.cs.length) ∧ t.ref ≠ t.key ∧ 0 ≤ t.par ∧ t.par < n)
def kinB (ahead : List Ta) (t : Ta) : Bool := match ahead[t.par.toNat]? with
  | some p => decide (kAt p.cs p.key = kAt t.cs t.ref)
  | none => false
def belB (ahead : List Ta) (t : Ta) : Bool := rootB t || (relB ahead.length t && kinB ahead t)
def depI (ds : List Int) (t : Ta) : Int := if rootB t then 1 else ds.getD t.par.toNat 0 + 1
def tabB (ahead : List Ta) (ds : List Int) (t : Ta) : Bool := colsB t && (belB ahead t && decide (depI ds t ≤ 8))
def deps (l : List Ta) : List Int := l.foldl (fun ds t => ds ++ [depI ds t]) []
theorem deps_snoc (l : List Ta) (t : Ta) : deps (l ++ [t]) = deps l ++ [depI (deps l) t] := by simp [deps, List.foldl_append]
theorem deps_fold : ∀ (l : List Ta) (ds : List Int), (l.foldl (fun ds t => ds ++ [depI ds t]) ds).length = ds.length + l.length
  | [], ds => by simp
  | t :: l, ds => by rw [List.foldl_cons, deps_fold l]; simp; omega
theorem deps_length (l : List Ta) : (deps l).length = l.length := by unfold deps; rw [deps_fold]; simp
/-- The first k tables fit, each behind those ahead of it. -/
def preB (ts : List Ta) (k : Nat) : Bool := (List.range k).all fun i => match ts[i]? with
  | some t => tabB (ts.take i) (deps (ts.take i)) t
  | none => true
def schB (ts : List Ta) : Bool := decide (1 ≤ ts.length ∧ ts.length ≤ 12) && (preB ts ts.length && namedB (ts.map (·.nm)))
theorem pre_zero (ts : List Ta) : preB ts 0 = true := rfl
theorem pre_succ {ts : List Ta} {k : Nat} {t : Ta} (h : ts[k]? = some t) : preB ts (k + 1) = (preB ts k && tabB (ts.take k) (deps (ts.take k)) t) := by
  unfold preB
  rw [List.range_succ, List.all_append]
  simp only [List.all_cons, List.all_nil, Bool.and_true, h]
theorem pre_at {ts : List Ta} {k j : Nat} {t : Ta} (h : preB ts k = true) (hj : j < k) (ht : ts[j]? = some t) : tabB (ts.take j) (deps (ts.take j)) t = true := by
  have := List.all_eq_true.1 h j (List.mem_range.2 hj)
  rwa [ht] at this
theorem pre_not {ts : List Ta} {k : Nat} {t : Ta} (ht : ts[k]? = some t) (h : tabB (ts.take k) (deps (ts.take k)) t = false) : schB ts = false := by
  have hk := (List.getElem?_eq_some_iff.1 ht).1
  have : preB ts ts.length = false := by
    unfold preB
    rw [List.all_eq_false]
    exact ⟨k, List.mem_range.2 hk, by rw [ht]; simp [h]⟩
  unfold schB
  rw [this]
  simp
theorem getD_app_l {α : Type} {l m : List α} {j : Nat} {d : α} (h : j < l.length) : (l ++ m).getD j d = l.getD j d := by
  rw [List.getD_eq_getElem?_getD, List.getD_eq_getElem?_getD, List.getElem?_append_left h]
theorem getD_app_r {α : Type} {l : List α} {x d : α} {j : Nat} (h : l.length = j) : (l ++ [x]).getD j d = x := by
  rw [List.getD_eq_getElem?_getD, List.getElem?_append_right (by omega), h, Nat.sub_self]
  rfl
theorem deps_take (ts : List Ta) : ∀ (k j : Nat), j < k → k ≤ ts.length → (deps (ts.take k)).getD j 0 = (deps (ts.take (j + 1))).getD j 0
  | 0, j, h, _ => absurd h (by omega)
  | k + 1, j, h, hk => by
    by_cases e : j = k
    · subst e; rfl
    · have hlt : k < ts.length := by omega
      rw [take_snoc (List.getElem?_eq_getElem hlt), deps_snoc, getD_app_l (by rw [deps_length]; simp; omega)]
      exact deps_take ts k j (by omega) (by omega)
theorem deps_at {ts : List Ta} {j k : Nat} {t : Ta} (ht : ts[j]? = some t) (hj : j < k) (hk : k ≤ ts.length) : (deps (ts.take k)).getD j 0 = depI (deps (ts.take j)) t := by
  have hl : j < ts.length := by omega
  rw [deps_take ts k j hj hk, take_snoc ht, deps_snoc, getD_app_r (by rw [deps_length]; simp; omega)]
/-- Table j's depth. -/
def depA (ts : List Ta) (j : Nat) : Int := (deps ts).getD j 0
theorem depA_at {ts : List Ta} {j : Nat} {t : Ta} (ht : ts[j]? = some t) : depA ts j = depI (deps (ts.take j)) t := by
  have hj := (List.getElem?_eq_some_iff.1 ht).1
  unfold depA
  have := deps_at ht hj (Nat.le_refl _)
  rwa [List.take_length] at this
theorem bel_par {ahead : List Ta} {t : Ta} (h : belB ahead t = true) : (t.par = -1 ∧ t.ref = -1 ∧ rootB t = true) ∨ (0 ≤ t.par ∧ t.par < ahead.length ∧ rootB t = false ∧ (0 ≤ t.ref ∧ t.ref < t.cs.length) ∧ t.ref ≠ t.key ∧ kinB ahead t = true) := by
  unfold belB at h
  rcases Bool.or_eq_true_iff.1 h with h | h
  · have h' := of_decide_eq_true h
    exact Or.inl ⟨h'.2, h'.1, h⟩
  · obtain ⟨h1, h2⟩ := Bool.and_eq_true_iff.1 h
    obtain ⟨h3, h4, h5, h6⟩ := of_decide_eq_true h1
    refine Or.inr ⟨h5, h6, ?_, h3, h4, h2⟩
    unfold rootB
    apply decide_eq_false
    omega
theorem tab_parts {ahead : List Ta} {ds : List Int} {t : Ta} (h : tabB ahead ds t = true) : colsB t = true ∧ belB ahead t = true ∧ depI ds t ≤ 8 := by
  unfold tabB at h
  obtain ⟨h1, h2⟩ := Bool.and_eq_true_iff.1 h
  obtain ⟨h3, h4⟩ := Bool.and_eq_true_iff.1 h2
  exact ⟨h1, h3, of_decide_eq_true h4⟩
theorem cols_parts {t : Ta} (h : colsB t = true) : (1 ≤ t.cs.length ∧ t.cs.length ≤ 8) ∧ t.cs.all colK = true ∧ namedB (t.cs.map (·.nm)) = true ∧ (0 ≤ t.key ∧ t.key < t.cs.length) ∧ nlAt t.cs t.key = false := by
  unfold colsB at h
  obtain ⟨h1, h⟩ := Bool.and_eq_true_iff.1 h
  obtain ⟨h2, h⟩ := Bool.and_eq_true_iff.1 h
  obtain ⟨h3, h⟩ := Bool.and_eq_true_iff.1 h
  obtain ⟨h4, h5⟩ := Bool.and_eq_true_iff.1 h
  exact ⟨of_decide_eq_true h1, h2, h3, of_decide_eq_true h4, by simpa using h5⟩
/-- What a table's depth has to do with its parent's. -/
theorem dep_par {ts : List Ta} {k j : Nat} {t : Ta} (hp : preB ts k = true) (hj : j < k) (ht : ts[j]? = some t) :
    (t.par = -1 ∧ t.ref = -1 ∧ depA ts j = 1) ∨ (0 ≤ t.par ∧ t.par < j ∧ depA ts j = depA ts t.par.toNat + 1) := by
  have hjl := (List.getElem?_eq_some_iff.1 ht).1
  obtain ⟨_, hb, _⟩ := tab_parts (pre_at hp hj ht)
  rw [depA_at ht]
  unfold depI
  rcases bel_par hb with ⟨h1, h2, h3⟩ | ⟨h1, h2, h3, _⟩
  · rw [if_pos h3]; exact Or.inl ⟨h1, h2, rfl⟩
  · rw [if_neg (by simp [h3])]
    have h2' : t.par < j := by rw [List.length_take] at h2; omega
    refine Or.inr ⟨h1, h2', ?_⟩
    have hpl : t.par.toNat < ts.length := by omega
    rw [depA_at (List.getElem?_eq_getElem hpl), deps_at (List.getElem?_eq_getElem hpl) (show t.par.toNat < j by omega) (by omega)]
theorem dep_range {ts : List Ta} {k : Nat} (hp : preB ts k = true) : ∀ (n j : Nat), j < n → j < k → k ≤ ts.length → 1 ≤ depA ts j ∧ depA ts j ≤ 8
  | 0, j, h, _, _ => absurd h (by omega)
  | n + 1, j, hn, hj, hk => by
    have hjl : j < ts.length := by omega
    have ht := List.getElem?_eq_getElem hjl
    have h8 := (tab_parts (pre_at hp hj ht)).2.2
    rw [← depA_at ht] at h8
    rcases dep_par hp hj ht with ⟨_, _, e⟩ | ⟨h1, h2, e⟩
    · omega
    · have := (dep_range hp n ts[j].par.toNat (by omega) (by omega) hk).1
      omega
theorem sch_len {ts : List Ta} (h : ¬ (1 ≤ ts.length ∧ ts.length ≤ 12)) : schB ts = false := by unfold schB; rw [decide_eq_false h]; rfl
theorem kAt_at {l : List Co} {i : Int} {c : Co} (h : l[i.toNat]? = some c) : kAt l i = c.k := by unfold kAt; rw [h]; rfl
theorem nlAt_at {l : List Co} {i : Int} {c : Co} (h : l[i.toNat]? = some c) : nlAt l i = c.nl := by unfold nlAt; rw [h]; rfl
end Go.Proofs.YtkfhfegogmlchaaDoor
