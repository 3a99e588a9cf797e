/- Documents: the program's reader. -/
import Derived.Test.YtjdfodmialhakaaDoorDc16
import Derived.Test.YtjdfodmialhakaaDoorRegCall
import Derived.Test.YtjdfodmialhakaaDoorMk3
namespace Go.Proofs.YtjdfodmialhakaaDoor
open Go.RowKit

def RdK (w : World) (R : Nat) (s : ByteArray) (dp : Int) (bad : Bool) : Prop := Blk w R #[.string s, .int .i64 dp, .bool bad] 164
/-- What the reader answers, at most so deep. -/
def DocP (R k : Nat) (dp : Int) (o : Option (De × List UInt8)) (w : World) (r : Ending) (w' : World) : Prop :=
  ∃ (t : Int) (A : Option Addr) (n c : Nat) (K : Option Addr) (m ck : Nat), r = .returned (.agg #[.int .i64 t, .slice A n c, .slice K m ck]) ∧ w.grownBy w' (some R) ∧
    ((o = none ∧ ∃ s, RdK w' R s dp true) ∨ (∃ d q s, o = some (d, q) ∧ s.data.toList = q ∧ RdK w' R s dp false ∧ DRp (fun b => w.heap.size ≤ b) k w' (.agg #[.int .i64 t, .slice A n c, .slice K m ck]) d))
theorem put_put25 (w : World) (b : Nat) (cs ds : Array Value) (t u : TypeId) : putBlk (putBlk w b cs t) b ds u = putBlk w b ds u := by unfold putBlk; simp
set_option maxRecDepth 100000 in
theorem doc1_any (u : FrameMode) (bx R : Nat) (s : ByteArray) (dp : Int) (bad : Bool) (w : World) (hB : Blk w bx #[.pointer (some ⟨R, 0, none⟩)] 162) (hR : RdK w R s (dp + 1) bad) (h0 : 0 ≤ dp) (h1 : dp ≤ 100) :
    CallsD Tryd.prog 168 #[.pointer (some ⟨bx, 0, none⟩)] u w fun e u' w' => u' = u ∧ e = .returned (.tuple #[]) ∧ w' = putBlk w R #[.string s, .int .i64 dp, .bool bad] 164 := by
  obtain ⟨w3, he, lt⟩ := blk_put hR
  have lb := hB.lt
  have b0 := hB.cell 0
  simp only [List.getElem?_toArray, List.getElem?_cons_zero] at b0
  clear hR hB
  subst he
  obtain ⟨pc, pf, pS⟩ := putBlk_facts (w := w3) 164 lt
  go_enter_d Tryd.func168, Tryd.ntmps168
  go_wp2_with fail
  go_end0
  exact ⟨rfl, by rw [put_put25]⟩
/-- At the reader's door: one is less deep. -/
theorem door_doc {w1 : World} {Q : Ending → World → Prop} {tmps : Array Value} {D R bx : Nat} {s : ByteArray} {dp : Int} {bad : Bool} {c0 c1 c2 : Value} (ht : tmps[2]?.getD undef = .pointer (some ⟨D, 0, none⟩)) (hD : Blk w1 D #[c0, c1, c2] 71) (hB : Blk w1 bx #[.pointer (some ⟨R, 0, none⟩)] 162)
    (hR : RdK w1 R s (dp + 1) bad) (h0 : 0 ≤ dp) (h1 : dp ≤ 100) (hQ : Q (.returned (.agg #[c0, c1, c2])) (putBlk w1 R #[.string s, .int .i64 dp, .bool bad] 164)) :
    bodyPostD Tryd.prog Tryd.f125 Q Exit.ret { tmps := tmps, defers := [{ target := Target.fn (Fn.func 168) #[.pointer (some ⟨bx, 0, none⟩)], args := #[] }] } w1 := by
  refine leaves_cons (f := 168) (args := #[.pointer (some ⟨bx, 0, none⟩)]) (by simp) (by simp [go_sem]) ?_
  refine (doc1_any .returning bx R s dp bad w1 hB hR h0 h1).mono ?_
  rintro e u' w'' ⟨rfl, rfl, rfl⟩
  have hne : D ≠ R := fun e => by
    subst e
    unfold RdK at hR
    unfold Blk at hD hR
    rw [hD] at hR
    simp at hR
  have hD2 := putBlk_ne (cs := #[.string s, .int .i64 dp, .bool bad]) (t := 164) hD hne
  obtain ⟨lb, d0, d1, d2⟩ := blk3 hD2
  simp [Leaves, settle, results, Tryd.results125, go_sem, ht, d0, d1, d2]
  exact hQ
theorem putBlk_bel {w a : World} {b : Nat} {cs ds : Array Value} {t : TypeId} {row : Option Nat} (h : a.grownBy (putBlk w b cs t) row) (hb : a.heap.size ≤ b ∨ row = some b) : a.grownBy (putBlk w b ds t) row :=
  ⟨h.os, h.tape, h.output, by rw [putBlk_size]; have := h.size; rw [putBlk_size] at this; exact this, fun k hk hr => by
    have hne : k ≠ b := by
      rintro rfl
      rcases hb with hb | hb
      · omega
      · exact hr hb.symm
    rw [putBlk_other (cs := cs) hne]
    exact h.block k hk hr⟩
/-- The reader's state within a call of doc: its box bx, its document D. -/
structure Fr (w : World) (R : Nat) (s : ByteArray) (dp : Int) (bad : Bool) (c0 c1 c2 : Value) (W : World) : Prop where
  r : RdK W R s dp bad
  b : Blk W w.heap.size #[.pointer (some ⟨R, 0, none⟩)] 162
  d : Blk W (w.heap.size + 1) #[c0, c1, c2] 71
  g : w.grownBy W (some R)
  lt : R < w.heap.size
theorem Fr.putR {w : World} {R : Nat} {s : ByteArray} {dp : Int} {bad : Bool} {c0 c1 c2 : Value} {w3 : World} (h : Fr w R s dp bad c0 c1 c2 (putBlk w3 R #[.string s, .int .i64 dp, .bool bad] 164)) (lt : R < w3.heap.size) (s' : ByteArray) (dp' : Int) (bad' : Bool) : Fr w R s' dp' bad' c0 c1 c2 (putBlk w3 R #[.string s', .int .i64 dp', .bool bad'] 164) :=
  ⟨putBlk_blk _ _ lt, putBlk_old h.b (by have := h.lt; omega) _, putBlk_old h.d (by have := h.lt; omega) _, putBlk_bel h.g (Or.inr rfl), h.lt⟩
theorem Fr.putD {w : World} {R : Nat} {s : ByteArray} {dp : Int} {bad : Bool} {c0 c1 c2 : Value} {w3 : World} (h : Fr w R s dp bad c0 c1 c2 (putBlk w3 (w.heap.size + 1) #[c0, c1, c2] 71)) (lt : w.heap.size + 1 < w3.heap.size) (c0' c1' c2' : Value) : Fr w R s dp bad c0' c1' c2' (putBlk w3 (w.heap.size + 1) #[c0', c1', c2'] 71) :=
  ⟨putBlk_old h.r (by have := h.lt; omega) _, putBlk_old h.b (by omega) _, putBlk_blk _ _ lt, putBlk_bel h.g (Or.inl (by omega)), h.lt⟩
theorem Fr.ext {w : World} {R : Nat} {s : ByteArray} {dp : Int} {bad : Bool} {c0 c1 c2 : Value} {W W' : World} (h : Fr w R s dp bad c0 c1 c2 W) (hb : Below W.heap.size W W') : Fr w R s dp bad c0 c1 c2 W' :=
  ⟨Blk.ext h.r hb, h.b.ext hb, h.d.ext hb, only_trans h.g (only_below hb _), h.lt⟩
theorem cells3 {w : World} {b : Nat} {a0 a1 a2 : Value} {t : TypeId} (h : Blk w b #[a0, a1, a2] t) : w.cell? ⟨b, 0, none⟩ = some a0 ∧ w.cell? ⟨b, 1, none⟩ = some a1 ∧ w.cell? ⟨b, 2, none⟩ = some a2 := by
  have h0 := h.cell 0
  have h1 := h.cell 1
  have h2 := h.cell 2
  simp only [List.getElem?_toArray, List.getElem?_cons_zero, List.getElem?_cons_succ] at h0 h1 h2
  exact ⟨h0, h1, h2⟩
theorem cells1 {w : World} {b : Nat} {a0 : Value} {t : TypeId} (h : Blk w b #[a0] t) : w.cell? ⟨b, 0, none⟩ = some a0 := by
  have h0 := h.cell 0
  simpa using h0
theorem Fr.rform {w : World} {R : Nat} {s : ByteArray} {dp : Int} {bad : Bool} {c0 c1 c2 : Value} {W : World} (h : Fr w R s dp bad c0 c1 c2 W) :
    ∃ w3, W = putBlk w3 R #[.string s, .int .i64 dp, .bool bad] 164 ∧ (∀ s' dp' bad', Fr w R s' dp' bad' c0 c1 c2 (putBlk w3 R #[.string s', .int .i64 dp', .bool bad'] 164)) ∧
      (∀ cs, (putBlk w3 R cs 164).cell? ⟨w.heap.size, 0, none⟩ = some (.pointer (some ⟨R, 0, none⟩))) ∧
      (∀ cs i, (putBlk w3 R cs 164).cell? ⟨R, i, none⟩ = cs[i]?) ∧ (∀ cs i, (putBlk w3 R cs 164).frozen? ⟨R, i, none⟩ = false) ∧ (∀ cs i v, (putBlk w3 R cs 164).setCell ⟨R, i, none⟩ v = putBlk w3 R (cs.setIfInBounds i v) 164) ∧
      (∀ cs, R < (putBlk w3 R cs 164).heap.size) ∧ (∀ cs, w.heap.size < (putBlk w3 R cs 164).heap.size) := by
  obtain ⟨w3, rfl, lt⟩ := blk_put h.r
  obtain ⟨pc, pf, pS⟩ := putBlk_facts (w := w3) 164 lt
  have hne : w.heap.size ≠ R := by have := h.lt; omega
  refine ⟨w3, rfl, fun s' dp' bad' => h.putR lt s' dp' bad', fun cs => ?_, pc, pf, pS, fun cs => by rw [putBlk_size]; exact lt, fun cs => ?_⟩
  · exact cells1 (putBlk_old h.b hne cs)
  · exact (putBlk_old h.b hne cs).lt
theorem Fr.dform {w : World} {R : Nat} {s : ByteArray} {dp : Int} {bad : Bool} {c0 c1 c2 : Value} {W : World} (h : Fr w R s dp bad c0 c1 c2 W) :
    ∃ w3, W = putBlk w3 (w.heap.size + 1) #[c0, c1, c2] 71 ∧ (∀ c0' c1' c2', Fr w R s dp bad c0' c1' c2' (putBlk w3 (w.heap.size + 1) #[c0', c1', c2'] 71)) ∧
      (∀ cs, (putBlk w3 (w.heap.size + 1) cs 71).cell? ⟨w.heap.size, 0, none⟩ = some (.pointer (some ⟨R, 0, none⟩))) ∧ (∀ cs, (putBlk w3 (w.heap.size + 1) cs 71).cell? ⟨R, 0, none⟩ = some (.string s)) ∧
      (∀ cs i, (putBlk w3 (w.heap.size + 1) cs 71).cell? ⟨w.heap.size + 1, i, none⟩ = cs[i]?) ∧ (∀ cs i, (putBlk w3 (w.heap.size + 1) cs 71).frozen? ⟨w.heap.size + 1, i, none⟩ = false) ∧ (∀ cs i v, (putBlk w3 (w.heap.size + 1) cs 71).setCell ⟨w.heap.size + 1, i, none⟩ v = putBlk w3 (w.heap.size + 1) (cs.setIfInBounds i v) 71) ∧
      (∀ cs, w.heap.size + 1 < (putBlk w3 (w.heap.size + 1) cs 71).heap.size) ∧ (∀ cs, w.heap.size < (putBlk w3 (w.heap.size + 1) cs 71).heap.size) ∧ (∀ cs, R < (putBlk w3 (w.heap.size + 1) cs 71).heap.size) ∧ w.heap.size + 1 < w3.heap.size := by
  obtain ⟨w3, rfl, lt⟩ := blk_put h.d
  obtain ⟨pc, pf, pS⟩ := putBlk_facts (w := w3) 71 lt
  have hl := h.lt
  have hne : R ≠ w.heap.size + 1 := by omega
  refine ⟨w3, rfl, fun c0' c1' c2' => h.putD lt c0' c1' c2', fun cs => ?_, fun cs => ?_, pc, pf, pS, fun cs => by rw [putBlk_size]; exact lt, fun cs => by rw [putBlk_size]; omega, fun cs => by rw [putBlk_size]; omega, lt⟩
  · exact cells1 (putBlk_old h.b (by omega) cs)
  · exact (cells3 (putBlk_old (show Blk _ R #[.string s, .int .i64 dp, .bool bad] 164 from h.r) hne cs)).1
theorem Fr.new {w : World} {R : Nat} {s : ByteArray} {dp : Int} {bad : Bool} (hR : RdK w R s dp bad) : Fr w R s dp bad (.int .i64 0) (.slice none 0 0) (.slice none 0 0) ((w.alloc (.cells #[.pointer (some ⟨R, 0, none⟩)] 162)).alloc (.cells #[.int .i64 0, .slice none 0 0, .slice none 0 0] 71)) :=
  have hC : Below w.heap.size w ((w.alloc (.cells #[.pointer (some ⟨R, 0, none⟩)] 162)).alloc (.cells #[.int .i64 0, .slice none 0 0, .slice none 0 0] 71)) := (by repeat (first | exact Below.refl _ _ | assumption | refine Below.drew ?_ | refine below_drewN ?_ _ | refine Below.alloc ?_ (by simp <;> omega) _))
  ⟨Blk.ext hR hC, (by repeat (first | exact Blk.at (by simp) | assumption | refine Blk.drew ?_ | refine Blk.old ?_ _)), (by repeat (first | exact Blk.at (by simp) | assumption | refine Blk.drew ?_ | refine Blk.old ?_ _)), only_below hC _, Blk.lt hR⟩
/-- The call's end. -/
theorem Fr.door {w W : World} {R k : Nat} {s : ByteArray} {dp : Int} {bad : Bool} {t : Int} {A K : Option Addr} {n c m ck : Nat} {tmps : Array Value} {o : Option (De × List UInt8)} (h : Fr w R s (dp + 1) bad (.int .i64 t) (.slice A n c) (.slice K m ck) W) (ht : tmps[2]?.getD undef = .pointer (some ⟨w.heap.size + 1, 0, none⟩)) (h0 : 0 ≤ dp) (h1 : dp ≤ 100)
    (hq : (o = none ∧ bad = true) ∨ (∃ d, o = some (d, s.data.toList) ∧ bad = false ∧ DRp (fun b => w.heap.size ≤ b) k W (.agg #[.int .i64 t, .slice A n c, .slice K m ck]) d)) :
    bodyPostD Tryd.prog Tryd.f125 (DocP R k dp o w) Exit.ret { tmps := tmps, defers := [{ target := Target.fn (Fn.func 168) #[.pointer (some ⟨w.heap.size, 0, none⟩)], args := #[] }] } W := by
  refine door_doc ht h.d h.b h.r h0 h1 ?_
  obtain ⟨w3, rfl, lt⟩ := blk_put h.r
  rw [put_put25]
  refine ⟨t, A, n, c, K, m, ck, rfl, putBlk_bel h.g (Or.inr rfl), ?_⟩
  rcases hq with ⟨rfl, rfl⟩ | ⟨d, rfl, rfl, hd⟩
  · exact Or.inl ⟨rfl, s, putBlk_blk _ _ lt⟩
  · exact Or.inr ⟨d, _, s, rfl, rfl, putBlk_blk _ _ lt, hd.put (by have := h.lt; omega) _⟩
set_option maxRecDepth 100000 in
set_option maxHeartbeats 1600000 in
theorem doc_none (k : Nat) (s : ByteArray) (R : Nat) (dp : Int) (w : World) (hR : RdK w R s dp false) (hk : dp + k = 8) (h0 : 0 ≤ dp) (hs : k = 0 ∨ s = ⟨#[]⟩) :
    Calls Tryd.prog 125 #[.pointer (some ⟨R, 0, none⟩)] w (DocP R k dp none w) := by
  have HF := Lib.hid (Fr.new hR)
  clear hR
  have hw1 : IntKind.i64.wrap (dp + 1) = dp + 1 := IntWalk.i64_in _ (by omega)
  have h100 : dp ≤ 100 := by omega
  have hcond : s.toList.isEmpty = true ∨ (s.toList.isEmpty = false ∧ 8 < dp + 1) := by
    rcases hs with rfl | rfl
    · cases h : s.toList.isEmpty
      · exact Or.inr ⟨rfl, by omega⟩
      · exact Or.inl rfl
    · exact Or.inl (by rw [ByteArray.toList_eq]; rfl)
  clear hs
  clear hk
  go_enter_defers Tryd.func125, Tryd.ntmps125
  go_upto_region 1 with fail
  generalize ((w.alloc (.cells #[.pointer (some ⟨R, 0, none⟩)] 162)).alloc (.cells #[.int .i64 0, .slice none 0 0, .slice none 0 0] 71)) = W0 at HF ⊢
  obtain ⟨w3, rfl, hF, hb0, pc, pf, pS, lR, lb⟩ := HF.out.rform
  have HF1 := Lib.hid hF
  clear hF HF
  go_upto_region 3 with fail
  rcases hcond with he | ⟨he, h8⟩
  all_goals
    go_upto_region 5 with fail
    have hF1 := HF1.out s (dp + 1) true
    generalize putBlk w3 R #[.string s, .int .i64 (dp + 1), .bool true] 164 = W1 at hF1 ⊢
    clear HF1 hb0 pc pf pS lR lb w3
    obtain ⟨w3, rfl, hF, hb0, hr0, pc, pf, pS, lD, lb, lR, lt⟩ := hF1.dform
    have HF2 := Lib.hid (hF (.int .i64 0) (.slice none 0 0) (.slice none 0 0))
    clear hF hF1
    go_wp2_with fail
    exact HF2.out.door rfl h0 h100 (Or.inl ⟨rfl, rfl⟩)
theorem tabs_only {w w1 : World} {R : Nat} {s : ByteArray} {dp : Int} {bad : Bool} (hT : Tabs w) (hr : RdK w R s dp bad) (hG : w.grownBy w1 (some R)) : Tabs w1 := by
  have c0 := (cells3 (show Blk w R #[.string s, .int .i64 dp, .bool bad] 164 from hr)).1
  have n0 : ∀ a v, w.cell? ⟨R, 0, none⟩ = some (.int a v) → False := by
    intro a v h
    rw [c0] at h
    cases h
  have hk : ∀ b o k v, b ≠ R → w.cell? ⟨b, o, none⟩ = some (.int k v) → w1.cell? ⟨b, o, none⟩ = some (.int k v) := by
    intro b o k v hb h
    have hlt := lt_of_cell h
    rw [← h]
    exact World.cell?_of_block (hG.block b hlt (fun e => hb (by injection e)))
  have t0 := hT.1 0 (by omega)
  have t1 := (hT.2 0 (by omega)).1
  refine ⟨fun c hc => hk _ _ _ _ (fun e => ?_) (hT.1 c hc), fun i hi => ⟨hk _ _ _ _ (fun e => ?_) (hT.2 i hi).1, hk _ _ _ _ (fun e => ?_) (hT.2 i hi).2⟩⟩
  · exact n0 _ _ (by rw [← e]; exact t0)
  · exact n0 _ _ (by rw [← e]; exact t1)
  · exact n0 _ _ (by rw [← e]; exact t1)
theorem tail_cons {s : ByteArray} {c : UInt8} {r : List UInt8} (hl : s.data.toList = c :: r) : (s.extract 1 s.size).data.toList = r ∧ s.size = r.length + 1 := by
  have h1 : s.size = r.length + 1 := by
    have := congrArg List.length hl
    simpa using this
  exact ⟨by rw [tail_list, hl]; rfl, h1⟩
set_option maxRecDepth 100000 in
set_option maxHeartbeats 1600000 in
theorem doc_bad (k : Nat) (s : ByteArray) (R : Nat) (dp : Int) (w : World) (hT : Tabs w) (hR : RdK w R s dp false) (hs : s.size ≤ 140737488355328) (hk : dp + k + 1 = 8) (h0 : 0 ≤ dp) (c : UInt8) (r : List UInt8) (hl : s.data.toList = c :: r)
    (hbad : (getRow r).1 ≠ 0 ∨ r.length < (getRow r).2.2 + 2) :
    Calls Tryd.prog 125 #[.pointer (some ⟨R, 0, none⟩)] w (DocP R (k + 1) dp none w) := by
  obtain ⟨htl, hsz⟩ := tail_cons hl
  have HF := Lib.hid (Fr.new hR)
  have HGR := Lib.hid (fun (W : World) (hW : w.grownBy W (some R)) => getrow_any (s.extract 1 s.size) W (by rw [ByteArray.size_extract]; omega) (tabs_only hT hR hW))
  rw [htl] at HGR
  clear hR hT htl
  have hw1 : IntKind.i64.wrap (dp + 1) = dp + 1 := IntWalk.i64_in _ (by omega)
  have h100 : dp ≤ 100 := by omega
  have he : s.toList.isEmpty = false := by rw [ByteArray.toList_eq, hl]; rfl
  have h8 : ¬ 8 < dp + 1 := by omega
  have hn1 : (1 : Int) ≤ s.size := by omega
  have HSZ := Lib.hid hsz
  have HBD := Lib.hid hbad
  clear hl hk hsz hbad
  go_enter_defers Tryd.func125, Tryd.ntmps125
  go_upto_region 1 with fail
  generalize ((w.alloc (.cells #[.pointer (some ⟨R, 0, none⟩)] 162)).alloc (.cells #[.int .i64 0, .slice none 0 0, .slice none 0 0] 71)) = W0 at HF ⊢
  obtain ⟨w3, rfl, hF, hb0, pc, pf, pS, lR, lb⟩ := HF.out.rform
  have HF1 := Lib.hid hF
  clear hF HF
  go_upto_region 6 with fail
  have HF2 := Lib.hid (HF1.out s (dp + 1) false)
  generalize putBlk w3 R #[.string s, .int .i64 (dp + 1), .bool false] 164 = W1 at HF2 ⊢
  clear HF1 hb0 pc pf pS lR lb w3
  have lb := HF2.out.b.lt
  have b0 := cells1 HF2.out.b
  have r0 := (cells3 (show Blk W1 R #[.string s, .int .i64 (dp + 1), .bool false] 164 from HF2.out.r)).1
  have lR := Blk.lt HF2.out.r
  go_wp2_with fail
  refine (HGR.out _ HF2.out.g).mono ?_
  rintro e w4 ⟨hb4, ⟨hg0, A, ca, rfl, hown⟩ | ⟨hg0, rfl⟩⟩
  · have HF3 := Lib.hid (HF2.out.ext hb4)
    have hln : (s.size : Int) < ((getRow r).2.2 : Int) + 3 := by
      have h1 := HBD.out
      have h2 := HSZ.out
      omega
    have hmm : (getRow r).2.2 ≤ 140737488355328 := by
      have h1 := (getRow_back hg0).2.2.2.2
      have h2 := HSZ.out
      omega
    clear HF2 hb4 HGR hown hg0 lb b0 r0 lR
    generalize (getRow r).2.2 = m at hln hmm ⊢
    generalize (getRow r).2.1 = rw0
    obtain ⟨w4, rfl, hF, hb0, pc, pf, pS, lR, lb⟩ := HF3.out.rform
    have HF4 := Lib.hid (hF s (dp + 1) true)
    clear hF HF3
    go_upto_region 9 with fail
    generalize putBlk w4 R #[.string s, .int .i64 (dp + 1), .bool true] 164 = W4 at HF4 ⊢
    clear hb0 pc pf pS lR lb w4
    obtain ⟨w4, rfl, hF, hb0, hr0, pc, pf, pS, lD, lb, lR, lt⟩ := HF4.out.dform
    have HF5 := Lib.hid (hF (.int .i64 0) (.slice none 0 0) (.slice none 0 0))
    clear hF HF4
    go_wp2_with fail
    exact HF5.out.door rfl h0 h100 (Or.inl ⟨rfl, rfl⟩)
  · have HF3 := Lib.hid (HF2.out.ext hb4)
    clear HF2 hb4 HGR HBD lb b0 r0 lR
    generalize (getRow r).1 = e0 at hg0 ⊢
    have hg1 : (e0 == 0) = false := by simpa using hg0
    obtain ⟨w4, rfl, hF, hb0, pc, pf, pS, lR, lb⟩ := HF3.out.rform
    have HF4 := Lib.hid (hF s (dp + 1) true)
    clear hF HF3
    go_upto_region 9 with fail
    generalize putBlk w4 R #[.string s, .int .i64 (dp + 1), .bool true] 164 = W4 at HF4 ⊢
    clear hb0 pc pf pS lR lb w4
    obtain ⟨w4, rfl, hF, hb0, hr0, pc, pf, pS, lD, lb, lR, lt⟩ := HF4.out.dform
    have HF5 := Lib.hid (hF (.int .i64 0) (.slice none 0 0) (.slice none 0 0))
    clear hF HF4
    go_wp2_with fail
    exact HF5.out.door rfl h0 h100 (Or.inl ⟨rfl, rfl⟩)
end Go.Proofs.YtjdfodmialhakaaDoor
