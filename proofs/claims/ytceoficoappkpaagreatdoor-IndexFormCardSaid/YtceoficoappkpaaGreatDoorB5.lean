/- Texts joined by a tool: contracts and walks of this claim. -/
import Derived.Test.YtceoficoappkpaaGreatDoorB4
namespace Go.Proofs.YtceoficoappkpaaGreatDoor
open Go.RowKit
def V0 : V := ⟨0, 0, 0, ByteArray.empty⟩
def finV (v : V) (n : Nat) : Int × V × Nat := if mayB v then (0, v, n) else (7, V0, 0)
def i64of (n : Nat) : Int := wrap64 (n : Int)
theorem i64of_range (n : Nat) (_h : n ≤ 18446744073709551615) : -9223372036854775808 ≤ i64of n ∧ i64of n ≤ 9223372036854775807 := by
 unfold i64of wrap64
 omega
def getV : List UInt8 → Int × V × Nat
 | [] => (6, V0, 0)
 | c :: r =>
  if c.toNat = 0 then finV ⟨0, 0, 0, ByteArray.empty⟩ 1
  else if c.toNat = 1 then (match r with | [] => (6, V0, 0) | b :: _ => finV ⟨1, b.toNat, 0, ByteArray.empty⟩ 2)
  else if c.toNat = 2 then if r.length < 8 then (6, V0, 0) else finV ⟨2, i64of (valL (r.take 8)), 0, ByteArray.empty⟩ 9
  else if c.toNat = 3 then if r.length < 8 then (6, V0, 0) else finV ⟨3, 0, valL (r.take 8), ByteArray.empty⟩ 9
  else if c.toNat = 4 ∨ c.toNat = 5 then
   (match r with
     | [] => (6, V0, 0)
     | b :: r' => if textE (c.toNat == 5) (b :: r') = 0 then finV ⟨c.toNat, 0, 0, ⟨(r'.take b.toNat).toArray⟩⟩ (2 + b.toNat) else (textE (c.toNat == 5) (b :: r'), V0, 0))
  else (7, V0, 0)
def ValPost (w : World) (g : Nat) (s : ByteArray) (p : Nat) (R : Int × V × Nat) (e : Ending) (w' : World) : Prop :=
 w.grownBy w' (some g) ∧ ((R.1 = 0 ∧ e = .returned R.2.1.agg ∧ Rd w' g s (p + R.2.2)) ∨ (R.1 ≠ 0 ∧ e = gaveUp R.1))
theorem gcell {W w1 : World} {g : Nat} (h : W.grownBy w1 (some g)) : (∀ b o, b < W.heap.size → ¬ b = g → w1.cell? ⟨b, o, none⟩ = W.cell? ⟨b, o, none⟩) ∧ (∀ b o, b < W.heap.size → ¬ b = g → w1.frozen? ⟨b, o, none⟩ = W.frozen? ⟨b, o, none⟩) :=
 ⟨fun b o hb hg => World.cell?_of_block (h.block b hb (fun e => hg (by injection e))), fun b o hb hg => World.frozen?_of_block (h.block b hb (fun e => hg (by injection e)))⟩
def VBlk (w : World) (b : Nat) (v : V) : Prop := w.heap[b]? = some (.cells #[.int .u8 v.k, .int .i64 v.n, .int .u64 v.r, .string v.t] 47 (0, 0))
set_option maxRecDepth 100000 in
theorem load_V {W : World} {b : Nat} (v : V) (h : VBlk W b v) : (loadVar 47 ⟨b, 0, none⟩).run Tryz.prog W = .ok v.agg W := by
 have c0 : W.cell? ⟨b, 0, none⟩ = _ := cell_of_row W b 0 _ _ (0, 0) h
 have c1 : W.cell? ⟨b, 1, none⟩ = _ := cell_of_row W b 1 _ _ (0, 0) h
 have c2 : W.cell? ⟨b, 2, none⟩ = _ := cell_of_row W b 2 _ _ (0, 0) h
 have c3 : W.cell? ⟨b, 3, none⟩ = _ := cell_of_row W b 3 _ _ (0, 0) h
 simp at c0 c1 c2 c3
 clear h
 unfold V.agg
 go_simp
theorem ret_value {tmps : Array Value} {W : World} {b : Nat} (v : V) (ht : tmps.getD 2 undef = .pointer (some ⟨b, 0, none⟩)) (h : VBlk W b v) : (results Tryz.f88 tmps).run Tryz.prog W = .ok v.agg W := by
 have hl := load_V v h
 have ht' : tmps[2]?.getD undef = .pointer (some ⟨b, 0, none⟩) := by simpa using ht
 simp only [results, Tryz.results88]
 simp [ht', asAddr, hl]
theorem VBlk.set4 {W : World} {b : Nat} {v : V} (h : VBlk W b v) (k n r : Int) (t : ByteArray) :
  VBlk ((((W.setCell ⟨b, 0, none⟩ (.int .u8 k)).setCell ⟨b, 1, none⟩ (.int .i64 n)).setCell ⟨b, 2, none⟩ (.int .u64 r)).setCell ⟨b, 3, none⟩ (.string t)) b ⟨k, n, r, t⟩ := by
 unfold VBlk at h ⊢
 simp [World.setCell, Array.getElem?_modify, h]
theorem VBlk.lt {w : World} {b : Nat} {v : V} (h : VBlk w b v) : b < w.heap.size := by
 rcases Nat.lt_or_ge b w.heap.size with hlt | hge
 · exact hlt
 · unfold VBlk at h; rw [Array.getElem?_eq_none hge] at h; cases h
theorem VBlk.ext {w w' : World} {b : Nat} {v : V} (h : VBlk w b v) (hb : Below w.heap.size w w') : VBlk w' b v := (hb.block b h.lt).trans h
theorem VBlk.grown {w w' : World} {b : Nat} {v : V} {row : Option Nat} (h : VBlk w b v) (hb : w.grownBy w' row) (hn : some b ≠ row) : VBlk w' b v := (hb.block b h.lt hn).trans h
theorem VBlk.new (w : World) : VBlk (w.alloc (.cells #[.int .u8 0, .int .i64 0, .int .u64 0, .string ⟨#[]⟩] 47)) w.heap.size V0 := heap_alloc_new w _
theorem Rd.setFar {w : World} {g : Nat} {s : ByteArray} {p : Nat} (h : Rd w g s p) {a : Addr} (hn : g ≠ a.block) (u : Value) : Rd (w.setCell a u) g s p := (Below.heap_setCell w a u g hn).trans h
theorem only_setNew {a w : World} {row : Option Nat} (h : a.grownBy w row) {p : Addr} (hp : a.heap.size ≤ p.block) (u : Value) : a.grownBy (w.setCell p u) row :=
 ⟨h.os, h.tape, h.output, by simpa [World.setCell] using h.size, fun k hk hne => (Below.heap_setCell w p u k (fun e => by omega)).trans (h.block k hk hne)⟩
theorem only_alloc {a w : World} {row : Option Nat} (h : a.grownBy w row) (o : Obj) : a.grownBy (w.alloc o) row :=
 ⟨h.os, h.tape, h.output, Nat.le_trans h.size (by simp), fun i hi hne => (Below.heap_alloc w o i (Nat.lt_of_lt_of_le hi h.size)).trans (h.block i hi hne)⟩
theorem only_first {a w : World} (o : Obj) {row : Option Nat} (h : (a.alloc o).grownBy w row) : a.grownBy w row := only_trans (only_alloc (World.grownBy.refl a row) o) h
theorem value_end {w w2 : World} {g p n : Nat} {s : ByteArray} {v : V} {a : Act} (hg : g < w.heap.size) (hG : w.grownBy w2 (some g)) (hR : Rd w2 g s (p + n)) (hV : VBlk w2 w.heap.size V0)
  (h2 : a.tmps.getD 2 undef = .pointer (some ⟨w.heap.size, 0, none⟩)) (hd : a.defers = []) :
  bodyPost Tryz.prog Tryz.f88 (ValPost w g s p (0, v, n)) Exit.ret a ((((w2.setCell ⟨w.heap.size, 0, none⟩ (.int .u8 v.k)).setCell ⟨w.heap.size, 1, none⟩ (.int .i64 v.n)).setCell ⟨w.heap.size, 2, none⟩ (.int .u64 v.r)).setCell ⟨w.heap.size, 3, none⟩ (.string v.t)) := by
 refine bodyPost_ret (v := v.agg) (ret_value v h2 (hV.set4 v.k v.n v.r v.t)) hd ⟨?_, Or.inl ⟨rfl, rfl, ?_⟩⟩
 · exact only_setNew (only_setNew (only_setNew (only_setNew hG (Nat.le_refl _) _) (Nat.le_refl _) _) (Nat.le_refl _) _) (Nat.le_refl _) _
 · have hn : g ≠ w.heap.size := by omega
   exact Rd.setFar (Rd.setFar (Rd.setFar (Rd.setFar hR hn _) hn _) hn _) hn _
set_option maxRecDepth 100000 in
set_option maxHeartbeats 400000 in
theorem value_0 (s : ByteArray) (g p : Nat) (w : World) (hr : Rd w g s p) (hs : s.size ≤ 140737488355328) (hT : Tabs w)
  (c : UInt8) (r : List UInt8) (hl : s.data.toList.drop p = c :: r) (hc : c.toNat = 0) :
  Calls Tryz.prog 88 #[.pointer (some ⟨g, 0, none⟩)] w (ValPost w g s p (getV (c :: r))) := by
 have hlt : p < s.size := by
  rcases Nat.lt_or_ge p s.size with h | h
  · exact h
  · rw [List.drop_eq_nil_of_le (by simpa using h)] at hl; cases hl
 obtain ⟨b', r', e1, e2, e3, e4⟩ := take_one s p hlt
 rw [hl] at e1
 injection e1 with e1 e1'
 subst e1; subst e1'
 have hgl := hr.lt
 have hgn : ¬ w.heap.size = g := by omega
 have hT1 := fun W hW => take_ok s g p 1 W hW hs (by omega)
 rw [e2] at hT1
 have HT1 := hd_ hT1
 have HT := hd_ hT
 have HR := hd_ hr
 have e : getV (c :: r) = (0, V0, 1) := by simp [getV, hc, finV, mayB, V0]
 rw [e]
 have hck := check_yes V0 ⟨by decide, by decide, by decide, by decide, by decide, by decide, by decide⟩ (by decide)
 unfold V0 V.agg at hck
 have HCK := hd_ hck
 have h0 : (⟨#[c]⟩ : ByteArray)[0]'(Nat.zero_lt_one) = c := rfl
 have hc0 : (c.toNat : Int) = 0 := by omega
 clear hck e hT1 hT hr e2 e3 e4 hl hlt hc
 go_enter Tryz.func88, Tryz.ntmps88
 go_wp2_with (first | (go_at_call 87; refine (HT1.out _ (HR.out.far ((Below.refl _ _).alloc (Nat.le_refl _) _))).mono ?_; rintro e w1 ⟨rfl, hR1, hG1⟩; obtain ⟨k1, k2⟩ := gcell hG1; have HR1 := hd_ hR1; have HG1 := hd_ hG1; clear hR1 hG1) | (go_at_call 58; refine (HCK.out _ ((tabs_grown (HT.out.ext ((Below.refl _ _).alloc (Nat.le_refl _) _)) (HR.out.far ((Below.refl _ _).alloc (Nat.le_refl _) _)) HG1.out).ext ((Below.refl _ _).alloc (Nat.le_refl _) _))).mono ?_; rintro e w2 ⟨rfl, hb2⟩; obtain ⟨k3, k4⟩ := bcell hb2; have hz1 : w.heap.size < w1.heap.size := (by have := HG1.out.size; simp at this; omega); have HB2 := hd_ hb2; clear hb2))
 have hV1 := ((VBlk.new w).grown HG1.out (by simp; omega))
 exact value_end (v := V0) hgl (only_trans (only_first _ HG1.out) (only_trans (only_alloc (World.grownBy.refl _ _) _) (only_below HB2.out _))) ((HR1.out.far ((Below.refl _ _).alloc (Nat.le_refl _) _)).far HB2.out) ((hV1.ext ((Below.refl _ _).alloc (Nat.le_refl _) _)).ext HB2.out) rfl rfl
theorem hd_lt {s : ByteArray} {p : Nat} {c : UInt8} {r : List UInt8} (hl : s.data.toList.drop p = c :: r) : p < s.size ∧ s.extract p (p + 1) = ⟨#[c]⟩ ∧ r = s.data.toList.drop (p + 1) ∧ r.length = s.size - (p + 1) := by
 have hlt : p < s.size := by
  rcases Nat.lt_or_ge p s.size with h | h
  · exact h
  · rw [List.drop_eq_nil_of_le (by simpa using h)] at hl; cases hl
 obtain ⟨b', r', e1, e2, e3, e4⟩ := take_one s p hlt
 rw [hl] at e1
 injection e1 with e1 e1'
 subst e1; subst e1'
 exact ⟨hlt, e2, e3, e4⟩
theorem finV_yes {v : V} {n : Nat} (h : mayB v = true) : finV v n = (0, v, n) := by unfold finV; rw [h]; rfl
theorem finV_not {v : V} {n : Nat} (h : mayB v = false) : finV v n = (7, V0, 0) := by unfold finV; rw [h]; rfl
theorem wf_mk {k n r : Int} {t : ByteArray} (h1 : 0 ≤ k) (h2 : k ≤ 255) (h3 : -9223372036854775808 ≤ n) (h4 : n ≤ 9223372036854775807) (h5 : 0 ≤ r) (h6 : r ≤ 18446744073709551615) (h7 : t.size ≤ 140737488355328) : V.wf ⟨k, n, r, t⟩ := ⟨h1, h2, h3, h4, h5, h6, h7⟩
theorem VBlk.zero {w : World} {b : Nat} (h : VBlk w b V0) : w.cell? ⟨b, 0, none⟩ = some (.int .u8 0) ∧ w.cell? ⟨b, 1, none⟩ = some (.int .i64 0) ∧ w.cell? ⟨b, 2, none⟩ = some (.int .u64 0) ∧ w.cell? ⟨b, 3, none⟩ = some (.string ⟨#[]⟩) ∧ ∀ i, w.frozen? ⟨b, i, none⟩ = false :=
 ⟨cell_of_row w b 0 _ _ (0, 0) h, cell_of_row w b 1 _ _ (0, 0) h, cell_of_row w b 2 _ _ (0, 0) h, cell_of_row w b 3 _ _ (0, 0) h, fun i => by unfold VBlk at h; simp [World.frozen?, h]⟩
theorem VBlk.far {w : World} {b : Nat} {v : V} (h : VBlk w b v) {p : Addr} (hn : b ≠ p.block) (u : Value) : VBlk (w.setCell p u) b v := (Below.heap_setCell w p u b hn).trans h
set_option maxRecDepth 100000 in
set_option maxHeartbeats 400000 in
theorem value_1 (s : ByteArray) (g p : Nat) (w : World) (hr : Rd w g s p) (hs : s.size ≤ 140737488355328) (hT : Tabs w)
  (c b : UInt8) (r : List UInt8) (hl : s.data.toList.drop p = c :: b :: r) (hc : c.toNat = 1) :
  Calls Tryz.prog 88 #[.pointer (some ⟨g, 0, none⟩)] w (ValPost w g s p (getV (c :: b :: r))) := by
 obtain ⟨hlt, e2, e3, e4⟩ := hd_lt hl
 obtain ⟨hlt', e2', _, _⟩ := hd_lt e3.symm
 have hgl := hr.lt
 have hgn : ¬ w.heap.size = g := by omega
 have hT1 := fun W hW => take_ok s g p 1 W hW hs (by omega)
 rw [e2] at hT1
 have HT1 := hd_ hT1
 have HT := hd_ hT
 have HR := hd_ hr
 have h0 : (⟨#[c]⟩ : ByteArray)[0]'(Nat.zero_lt_one) = c := rfl
 have hT2 := fun W hW => take_ok s g (p + 1) 1 W hW hs (by omega)
 rw [e2'] at hT2
 have HT2 := hd_ hT2
 have e : getV (c :: b :: r) = finV ⟨1, b.toNat, 0, ByteArray.empty⟩ 2 := by simp [getV, hc]
 rw [e]
 have hb : (b.toNat : Int) < 256 := by have := b.toNat_lt; omega
 have hb0 : (0 : Int) ≤ (b.toNat : Int) := by omega
 have h0' : (⟨#[b]⟩ : ByteArray)[0]'(Nat.zero_lt_one) = b := rfl
 have hc0 : (c.toNat : Int) = 1 := by omega
 clear e hT1 hT2 hT hr e2 e3 e4 e2' hl hlt hlt' hc
 have hwf : V.wf ⟨1, b.toNat, 0, ByteArray.empty⟩ := wf_mk (by omega) (by omega) (by omega) (by omega) (by omega) (by omega) (by decide)
 cases hm : mayB ⟨1, b.toNat, 0, ByteArray.empty⟩
 · rw [finV_not hm]
   have hck := check_not _ hwf hm
   unfold V.agg at hck
   have HCK := hd_ hck
   clear hck hm hwf
   go_enter Tryz.func88, Tryz.ntmps88
   go_wp2_with (first | (go_at_call 87; refine (HT1.out _ (HR.out.far ((Below.refl _ _).alloc (Nat.le_refl _) _))).mono ?_; rintro e w1 ⟨rfl, hR1, hG1⟩; obtain ⟨k1, k2⟩ := gcell hG1; have hz1 : w.heap.size < w1.heap.size := (by have := hG1.size; simp at this; omega); have hgn1 : ¬ w1.heap.size = g := (by omega); have HR1 := hd_ hR1; have HG1 := hd_ hG1; clear hR1 hG1 HT1) | (go_at_call 87; refine (HT2.out _ (HR1.out.far ((Below.refl _ _).alloc (Nat.le_refl _) _))).mono ?_; rintro e w2 ⟨rfl, hR2, hG2⟩; obtain ⟨k3, k4⟩ := gcell hG2; have hz2 : w1.heap.size < w2.heap.size := (by have := hG2.size; simp at this; omega); have HR2 := hd_ hR2; have HG2 := hd_ hG2; clear hR2 hG2 HT2) | (go_at_call 58; refine (HCK.out _ (tabs_grown HT.out HR.out (only_setNew (only_trans (only_first _ HG1.out) (only_first _ HG2.out)) (by simp; omega) _))).mono ?_; rintro e w3 ⟨rfl, hb3⟩; obtain ⟨k5, k6⟩ := bcell hb3; have HB3 := hd_ hb3; clear hb3))
   exact ⟨rfl, only_trans (only_setNew (only_trans (only_first _ HG1.out) (only_first _ HG2.out)) (by simp; omega) _) (only_below HB3.out _), Or.inr ⟨by decide, rfl⟩⟩
 · rw [finV_yes hm]
   have hck := check_yes _ hwf hm
   unfold V.agg at hck
   have HCK := hd_ hck
   clear hck hm hwf
   go_enter Tryz.func88, Tryz.ntmps88
   go_wp2_with (first | (go_at_call 87; refine (HT1.out _ (HR.out.far ((Below.refl _ _).alloc (Nat.le_refl _) _))).mono ?_; rintro e w1 ⟨rfl, hR1, hG1⟩; obtain ⟨k1, k2⟩ := gcell hG1; have hz1 : w.heap.size < w1.heap.size := (by have := hG1.size; simp at this; omega); have hgn1 : ¬ w1.heap.size = g := (by omega); have HR1 := hd_ hR1; have HG1 := hd_ hG1; clear hR1 hG1 HT1) | (go_at_call 87; refine (HT2.out _ (HR1.out.far ((Below.refl _ _).alloc (Nat.le_refl _) _))).mono ?_; rintro e w2 ⟨rfl, hR2, hG2⟩; obtain ⟨k3, k4⟩ := gcell hG2; have hz2 : w1.heap.size < w2.heap.size := (by have := hG2.size; simp at this; omega); have HR2 := hd_ hR2; have HG2 := hd_ hG2; clear hR2 hG2 HT2) | (go_at_call 58; refine (HCK.out _ (tabs_grown HT.out HR.out (only_setNew (only_trans (only_first _ HG1.out) (only_first _ HG2.out)) (by simp; omega) _))).mono ?_; rintro e w3 ⟨rfl, hb3⟩; obtain ⟨k5, k6⟩ := bcell hb3; have hV3 := ((((((VBlk.new w).grown HG1.out (by simp; omega))).ext ((Below.refl _ _).alloc (Nat.le_refl _) _)).grown HG2.out (by simp; omega)).far (p := ⟨w1.heap.size, 1, none⟩) (by simp; omega) _).ext hb3; obtain ⟨d0, d1, d2, d3, d4⟩ := hV3.zero; have HV3 := hd_ hV3; have HB3 := hd_ hb3; clear hb3 hV3))
   have hR3 := (HR2.out.setFar (a := ⟨w1.heap.size, 1, none⟩) (by simp; omega) _).far HB3.out
   exact value_end (v := ⟨1, b.toNat, 0, ByteArray.empty⟩) hgl (only_trans (only_setNew (only_trans (only_first _ HG1.out) (only_first _ HG2.out)) (by simp; omega) _) (only_below HB3.out _)) hR3 HV3.out rfl rfl
set_option maxRecDepth 100000 in
set_option maxHeartbeats 400000 in
theorem value_2 (s : ByteArray) (g p : Nat) (w : World) (hr : Rd w g s p) (hs : s.size ≤ 140737488355328) (hT : Tabs w)
  (c : UInt8) (r : List UInt8) (hl : s.data.toList.drop p = c :: r) (hc : c.toNat = 2) (h8 : 8 ≤ r.length) :
  Calls Tryz.prog 88 #[.pointer (some ⟨g, 0, none⟩)] w (ValPost w g s p (getV (c :: r))) := by
 obtain ⟨hlt, e2, e3, e4⟩ := hd_lt hl
 have hgl := hr.lt
 have hgn : ¬ w.heap.size = g := by omega
 have hT1 := fun W hW => take_ok s g p 1 W hW hs (by omega)
 rw [e2] at hT1
 have HT1 := hd_ hT1
 have HT := hd_ hT
 have HR := hd_ hr
 have h0 : (⟨#[c]⟩ : ByteArray)[0]'(Nat.zero_lt_one) = c := rfl
 have hT2 := fun W hW => number_ok s g (p + 1) W hW hs (by omega)
 rw [← e3] at hT2
 have e : getV (c :: r) = finV ⟨2, i64of (valL (r.take 8)), 0, ByteArray.empty⟩ 9 := by simp [getV, hc]; omega
 rw [e]
 have hM : valL (r.take 8) ≤ 18446744073709551615 := by
  have h := valL_lt (r.take 8)
  rw [List.length_take, Nat.min_eq_left h8] at h
  have : (256 : Nat) ^ 8 = 18446744073709551616 := by decide
  omega
 generalize valL (r.take 8) = M at hT2 hM ⊢
 have HT2 := hd_ hT2
 have hc0 : (c.toNat : Int) = 2 := by omega
 clear e hT1 hT2 hT hr e2 e3 e4 hl hlt hc h8
 have hi := i64of_range M hM
 have hwf : V.wf ⟨2, i64of M, 0, ByteArray.empty⟩ := wf_mk (by omega) (by omega) (by omega) (by omega) (by omega) (by omega) (by decide)
 cases hm : mayB ⟨2, i64of M, 0, ByteArray.empty⟩
 · rw [finV_not hm]
   have hck := check_not _ hwf hm
   unfold V.agg at hck
   have HCK := hd_ hck
   clear hck hm hwf
   go_enter Tryz.func88, Tryz.ntmps88
   go_wp2_with (first | (go_at_call 87; refine (HT1.out _ (HR.out.far ((Below.refl _ _).alloc (Nat.le_refl _) _))).mono ?_; rintro e w1 ⟨rfl, hR1, hG1⟩; obtain ⟨k1, k2⟩ := gcell hG1; have hz1 : w.heap.size < w1.heap.size := (by have := hG1.size; simp at this; omega); have hgn1 : ¬ w1.heap.size = g := (by omega); have HR1 := hd_ hR1; have HG1 := hd_ hG1; clear hR1 hG1 HT1) | (go_at_call 126; refine (HT2.out _ (HR1.out.far ((Below.refl _ _).alloc (Nat.le_refl _) _))).mono ?_; rintro e w2 ⟨rfl, hR2, hG2⟩; obtain ⟨k3, k4⟩ := gcell hG2; have hz2 : w1.heap.size < w2.heap.size := (by have := hG2.size; simp at this; omega); have HR2 := hd_ hR2; have HG2 := hd_ hG2; clear hR2 hG2 HT2) | (go_at_call 58; refine (HCK.out _ (tabs_grown HT.out HR.out (only_setNew (only_trans (only_first _ HG1.out) (only_first _ HG2.out)) (by simp; omega) _))).mono ?_; rintro e w3 ⟨rfl, hb3⟩; obtain ⟨k5, k6⟩ := bcell hb3; have HB3 := hd_ hb3; clear hb3))
   exact ⟨rfl, only_trans (only_setNew (only_trans (only_first _ HG1.out) (only_first _ HG2.out)) (by simp; omega) _) (only_below HB3.out _), Or.inr ⟨by decide, rfl⟩⟩
 · rw [finV_yes hm]
   have hck := check_yes _ hwf hm
   unfold V.agg at hck
   have HCK := hd_ hck
   clear hck hm hwf
   go_enter Tryz.func88, Tryz.ntmps88
   go_wp2_with (first | (go_at_call 87; refine (HT1.out _ (HR.out.far ((Below.refl _ _).alloc (Nat.le_refl _) _))).mono ?_; rintro e w1 ⟨rfl, hR1, hG1⟩; obtain ⟨k1, k2⟩ := gcell hG1; have hz1 : w.heap.size < w1.heap.size := (by have := hG1.size; simp at this; omega); have hgn1 : ¬ w1.heap.size = g := (by omega); have HR1 := hd_ hR1; have HG1 := hd_ hG1; clear hR1 hG1 HT1) | (go_at_call 126; refine (HT2.out _ (HR1.out.far ((Below.refl _ _).alloc (Nat.le_refl _) _))).mono ?_; rintro e w2 ⟨rfl, hR2, hG2⟩; obtain ⟨k3, k4⟩ := gcell hG2; have hz2 : w1.heap.size < w2.heap.size := (by have := hG2.size; simp at this; omega); have HR2 := hd_ hR2; have HG2 := hd_ hG2; clear hR2 hG2 HT2) | (go_at_call 58; refine (HCK.out _ (tabs_grown HT.out HR.out (only_setNew (only_trans (only_first _ HG1.out) (only_first _ HG2.out)) (by simp; omega) _))).mono ?_; rintro e w3 ⟨rfl, hb3⟩; obtain ⟨k5, k6⟩ := bcell hb3; have hV3 := ((((((VBlk.new w).grown HG1.out (by simp; omega))).ext ((Below.refl _ _).alloc (Nat.le_refl _) _)).grown HG2.out (by simp; omega)).far (p := ⟨w1.heap.size, 1, none⟩) (by simp; omega) _).ext hb3; obtain ⟨d0, d1, d2, d3, d4⟩ := hV3.zero; have HV3 := hd_ hV3; have HB3 := hd_ hb3; clear hb3 hV3))
   have hR3 := (HR2.out.setFar (a := ⟨w1.heap.size, 1, none⟩) (by simp; omega) _).far HB3.out
   exact value_end (v := ⟨2, i64of M, 0, ByteArray.empty⟩) hgl (only_trans (only_setNew (only_trans (only_first _ HG1.out) (only_first _ HG2.out)) (by simp; omega) _) (only_below HB3.out _)) hR3 HV3.out rfl rfl
set_option maxRecDepth 100000 in
set_option maxHeartbeats 400000 in
theorem value_3 (s : ByteArray) (g p : Nat) (w : World) (hr : Rd w g s p) (hs : s.size ≤ 140737488355328) (hT : Tabs w)
  (c : UInt8) (r : List UInt8) (hl : s.data.toList.drop p = c :: r) (hc : c.toNat = 3) (h8 : 8 ≤ r.length) :
  Calls Tryz.prog 88 #[.pointer (some ⟨g, 0, none⟩)] w (ValPost w g s p (getV (c :: r))) := by
 obtain ⟨hlt, e2, e3, e4⟩ := hd_lt hl
 have hgl := hr.lt
 have hgn : ¬ w.heap.size = g := by omega
 have hT1 := fun W hW => take_ok s g p 1 W hW hs (by omega)
 rw [e2] at hT1
 have HT1 := hd_ hT1
 have HT := hd_ hT
 have HR := hd_ hr
 have h0 : (⟨#[c]⟩ : ByteArray)[0]'(Nat.zero_lt_one) = c := rfl
 have hT2 := fun W hW => number_ok s g (p + 1) W hW hs (by omega)
 rw [← e3] at hT2
 have e : getV (c :: r) = finV ⟨3, 0, valL (r.take 8), ByteArray.empty⟩ 9 := by simp [getV, hc]; omega
 rw [e]
 have hM : valL (r.take 8) ≤ 18446744073709551615 := by
  have h := valL_lt (r.take 8)
  rw [List.length_take, Nat.min_eq_left h8] at h
  have : (256 : Nat) ^ 8 = 18446744073709551616 := by decide
  omega
 generalize valL (r.take 8) = M at hT2 hM ⊢
 have HT2 := hd_ hT2
 have hc0 : (c.toNat : Int) = 3 := by omega
 clear e hT1 hT2 hT hr e2 e3 e4 hl hlt hc h8
 have hwf : V.wf ⟨3, 0, M, ByteArray.empty⟩ := wf_mk (by omega) (by omega) (by omega) (by omega) (by omega) (by omega) (by decide)
 cases hm : mayB ⟨3, 0, M, ByteArray.empty⟩
 · rw [finV_not hm]
   have hck := check_not _ hwf hm
   unfold V.agg at hck
   have HCK := hd_ hck
   clear hck hm hwf
   go_enter Tryz.func88, Tryz.ntmps88
   go_wp2_with (first | (go_at_call 87; refine (HT1.out _ (HR.out.far ((Below.refl _ _).alloc (Nat.le_refl _) _))).mono ?_; rintro e w1 ⟨rfl, hR1, hG1⟩; obtain ⟨k1, k2⟩ := gcell hG1; have hz1 : w.heap.size < w1.heap.size := (by have := hG1.size; simp at this; omega); have hgn1 : ¬ w1.heap.size = g := (by omega); have HR1 := hd_ hR1; have HG1 := hd_ hG1; clear hR1 hG1 HT1) | (go_at_call 126; refine (HT2.out _ (HR1.out.far ((Below.refl _ _).alloc (Nat.le_refl _) _))).mono ?_; rintro e w2 ⟨rfl, hR2, hG2⟩; obtain ⟨k3, k4⟩ := gcell hG2; have hz2 : w1.heap.size < w2.heap.size := (by have := hG2.size; simp at this; omega); have HR2 := hd_ hR2; have HG2 := hd_ hG2; clear hR2 hG2 HT2) | (go_at_call 58; refine (HCK.out _ (tabs_grown HT.out HR.out (only_setNew (only_trans (only_first _ HG1.out) (only_first _ HG2.out)) (by simp; omega) _))).mono ?_; rintro e w3 ⟨rfl, hb3⟩; obtain ⟨k5, k6⟩ := bcell hb3; have HB3 := hd_ hb3; clear hb3))
   exact ⟨rfl, only_trans (only_setNew (only_trans (only_first _ HG1.out) (only_first _ HG2.out)) (by simp; omega) _) (only_below HB3.out _), Or.inr ⟨by decide, rfl⟩⟩
 · rw [finV_yes hm]
   have hck := check_yes _ hwf hm
   unfold V.agg at hck
   have HCK := hd_ hck
   clear hck hm hwf
   go_enter Tryz.func88, Tryz.ntmps88
   go_wp2_with (first | (go_at_call 87; refine (HT1.out _ (HR.out.far ((Below.refl _ _).alloc (Nat.le_refl _) _))).mono ?_; rintro e w1 ⟨rfl, hR1, hG1⟩; obtain ⟨k1, k2⟩ := gcell hG1; have hz1 : w.heap.size < w1.heap.size := (by have := hG1.size; simp at this; omega); have hgn1 : ¬ w1.heap.size = g := (by omega); have HR1 := hd_ hR1; have HG1 := hd_ hG1; clear hR1 hG1 HT1) | (go_at_call 126; refine (HT2.out _ (HR1.out.far ((Below.refl _ _).alloc (Nat.le_refl _) _))).mono ?_; rintro e w2 ⟨rfl, hR2, hG2⟩; obtain ⟨k3, k4⟩ := gcell hG2; have hz2 : w1.heap.size < w2.heap.size := (by have := hG2.size; simp at this; omega); have HR2 := hd_ hR2; have HG2 := hd_ hG2; clear hR2 hG2 HT2) | (go_at_call 58; refine (HCK.out _ (tabs_grown HT.out HR.out (only_setNew (only_trans (only_first _ HG1.out) (only_first _ HG2.out)) (by simp; omega) _))).mono ?_; rintro e w3 ⟨rfl, hb3⟩; obtain ⟨k5, k6⟩ := bcell hb3; have hV3 := ((((((VBlk.new w).grown HG1.out (by simp; omega))).ext ((Below.refl _ _).alloc (Nat.le_refl _) _)).grown HG2.out (by simp; omega)).far (p := ⟨w1.heap.size, 2, none⟩) (by simp; omega) _).ext hb3; obtain ⟨d0, d1, d2, d3, d4⟩ := hV3.zero; have HV3 := hd_ hV3; have HB3 := hd_ hb3; clear hb3 hV3))
   have hR3 := (HR2.out.setFar (a := ⟨w1.heap.size, 2, none⟩) (by simp; omega) _).far HB3.out
   exact value_end (v := ⟨3, 0, M, ByteArray.empty⟩) hgl (only_trans (only_setNew (only_trans (only_first _ HG1.out) (only_first _ HG2.out)) (by simp; omega) _) (only_below HB3.out _)) hR3 HV3.out rfl rfl
set_option maxRecDepth 100000 in
set_option maxHeartbeats 400000 in
theorem value_4 (s : ByteArray) (g p : Nat) (w : World) (hr : Rd w g s p) (hs : s.size ≤ 140737488355328) (hT : Tabs w)
  (c b : UInt8) (r : List UInt8) (hl : s.data.toList.drop p = c :: b :: r) (hc : c.toNat = 4) (hE : textE false (b :: r) = 0) :
  Calls Tryz.prog 88 #[.pointer (some ⟨g, 0, none⟩)] w (ValPost w g s p (getV (c :: b :: r))) := by
 obtain ⟨hlt, e2, e3, e4⟩ := hd_lt hl
 have hgl := hr.lt
 have hgn : ¬ w.heap.size = g := by omega
 have hT1 := fun W hW => take_ok s g p 1 W hW hs (by omega)
 rw [e2] at hT1
 have HT1 := hd_ hT1
 have HT := hd_ hT
 have HR := hd_ hr
 have h0 : (⟨#[c]⟩ : ByteArray)[0]'(Nat.zero_lt_one) = c := rfl
 have hT2 := fun W hW hTW => text_ok s g (p + 1) false W hW hs hTW b r e3.symm hE
 obtain ⟨hE1, _, hE3⟩ := textE_ok hE
 obtain ⟨hlt', e2', e3', e4'⟩ := hd_lt e3.symm
 have hst : s.extract (p + 1 + 1) (p + 1 + 1 + b.toNat) = ⟨(r.take b.toNat).toArray⟩ := ba_of (by rw [pre_list, ← e3'])
 rw [hst] at hT2
 have e : getV (c :: b :: r) = finV ⟨4, 0, 0, ⟨(r.take b.toNat).toArray⟩⟩ (2 + b.toNat) := by simp [getV, hc, hE]
 rw [e]
 have hz : (ByteArray.mk (r.take b.toNat).toArray).size ≤ 100 := by simp [ByteArray.size]; omega
 generalize ByteArray.mk (r.take b.toNat).toArray = t at hT2 hz ⊢
 have hn : p + 1 + 1 + b.toNat = p + (2 + b.toNat) := by omega
 rw [hn] at hT2
 have HT2 := hd_ hT2
 have hc0 : (c.toNat : Int) = 4 := by omega
 clear e hT1 hT2 hT hr e2 e3 e4 e2' e3' e4' hl hlt hlt' hc hst hn hE
 have hwf : V.wf ⟨4, 0, 0, t⟩ := wf_mk (by omega) (by omega) (by omega) (by omega) (by omega) (by omega) (by omega)
 cases hm : mayB ⟨4, 0, 0, t⟩
 · rw [finV_not hm]
   have hck := check_not _ hwf hm
   unfold V.agg at hck
   have HCK := hd_ hck
   clear hck hm hwf
   go_enter Tryz.func88, Tryz.ntmps88
   go_wp2_with (first | (go_at_call 87; refine (HT1.out _ (HR.out.far ((Below.refl _ _).alloc (Nat.le_refl _) _))).mono ?_; rintro e w1 ⟨rfl, hR1, hG1⟩; obtain ⟨k1, k2⟩ := gcell hG1; have hz1 : w.heap.size < w1.heap.size := (by have := hG1.size; simp at this; omega); have hgn1 : ¬ w1.heap.size = g := (by omega); have HR1 := hd_ hR1; have HG1 := hd_ hG1; clear hR1 hG1 HT1) | (go_at_call 127; refine (HT2.out _ (HR1.out.far ((Below.refl _ _).alloc (Nat.le_refl _) _)) (tabs_grown HT.out HR.out (only_alloc (only_first _ HG1.out) _))).mono ?_; rintro e w2 ⟨rfl, hR2, hG2⟩; obtain ⟨k3, k4⟩ := gcell hG2; have hz2 : w1.heap.size < w2.heap.size := (by have := hG2.size; simp at this; omega); have HR2 := hd_ hR2; have HG2 := hd_ hG2; clear hR2 hG2 HT2) | (go_at_call 58; refine (HCK.out _ (tabs_grown HT.out HR.out (only_setNew (only_trans (only_first _ HG1.out) (only_first _ HG2.out)) (by simp; omega) _))).mono ?_; rintro e w3 ⟨rfl, hb3⟩; obtain ⟨k5, k6⟩ := bcell hb3; have HB3 := hd_ hb3; clear hb3))
   exact ⟨rfl, only_trans (only_setNew (only_trans (only_first _ HG1.out) (only_first _ HG2.out)) (by simp; omega) _) (only_below HB3.out _), Or.inr ⟨by decide, rfl⟩⟩
 · rw [finV_yes hm]
   have hck := check_yes _ hwf hm
   unfold V.agg at hck
   have HCK := hd_ hck
   clear hck hm hwf
   go_enter Tryz.func88, Tryz.ntmps88
   go_wp2_with (first | (go_at_call 87; refine (HT1.out _ (HR.out.far ((Below.refl _ _).alloc (Nat.le_refl _) _))).mono ?_; rintro e w1 ⟨rfl, hR1, hG1⟩; obtain ⟨k1, k2⟩ := gcell hG1; have hz1 : w.heap.size < w1.heap.size := (by have := hG1.size; simp at this; omega); have hgn1 : ¬ w1.heap.size = g := (by omega); have HR1 := hd_ hR1; have HG1 := hd_ hG1; clear hR1 hG1 HT1) | (go_at_call 127; refine (HT2.out _ (HR1.out.far ((Below.refl _ _).alloc (Nat.le_refl _) _)) (tabs_grown HT.out HR.out (only_alloc (only_first _ HG1.out) _))).mono ?_; rintro e w2 ⟨rfl, hR2, hG2⟩; obtain ⟨k3, k4⟩ := gcell hG2; have hz2 : w1.heap.size < w2.heap.size := (by have := hG2.size; simp at this; omega); have HR2 := hd_ hR2; have HG2 := hd_ hG2; clear hR2 hG2 HT2) | (go_at_call 58; refine (HCK.out _ (tabs_grown HT.out HR.out (only_setNew (only_trans (only_first _ HG1.out) (only_first _ HG2.out)) (by simp; omega) _))).mono ?_; rintro e w3 ⟨rfl, hb3⟩; obtain ⟨k5, k6⟩ := bcell hb3; have hV3 := ((((((VBlk.new w).grown HG1.out (by simp; omega))).ext ((Below.refl _ _).alloc (Nat.le_refl _) _)).grown HG2.out (by simp; omega)).far (p := ⟨w1.heap.size, 3, none⟩) (by simp; omega) _).ext hb3; obtain ⟨d0, d1, d2, d3, d4⟩ := hV3.zero; have HV3 := hd_ hV3; have HB3 := hd_ hb3; clear hb3 hV3))
   have hR3 := (HR2.out.setFar (a := ⟨w1.heap.size, 3, none⟩) (by simp; omega) _).far HB3.out
   exact value_end (v := ⟨4, 0, 0, t⟩) hgl (only_trans (only_setNew (only_trans (only_first _ HG1.out) (only_first _ HG2.out)) (by simp; omega) _) (only_below HB3.out _)) hR3 HV3.out rfl rfl
set_option maxRecDepth 100000 in
set_option maxHeartbeats 400000 in
theorem value_5 (s : ByteArray) (g p : Nat) (w : World) (hr : Rd w g s p) (hs : s.size ≤ 140737488355328) (hT : Tabs w)
  (c b : UInt8) (r : List UInt8) (hl : s.data.toList.drop p = c :: b :: r) (hc : c.toNat = 5) (hE : textE true (b :: r) = 0) :
  Calls Tryz.prog 88 #[.pointer (some ⟨g, 0, none⟩)] w (ValPost w g s p (getV (c :: b :: r))) := by
 obtain ⟨hlt, e2, e3, e4⟩ := hd_lt hl
 have hgl := hr.lt
 have hgn : ¬ w.heap.size = g := by omega
 have hT1 := fun W hW => take_ok s g p 1 W hW hs (by omega)
 rw [e2] at hT1
 have HT1 := hd_ hT1
 have HT := hd_ hT
 have HR := hd_ hr
 have h0 : (⟨#[c]⟩ : ByteArray)[0]'(Nat.zero_lt_one) = c := rfl
 have hT2 := fun W hW hTW => text_ok s g (p + 1) true W hW hs hTW b r e3.symm hE
 obtain ⟨hE1, _, hE3⟩ := textE_ok hE
 obtain ⟨hlt', e2', e3', e4'⟩ := hd_lt e3.symm
 have hst : s.extract (p + 1 + 1) (p + 1 + 1 + b.toNat) = ⟨(r.take b.toNat).toArray⟩ := ba_of (by rw [pre_list, ← e3'])
 rw [hst] at hT2
 have e : getV (c :: b :: r) = finV ⟨5, 0, 0, ⟨(r.take b.toNat).toArray⟩⟩ (2 + b.toNat) := by simp [getV, hc, hE]
 rw [e]
 have hz : (ByteArray.mk (r.take b.toNat).toArray).size ≤ 100 := by simp [ByteArray.size]; omega
 generalize ByteArray.mk (r.take b.toNat).toArray = t at hT2 hz ⊢
 have hn : p + 1 + 1 + b.toNat = p + (2 + b.toNat) := by omega
 rw [hn] at hT2
 have HT2 := hd_ hT2
 have hc0 : (c.toNat : Int) = 5 := by omega
 clear e hT1 hT2 hT hr e2 e3 e4 e2' e3' e4' hl hlt hlt' hc hst hn hE
 have hwf : V.wf ⟨5, 0, 0, t⟩ := wf_mk (by omega) (by omega) (by omega) (by omega) (by omega) (by omega) (by omega)
 cases hm : mayB ⟨5, 0, 0, t⟩
 · rw [finV_not hm]
   have hck := check_not _ hwf hm
   unfold V.agg at hck
   have HCK := hd_ hck
   clear hck hm hwf
   go_enter Tryz.func88, Tryz.ntmps88
   go_wp2_with (first | (go_at_call 87; refine (HT1.out _ (HR.out.far ((Below.refl _ _).alloc (Nat.le_refl _) _))).mono ?_; rintro e w1 ⟨rfl, hR1, hG1⟩; obtain ⟨k1, k2⟩ := gcell hG1; have hz1 : w.heap.size < w1.heap.size := (by have := hG1.size; simp at this; omega); have hgn1 : ¬ w1.heap.size = g := (by omega); have HR1 := hd_ hR1; have HG1 := hd_ hG1; clear hR1 hG1 HT1) | (go_at_call 127; refine (HT2.out _ (HR1.out.far ((Below.refl _ _).alloc (Nat.le_refl _) _)) (tabs_grown HT.out HR.out (only_alloc (only_first _ HG1.out) _))).mono ?_; rintro e w2 ⟨rfl, hR2, hG2⟩; obtain ⟨k3, k4⟩ := gcell hG2; have hz2 : w1.heap.size < w2.heap.size := (by have := hG2.size; simp at this; omega); have HR2 := hd_ hR2; have HG2 := hd_ hG2; clear hR2 hG2 HT2) | (go_at_call 58; refine (HCK.out _ (tabs_grown HT.out HR.out (only_setNew (only_trans (only_first _ HG1.out) (only_first _ HG2.out)) (by simp; omega) _))).mono ?_; rintro e w3 ⟨rfl, hb3⟩; obtain ⟨k5, k6⟩ := bcell hb3; have HB3 := hd_ hb3; clear hb3))
   exact ⟨rfl, only_trans (only_setNew (only_trans (only_first _ HG1.out) (only_first _ HG2.out)) (by simp; omega) _) (only_below HB3.out _), Or.inr ⟨by decide, rfl⟩⟩
 · rw [finV_yes hm]
   have hck := check_yes _ hwf hm
   unfold V.agg at hck
   have HCK := hd_ hck
   clear hck hm hwf
   go_enter Tryz.func88, Tryz.ntmps88
   go_wp2_with (first | (go_at_call 87; refine (HT1.out _ (HR.out.far ((Below.refl _ _).alloc (Nat.le_refl _) _))).mono ?_; rintro e w1 ⟨rfl, hR1, hG1⟩; obtain ⟨k1, k2⟩ := gcell hG1; have hz1 : w.heap.size < w1.heap.size := (by have := hG1.size; simp at this; omega); have hgn1 : ¬ w1.heap.size = g := (by omega); have HR1 := hd_ hR1; have HG1 := hd_ hG1; clear hR1 hG1 HT1) | (go_at_call 127; refine (HT2.out _ (HR1.out.far ((Below.refl _ _).alloc (Nat.le_refl _) _)) (tabs_grown HT.out HR.out (only_alloc (only_first _ HG1.out) _))).mono ?_; rintro e w2 ⟨rfl, hR2, hG2⟩; obtain ⟨k3, k4⟩ := gcell hG2; have hz2 : w1.heap.size < w2.heap.size := (by have := hG2.size; simp at this; omega); have HR2 := hd_ hR2; have HG2 := hd_ hG2; clear hR2 hG2 HT2) | (go_at_call 58; refine (HCK.out _ (tabs_grown HT.out HR.out (only_setNew (only_trans (only_first _ HG1.out) (only_first _ HG2.out)) (by simp; omega) _))).mono ?_; rintro e w3 ⟨rfl, hb3⟩; obtain ⟨k5, k6⟩ := bcell hb3; have hV3 := ((((((VBlk.new w).grown HG1.out (by simp; omega))).ext ((Below.refl _ _).alloc (Nat.le_refl _) _)).grown HG2.out (by simp; omega)).far (p := ⟨w1.heap.size, 3, none⟩) (by simp; omega) _).ext hb3; obtain ⟨d0, d1, d2, d3, d4⟩ := hV3.zero; have HV3 := hd_ hV3; have HB3 := hd_ hb3; clear hb3 hV3))
   have hR3 := (HR2.out.setFar (a := ⟨w1.heap.size, 3, none⟩) (by simp; omega) _).far HB3.out
   exact value_end (v := ⟨5, 0, 0, t⟩) hgl (only_trans (only_setNew (only_trans (only_first _ HG1.out) (only_first _ HG2.out)) (by simp; omega) _) (only_below HB3.out _)) hR3 HV3.out rfl rfl
end Go.Proofs.YtceoficoappkpaaGreatDoor
