/- Documents: the program's reader, where a row can be read. -/
import Derived.Test.YtjdfodmialhakaaDoorDc18
import Derived.Test.YtjdfodmialhakaaDoorDc17
import Derived.BigQuiet
namespace Go.Proofs.YtjdfodmialhakaaDoor
open Go.RowKit

theorem KOut.only {base n x : Nat} {w w' : World} {v : Value} {xs : List Value} {ks : List De} (h : KOut base n w v xs ks) (hg : w.grownBy w' (some x)) (hx : x < base) : KOut base n w' v xs ks :=
  ⟨own_grown h.1 hg (Or.inr (fun e => by have := (h.1.lt x e).1; omega)), h.2.mono (fun _ _ h => h.grown hg (fun b hb e => by cases e; omega))⟩
theorem Fr.grown {w : World} {R : Nat} {s : ByteArray} {dp : Int} {bad : Bool} {c0 c1 c2 : Value} {W W' : World} {row : Option Nat} (h : Fr w R s dp bad c0 c1 c2 W) (hg : W.grownBy W' row) (hr : ∀ g, row = some g → w.heap.size + 2 ≤ g) : Fr w R s dp bad c0 c1 c2 W' := by
  have hl := h.lt
  have key : ∀ b cs t, b < w.heap.size + 2 → Blk W b cs t → Blk W' b cs t := fun b cs t hb hx => (hg.block b hx.lt (fun e => by have := hr b e.symm; omega)).trans hx
  refine ⟨key _ _ _ (by omega) h.r, key _ _ _ (by omega) h.b, key _ _ _ (by omega) h.d, ⟨hg.os.trans h.g.os, hg.tape.trans h.g.tape, hg.output.trans h.g.output, Nat.le_trans h.g.size hg.size, fun x hx hn => ?_⟩, hl⟩
  have h1 := h.g.block x hx hn
  rw [← h1]
  have hsz := h.g.size
  exact hg.block x (by omega) (fun e => by have := hr x e.symm; omega)
/-- The reader, behind a call of itself. -/
theorem Fr.called {w : World} {R : Nat} {s s2 : ByteArray} {dp dp2 : Int} {bad bad2 : Bool} {c0 c1 c2 : Value} {W W' : World} (h : Fr w R s dp bad c0 c1 c2 W) (hg : W.grownBy W' (some R)) (hr : RdK W' R s2 dp2 bad2) : Fr w R s2 dp2 bad2 c0 c1 c2 W' := by
  have hl := h.lt
  exact ⟨hr, (hg.block _ h.b.lt (fun e => by cases e; omega)).trans h.b, (hg.block _ h.d.lt (fun e => by cases e; omega)).trans h.d, only_trans h.g hg, hl⟩
/-- The kids' loop. -/
def LpI (w : World) (R k : Nat) (dp : Int) (f0 : Option (List De × List UInt8)) (t : Int) (A : Option Addr) (ca : Nat) (row : List V) (smax j : Nat) (bad : Bool) (s' : ByteArray) (Av : Option Addr) (n' cv : Nat) (W : World) : Prop :=
  Fr w R s' (dp + 1) bad (.int .i64 t) (.slice A row.length ca) (.slice Av n' cv) W ∧ W.ownsRow (w.heap.size + 2) 24 4 (.slice A row.length ca) row.length (rowCells row) ∧
    ((bad = true ∧ f0 = none) ∨ (bad = false ∧ s'.size ≤ smax ∧ ∃ ds xs, n' = ds.length ∧ ds.length + j ≤ 65535 ∧ KOut (w.heap.size + 2) k W (.slice Av ds.length cv) xs ds ∧ f0 = (nextK (nextD k) j s'.data.toList).map fun x => (ds ++ x.1, x.2)))
theorem LpI.end_ {w : World} {R k : Nat} {dp : Int} {f0 : Option (List De × List UInt8)} {t : Int} {A : Option Addr} {ca : Nat} {row : List V} {smax j : Nat} {bad : Bool} {s' : ByteArray} {Av : Option Addr} {n' cv : Nat} {W : World} (h : LpI w R k dp f0 t A ca row smax j bad s' Av n' cv W)
    (he : bad = true ∨ j = 0) (hr : (∀ v ∈ row, v.wf) ∧ row.length ≤ 35184372088832) (ht : -9223372036854775808 ≤ t ∧ t ≤ 9223372036854775807) {o : Option (De × List UInt8)} (ho : o = f0.map fun x => (.mk t row x.1, x.2)) :
    (o = none ∧ bad = true) ∨ (∃ d, o = some (d, s'.data.toList) ∧ bad = false ∧ DRp (fun b => w.heap.size ≤ b) (k + 1) W (.agg #[.int .i64 t, .slice A row.length ca, .slice Av n' cv]) d) := by
  subst ho
  obtain ⟨hF, hO, ⟨rfl, rfl⟩ | ⟨rfl, hs, ds, xs, rfl, hl, hk, rfl⟩⟩ := h
  · exact Or.inl ⟨rfl, rfl⟩
  · rcases he with he | rfl
    · cases he
    · right
      have hge := own_ge hO
      obtain ⟨⟨hkr, _⟩, hkb⟩ := KRow.of_own hk.1 hk.2 (by omega)
      refine ⟨.mk t row ds, by simp [nextK], rfl, A, ca, Av, cv, rfl, ht, ⟨(VRow.of_own hr.1 hr.2 hO).1, fun b off e _ => ?_⟩, ⟨hkr.mono (fun _ _ h => h.weak (fun b hb _ => by have := hb.1; omega)), fun b off e hl => ?_⟩⟩
      · have := hge b (by rw [e]; rfl)
        omega
      · have := hkb b off e hl
        omega
/-- What a call of itself has left in the reader. -/
def DnR (R k : Nat) (dp : Int) (l : List UInt8) (W : World) : Prop := (nextD k l = none ∧ ∃ s2, RdK W R s2 dp true) ∨ (∃ d q s2, nextD k l = some (d, q) ∧ s2.data.toList = q ∧ RdK W R s2 dp false)
theorem DnR.ext {R k : Nat} {dp : Int} {l : List UInt8} {W W' : World} (h : DnR R k dp l W) (hb : Below W.heap.size W W') : DnR R k dp l W' := by
  rcases h with ⟨h1, s2, h2⟩ | ⟨d, q, s2, h1, h2, h3⟩
  · exact Or.inl ⟨h1, s2, Blk.ext h2 hb⟩
  · exact Or.inr ⟨d, q, s2, h1, h2, Blk.ext h3 hb⟩
def qDR (B k : Nat) (l : List UInt8) (v : Value) (W : World) : Prop := ∃ t A n c K m ck, v = .agg #[.int .i64 t, .slice A n c, .slice K m ck] ∧ ∀ d q, nextD k l = some (d, q) → DRp (fun b => B ≤ b) k W v d
theorem qDR.ext {B k : Nat} {l : List UInt8} {v : Value} {W W' : World} (h : qDR B k l v W) (hb : Below W.heap.size W W') : qDR B k l v W' := by
  obtain ⟨t, A, n, c, K, m, ck, h1, h2⟩ := h
  exact ⟨t, A, n, c, K, m, ck, h1, fun d q e => (h2 d q e).ext hb⟩
theorem qDR.only {B k R : Nat} {l : List UInt8} {v : Value} {W W' : World} (h : qDR B k l v W) (hb : W.grownBy W' (some R)) (hR : R < B) : qDR B k l v W' := by
  obtain ⟨t, A, n, c, K, m, ck, h1, h2⟩ := h
  exact ⟨t, A, n, c, K, m, ck, h1, fun d q e => (h2 d q e).grown hb (fun b hp e' => by cases e'; omega)⟩
def qSR (B k : Nat) (l : List UInt8) (u : Value) (W : World) : Prop := ∃ b c0 c1 c2, u = .slice (some ⟨b, 0, none⟩) 1 1 ∧ B ≤ b ∧ Blk W b #[c0, c1, c2] 71 ∧ qDR B k l (.agg #[c0, c1, c2]) W
theorem qSR.ext {B k : Nat} {l : List UInt8} {v : Value} {W W' : World} (h : qSR B k l v W) (hb : Below W.heap.size W W') : qSR B k l v W' := by
  obtain ⟨b, c0, c1, c2, h1, h2, h3, h4⟩ := h
  exact ⟨b, c0, c1, c2, h1, h2, h3.ext hb, h4.ext hb⟩
theorem qSR.only {B k R : Nat} {l : List UInt8} {v : Value} {W W' : World} (h : qSR B k l v W) (hb : W.grownBy W' (some R)) (hR : R < B) : qSR B k l v W' := by
  obtain ⟨b, c0, c1, c2, h1, h2, h3, h4⟩ := h
  exact ⟨b, c0, c1, c2, h1, h2, (hb.block b h3.lt (fun e => by cases e; omega)).trans h3, h4.only hb hR⟩
theorem own_apart {w : World} {base base' e e' size size' n n' : Nat} {v v' : Value} {xs xs' : List Value} (h : w.ownsRow base e size v n xs) (h' : w.ownsRow base' e' size' v' n' xs') (hne : e ≠ e') : v'.ownBlock = none ∨ v.ownBlock ≠ v'.ownBlock := by
  rcases h'.2 with ⟨rfl, _⟩ | ⟨g, cap, cur, rfl, _, hg, _⟩
  · exact Or.inl rfl
  · exact Or.inr (own_ne h hg hne)
/-- One more kid. -/
theorem LpI.more {w : World} {R k : Nat} {dp : Int} {f0 : Option (List De × List UInt8)} {t : Int} {A : Option Addr} {ca : Nat} {row : List V} {smax j : Nat} {s' : ByteArray} {Av : Option Addr} {cv : Nat} {W W1 W2 W3 : World} {ds : List De} {xs : List Value}
    (hF : Fr w R s' (dp + 1) false (.int .i64 t) (.slice A row.length ca) (.slice Av ds.length cv) W) (hO : W.ownsRow (w.heap.size + 2) 24 4 (.slice A row.length ca) row.length (rowCells row))
    (hs : s'.size ≤ smax) (hl : ds.length + (j + 1) ≤ 65535) (hk : KOut (w.heap.size + 2) k W (.slice Av ds.length cv) xs ds) (hf0 : f0 = (nextK (nextD k) (j + 1) s'.data.toList).map fun x => (ds ++ x.1, x.2))
    (h1 : W.grownBy W1 (some R)) (hd : DnR R k (dp + 1) s'.data.toList W1) {c0 c1 c2 : Value} (hq : qDR W.heap.size k s'.data.toList (.agg #[c0, c1, c2]) W1) {A2 : Option Addr} {cv2 : Nat}
    (hown : W2.ownsRow (w.heap.size + 2) 71 3 (.slice A2 (ds.length + 1) cv2) (ds.length + 1) (xs ++ [c0, c1, c2])) (hg : W1.grownBy W2 (Value.slice Av ds.length cv).ownBlock) (hf : ∀ g, (Value.slice A2 (ds.length + 1) cv2).ownBlock = some g → (Value.slice Av ds.length cv).ownBlock = some g ∨ W1.heap.size ≤ g)
    (h3 : W2.grownBy W3 (some (w.heap.size + 1))) (hD : Blk W3 (w.heap.size + 1) #[.int .i64 t, .slice A row.length ca, .slice A2 (ds.length + 1) cv2] 71) : ∃ bad s2, LpI w R k dp f0 t A ca row smax j bad s2 A2 (ds.length + 1) cv2 W3 := by
  subst hf0
  have hlt := hF.lt
  have hwW := hF.d.lt
  have hko := hk.only h1 (by omega)
  have hO1 : W1.ownsRow (w.heap.size + 2) 24 4 (.slice A row.length ca) row.length (rowCells row) := own_grown hO h1 (Or.inr (fun e => by have := (hO.lt R e).1; omega))
  have hO2 : W2.ownsRow (w.heap.size + 2) 24 4 (.slice A row.length ca) row.length (rowCells row) := own_grown hO1 hg (own_apart hO1 hko.1 (by decide))
  have hO3 : W3.ownsRow (w.heap.size + 2) 24 4 (.slice A row.length ca) row.length (rowCells row) := own_grown hO2 h3 (Or.inr (fun e => by have := (hO2.lt _ e).1; omega))
  have hF3 : ∀ s2 bad2, RdK W1 R s2 (dp + 1) bad2 → Fr w R s2 (dp + 1) bad2 (.int .i64 t) (.slice A row.length ca) (.slice A2 (ds.length + 1) cv2) W3 := fun s2 bad2 hr => by
    have f2 := (hF.called h1 hr).grown hg (fun g e => (hko.1.lt g e).1)
    refine ⟨(h3.block _ (Blk.lt f2.r) (fun e => by injection e with e; omega)).trans f2.r, (h3.block _ f2.b.lt (fun e => by injection e with e; omega)).trans f2.b, hD, ?_, hlt⟩
    refine ⟨h3.os.trans f2.g.os, h3.tape.trans f2.g.tape, h3.output.trans f2.g.output, Nat.le_trans f2.g.size h3.size, fun x hx hn => ?_⟩
    rw [← f2.g.block x hx hn]
    have := f2.g.size
    exact h3.block x (by omega) (fun e => by injection e with e; omega)
  rcases hd with ⟨hn, s2, hr⟩ | ⟨d, q, s2, hn, rfl, hr⟩
  · refine ⟨true, s2, hF3 s2 true hr, hO3, Or.inl ⟨rfl, ?_⟩⟩
    rw [nextK_none hn]
    rfl
  · refine ⟨false, s2, hF3 s2 false hr, hO3, Or.inr ⟨rfl, ?_, ds ++ [d], xs ++ [c0, c1, c2], by simp, by simp; omega, ?_, ?_⟩⟩
    · have := nextD_len _ _ _ _ hn
      have e1 : s2.data.toList.length = s2.size := by simp
      have e2 : s'.data.toList.length = s'.size := by simp
      omega
    · obtain ⟨_, _, _, _, _, _, _, _, hqd⟩ := hq
      have h4 := KOut.snoc hko (fun g e => (hk.1.lt g e).2) (by omega) (hqd d _ hn) hown hg hf
      have h5 := h4.only h3 (by omega)
      rw [List.length_append]
      exact h5
    · rw [nextK_step hn, Option.map_map]
      congr 1
      funext x
      simp
theorem i64_or_nat25 (x y : Nat) (hx : x < 65536) (hy : y < 65536) : bits .or .i64 (x : Int) (y : Int) = ((x ||| y : Nat) : Int) := by
  have hz : x ||| y < 2 ^ 16 := Nat.or_lt_two_pow (by omega) (by omega)
  show IntKind.i64.wrap ((BitVec.ofInt 64 (x : Int) ||| BitVec.ofInt 64 (y : Int)).toNat : Int) = _
  rw [BitVec.toNat_or, ofInt_u64 x (by omega), ofInt_u64 y (by omega)]
  exact IntWalk.i64_in _ (by omega)
theorem or_kids (a b : UInt8) : bits .or .i64 (a.toNat : Int) (wrap64 ((b.toNat : Int) * 256)) = ((a.toNat + 256 * b.toNat : Nat) : Int) := by
  have ha := a.toNat_lt
  have hb := b.toNat_lt
  rw [IntWalk.wrap64_in _ (by omega), show (b.toNat : Int) * 256 = ((b.toNat * 256 : Nat) : Int) by omega, i64_or_nat25 _ _ (by omega) (by omega)]
  congr 1
  rw [Nat.or_comm, nat_join 8 (b.toNat * 256) a.toNat (Nat.mul_mod_left _ _) (by omega)]
  omega
set_option maxRecDepth 100000 in
set_option maxHeartbeats 1600000 in
theorem doc_go (k : Nat) (s : ByteArray) (R : Nat) (dp : Int) (w : World) (hT : Tabs w) (hR : RdK w R s dp false) (hs : s.size ≤ 140737488355328) (hk : dp + k + 1 = 8) (h0 : 0 ≤ dp) (c : UInt8) (r : List UInt8) (hl : s.data.toList = c :: r)
    (hg0 : (getRow r).1 = 0) (hm2 : (getRow r).2.2 + 2 ≤ r.length) (IH : ∀ (s : ByteArray) (w : World), Tabs w → RdK w R s (dp + 1) false → s.size ≤ 140737488355328 → Calls Tryd.prog 125 #[.pointer (some ⟨R, 0, none⟩)] w (DocP R k (dp + 1) (nextD k s.data.toList) w)) :
    Calls Tryd.prog 125 #[.pointer (some ⟨R, 0, none⟩)] w (DocP R (k + 1) dp (nextD (k + 1) s.data.toList) w) := by
  obtain ⟨htl, hsz⟩ := tail_cons hl
  have HF := Lib.hid (Fr.new hR)
  have HTW := Lib.hid (fun (W : World) (hW : w.grownBy W (some R)) => tabs_only hT hR hW)
  have HGR := Lib.hid (fun (W : World) (hW : w.grownBy W (some R)) => getrow_any (s.extract 1 s.size) W (by rw [ByteArray.size_extract]; omega) (tabs_only hT hR hW))
  rw [htl] at HGR
  have HI := Lib.hid IH
  clear hR hT htl IH
  have hw1 : IntKind.i64.wrap (dp + 1) = dp + 1 := IntWalk.i64_in _ (by omega)
  have h100 : dp ≤ 100 := by omega
  have he : s.toList.isEmpty = false := by rw [ByteArray.toList_eq, hl]; rfl
  have h8 : ¬ 8 < dp + 1 := by omega
  have hn1 : (1 : Int) ≤ s.size := by omega
  have HSZ := Lib.hid hsz
  have HL := Lib.hid hl
  have HK := Lib.hid hk
  have HG0 := Lib.hid hg0
  clear hl hk hsz
  go_enter_defers Tryd.func125, Tryd.ntmps125
  go_upto_region 1 with fail
  generalize ((w.alloc (.cells #[.pointer (some ⟨R, 0, none⟩)] 162)).alloc (.cells #[.int .i64 0, .slice none 0 0, .slice none 0 0] 71)) = W0 at HF ⊢
  obtain ⟨w3, rfl, hF, hb0, pc, pf, pS, lR, lb⟩ := HF.out.rform
  have HF1 := Lib.hid hF
  clear hF HF
  go_upto_region 6 with fail
  have HF2 := Lib.hid (HF1.out s (dp + 1) false)
  generalize putBlk w3 R #[.string s, .int .i64 (dp + 1), .bool false] 164 = W1 at HF2 ⊢
  clear HF1 hb0 pc pf pS lR lb w3
  have lb := HF2.out.b.lt
  have b0 := cells1 HF2.out.b
  have r0 := (cells3 (show Blk W1 R #[.string s, .int .i64 (dp + 1), .bool false] 164 from HF2.out.r)).1
  have lR := Blk.lt HF2.out.r
  go_upto_region 7 with fail
  refine (HGR.out _ HF2.out.g).mono ?_
  rintro e w4 ⟨hb4, ⟨_, A, ca, rfl, hown⟩ | ⟨hne, rfl⟩⟩
  case inr => exact absurd HG0.out hne
  have HF3 := Lib.hid (HF2.out.ext hb4)
  have hln : ¬ (s.size : Int) < ((getRow r).2.2 : Int) + 3 := by
    have h2 := HSZ.out
    omega
  have HM := Lib.hid (show (getRow r).2.2 + 3 ≤ s.size by have h2 := HSZ.out; omega)
  obtain ⟨m, hm⟩ : ∃ m, m = (getRow r).2.2 := ⟨_, rfl⟩
  obtain ⟨rw0, hrw⟩ : ∃ rw0, rw0 = (getRow r).2.1 := ⟨_, rfl⟩
  rw [← hm] at HM hln ⊢
  rw [← hrw] at hown ⊢
  have HMM := Lib.hid hm
  have HRW := Lib.hid hrw
  have hmm : m ≤ 140737488355328 := by have := HM.out; omega
  have hb1 : w.heap.size + 2 ≤ W1.heap.size := HF2.out.d.lt
  have HOW := Lib.hid (own_weak hown hb1)
  clear hb1
  have hm0 : (m : Int) + 3 ≤ s.size := by have := HM.out; omega
  have HB4 := Lib.hid hb4.size
  clear HF2 hb4 HGR hown lb b0 r0 lR hm hrw hm2 hg0
  have lb := HF3.out.b.lt
  have b0 := cells1 HF3.out.b
  have r0 := (cells3 (show Blk _ R #[.string _, .int .i64 _, .bool _] 164 from HF3.out.r)).1
  have r2 := (cells3 (show Blk _ R #[.string _, .int .i64 _, .bool _] 164 from HF3.out.r)).2.2
  have lR := Blk.lt HF3.out.r
  go_upto_region 10 with fail
  clear lb b0 r0 r2 lR
  obtain ⟨w5, rfl, hF, hb0, hr0, pc, pf, pS, lD, lb, lR, lt⟩ := HF3.out.dform
  have HF4 := Lib.hid (fun a b c => hF a b c)
  clear hF HF3
  have hlt0 : 0 < s.size := by omega
  have hc0 : wrap64 ((s[0]'hlt0).toNat : Int) = c.toNat := by
    rw [idx_at s 0 c (by rw [HL.out]; rfl) hlt0]
    exact IntWalk.wrap64_in _ (by have := c.toNat_lt; omega)
  go_upto_region 11 with fail
  have HF5 := Lib.hid (HF4.out (.int .i64 c.toNat) (.slice A rw0.length ca) (.slice none 0 0))
  have HOW5 := Lib.hid (own_put HOW.out lt (by decide) #[.int .i64 c.toNat, .slice A rw0.length ca, .slice none 0 0])
  have HS5 := HB4.out
  rw [putBlk_size, ← putBlk_size w5 (w.heap.size + 1) #[.int .i64 c.toNat, .slice A rw0.length ca, .slice none 0 0] 71] at HS5
  have HB5 := Lib.hid HS5
  generalize putBlk w5 (w.heap.size + 1) #[.int .i64 c.toNat, .slice A rw0.length ca, .slice none 0 0] 71 = W5 at HF5 HOW5 HB5 ⊢
  clear hb0 hr0 pc pf pS lD lb lR lt HF4 HOW HB4 HS5 hc0
  have lb := HF5.out.b.lt
  have b0 := cells1 HF5.out.b
  have r0 := (cells3 (show Blk _ R #[.string _, .int .i64 _, .bool _] 164 from HF5.out.r)).1
  have r2 := (cells3 (show Blk _ R #[.string _, .int .i64 _, .bool _] 164 from HF5.out.r)).2.2
  have lR := Blk.lt HF5.out.r
  have hi1 : IntKind.i64.wrap ((m : Int) + 1) = (m : Int) + 1 := IntWalk.i64_in _ (by omega)
  have hi2 : IntKind.i64.wrap ((m : Int) + 2) = (m : Int) + 2 := IntWalk.i64_in _ (by omega)
  have hl1 : (m : Int) + 1 < s.size := by omega
  have hl2 : (m : Int) + 2 < s.size := by omega
  have hp1 : 0 ≤ (m : Int) + 1 := by omega
  have hp2 : 0 ≤ (m : Int) + 2 := by omega
  have ht1 : ((m : Int) + 1).toNat = m + 1 := by omega
  have ht2 : ((m : Int) + 2).toNat = m + 2 := by omega
  have hlm1 : m + 1 < s.size := by omega
  have hlm2 : m + 2 < s.size := by omega
  obtain ⟨a, ha⟩ : ∃ a, s[m + 1]'hlm1 = a := ⟨_, rfl⟩
  obtain ⟨b, hb⟩ : ∃ b, s[m + 2]'hlm2 = b := ⟨_, rfl⟩
  have hwa : wrap64 (a.toNat : Int) = a.toNat := IntWalk.wrap64_in _ (by have := a.toNat_lt; omega)
  have hwb : wrap64 (b.toNat : Int) = b.toNat := IntWalk.wrap64_in _ (by have := b.toNat_lt; omega)
  obtain ⟨kd, hkd⟩ : ∃ kd : Nat, kd = a.toNat + 256 * b.toNat := ⟨_, rfl⟩
  have HFX := HF5
  go_quiet (fail)
  rw [or_kids]
  have HKD : Hid (kd = kidsN (r.drop m)) := by
    have e1 : (r.drop m).getD 0 0 = a := by
      rw [← ha, List.getD_eq_getElem?_getD, List.getElem?_drop, Nat.add_zero]
      have h1 : s.data.toList[m + 1]? = r[m]? := by rw [HL.out, List.getElem?_cons_succ]
      have h2 : s.data.toList[m + 1]? = some (s[m + 1]'hlm1) := by
        rw [List.getElem?_eq_getElem (by simpa using hlm1)]
        rfl
      rw [← h1, h2]
      rfl
    have e2 : (r.drop m).getD 1 0 = b := by
      rw [← hb, List.getD_eq_getElem?_getD, List.getElem?_drop]
      have h1 : s.data.toList[m + 2]? = r[m + 1]? := by rw [HL.out, List.getElem?_cons_succ]
      have h2 : s.data.toList[m + 2]? = some (s[m + 2]'hlm2) := by
        rw [List.getElem?_eq_getElem (by simpa using hlm2)]
        rfl
      rw [← h1, h2]
      rfl
    show _ = _
    rw [kidsN, e1, e2, hkd]
  have hkl : kd < 65536 := by have := a.toNat_lt; have := b.toNat_lt; omega
  rw [← hkd]
  clear ha hb hkd
  have HF6 : Hid (Fr w R s (dp + 1) false (.int .i64 c.toNat) (.slice A rw0.length ca) (.slice none 0 0) (W5.drewN nq)) := HF5.out.ext (below_drewN (Below.refl _ _) _)
  have HOW6 : Hid ((W5.drewN nq).ownsRow (w.heap.size + 2) 24 4 (.slice A rw0.length ca) rw0.length (rowCells rw0)) := own_below HOW5.out (below_drewN (Below.refl _ _) _)
  generalize W5.drewN nq = W6 at HF6 HOW6 ⊢
  clear HF5 HOW5 HB5 lb b0 r0 r2 lR hi1 hi2 hl1 hl2 hp1 hp2 ht1 ht2 hlm1 hlm2 hwa hwb HFX
  have hi3 : IntKind.i64.wrap ((m : Int) + 3) = (m : Int) + 3 := IntWalk.i64_in _ (by omega)
  have hp3 : 0 ≤ (m : Int) + 3 := by omega
  have ht3 : ((m : Int) + 3).toNat = m + 3 := by omega
  have HFX := HF6
  go_upto_region 12 with fail
  refine region_last 10 _ [false, false, false, false, false, false, false, false, false, false, false, false, false, false, false, false, false, false, false, false, false, false, false, false, false, false, false, false, false, false, false, false, false, false, false, false, false, false, false, false, false, false, false, false, false, false, false, false, false, false, false, false, false, false, false, false, false, false, false, false, false, false, false, false, false, false, false, false, false, false, false, false, false, false, false, false, false, false, false, false, false, false, false, false, true, true, true, true, true, true, true, true, true, true, false, false, false, false, false, false, false, false, false, false, false, false, false, false, false, false, false, false, false] [84, 85, 86, 87, 88, 89, 90, 91, 92, 93] [.val (.pointer (some ⟨R, 0, none⟩)), .val (.pointer (some ⟨R, 0, none⟩)), .val (.pointer (some ⟨R, 0, none⟩)), .val (.pointer (some ⟨R, 0, none⟩)), .val (.string s), .val (.int .i64 (m : Int)), .val (.int .i64 ((m : Int) + 3)), .val (.string (s.extract (m + 3) s.size)), .val (.pointer (some ⟨R, 0, none⟩)), .val (.pointer (some ⟨R, 0, none⟩))] [7, 9] (by kernel_rfl) (by kernel_rfl) rfl (by kernel_rfl) (by kernel_rfl) (by kernel_rfl) (by kernel_rfl) (by kernel_rfl) ⟨?_, ?_, ?_, ?_, ?_, ?_, ?_, ?_, ?_, ?_, trivial⟩ ?done
  case done =>
    intro x7 w7 hb7
    simp only [StepGoal, List.getD_cons_zero, List.getD_cons_succ]
    obtain ⟨w8, rfl, hF, hb0, pc, pf, pS, lR, lb⟩ := (HF6.out.ext hb7).rform
    have HF8 := Lib.hid (hF (s.extract (m + 3) s.size) (dp + 1) false)
    intro K1 hK1
    rw [if_pos (by rfl)]; simp only [overlay, upd, cond_true, cond_false, Nat.reduceEqDiff, reduceIte]
    go_simp
    refine hK1.out _ _ ?_
    have HLP : Hid (LpI w R k dp (nextK (nextD k) kd (s.extract (m + 3) s.size).data.toList) c.toNat A ca rw0 s.size kd false (s.extract (m + 3) s.size) none 0 0 (putBlk w8 R #[.string (s.extract (m + 3) s.size), .int .i64 (dp + 1), .bool false] 164)) := by
      refine ⟨HF8.out, own_put (own_below HOW6.out hb7) (by have := lR #[]; rw [putBlk_size] at this; exact this) (by decide) _, Or.inr ⟨rfl, by rw [ByteArray.size_extract]; omega, [], [], rfl, by simp; omega, ⟨World.ownsRow_nil _ _ _ _, KCells.nil _⟩, ?_⟩⟩
      simp
    generalize hf0 : nextK (nextD k) kd (s.extract (m + 3) s.size).data.toList = f0 at HLP
    have HO1 : Hid (nextD (k + 1) s.data.toList = f0.map fun x => (.mk c.toNat rw0 x.1, x.2)) := by
      show _ = _
      rw [HL.out, nextD, if_neg (by rw [HG0.out]; have h1 := HM.out; have h2 := HSZ.out; rw [← HMM.out]; simp; omega), ← hf0, HKD.out, HRW.out, HMM.out, tail_list, HL.out]
      rfl
    have HWF : Hid ((∀ v ∈ rw0, v.wf) ∧ rw0.length ≤ 35184372088832) := by
      have h1 := getRow_back HG0.out
      have h2 := (row_may h1.1).2.1
      rw [HRW.out]
      exact ⟨h1.2.1, by omega⟩
    have HTB := Lib.hid (show -9223372036854775808 ≤ (c.toNat : Int) ∧ (c.toNat : Int) ≤ 9223372036854775807 by have := c.toNat_lt; omega)
    clear hf0 HKD HRW HMM HF6 HOW6 HF8 hF hb7 hb0 pc pf pS lR lb hK1 K1 hi3 hp3 ht3 HFX
    generalize putBlk w8 R #[.string (s.extract (m + 3) s.size), .int .i64 (dp + 1), .bool false] 164 = W8 at HLP ⊢
    go_wp2_with fail
    go_loopw [6] (fun i wr => ∃ (j : Nat) (bad : Bool) (s' : ByteArray) (Av : Option Addr) (n' cv : Nat), i = .int .i64 j ∧ j ≤ 65535 ∧ Hid (LpI w R k dp f0 c.toNat A ca rw0 s.size j bad s' Av n' cv wr)) (fun i _ => (intOf i).toNat)
    case atStart => exact ⟨kd, false, _, none, 0, 0, rfl, by omega, HLP.out⟩
    case round =>
      obtain ⟨j, bad, s', Av, n', cv, rfl, hj, HI2⟩ := hrel
      have HFX := Lib.hid HI2.out.1
      have lb := HFX.out.b.lt
      have b0 := cells1 HFX.out.b
      have r0 := (cells3 (show Blk _ R #[.string _, .int .i64 _, .bool _] 164 from HFX.out.r)).1
      have r2 := (cells3 (show Blk _ R #[.string _, .int .i64 _, .bool _] 164 from HFX.out.r)).2.2
      have lR := Blk.lt HFX.out.r
      have HOE := Lib.hid (LpI.end_ HI2.out (o := nextD (k + 1) s.data.toList))
      by_cases hj0 : j = 0
      · subst hj0
        have HQ := Lib.hid (HOE.out (Or.inr rfl) HWF.out HTB.out HO1.out)
        clear HOE HI2
        go_upto_region 16 with fail
        clear lb b0 r0 r2 lR
        obtain ⟨w9, rfl, _, hb0, hr0, pc, pf, pS, lD, lb, lR, lt⟩ := HFX.out.dform
        go_wp2_with fail
        exact HFX.out.door rfl h0 h100 (by simpa using HQ.out)
      · have hj1 : 0 < (j : Int) := by omega
        cases bad
        · obtain ⟨j, rfl⟩ : ∃ j', j = j' + 1 := ⟨j - 1, by omega⟩
          clear HOE hj0 hj1
          have hj1 : 0 < (j : Int) + 1 := by omega
          go_upto_region 15 with fail
          clear lb b0 r0 r2 lR
          obtain ⟨hFr, hO, ⟨he, _⟩ | ⟨_, hs', ds, xs, rfl, hl, hk, hf⟩⟩ := HI2.out
          · cases he
          have HMO := Lib.hid (fun W1 W2 W3 c0 c1 c2 A2 cv2 (h1 : wr.grownBy W1 (some R)) (hd : DnR R k (dp + 1) s'.data.toList W1) hq hown hg hf' h3 hD => LpI.more (W1 := W1) (W2 := W2) (W3 := W3) (c0 := c0) (c1 := c1) (c2 := c2) (A2 := A2) (cv2 := cv2) hFr hO hs' hl hk hf h1 hd hq hown hg hf' h3 hD)
          have HKO := Lib.hid hk
          have HFX := Lib.hid hFr
          have hRw := hFr.lt
          have hwW := hFr.d.lt
          clear hFr hO hf hk HI2
          obtain ⟨P0, hP0e⟩ : ∃ P0 : World → Prop, P0 = fun W => Below wr.heap.size wr W := ⟨_, rfl⟩
          obtain ⟨P1, hP1e⟩ : ∃ P1 : World → Prop, P1 = fun W => wr.grownBy W (some R) ∧ DnR R k (dp + 1) s'.data.toList W := ⟨_, rfl⟩
          obtain ⟨T0, hT0e⟩ : ∃ T0 : World → World → Prop, T0 = fun a b => a.grownBy b (some R) ∧ DnR R k (dp + 1) s'.data.toList b := ⟨_, rfl⟩
          have HNB : Hid (∀ W, P0 W ∨ P1 W → wr.heap.size ≤ W.heap.size ∧ Blk W w.heap.size #[.pointer (some ⟨R, 0, none⟩)] 162 ∧ Blk W (w.heap.size + 1) #[.int .i64 c.toNat, .slice A rw0.length ca, .slice Av ds.length cv] 71) := by
            intro W hW
            rw [hP0e, hP1e] at hW
            rcases hW with hW | hW
            · exact ⟨hW.size, HFX.out.b.ext hW, HFX.out.d.ext hW⟩
            · exact ⟨hW.1.size, (hW.1.block _ HFX.out.b.lt (fun e => by injection e with e; omega)).trans HFX.out.b, (hW.1.block _ hwW (fun e => by injection e with e; omega)).trans HFX.out.d⟩
          have HCL : Hid (∀ W, P0 W → Calls Tryd.prog 125 #[.pointer (some ⟨R, 0, none⟩)] W fun e W' => ∃ v, e = .returned v ∧ T0 W W' ∧ qDR wr.heap.size k s'.data.toList v W') := by
            intro W hW
            rw [hP0e] at hW
            have hf := HFX.out.ext hW
            refine (HI.out s' W (HTW.out W hf.g) hf.r (by omega)).mono ?_
            rintro e W' ⟨t', A', n', c', K', m', ck', rfl, hg, hor⟩
            refine ⟨_, rfl, ?_, t', A', n', c', K', m', ck', rfl, ?_⟩
            · rw [hT0e]
              refine ⟨hg, ?_⟩
              rcases hor with ⟨h1, s2, h2⟩ | ⟨d, q, s2, h1, h2, h3, _⟩
              · exact Or.inl ⟨h1, s2, h2⟩
              · exact Or.inr ⟨d, q, s2, h1, h2, h3⟩
            · intro d q e
              rcases hor with ⟨h1, _⟩ | ⟨d', q', s2, h1, _, _, h4⟩
              · rw [h1] at e; cases e
              · rw [h1] at e
                cases e
                exact h4.weak (fun b hb _ => Nat.le_trans hW.size hb)
          have hqD := fun v (w1 w2 : World) (h : qDR wr.heap.size k s'.data.toList v w1) (hb : Below w1.heap.size w1 w2) => h.ext hb
          have hqS := fun v (w1 w2 : World) (h : qSR wr.heap.size k s'.data.toList v w1) (hb : Below w1.heap.size w1 w2) => h.ext hb
          have h0P : P0 wr.drew := by rw [hP0e]; exact (Below.refl _ _).drew
          have hP0 : ∀ a b, P0 a → Below a.heap.size a b → P0 b := by rw [hP0e]; exact fun a b h h' => bt h h'
          have hP1 : ∀ a b, P1 a → Below a.heap.size a b → P1 b := by rw [hP1e]; exact fun a b h h' => ⟨only_trans h.1 (only_below h' _), h.2.ext h'⟩
          have hPT : ∀ a b, P0 a → T0 a b → P1 b := by rw [hP0e, hP1e, hT0e]; exact fun a b h h' => ⟨only_trans (only_below h _) h'.1, h'.2⟩
          have hTk : ∀ kn ∈ [.val (.pointer (some ⟨w.heap.size + 1, 2, none⟩)), .val (.slice Av ds.length cv), .val (.pointer (some ⟨R, 0, none⟩)), .mem (qDR wr.heap.size k s'.data.toList) hqD, .mem (qSR wr.heap.size k s'.data.toList) hqS], KT T0 kn := by
            rw [hT0e]
            intro kn hkn
            simp only [List.mem_cons, List.not_mem_nil, or_false] at hkn
            rcases hkn with rfl | rfl | rfl | rfl | rfl
            · exact KT.val _
            · exact KT.val _
            · exact KT.val _
            · exact fun v a b hT h => qDR.only h hT.1 (by omega)
            · exact fun v a b hT h => qSR.only h hT.1 (by omega)
          have HP1 : Hid (∀ W, P1 W → wr.grownBy W (some R) ∧ DnR R k (dp + 1) s'.data.toList W) := by rw [hP1e]; exact fun _ h => h
          clear hP0e hP1e hT0e HI HTW
          obtain ⟨i0, hi0, hz0, hz1, hz2⟩ := info_parts info_D
          refine region_call T0 P0 P1 3 5 [false, false, false, false, false, false, false, false, false, false, false, false, false, false, false, false, false, false, false, false, false, false, false, false, false, false, false, false, false, false, false, false, false, false, false, false, false, false, false, false, false, false, false, false, false, false, false, false, false, false, false, false, false, false, false, false, false, false, false, false, false, false, false, false, false, false, false, false, false, false, false, false, false, false, false, false, false, false, false, false, false, false, false, false, false, false, false, false, false, false, false, false, false, false, false, false, false, false, false, false, false, false, false, false, false, true, true, true, true, true, false, false, false] [105, 106, 107, 108, 109] [.val (.pointer (some ⟨w.heap.size + 1, 2, none⟩)), .val (.slice Av ds.length cv), .val (.pointer (some ⟨R, 0, none⟩)), .mem (qDR wr.heap.size k s'.data.toList) hqD, .mem (qSR wr.heap.size k s'.data.toList) hqS] [0, 1, 2, 3, 4] h0P (by decide) hP0 hP1 hPT hTk (by kernel_rfl) (by decide) (by kernel_rfl) (by kernel_rfl) (by kernel_rfl) (by kernel_rfl) (by kernel_rfl) (by kernel_rfl) ⟨?_, ?_, ?_, ?_, ?_, trivial⟩ ?done
          case done =>
            intro x9 w9 hP
            simp only [StepGoal, overlay, upd, cond_true, cond_false, List.getD_cons_zero, List.getD_cons_succ, Nat.zero_add, Nat.reduceAdd, Nat.reduceEqDiff, reduceIte]
            intro v9 hv9 u9 hu9
            obtain ⟨b9, c0, c1, c2, rfl, hb9, hB9, hq9⟩ := hu9
            have hh := HP1.out w9 hP
            have hn9 := HNB.out w9 (Or.inr hP)
            have hko9 := HKO.out.only hh.1 (by omega)
            have h1c : ∀ u ∈ [c0, c1, c2], u.oneCell' = true := by
              obtain ⟨t', A', n', c', K', m', ck', e, _⟩ := hq9
              simp only [Value.agg.injEq, Array.mk.injEq, List.cons.injEq, and_true] at e
              obtain ⟨rfl, rfl, rfl⟩ := e
              simp [Value.oneCell']
            have HMR := Lib.hid (fun W2 W3 A2 cv2 hown hg hf' h3 hD => HMO.out w9 W2 W3 c0 c1 c2 A2 cv2 hh.1 hh.2 hq9 hown hg hf' h3 hD)
            have hsz9 := hh.1.size
            intro K hK
            rw [if_pos (by rfl)]
            refine wp_append_fresh _ _ _ 69 rfl (w.heap.size + 2) 71 i0 _ 3 56 Tryd.underlying69 hi0 hz0 hz1 hz2 rfl (by decide) (.slice Av ds.length cv) ds.length xs rfl hko9.1 ⟨b9, 0, none⟩ 1 1 [c0, c1, c2] rfl rfl (cells_blk3 hB9) h1c (by simp only [maxLen]; omega) (by omega) (by omega) ?_
            intro v6 w6 hown6 hg6 hfr
            obtain ⟨A6, c6, rfl⟩ := own_form' hown6
            have hD6 : Blk w6 (w.heap.size + 1) #[.int .i64 c.toNat, .slice A rw0.length ca, .slice Av ds.length cv] 71 := (hg6.block _ hn9.2.2.lt (fun e => by have := (hko9.1.lt _ e.symm).1; omega)).trans hn9.2.2
            refine hK.out _ _ ?_
            obtain ⟨w7, rfl, lt⟩ := blk_put hD6
            obtain ⟨pc, pf, pS⟩ := putBlk_facts (w := w7) 71 lt
            obtain ⟨bad2, s2, hLP⟩ := HMR.out _ (putBlk w7 (w.heap.size + 1) #[.int .i64 c.toNat, .slice A rw0.length ca, .slice A6 (ds.length + 1) c6] 71) A6 c6 hown6 hg6 hfr (put_only _ _ _ _ _) (putBlk_blk _ _ lt)
            have HLP := Lib.hid hLP
            clear hLP HMR HMO HNB HCL HP1 hK K hown6 hg6 hfr hD6 hko9 hn9 hh hq9 hB9 hv9 HKO hTk hPT hP1 hP0 h0P hqD hqS hP
            intro K1 hK1
            rw [if_pos (by rfl)]
            go_simp
            refine hK1.out _ _ ?_
            clear hK1 K1
            intro K1 hK1
            rw [if_pos (by rfl)]
            go_simp
            refine hK1.out _ _ ?_
            clear hK1 K1
            generalize putBlk w7 (w.heap.size + 1) #[.int .i64 c.toNat, .slice A rw0.length ca, .slice A6 (ds.length + 1) c6] 71 = WZ at HLP ⊢
            clear pc pf pS lt
            have hj9 : IntKind.i64.wrap ((j : Int) + 1 - 1) = j := by
              rw [show (j : Int) + 1 - 1 = j by omega]
              exact IntWalk.i64_in _ (by omega)
            simp only [TailB]
            go_wp2_with fail
            go_roundw
            case rel => exact ⟨j, bad2, s2, A6, _, c6, by go_num, by omega, HLP.out⟩
            case measure => simp [intOf]
          all_goals
            intro x9 w9
            first | rw [if_neg (by decide)] | rw [if_pos rfl]
            intro hP
            obtain ⟨hsz, hb, hd⟩ := HNB.out w9 (by first | exact hP | exact Or.inl hP)
            obtain ⟨d0, d1, d2⟩ := cells3 hd
            have b0 := cells1 hb
            have lb := hb.lt
            clear hb hd
            (try (intro v9 hv9; have hv9' := hv9; obtain ⟨t', A', n', c', K', m', ck', rfl, _⟩ := hv9))
            intro K hK
            rw [if_pos (by rfl)]; simp only [overlay, upd, cond_true, cond_false, List.getD_cons_zero, List.getD_cons_succ, Nat.reduceEqDiff, reduceIte]
            go_simp
            first
              | exact hK.out _ _ (Below.refl _ _) rfl
              | exact hK.out _ _ (by repeat (first | exact Below.refl _ _ | assumption | refine Below.drew ?_ | refine below_drewN ?_ _ | refine Below.alloc ?_ (by simp <;> omega) _)) ⟨_, _, _, _, rfl, hsz, Blk.new _ _ _, hv9'.ext (by repeat (first | exact Below.refl _ _ | assumption | refine Below.drew ?_ | refine below_drewN ?_ _ | refine Below.alloc ?_ (by simp <;> omega) _))⟩
              | (with_reducible refine (HCL.out w9 hP).mono ?_
                 rintro e wa ⟨va, rfl, hTa, hqa⟩
                 go_wp2_with fail
                 exact hK.out _ _ hTa hqa)
        · have HQ := Lib.hid (HOE.out (Or.inl rfl) HWF.out HTB.out HO1.out)
          clear HOE HI2
          go_upto_region 16 with fail
          clear lb b0 r0 r2 lR
          obtain ⟨w9, rfl, _, hb0, hr0, pc, pf, pS, lD, lb, lR, lt⟩ := HFX.out.dform
          go_wp2_with fail
          exact HFX.out.door rfl h0 h100 (by simpa using HQ.out)
  all_goals
    intro x9 w9 hb9
    intro K hK
    have lb := (Lib.hid (HFX.out.ext hb9)).out.b.lt
    have b0 := cells1 (Lib.hid (HFX.out.ext hb9)).out.b
    have r0 := (cells3 (show Blk _ R #[.string _, .int .i64 _, .bool _] 164 from (Lib.hid (HFX.out.ext hb9)).out.r)).1
    have r2 := (cells3 (show Blk _ R #[.string _, .int .i64 _, .bool _] 164 from (Lib.hid (HFX.out.ext hb9)).out.r)).2.2
    have lR := Blk.lt (Lib.hid (HFX.out.ext hb9)).out.r
    clear hb9
    rw [if_pos (by rfl)]; simp only [overlay, upd, cond_true, cond_false, List.getD_cons_zero, List.getD_cons_succ, Nat.reduceEqDiff, reduceIte]
    go_simp
    exact hK.out _ _ (Below.refl _ _) rfl
end Go.Proofs.YtjdfodmialhakaaDoor
