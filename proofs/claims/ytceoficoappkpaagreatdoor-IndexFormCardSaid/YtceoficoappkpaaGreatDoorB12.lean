/- Texts joined by a tool: contracts and walks of this claim. -/
import Derived.Test.YtceoficoappkpaaGreatDoorB11
import Derived.BigRegion
namespace Go.Proofs.YtceoficoappkpaaGreatDoor
open Go.RowKit
def ccells (l : List Co) : List Value := l.flatMap fun c => [Value.string c.nm, .int .u8 c.k, .bool c.nl]
def tcells (l : List Ta) : List Value := l.flatMap fun t => [Value.string t.nm, .slice t.A t.cs.length t.c, .int .i64 t.key, .int .i64 t.ref, .int .i64 t.par]
theorem flat_get {α : Type} (f : α → List Value) (m : Nat) (hf : ∀ x, (f x).length = m) : ∀ (l : List α) (i q : Nat) (x : α), l[i]? = some x → q < m → (l.flatMap f)[i * m + q]? = (f x)[q]?
 | [], i, q, x, h, _ => by simp at h
 | y :: l, 0, q, x, h, hq => by
  have e : y = x := by simpa using h
  subst e
  rw [List.flatMap_cons, Nat.zero_mul, Nat.zero_add, List.getElem?_append_left (by rw [hf]; exact hq)]
 | y :: l, i + 1, q, x, h, hq => by
  rw [List.flatMap_cons, List.getElem?_append_right (by rw [hf, Nat.succ_mul]; omega), hf]
  have := flat_get f m hf l i q x (by simpa using h) hq
  rw [← this]
  congr 1
  rw [Nat.succ_mul]
  omega
theorem addr_addS (g i : Nat) : (⟨g, 0, none⟩ : Addr).add i = ⟨g, 0 + i, none⟩ := by
 unfold Addr.add
 split
 · next h0 => subst h0; rfl
 · simp
theorem flat_length {α : Type} (f : α → List Value) (m : Nat) (hf : ∀ x, (f x).length = m) (l : List α) : (l.flatMap f).length = l.length * m := by
 induction l with
 | nil => simp
 | cons x l ih => rw [List.flatMap_cons, List.length_append, hf, ih, List.length_cons, Nat.succ_mul]; omega
theorem CRow.of_own {w : World} {base n c : Nat} {e : TypeId} {A : Option Addr} {l : List Co} (hw : ∀ c ∈ l, c.wf) (hlen : l.length ≤ 5864062014805) (hn : n = l.length)
  (h : w.ownsRow base e 3 (.slice A n c) n (ccells l)) : CRow w A l := by
 refine ⟨hw, hlen, fun hl => ?_⟩
 have hpos : 0 < n := by rw [hn]; exact List.length_pos_iff.2 hl
 obtain ⟨g, cap, hv, _, hlt⟩ := h.form hpos
 have hA : A = some ⟨g, 0, none⟩ := by injection hv
 subst hA
 refine ⟨g, 0, rfl, hlt, fun i v hi => ?_⟩
 have hc := h.cells (g := g) rfl
 have k := fun q hq u hu => hc (i * 3 + q) u ((flat_get (fun c : Co => [Value.string c.nm, .int .u8 c.k, .bool c.nl]) 3 (fun _ => rfl) l i q v hi hq).trans hu)
 have k0 := k 0 (by omega) _ rfl
 have k1 := k 1 (by omega) _ rfl
 have k2 := k 2 (by omega) _ rfl
 rw [addr_addS] at k0 k1 k2
 exact ⟨k0, k1, k2⟩
theorem TRow.of_own {w : World} {base n c : Nat} {e : TypeId} {A : Option Addr} {l : List Ta} (hw : ∀ t ∈ l, t.wf ∧ CRow w t.A t.cs) (hlen : l.length ≤ 2199023255552) (hn : n = l.length)
  (h : w.ownsRow base e 5 (.slice A n c) n (tcells l)) : TRow w A c l := by
 refine ⟨hw, hlen, ?_, fun hl => ?_⟩
 · rcases h.2 with ⟨h1, _⟩ | ⟨g, cap, cur, h1, _, _, h2, _⟩
   · injection h1 with _ h2 _
     rw [← hn, h2]
     exact Nat.zero_le _
   · injection h1 with _ _ h3
     rw [h3, ← hn]
     exact h2
 · have hpos : 0 < n := by rw [hn]; exact List.length_pos_iff.2 hl
   obtain ⟨g, cap, hv, _, hlt⟩ := h.form hpos
   have hA : A = some ⟨g, 0, none⟩ := by injection hv
   subst hA
   refine ⟨g, 0, rfl, hlt, fun i v hi => ?_⟩
   have hc := h.cells (g := g) rfl
   have k := fun q hq u hu => hc (i * 5 + q) u ((flat_get (fun t : Ta => [Value.string t.nm, .slice t.A t.cs.length t.c, .int .i64 t.key, .int .i64 t.ref, .int .i64 t.par]) 5 (fun _ => rfl) l i q v hi hq).trans hu)
   have k0 := k 0 (by omega) _ rfl
   have k1 := k 1 (by omega) _ rfl
   have k2 := k 2 (by omega) _ rfl
   have k3 := k 3 (by omega) _ rfl
   have k4 := k 4 (by omega) _ rfl
   rw [addr_addS] at k0 k1 k2 k3 k4
   exact ⟨k0, k1, k2, k3, k4⟩
def TOk (B : Nat) (t : Ta) (w : World) : Prop := t.wf ∧ (∀ c ∈ t.cs, c.wf) ∧ t.cs.length ≤ 60000 ∧ (∀ g, (Value.slice t.A t.cs.length t.c).ownBlock = some g → g < B) ∧ ∃ base, w.ownsRow base 98 3 (.slice t.A t.cs.length t.c) t.cs.length (ccells t.cs)
theorem own_low {w w' : World} {B base : Nat} {e : TypeId} {size n : Nat} {v : Value} {xs : List Value} (h : w.ownsRow base e size v n xs) (hb : Below B w w') (hv : ∀ g, v.ownBlock = some g → g < B) : w'.ownsRow base e size v n xs := by
 refine ⟨h.1, ?_⟩
 rcases h.2 with h0 | ⟨g, cap, cur, rfl, hbg, hh, h4⟩
 · exact .inl h0
 · exact .inr ⟨g, cap, cur, rfl, hbg, (hb.block g (hv g rfl)).trans hh, h4⟩
theorem blk_low {w w' : World} {B x : Nat} {cs : Array Value} {t : TypeId} (h : Blk w x cs t) (hb : Below B w w') (hx : x < B) : Blk w' x cs t := (hb.block x hx).trans h
theorem TOk.low {B : Nat} {t : Ta} {w w' : World} (h : TOk B t w) (hb : Below B w w') : TOk B t w' := by
 obtain ⟨h1, h2, h3, h4, base, h5⟩ := h
 exact ⟨h1, h2, h3, h4, base, own_low h5 hb h4⟩
theorem TOk.rd {B rb bb : Nat} {t : Ta} {w w' : World} {s s0 : ByteArray} {bd bd0 : Bool} (h : TOk B t w) (k : Rds rb bb w w' s bd) (hr : Blk w rb #[.string s0] 9) (hb : Blk w bb #[.bool bd0] 4) : TOk B t w' := by
 obtain ⟨h1, h2, h3, h4, base, h5⟩ := h
 exact ⟨h1, h2, h3, h4, base, k.own hr hb h5 (by decide) (by decide)⟩
theorem TOk.mono {B B' : Nat} {t : Ta} {w : World} (h : TOk B t w) (hB : B ≤ B') : TOk B' t w := by
 obtain ⟨h1, h2, h3, h4, h5⟩ := h
 exact ⟨h1, h2, h3, fun g hg => Nat.lt_of_lt_of_le (h4 g hg) hB, h5⟩
def GI (w0 : World) (r0 sb B : Nat) (A : Option Addr) (c : Nat) (T : List Ta) (w : World) : Prop :=
 (w0.heap.size ≤ r0 ∧ w0.heap.size ≤ sb ∧ r0 < B ∧ sb < B ∧ r0 ≠ sb ∧ T.length ≤ 255) ∧ Blk w r0 #[.slice none 0 0] 24 ∧ Blk w sb #[.slice A T.length c] 24 ∧ w.ownsRow w0.heap.size 73 5 (.slice A T.length c) T.length (tcells T) ∧ (∀ g, (Value.slice A T.length c).ownBlock = some g → g < B) ∧ (∀ t ∈ T, TOk B t w) ∧ Below w0.heap.size w0 w
theorem GI.low {w0 : World} {r0 sb B : Nat} {A : Option Addr} {c : Nat} {T : List Ta} {w w' : World} (h : GI w0 r0 sb B A c T w) (hb : Below B w w') : GI w0 r0 sb B A c T w' := by
 obtain ⟨h0, h1, h2, h3, h4, h5, h6⟩ := h
 exact ⟨h0, blk_low h1 hb h0.2.2.1, blk_low h2 hb h0.2.2.2.1, own_low h3 hb h4, h4, fun t ht => (h5 t ht).low hb, h6.trans (hb.mono (by omega))⟩
theorem blk_ne {w : World} {x y : Nat} {cs ds : Array Value} {t u : TypeId} (h : Blk w x cs t) (k : Blk w y ds u) (hne : t ≠ u) : x ≠ y := by
 intro e
 subst e
 unfold Blk at h k
 rw [h] at k
 simp only [Option.some.injEq, Obj.cells.injEq] at k
 exact hne k.2.1
theorem GI.rd {w0 : World} {r0 sb B rb bb : Nat} {A : Option Addr} {c : Nat} {T : List Ta} {w w' : World} {s s0 : ByteArray} {bd bd0 : Bool} (h : GI w0 r0 sb B A c T w) (k : Rds rb bb w w' s bd) (hr : Blk w rb #[.string s0] 9) (hb : Blk w bb #[.bool bd0] 4)
  (hr0 : w0.heap.size ≤ rb) (hb0 : w0.heap.size ≤ bb) : GI w0 r0 sb B A c T w' := by
 obtain ⟨h0, h1, h2, h3, h4, h5, h6⟩ := h
 exact ⟨h0, k.blk h1 (blk_ne h1 hr (by decide)) (blk_ne h1 hb (by decide)), k.blk h2 (blk_ne h2 hr (by decide)) (blk_ne h2 hb (by decide)), k.own hr hb h3 (by decide) (by decide), h4, fun t ht => (h5 t ht).rd k hr hb, h6.trans (k.below h6.size hr0 hb0)⟩
theorem GI.mono {w0 : World} {r0 sb B B' : Nat} {A : Option Addr} {c : Nat} {T : List Ta} {w : World} (h : GI w0 r0 sb B A c T w) (hB : B ≤ B') : GI w0 r0 sb B' A c T w := by
 obtain ⟨h0, h1, h2, h3, h4, h5, h6⟩ := h
 exact ⟨by omega, h1, h2, h3, fun g hg => Nat.lt_of_lt_of_le (h4 g hg) hB, fun t ht => (h5 t ht).mono hB, h6⟩
theorem own_below_put {w : World} {b : Nat} {cs : Array Value} {t : TypeId} {base : Nat} {e : TypeId} {size n : Nat} {v : Value} {xs : List Value} (h : w.ownsRow base e size v n xs) (hb : Blk w b cs t) (hne : e ≠ t) (ds : Array Value) : (putBlk w b ds t).ownsRow base e size v n xs := by
 have e1 := putBlk_self hb
 have h' : (putBlk w b cs t).ownsRow base e size v n xs := by rw [e1]; exact h
 exact own_put h' hb.lt hne ds
def bId : ByteArray := ⟨#[105, 100]⟩
def bOf : ByteArray := ⟨#[111, 102]⟩
def twoL (c1 c2 : Nat) (p : Int) : List Ta := [⟨⟨#[97]⟩, [⟨bId, 2, false⟩], 0, -1, -1, some ⟨c1, 0, none⟩, 1⟩, ⟨⟨#[98]⟩, [⟨bId, 2, false⟩, ⟨bOf, 2, false⟩], 0, 1, p, some ⟨c2, 0, none⟩, 2⟩]
def twoC (c1 c2 : Nat) (p : Int) : Array Value := #[.string ⟨#[97]⟩, .slice (some ⟨c1, 0, none⟩) 1 1, .int .i64 0, .int .i64 (-1), .int .i64 (-1), .string ⟨#[98]⟩, .slice (some ⟨c2, 0, none⟩) 2 2, .int .i64 0, .int .i64 1, .int .i64 p]
def TwoP (w : World) (r : Ending) (w' : World) : Prop :=
 Below w.heap.size w w' ∧ ∃ b c1 c2, r = .returned (.agg #[.slice (some ⟨b, 0, none⟩) 2 2]) ∧ w.heap.size ≤ b ∧ w.heap.size ≤ c1 ∧ w.heap.size ≤ c2 ∧ b ≠ c1 ∧ b ≠ c2 ∧
  Blk w' b (twoC c1 c2 0) 73 ∧ Blk w' c1 #[.string bId, .int .u8 2, .bool false] 98 ∧ Blk w' c2 #[.string bId, .int .u8 2, .bool false, .string bOf, .int .u8 2, .bool false] 98
theorem two_row {w : World} {b c1 c2 : Nat} {p : Int} (hp : -9223372036854775808 ≤ p ∧ p ≤ 9223372036854775807) (hb : Blk w b (twoC c1 c2 p) 73) (h1 : Blk w c1 #[.string bId, .int .u8 2, .bool false] 98)
  (h2 : Blk w c2 #[.string bId, .int .u8 2, .bool false, .string bOf, .int .u8 2, .bool false] 98) : TRow w (some ⟨b, 0, none⟩) 2 (twoL c1 c2 p) := by
 have z1 : bId.size = 2 := rfl
 have z2 : bOf.size = 2 := rfl
 have r1 : CRow w (some ⟨c1, 0, none⟩) [⟨bId, 2, false⟩] := by
  refine ⟨fun c hc => ?_, by simp, fun _ => ⟨c1, 0, rfl, h1.lt, fun i v hi => ?_⟩⟩
  · obtain rfl : c = _ := by simpa using hc
    exact ⟨by simp only [z1]; omega, by simp only; omega, by simp only; omega⟩
  · match i, hi with
    | 0, hi =>
     obtain rfl : _ = v := by simpa using hi
     exact ⟨h1.cell 0, h1.cell 1, h1.cell 2⟩
    | i + 1, hi => simp at hi
 have r2 : CRow w (some ⟨c2, 0, none⟩) [⟨bId, 2, false⟩, ⟨bOf, 2, false⟩] := by
  refine ⟨fun c hc => ?_, by simp, fun _ => ⟨c2, 0, rfl, h2.lt, fun i v hi => ?_⟩⟩
  · rcases List.mem_cons.1 hc with rfl | hc
    · exact ⟨by simp only [z1]; omega, by simp only; omega, by simp only; omega⟩
    · obtain rfl : c = _ := by simpa using hc
      exact ⟨by simp only [z2]; omega, by simp only; omega, by simp only; omega⟩
  · match i, hi with
    | 0, hi =>
     obtain rfl : _ = v := by simpa using hi
     exact ⟨h2.cell 0, h2.cell 1, h2.cell 2⟩
    | 1, hi =>
     obtain rfl : _ = v := by simpa using hi
     exact ⟨h2.cell 3, h2.cell 4, h2.cell 5⟩
    | i + 2, hi => simp at hi
 have e1 : (⟨#[97]⟩ : ByteArray).size = 1 := rfl
 have e2 : (⟨#[98]⟩ : ByteArray).size = 1 := rfl
 refine ⟨fun t ht => ?_, by simp [twoL], by simp [twoL], fun _ => ⟨b, 0, rfl, hb.lt, fun i t hi => ?_⟩⟩
 · unfold twoL at ht
   rcases List.mem_cons.1 ht with rfl | ht
   · exact ⟨⟨by simp only [e1]; omega, by simp only; omega, by simp only; omega, by simp only; omega⟩, r1⟩
   · obtain rfl : t = _ := by simpa using ht
     exact ⟨⟨by simp only [e2]; omega, by simp only; omega, by simp only; omega, by simp only; omega⟩, r2⟩
 · unfold twoL at hi
   match i, hi with
   | 0, hi =>
    obtain rfl : _ = t := by simpa using hi
    exact ⟨hb.cell 0, hb.cell 1, hb.cell 2, hb.cell 3, hb.cell 4⟩
   | 1, hi =>
    obtain rfl : _ = t := by simpa using hi
    exact ⟨hb.cell 5, hb.cell 6, hb.cell 7, hb.cell 8, hb.cell 9⟩
   | i + 2, hi => simp at hi
theorem two_sch (c1 c2 : Nat) : schB (twoL c1 c2 0) = true := by kernel_rfl
set_option maxRecDepth 100000 in
theorem two_any (w : World) : Calls Tryz.prog 36 #[] w (TwoP w) := by
 go_enter Tryz.func36, Tryz.ntmps36
 go_wp2_with fail
 refine bodyPost_ret (v := .agg #[.slice (some ⟨w.heap.size + 1 + 1 + 1, 0, none⟩) 2 2]) (by simp [results, Tryz.results36, go_sem]) rfl ?_
 exact ⟨(by repeat (first | exact Below.refl _ _ | assumption | refine Below.drew ?_ | refine below_drewN ?_ _ | refine Below.alloc ?_ (by simp <;> omega) _)), w.heap.size + 1 + 1 + 1, w.heap.size + 1, w.heap.size + 1 + 1, rfl, by omega, by omega, by omega, by omega, by omega, (by repeat (first | exact Blk.at (by simp) | assumption | refine Blk.drew ?_ | refine Blk.old ?_ _)), (by repeat (first | exact Blk.at (by simp) | assumption | refine Blk.drew ?_ | refine Blk.old ?_ _)), (by repeat (first | exact Blk.at (by simp) | assumption | refine Blk.drew ?_ | refine Blk.old ?_ _))⟩
theorem ccells_length (l : List Co) : (ccells l).length = l.length * 3 := flat_length _ 3 (fun _ => rfl) l
theorem CRow.cells_ {w : World} {l : List Co} {b off : Nat} (h : CRow w (some ⟨b, off, none⟩) l) : ∀ j u, (ccells l)[j]? = some u → w.cell? ((⟨b, off, none⟩ : Addr).add j) = some u := by
 intro j u hu
 have hj : j < l.length * 3 := by
  have := (List.getElem?_eq_some_iff.1 hu).1
  rwa [ccells_length] at this
 obtain ⟨b', off', v, hA, _, hlk, _, _, c0, c1, c2⟩ := h.at_ (k := j / 3) (by omega)
 injection hA with hA
 injection hA with e1 e2
 subst e1; subst e2
 have e : j = j / 3 * 3 + j % 3 := by omega
 rw [e] at hu
 unfold ccells at hu
 rw [flat_get _ 3 (fun _ => rfl) l (j / 3) (j % 3) v hlk (by omega)] at hu
 have ea : (⟨b, off, none⟩ : Addr).add j = ⟨b, off + j / 3 * 3 + j % 3, none⟩ := by
  unfold Addr.add; split
  · next h0 => subst h0; rfl
  · show (⟨b, off + j, none⟩ : Addr) = _
    rw [show off + j = off + j / 3 * 3 + j % 3 by omega]
 rw [ea]
 have hm : j % 3 = 0 ∨ j % 3 = 1 ∨ j % 3 = 2 := by omega
 rcases hm with hm | hm | hm <;> rw [hm] at hu ⊢ <;> simp only [List.getElem?_cons_zero, List.getElem?_cons_succ, Option.some.injEq] at hu <;> subst hu
 · exact c0
 · exact c1
 · exact c2
theorem put_put' (w : World) (b : Nat) (cs ds : Array Value) (t u : TypeId) : putBlk (putBlk w b cs t) b ds u = putBlk w b ds u := by unfold putBlk; simp
end Go.Proofs.YtceoficoappkpaaGreatDoor
