/- Documents: Copy. -/
import Derived.Test.YtjdfodmialhakaaDoorDc9
namespace Go.Proofs.YtjdfodmialhakaaDoor
open Go.RowKit

theorem info_D : (Tryd.prog.info? 71).map (fun i => (i.zero, i.size, i.bytes)) = some (some (.agg #[.int .i64 0, .slice none 0 0, .slice none 0 0]), 3, 56) := by kernel_rfl
theorem cells_new3 (w : World) (a b c : Value) (t : TypeId) : ∀ j u, [a, b, c][j]? = some u → (w.alloc (.cells #[a, b, c] t)).cell? ((⟨w.heap.size, 0, none⟩ : Addr).add j) = some u := by
  intro j u hu
  have h := (Blk.new w #[a, b, c] t).cell j
  rw [List.getElem?_toArray, hu] at h
  cases j with
  | zero => exact h
  | succ j => simpa [Addr.add] using h
theorem own_form' {w : World} {base e size n : Nat} {v : Value} {xs : List Value} (h : w.ownsRow base e size v n xs) : ∃ A c, v = .slice A n c := by
  rcases h.2 with ⟨rfl, rfl⟩ | ⟨g, cap, cur, rfl, _⟩
  · exact ⟨none, 0, rfl⟩
  · exact ⟨_, _, rfl⟩
theorem own_weak {w : World} {base base' e size n : Nat} {v : Value} {xs : List Value} (h : w.ownsRow base e size v n xs) (hb : base' ≤ base) : w.ownsRow base' e size v n xs := by
  obtain ⟨h1, h2 | ⟨g, cap, cur, h3, h4, h5⟩⟩ := h
  · exact ⟨h1, Or.inl h2⟩
  · exact ⟨h1, Or.inr ⟨g, cap, cur, h3, Nat.le_trans hb h4, h5⟩⟩
theorem grown_weak {w w' : World} (h : w.grownBy w' none) (row : Option Nat) : w.grownBy w' row := ⟨h.os, h.tape, h.output, h.size, fun k hk _ => h.block k hk (by simp)⟩
/-- An append to a row that the call owns: it stays where it was, or lies in a new block. -/
theorem run_append_fresh {P : Program} (w : World) (base : Nat) (t ty e : TypeId) (i : TypeInfo) (z : Value) (size bytes : Nat) (ht : P.underlying t = some (.slice e)) (hi : P.info? e = some i) (hz : i.zero = some z)
    (hsize : i.size = size) (hby : i.bytes = bytes) (hzs : z.cells.size = size) (hsz : 0 < size)
    (v : Value) (n : Nat) (xs : List Value) (hown : w.ownsRow base e size v n xs)
    (a : Addr) (m c : Nat) (news : List Value) (hl : news.length = m * size) (hnews : ∀ j u, news[j]? = some u → w.cell? (a.add j) = some u) (h1 : ∀ u ∈ news, u.oneCell' = true)
    (h63 : n + m ≤ maxLen) (hbytes : (n + m) * bytes ≤ 140737488355328) (hbase : base ≤ w.heap.size) :
    ∃ v' w', (Builtin.append_ #[t, t] ty #[v, .slice (some a) m c]).run P w = .ok v' w' ∧ w'.ownsRow base e size v' (n + m) (xs ++ news) ∧ w.grownBy w' v.ownBlock ∧ (∀ g, v'.ownBlock = some g → v.ownBlock = some g ∨ w.heap.size ≤ g) := by
  rcases hown.2 with ⟨rfl, rfl⟩ | ⟨g, cap, cur, rfl, hbg, hg, hnc, hcm, hcs, htake⟩
  · have hx : xs = [] := List.eq_nil_of_length_eq_zero (by simpa using hown.1)
    subst hx
    obtain ⟨v', w', hr, h2, h3, _⟩ := run_append_own (P := P) w w.heap.size t ty e i z size bytes ht hi hz hsize hby hzs hsz _ 0 [] (World.ownsRow_nil w _ e size) a m c news hl hnews h1 h63 hbytes (Nat.le_refl _)
    exact ⟨v', w', hr, own_weak h2 hbase, h3, fun g hg => Or.inr (own_ge h2 g hg)⟩
  · by_cases hroom : n + m ≤ cap
    · obtain ⟨v', w', hr, h2, h3, _⟩ := run_append_own (P := P) w base t ty e i z size bytes ht hi hz hsize hby hzs hsz _ n xs hown a m c news hl hnews h1 h63 hbytes hbase
      have hfit : n * i.size + news.length ≤ cur.size := by rw [hl, hcs, hsize, ← Nat.add_mul]; exact Nat.mul_le_mul_right _ hroom
      have hr2 := run_append_room (P := P) w t ty e i ht hi g n cap cur hg a m c news (by rw [hl, hsize]) hnews h1 hroom hfit
      rw [hr] at hr2
      simp only [Result.ok.injEq] at hr2
      refine ⟨v', w', hr, h2, h3, fun x hx => Or.inl ?_⟩
      rw [hr2.1] at hx
      exact hx
    · have hlo := hown.1
      obtain ⟨v', w', hr, h2, h3⟩ := run_append_arg_grows (P := P) w t ty e i z size bytes ht hi hz hsize hby hzs hsz ⟨g, 0, none⟩ n cap xs hlo (hown.cells rfl) a m c news hl hnews (by omega) h63 hbytes
      exact ⟨v', w', hr, own_weak h2 hbase, grown_weak h3 _, fun x hx => Or.inr (own_ge h2 x hx)⟩
theorem wp_append_fresh {P : Program} (w : World) {o : Oper} {a : Act} {K : Act → World → Prop} {Q : Exit → Act → World → Prop} (s x : Operand) (t : TypeId)
    (ho : o.op = .call { callee := .builtin .append, args := #[s, x], argTypes := #[t, t] })
    (base : Nat) (e : TypeId) (i : TypeInfo) (z : Value) (size bytes : Nat) (ht : P.underlying t = some (.slice e)) (hi : P.info? e = some i) (hz : i.zero = some z)
    (hsize : i.size = size) (hby : i.bytes = bytes) (hzs : z.cells.size = size) (hsz : 0 < size)
    (v : Value) (n : Nat) (xs : List Value) (hs : a.eval s = v) (hown : w.ownsRow base e size v n xs)
    (ad : Addr) (m c : Nat) (news : List Value) (hx : a.eval x = .slice (some ad) m c) (hl : news.length = m * size) (hnews : ∀ j u, news[j]? = some u → w.cell? (ad.add j) = some u) (h1 : ∀ u ∈ news, u.oneCell' = true)
    (h63 : n + m ≤ maxLen) (hbytes : (n + m) * bytes ≤ 140737488355328) (hbase : base ≤ w.heap.size)
    (h : ∀ v' w', w'.ownsRow base e size v' (n + m) (xs ++ news) → w.grownBy w' v.ownBlock → (∀ g, v'.ownBlock = some g → v.ownBlock = some g ∨ w.heap.size ≤ g) → K (a.put o.dst v') w') : o.wp P a w K Q := by
  obtain ⟨v', w', hr, h2, h3, h4⟩ := run_append_fresh (P := P) w base t o.type e i z size bytes ht hi hz hsize hby hzs hsz v n xs hown ad m c news hl hnews h1 h63 hbytes hbase
  unfold Oper.wp execOp
  simp only [ho, resolve, invoke, builtin, Sem.run_bind, Sem.run_pure, Result.andThen_ok, List.map_toArray, List.map_cons, List.map_nil, hs, hx, hr]
  exact h v' w' h2 h3 h4
theorem wpList_append_fresh {P : Program} (w : World) {ops : Array Oper} {rest : List Oper} {o : Oper} {a : Act} {Q : Exit → Act → World → Prop} (hgd : o.guard = none) (s x : Operand) (t : TypeId)
    (ho : o.op = .call { callee := .builtin .append, args := #[s, x], argTypes := #[t, t] })
    (base : Nat) (e : TypeId) (i : TypeInfo) (z : Value) (size bytes : Nat) (ht : P.underlying t = some (.slice e)) (hi : P.info? e = some i) (hz : i.zero = some z)
    (hsize : i.size = size) (hby : i.bytes = bytes) (hzs : z.cells.size = size) (hsz : 0 < size)
    (v : Value) (n : Nat) (xs : List Value) (hs : a.eval s = v) (hown : w.ownsRow base e size v n xs)
    (ad : Addr) (m c : Nat) (news : List Value) (hx : a.eval x = .slice (some ad) m c) (hl : news.length = m * size) (hnews : ∀ j u, news[j]? = some u → w.cell? (ad.add j) = some u) (h1 : ∀ u ∈ news, u.oneCell' = true)
    (h63 : n + m ≤ maxLen) (hbytes : (n + m) * bytes ≤ 140737488355328) (hbase : base ≤ w.heap.size)
    (h : ∀ v' w', w'.ownsRow base e size v' (n + m) (xs ++ news) → w.grownBy w' v.ownBlock → (∀ g, v'.ownBlock = some g → v.ownBlock = some g ∨ w.heap.size ≤ g) → wpList P ops Q rest (a.put o.dst v') w') : wpList P ops Q (o :: rest) a w :=
  wpList_plain hgd fun _ hK => wp_append_fresh w s x t ho base e i z size bytes ht hi hz hsize hby hzs hsz v n xs hs hown ad m c news hx hl hnews h1 h63 hbytes hbase fun v' w' h2 h3 h4 => hK _ _ (h v' w' h2 h3 h4)
theorem take_snoc1 {α : Type} {l : List α} {k : Nat} {x : α} (h : l[k]? = some x) : l.take k ++ [x] = l.take (k + 1) := by
  obtain ⟨hj, e⟩ := List.getElem?_eq_some_iff.1 h
  rw [List.take_succ_eq_append_getElem hj, e]
theorem putBlk_other {w : World} {b x : Nat} {cs ds : Array Value} {t : TypeId} (h : x ≠ b) : (putBlk w b ds t).heap[x]? = (putBlk w b cs t).heap[x]? := by
  unfold putBlk
  simp only
  rw [Array.getElem?_setIfInBounds_ne (Ne.symm h), Array.getElem?_setIfInBounds_ne (Ne.symm h)]
theorem VRow.put {w : World} {b : Nat} {cs : Array Value} {t : TypeId} {A : Option Addr} {l : List V} (h : VRow (putBlk w b cs t) A l) (hb : ∀ x off, A = some ⟨x, off, none⟩ → x ≠ b) (ds : Array Value) : VRow (putBlk w b ds t) A l :=
  h.keep (by simp [putBlk_size]) (fun x off e _ _ => putBlk_other (hb x off e))
theorem KRow.put {P : Nat → Prop} {n : Nat} {w : World} {b : Nat} {cs : Array Value} {t : TypeId} {K : Option Addr} {ks : List De} (h : KRow (DRp P n (putBlk w b cs t)) (putBlk w b cs t) K ks) (hP : ¬ P b) (hb : ∀ x off, K = some ⟨x, off, none⟩ → ks ≠ [] → x ≠ b) (ds : Array Value) : KRow (DRp P n (putBlk w b ds t)) (putBlk w b ds t) K ks :=
  h.keep (by simp [putBlk_size]) (fun x off e hl _ => putBlk_other (hb x off e hl)) (fun _ _ h => h.put hP ds)
/-- The documents that lie in a row of the call's own, none of them within that row's block. -/
def KOut (base n : Nat) (w : World) (v : Value) (xs : List Value) (ks : List De) : Prop := w.ownsRow base 71 3 v ks.length xs ∧ KCells (DRp (fun b => base ≤ b ∧ v.ownBlock ≠ some b) n w) xs ks
theorem KOut.ext {base n : Nat} {w w' : World} {v : Value} {xs : List Value} {ks : List De} (h : KOut base n w v xs ks) (hb : Below w.heap.size w w') : KOut base n w' v xs ks := ⟨own_below h.1 hb, h.2.mono (fun _ _ h => h.ext hb)⟩
/-- One more document, of blocks that are new since w0, is appended. -/
theorem KOut.snoc {base n : Nat} {w w' : World} {v v' : Value} {xs : List Value} {ks : List De} {c0 c1 c2 : Value} {k : De} {B : Nat} (h : KOut base n w v xs ks) (hB : ∀ g, v.ownBlock = some g → g < B) (hbB : base ≤ B)
    (hR : DRp (fun b => B ≤ b) n w (.agg #[c0, c1, c2]) k) (ho : w'.ownsRow base 71 3 v' (ks.length + 1) (xs ++ [c0, c1, c2])) (hg : w.grownBy w' v.ownBlock) (hf : ∀ g, v'.ownBlock = some g → v.ownBlock = some g ∨ w.heap.size ≤ g) : KOut base n w' v' (xs ++ [c0, c1, c2]) (ks ++ [k]) := by
  refine ⟨by simpa using ho, KCells.app (h.2.mono fun u x hx => ?_) (KCells.one ?_)⟩
  · have h1 : DRp (fun b => base ≤ b ∧ v.ownBlock ≠ some b ∧ v'.ownBlock ≠ some b) n w u x := hx.weak (fun b hb hlt => ⟨hb.1, hb.2, fun e => by
      rcases hf b e with h2 | h2
      · exact hb.2 h2
      · omega⟩)
    exact (h1.grown hg (fun b hb => hb.2.1)).weak (fun b hb _ => ⟨hb.1, hb.2.2⟩)
  · have h1 : DRp (fun b => base ≤ b ∧ v.ownBlock ≠ some b ∧ v'.ownBlock ≠ some b) n w (.agg #[c0, c1, c2]) k := hR.weak (fun b hb hlt => ⟨by omega, fun e => by have := hB b e; omega, fun e => by
      rcases hf b e with h2 | h2
      · have := hB b h2; omega
      · omega⟩)
    exact (h1.grown hg (fun b hb => hb.2.1)).weak (fun b hb _ => ⟨hb.1, hb.2.2⟩)
def CopyP (n : Nat) (w : World) (d : De) (r : Ending) (w' : World) : Prop := ∃ v', r = .returned v' ∧ DRp (fun b => w.heap.size ≤ b) n w' v' d ∧ Below w.heap.size w w'
set_option maxRecDepth 100000 in
set_option maxHeartbeats 1600000 in
theorem copy25_any : ∀ (n m : Nat) (v : Value) (d : De) (w : World), DRd n w v d → Sm m d →
    Calls Tryd.prog 43 #[v] w (CopyP n w d)
  | 0, _, _, _, _, h, _ => h.elim
  | _ + 1, 0, _, _, _, _, h => h.elim
  | n + 1, m + 1, v, d, w, hd, hsm => by
    obtain ⟨A, ca, K, ck, rfl, htb, hv, hk⟩ := hd
    obtain ⟨hs1, hs2, hs3⟩ := hsm
    have IH := Lib.hid (copy25_any n m)
    obtain ⟨i0, hi0, hz0, hz1, hz2⟩ := info_parts info_D
    have hrow : d.row.length ≤ 4000 := long_len (by omega)
    have HCR := Lib.hid (fun (W : World) (hW : Below w.heap.size w W) => copy_any d.row A ca W (hv.ext hW) (by omega))
    have HWF := Lib.hid (show (∀ v ∈ d.row, v.wf) ∧ d.row.length ≤ 35184372088832 from ⟨hv.1, hv.2.1⟩)
    have HK := Lib.hid hk
    have HS := Lib.hid hs3
    have HQ := Lib.hid (show ∀ (A A' : Option Addr) (ca' ck' : Nat) (w' : World), Below w.heap.size w w' → (VRow w' A d.row ∧ ∀ b off, A = some ⟨b, off, none⟩ → d.row ≠ [] → w.heap.size ≤ b) → (KRow (DRp (fun b => w.heap.size ≤ b) n w') w' A' d.kids ∧ ∀ b off, A' = some ⟨b, off, none⟩ → d.kids ≠ [] → w.heap.size ≤ b) →
      CopyP (n + 1) w d (.returned (.agg #[.int .i64 d.tb, .slice A d.row.length ca', .slice A' d.kids.length ck'])) w' from fun A A' ca' ck' w' hb h1 h2 => ⟨_, rfl, ⟨A, ca', A', ck', rfl, htb, h1, h2⟩, hb⟩)
    clear hk hv hs3 hs1 htb
    generalize d.kids = ks at HK HS HQ hs2 ⊢
    generalize d.tb = tb at HQ ⊢
    go_enter Tryd.func43, Tryd.ntmps43
    go_upto_region 1 with fail
    have h1 : Blk ((w.alloc (.cells #[.int .i64 tb, .slice A d.row.length ca, .slice K ks.length ck] 71)).alloc (.cells #[.int .i64 0, .slice none 0 0, .slice none 0 0] 71)) w.heap.size #[.int .i64 tb, .slice A d.row.length ca, .slice K ks.length ck] 71 := (by repeat (first | exact Blk.at (by simp) | assumption | refine Blk.drew ?_ | refine Blk.old ?_ _))
    have h2 : Blk ((w.alloc (.cells #[.int .i64 tb, .slice A d.row.length ca, .slice K ks.length ck] 71)).alloc (.cells #[.int .i64 0, .slice none 0 0, .slice none 0 0] 71)) (w.heap.size + 1) #[.int .i64 0, .slice none 0 0, .slice none 0 0] 71 := (by repeat (first | exact Blk.at (by simp) | assumption | refine Blk.drew ?_ | refine Blk.old ?_ _))
    have hC : Below w.heap.size w ((w.alloc (.cells #[.int .i64 tb, .slice A d.row.length ca, .slice K ks.length ck] 71)).alloc (.cells #[.int .i64 0, .slice none 0 0, .slice none 0 0] 71)) := (by repeat (first | exact Below.refl _ _ | assumption | refine Below.drew ?_ | refine below_drewN ?_ _ | refine Below.alloc ?_ (by simp <;> omega) _))
    have HB := Lib.hid h1
    have HB2 := Lib.hid h2
    have HC := Lib.hid hC
    clear h1 h2 hC
    generalize (w.alloc (.cells #[.int .i64 tb, .slice A d.row.length ca, .slice K ks.length ck] 71)).alloc (.cells #[.int .i64 0, .slice none 0 0, .slice none 0 0] 71) = W0 at HB HB2 HC ⊢
    have hne : w.heap.size + 1 ≠ w.heap.size := by omega
    generalize hbe2 : w.heap.size + 1 = by' at HB2 hne ⊢
    generalize hbe : w.heap.size = bx at HB hne ⊢
    have HE := Lib.hid hbe
    have HNE := Lib.hid hne
    have hyb : bx ≤ by' := by omega
    clear hbe hbe2 hne
    obtain ⟨lb, d0, d1, d2⟩ := blk3 HB.out
    go_wp2_with fail
    refine (HCR.out _ HC.out).mono ?_
    rintro r w2 ⟨A', ca', rfl, hown, hb2⟩
    have hvr := (VRow.of_own HWF.out.1 HWF.out.2 hown).1
    have hge := own_ge hown
    have hB2 := HB.out.ext hb2
    have hb2' : Blk w2 by' #[.int .i64 0, .slice none 0 0, .slice none 0 0] 71 := HB2.out.ext hb2
    have hC2 := bt HC.out hb2
    have hlb := HB.out.lt
    have hlb2 := HB2.out.lt
    have hne2 : by' ≠ bx := HNE.out
    have hvb : ∀ b off, A' = some ⟨b, off, none⟩ → W0.heap.size ≤ b := fun b off e => hge b (by rw [e]; rfl)
    clear lb d0 d1 d2 hown hge HB HB2 HC hb2 HCR HWF
    obtain ⟨w3, rfl, lt⟩ := blk_put hB2
    obtain ⟨pc, pf, pS⟩ := putBlk_facts (w := w3) 71 lt
    have hvr := hvr.keep (w' := putBlk w3 bx #[.int .i64 tb, .slice A' d.row.length ca', .slice K ks.length ck] 71) (by simp [putBlk_size]) (fun b off e _ _ => by
      have h1 := hvb b off e
      have : b ≠ bx := by omega
      unfold putBlk
      simp only
      rw [Array.getElem?_setIfInBounds_ne (Ne.symm this), Array.getElem?_setIfInBounds_ne (Ne.symm this)])
    have HV := Lib.hid hvr
    have HVB : Hid (∀ b off, A' = some ⟨b, off, none⟩ → W0.heap.size ≤ b) := hvb
    have HB2 := Lib.hid (putBlk_old hb2' hne2 #[.int .i64 tb, .slice A' d.row.length ca', .slice K ks.length ck])
    have HC := Lib.hid (putBlk_belows hC2 (by rw [HE.out]; exact Nat.le_refl _) #[.int .i64 tb, .slice A' d.row.length ca', .slice K ks.length ck])
    have HB := Lib.hid (putBlk_blk (w := w3) #[.int .i64 tb, .slice A' d.row.length ca', .slice K ks.length ck] 71 lt)
    clear hB2 hb2' hC2 hvr hvb hne2
    go_upto_region 2 with fail
    generalize putBlk w3 bx #[.int .i64 tb, .slice A' d.row.length ca', .slice K ks.length ck] 71 = W1 at HV HB HB2 HC ⊢
    clear pc pf pS lt
    go_wp2_with fail
    go_loopw [3, 4] (fun o i wr => ∃ (k : Nat) (Av : Option Addr) (cv : Nat) (xs : List Value), k ≤ ks.length ∧ i = .int .i64 k ∧ o = .slice Av k cv ∧ Hid (KOut W1.heap.size n wr (.slice Av k cv) xs (ks.take k)) ∧ Below W1.heap.size W1 wr) (fun _ i _ => ks.length - (intOf i).toNat)
    case atStart => exact ⟨0, none, 0, [], by omega, rfl, rfl, ⟨World.ownsRow_nil _ _ _ _, KCells.nil _⟩, Below.refl _ _⟩
    case round =>
      obtain ⟨k, Av, cv, xs, hk1, rfl, rfl, HO, hbw⟩ := hrel
      obtain ⟨lb, _, _, d2⟩ := blk3 (HB.out.ext hbw)
      by_cases hlt : k < ks.length
      · obtain ⟨b, off, x, Ax, cax, Kx, ckx, rfl, hb, hdr, hx1, e0, e1, e2, hx⟩ := (HK.out.ext (bt HC.out hbw) (fun v k h => DRd.ext (n := n) h (bt HC.out hbw))).kid hlt
        have HX := Lib.hid hx
        have HW := Lib.hid hbw
        have HX1 := Lib.hid hx1
        clear hx hbw hdr hx1
        go_wp2_with fail
        refine (IH.out _ x _ HX.out (HS.out x (List.mem_of_getElem? HX1.out))).mono ?_
        rintro r w4 ⟨v4, rfl, hd4, hb4⟩
        obtain ⟨A4, ca4, K4, ck4, rfl⟩ := hd4.cells
        have hA4 : Below w4.heap.size w4 (w4.alloc (.cells #[.int .i64 x.tb, .slice A4 x.row.length ca4, .slice K4 x.kids.length ck4] 71)) := (by repeat (first | exact Below.refl _ _ | assumption | refine Below.drew ?_ | refine below_drewN ?_ _ | refine Below.alloc ?_ (by simp <;> omega) _))
        have HO4 := Lib.hid ((HO.out.ext hb4).ext hA4)
        have HD4 := Lib.hid (hd4.ext hA4)
        have HW4 := Lib.hid (bt (bt HW.out hb4) hA4)
        have hszr := HW.out.size
        have hown4 := HO4.out.1
        rw [List.length_take_of_le hk1] at hown4
        have HOWN := Lib.hid hown4
        have HLT := Lib.hid (fun g (hg : Value.ownBlock (.slice Av k cv) = some g) => (HO.out.1.lt g hg).2)
        clear hd4 hb4 HW e0 e1 e2 hb lb d2 hown4 HO
        go_wp2_with (at_builtin; refine wpList_append_fresh _ rfl _ _ 69 rfl W1.heap.size 71 i0 _ 3 56 Tryd.underlying69 hi0 hz0 hz1 hz2 rfl (by decide) (.slice Av k cv) k xs rfl HOWN.out ⟨w4.heap.size, 0, none⟩ 1 1 [.int .i64 x.tb, .slice A4 x.row.length ca4, .slice K4 x.kids.length ck4] rfl rfl (cells_new3 _ _ _ _ _) (by simp [Value.oneCell']) ?b1 ?b2 ?b3 ?_)
        case b1 => simp only [maxLen]; omega
        case b2 => omega
        case b3 => have := HW4.out.size; simpa using this
        intro v5 w5 hown5 hg5 hfr
        obtain ⟨A5, c5, rfl⟩ := own_form' hown5
        have hko := KOut.snoc HO4.out HLT.out hszr HD4.out (by rw [List.length_take_of_le hk1]; exact hown5) hg5 (fun g hg => by have := hfr g hg; simpa using this)
        rw [take_snoc1 HX1.out] at hko
        have HKO := Lib.hid hko
        have HW5 := Lib.hid (HW4.out.grown hg5 (by have := HW4.out.size; omega) (fun g hg => (HO4.out.1.lt g hg).1))
        clear hko hown5 hg5 hfr
        go_wp2_with fail
        go_roundw
        case rel => exact ⟨k + 1, A5, c5, _, by omega, by go_num, rfl, HKO.out, HW5.out⟩
        case measure => simp [intOf]; omega
      · obtain rfl : k = ks.length := by omega
        have hko := HO.out
        rw [List.take_length] at hko
        obtain ⟨⟨hkr, _⟩, hkb⟩ := KRow.of_own hko.1 hko.2 HK.out.1
        have hsz1 := HB.out.lt
        have hsz2 := HB2.out.lt
        have hkr := hkr.mono (R' := DRp (fun b => W1.heap.size ≤ b) n wr) (fun _ _ h => h.weak (fun b hb _ => hb.1))
        have hv := HV.out.ext hbw
        have hB := HB.out.ext hbw
        have hb2 := HB2.out.ext hbw
        have hC := bt HC.out hbw
        clear lb d2 hko HO HB HB2 HC HV hbw
        obtain ⟨w6, rfl, lt⟩ := blk_put hB
        obtain ⟨pc, pf, pS⟩ := putBlk_facts (w := w6) 71 lt
        have HKR := Lib.hid (hkr.put (by omega) (fun x off e hl => by have := hkb x off e hl; omega) #[.int .i64 tb, .slice A' d.row.length ca', .slice Av ks.length cv])
        have HKB := Lib.hid hkb
        have HV := Lib.hid (hv.put (fun x off e => by have := HVB.out x off e; omega) #[.int .i64 tb, .slice A' d.row.length ca', .slice Av ks.length cv])
        have HB2 := Lib.hid (putBlk_old hb2 HNE.out #[.int .i64 tb, .slice A' d.row.length ca', .slice Av ks.length cv])
        have HC := Lib.hid (putBlk_belows hC (by rw [HE.out]; exact Nat.le_refl _) #[.int .i64 tb, .slice A' d.row.length ca', .slice Av ks.length cv])
        clear hkr hkb hv hb2 hC hB
        go_upto_region 8 with fail
        have HB := Lib.hid (putBlk_blk (w := w6) #[.int .i64 tb, .slice A' d.row.length ca', .slice Av ks.length cv] 71 lt)
        generalize putBlk w6 bx #[.int .i64 tb, .slice A' d.row.length ca', .slice Av ks.length cv] 71 = W2 at HKR HV HB2 HC HB ⊢
        clear pc pf pS lt
        have hkr := HKR.out
        have hv := HV.out
        have hb1 := HB.out
        have hb2 := HB2.out
        have hC := HC.out
        clear HKR HV HB HB2 HC
        obtain ⟨w7, rfl, lt⟩ := blk_put hb2
        obtain ⟨pc, pf, pS⟩ := putBlk_facts (w := w7) 71 lt
        obtain ⟨lb, d0, d1, d2⟩ := blk3 hb1
        have HKR := Lib.hid (hkr.put (by omega) (fun x off e hl => by have := HKB.out x off e hl; omega) #[.int .i64 tb, .slice A' d.row.length ca', .slice Av ks.length cv])
        have HV := Lib.hid (hv.put (fun x off e => by have := HVB.out x off e; omega) #[.int .i64 tb, .slice A' d.row.length ca', .slice Av ks.length cv])
        have HC := Lib.hid (putBlk_belows hC (by rw [HE.out]; exact hyb) #[.int .i64 tb, .slice A' d.row.length ca', .slice Av ks.length cv])
        clear hkr hv hb1 hb2 hC
        go_wp2_with fail
        refine bodyPost_ret (v := .agg #[.int .i64 tb, .slice A' d.row.length ca', .slice Av ks.length cv]) (by simp [results, Tryd.results43, go_sem, pc]) rfl ?_
        exact HQ.out A' Av ca' cv _ HC.out ⟨HV.out, fun b off e _ => by have := HVB.out b off e; rw [HE.out]; omega⟩ ⟨HKR.out.mono (fun _ _ h => h.weak (fun b hb _ => by rw [HE.out]; omega)), fun b off e hl => by have := HKB.out b off e hl; rw [HE.out]; omega⟩
end Go.Proofs.YtjdfodmialhakaaDoor
