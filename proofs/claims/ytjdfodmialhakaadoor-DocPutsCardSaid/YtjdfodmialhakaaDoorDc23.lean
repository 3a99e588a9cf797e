/- Several texts in one: see each part's head. -/
import Derived.Test.YtjdfodmialhakaaDoorDc19
/- Documents: the program's Get. -/
namespace Go.Proofs.YtjdfodmialhakaaDoor
open Go.RowKit

theorem str_nil {s : ByteArray} (h : s.data.toList = []) : s = ⟨#[]⟩ := by
  obtain ⟨⟨l⟩⟩ := s
  simp only at h
  subst h
  rfl
theorem doc_any : ∀ (k : Nat) (s : ByteArray) (R : Nat) (dp : Int) (w : World), Tabs w → RdK w R s dp false → s.size ≤ 140737488355328 → dp + k = 8 → 0 ≤ dp →
    Calls Tryd.prog 125 #[.pointer (some ⟨R, 0, none⟩)] w (DocP R k dp (nextD k s.data.toList) w)
  | 0, s, R, dp, w, _, hR, _, hk, h0 => doc_none 0 s R dp w hR hk h0 (Or.inl rfl)
  | k + 1, s, R, dp, w, hT, hR, hs, hk, h0 => by
    cases hl : s.data.toList with
    | nil =>
      have := doc_none (k + 1) s R dp w hR hk h0 (Or.inr (str_nil hl))
      exact this
    | cons c r =>
      by_cases hb : (getRow r).1 ≠ 0 ∨ r.length < (getRow r).2.2 + 2
      · have := doc_bad k s R dp w hT hR hs (by omega) h0 c r hl hb
        rw [nextD, if_pos hb]
        exact this
      · have hg : (getRow r).1 = 0 := by omega
        have := doc_go k s R dp w hT hR hs (by omega) h0 c r hl hg (by omega) (fun s2 w2 hT2 hR2 hs2 => doc_any k s2 R (dp + 1) w2 hT2 hR2 hs2 (by omega) (by omega))
        rw [hl] at this
        exact this
abbrev zDoc : Value := .agg #[.int .i64 0, .slice none 0 0, .slice none 0 0]
def GetDP (o : Option De) (w : World) (r : Ending) (w' : World) : Prop :=
  Below w.heap.size w w' ∧ ((o = none ∧ r = .returned (.tuple #[zDoc, .int .i64 7])) ∨ (∃ d v, o = some d ∧ r = .returned (.tuple #[v, .int .i64 0]) ∧ DRp (fun b => w.heap.size ≤ b) 8 w' v d))
theorem getDoc_none {l : List UInt8} (h : nextD 8 l = none) : getDoc l = none := by unfold getDoc; rw [h]
theorem getDoc_more {l q : List UInt8} {d : De} (h : nextD 8 l = some (d, q)) (hq : q ≠ []) : getDoc l = none := by
  unfold getDoc
  rw [h]
  cases q with
  | nil => exact absurd rfl hq
  | cons a q => rfl
theorem getDoc_all {l : List UInt8} {d : De} (h : nextD 8 l = some (d, [])) : getDoc l = if mayD d then some d else none := by
  unfold getDoc
  rw [h]
set_option maxRecDepth 100000 in
set_option maxHeartbeats 1600000 in
theorem getdoc_any (s : ByteArray) (w : World) (hT : Tabs w) (hs : s.size ≤ 140737488355328) :
    Calls Tryd.prog 53 #[.string s] w (GetDP (getDoc s.data.toList) w) := by
  have hC : Below w.heap.size w ((w.alloc (.cells #[.int .i64 0, .slice none 0 0, .slice none 0 0] 71)).alloc (.cells #[.string s, .int .i64 0, .bool false] 164)) := (by repeat (first | exact Below.refl _ _ | assumption | refine Below.drew ?_ | refine below_drewN ?_ _ | refine Below.alloc ?_ (by simp <;> omega) _))
  have hZ : Blk ((w.alloc (.cells #[.int .i64 0, .slice none 0 0, .slice none 0 0] 71)).alloc (.cells #[.string s, .int .i64 0, .bool false] 164)) w.heap.size #[.int .i64 0, .slice none 0 0, .slice none 0 0] 71 := (by repeat (first | exact Blk.at (by simp) | assumption | refine Blk.drew ?_ | refine Blk.old ?_ _))
  have hR : RdK ((w.alloc (.cells #[.int .i64 0, .slice none 0 0, .slice none 0 0] 71)).alloc (.cells #[.string s, .int .i64 0, .bool false] 164)) (w.heap.size + 1) s 0 false := ((by repeat (first | exact Blk.at (by simp) | assumption | refine Blk.drew ?_ | refine Blk.old ?_ _)) : Blk _ (w.heap.size + 1) #[.string s, .int .i64 0, .bool false] 164)
  have HD := Lib.hid (doc_any 8 s (w.heap.size + 1) 0 _ (hT.ext hC) hR hs (by omega) (by omega))
  have HT := Lib.hid (fun (W : World) (hW : Below w.heap.size w W) => hT.ext hW)
  have HC := Lib.hid hC
  have HZ := Lib.hid hZ
  have HG := Lib.hid (⟨fun h => getDoc_none h, fun d q h hq => getDoc_more h hq, fun d h => getDoc_all h⟩ : (nextD 8 s.data.toList = none → getDoc s.data.toList = none) ∧ (∀ d q, nextD 8 s.data.toList = some (d, q) → q ≠ [] → getDoc s.data.toList = none) ∧ (∀ d, nextD 8 s.data.toList = some (d, []) → getDoc s.data.toList = if mayD d then some d else none))
  clear hC hZ hR hT
  generalize getDoc s.data.toList = o at HG ⊢
  generalize nextD 8 s.data.toList = o1 at HG HD
  go_enter Tryd.func53, Tryd.ntmps53
  go_upto_region 2 with fail
  generalize ((w.alloc (.cells #[.int .i64 0, .slice none 0 0, .slice none 0 0] 71)).alloc (.cells #[.string s, .int .i64 0, .bool false] 164)) = W0 at HD HC HZ ⊢
  have hZs := HZ.out.lt
  go_upto_region 3 with fail
  refine HD.out.mono ?_
  rintro e w2 ⟨t, A, n, c, K, m, ck, rfl, hg, hor⟩
  have hb2 : Below w.heap.size w w2 := ⟨hg.os.trans HC.out.os, hg.tape.trans HC.out.tape, hg.output.trans HC.out.output, Nat.le_trans HC.out.size hg.size, fun x hx => (hg.block x (by omega) (fun e => by injection e with e; omega)).trans (HC.out.block x hx)⟩
  have hz2 : Blk w2 w.heap.size #[.int .i64 0, .slice none 0 0, .slice none 0 0] 71 := (hg.block _ hZs (fun e => by injection e with e; omega)).trans HZ.out
  have hA : Below w2.heap.size w2 (w2.alloc (.cells #[.int .i64 t, .slice A n c, .slice K m ck] 71)) := (by repeat (first | exact Below.refl _ _ | assumption | refine Below.drew ?_ | refine below_drewN ?_ _ | refine Below.alloc ?_ (by simp <;> omega) _))
  have hx3 := Blk.new w2 #[.int .i64 t, .slice A n c, .slice K m ck] 71
  have hb3 := bt hb2 hA
  have hz3 := hz2.ext hA
  have HFL0 := Lib.hid (show ∀ W, Below w.heap.size w W → o = none → GetDP o w (.returned (.tuple #[zDoc, .int .i64 7])) W from fun W h e => ⟨h, Or.inl ⟨e, rfl⟩⟩)
  go_upto_region 3 with fail
  rcases hor with ⟨hn, s2, hr⟩ | ⟨d, q, s2, hn, rfl, hr, hd⟩
  · have HFL := Lib.hid (fun W h => HFL0.out W h (HG.out.1 hn))
    have hr3 := Blk.ext hr hA
    generalize w2.alloc (.cells #[.int .i64 t, .slice A n c, .slice K m ck] 71) = W3 at hb3 hz3 hx3 hr3 ⊢
    clear HD HC HZ HG HFL0 hg hr hA hb2 hz2
    obtain ⟨r0, r1, r2⟩ := cells3 hr3
    have lR := Blk.lt hr3
    go_upto_region 4 with fail
    clear r0 r1 r2 lR
    obtain ⟨w7, rfl, lt⟩ := blk_put hz3
    obtain ⟨pc, pf, pS⟩ := putBlk_facts (w := w7) 71 lt
    go_wp2_with fail
    refine bodyPost_ret (v := .tuple #[zDoc, .int .i64 7]) (by simp [results, Tryd.results53, go_sem, pc]) rfl ?_
    exact HFL.out _ (putBlk_belows hb3 (Nat.le_refl _) _)
  · have hr3 := Blk.ext hr hA
    have hd3 := hd.ext hA
    generalize w2.alloc (.cells #[.int .i64 t, .slice A n c, .slice K m ck] 71) = W3 at hb3 hz3 hx3 hr3 hd3 ⊢
    generalize w2.heap.size = x3 at hx3 ⊢
    obtain ⟨r0, r1, r2⟩ := cells3 hr3
    have lR := Blk.lt hr3
    by_cases hq : s2.data.toList = []
    · have hs2 := str_nil hq
      subst hs2
      have hm := HG.out.2.2 d hn
      have HCK := Lib.hid (check25_any 8 _ d W3 (HT.out W3 hb3) hd3.rd)
      obtain ⟨d0, d1, d2⟩ := cells3 hx3
      have lx := hx3.lt
      have HH := Lib.hid (⟨hb3, hz3, hx3, hd3⟩ : _ ∧ _ ∧ _ ∧ _)
      clear HD HC HZ HG hg hr hA hb2 hz2 hb3 hz3 hx3 hd3 hd hr3 hq hn
      generalize hmd : mayD d = mb at HCK hm
      cases mb
      · have HFL := Lib.hid (fun W h => HFL0.out W h (by rw [hm]; rfl))
        clear hmd hm
        simp only [show okE false = 2 from rfl] at HCK
        go_upto_region 4 with fail
        refine HCK.out.mono ?_
        rintro e w4 ⟨rfl, hb4⟩
        go_upto_region 4 with fail
        clear r0 r1 r2 lR d0 d1 d2 lx
        obtain ⟨w7, rfl, lt⟩ := blk_put (HH.out.2.1.ext hb4)
        obtain ⟨pc, pf, pS⟩ := putBlk_facts (w := w7) 71 lt
        go_wp2_with fail
        refine bodyPost_ret (v := .tuple #[zDoc, .int .i64 7]) (by simp [results, Tryd.results53, go_sem, pc]) rfl ?_
        exact HFL.out _ (putBlk_belows (bt HH.out.1 hb4) (Nat.le_refl _) _)
      · have HOK := Lib.hid (show o = some d by rw [hm]; rfl)
        clear hmd hm
        simp only [show okE true = 0 from rfl] at HCK
        go_upto_region 5 with fail
        refine HCK.out.mono ?_
        rintro e w4 ⟨rfl, hb4⟩
        go_upto_region 5 with fail
        clear r0 r1 r2 lR d0 d1 d2 lx
        obtain ⟨h1, h2, h3, h4⟩ := HH.out
        have hz4 := h2.ext hb4
        have hx4 := h3.ext hb4
        have HD4 := Lib.hid (h4.ext hb4)
        have hb5 := bt h1 hb4
        clear h1 h2 h3 h4 HH hb4
        obtain ⟨w7, rfl, lt⟩ := blk_put hz4
        obtain ⟨pc, pf, pS⟩ := putBlk_facts (w := w7) 71 lt
        obtain ⟨d0, d1, d2⟩ := cells3 hx4
        have lx := hx4.lt
        go_wp2_with fail
        refine bodyPost_ret (v := .tuple #[.agg #[.int .i64 t, .slice A n c, .slice K m ck], .int .i64 0]) (by simp [results, Tryd.results53, go_sem, pc]) rfl ?_
        exact ⟨putBlk_belows hb5 (Nat.le_refl _) _, Or.inr ⟨d, _, HOK.out, rfl, (HD4.out.put (by omega) _).weak (fun b hb _ => by omega)⟩⟩
    · have HFL := Lib.hid (fun W h => HFL0.out W h (HG.out.2.1 d _ hn hq))
      have hne : s2.toList.isEmpty = false := by
        rw [ByteArray.toList_eq]
        cases h : s2.data.toList with
        | nil => exact absurd h hq
        | cons a l => rfl
      clear HD HC HZ HG HFL0 hg hr hA hb2 hz2 hd hd3 hr3 hn hq
      go_upto_region 4 with fail
      clear r0 r1 r2 lR
      obtain ⟨w7, rfl, lt⟩ := blk_put hz3
      obtain ⟨pc, pf, pS⟩ := putBlk_facts (w := w7) 71 lt
      go_wp2_with fail
      refine bodyPost_ret (v := .tuple #[zDoc, .int .i64 7]) (by simp [results, Tryd.results53, go_sem, pc]) rfl ?_
      exact HFL.out _ (putBlk_belows hb3 (Nat.le_refl _) _)
end Go.Proofs.YtjdfodmialhakaaDoor

/- Documents: the document's reader. -/
namespace Go.Proofs.YtjdfodmialhakaaDoor
open Go.RowKit

theorem nextK_suffix {f : List UInt8 → Option (De × List UInt8)} (hf : ∀ l d q, f l = some (d, q) → q <:+ l) : ∀ (n : Nat) (l : List UInt8) (ks : List De) (q : List UInt8), nextK f n l = some (ks, q) → q <:+ l
  | 0, l, ks, q, h => by
    simp only [nextK, Option.some.injEq, Prod.mk.injEq] at h
    rw [← h.2]
    exact List.suffix_refl l
  | n + 1, l, ks, q, h => by
    simp only [nextK] at h
    cases e : f l with
    | none => rw [e] at h; cases h
    | some x =>
      obtain ⟨d, r⟩ := x
      rw [e] at h
      simp only [Option.map_eq_some_iff] at h
      obtain ⟨⟨ds, q'⟩, h1, h2⟩ := h
      simp only [Prod.mk.injEq] at h2
      obtain ⟨rfl, rfl⟩ := h2
      exact (nextK_suffix hf n r ds q' h1).trans (hf l d r e)
theorem nextD_suffix : ∀ (deep : Nat) (l : List UInt8) (d : De) (q : List UInt8), nextD deep l = some (d, q) → q <:+ l
  | 0, l, d, q, h => by simp [nextD] at h
  | deep + 1, [], d, q, h => by simp [nextD] at h
  | deep + 1, c :: r, d, q, h => by
    rw [nextD] at h
    split at h
    · cases h
    · simp only [Option.map_eq_some_iff] at h
      obtain ⟨⟨ds, q'⟩, h1, h2⟩ := h
      simp only [Prod.mk.injEq] at h2
      obtain ⟨_, rfl⟩ := h2
      exact ((nextK_suffix (nextD_suffix deep) _ _ _ _ h1).trans (List.drop_suffix _ _)).trans (List.suffix_cons c r)
theorem nextD_drop {deep : Nat} {l : List UInt8} {d : De} {q : List UInt8} (h : nextD deep l = some (d, q)) : q = l.drop (l.length - q.length) := List.suffix_iff_eq_drop.1 (nextD_suffix deep l d q h)
def NextP (k : Nat) (l : List UInt8) (o : Option (De × List UInt8)) (w : World) (r : Ending) (w' : World) : Prop :=
  Below w.heap.size w w' ∧ ((o = none ∧ r = .returned (.tuple #[zDoc, .int .i64 (-1)])) ∨ (∃ d q v n, o = some (d, q) ∧ r = .returned (.tuple #[v, .int .i64 (n : Nat)]) ∧ n + q.length = l.length ∧ DRp (fun b => w.heap.size ≤ b) k w' v d))
set_option maxRecDepth 100000 in
set_option maxHeartbeats 1600000 in
theorem refnext_none (k : Nat) (s : ByteArray) (w : World) (hs : s = ⟨#[]⟩ ∨ k = 0) (l : List UInt8) :
    Calls Tryd.prog 126 #[.string s, .int .i64 k] w (NextP k l none w) := by
  have hZ : Blk (w.alloc (.cells #[.int .i64 0, .slice none 0 0, .slice none 0 0] 71)) w.heap.size #[.int .i64 0, .slice none 0 0, .slice none 0 0] 71 := (by repeat (first | exact Blk.at (by simp) | assumption | refine Blk.drew ?_ | refine Blk.old ?_ _))
  have hC : Below w.heap.size w (w.alloc (.cells #[.int .i64 0, .slice none 0 0, .slice none 0 0] 71)) := (by repeat (first | exact Below.refl _ _ | assumption | refine Below.drew ?_ | refine below_drewN ?_ _ | refine Below.alloc ?_ (by simp <;> omega) _))
  have HFL := Lib.hid (show ∀ W, Below w.heap.size w W → NextP k l none w (.returned (.tuple #[zDoc, .int .i64 (-1)])) W from fun W h => ⟨h, Or.inl ⟨rfl, rfl⟩⟩)
  have hcond : (s.size : Int) < 1 ∨ (¬ (s.size : Int) < 1 ∧ ((k : Int) == 0) = true) := by
    rcases hs with rfl | rfl
    · exact Or.inl (by decide)
    · by_cases h : (s.size : Int) < 1
      · exact Or.inl h
      · exact Or.inr ⟨h, rfl⟩
  clear hs
  rcases hcond with h | ⟨h, hk⟩
  all_goals
    go_enter Tryd.func126, Tryd.ntmps126
    go_upto_region 2 with fail
    generalize w.alloc (.cells #[.int .i64 0, .slice none 0 0, .slice none 0 0] 71) = W0 at hZ hC ⊢
    obtain ⟨w7, rfl, lt⟩ := blk_put hZ
    obtain ⟨pc, pf, pS⟩ := putBlk_facts (w := w7) 71 lt
    go_wp2_with fail
    refine bodyPost_ret (v := .tuple #[zDoc, .int .i64 (-1)]) (by simp [results, Tryd.results126, go_sem, pc]) rfl ?_
    exact HFL.out _ (putBlk_belows hC (Nat.le_refl _) _)
theorem kids_val {s : ByteArray} {c : UInt8} {r : List UInt8} {m : Nat} (hl : s.data.toList = c :: r) (hm : m + 2 ≤ r.length) : valL (s.extract (m + 1) (m + 3)).data.toList = kidsN (r.drop m) ∧ kidsN (r.drop m) < 65536 ∧ (s.extract (m + 1) (m + 3)).size = 2 := by
  have e1 : (s.extract (m + 1) (m + 3)).data.toList = (r.drop m).take 2 := by
    have := pre_list s (m + 1) 2
    rw [hl, List.drop_succ_cons] at this
    exact this
  have h2 : 2 ≤ (r.drop m).length := by rw [List.length_drop]; omega
  have hsz : s.size = r.length + 1 := (tail_cons hl).2
  match h : r.drop m, h2 with
  | a :: b :: q, _ =>
    rw [e1, h]
    refine ⟨by simp [valL, kidsN], ?_, by rw [ByteArray.size_extract]; omega⟩
    have ha := a.toNat_lt
    have hb := b.toNat_lt
    simp [kidsN]
    omega
/-- The state of a call of next: its result Z, its document X. -/
structure NxI (w : World) (t : Int) (A : Option Addr) (ca : Nat) (row : List V) (Av : Option Addr) (n' cv : Nat) (W : World) : Prop where
  z : Blk W w.heap.size #[.int .i64 0, .slice none 0 0, .slice none 0 0] 71
  x : Blk W (w.heap.size + 1) #[.int .i64 t, .slice A row.length ca, .slice Av n' cv] 71
  o : W.ownsRow (w.heap.size + 2) 24 4 (.slice A row.length ca) row.length (rowCells row)
  b : Below w.heap.size w W
theorem NxI.ext {w : World} {t : Int} {A : Option Addr} {ca : Nat} {row : List V} {Av : Option Addr} {n' cv : Nat} {W W' : World} (h : NxI w t A ca row Av n' cv W) (hb : Below W.heap.size W W') : NxI w t A ca row Av n' cv W' :=
  ⟨h.z.ext hb, h.x.ext hb, own_below h.o hb, bt h.b hb⟩
/-- One more kid. -/
theorem NxI.more {w : World} {k : Nat} {t : Int} {A : Option Addr} {ca : Nat} {row : List V} {Av A2 : Option Addr} {cv cv2 : Nat} {W W2 : World} {ds : List De} {xs : List Value} {d : De} {c0 c1 c2 : Value} {B : Nat} {w7 : World}
    (h : NxI w t A ca row Av ds.length cv W) (hk : KOut (w.heap.size + 2) k W (.slice Av ds.length cv) xs ds) (hB : ∀ g, (Value.slice Av ds.length cv).ownBlock = some g → g < B) (hbB : w.heap.size + 2 ≤ B) (hd : DRp (fun b => B ≤ b) k W (.agg #[c0, c1, c2]) d)
    (hown : W2.ownsRow (w.heap.size + 2) 71 3 (.slice A2 (ds.length + 1) cv2) (ds.length + 1) (xs ++ [c0, c1, c2])) (hg : W.grownBy W2 (Value.slice Av ds.length cv).ownBlock) (hf : ∀ g, (Value.slice A2 (ds.length + 1) cv2).ownBlock = some g → (Value.slice Av ds.length cv).ownBlock = some g ∨ W.heap.size ≤ g)
    (he : W2 = putBlk w7 (w.heap.size + 1) #[.int .i64 t, .slice A row.length ca, .slice Av ds.length cv] 71) (lt : w.heap.size + 1 < w7.heap.size) :
    NxI w t A ca row A2 (ds.length + 1) cv2 (putBlk w7 (w.heap.size + 1) #[.int .i64 t, .slice A row.length ca, .slice A2 (ds.length + 1) cv2] 71) ∧ KOut (w.heap.size + 2) k (putBlk w7 (w.heap.size + 1) #[.int .i64 t, .slice A row.length ca, .slice A2 (ds.length + 1) cv2] 71) (.slice A2 (ds.length + 1) cv2) (xs ++ [c0, c1, c2]) (ds ++ [d]) := by
  have h4 := KOut.snoc hk hB hbB hd hown hg hf
  have hO2 : W2.ownsRow (w.heap.size + 2) 24 4 (.slice A row.length ca) row.length (rowCells row) := own_grown h.o hg (own_apart h.o hk.1 (by decide))
  have hz2 : Blk W2 w.heap.size #[.int .i64 0, .slice none 0 0, .slice none 0 0] 71 := (hg.block _ h.z.lt (fun e => by have := (hk.1.lt _ e.symm).1; omega)).trans h.z
  have hb2 : Below w.heap.size w W2 := h.b.grown hg (by have := h.b.size; omega) (fun g e => by have := (hk.1.lt g e).1; omega)
  subst he
  exact ⟨⟨putBlk_old hz2 (by omega) _, putBlk_blk _ _ lt, own_put hO2 lt (by decide) _, putBlk_belows hb2 (by omega) _⟩, h4.only (put_only _ _ _ _ _) (by omega)⟩
set_option maxRecDepth 100000 in
set_option maxHeartbeats 1600000 in
theorem refnext_go (k : Nat) (s : ByteArray) (w : World) (hT : Tabs w) (hs : s.size ≤ 140737488355328) (hk : k + 1 ≤ 8) (c : UInt8) (r : List UInt8) (hl : s.data.toList = c :: r)
    (IH : ∀ (s : ByteArray) (w : World), Tabs w → s.size ≤ 140737488355328 → Calls Tryd.prog 126 #[.string s, .int .i64 k] w (NextP k s.data.toList (nextD k s.data.toList) w)) :
    Calls Tryd.prog 126 #[.string s, .int .i64 ((k + 1 : Nat) : Int)] w (NextP (k + 1) s.data.toList (nextD (k + 1) s.data.toList) w) := by
  obtain ⟨htl, hsz⟩ := tail_cons hl
  have HT := Lib.hid (fun (W : World) (hW : Below w.heap.size w W) => hT.ext hW)
  have HGR := Lib.hid (fun (W : World) (hW : Below w.heap.size w W) => refgetrow_any (s.extract 1 s.size) W (by rw [ByteArray.size_extract]; omega) (hT.ext hW))
  rw [htl] at HGR
  have HI := Lib.hid IH
  have hC : Below w.heap.size w ((w.alloc (.cells #[.int .i64 0, .slice none 0 0, .slice none 0 0] 71)).alloc (.cells #[.int .i64 c.toNat, .slice none 0 0, .slice none 0 0] 71)) := (by repeat (first | exact Below.refl _ _ | assumption | refine Below.drew ?_ | refine below_drewN ?_ _ | refine Below.alloc ?_ (by simp <;> omega) _))
  have hZ : Blk ((w.alloc (.cells #[.int .i64 0, .slice none 0 0, .slice none 0 0] 71)).alloc (.cells #[.int .i64 c.toNat, .slice none 0 0, .slice none 0 0] 71)) w.heap.size #[.int .i64 0, .slice none 0 0, .slice none 0 0] 71 := (by repeat (first | exact Blk.at (by simp) | assumption | refine Blk.drew ?_ | refine Blk.old ?_ _))
  have hX : Blk ((w.alloc (.cells #[.int .i64 0, .slice none 0 0, .slice none 0 0] 71)).alloc (.cells #[.int .i64 c.toNat, .slice none 0 0, .slice none 0 0] 71)) (w.heap.size + 1) #[.int .i64 c.toNat, .slice none 0 0, .slice none 0 0] 71 := (by repeat (first | exact Blk.at (by simp) | assumption | refine Blk.drew ?_ | refine Blk.old ?_ _))
  have hlt0 : 0 < s.size := by omega
  have hlt1 : ¬ (s.size : Int) < 1 := by omega
  have hn1 : (1 : Int) ≤ s.size := by omega
  have hk1 : (((k : Int) + 1) == 0) = false := by simp; omega
  have hc0 : wrap64 ((s[0]'hlt0).toNat : Int) = c.toNat := by
    rw [idx_at s 0 c (by rw [hl]; rfl) hlt0]
    exact IntWalk.wrap64_in _ (by have := c.toNat_lt; omega)
  have HZ := Lib.hid hZ
  have HX := Lib.hid hX
  have HC := Lib.hid hC
  have HL := Lib.hid hl
  have HSZ := Lib.hid hsz
  have HOD := Lib.hid (show nextD (k + 1) s.data.toList = if (getRow r).1 ≠ 0 ∨ r.length < (getRow r).2.2 + 2 then none else (nextK (nextD k) (kidsN (r.drop (getRow r).2.2)) (r.drop ((getRow r).2.2 + 2))).map fun x => (.mk c.toNat (getRow r).2.1 x.1, x.2) by rw [hl]; rfl)
  clear hT htl IH hC hZ hX hl hsz
  generalize nextD (k + 1) s.data.toList = o at HOD ⊢
  go_enter Tryd.func126, Tryd.ntmps126
  go_upto_region 4 with fail
  generalize ((w.alloc (.cells #[.int .i64 0, .slice none 0 0, .slice none 0 0] 71)).alloc (.cells #[.int .i64 c.toNat, .slice none 0 0, .slice none 0 0] 71)) = W0 at HZ HX HC ⊢
  clear hc0
  go_upto_region 5 with fail
  refine (HGR.out _ HC.out).mono ?_
  rintro e w4 ⟨hb4, ⟨hg0, A, ca, rfl, hown⟩ | ⟨hg0, rfl⟩⟩
  case inr =>
    have HFL := Lib.hid (show ∀ W, Below w.heap.size w W → NextP (k + 1) s.data.toList o w (.returned (.tuple #[zDoc, .int .i64 (-1)])) W from fun W h => ⟨h, Or.inl ⟨by rw [HOD.out, if_pos (Or.inl hg0)], rfl⟩⟩)
    have hz4 := HZ.out.ext hb4
    have hb5 := bt HC.out hb4
    clear HZ HX HC HGR HI HT HOD HL HSZ hb4
    generalize (getRow r).1 = e0 at hg0 ⊢
    have hg1 : (e0 == 0) = false := by simpa using hg0
    go_upto_region 6 with fail
    obtain ⟨w7, rfl, lt⟩ := blk_put hz4
    obtain ⟨pc, pf, pS⟩ := putBlk_facts (w := w7) 71 lt
    go_wp2_with fail
    refine bodyPost_ret (v := .tuple #[zDoc, .int .i64 (-1)]) (by simp [results, Tryd.results126, go_sem, pc]) rfl ?_
    exact HFL.out _ (putBlk_belows hb5 (Nat.le_refl _) _)
  have hb1 : w.heap.size + 2 ≤ W0.heap.size := HX.out.lt
  have HOW := Lib.hid (own_weak hown hb1)
  have hz4 := HZ.out.ext hb4
  have hx4 := HX.out.ext hb4
  have hb5 := bt HC.out hb4
  have hmr : (getRow r).2.2 ≤ s.size := by
    have h1 := (getRow_back hg0).2.2.2.2
    have h2 := HSZ.out
    omega
  have HWF : Hid ((∀ v ∈ (getRow r).2.1, v.wf) ∧ (getRow r).2.1.length ≤ 35184372088832) := by
    have h1 := getRow_back hg0
    have h2 := (row_may h1.1).2.1
    exact ⟨h1.2.1, by omega⟩
  have HG0 := Lib.hid hg0
  clear HZ HX HC HGR hown hb4 hb1 hg0
  by_cases hln : (s.size : Int) < ((getRow r).2.2 : Int) + 3
  · have HFL := Lib.hid (show ∀ W, Below w.heap.size w W → NextP (k + 1) s.data.toList o w (.returned (.tuple #[zDoc, .int .i64 (-1)])) W from fun W h => ⟨h, Or.inl ⟨by rw [HOD.out, if_pos (Or.inr (by have := HSZ.out; omega))], rfl⟩⟩)
    clear HI HT HOD HL HSZ hx4 HOW HWF HG0
    generalize (getRow r).2.2 = m at hln hmr ⊢
    generalize (getRow r).2.1 = rw0
    go_upto_region 6 with fail
    obtain ⟨w7, rfl, lt⟩ := blk_put hz4
    obtain ⟨pc, pf, pS⟩ := putBlk_facts (w := w7) 71 lt
    go_wp2_with fail
    refine bodyPost_ret (v := .tuple #[zDoc, .int .i64 (-1)]) (by simp [results, Tryd.results126, go_sem, pc]) rfl ?_
    exact HFL.out _ (putBlk_belows hb5 (Nat.le_refl _) _)
  · have HO1 := Lib.hid (show o = (nextK (nextD k) (kidsN (r.drop (getRow r).2.2)) (r.drop ((getRow r).2.2 + 2))).map fun x => (.mk c.toNat (getRow r).2.1 x.1, x.2) by rw [HOD.out, if_neg (by rw [HG0.out]; have := HSZ.out; omega)])
    have hm0 : ((getRow r).2.2 : Int) + 3 ≤ s.size := by omega
    clear HOD HG0
    generalize (getRow r).2.2 = m at hln hmr hm0 HO1 ⊢
    generalize (getRow r).2.1 = rw0 at HO1 HOW HWF ⊢
    go_upto_region 7 with fail
    have hmr2 : m + 2 ≤ r.length := by have := HSZ.out; omega
    obtain ⟨hv1, hv2, hv3⟩ := kids_val HL.out hmr2
    have HV := Lib.hid (refvalue2 (s.extract (m + 1) (m + 3)) (by omega) (by omega))
    rw [hv1] at HV
    clear hv1 hv3 hmr2
    generalize hkd : kidsN (r.drop m) = kd at HV HO1 hv2
    clear hkd
    obtain ⟨w7, rfl, lt⟩ := blk_put hx4
    obtain ⟨pc, pf, pS⟩ := putBlk_facts (w := w7) 71 lt
    have HN := Lib.hid (⟨putBlk_old hz4 (by omega) _, putBlk_blk _ _ lt, own_put HOW.out lt (by decide) _, putBlk_belows hb5 (by omega) _⟩ : NxI w c.toNat A ca rw0 none 0 0 (putBlk w7 (w.heap.size + 1) #[.int .i64 c.toNat, .slice A rw0.length ca, .slice none 0 0] 71))
    have hi1 : IntKind.i64.wrap ((m : Int) + 1) = (m : Int) + 1 := IntWalk.i64_in _ (by omega)
    have hi3 : IntKind.i64.wrap ((m : Int) + 3) = (m : Int) + 3 := IntWalk.i64_in _ (by omega)
    have hp1 : 0 ≤ (m : Int) + 1 := by omega
    have hp3 : (m : Int) + 1 ≤ (m : Int) + 3 := by omega
    have ht1 : ((m : Int) + 1).toNat = m + 1 := by omega
    have ht3 : ((m : Int) + 3).toNat = m + 3 := by omega
    have hwk : wrap64 (kd : Int) = kd := IntWalk.wrap64_in _ (by omega)
    clear hz4 hx4 hb5 HOW hln hmr
    go_upto_region 8 with fail
    generalize putBlk w7 (w.heap.size + 1) #[.int .i64 c.toNat, .slice A rw0.length ca, .slice none 0 0] 71 = W5 at HN ⊢
    clear pc pf pS lt w7
    go_upto_region 10 with fail
    refine (HV.out _).mono ?_
    rintro e w5 ⟨rfl, rfl⟩
    go_upto_region 10 with fail
    clear hi1 hp1 hp3 ht1 ht3 hwk HV
    by_cases hks : (s.size : Int) < kd
    · have HFL := Lib.hid (show ∀ W, Below w.heap.size w W → NextP (k + 1) s.data.toList o w (.returned (.tuple #[zDoc, .int .i64 (-1)])) W from fun W h => ⟨h, Or.inl ⟨by
        rw [HO1.out, nextK_many (by rw [List.length_drop]; have := HSZ.out; omega)]; rfl, rfl⟩⟩)
      have hz5 := HN.out.z
      have hb5 := HN.out.b
      clear HN HI HT HO1 HL HSZ HWF
      go_upto_region 11 with fail
      obtain ⟨w7, rfl, lt⟩ := blk_put hz5
      obtain ⟨pc, pf, pS⟩ := putBlk_facts (w := w7) 71 lt
      go_wp2_with fail
      refine bodyPost_ret (v := .tuple #[zDoc, .int .i64 (-1)]) (by simp [results, Tryd.results126, go_sem, pc]) rfl ?_
      exact HFL.out _ (putBlk_belows hb5 (Nat.le_refl _) _)
    · have HD3 := Lib.hid (show r.drop (m + 2) = s.data.toList.drop (m + 3) by rw [HL.out]; rfl)
      rw [HD3.out] at HO1
      obtain ⟨i0, hi0, hz0, hz1, hz2⟩ := info_parts info_D
      go_wp2_with fail
      go_loopw [11, 12] (fun a i wr => ∃ (j at_ : Nat) (ds : List De) (Av : Option Addr) (cv : Nat) (xs : List Value), i = .int .i64 j ∧ a = .int .i64 at_ ∧ j ≤ kd ∧ at_ ≤ s.size ∧ Hid (ds.length = j) ∧ Hid (NxI w c.toNat A ca rw0 Av ds.length cv wr) ∧ Hid (KOut (w.heap.size + 2) k wr (.slice Av ds.length cv) xs ds) ∧
        Hid (nextK (nextD k) kd (s.data.toList.drop (m + 3)) = (nextK (nextD k) (kd - j) (s.data.toList.drop at_)).map fun x => (ds ++ x.1, x.2))) (fun _ i _ => kd - (intOf i).toNat)
      case atStart => exact ⟨0, m + 3, [], none, 0, [], rfl, rfl, by omega, by omega, rfl, HN.out, ⟨World.ownsRow_nil _ _ _ _, KCells.nil _⟩, by show _ = _; simp⟩
      case round =>
        obtain ⟨j, at_, ds, Av, cv, xs, rfl, rfl, hj, hat, HDL, HNr, HKr, HE⟩ := hrel
        by_cases hlt : j < kd
        · have hlt' : (j : Int) < kd := by omega
          have hai : (at_ : Int) ≤ s.size := by omega
          have ha0 : (0 : Int) ≤ at_ := by omega
          have hk1' : IntKind.i64.wrap ((k : Int) + 1 - 1) = k := by
            rw [show (k : Int) + 1 - 1 = k by omega]
            exact IntWalk.i64_in _ (by omega)
          have HCL := Lib.hid (HI.out (s.extract at_ s.size) wr (HT.out wr HNr.out.b) (by rw [ByteArray.size_extract]; omega))
          rw [tail_list] at HCL
          have hjk : kd - j = (kd - (j + 1)) + 1 := by omega
          have HJK := Lib.hid hjk
          clear hjk
          go_upto_region 16 with fail
          refine HCL.out.mono ?_
          rintro e w6 ⟨hb6, ⟨hn, rfl⟩ | ⟨d, q, v, n, hn, rfl, hnl, hd⟩⟩
          · have HFL := Lib.hid (show ∀ W, Below w.heap.size w W → NextP (k + 1) s.data.toList o w (.returned (.tuple #[zDoc, .int .i64 (-1)])) W from fun W h => ⟨h, Or.inl ⟨by rw [HO1.out, HE.out, HJK.out, nextK_none hn]; rfl, rfl⟩⟩)
            have hA : Below w6.heap.size w6 (w6.alloc (.cells #[.int .i64 0, .slice none 0 0, .slice none 0 0] 71)) := (by repeat (first | exact Below.refl _ _ | assumption | refine Below.drew ?_ | refine below_drewN ?_ _ | refine Below.alloc ?_ (by simp <;> omega) _))
            have hz6 := (HNr.out.ext hb6).z.ext hA
            have hb7 := (HNr.out.ext (bt hb6 hA)).b
            clear HCL hb6 HNr HKr HE HDL HI HT HO1 HL HSZ HWF HN HD3
            go_upto_region 17 with fail
            generalize w6.alloc (.cells #[.int .i64 0, .slice none 0 0, .slice none 0 0] 71) = W7 at hz6 hb7 ⊢
            clear hA
            obtain ⟨w7, rfl, lt⟩ := blk_put hz6
            obtain ⟨pc, pf, pS⟩ := putBlk_facts (w := w7) 71 lt
            go_wp2_with fail
            refine bodyPost_ret (v := .tuple #[zDoc, .int .i64 (-1)]) (by simp [results, Tryd.results126, go_sem, pc]) rfl ?_
            exact HFL.out _ (putBlk_belows hb7 (Nat.le_refl _) _)
          · obtain ⟨A', ca', K', ck', rfl⟩ := hd.cells
            have hA : Below w6.heap.size w6 (w6.alloc (.cells #[.int .i64 d.tb, .slice A' d.row.length ca', .slice K' d.kids.length ck'] 71)) := (by repeat (first | exact Below.refl _ _ | assumption | refine Below.drew ?_ | refine below_drewN ?_ _ | refine Below.alloc ?_ (by simp <;> omega) _))
            have hX7 := Blk.new w6 #[.int .i64 d.tb, .slice A' d.row.length ca', .slice K' d.kids.length ck'] 71
            have HN7 := Lib.hid ((HNr.out.ext hb6).ext hA)
            have HK7 := Lib.hid ((HKr.out.ext hb6).ext hA)
            have HD7 := Lib.hid (hd.ext hA)
            have hnl' : n + q.length = s.size - at_ := by
              rw [List.length_drop] at hnl
              have : s.data.toList.length = s.size := by simp
              omega
            have hq : q = s.data.toList.drop (at_ + n) := by
              have h1 := nextD_drop hn
              rw [h1, List.drop_drop]
              congr 1
              have : s.data.toList.length = s.size := by simp
              rw [List.length_drop]
              omega
            have HST : Hid (nextK (nextD k) kd (s.data.toList.drop (m + 3)) = (nextK (nextD k) (kd - (j + 1)) (s.data.toList.drop (at_ + n))).map fun x => ((ds ++ [d]) ++ x.1, x.2)) := by
              show _ = _
              rw [HE.out, HJK.out, nextK_step hn, Option.map_map, hq]
              congr 1
              funext x
              simp
            have han : at_ + n ≤ s.size := by omega
            have hwn : IntKind.i64.wrap ((at_ : Int) + n) = (at_ : Int) + n := IntWalk.i64_in _ (by omega)
            have hn0 : ¬ (n : Int) < 0 := by omega
            have hwr : w.heap.size + 2 ≤ wr.heap.size := HNr.out.x.lt
            have HLT := Lib.hid (fun g hg => (HKr.out.1.lt g hg).2)
            have hsz7 : wr.heap.size ≤ (w6.alloc (.cells #[.int .i64 d.tb, .slice A' d.row.length ca', .slice K' d.kids.length ck'] 71)).heap.size := Nat.le_trans hb6.size hA.size
            clear HCL hb6 hA hd hn hnl hnl' hq HE HJK HNr HKr
            go_upto_region 18 with fail
            generalize w6.alloc (.cells #[.int .i64 d.tb, .slice A' d.row.length ca', .slice K' d.kids.length ck'] 71) = W7 at hX7 HN7 HK7 HD7 hsz7 ⊢
            generalize w6.heap.size = kb at hX7 ⊢
            obtain ⟨g0, g1, g2⟩ := cells3 hX7
            have lg := hX7.lt
            obtain ⟨x0, x1, x2⟩ := cells3 HN7.out.x
            have lx := HN7.out.x.lt
            have hA8 : Below W7.heap.size W7 (W7.alloc (.cells #[.int .i64 d.tb, .slice A' d.row.length ca', .slice K' d.kids.length ck'] 71)) := (by repeat (first | exact Below.refl _ _ | assumption | refine Below.drew ?_ | refine below_drewN ?_ _ | refine Below.alloc ?_ (by simp <;> omega) _))
            have HN8 := Lib.hid (HN7.out.ext hA8)
            have HK8 := Lib.hid (HK7.out.ext hA8)
            have HD8 := Lib.hid (HD7.out.ext hA8)
            have hdb : ds.length < 65536 := by have := HDL.out; omega
            clear hX7 HN7 HK7 HD7
            go_wp2_with (at_builtin; refine wpList_append_fresh _ rfl _ _ 69 rfl (w.heap.size + 2) 71 i0 _ 3 56 Tryd.underlying69 hi0 hz0 hz1 hz2 rfl (by decide) (.slice Av ds.length cv) ds.length xs rfl HK8.out.1 ⟨W7.heap.size, 0, none⟩ 1 1 [.int .i64 d.tb, .slice A' d.row.length ca', .slice K' d.kids.length ck'] rfl rfl (cells_new3 _ _ _ _ _) (by simp [Value.oneCell']) ?b1 ?b2 ?b3 ?_)
            case b1 => simp only [maxLen]; omega
            case b2 => omega
            case b3 => have := hA8.size; omega
            intro v9 w9 hown9 hg9 hfr9
            obtain ⟨A9, c9, rfl⟩ := own_form' hown9
            have hD9 : Blk w9 (w.heap.size + 1) #[.int .i64 c.toNat, .slice A rw0.length ca, .slice Av ds.length cv] 71 := (hg9.block _ HN8.out.x.lt (fun e => by have := (HK8.out.1.lt _ e.symm).1; omega)).trans HN8.out.x
            obtain ⟨wq, rfl, lt⟩ := blk_put hD9
            obtain ⟨pc, pf, pS⟩ := putBlk_facts (w := wq) 71 lt
            have HMR := Lib.hid (NxI.more HN8.out HK8.out HLT.out hwr HD8.out hown9 hg9 (fun g hg => by have := hfr9 g hg; simpa using this) rfl lt)
            clear HN8 HK8 HD8 hown9 hg9 hfr9 hD9 g0 g1 g2 lg x0 x1 x2 lx hA8 HLT
            go_wp2_with fail
            go_roundw
            case rel => exact ⟨j + 1, at_ + n, ds ++ [d], A9, c9, _, by go_num, by go_num, by omega, han, by show _ = _; rw [List.length_append, HDL.out]; rfl, by rw [List.length_append]; exact HMR.out.1, by rw [List.length_append]; exact HMR.out.2, HST.out⟩
            case measure => simp [intOf]; omega
        · have hlt' : ¬ (j : Int) < kd := by omega
          obtain rfl : j = kd := by omega
          have hoo : o = some (.mk c.toNat rw0 ds, s.data.toList.drop at_) := by
            rw [HO1.out, HE.out, Nat.sub_self]
            simp [nextK]
          have HOO := Lib.hid hoo
          have hz := HNr.out.z
          have hx := HNr.out.x
          have hbw := HNr.out.b
          have hge := own_ge HNr.out.o
          have hvr := (VRow.of_own HWF.out.1 HWF.out.2 HNr.out.o).1
          obtain ⟨⟨hkr, _⟩, hkb⟩ := KRow.of_own HKr.out.1 HKr.out.2 (by have := HDL.out; omega)
          have hdr : DRp (fun b => w.heap.size + 1 ≤ b) (k + 1) wr (.agg #[.int .i64 c.toNat, .slice A rw0.length ca, .slice Av ds.length cv]) (.mk c.toNat rw0 ds) := by
            refine ⟨A, ca, Av, cv, rfl, by have := c.toNat_lt; show -9223372036854775808 ≤ (c.toNat : Int) ∧ (c.toNat : Int) ≤ _; omega, ⟨hvr, fun b off e _ => ?_⟩, ⟨hkr.mono (fun _ _ h => h.weak (fun b hb _ => by have := hb.1; omega)), fun b off e hl => ?_⟩⟩
            · have := hge b (by rw [e]; rfl)
              omega
            · have := hkb b off e hl
              omega
          have HDR := Lib.hid hdr
          clear hoo hdr hkr hkb hvr hge HNr HKr HE HO1 HN HD3 HI HT hlt
          go_upto_region 20 with fail
          obtain ⟨w7, rfl, lt⟩ := blk_put hz
          obtain ⟨pc, pf, pS⟩ := putBlk_facts (w := w7) 71 lt
          obtain ⟨d0, d1, d2⟩ := cells3 hx
          have lx := hx.lt
          go_wp2_with fail
          refine bodyPost_ret (v := .tuple #[.agg #[.int .i64 c.toNat, .slice A rw0.length ca, .slice Av ds.length cv], .int .i64 (at_ : Nat)]) (by simp [results, Tryd.results126, go_sem, pc]) rfl ?_
          exact ⟨putBlk_belows hbw (Nat.le_refl _) _, Or.inr ⟨_, _, _, at_, HOO.out, rfl, by rw [List.length_drop]; simp; omega, (HDR.out.put (by omega) _).weak (fun b hb _ => by omega)⟩⟩
end Go.Proofs.YtjdfodmialhakaaDoor

/- Documents: the document's Get. -/
namespace Go.Proofs.YtjdfodmialhakaaDoor
open Go.RowKit

theorem refnext_any : ∀ (k : Nat) (s : ByteArray) (w : World), Tabs w → s.size ≤ 140737488355328 → k ≤ 8 →
    Calls Tryd.prog 126 #[.string s, .int .i64 k] w (NextP k s.data.toList (nextD k s.data.toList) w)
  | 0, s, w, _, _, _ => refnext_none 0 s w (Or.inr rfl) _
  | k + 1, s, w, hT, hs, hk => by
    cases hl : s.data.toList with
    | nil => exact refnext_none (k + 1) s w (Or.inl (str_nil hl)) _
    | cons c r =>
      have := refnext_go k s w hT hs hk c r hl (fun s2 w2 hT2 hs2 => refnext_any k s2 w2 hT2 hs2 (by omega))
      rw [hl] at this
      exact this
set_option maxRecDepth 100000 in
set_option maxHeartbeats 1600000 in
theorem refgetdoc_any (s : ByteArray) (w : World) (hT : Tabs w) (hs : s.size ≤ 140737488355328) :
    Calls Tryd.prog 54 #[.string s] w (GetDP (getDoc s.data.toList) w) := by
  have hC : Below w.heap.size w (w.alloc (.cells #[.int .i64 0, .slice none 0 0, .slice none 0 0] 71)) := (by repeat (first | exact Below.refl _ _ | assumption | refine Below.drew ?_ | refine below_drewN ?_ _ | refine Below.alloc ?_ (by simp <;> omega) _))
  have hZ : Blk (w.alloc (.cells #[.int .i64 0, .slice none 0 0, .slice none 0 0] 71)) w.heap.size #[.int .i64 0, .slice none 0 0, .slice none 0 0] 71 := (by repeat (first | exact Blk.at (by simp) | assumption | refine Blk.drew ?_ | refine Blk.old ?_ _))
  have HD := Lib.hid (refnext_any 8 s _ (hT.ext hC) hs (by omega))
  have HT := Lib.hid (fun (W : World) (hW : Below w.heap.size w W) => hT.ext hW)
  have HC := Lib.hid hC
  have HZ := Lib.hid hZ
  have hlen : s.data.toList.length = s.size := by simp
  have HL := Lib.hid hlen
  have HG := Lib.hid (⟨fun h => getDoc_none h, fun d q h hq => getDoc_more h hq, fun d h => getDoc_all h⟩ : (nextD 8 s.data.toList = none → getDoc s.data.toList = none) ∧ (∀ d q, nextD 8 s.data.toList = some (d, q) → q ≠ [] → getDoc s.data.toList = none) ∧ (∀ d, nextD 8 s.data.toList = some (d, []) → getDoc s.data.toList = if mayD d then some d else none))
  clear hC hZ hT hlen
  generalize getDoc s.data.toList = o at HG ⊢
  generalize nextD 8 s.data.toList = o1 at HG HD
  go_enter Tryd.func54, Tryd.ntmps54
  go_upto_region 1 with fail
  generalize w.alloc (.cells #[.int .i64 0, .slice none 0 0, .slice none 0 0] 71) = W0 at HD HC HZ ⊢
  have hZs := HZ.out.lt
  go_upto_region 2 with fail
  refine HD.out.mono ?_
  have HFL0 := Lib.hid (show ∀ W, Below w.heap.size w W → o = none → GetDP o w (.returned (.tuple #[zDoc, .int .i64 7])) W from fun W h e => ⟨h, Or.inl ⟨e, rfl⟩⟩)
  rintro e w2 ⟨hb2, ⟨hn, rfl⟩ | ⟨d, q, v, n, hn, rfl, hnl, hd⟩⟩
  · have HFL := Lib.hid (fun W h => HFL0.out W h (HG.out.1 hn))
    have hA : Below w2.heap.size w2 (w2.alloc (.cells #[.int .i64 0, .slice none 0 0, .slice none 0 0] 71)) := (by repeat (first | exact Below.refl _ _ | assumption | refine Below.drew ?_ | refine below_drewN ?_ _ | refine Below.alloc ?_ (by simp <;> omega) _))
    have hz3 := HZ.out.ext (bt hb2 hA)
    have hb3 := bt HC.out (bt hb2 hA)
    have hne : ((-1 : Int) == (s.size : Int)) = false := by rw [beq_eq_false_iff_ne]; omega
    clear HD HC HZ HG HFL0 hb2
    go_upto_region 3 with fail
    generalize w2.alloc (.cells #[.int .i64 0, .slice none 0 0, .slice none 0 0] 71) = W3 at hb3 hz3 ⊢
    clear hA
    obtain ⟨w7, rfl, lt⟩ := blk_put hz3
    obtain ⟨pc, pf, pS⟩ := putBlk_facts (w := w7) 71 lt
    go_wp2_with fail
    refine bodyPost_ret (v := .tuple #[zDoc, .int .i64 7]) (by simp [results, Tryd.results54, go_sem, pc]) rfl ?_
    exact HFL.out _ (putBlk_belows hb3 (Nat.le_refl _) _)
  · obtain ⟨A, c, K, m, rfl⟩ := hd.cells
    have hA : Below w2.heap.size w2 (w2.alloc (.cells #[.int .i64 d.tb, .slice A d.row.length c, .slice K d.kids.length m] 71)) := (by repeat (first | exact Below.refl _ _ | assumption | refine Below.drew ?_ | refine below_drewN ?_ _ | refine Below.alloc ?_ (by simp <;> omega) _))
    have hx3 := Blk.new w2 #[.int .i64 d.tb, .slice A d.row.length c, .slice K d.kids.length m] 71
    have hz3 := HZ.out.ext (bt hb2 hA)
    have hb3 := bt HC.out (bt hb2 hA)
    have hd3 := hd.ext hA
    by_cases hq : q = []
    · subst hq
      have hm := HG.out.2.2 d hn
      obtain rfl : n = s.size := by have h1 := HL.out; simp only [List.length_nil] at hnl; omega
      have HCK := Lib.hid (may25_any 8 _ d _ (HT.out _ hb3) hd3.rd)
      have HH := Lib.hid (⟨hb3, hz3, hx3, hd3⟩ : _ ∧ _ ∧ _ ∧ _)
      clear HD HC HZ HG hA hb2 hb3 hz3 hx3 hd3 hd hnl hn
      go_upto_region 2 with fail
      generalize w2.alloc (.cells #[.int .i64 d.tb, .slice A d.row.length c, .slice K d.kids.length m] 71) = W3 at HCK HH ⊢
      generalize w2.heap.size = x3 at HH ⊢
      obtain ⟨d0, d1, d2⟩ := cells3 HH.out.2.2.1
      have lx := HH.out.2.2.1.lt
      generalize hmd : mayD d = mb at HCK hm
      cases mb
      · have HFL := Lib.hid (fun W h => HFL0.out W h (by rw [hm]; rfl))
        clear hmd hm
        go_upto_region 3 with fail
        refine HCK.out.mono ?_
        rintro e w4 ⟨rfl, hb4⟩
        go_upto_region 3 with fail
        clear d0 d1 d2 lx
        obtain ⟨w7, rfl, lt⟩ := blk_put (HH.out.2.1.ext hb4)
        obtain ⟨pc, pf, pS⟩ := putBlk_facts (w := w7) 71 lt
        go_wp2_with fail
        refine bodyPost_ret (v := .tuple #[zDoc, .int .i64 7]) (by simp [results, Tryd.results54, go_sem, pc]) rfl ?_
        exact HFL.out _ (putBlk_belows (bt HH.out.1 hb4) (Nat.le_refl _) _)
      · have HOK := Lib.hid (show o = some d by rw [hm]; rfl)
        clear hmd hm
        go_upto_region 4 with fail
        refine HCK.out.mono ?_
        rintro e w4 ⟨rfl, hb4⟩
        go_upto_region 4 with fail
        clear d0 d1 d2 lx
        obtain ⟨h1, h2, h3, h4⟩ := HH.out
        have hz4 := h2.ext hb4
        have hx4 := h3.ext hb4
        have HD4 := Lib.hid (h4.ext hb4)
        have hb5 := bt h1 hb4
        clear h1 h2 h3 h4 HH hb4
        obtain ⟨w7, rfl, lt⟩ := blk_put hz4
        obtain ⟨pc, pf, pS⟩ := putBlk_facts (w := w7) 71 lt
        obtain ⟨d0, d1, d2⟩ := cells3 hx4
        have lx := hx4.lt
        go_wp2_with fail
        refine bodyPost_ret (v := .tuple #[.agg #[.int .i64 d.tb, .slice A d.row.length c, .slice K d.kids.length m], .int .i64 0]) (by simp [results, Tryd.results54, go_sem, pc]) rfl ?_
        exact ⟨putBlk_belows hb5 (Nat.le_refl _) _, Or.inr ⟨d, _, HOK.out, rfl, (HD4.out.put (by omega) _).weak (fun b hb _ => by omega)⟩⟩
    · have HFL := Lib.hid (fun W h => HFL0.out W h (HG.out.2.1 d _ hn hq))
      have hne : ((n : Int) == (s.size : Int)) = false := by
        have h1 := HL.out
        have h2 := List.length_pos_iff.2 hq
        rw [beq_eq_false_iff_ne]
        omega
      have hne2 : ¬ n = s.size := by rw [beq_eq_false_iff_ne] at hne; omega
      have hne3 : (n == s.size) = false := by rw [beq_eq_false_iff_ne]; exact hne2
      clear HD HC HZ HG HFL0 hb2 hd hd3 hn hq hnl
      go_upto_region 3 with fail
      generalize w2.alloc (.cells #[.int .i64 d.tb, .slice A d.row.length c, .slice K d.kids.length m] 71) = W3 at hb3 hz3 ⊢
      clear hA hx3
      obtain ⟨w7, rfl, lt⟩ := blk_put hz3
      obtain ⟨pc, pf, pS⟩ := putBlk_facts (w := w7) 71 lt
      go_wp2_with fail
      refine bodyPost_ret (v := .tuple #[zDoc, .int .i64 7]) (by simp [results, Tryd.results54, go_sem, pc]) rfl ?_
      exact HFL.out _ (putBlk_belows hb3 (Nat.le_refl _) _)
end Go.Proofs.YtjdfodmialhakaaDoor

/- Documents: the chapter's example. -/
namespace Go.Proofs.YtjdfodmialhakaaDoor
open Go.RowKit

def d25 : De := .mk 0 [V0] []
theorem d25_may : mayD d25 = true := by
  unfold mayD
  rw [fits_eq]
  decide
theorem d25_put : putD d25 = [0, 1, 0, 0, 0] := by
  rw [putD_eq]
  decide
theorem d25_get : getDoc [0, 1, 0, 0, 0] = some d25 := by
  have h : nextD 8 [0, 1, 0, 0, 0] = some (d25, []) := by kernel_rfl
  rw [getDoc_all h, d25_may]
  rfl
theorem d25_bad : getDoc [0, 1, 0, 1, 0] = none := by
  have h : nextD 8 [0, 1, 0, 1, 0] = none := by kernel_rfl
  exact getDoc_none h
theorem d25_rows : (rowsD d25).length = 1 := by
  rw [rowsD_eq]
  rfl
theorem z25_may : mayD (.mk 0 [] []) = false := by
  unfold mayD
  rw [fits_eq]
  decide
theorem d25_size : 0 < sizeD d25 := by decide
theorem V0_wf25 : V0.wf := by unfold V.wf; decide
theorem d25_rd (w : World) : DRd 1 (w.alloc (.cells #[.int .u8 0, .int .i64 0, .int .u64 0, .string ⟨#[]⟩] 24)) (.agg #[.int .i64 0, .slice (some ⟨w.heap.size, 0, none⟩) 1 1, .slice none 0 0]) d25 := by
  have h := World.ownsRow_lit (e := 24) (size := 4) (base := w.heap.size) w #[.int .u8 0, .int .i64 0, .int .u64 0, .string ⟨#[]⟩] 1 (Nat.le_refl _) (by decide) rfl
  have hv := (VRow.of_own (l := [V0]) (by intro v hv; simp only [List.mem_singleton] at hv; subst hv; exact V0_wf25) (by decide) h).1
  exact ⟨_, 1, none, 0, rfl, by decide, hv, by decide, fun h => absurd rfl h⟩
set_option maxRecDepth 100000 in
set_option maxHeartbeats 1600000 in
theorem alive25_any (w : World) (hT : Tabs w) : Calls Tryd.prog 42 #[] w fun r w' => r = .returned (.bool true) ∧ Below w.heap.size w w' := by
  have hC : Below w.heap.size w ((w.alloc (.cells #[.int .u8 0, .int .i64 0, .int .u64 0, .string ⟨#[]⟩] 24)).alloc (.cells #[.int .i64 0, .slice (some ⟨w.heap.size, 0, none⟩) 1 1, .slice none 0 0] 71)) := (by repeat (first | exact Below.refl _ _ | assumption | refine Below.drew ?_ | refine below_drewN ?_ _ | refine Below.alloc ?_ (by simp <;> omega) _))
  have hD : DRd 1 ((w.alloc (.cells #[.int .u8 0, .int .i64 0, .int .u64 0, .string ⟨#[]⟩] 24)).alloc (.cells #[.int .i64 0, .slice (some ⟨w.heap.size, 0, none⟩) 1 1, .slice none 0 0] 71)) (.agg #[.int .i64 0, .slice (some ⟨w.heap.size, 0, none⟩) 1 1, .slice none 0 0]) d25 := (d25_rd w).ext (by repeat (first | exact Below.refl _ _ | assumption | refine Below.drew ?_ | refine below_drewN ?_ _ | refine Below.alloc ?_ (by simp <;> omega) _))
  have hX : Blk ((w.alloc (.cells #[.int .u8 0, .int .i64 0, .int .u64 0, .string ⟨#[]⟩] 24)).alloc (.cells #[.int .i64 0, .slice (some ⟨w.heap.size, 0, none⟩) 1 1, .slice none 0 0] 71)) (w.heap.size + 1) #[.int .i64 0, .slice (some ⟨w.heap.size, 0, none⟩) 1 1, .slice none 0 0] 71 := (by repeat (first | exact Blk.at (by simp) | assumption | refine Blk.drew ?_ | refine Blk.old ?_ _))
  have HT := Lib.hid (fun (W : World) (hW : Below w.heap.size w W) => hT.ext hW)
  clear hT
  go_enter Tryd.func42, Tryd.ntmps42
  go_upto_region 2 with fail
  generalize ((w.alloc (.cells #[.int .u8 0, .int .i64 0, .int .u64 0, .string ⟨#[]⟩] 24)).alloc (.cells #[.int .i64 0, .slice (some ⟨w.heap.size, 0, none⟩) 1 1, .slice none 0 0] 71)) = W1 at hC hD hX ⊢
  have HC := Lib.hid hC
  have HD := Lib.hid hD
  have HX := Lib.hid hX
  have HP := Lib.hid (put25_yes 1 _ d25 W1 (HT.out W1 hC) hD d25_may)
  rw [d25_put] at HP
  clear hC hD hX
  obtain ⟨x0, x1, x2⟩ := cells3 HX.out
  have lx := HX.out.lt
  go_upto_region 3 with fail
  refine HP.out.mono ?_
  rintro e w2 ⟨rfl, hb2⟩
  have HC := Lib.hid (bt HC.out hb2)
  have HD := Lib.hid (HD.out.ext hb2)
  have HX := Lib.hid (HX.out.ext hb2)
  have HG := Lib.hid (getdoc_any ⟨#[0, 1, 0, 0, 0]⟩ w2 (HT.out w2 HC.out) (by decide))
  rw [show (⟨#[0, 1, 0, 0, 0]⟩ : ByteArray).data.toList = [0, 1, 0, 0, 0] from rfl, d25_get] at HG
  clear hb2 HP x0 x1 x2 lx
  go_upto_region 3 with fail
  go_upto_region 4 with fail
  refine HG.out.mono ?_
  rintro e w3 ⟨hb3, ⟨h, _⟩ | ⟨d, v, hd, rfl, hv⟩⟩
  · cases h
  obtain rfl : d25 = d := Option.some.inj hd
  obtain ⟨A3, c3, K3, m3, rfl⟩ := hv.cells
  have hA3 : Below w3.heap.size w3 (w3.alloc (.cells #[.int .i64 d25.tb, .slice A3 d25.row.length c3, .slice K3 d25.kids.length m3] 71)) := (by repeat (first | exact Below.refl _ _ | assumption | refine Below.drew ?_ | refine below_drewN ?_ _ | refine Below.alloc ?_ (by simp <;> omega) _))
  have hx3 := Blk.new w3 #[.int .i64 d25.tb, .slice A3 d25.row.length c3, .slice K3 d25.kids.length m3] 71
  have HC := Lib.hid (bt (bt HC.out hb3) hA3)
  have HD := Lib.hid ((HD.out.ext hb3).ext hA3)
  have HX := Lib.hid ((HX.out.ext hb3).ext hA3)
  have HV := Lib.hid (hv.rd.ext hA3)
  clear hb3 hd HG hv hA3
  go_upto_region 4 with fail
  generalize w3.alloc (.cells #[.int .i64 d25.tb, .slice A3 d25.row.length c3, .slice K3 d25.kids.length m3] 71) = W3 at HC HD HX HV hx3 ⊢
  generalize w3.heap.size = x3 at hx3 ⊢
  have HG := Lib.hid (getdoc_any ⟨#[0, 1, 0, 1, 0]⟩ W3 (HT.out W3 HC.out) (by decide))
  rw [show (⟨#[0, 1, 0, 1, 0]⟩ : ByteArray).data.toList = [0, 1, 0, 1, 0] from rfl, d25_bad] at HG
  have HX3 := Lib.hid hx3
  clear hx3
  go_upto_region 5 with fail
  refine HG.out.mono ?_
  rintro e w4 ⟨hb4, ⟨_, rfl⟩ | ⟨d, v, h, _⟩⟩
  case inr => cases h
  have hA4 : Below w4.heap.size w4 (w4.alloc (.cells #[.int .i64 0, .slice none 0 0, .slice none 0 0] 71)) := (by repeat (first | exact Below.refl _ _ | assumption | refine Below.drew ?_ | refine below_drewN ?_ _ | refine Below.alloc ?_ (by simp <;> omega) _))
  have HC := Lib.hid (bt (bt HC.out hb4) hA4)
  have HD := Lib.hid ((HD.out.ext hb4).ext hA4)
  have HX := Lib.hid ((HX.out.ext hb4).ext hA4)
  have HX3 := Lib.hid ((HX3.out.ext hb4).ext hA4)
  have HV := Lib.hid ((HV.out.ext hb4).ext hA4)
  clear hb4 hA4 HG
  go_upto_region 5 with fail
  generalize w4.alloc (.cells #[.int .i64 0, .slice none 0 0, .slice none 0 0] 71) = W4 at HC HD HX HV HX3 ⊢
  generalize w4.heap.size = x4
  have HR := Lib.hid (rows25_yes 1 _ d25 W4 (HT.out W4 HC.out) HD.out d25_may)
  obtain ⟨x0, x1, x2⟩ := cells3 HX.out
  have lx := HX.out.lt
  go_upto_region 6 with fail
  refine HR.out.mono ?_
  rintro e w5 ⟨A5, c5, xs5, rfl, _, _, hb5⟩
  rw [d25_rows]
  have HC := Lib.hid (bt HC.out hb5)
  have HD := Lib.hid (HD.out.ext hb5)
  have HX := Lib.hid (HX.out.ext hb5)
  have HX3 := Lib.hid (HX3.out.ext hb5)
  have HV := Lib.hid (HV.out.ext hb5)
  clear hb5 HR x0 x1 x2 lx
  have HSM := Lib.hid (Same24_any 8 1 _ _ d25 w5 HV.out HD.out d25_size)
  have HCK := Lib.hid (fun (W : World) (hW : Below w5.heap.size w5 W) => check25_any 1 (.agg #[.int .i64 0, .slice none 0 0, .slice none 0 0]) (.mk 0 [] []) W (HT.out W (bt HC.out hW)) ⟨none, 0, none, 0, rfl, by decide, ⟨by simp [De.row], by simp [De.row], fun h => absurd rfl h⟩, by simp [De.kids], fun h => absurd rfl h⟩)
  rw [z25_may] at HCK
  simp only [show okE false = 2 from rfl] at HCK
  obtain ⟨x0, x1, x2⟩ := cells3 HX.out
  obtain ⟨y0, y1, y2⟩ := cells3 HX3.out
  have lx := HX.out.lt
  have ly := HX3.out.lt
  go_wp2_with fail
  refine HSM.out.mono ?_
  rintro e w6 ⟨rfl, hb6⟩
  have HCK6 := Lib.hid (HCK.out w6 hb6)
  have HB6 : Hid (Below w.heap.size w w6) := bt HC.out hb6
  clear HSM HCK hb6 x0 x1 x2 y0 y1 y2 lx ly
  go_wp2_with fail
  refine HCK6.out.mono ?_
  rintro e w7 ⟨rfl, hb7⟩
  have HB7 : Hid (Below w.heap.size w w7) := bt HB6.out hb7
  clear hb7
  go_wp2_with fail
  go_ret
  exact ⟨rfl, HB7.out⟩
end Go.Proofs.YtjdfodmialhakaaDoor
