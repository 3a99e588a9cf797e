/- Joined texts. -/
import Derived.Test.YtfekohonidggjaaGreatDoorR6
namespace Go.Proofs.YtfekohonidggjaaGreatDoor
open Go.RowKit
set_option maxRecDepth 100000
set_option maxHeartbeats 6400000
def RdBr (b base : Nat) (st : Ls) (n : Nat) (w : World) : Prop := ∃ T A kT L C kL, Blk w b (rdArr (.slice A T.length kT) (.slice C L.length kL) st n) 91 ∧ RdI base T A kT L C kL w ∧ T.map Ta.z = st.ts ∧ L.map (·.a) = st.l
theorem RdBr.ext {b base n : Nat} {st : Ls} {w w' : World} (h : RdBr b base st n w) (hb : Below w.heap.size w w') : RdBr b base st n w' := by
 obtain ⟨T, A, kT, L, C, kL, h1, h2, h3, h4⟩ := h
 exact ⟨T, A, kT, L, C, kL, h1.ext hb, h2.ext hb, h3, h4⟩
def LineR (st : Ls) (l : List UInt8) (b base B : Nat) (w : World) (r : Ending) (w' : World) : Prop :=
 Below B w w' ∧ Oth b w w' ∧ ((∃ st', lineF st l = some st' ∧ r = .returned (.bool true) ∧ RdBr b base st' (st.n + 1) w') ∨ (lineF st l = none ∧ r = .returned (.bool false) ∧ ∃ a c x, Blk w' b (rdArr a c x (st.n + 1)) 91))
def TabRr (st : Ls) (t : Ta) (b base B : Nat) (L : List Am) (C : Option Addr) (kL : Nat) (cs : Array Value) (w : World) (v : Value) (w' : World) : Prop :=
 ∃ T A c, v = .slice A (List.length T) c ∧ Blk w' b cs 91 ∧ RdI base T A c L C kL w' ∧ T.map Ta.z = st.ts ++ [t.z] ∧ Below B w w' ∧ Oth b w w'
def ActR (st : Ls) (a : Ac) (b base B : Nat) (T : List Ta) (A : Option Addr) (kT : Nat) (cs : Array Value) (w : World) (v : Value) (w' : World) : Prop :=
 ∃ L C c, v = .slice C (List.length L) c ∧ Blk w' b cs 91 ∧ RdI base T A kT L C c w' ∧ L.map (·.a) = st.l ++ [a] ∧ Below B w w' ∧ Oth b w w'
theorem TabRr.mk' {st : Ls} {b base B : Nat} {T : List Ta} {A : Option Addr} {kT : Nat} {L : List Am} {C : Option Addr} {kL : Nat} {cs : Array Value} {w w2 w8 : World} {t : Ta} {g c : Nat}
  (hbb : b < base) (hB : B ≤ b) (htw : t.wf) (hI : RdI base T A kT L C kL w) (hb2 : Below w.heap.size w w2) (hk : Blk w b cs 91) (hc : CRow w2 t.A t.cs) (hP : FreC base A C t.A) (hT : T.map Ta.z = st.ts) (hBw : B ≤ w.heap.size)
  (hown : w8.ownsRow base 66 5 (.slice (some ⟨g, 0, none⟩) (T.length + 1) c) (T.length + 1) (tcells T ++ tcells [t])) (hg : w2.grownBy w8 (Value.slice A T.length kT).ownBlock) (hat : (Value.slice A T.length kT).ownBlock = some g ∨ g = w2.heap.size) :
  TabRr st t b base B L C kL cs w (.slice (some ⟨g, 0, none⟩) (T.length + 1) c) w8 := by
 have hI2 := hI.ext hb2
 have hge := own_ge hI2.oT
 refine ⟨T ++ [t], some ⟨g, 0, none⟩, c, by rw [List.length_append]; rfl, ?_, ?_, ?_, ?_, ?_⟩
 · exact blk_grown (hk.ext hb2) hg (fun e => by have := hge b e; omega)
 · exact hI2.addT (t := t) htw hc (fun _ => hP) hown hg hat
 · rw [List.map_append, hT]
   rfl
 · exact ((hb2.mono hBw)).grown hg (by have := hb2.size; omega) (fun q hq => by have := hge q hq; omega)
 · exact (Oth.below hb2).trans (Oth.own hI2.oT hg (Or.inl rfl))
theorem ActR.mk' {st : Ls} {b base B : Nat} {T : List Ta} {A : Option Addr} {kT : Nat} {L : List Am} {C : Option Addr} {kL : Nat} {cs : Array Value} {w w2 w8 : World} {a : Ac} {P : Option Addr} {k g c : Nat}
  (hbb : b < base) (hB : B ≤ b) (htw : a.wf) (hI : RdI base T A kT L C kL w) (hb2 : Below w.heap.size w w2) (hk : Blk w b cs 91) (hc : VRow w2 P a.row) (hP : FreC base A C P) (hT : L.map (·.a) = st.l) (hBw : B ≤ w.heap.size)
  (hown : w8.ownsRow base 42 8 (.slice (some ⟨g, 0, none⟩) (L.length + 1) c) (L.length + 1) (acells L ++ acells [⟨a, P, k⟩])) (hg : w2.grownBy w8 (Value.slice C L.length kL).ownBlock) (hat : (Value.slice C L.length kL).ownBlock = some g ∨ g = w2.heap.size) :
  ActR st a b base B T A kT cs w (.slice (some ⟨g, 0, none⟩) (L.length + 1) c) w8 := by
 have hI2 := hI.ext hb2
 have hge := own_ge hI2.oL
 refine ⟨L ++ [⟨a, P, k⟩], some ⟨g, 0, none⟩, c, by rw [List.length_append]; rfl, ?_, ?_, ?_, ?_, ?_⟩
 · exact blk_grown (hk.ext hb2) hg (fun e => by have := hge b e; omega)
 · exact hI2.addL (x := ⟨a, P, k⟩) htw hc (fun _ => hP) hown hg hat
 · rw [List.map_append, hT]
   rfl
 · exact ((hb2.mono hBw)).grown hg (by have := hb2.size; omega) (fun q hq => by have := hge q hq; omega)
 · exact (Oth.below hb2).trans (Oth.own hI2.oL hg (Or.inr rfl))
theorem vrow_gr {w w' : World} {A : Option Addr} {l : List V} {b : Nat} (h : VRow w A l) (hg : w.grownBy w' (some b)) (hA : ∀ p, A = some p → b < p.block) : VRow w' A l :=
 h.same hg.size fun _ p hp hl => hg.block _ hl (by have := hA p hp; simp; omega)
theorem refhead_any (st : Ls) (hn : st.n < 3) (hI : HdI st) (s : ByteArray) (hs : s.size ≤ 1000000) (A : Option Addr) (nT kT : Nat) (c : Value) (N b : Nat) (w : World) (hB : Blk w b (rdArr (.slice A nT kT) c st N) 91) :
  Calls Tryz.prog 91 #[.pointer (some ⟨b, 0, none⟩), .int .i64 st.n, .string s] w (HeadR st s.data.toList (.slice A nT kT) c N b w) := by
 have h : st.n = 0 ∨ st.n = 1 ∨ st.n = 2 := by omega
 rcases h with h | h | h
 · have := refhead_0 st h hI s hs A nT kT c N b w hB
   rw [h]
   exact this
 · have := refhead_1 st h hI s hs A nT kT c N b w hB
   rw [h]
   exact this
 · have := refhead_2 st h hI s hs A nT kT c N b w hB
   rw [h]
   exact this
theorem sch_cols {ts : List Ta} {t : Ta} (h : schB (ts ++ [t]) = true) : t.cs.length ≤ 8 := by
 unfold schB at h
 simp only [Bool.and_eq_true] at h
 have h1 := pre_at (j := ts.length) (t := t) h.2.1 (by simp) (by simp)
 unfold tabB at h1
 simp only [Bool.and_eq_true] at h1
 exact (cols_parts h1.1).1.2
theorem bodyF_noT {st : Ls} {l : List UInt8} (h : st.acts = true ∨ readT l = none ∨ (∀ t, readT l = some t → 8 < t.cs.length) ) : bodyF st l = if st.ts.length = 0 then none else match readA l with
  | some a => some { st with l := st.l ++ [a], n := st.n + 1, acts := true }
  | none => none := by
 have base : (if st.acts = true then none else readT l) = none → bodyF st l = if st.ts.length = 0 then none else match readA l with
  | some a => some { st with l := st.l ++ [a], n := st.n + 1, acts := true }
  | none => none := fun e => by
  unfold bodyF
  rw [e]
  simp only
  split
  · rfl
  · cases readA l <;> rfl
 by_cases ha : st.acts = true
 · exact base (if_pos ha)
 cases hr : readT l with
 | none => exact base (by rw [if_neg ha]; exact hr)
 | some t =>
  rcases h with h | h | h
  · exact absurd h ha
  · rw [hr] at h; cases h
  · have h8 := h t hr
    have hs : schB (st.ts ++ [t]) = false := by
     cases e : schB (st.ts ++ [t]) with
     | false => rfl
     | true => have := sch_cols e; omega
    have hra := readA_prefix (readT_prefix hr)
    unfold bodyF
    rw [if_neg ha, hr, hra]
    simp only [hs, Bool.false_eq_true, if_false]
    split <;> rfl
theorem bodyF_yesT {st : Ls} {l : List UInt8} {t : Ta} (ha : st.acts = false) (h : readT l = some t) : bodyF st l = if schB (st.ts ++ [t]) then some { st with ts := st.ts ++ [t], n := st.n + 1 } else none := by
 unfold bodyF
 rw [ha]
 simp only [Bool.false_eq_true, if_false, h]
theorem refline_any (st : Ls) (hHI : HdI st) (s : ByteArray) (hs : s.size ≤ 999999) (b base B : Nat) (hBb : B ≤ b) (hbb : b < base) (w : World) (hL : ∀ W, Below B w W → LayS W) (hR : RdBr b base st st.n w) (ht : st.ts.length ≤ 99) (hl : st.l.length ≤ 4294967000) (hnb : st.n ≤ 4294967000) :
  Calls Tryz.prog 50 #[.pointer (some ⟨b, 0, none⟩), .string s] w (LineR st s.data.toList b base B w) := by
 obtain ⟨T, A, kT, L, C, kL, hk, hI, hTz, hLa⟩ := hR
 have hBw : B ≤ w.heap.size := by have := hk.lt; omega
 have HTE : Hid (T.length = st.ts.length) := by show _ = _; rw [← hTz]; simp
 have HLE : Hid (L.length = st.l.length) := by show _ = _; rw [← hLa]; simp
 have hsl : s.data.toList.length ≤ 140737488355328 := by
  have : s.data.toList.length = s.size := by simp
  omega
 have HSL := hd_ hsl
 have HTZ := hd_ hTz
 have HLA := hd_ hLa
 have HL := hd_ hL
 have HHI := hd_ hHI
 have hk : Blk w b #[.slice A T.length kT, .int .i64 st.seg, .int .i64 st.bd, .int .i64 st.r0, .int .i64 st.r1, .int .i64 st.r2, .slice C L.length kL, .int .i64 st.n, .bool st.acts] 91 := hk
 obtain ⟨wv, hwv, lt⟩ := blk_put hk
 obtain ⟨pc', pf, pS⟩ := putBlk_facts (w := wv) 91 lt
 have HK1 := hd_ (putBlk_blk (w := wv) (b := b) #[.slice A T.length kT, .int .i64 st.seg, .int .i64 st.bd, .int .i64 st.r0, .int .i64 st.r1, .int .i64 st.r2, .slice C L.length kL, .int .i64 ((st.n : Int) + 1), .bool st.acts] 91 lt)
 have hgr : w.grownBy (putBlk wv b #[.slice A T.length kT, .int .i64 st.seg, .int .i64 st.bd, .int .i64 st.r0, .int .i64 st.r1, .int .i64 st.r2, .slice C L.length kL, .int .i64 ((st.n : Int) + 1), .bool st.acts] 91) (some b) := by
  rw [hwv]
  exact gr_put wv b _ _ _
 have HI1 := hd_ (hI.gr hgr hbb)
 have HB1 := hd_ (gr_low hgr hBb hBw)
 have HO1 := hd_ (Oth.gr hgr)
 have hw1 : IntKind.i64.wrap ((st.n : Int) + 1) = (st.n : Int) + 1 := by rw [IntKind.wrap_i64]; omega
 clear hk hI hTz hLa hL hHI hsl hgr
 suffices hall : ∀ wz, wz = w → Calls Tryz.prog 50 #[.pointer (some ⟨b, 0, none⟩), .string s] w (LineR st s.data.toList b base B wz) from hall w rfl
 intro wz hwz
 have HQE := hd_ hwz
 clear hwz
 go_enter Tryz.func50, Tryz.ntmps50
 rw [hwv]
 clear hwv
 go_upto_region 3 with fail
 clear pc' pf pS lt
 generalize putBlk wv b #[.slice A T.length kT, .int .i64 st.seg, .int .i64 st.bd, .int .i64 st.r0, .int .i64 st.r1, .int .i64 st.r2, .slice C L.length kL, .int .i64 ((st.n : Int) + 1), .bool st.acts] 91 = w1 at HK1 HI1 HB1 HO1 ⊢
 by_cases hn : st.n < 3
 · have hnI : (st.n : Int) < 3 := by omega
   have HD := hd_ (refhead_any st hn HHI.out s (by omega) A T.length kT (.slice C L.length kL) (st.n + 1) b w1 HK1.out)
   have HLF : Hid (lineF st s.data.toList = headF st s.data.toList) := by show _ = _; unfold lineF; rw [if_pos hn]
   clear hn hw1
   go_wp2_with fail
   refine HD.out.mono ?_
   rintro r w2 hq
   rcases hq with ⟨st', h1, rfl, hg, hk1⟩ | ⟨h1, rfl, hg, x, hk1⟩
   · have HQ : Hid (LineR st s.data.toList b base B w (.returned (.bool true)) w2) := by
      obtain ⟨e1, e2, e3⟩ := headF_keeps h1
      refine ⟨HB1.out.trans (gr_low hg hBb (by have := HB1.out.size; omega)), HO1.out.trans (Oth.gr hg), Or.inl ⟨st', by rw [HLF.out]; exact h1, rfl, ?_⟩⟩
      exact ⟨T, A, kT, L, C, kL, hk1, HI1.out.gr hg hbb, by rw [e1]; exact HTZ.out, by rw [e2]; exact HLA.out⟩
     clear h1 hg hk1
     go_wp2_with fail
     go_ret
     rw [HQE.out]; exact HQ.out
   · have HQ : Hid (LineR st s.data.toList b base B w (.returned (.bool false)) w2) :=
      ⟨HB1.out.trans (gr_low hg hBb (by have := HB1.out.size; omega)), HO1.out.trans (Oth.gr hg), Or.inr ⟨by rw [HLF.out]; exact h1, rfl, _, _, x, hk1⟩⟩
     clear h1 hg hk1
     go_wp2_with fail
     go_ret
     rw [HQE.out]; exact HQ.out
 · have hnI : ¬ (st.n : Int) < 3 := by omega
   have HLF : Hid (lineF st s.data.toList = bodyF st s.data.toList) := by show _ = _; unfold lineF; rw [if_neg hn]
   obtain ⟨i0, hi0, hz0, hz1, hz2⟩ := info_parts info_act
   clear hn hw1
   obtain ⟨bl, y0, y1, y2, y3, y4, y5, y6, y7, y8⟩ := blk9 HK1.out
   go_upto_if 33 with fail
   go_cut [] (fun wx => Hid (bodyF st s.data.toList = if st.ts.length = 0 then none else match readA s.data.toList with
    | some a => some { st with l := st.l ++ [a], n := st.n + 1, acts := true }
    | none => none) ∧ Hid (Blk wx b #[.slice A T.length kT, .int .i64 st.seg, .int .i64 st.bd, .int .i64 st.r0, .int .i64 st.r1, .int .i64 st.r2, .slice C L.length kL, .int .i64 ((st.n : Int) + 1), .bool st.acts] 91) ∧ Hid (RdI base T A kT L C kL wx) ∧ Hid (Below B w wx) ∧ Hid (Oth b w wx))
   case first =>
    cases hac : st.acts with
    | true =>
     have HBA := hd_ (bodyF_noT (l := s.data.toList) (Or.inl hac))
     rw [hac] at y8
     clear hac
     clear bl y0 y1 y2 y3 y4 y5 y6 y7 y8
     go_wp2_with fail
     go_meet
     exact ⟨HBA, HK1, HI1, HB1, HO1⟩
    | false =>
     have HAC := hd_ hac
     have HKs := HK1
     rw [hac] at HK1 y8
     clear hac
     have HRT := hd_ (refreadTable_any s (by omega) w1)
     go_wp2_with fail
     refine HRT.out.mono ?_
     rintro r w2 ⟨hr, hb2⟩
     clear HRT bl y0 y1 y2 y3 y4 y5 y6 y7 y8
     rcases hr with ⟨t, P, pc, hrt, hcl, rfl, hcr, hpb⟩ | ⟨hno, nm, P, n0, pc, k0, q0, p0, rfl⟩
     · obtain ⟨hzz, ⟨htw, _⟩, _⟩ := (readT_some HSL.out).1 hrt
       have HBA := hd_ (bodyF_yesT HAC.out hrt)
       have HTW : Hid ((t.at_ P pc).wf) := htw
       have HZZ := hd_ hzz
       clear htw hzz hrt hcl
       have hbn : Below w2.heap.size w2 (w2.alloc (.cells #[.string t.nm, .slice P t.cs.length pc, .int .i64 t.key, .int .i64 t.ref, .int .i64 t.par] 66)) := bel1 _ _
       have hb' := bt hb2 hbn
       have HK3 := hd_ (HK1.out.ext hb')
       have HI3 := hd_ (HI1.out.ext hb')
       have HB3 := hd_ (HB1.out.trans (hb'.mono (by have := HB1.out.size; omega)))
       have HO3 := hd_ (HO1.out.trans (Oth.below hb'))
       have HC3 := hd_ (hcr.ext hbn)
       have HA3 := hd_ (Blk.new w2 #[.string t.nm, .slice P t.cs.length pc, .int .i64 t.key, .int .i64 t.ref, .int .i64 t.par] 66)
       have HFR : Hid (FreC base A C P) := FreC.of HI1.out hpb
       unfold Ta.at_ Ta.cells
       simp only
       clear hbn hb' hb2 hcr hpb
       obtain ⟨j0, hj0, hx0, hx1, hx2⟩ := info_parts info_tabT
       go_upto_region 8 with fail
       generalize w2.alloc (.cells #[.string t.nm, .slice P t.cs.length pc, .int .i64 t.key, .int .i64 t.ref, .int .i64 t.par] 66) = w3 at HK3 HI3 HB3 HO3 HC3 HA3 ⊢
       generalize w2.heap.size = qa at HA3 ⊢
       have hB3 : B ≤ w3.heap.size := by have := HB3.out.size; omega
       refine region_app 14 9 _ [false, false, false, false, false, false, false, false, false, false, false, false, false, false, false, false, false, false, false, false, false, false, false, false, false, false, false, false, false, false, false, false, false, false, false, false, false, false, false, false, true, true, true, true, true, true, true, true, true, true, true, true, true, true, false, false, false, false, false, false, false, false, false, false, false, false, false, false, false, false, false, false, false, false, false, false, false, false, false, false, false, false, false, false, false, false, false, false, false, false] [40, 41, 42, 43, 44, 45, 46, 47, 48, 49, 50, 51, 52, 53] [.val (.pointer (some ⟨b, 0, none⟩)), .val (.pointer (some ⟨b, 0, none⟩)), .val (.pointer (some ⟨b, 0, none⟩)), .val (.pointer (some ⟨b, 0, none⟩)), .val (.pointer (some ⟨b, 0, none⟩)), .val (.pointer (some ⟨b, 0, none⟩)), .val (.slice A T.length kT), .val (.agg #[.string t.nm, .slice P t.cs.length pc, .int .i64 t.key, .int .i64 t.ref, .int .i64 t.par]), .new (fun g => .slice (some ⟨g, 0, none⟩) 1 1) #[.string t.nm, .slice P t.cs.length pc, .int .i64 t.key, .int .i64 t.ref, .int .i64 t.par] 66, kAny, .val (.pointer (some ⟨b, 0, none⟩)), .val (.pointer (some ⟨b, 0, none⟩)), .val (.pointer (some ⟨b, 0, none⟩)), .val (.pointer (some ⟨b, 0, none⟩))] [0, 10, 11, 12, 13] (fun _ => True) (TabRr st (t.at_ P pc) b base B L C kL #[.slice A T.length kT, .int .i64 st.seg, .int .i64 st.bd, .int .i64 st.r0, .int .i64 st.r1, .int .i64 st.r2, .slice C L.length kL, .int .i64 ((st.n : Int) + 1), .bool false] w3) [6, 8] [13] (fun _ _ => trivial) (fun _ _ _ => trivial) (by kernel_rfl) rfl rfl (by omega) (by kernel_rfl) (by kernel_rfl) (by kernel_rfl) rfl rfl rfl (by kernel_rfl) (by kernel_rfl) (by kernel_rfl) (by kernel_rfl) ⟨?_, ?_, ?_, ?_, ?_, ?_, ?_, ?_, ?_, ?app, ?_, ?_, ?_, ?_, trivial⟩ ?done
       case app =>
        intro x w4 hb4
        simp only [StepGoal, List.getD_cons_zero, List.getD_cons_succ]
        intro bq hq K hK
        rw [if_pos (by rfl)]
        simp only [overlay, upd, cond_true, cond_false, Nat.reduceEqDiff, reduceIte]
        have hI4 := HI3.out.ext hb4
        refine wp_append_lies w4 (.tmp 46) (.tmp 48) 22 rfl base 66 j0 _ 5 64 Tryz.underlying22 hj0 hx0 hx1 hx2 rfl (by decide) (.slice A T.length kT) T.length (tcells T) rfl hI4.oT ⟨bq, 0, none⟩ 1 1 (tcells [t.at_ P pc]) rfl rfl (cells_blkL (l := tcells [t.at_ P pc]) hq) (by simp [tcells, Value.oneCell']) (by decide) (by have := HTE.out; simp only [maxLen]; omega) (by have := HTE.out; omega) hI4.hb _ rfl ?_
        intro g8 c8 w8 hown8 hg8 hat8 _
        exact hK.out _ _ (TabRr.mk' hbb hBb HTW.out HI3.out hb4 HK3.out (HC3.out.ext hb4) HFR.out HTZ.out hB3 hown8 hg8 hat8)
       case done =>
        rintro x w4 v4 ⟨T', A', c', rfl, hB', hI', hT', hbw', ho'⟩
        simp only [StepGoal, List.getD_cons_zero, List.getD_cons_succ]
        intro K hK
        obtain ⟨w3, rfl, lt⟩ := blk_put hB'
        obtain ⟨pc, pf, pS⟩ := putBlk_facts (w := w3) 91 lt
        have HBN := hd_ (putBlk_blk (w := w3) (b := b) #[.slice A' T'.length c', .int .i64 st.seg, .int .i64 st.bd, .int .i64 st.r0, .int .i64 st.r1, .int .i64 st.r2, .slice C L.length kL, .int .i64 ((st.n : Int) + 1), .bool false] 91 lt)
        have HIN := hd_ (hI'.gr (gr_put w3 b #[.slice A T.length kT, .int .i64 st.seg, .int .i64 st.bd, .int .i64 st.r0, .int .i64 st.r1, .int .i64 st.r2, .slice C L.length kL, .int .i64 ((st.n : Int) + 1), .bool false] #[.slice A' T'.length c', .int .i64 st.seg, .int .i64 st.bd, .int .i64 st.r0, .int .i64 st.r1, .int .i64 st.r2, .slice C L.length kL, .int .i64 ((st.n : Int) + 1), .bool false] 91) hbb)
        have HBW := hd_ (putBlk_belows hbw' hBb #[.slice A' T'.length c', .int .i64 st.seg, .int .i64 st.bd, .int .i64 st.r0, .int .i64 st.r1, .int .i64 st.r2, .slice C L.length kL, .int .i64 ((st.n : Int) + 1), .bool false])
        have HOT := hd_ (ho'.trans (Oth.gr (gr_put w3 b #[.slice A T.length kT, .int .i64 st.seg, .int .i64 st.bd, .int .i64 st.r0, .int .i64 st.r1, .int .i64 st.r2, .slice C L.length kL, .int .i64 ((st.n : Int) + 1), .bool false] #[.slice A' T'.length c', .int .i64 st.seg, .int .i64 st.bd, .int .i64 st.r0, .int .i64 st.r1, .int .i64 st.r2, .slice C L.length kL, .int .i64 ((st.n : Int) + 1), .bool false] 91)))
        clear hB' hI' hbw' ho'
        rw [if_pos (by rfl)]; simp only [overlay, upd, cond_true, cond_false, Nat.reduceEqDiff, reduceIte]
        go_simp
        refine hK.out _ _ ?_
        clear hK pc pf pS lt
        generalize putBlk w3 b #[.slice A' T'.length c', .int .i64 st.seg, .int .i64 st.bd, .int .i64 st.r0, .int .i64 st.r1, .int .i64 st.r2, .slice C L.length kL, .int .i64 ((st.n : Int) + 1), .bool false] 91 = W2 at HBN HIN HBW HOT ⊢
        have HCK := hd_ (refmay_any T' A' c' W2 (HIN.out.trow (by
         have := congrArg List.length hT'
         simp only [List.length_map, List.length_append, List.length_cons, List.length_nil] at this
         omega)))
        have HT := hd_ hT'
        have HSC : Hid (schB (st.ts ++ [t]) = schB T') := by
         show _ = _
         rw [← sch_z T', hT']
         show schB (st.ts ++ [t]) = schB (st.ts ++ [t.z])
         rw [← HZZ.out]
        clear hT'
        obtain ⟨bl, y0, y1, y2, y3, y4, y5, y6, y7, y8⟩ := blk9 HBN.out
        go_wp2_with fail
        refine HCK.out.mono ?_
        rintro r w9 ⟨rfl, hb9⟩
        have HB9 := hd_ ((HB3.out.trans HBW.out).trans (hb9.mono (by have := HBW.out.size; omega)))
        have HO9 := hd_ ((HO3.out.trans HOT.out).trans (Oth.below hb9))
        have HK9 := hd_ (HBN.out.ext hb9)
        have HI9 := hd_ (HIN.out.ext hb9)
        have HQ : Hid (LineR st s.data.toList b base B w (.returned (.bool (schB T'))) w9) := by
         refine ⟨HB9.out, HO9.out, ?_⟩
         rw [HLF.out, HBA.out, HSC.out]
         cases schB T' with
         | true =>
          refine Or.inl ⟨_, rfl, rfl, T', A', c', L, C, kL, ?_, HI9.out, ?_, HLA.out⟩
          · have h9 := HK9.out
            unfold rdArr
            simp only [HAC.out]
            exact h9
          · rw [HT.out]
            show st.ts ++ [t.z] = st.ts ++ [t]
            rw [← HZZ.out]
         | false =>
          refine Or.inr ⟨rfl, rfl, .slice A' T'.length c', .slice C L.length kL, { st with acts := false }, HK9.out⟩
        clear hb9 bl y0 y1 y2 y3 y4 y5 y6 y7 y8 HB9 HO9 HK9 HI9
        go_wp2_with fail
        go_ret
        rw [HQE.out]; exact HQ.out
       all_goals
        intro x w4 hb4
        first
         | (intro K hK
            have hk4 := HK3.out.ext hb4
            obtain ⟨bl, y0, y1, y2, y3, y4, y5, y6, y7, y8⟩ := blk9 hk4
            have ha4 := HA3.out.ext hb4
            have tl := ha4.lt
            obtain ⟨t0, t1, t2, t3, t4⟩ := blk5 ha4
            rw [if_pos (by rfl)]; simp only [overlay, upd, k_1, k_2, k_3, k_4, Nat.reduceEqDiff, reduceIte]
            go_simp
            first
             | exact hK.out _ _ (Below.refl _ _) rfl
             | exact hK.out _ rfl
             | exact hK.out _ _ (bel1 _ _) ⟨_, rfl, Blk.new _ _ _⟩)
         | ((first | change StepGoal _ _ _ _ [] x | change StepGoal _ _ _ _ [0, 0] x | change StepGoal _ _ _ _ [10, 0] x | change StepGoal _ _ _ _ [11, 0] x | change StepGoal _ _ _ _ [12, 0] x)
            simp only [StepGoal, List.getD_cons_zero, List.getD_cons_succ]
            intro K hK
            rw [if_pos (by rfl)]; simp only [overlay, upd, cond_true, cond_false, Nat.reduceEqDiff, reduceIte]
            go_simp
            exact hK.out _ rfl)
     · have HBA := hd_ (bodyF_noT (st := st) (l := s.data.toList) (Or.inr (Or.inr hno)))
       clear hno
       have hbn : Below w2.heap.size w2 (w2.alloc (.cells #[.string nm, .slice P n0 pc, .int .i64 k0, .int .i64 q0, .int .i64 p0] 66)) := bel1 _ _
       have hb' := bt hb2 hbn
       have HK3 := hd_ (HK1.out.ext hb')
       have HI3 := hd_ (HI1.out.ext hb')
       have HB3 := hd_ (HB1.out.trans (hb'.mono (by have := HB1.out.size; omega)))
       have HO3 := hd_ (HO1.out.trans (Oth.below hb'))
       have HK4 := hd_ (HKs.out.ext hb')
       clear hbn hb' hb2 HK1 HI1 HB1 HO1 HK3
       go_wp2_with fail
       go_meet
       exact ⟨HBA, HK4, HI3, HB3, HO3⟩
   case rest =>
    clear HK1 HI1 HB1 HO1 bl y0 y1 y2 y3 y4 y5 y6 y7 y8
    obtain ⟨HBA, HK1, HI1, HB1, HO1⟩ := hcut
    have hB1 : B ≤ wc.heap.size := by have := HB1.out.size; omega
    have HRA := hd_ (refreadact_any s (by omega) wc (HL.out _ HB1.out))
    cases hra : readA s.data.toList with
    | none =>
     have HN : Hid (lineF st s.data.toList = none) := by
      show _ = _
      rw [HLF.out, HBA.out, hra]
      split <;> rfl
     rw [hra] at HRA
     have HRA : Hid (Calls Tryz.prog 20 #[.string s] wc fun r w' => r = .returned (.tuple #[.agg #[.int .u8 0, .int .u8 0, .int .i64 0, .slice none 0 0, .int .i64 0, .int .i64 0, .int .i64 0, .string ⟨#[]⟩], .int .i64 310]) ∧ Below wc.heap.size wc w') := HRA
     clear hra
     go_wp2_with fail
     refine HRA.out.mono ?_
     rintro r wa ⟨rfl, hba⟩
     have hbn : Below wa.heap.size wa (wa.alloc (.cells #[.int .u8 0, .int .u8 0, .int .i64 0, .slice none 0 0, .int .i64 0, .int .i64 0, .int .i64 0, .string ⟨#[]⟩] 42)) := bel1 _ _
     have hb' := bt hba hbn
     have HQ : Hid (LineR st s.data.toList b base B w (.returned (.bool false)) (wa.alloc (.cells #[.int .u8 0, .int .u8 0, .int .i64 0, .slice none 0 0, .int .i64 0, .int .i64 0, .int .i64 0, .string ⟨#[]⟩] 42))) := ⟨HB1.out.trans (hb'.mono hB1), HO1.out.trans (Oth.below hb'), Or.inr ⟨HN.out, rfl, .slice A T.length kT, .slice C L.length kL, { st with acts := st.acts }, HK1.out.ext hb'⟩⟩
     clear hba hbn hb' HRA
     go_upto_region 11 with fail
     generalize wa.alloc (.cells #[.int .u8 0, .int .u8 0, .int .i64 0, .slice none 0 0, .int .i64 0, .int .i64 0, .int .i64 0, .string ⟨#[]⟩] 42) = wu at HQ ⊢
     go_wp2_with fail
     go_ret
     rw [HQE.out]; exact HQ.out
    | some a =>
     rw [hra] at HRA
     obtain ⟨haw, -⟩ := (readA_some HSL.out).1 hra
     have HAW := hd_ haw
     have HRAS := hd_ hra
     clear hra haw
     go_wp2_with fail
     refine HRA.out.mono ?_
     rintro r wa ⟨⟨P, pc, rfl, hvr, hpb⟩, hba⟩
     obtain ⟨ad, ak, atb, row, an, am, aq, anm⟩ := a
     unfold Ac.agg
     simp only at hvr ⊢
     have hbn : Below wa.heap.size wa (wa.alloc (.cells #[.int .u8 ad, .int .u8 ak, .int .i64 atb, .slice P row.length pc, .int .i64 an, .int .i64 am, .int .i64 aq, .string anm] 42)) := bel1 _ _
     have hb' := bt hba hbn
     have HKu := hd_ (HK1.out.ext hb')
     have HAu := hd_ (Blk.new wa #[.int .u8 ad, .int .u8 ak, .int .i64 atb, .slice P row.length pc, .int .i64 an, .int .i64 am, .int .i64 aq, .string anm] 42)
     have HVu := hd_ (hvr.ext hbn)
     have HBu := hd_ hb'
     have HPB := hd_ hpb
     have hau : b < wa.heap.size := by have := HK1.out.lt; have := hba.size; omega
     clear hba hbn hb' hvr hpb HRA
     go_upto_region 11 with fail
     generalize wa.alloc (.cells #[.int .u8 ad, .int .u8 ak, .int .i64 atb, .slice P row.length pc, .int .i64 an, .int .i64 am, .int .i64 aq, .string anm] 42) = wu at HKu HAu HVu HBu ⊢
     generalize wa.heap.size = qa at hau HAu ⊢
     obtain ⟨bl, y0, y1, y2, y3, y4, y5, y6, y7, y8⟩ := blk9 HKu.out
     by_cases hT0 : T.length = 0
     · have hT0I : (T.length : Int) = 0 := by omega
       have HQ : Hid (LineR st s.data.toList b base B w (.returned (.bool false)) wu) := ⟨HB1.out.trans (HBu.out.mono hB1), HO1.out.trans (Oth.below HBu.out), Or.inr ⟨by rw [HLF.out, HBA.out, if_pos (show st.ts.length = 0 by rw [← HTE.out]; exact hT0)], rfl, .slice A T.length kT, .slice C L.length kL, { st with acts := st.acts }, HKu.out⟩⟩
       clear hT0
       go_wp2_with fail
       go_ret
       rw [HQE.out]; exact HQ.out
     · have HT0 : Hid (¬ st.ts.length = 0) := by show ¬ _; rw [← HTE.out]; exact hT0
       have hT0I : ¬ ((T.length : Int) = 0) := by omega
       have hT0J : ((T.length : Int) == 0) = false := by simp; exact fun e => hT0 (by rw [e]; rfl)
       clear hT0
       obtain ⟨wv, hwv, lt⟩ := blk_put HKu.out
       obtain ⟨pc', pf, pS⟩ := putBlk_facts (w := wv) 91 lt
       have HKv := hd_ (putBlk_blk (w := wv) (b := b) #[.slice A T.length kT, .int .i64 st.seg, .int .i64 st.bd, .int .i64 st.r0, .int .i64 st.r1, .int .i64 st.r2, .slice C L.length kL, .int .i64 ((st.n : Int) + 1), .bool true] 91 lt)
       have hgr : wu.grownBy (putBlk wv b #[.slice A T.length kT, .int .i64 st.seg, .int .i64 st.bd, .int .i64 st.r0, .int .i64 st.r1, .int .i64 st.r2, .slice C L.length kL, .int .i64 ((st.n : Int) + 1), .bool true] 91) (some b) := by
        rw [hwv]
        exact gr_put wv b _ _ _
       have hwn : wu.heap.size = (putBlk wv b #[.slice A T.length kT, .int .i64 st.seg, .int .i64 st.bd, .int .i64 st.r0, .int .i64 st.r1, .int .i64 st.r2, .slice C L.length kL, .int .i64 ((st.n : Int) + 1), .bool true] 91).heap.size := by simp only [hwv, putBlk_size]
       have HIv := hd_ ((HI1.out.ext HBu.out).gr hgr hbb)
       have HBv := hd_ ((HB1.out.trans (HBu.out.mono hB1)).trans (gr_low hgr hBb (by have := HBu.out.size; omega)))
       have HOv := hd_ ((HO1.out.trans (Oth.below HBu.out)).trans (Oth.gr hgr))
       have HAv := hd_ (blk_grown HAu.out hgr (by simp; omega))
       have HVv := hd_ (vrow_gr HVu.out hgr (fun p hp => by have := HPB.out p hp; have := HK1.out.lt; omega))
       have HFv : Hid (∀ p, P = some p → wc.heap.size ≤ p.block) := HPB.out
       have HFR : Hid (FreC base A C P) := FreC.of HI1.out HPB.out
       clear y0 y1 y2 y3 y4 y5 y6 y7 y8 bl hgr HKu HAu HVu HBu
       rw [hwv]
       clear hwv
       go_upto_region 14 with fail
       clear pc' pf pS lt
       generalize putBlk wv b #[.slice A T.length kT, .int .i64 st.seg, .int .i64 st.bd, .int .i64 st.r0, .int .i64 st.r1, .int .i64 st.r2, .slice C L.length kL, .int .i64 ((st.n : Int) + 1), .bool true] 91 = wx at HKv HIv HBv HOv HAv HVv hwn ⊢
       have hBx : B ≤ wx.heap.size := by have := HBv.out.size; have := hB1; omega
       refine region_app 10 7 _ [false, false, false, false, false, false, false, false, false, false, false, false, false, false, false, false, false, false, false, false, false, false, false, false, false, false, false, false, false, false, false, false, false, false, false, false, false, false, false, false, false, false, false, false, false, false, false, false, false, false, false, false, false, false, false, false, false, false, false, false, false, false, false, false, false, false, false, false, false, false, false, false, false, false, false, false, false, false, false, false, true, true, true, true, true, true, true, true, true, true] [80, 81, 82, 83, 84, 85, 86, 87, 88, 89] [.val (.pointer (some ⟨b, 0, none⟩)), .val (.pointer (some ⟨b, 0, none⟩)), .val (.pointer (some ⟨b, 0, none⟩)), .val (.pointer (some ⟨b, 6, none⟩)), .val (.slice C L.length kL), .val (.agg #[.int .u8 ad, .int .u8 ak, .int .i64 atb, .slice P row.length pc, .int .i64 an, .int .i64 am, .int .i64 aq, .string anm]), .new (fun g => .slice (some ⟨g, 0, none⟩) 1 1) #[.int .u8 ad, .int .u8 ak, .int .i64 atb, .slice P row.length pc, .int .i64 an, .int .i64 am, .int .i64 aq, .string anm] 42, kAny, .val (.pointer (some ⟨b, 0, none⟩)), .val (.pointer (some ⟨b, 6, none⟩))] [0, 8, 9] (fun _ => True) (ActR st ⟨ad, ak, atb, row, an, am, aq, anm⟩ b base B T A kT #[.slice A T.length kT, .int .i64 st.seg, .int .i64 st.bd, .int .i64 st.r0, .int .i64 st.r1, .int .i64 st.r2, .slice C L.length kL, .int .i64 ((st.n : Int) + 1), .bool true] wx) [4, 6] [9] (fun _ _ => trivial) (fun _ _ _ => trivial) (by kernel_rfl) rfl rfl (by omega) (by kernel_rfl) (by kernel_rfl) (by kernel_rfl) rfl rfl rfl (by kernel_rfl) (by kernel_rfl) (by kernel_rfl) (by kernel_rfl) ⟨?_, ?_, ?_, ?_, ?_, ?_, ?_, ?app, ?_, ?_, trivial⟩ ?done
       case app =>
        intro x w2 hb2
        simp only [StepGoal, List.getD_cons_zero, List.getD_cons_succ]
        intro bq hq K hK
        rw [if_pos (by rfl)]
        simp only [overlay, upd, cond_true, cond_false, Nat.reduceEqDiff, reduceIte]
        have hI2 := HIv.out.ext hb2
        refine wp_append_lies w2 (.tmp 84) (.tmp 86) 28 rfl base 42 i0 _ 8 88 Tryz.underlying28 hi0 hz0 hz1 hz2 rfl (by decide) (.slice C L.length kL) L.length (acells L) rfl hI2.oL ⟨bq, 0, none⟩ 1 1 (acells [⟨⟨ad, ak, atb, row, an, am, aq, anm⟩, P, pc⟩]) rfl rfl (cells_blkL (l := acells [⟨⟨ad, ak, atb, row, an, am, aq, anm⟩, P, pc⟩]) hq) (by simp [acells, Am.cells, Value.oneCell']) (by decide) (by have := HLE.out; simp only [maxLen]; omega) (by have := HLE.out; omega) hI2.hb _ rfl ?_
        intro g8 c8 w8 hown8 hg8 hat8 _
        exact hK.out _ _ (ActR.mk' hbb hBb HAW.out HIv.out hb2 HKv.out (HVv.out.ext hb2) HFR.out HLA.out hBx hown8 hg8 hat8)
       case done =>
        rintro x w2 v2 ⟨L', C', c', rfl, hB', hI', hL', hbw', ho'⟩
        simp only [StepGoal, List.getD_cons_zero, List.getD_cons_succ]
        intro K hK
        obtain ⟨w3, rfl, lt⟩ := blk_put hB'
        obtain ⟨pc, pf, pS⟩ := putBlk_facts (w := w3) 91 lt
        have HBN := hd_ (putBlk_blk (w := w3) (b := b) #[.slice A T.length kT, .int .i64 st.seg, .int .i64 st.bd, .int .i64 st.r0, .int .i64 st.r1, .int .i64 st.r2, .slice C' L'.length c', .int .i64 ((st.n : Int) + 1), .bool true] 91 lt)
        have HIN := hd_ (hI'.gr (gr_put w3 b #[.slice A T.length kT, .int .i64 st.seg, .int .i64 st.bd, .int .i64 st.r0, .int .i64 st.r1, .int .i64 st.r2, .slice C L.length kL, .int .i64 ((st.n : Int) + 1), .bool true] #[.slice A T.length kT, .int .i64 st.seg, .int .i64 st.bd, .int .i64 st.r0, .int .i64 st.r1, .int .i64 st.r2, .slice C' L'.length c', .int .i64 ((st.n : Int) + 1), .bool true] 91) hbb)
        have HBW := hd_ (putBlk_belows hbw' hBb #[.slice A T.length kT, .int .i64 st.seg, .int .i64 st.bd, .int .i64 st.r0, .int .i64 st.r1, .int .i64 st.r2, .slice C' L'.length c', .int .i64 ((st.n : Int) + 1), .bool true])
        have HOT := hd_ (ho'.trans (Oth.gr (gr_put w3 b #[.slice A T.length kT, .int .i64 st.seg, .int .i64 st.bd, .int .i64 st.r0, .int .i64 st.r1, .int .i64 st.r2, .slice C L.length kL, .int .i64 ((st.n : Int) + 1), .bool true] #[.slice A T.length kT, .int .i64 st.seg, .int .i64 st.bd, .int .i64 st.r0, .int .i64 st.r1, .int .i64 st.r2, .slice C' L'.length c', .int .i64 ((st.n : Int) + 1), .bool true] 91)))
        clear hB' hI' hbw' ho'
        rw [if_pos (by rfl)]; simp only [overlay, upd, cond_true, cond_false, Nat.reduceEqDiff, reduceIte]
        go_simp
        refine hK.out _ _ ?_
        clear hK pc pf pS lt
        generalize putBlk w3 b #[.slice A T.length kT, .int .i64 st.seg, .int .i64 st.bd, .int .i64 st.r0, .int .i64 st.r1, .int .i64 st.r2, .slice C' L'.length c', .int .i64 ((st.n : Int) + 1), .bool true] 91 = W2 at HBN HIN HBW HOT ⊢
        have HQ : Hid (LineR st s.data.toList b base B w (.returned (.bool true)) W2) := by
         refine ⟨HBv.out.trans HBW.out, HOv.out.trans HOT.out, Or.inl ⟨{ st with l := st.l ++ [⟨ad, ak, atb, row, an, am, aq, anm⟩], n := st.n + 1, acts := true }, ?_, rfl, T, A, kT, L', C', c', HBN.out, HIN.out, HTZ.out, hL'⟩⟩
         rw [HLF.out, HBA.out, if_neg HT0.out, HRAS.out]
        clear hL' HBN HIN HBW HOT
        go_wp2_with fail
        go_ret
        rw [HQE.out]; exact HQ.out
       all_goals
        intro x w2 hb2
        first
         | (intro K hK
            have hk2 := HKv.out.ext hb2
            obtain ⟨bl, y0, y1, y2, y3, y4, y5, y6, y7, y8⟩ := blk9 hk2
            obtain ⟨z8, z0, z1, z2, z3, z4, z5, z6, z7⟩ := blkA (HAv.out.ext hb2)
            rw [if_pos (by rfl)]; simp only [overlay, upd, k_1, k_2, k_3, k_4, Nat.reduceEqDiff, reduceIte]
            go_simp
            first
             | exact hK.out _ _ (Below.refl _ _) rfl
             | exact hK.out _ rfl
             | exact hK.out _ _ (bel1 _ _) ⟨_, rfl, Blk.new _ _ _⟩)
         | ((first | change StepGoal _ _ _ _ [] x | change StepGoal _ _ _ _ [0, 0] x | change StepGoal _ _ _ _ [8, 0] x)
            simp only [StepGoal, List.getD_cons_zero, List.getD_cons_succ]
            intro K hK
            rw [if_pos (by rfl)]; simp only [overlay, upd, cond_true, cond_false, Nat.reduceEqDiff, reduceIte]
            go_simp
            exact hK.out _ rfl)
theorem lnC_mid : ∀ (a b : List UInt8), (10 : UInt8) ∉ a → lnC (a ++ 10 :: b) = some (a, b)
 | [], b, _ => by simp [lnC]
 | c :: a, b, h => by
  simp only [List.mem_cons, not_or] at h
  have ih := lnC_mid a b h.2
  show lnC (c :: (a ++ 10 :: b)) = _
  unfold lnC
  rw [if_neg (fun e => h.1 e.symm), ih]
  rfl
theorem lnC_no : ∀ (a : List UInt8), (10 : UInt8) ∉ a → lnC a = none
 | [], _ => rfl
 | c :: a, h => by
  simp only [List.mem_cons, not_or] at h
  unfold lnC
  rw [if_neg (fun e => h.1 e.symm), lnC_no a h.2]
  rfl
theorem read_cut {s : ByteArray} {f j : Nat} {c : UInt8} (hf : f ≤ j) (hj : s.data.toList[j]? = some c) : s.data.toList.drop f = (s.data.toList.drop f).take (j - f) ++ c :: s.data.toList.drop (j + 1) := by
 have h1 := (List.take_append_drop (j - f) (s.data.toList.drop f)).symm
 rw [List.drop_drop, show f + (j - f) = j by omega] at h1
 obtain ⟨h2, h3⟩ := List.getElem?_eq_some_iff.1 hj
 rw [List.drop_eq_getElem_cons h2, h3] at h1
 exact h1
theorem read_take {s : ByteArray} {f j : Nat} {c : UInt8} (hf : f ≤ j) (hj : s.data.toList[j]? = some c) : (s.data.toList.drop f).take (j + 1 - f) = (s.data.toList.drop f).take (j - f) ++ [c] := by
 rw [show j + 1 - f = (j - f) + 1 by omega]
 have h : (s.data.toList.drop f)[j - f]? = some c := by rw [List.getElem?_drop, show f + (j - f) = j by omega, hj]
 obtain ⟨h2, h3⟩ := List.getElem?_eq_some_iff.1 h
 rw [List.take_succ_eq_append_getElem h2, h3]
theorem refreadS_any (text : ByteArray) (hlong : text.size ≤ 16384) (w : World) (hL : LayS w) :
  Calls Tryz.prog 18 #[.string text] w fun r w' => ReadQ text r w' ∧ Below w.heap.size w w' := by
 have hlI : ¬ (1048576 : Int) < text.size := by omega
 have HRQ : Hid (ReadQ text = fun r w' => match goP Ls0 (spW 10 text.data.toList) with
  | .ok st => ∃ T A kT L C kL, r = .returned (.tuple #[Cf.agg ⟨st.seg, st.bd, st.r0, st.r1, st.r2, T⟩ A kT, .slice C (List.length L) kL, .int .i64 0, .int .i64 0]) ∧ TRow w' A kT T ∧ AmRow w' C L ∧ T.map Ta.z = st.ts ∧ L.map (·.a) = st.l
  | .bad n => r = .returned (.tuple #[.agg zConf, .slice none 0 0, .int .i64 n, .int .i64 310])) := by
  show _ = _
  funext r w'
  unfold ReadQ
  rw [if_neg (by omega)]
  cases goP Ls0 (spW 10 text.data.toList) <;> rfl
 have HL := hd_ hL
 have hlen : text.data.toList.length = text.size := by simp
 have HLEN := hd_ hlen
 clear hL hlen
 have W : ∀ W3 : World, W3 = ((w.alloc (.cells #[.slice none 0 0, .int .i64 0, .int .i64 0, .int .i64 0, .int .i64 0, .int .i64 0] 27)).alloc (.cells #[.slice none 0 0, .int .i64 0, .int .i64 0, .int .i64 0, .int .i64 0, .int .i64 0, .slice none 0 0, .int .i64 0, .bool false] 91)) → RdBr (w.heap.size + 1) (w.heap.size + 2) Ls0 0 W3 ∧ Blk W3 w.heap.size #[.slice none 0 0, .int .i64 0, .int .i64 0, .int .i64 0, .int .i64 0, .int .i64 0] 27 ∧ Below w.heap.size w W3 := by
  rintro W3 rfl
  have k1 : Blk ((w.alloc (.cells #[.slice none 0 0, .int .i64 0, .int .i64 0, .int .i64 0, .int .i64 0, .int .i64 0] 27)).alloc (.cells #[.slice none 0 0, .int .i64 0, .int .i64 0, .int .i64 0, .int .i64 0, .int .i64 0, .slice none 0 0, .int .i64 0, .bool false] 91)) (w.heap.size + 1) #[.slice none 0 0, .int .i64 0, .int .i64 0, .int .i64 0, .int .i64 0, .int .i64 0, .slice none 0 0, .int .i64 0, .bool false] 91 := (by repeat (first | exact Blk.at (by simp) | assumption | refine Blk.drew ?_ | refine Blk.old ?_ _))
  have k0 : Blk ((w.alloc (.cells #[.slice none 0 0, .int .i64 0, .int .i64 0, .int .i64 0, .int .i64 0, .int .i64 0] 27)).alloc (.cells #[.slice none 0 0, .int .i64 0, .int .i64 0, .int .i64 0, .int .i64 0, .int .i64 0, .slice none 0 0, .int .i64 0, .bool false] 91)) w.heap.size #[.slice none 0 0, .int .i64 0, .int .i64 0, .int .i64 0, .int .i64 0, .int .i64 0] 27 := (by repeat (first | exact Blk.at (by simp) | assumption | refine Blk.drew ?_ | refine Blk.old ?_ _))
  exact ⟨⟨[], none, 0, [], none, 0, k1, ⟨by simp, World.ownsRow_nil _ _ _ _, World.ownsRow_nil _ _ _ _, (fun _ ht => nomatch ht), (fun _ ht => nomatch ht)⟩, rfl, rfl⟩, k0, (by repeat (first | exact Below.refl _ _ | assumption | refine Below.drew ?_ | refine below_drewN ?_ _ | refine Below.alloc ?_ (by simp <;> omega) _))⟩
 go_enter Tryz.func18, Tryz.ntmps18
 go_upto_region 4 with fail
 obtain ⟨hR0, hZ0, hB0⟩ := W _ rfl
 clear W
 generalize ((w.alloc (.cells #[.slice none 0 0, .int .i64 0, .int .i64 0, .int .i64 0, .int .i64 0, .int .i64 0] 27)).alloc (.cells #[.slice none 0 0, .int .i64 0, .int .i64 0, .int .i64 0, .int .i64 0, .int .i64 0, .slice none 0 0, .int .i64 0, .bool false] 91)) = W3 at hR0 hZ0 hB0 ⊢
 have HR0 := hd_ hR0
 have HZ0 := hd_ hZ0
 have HB0 := hd_ hB0
 clear hR0 hZ0 hB0
 go_wp2_with fail
 go_loopw [7, 8] (fun fv iv wr => ∃ (st : Ls) (f j : Nat), fv = .int .i64 f ∧ iv = .int .i64 j ∧ (f ≤ j ∧ j ≤ text.size ∧ st.n ≤ f) ∧ Hid (goP Ls0 (spW 10 text.data.toList) = goP st (spW 10 (text.data.toList.drop f))) ∧ Hid ((10 : UInt8) ∉ (text.data.toList.drop f).take (j - f)) ∧ st.l.length ≤ st.n ∧ st.ts.length ≤ 99 ∧ Hid (HdI st) ∧ Hid (RdBr (w.heap.size + 1) (w.heap.size + 2) st st.n wr) ∧ Hid (Blk wr w.heap.size #[.slice none 0 0, .int .i64 0, .int .i64 0, .int .i64 0, .int .i64 0, .int .i64 0] 27) ∧ Hid (Below w.heap.size w wr)) (fun _ iv _ => text.size - (intOf iv).toNat)
 case atStart => exact ⟨Ls0, 0, 0, rfl, rfl, by simp [Ls0], (by show _ = _; rfl), (by show _ ∉ _; simp), by simp [Ls0], by simp [Ls0], HdI.zero, HR0, HZ0, HB0⟩
 case round =>
  obtain ⟨st, f, j, rfl, rfl, ⟨hfj, hj, hnf⟩, HG, HNC, hll, htl, HHI, HR, HZ, HB⟩ := hrel
  clear HR0 HZ0 HB0
  by_cases hlt : j < text.size
  · obtain ⟨c, hidx, -, -, hget⟩ := byteA hlt
    obtain ⟨m, hm⟩ : ∃ m : Int, (c.toNat : Int) = m := ⟨_, rfl⟩
    have HMM := hd_ hm
    have hltI : (j : Int) < text.size := by omega
    have hj0 : (0 : Int) ≤ j := by omega
    have hw1 : IntKind.i64.wrap ((j : Int) + 1) = (j : Int) + 1 := IntWalk.i64_in _ (by omega)
    have HGET := hd_ hget
    clear hget
    by_cases h10 : m = 10
    · have hcc : c = 10 := UInt8.toNat_inj.1 (by show c.toNat = 10; omega)
      have b1 : (m != 10) = false := by simp [h10]
      obtain ⟨la, hla⟩ : ∃ la, la = (text.data.toList.drop f).take (j - f) := ⟨_, rfl⟩
      have hcut := read_cut hfj HGET.out
      rw [hcc, ← hla] at hcut
      have hlnc : lnC (text.data.toList.drop f) = some (la, text.data.toList.drop (j + 1)) := by
       rw [hcut]
       exact lnC_mid _ _ (by rw [hla]; exact HNC.out)
      have HE := hd_ (goP_line (st := st) hlnc)
      have HEX : Hid (text.extract f j = bsO la) := by
       show _ = _
       apply ByteArray.ext
       apply Array.toList_inj.1
       rw [slice_at, hla]
       simp [bsO]
      have hlal : la.length ≤ 16384 := by rw [hla, List.length_take, List.length_drop]; omega
      have hfI : (f : Int) ≤ (j : Int) := by omega
      have hf0 : (0 : Int) ≤ (f : Int) := by omega
      have hjI : (j : Int) ≤ text.size := by omega
      have HLN := hd_ (refline_any st HHI.out (bsO la) (by rw [bsO_size]; omega) (w.heap.size + 1) (w.heap.size + 2) w.heap.size (by omega) (by omega) wr (fun W hW => HL.out.ext (HB.out.trans hW)) HR.out htl (by omega) (by omega))
      rw [show (bsO la).data.toList = la from rfl, ← HEX.out] at HLN
      clear hcc hla hcut hlnc HNC HR HEX
      go_wp2_with fail
      refine HLN.out.mono ?_
      rintro r w5 ⟨hb5, ho5, hcase⟩
      have HZ5 := hd_ (ho5 _ _ _ (by omega) (by decide) (by decide) HZ.out)
      have HB5 := hd_ (HB.out.trans hb5)
      clear HLN HZ HB hb5 ho5
      rcases hcase with ⟨st', e1, rfl, hr⟩ | ⟨e1, rfl, a, cc, x, hk⟩
      · obtain ⟨f1, f2, f3⟩ := lineF_facts e1 htl hll
        have HG7 : Hid (goP Ls0 (spW 10 text.data.toList) = goP st' (spW 10 (text.data.toList.drop (j + 1)))) := by
         show _ = _
         rw [HG.out, HE.out, e1]
        have HHI7 := hd_ (HHI.out.line e1)
        have HR7 : Hid (RdBr (w.heap.size + 1) (w.heap.size + 2) st' st'.n w5) := by show RdBr _ _ _ _ _; rw [f1]; exact hr
        clear e1 hr
        go_wp2_with fail
        go_roundw
        case rel => exact ⟨st', j + 1, j + 1, by go_num, by go_num, by omega, HG7, (by show _ ∉ _; rw [Nat.sub_self]; simp), f3, f2, HHI7, HR7, HZ5, HB5⟩
        case measure => simp [intOf]; omega
      · have HN : Hid (goP Ls0 (spW 10 text.data.toList) = .bad (st.n + 1)) := by
         show _ = _
         rw [HG.out, HE.out, e1]
        have HK5 : Hid (Blk w5 (w.heap.size + 1) #[a, .int .i64 x.seg, .int .i64 x.bd, .int .i64 x.r0, .int .i64 x.r1, .int .i64 x.r2, cc, .int .i64 ((st.n : Int) + 1), .bool x.acts] 91) := hk
        clear e1 hk
        go_upto_region 10 with fail
        refine region_free (CfT w.heap.size #[.slice none 0 0, .int .i64 0, .int .i64 0, .int .i64 0, .int .i64 0, .int .i64 0] #[.slice none 0 0, .int .i64 0, .int .i64 0, .int .i64 0, .int .i64 0, .int .i64 0]) [false, false, false, true, true, true, false, false, false, false, false, false, false, false, false, false, false, false, false, false, false, false, false, false, false, false, false, false, false, false, false, false, true, true, true, true, true, false, false, false, false, false, false, false, false, false, false, false, false, false, false, false, false, false, false, false, false, false, false, false, false, false, false, false, false, false, false] [32, 33, 34, 35, 36, 0, 3, 4, 5] [.val (.agg #[.slice none 0 0, .int .i64 0, .int .i64 0, .int .i64 0, .int .i64 0, .int .i64 0]), .val (.pointer (some ⟨w.heap.size + 1, 0, none⟩)), .val (.pointer (some ⟨w.heap.size + 1, 0, none⟩)), .val (.pointer (some ⟨w.heap.size + 1, 7, none⟩)), .val (.int .i64 ((st.n : Int) + 1)), kCf w.heap.size #[.slice none 0 0, .int .i64 0, .int .i64 0, .int .i64 0, .int .i64 0, .int .i64 0], .val (.slice none 0 0), .val (.int .i64 ((st.n : Int) + 1)), .val (.int .i64 310)] [5, 6, 7, 8] (CfT.of (Below.refl _ _).drew) CfT.trans ?ktA (by kernel_rfl) (by kernel_rfl) (by kernel_rfl) (by kernel_rfl) (by kernel_rfl) ⟨?_, ?_, ?_, ?_, ?_, ?_, ?_, ?_, ?_, trivial⟩ ?doneA
        case ktA =>
         intro k hk
         simp only [List.mem_cons, List.not_mem_nil, or_false] at hk
         rcases hk with rfl | rfl | rfl | rfl | rfl | rfl | rfl | rfl | rfl
         all_goals first | exact KT.val _ | exact KT.kcf
        case doneA =>
         intro x w9 hT9
         simp only [StepGoal, overlay, upd, k_1, k_2, k_3, k_4, Nat.zero_add, Nat.reduceAdd, Nat.reduceEqDiff, reduceIte]
         intro v hk9
         obtain ⟨d9, d0, d1, d2, d3, d4, d5⟩ := blk6 hk9
         have hb9 := HB5.out.trans (gr_low hT9.1 (Nat.le_refl _) HB5.out.size)
         clear hk9 hT9
         go_wp2_with fail
         refine bodyPost_ret (v := .tuple #[.agg #[.slice none 0 0, .int .i64 0, .int .i64 0, .int .i64 0, .int .i64 0, .int .i64 0], .slice none 0 0, .int .i64 ((st.n : Int) + 1), .int .i64 310]) (by simp [results, Tryz.results18, go_sem, d0, d1, d2, d3, d4, d5]) rfl ?_
         refine ⟨?_, hb9⟩
         rw [HRQ.out]
         simp only
         rw [HN.out]
         rfl
        all_goals
         intro x w8 hT8
         have hr8 := blk_grown HK5.out hT8.1 (by simp)
         have hz8 : Blk w8 w.heap.size #[.slice none 0 0, .int .i64 0, .int .i64 0, .int .i64 0, .int .i64 0, .int .i64 0] 27 := (hT8.2.1 (Or.inl HZ5.out)).elim id id
         obtain ⟨bl, y0, y1, y2, y3, y4, y5, y6, y7, y8⟩ := blk9 hr8
         first
          | (intro K hK
             obtain ⟨d9, d0, d1, d2, d3, d4, d5⟩ := blk6 hz8
             rw [if_pos (by rfl)]; simp only [overlay, upd, k_1, k_2, k_3, k_4, Nat.reduceEqDiff, reduceIte]
             go_simp
             exact hK.out _ _ (CfT.of (Below.refl _ _)) rfl)
          | (intro K hK
             obtain ⟨w3, rfl, lt⟩ := blk_put hz8
             obtain ⟨pc, pf, pS⟩ := putBlk_facts (w := w3) 27 lt
             rw [if_pos (by rfl)]; simp only [overlay, upd, cond_true, cond_false, List.getD_cons_zero, Nat.reduceEqDiff, reduceIte]
             go_simp
             exact hK.out undef _ (CfT.put lt) (putBlk_blk _ _ lt))
          | (intro v hv K hK
             rw [if_pos (by rfl)]; simp only [overlay, upd, k_1, k_2, k_3, k_4, Nat.reduceEqDiff, reduceIte]
             go_simp
             exact hK.out _ _ (CfT.of (Below.refl _ _)) rfl)
          | (intro v hv v' hv' K hK
             rw [if_pos (by rfl)]; simp only [overlay, upd, k_1, k_2, k_3, k_4, Nat.reduceEqDiff, reduceIte]
             go_simp
             exact hK.out _ _ (CfT.of (Below.refl _ _)) rfl)
    · have b1 : (m != 10) = true := by simpa using h10
      have HNC2 : Hid ((10 : UInt8) ∉ (text.data.toList.drop f).take (j + 1 - f)) := by
       show _ ∉ _
       rw [read_take hfj HGET.out]
       simp only [List.mem_append, List.mem_singleton, not_or]
       exact ⟨HNC.out, fun e => h10 (by rw [← HMM.out, ← e]; rfl)⟩
      go_wp2_with fail
      go_roundw
      case rel => exact ⟨st, f, j + 1, rfl, by go_num, by omega, HG, HNC2, hll, htl, HHI, HR, HZ, HB⟩
      case measure => simp [intOf]; omega
  · obtain rfl : j = text.size := by omega
    have hnc : lnC (text.data.toList.drop f) = none := by
     have h := HNC.out
     rw [List.take_of_length_le (by rw [List.length_drop, HLEN.out]; exact Nat.le_refl _)] at h
     exact lnC_no _ h
    have HE := hd_ (goP_end (st := st) hnc)
    have HZ5 := HZ
    have HB5 := HB
    obtain ⟨T, A, kT, L, C, kL, hk, hI, hTz, hLa⟩ := HR.out
    have HK5 : Hid (Blk wr (w.heap.size + 1) #[.slice A T.length kT, .int .i64 st.seg, .int .i64 st.bd, .int .i64 st.r0, .int .i64 st.r1, .int .i64 st.r2, .slice C L.length kL, .int .i64 st.n, .bool st.acts] 91) := hk
    have HI5 := hd_ hI
    have HTE : Hid (T.length = st.ts.length) := by show _ = _; rw [← hTz]; simp
    have HTZ := hd_ hTz
    have HLA := hd_ hLa
    have hwn : IntKind.i64.wrap ((st.n : Int) + 1) = (st.n : Int) + 1 := by rw [IntKind.wrap_i64]; omega
    clear hnc hk hI hTz hLa HR HZ HB HNC
    obtain ⟨bl, y0, y1, y2, y3, y4, y5, y6, y7, y8⟩ := blk9 HK5.out
    by_cases hft : f < text.size
    · have hfI : (f : Int) < text.size := by omega
      have HN : Hid (goP Ls0 (spW 10 text.data.toList) = .bad (st.n + 1)) := by
       show _ = _
       rw [HG.out, HE.out, if_neg (fun e => by
        have h1 := congrArg List.length e.1
        rw [List.length_drop, HLEN.out] at h1
        simp at h1
        omega)]
      go_upto_region 13 with fail
      clear bl y0 y1 y2 y3 y4 y5 y6 y7 y8
      refine region_free (CfT w.heap.size #[.slice none 0 0, .int .i64 0, .int .i64 0, .int .i64 0, .int .i64 0, .int .i64 0] #[.slice none 0 0, .int .i64 0, .int .i64 0, .int .i64 0, .int .i64 0, .int .i64 0]) [false, false, false, true, true, true, false, false, false, false, false, false, false, false, false, false, false, false, false, false, false, false, false, false, false, false, false, false, false, false, false, false, false, false, false, false, false, false, false, false, false, false, false, false, false, false, false, false, false, false, false, false, false, true, true, true, true, true, true, false, false, false, false, false, false, false, false] [53, 54, 55, 56, 57, 58, 0, 3, 4, 5] [.val (.agg #[.slice none 0 0, .int .i64 0, .int .i64 0, .int .i64 0, .int .i64 0, .int .i64 0]), .val (.pointer (some ⟨w.heap.size + 1, 0, none⟩)), .val (.pointer (some ⟨w.heap.size + 1, 0, none⟩)), .val (.pointer (some ⟨w.heap.size + 1, 7, none⟩)), .val (.int .i64 st.n), .val (.int .i64 ((st.n : Int) + 1)), kCf w.heap.size #[.slice none 0 0, .int .i64 0, .int .i64 0, .int .i64 0, .int .i64 0, .int .i64 0], .val (.slice none 0 0), .val (.int .i64 ((st.n : Int) + 1)), .val (.int .i64 310)] [6, 7, 8, 9] (CfT.of (Below.refl _ _).drew) CfT.trans ?ktB (by kernel_rfl) (by kernel_rfl) (by kernel_rfl) (by kernel_rfl) (by kernel_rfl) ⟨?_, ?_, ?_, ?_, ?_, ?_, ?_, ?_, ?_, ?_, trivial⟩ ?doneB
      case ktB =>
       intro k hk
       simp only [List.mem_cons, List.not_mem_nil, or_false] at hk
       rcases hk with rfl | rfl | rfl | rfl | rfl | rfl | rfl | rfl | rfl | rfl
       all_goals first | exact KT.val _ | exact KT.kcf
      case doneB =>
       intro x w9 hT9
       simp only [StepGoal, overlay, upd, k_1, k_2, k_3, k_4, Nat.zero_add, Nat.reduceAdd, Nat.reduceEqDiff, reduceIte]
       intro v hk9
       obtain ⟨d9, d0, d1, d2, d3, d4, d5⟩ := blk6 hk9
       have hb9 := HB5.out.trans (gr_low hT9.1 (Nat.le_refl _) HB5.out.size)
       clear hk9 hT9
       go_wp2_with fail
       refine bodyPost_ret (v := .tuple #[.agg #[.slice none 0 0, .int .i64 0, .int .i64 0, .int .i64 0, .int .i64 0, .int .i64 0], .slice none 0 0, .int .i64 ((st.n : Int) + 1), .int .i64 310]) (by simp [results, Tryz.results18, go_sem, d0, d1, d2, d3, d4, d5]) rfl ?_
       refine ⟨?_, hb9⟩
       rw [HRQ.out]
       simp only
       rw [HN.out]
       rfl
      all_goals
       intro x w8 hT8
       have hr8 := blk_grown HK5.out hT8.1 (by simp)
       have hz8 : Blk w8 w.heap.size #[.slice none 0 0, .int .i64 0, .int .i64 0, .int .i64 0, .int .i64 0, .int .i64 0] 27 := (hT8.2.1 (Or.inl HZ5.out)).elim id id
       obtain ⟨bl, y0, y1, y2, y3, y4, y5, y6, y7, y8⟩ := blk9 hr8
       first
        | (intro K hK
           obtain ⟨d9, d0, d1, d2, d3, d4, d5⟩ := blk6 hz8
           rw [if_pos (by rfl)]; simp only [overlay, upd, k_1, k_2, k_3, k_4, Nat.reduceEqDiff, reduceIte]
           go_simp
           exact hK.out _ _ (CfT.of (Below.refl _ _)) rfl)
        | (intro K hK
           obtain ⟨w3, rfl, lt⟩ := blk_put hz8
           obtain ⟨pc, pf, pS⟩ := putBlk_facts (w := w3) 27 lt
           rw [if_pos (by rfl)]; simp only [overlay, upd, cond_true, cond_false, List.getD_cons_zero, Nat.reduceEqDiff, reduceIte]
           go_simp
           exact hK.out undef _ (CfT.put lt) (putBlk_blk _ _ lt))
        | (intro v hv K hK
           rw [if_pos (by rfl)]; simp only [overlay, upd, k_1, k_2, k_3, k_4, Nat.reduceEqDiff, reduceIte]
           go_simp
           exact hK.out _ _ (CfT.of (Below.refl _ _)) rfl)
        | (intro v hv v' hv' K hK
           rw [if_pos (by rfl)]; simp only [overlay, upd, k_1, k_2, k_3, k_4, Nat.reduceEqDiff, reduceIte]
           go_simp
           exact hK.out _ _ (CfT.of (Below.refl _ _)) rfl)
    · have hfI : ¬ (f : Int) < text.size := by omega
      by_cases hT0 : T.length = 0
      · have hT0I : (T.length : Int) = 0 := by omega
        have HN : Hid (goP Ls0 (spW 10 text.data.toList) = .bad (st.n + 1)) := by
         show _ = _
         rw [HG.out, HE.out, if_neg (fun e => e.2 (by rw [← HTE.out]; exact hT0))]
        clear hT0
        go_upto_region 13 with fail
        clear bl y0 y1 y2 y3 y4 y5 y6 y7 y8
        refine region_free (CfT w.heap.size #[.slice none 0 0, .int .i64 0, .int .i64 0, .int .i64 0, .int .i64 0, .int .i64 0] #[.slice none 0 0, .int .i64 0, .int .i64 0, .int .i64 0, .int .i64 0, .int .i64 0]) [false, false, false, true, true, true, false, false, false, false, false, false, false, false, false, false, false, false, false, false, false, false, false, false, false, false, false, false, false, false, false, false, false, false, false, false, false, false, false, false, false, false, false, false, false, false, false, false, false, false, false, false, false, true, true, true, true, true, true, false, false, false, false, false, false, false, false] [53, 54, 55, 56, 57, 58, 0, 3, 4, 5] [.val (.agg #[.slice none 0 0, .int .i64 0, .int .i64 0, .int .i64 0, .int .i64 0, .int .i64 0]), .val (.pointer (some ⟨w.heap.size + 1, 0, none⟩)), .val (.pointer (some ⟨w.heap.size + 1, 0, none⟩)), .val (.pointer (some ⟨w.heap.size + 1, 7, none⟩)), .val (.int .i64 st.n), .val (.int .i64 ((st.n : Int) + 1)), kCf w.heap.size #[.slice none 0 0, .int .i64 0, .int .i64 0, .int .i64 0, .int .i64 0, .int .i64 0], .val (.slice none 0 0), .val (.int .i64 ((st.n : Int) + 1)), .val (.int .i64 310)] [6, 7, 8, 9] (CfT.of (Below.refl _ _).drew) CfT.trans ?ktC (by kernel_rfl) (by kernel_rfl) (by kernel_rfl) (by kernel_rfl) (by kernel_rfl) ⟨?_, ?_, ?_, ?_, ?_, ?_, ?_, ?_, ?_, ?_, trivial⟩ ?doneC
        case ktC =>
         intro k hk
         simp only [List.mem_cons, List.not_mem_nil, or_false] at hk
         rcases hk with rfl | rfl | rfl | rfl | rfl | rfl | rfl | rfl | rfl | rfl
         all_goals first | exact KT.val _ | exact KT.kcf
        case doneC =>
         intro x w9 hT9
         simp only [StepGoal, overlay, upd, k_1, k_2, k_3, k_4, Nat.zero_add, Nat.reduceAdd, Nat.reduceEqDiff, reduceIte]
         intro v hk9
         obtain ⟨d9, d0, d1, d2, d3, d4, d5⟩ := blk6 hk9
         have hb9 := HB5.out.trans (gr_low hT9.1 (Nat.le_refl _) HB5.out.size)
         clear hk9 hT9
         go_wp2_with fail
         refine bodyPost_ret (v := .tuple #[.agg #[.slice none 0 0, .int .i64 0, .int .i64 0, .int .i64 0, .int .i64 0, .int .i64 0], .slice none 0 0, .int .i64 ((st.n : Int) + 1), .int .i64 310]) (by simp [results, Tryz.results18, go_sem, d0, d1, d2, d3, d4, d5]) rfl ?_
         refine ⟨?_, hb9⟩
         rw [HRQ.out]
         simp only
         rw [HN.out]
         rfl
        all_goals
         intro x w8 hT8
         have hr8 := blk_grown HK5.out hT8.1 (by simp)
         have hz8 : Blk w8 w.heap.size #[.slice none 0 0, .int .i64 0, .int .i64 0, .int .i64 0, .int .i64 0, .int .i64 0] 27 := (hT8.2.1 (Or.inl HZ5.out)).elim id id
         obtain ⟨bl, y0, y1, y2, y3, y4, y5, y6, y7, y8⟩ := blk9 hr8
         first
          | (intro K hK
             obtain ⟨d9, d0, d1, d2, d3, d4, d5⟩ := blk6 hz8
             rw [if_pos (by rfl)]; simp only [overlay, upd, k_1, k_2, k_3, k_4, Nat.reduceEqDiff, reduceIte]
             go_simp
             exact hK.out _ _ (CfT.of (Below.refl _ _)) rfl)
          | (intro K hK
             obtain ⟨w3, rfl, lt⟩ := blk_put hz8
             obtain ⟨pc, pf, pS⟩ := putBlk_facts (w := w3) 27 lt
             rw [if_pos (by rfl)]; simp only [overlay, upd, cond_true, cond_false, List.getD_cons_zero, Nat.reduceEqDiff, reduceIte]
             go_simp
             exact hK.out undef _ (CfT.put lt) (putBlk_blk _ _ lt))
          | (intro v hv K hK
             rw [if_pos (by rfl)]; simp only [overlay, upd, k_1, k_2, k_3, k_4, Nat.reduceEqDiff, reduceIte]
             go_simp
             exact hK.out _ _ (CfT.of (Below.refl _ _)) rfl)
          | (intro v hv v' hv' K hK
             rw [if_pos (by rfl)]; simp only [overlay, upd, k_1, k_2, k_3, k_4, Nat.reduceEqDiff, reduceIte]
             go_simp
             exact hK.out _ _ (CfT.of (Below.refl _ _)) rfl)
      · have hT0I : ¬ ((T.length : Int) = 0) := by omega
        have hb0 : ((T.length : Int) == 0) = false := by simp; exact fun e => hT0 (by rw [e]; rfl)
        have HN : Hid (goP Ls0 (spW 10 text.data.toList) = .ok st) := by
         show _ = _
         rw [HG.out, HE.out, if_pos ⟨List.drop_eq_nil_of_le (by rw [HLEN.out]; omega), by rw [← HTE.out]; exact hT0⟩]
        clear hT0
        go_upto_region 14 with fail
        clear bl y0 y1 y2 y3 y4 y5 y6 y7 y8 hT0I hb0
        refine region_free (CfT w.heap.size #[.slice none 0 0, .int .i64 0, .int .i64 0, .int .i64 0, .int .i64 0, .int .i64 0] #[.slice A T.length kT, .int .i64 st.seg, .int .i64 st.bd, .int .i64 st.r0, .int .i64 st.r1, .int .i64 st.r2]) [false, false, false, true, true, true, false, false, false, false, false, false, false, false, false, false, false, false, false, false, false, false, false, false, false, false, false, false, false, false, false, false, false, false, false, false, false, false, false, false, false, false, false, false, false, false, false, false, false, false, false, false, false, false, false, false, false, false, false, true, true, true, true, true, true, true, true] [59, 60, 61, 62, 63, 64, 65, 66, 0, 3, 4, 5] [.val (.pointer (some ⟨w.heap.size + 1, 0, none⟩)), .val (.pointer (some ⟨w.heap.size + 1, 0, none⟩)), .val (.pointer (some ⟨w.heap.size + 1, 0, none⟩)), .val (.agg #[.slice A T.length kT, .int .i64 st.seg, .int .i64 st.bd, .int .i64 st.r0, .int .i64 st.r1, .int .i64 st.r2]), .val (.pointer (some ⟨w.heap.size + 1, 0, none⟩)), .val (.pointer (some ⟨w.heap.size + 1, 0, none⟩)), .val (.pointer (some ⟨w.heap.size + 1, 6, none⟩)), .val (.slice C L.length kL), kCf w.heap.size #[.slice A T.length kT, .int .i64 st.seg, .int .i64 st.bd, .int .i64 st.r0, .int .i64 st.r1, .int .i64 st.r2], .val (.slice C L.length kL), .val (.int .i64 0), .val (.int .i64 0)] [8, 9, 10, 11] (CfT.of (Below.refl _ _).drew) CfT.trans ?kt (by kernel_rfl) (by kernel_rfl) (by kernel_rfl) (by kernel_rfl) (by kernel_rfl) ⟨?_, ?_, ?_, ?_, ?_, ?_, ?_, ?_, ?_, ?_, ?_, ?_, trivial⟩ ?done
        case kt =>
         intro k hk
         simp only [List.mem_cons, List.not_mem_nil, or_false] at hk
         rcases hk with rfl | rfl | rfl | rfl | rfl | rfl | rfl | rfl | rfl | rfl | rfl | rfl
         all_goals first | exact KT.val _ | exact KT.kcf
        case done =>
         intro x w9 hT9
         simp only [StepGoal, overlay, upd, k_1, k_2, k_3, k_4, Nat.zero_add, Nat.reduceAdd, Nat.reduceEqDiff, reduceIte]
         intro v hk9
         obtain ⟨d9, d0, d1, d2, d3, d4, d5⟩ := blk6 hk9
         have hb9 := HB5.out.trans (gr_low hT9.1 (Nat.le_refl _) HB5.out.size)
         have HI9 := hd_ (HI5.out.gr hT9.1 (by omega))
         clear hk9 hT9
         go_wp2_with fail
         refine bodyPost_ret (v := .tuple #[.agg #[.slice A T.length kT, .int .i64 st.seg, .int .i64 st.bd, .int .i64 st.r0, .int .i64 st.r1, .int .i64 st.r2], .slice C L.length kL, .int .i64 0, .int .i64 0]) (by simp [results, Tryz.results18, go_sem, d0, d1, d2, d3, d4, d5]) rfl ?_
         refine ⟨?_, hb9⟩
         rw [HRQ.out]
         simp only
         rw [HN.out]
         have hLE : L.length = st.l.length := by rw [← HLA.out]; simp
         exact ⟨T, A, kT, L, C, kL, rfl, HI9.out.trow (by have := HTE.out; omega), HI9.out.arow (by omega), HTZ.out, HLA.out⟩
        all_goals
         intro x w8 hT8
         have hr8 := blk_grown HK5.out hT8.1 (by simp)
         have hz8 := hT8.2.1 (Or.inl HZ5.out)
         obtain ⟨bl, y0, y1, y2, y3, y4, y5, y6, y7, y8⟩ := blk9 hr8
         first
          | (intro K hK
             clear hz8
             rw [if_pos (by rfl)]; simp only [overlay, upd, k_1, k_2, k_3, k_4, Nat.reduceEqDiff, reduceIte]
             go_simp
             exact hK.out _ _ (CfT.of (Below.refl _ _)) rfl)
          | (intro K hK
             rcases hz8 with hz8 | hz8
             all_goals
              obtain ⟨w3, rfl, lt⟩ := blk_put hz8
              obtain ⟨pc, pf, pS⟩ := putBlk_facts (w := w3) 27 lt
              rw [if_pos (by rfl)]; simp only [overlay, upd, k_1, k_2, k_3, k_4, Nat.reduceEqDiff, reduceIte]
              go_simp
              exact hK.out undef _ (CfT.put lt) (putBlk_blk _ _ lt))
          | (intro v hv K hK
             clear hz8
             rw [if_pos (by rfl)]; simp only [overlay, upd, k_1, k_2, k_3, k_4, Nat.reduceEqDiff, reduceIte]
             go_simp
             exact hK.out _ _ (CfT.of (Below.refl _ _)) rfl)
          | (intro v hv v' hv' K hK
             clear hz8
             rw [if_pos (by rfl)]; simp only [overlay, upd, k_1, k_2, k_3, k_4, Nat.reduceEqDiff, reduceIte]
             go_simp
             exact hK.out _ _ (CfT.of (Below.refl _ _)) rfl)
end Go.Proofs.YtfekohonidggjaaGreatDoor
