/- Texts joined by a tool: contracts and walks of this claim. -/
import Derived.Test.YtfekohonidggjaaGreatDoorB31
namespace Go.Proofs.YtfekohonidggjaaGreatDoor
open Go.RowKit
def Oth (b : Nat) (w w' : World) : Prop := ∀ c cs t, c ≠ b → t ≠ 66 → t ≠ 42 → Blk w c cs t → Blk w' c cs t
theorem Oth.gr {b : Nat} {w w' : World} (h : w.grownBy w' (some b)) : Oth b w w' := fun _ _ _ hc _ _ hk => blk_grown hk h (by simp; omega)
theorem Oth.below {b : Nat} {w w' : World} (h : Below w.heap.size w w') : Oth b w w' := fun _ _ _ _ _ _ hk => hk.ext h
theorem Oth.trans {b : Nat} {w w1 w2 : World} (h : Oth b w w1) (g : Oth b w1 w2) : Oth b w w2 := fun c cs t h1 h2 h3 hk => g c cs t h1 h2 h3 (h c cs t h1 h2 h3 hk)
theorem Oth.own {b : Nat} {w w' : World} {base e size n : Nat} {v : Value} {xs : List Value} (ho : w.ownsRow base e size v n xs) (hg : w.grownBy w' v.ownBlock) (he : e = 66 ∨ e = 42) : Oth b w w' := fun _ _ _ _ h2 h3 hk => blk_grown hk hg (own_ne ho hk (by
 rcases he with rfl | rfl
 · exact Ne.symm h2
 · exact Ne.symm h3))
def LineQ (st : Ls) (l : List UInt8) (b base B : Nat) (w : World) (r : Ending) (w' : World) : Prop :=
 Below B w w' ∧ Oth b w w' ∧ ((∃ st', lineF st l = some st' ∧ r = .returned (.tuple #[]) ∧ RdB b base st' st.n w') ∨ (lineF st l = none ∧ r = gaveW ∧ ∃ a c x, Blk w' b (rdArr a c x st.n) 85))
theorem FreC.of {base : Nat} {T : List Ta} {A : Option Addr} {kT : Nat} {L : List Am} {C : Option Addr} {kL : Nat} {w : World} {P : Option Addr} (h : RdI base T A kT L C kL w) (hp : ∀ p, P = some p → w.heap.size ≤ p.block) : FreC base A C P := fun p e => by
 have h1 := hp p e
 refine ⟨Nat.le_trans h.hb h1, fun q hq => ?_, fun q hq => ?_⟩
 · have := (h.oT.lt q.block (by rw [own_blk, hq]; rfl)).2
   omega
 · have := (h.oL.lt q.block (by rw [own_blk, hq]; rfl)).2
   omega
theorem cells_blkL {w : World} {b : Nat} {l : List Value} {t : TypeId} (h : Blk w b l.toArray t) : ∀ j u, l[j]? = some u → w.cell? ((⟨b, 0, none⟩ : Addr).add j) = some u := by
 intro j u hu
 rw [addr_addS, Nat.zero_add, h.cell j]
 simpa using hu
theorem info_tabT : (Tryz.prog.info? 66).map (fun i => (i.zero, i.size, i.bytes)) = some (some (.agg #[.string ⟨#[]⟩, .slice none 0 0, .int .i64 0, .int .i64 0, .int .i64 0]), 5, 64) := by kernel_rfl
theorem info_act : (Tryz.prog.info? 42).map (fun i => (i.zero, i.size, i.bytes)) = some (some (.agg #[.int .u8 0, .int .u8 0, .int .i64 0, .slice none 0 0, .int .i64 0, .int .i64 0, .int .i64 0, .string ⟨#[]⟩]), 8, 88) := by kernel_rfl
def Ta.at_ (t : Ta) (A : Option Addr) (c : Nat) : Ta := ⟨t.nm, t.cs, t.key, t.ref, t.par, A, c⟩
def kTabV (o : Option Ta) (N : Nat) : Known := .mem (fun v w => ∃ t A c, o = some t ∧ v = .agg (Ta.cells (t.at_ A c)) ∧ CRow w A t.cs ∧ ∀ p, A = some p → N ≤ p.block) (fun _ _ _ ⟨t, A, c, h1, h2, h3, h4⟩ hb => ⟨t, A, c, h1, h2, h3.ext hb, h4⟩)
def kTabS (o : Option Ta) (N : Nat) : Known := .mem (fun v w => ∃ t A c g, o = some t ∧ v = .slice (some ⟨g, 0, none⟩) 1 1 ∧ Blk w g (Ta.cells (t.at_ A c)) 66 ∧ CRow w A t.cs ∧ ∀ p, A = some p → N ≤ p.block) (fun _ _ _ ⟨t, A, c, g, h1, h2, h0, h3, h4⟩ hb => ⟨t, A, c, g, h1, h2, h0.ext hb, h3.ext hb, h4⟩)
def kActV (o : Option Ac) (N : Nat) : Known := .mem (fun v w => ∃ a A c, o = some a ∧ v = a.agg A c ∧ VRow w A a.row ∧ ∀ p, A = some p → N ≤ p.block) (fun _ _ _ ⟨t, A, c, h1, h2, h3, h4⟩ hb => ⟨t, A, c, h1, h2, h3.ext hb, h4⟩)
def kActS (o : Option Ac) (N : Nat) : Known := .mem (fun v w => ∃ a A c g, o = some a ∧ v = .slice (some ⟨g, 0, none⟩) 1 1 ∧ Blk w g (Am.cells ⟨a, A, c⟩).toArray 42 ∧ VRow w A a.row ∧ ∀ p, A = some p → N ≤ p.block) (fun _ _ _ ⟨t, A, c, g, h1, h2, h0, h3, h4⟩ hb => ⟨t, A, c, g, h1, h2, h0.ext hb, h3.ext hb, h4⟩)
def TabM (st : Ls) (o : Option Ta) (b base B : Nat) (L : List Am) (C : Option Addr) (kL : Nat) (cs : Array Value) (w : World) (v : Value) (w' : World) : Prop :=
 ∃ t T A c, o = some t ∧ v = .slice A (List.length T) c ∧ Blk w' b cs 85 ∧ RdI base T A c L C kL w' ∧ T.map Ta.z = st.ts ++ [t] ∧ Below B w w' ∧ Oth b w w'
def ActM (st : Ls) (o : Option Ac) (b base B : Nat) (T : List Ta) (A : Option Addr) (kT : Nat) (cs : Array Value) (w : World) (v : Value) (w' : World) : Prop :=
 ∃ a L C c, o = some a ∧ v = .slice C (List.length L) c ∧ Blk w' b cs 85 ∧ RdI base T A kT L C c w' ∧ L.map (·.a) = st.l ++ [a] ∧ Below B w w' ∧ Oth b w w'
theorem TabM.mk' {st : Ls} {o : Option Ta} {b base B : Nat} {T : List Ta} {A : Option Addr} {kT : Nat} {L : List Am} {C : Option Addr} {kL : Nat} {cs : Array Value} {w w2 w8 : World} {t : Ta} {P : Option Addr} {k g c : Nat}
  (hbb : b < base) (hB : B ≤ b) (ho : o = some t) (hz : t = t.z) (htw : t.wf) (hI : RdI base T A kT L C kL w) (hb2 : Below w.heap.size w w2) (hk : Blk w b cs 85) (hc : CRow w2 P t.cs) (hP : ∀ p, P = some p → w.heap.size ≤ p.block) (hT : T.map Ta.z = st.ts) (hBw : B ≤ w.heap.size)
  (hown : w8.ownsRow base 66 5 (.slice (some ⟨g, 0, none⟩) (T.length + 1) c) (T.length + 1) (tcells T ++ tcells [t.at_ P k])) (hg : w2.grownBy w8 (Value.slice A T.length kT).ownBlock) (hat : (Value.slice A T.length kT).ownBlock = some g ∨ g = w2.heap.size) :
  TabM st o b base B L C kL cs w (.slice (some ⟨g, 0, none⟩) (T.length + 1) c) w8 := by
 have hI2 := hI.ext hb2
 have hge := own_ge hI2.oT
 refine ⟨t, T ++ [t.at_ P k], some ⟨g, 0, none⟩, c, ho, by rw [List.length_append]; rfl, ?_, ?_, ?_, ?_, ?_⟩
 · exact blk_grown (hk.ext hb2) hg (fun e => by have := hge b e; omega)
 · refine hI2.addT (t := t.at_ P k) htw hc (fun _ => ?_) hown hg hat
   intro p e
   have h1 := hP p e
   refine ⟨Nat.le_trans hI.hb h1, fun q hq => ?_, fun q hq => ?_⟩
   · have := (hI.oT.lt q.block (by rw [own_blk, hq]; rfl)).2
     omega
   · have := (hI.oL.lt q.block (by rw [own_blk, hq]; rfl)).2
     omega
 · rw [List.map_append, hT]
   show st.ts ++ [t.z] = _
   rw [← hz]
 · exact ((hb2.mono hBw)).grown hg (by have := hb2.size; omega) (fun q hq => by have := hge q hq; omega)
 · exact (Oth.below hb2).trans (Oth.own hI2.oT hg (Or.inl rfl))
theorem ActM.mk' {st : Ls} {o : Option Ac} {b base B : Nat} {T : List Ta} {A : Option Addr} {kT : Nat} {L : List Am} {C : Option Addr} {kL : Nat} {cs : Array Value} {w w2 w8 : World} {a : Ac} {P : Option Addr} {k g c : Nat}
  (hbb : b < base) (hB : B ≤ b) (ho : o = some a) (htw : a.wf) (hI : RdI base T A kT L C kL w) (hb2 : Below w.heap.size w w2) (hk : Blk w b cs 85) (hc : VRow w2 P a.row) (hP : ∀ p, P = some p → w.heap.size ≤ p.block) (hT : L.map (·.a) = st.l) (hBw : B ≤ w.heap.size)
  (hown : w8.ownsRow base 42 8 (.slice (some ⟨g, 0, none⟩) (L.length + 1) c) (L.length + 1) (acells L ++ acells [⟨a, P, k⟩])) (hg : w2.grownBy w8 (Value.slice C L.length kL).ownBlock) (hat : (Value.slice C L.length kL).ownBlock = some g ∨ g = w2.heap.size) :
  ActM st o b base B T A kT cs w (.slice (some ⟨g, 0, none⟩) (L.length + 1) c) w8 := by
 have hI2 := hI.ext hb2
 have hge := own_ge hI2.oL
 refine ⟨a, L ++ [⟨a, P, k⟩], some ⟨g, 0, none⟩, c, ho, by rw [List.length_append]; rfl, ?_, ?_, ?_, ?_, ?_⟩
 · exact blk_grown (hk.ext hb2) hg (fun e => by have := hge b e; omega)
 · refine hI2.addL (x := ⟨a, P, k⟩) htw hc (fun _ => ?_) hown hg hat
   intro p e
   have h1 := hP p e
   refine ⟨Nat.le_trans hI.hb h1, fun q hq => ?_, fun q hq => ?_⟩
   · have := (hI.oT.lt q.block (by rw [own_blk, hq]; rfl)).2
     omega
   · have := (hI.oL.lt q.block (by rw [own_blk, hq]; rfl)).2
     omega
 · rw [List.map_append, hT]
   rfl
 · exact ((hb2.mono hBw)).grown hg (by have := hb2.size; omega) (fun q hq => by have := hge q hq; omega)
 · exact (Oth.below hb2).trans (Oth.own hI2.oL hg (Or.inr rfl))
theorem lineq_no {st : Ls} {l : List UInt8} {b base B : Nat} {w w3 : World} {a c : Value} {x : Ls} (hBw : B ≤ w.heap.size) (h : lineF st l = none) (hb : Below w.heap.size w w3) (hk : Blk w b (rdArr a c x st.n) 85) : LineQ st l b base B w gaveW w3 := ⟨hb.mono hBw, Oth.below hb, Or.inr ⟨h, rfl, a, c, x, hk.ext hb⟩⟩
theorem lineq_no2 {st : Ls} {l : List UInt8} {b base B : Nat} {w w1 w3 : World} {a c : Value} {x : Ls} (hBw : B ≤ w1.heap.size) (h : lineF st l = none) (h1 : Below B w w1) (ho : Oth b w w1) (hb : Below w1.heap.size w1 w3) (hk : Blk w1 b (rdArr a c x st.n) 85) : LineQ st l b base B w gaveW w3 := ⟨h1.trans (hb.mono hBw), ho.trans (Oth.below hb), Or.inr ⟨h, rfl, a, c, x, hk.ext hb⟩⟩
theorem sch_le {ts : List Ta} (h : schB ts = true) : ts.length ≤ 99 := by
 unfold schB at h
 simp only [Bool.and_eq_true, decide_eq_true_eq] at h
 omega
set_option maxRecDepth 100000 in
set_option maxHeartbeats 6400000 in
theorem line_any (st : Ls) (s : ByteArray) (hs : s.size < 4294967281) (b base B : Nat) (hBb : B ≤ b) (hbb : b < base) (w : World) (hL : ∀ W, Below B w W → LayS W) (hR : RdB b base st st.n w) (ht : st.ts.length ≤ 99) (hl : st.l.length ≤ 4294967000) :
  Calls Tryz.prog 49 #[.pointer (some ⟨b, 0, none⟩), .string s] w (LineQ st s.data.toList b base B w) := by
 obtain ⟨T, A, kT, L, C, kL, hk, hI, hTz, hLa⟩ := hR
 have hBw : B ≤ w.heap.size := by have := hk.lt; omega
 have HTE : Hid (T.length = st.ts.length) := by show _ = _; rw [← hTz]; simp
 have HLE : Hid (L.length = st.l.length) := by show _ = _; rw [← hLa]; simp
 have hsl : s.data.toList.length ≤ 140737488355328 := by
  have : s.data.toList.length = s.size := by simp
  omega
 have HSL := hd_ hsl
 have HI := hd_ hI
 have HTZ := hd_ hTz
 have HLA := hd_ hLa
 have HL := hd_ hL
 have HK : Hid (Blk w b #[.slice A T.length kT, .int .i64 st.seg, .int .i64 st.bd, .int .i64 st.r0, .int .i64 st.r1, .int .i64 st.r2, .slice C L.length kL, .int .i64 st.n, .bool st.acts] 85) := hk
 obtain ⟨bl, y0, y1, y2, y3, y4, y5, y6, y7, y8⟩ := blk9 HK.out
 by_cases hn : st.n < 3
 · have HD := hd_ (head_any st hn s hs (.slice A T.length kT) (.slice C L.length kL) b B hBb w hL hk)
   have hnI : (st.n : Int) < 3 := by omega
   clear hk hI hTz hLa hL
   go_enter Tryz.func49, Tryz.ntmps49
   go_wp2_with fail
   refine HD.out.mono ?_
   rintro r w1 hq
   rcases hq with ⟨st', h1, rfl, hg, hk1⟩ | ⟨h1, rfl, hg, x, hk1⟩
   · have HQ : Hid (LineQ st s.data.toList b base B w (.returned (.tuple #[])) w1) := by
      obtain ⟨e1, e2, e3⟩ := headF_keeps h1
      refine ⟨gr_low hg hBb hBw, Oth.gr hg, Or.inl ⟨st', by unfold lineF; rw [if_pos hn]; exact h1, rfl, ?_⟩⟩
      exact ⟨T, A, kT, L, C, kL, hk1, HI.out.gr hg hbb, by rw [e1]; exact HTZ.out, by rw [e2]; exact HLA.out⟩
     clear h1 hg hk1
     go_wp2_with fail
     go_end0
     exact HQ.out
   · have HQ : Hid (LineQ st s.data.toList b base B w gaveW w1) := by
      exact ⟨gr_low hg hBb hBw, Oth.gr hg, Or.inr ⟨by unfold lineF; rw [if_pos hn]; exact h1, rfl, _, _, x, hk1⟩⟩
     clear h1 hg hk1
     unfold gaveW
     go_wp2_with fail
     exact ⟨rfl, HQ.out⟩
 · have hnI : ¬ (st.n : Int) < 3 := by omega
   have HLF : Hid (lineF st s.data.toList = bodyF st s.data.toList) := by show _ = _; unfold lineF; rw [if_neg hn]
   have HPX : Hid (∀ W : World, Calls Tryz.prog 89 #[.string s, .string ⟨#[116, 97, 98, 108, 101, 32]⟩] W fun r w' => r = .returned (.bool (Lib.hasPrefix s.data.toList tTab6)) ∧ w' = W) := fun W => Tryz.strings_HasPrefix s ⟨#[116, 97, 98, 108, 101, 32]⟩ W
   obtain ⟨hp, hhp⟩ : ∃ hp, hp = Lib.hasPrefix s.data.toList tTab6 := ⟨_, rfl⟩
   obtain ⟨ha, hha⟩ : ∃ ha, ha = st.acts := ⟨_, rfl⟩
   rw [← hhp] at HPX
   rw [← hha] at y8 HK
   have HHP := hd_ hhp
   have HHA := hd_ hha
   clear hk hI hTz hLa hL hhp hha hn
   by_cases htab : ha = false ∧ hp = true
   · obtain ⟨rfl, rfl⟩ := htab
     have HBF := hd_ (bodyF_tab HHA.out.symm HHP.out.symm)
     have HRT := hd_ (fun (W : World) (hW : Below w.heap.size w W) => readTable_any s hs W (HL.out W (hW.mono hBw)))
     obtain ⟨i0, hi0, hz0, hz1, hz2⟩ := info_parts info_tabT
     go_enter Tryz.func49, Tryz.ntmps49
     go_wp2_with fail
     refine (HPX.out _).mono ?_
     rintro r wq ⟨rfl, hw⟩
     rw [hw]
     clear hw wq
     go_upto_region 3 with fail
     clear y0 y1 y2 y3 y4 y5 y6 y7 y8 HHP HPX
     refine region_app 15 10 _ [false, false, false, false, false, false, false, false, false, false, false, false, false, false, false, false, false, false, false, false, false, true, true, true, true, true, true, true, true, true, true, true, true, true, true, true, false, false, false, false, false, false, false, false, false, false, false, false, false, false, false, false, false, false, false, false, false, false, false, false, false, false, false, false, false, false, false] [21, 22, 23, 24, 25, 26, 27, 28, 29, 30, 31, 32, 33, 34, 35] [.val (.pointer (some ⟨b, 0, none⟩)), .val (.pointer (some ⟨b, 0, none⟩)), .val (.pointer (some ⟨b, 0, none⟩)), .val (.pointer (some ⟨b, 0, none⟩)), .val (.pointer (some ⟨b, 0, none⟩)), .val (.pointer (some ⟨b, 0, none⟩)), .val (.slice A T.length kT), .val (.string s), kTabV (readT s.data.toList) w.heap.size, kTabS (readT s.data.toList) w.heap.size, kAny, .val (.pointer (some ⟨b, 0, none⟩)), .val (.pointer (some ⟨b, 0, none⟩)), .val (.pointer (some ⟨b, 0, none⟩)), .val (.pointer (some ⟨b, 0, none⟩))] [0, 11, 12, 13, 14] (fun _ => True) (TabM st (readT s.data.toList) b base B L C kL #[.slice A T.length kT, .int .i64 st.seg, .int .i64 st.bd, .int .i64 st.r0, .int .i64 st.r1, .int .i64 st.r2, .slice C L.length kL, .int .i64 st.n, .bool false] w) [6, 9] [14] (fun _ _ => trivial) (fun _ _ _ => trivial) (by kernel_rfl) rfl rfl (by omega) (by kernel_rfl) (by kernel_rfl) (by kernel_rfl) rfl rfl rfl (by kernel_rfl) (by kernel_rfl) (by kernel_rfl) (by kernel_rfl) ⟨?_, ?_, ?_, ?_, ?_, ?_, ?_, ?_, ?_, ?_, ?app, ?_, ?_, ?_, ?_, trivial⟩ ?done
     case app =>
      intro x w2 hb2
      simp only [StepGoal, List.getD_cons_zero, List.getD_cons_succ]
      rintro _ ⟨t, P, k, g, hO, rfl, hg, hcr, hpb⟩ K hK
      rw [if_pos (by rfl)]
      simp only [overlay, upd, cond_true, cond_false, Nat.reduceEqDiff, reduceIte]
      obtain ⟨hzz, ⟨htw, _⟩, _⟩ := (readT_some HSL.out).1 hO
      have hI2 := HI.out.ext hb2
      refine wp_append_lies w2 (.tmp 27) (.tmp 30) 22 rfl base 66 i0 _ 5 64 Tryz.underlying22 hi0 hz0 hz1 hz2 rfl (by decide) (.slice A T.length kT) T.length (tcells T) rfl hI2.oT ⟨g, 0, none⟩ 1 1 (tcells [t.at_ P k]) rfl rfl (cells_blkL (l := tcells [t.at_ P k]) hg) (by simp [tcells, Value.oneCell']) (by decide) (by have := HTE.out; simp only [maxLen]; omega) (by have := HTE.out; omega) hI2.hb _ rfl ?_
      intro g8 c8 w8 hown8 hg8 hat8 _
      exact hK.out _ _ (TabM.mk' hbb hBb hO hzz htw HI.out hb2 HK.out hcr hpb HTZ.out hBw hown8 hg8 hat8)
     case done =>
      rintro x w2 v2 ⟨t, T', A', c', hO, rfl, hB', hI', hT', hbw', ho'⟩
      simp only [StepGoal, List.getD_cons_zero, List.getD_cons_succ]
      intro K hK
      obtain ⟨w3, rfl, lt⟩ := blk_put hB'
      obtain ⟨pc, pf, pS⟩ := putBlk_facts (w := w3) 85 lt
      have HBN := hd_ (putBlk_blk (w := w3) (b := b) #[.slice A' T'.length c', .int .i64 st.seg, .int .i64 st.bd, .int .i64 st.r0, .int .i64 st.r1, .int .i64 st.r2, .slice C L.length kL, .int .i64 st.n, .bool false] 85 lt)
      have HIN := hd_ (hI'.gr (gr_put w3 b #[.slice A T.length kT, .int .i64 st.seg, .int .i64 st.bd, .int .i64 st.r0, .int .i64 st.r1, .int .i64 st.r2, .slice C L.length kL, .int .i64 st.n, .bool false] #[.slice A' T'.length c', .int .i64 st.seg, .int .i64 st.bd, .int .i64 st.r0, .int .i64 st.r1, .int .i64 st.r2, .slice C L.length kL, .int .i64 st.n, .bool false] 85) hbb)
      have HBW := hd_ (putBlk_belows hbw' hBb #[.slice A' T'.length c', .int .i64 st.seg, .int .i64 st.bd, .int .i64 st.r0, .int .i64 st.r1, .int .i64 st.r2, .slice C L.length kL, .int .i64 st.n, .bool false])
      have HOT := hd_ (ho'.trans (Oth.gr (gr_put w3 b #[.slice A T.length kT, .int .i64 st.seg, .int .i64 st.bd, .int .i64 st.r0, .int .i64 st.r1, .int .i64 st.r2, .slice C L.length kL, .int .i64 st.n, .bool false] #[.slice A' T'.length c', .int .i64 st.seg, .int .i64 st.bd, .int .i64 st.r0, .int .i64 st.r1, .int .i64 st.r2, .slice C L.length kL, .int .i64 st.n, .bool false] 85)))
      clear hB' hI' hbw' ho'
      rw [if_pos (by rfl)]; simp only [overlay, upd, cond_true, cond_false, Nat.reduceEqDiff, reduceIte]
      go_simp
      refine hK.out _ _ ?_
      clear hK pc pf pS lt
      generalize putBlk w3 b #[.slice A' T'.length c', .int .i64 st.seg, .int .i64 st.bd, .int .i64 st.r0, .int .i64 st.r1, .int .i64 st.r2, .slice C L.length kL, .int .i64 st.n, .bool false] 85 = W2 at HBN HIN HBW HOT ⊢
      have HCK := hd_ (check13_any T' A' c' W2 (HIN.out.trow (by
       have := congrArg List.length hT'
       simp only [List.length_map, List.length_append, List.length_cons, List.length_nil] at this
       omega)))
      have HO := hd_ hO
      have HT := hd_ hT'
      have HSC : Hid (schB (st.ts ++ [t]) = schB T') := by show _ = _; rw [← hT', sch_z]
      clear hO hT'
      obtain ⟨bl, y0, y1, y2, y3, y4, y5, y6, y7, y8⟩ := blk9 HBN.out
      go_wp2_with fail
      refine HCK.out.mono ?_
      rintro r w9 ⟨rfl, hb9⟩
      have hbl9 := bt (Below.refl _ _) hb9
      have HB9 := hd_ (HBW.out.trans (hb9.mono (by have := HBW.out.size; omega)))
      have HO9 := hd_ (HOT.out.trans (Oth.below hb9))
      have HK9 := hd_ (HBN.out.ext hb9)
      have HI9 := hd_ (HIN.out.ext hb9)
      clear hb9 hbl9 y0 y1 y2 y3 y4 y5 y6 y7 y8 bl HCK HBN HIN HBW HOT
      cases hsc : schB T' with
      | true =>
       have HQ : Hid (LineQ st s.data.toList b base B w (.returned (.tuple #[])) w9) := by
        refine ⟨HB9.out, HO9.out, Or.inl ⟨{ st with ts := st.ts ++ [t], n := st.n + 1 }, ?_, rfl, ?_⟩⟩
        · rw [HLF.out, HBF.out, HO.out]
          simp only
          rw [HSC.out, hsc, if_pos rfl]
        · refine ⟨T', A', c', L, C, kL, ?_, HI9.out, HT.out, HLA.out⟩
          have h9 := HK9.out
          rw [HHA.out] at h9
          exact h9
       clear hsc
       go_wp2_with fail
       refine (need_yes _).mono ?_
       rintro r wz ⟨rfl, rfl⟩
       go_wp2_with fail
       go_end0
       exact HQ.out
      | false =>
       have HQ : Hid (LineQ st s.data.toList b base B w gaveW w9) := by
        refine ⟨HB9.out, HO9.out, Or.inr ⟨?_, rfl, .slice A' T'.length c', .slice C L.length kL, { st with acts := false }, HK9.out⟩⟩
        rw [HLF.out, HBF.out, HO.out]
        simp only
        rw [HSC.out, hsc, if_neg (by simp)]
       clear hsc
       go_wp2_with fail
       refine (need_no _).mono ?_
       rintro r wz ⟨rfl, rfl⟩
       unfold gaveW
       go_wp2_with fail
       exact ⟨rfl, HQ.out⟩
     all_goals
      intro x w2 hb2
      first
       | (intro K hK
          have hk2 := HK.out.ext hb2
          obtain ⟨bl, y0, y1, y2, y3, y4, y5, y6, y7, y8⟩ := blk9 hk2
          rw [if_pos (by rfl)]; simp only [overlay, upd, cond_true, cond_false, List.getD_cons_zero, List.getD_cons_succ, Nat.reduceEqDiff, reduceIte]
          go_simp
          first
           | exact hK.out _ _ (Below.refl _ _) rfl
           | exact hK.out _ rfl
           | (refine (HRT.out _ hb2).mono ?_
              rintro r w3 ⟨hr, hb3⟩
              cases hrt : readT s.data.toList with
              | none =>
               rw [hrt] at hr
               obtain rfl : r = gaveW := hr
               have HQ : Hid (LineQ st s.data.toList b base B w gaveW w3) := lineq_no (a := .slice A T.length kT) (c := .slice C L.length kL) (x := { st with acts := false }) hBw (by rw [HLF.out, HBF.out, hrt]) (bt hb2 hb3) HK.out
               clear hb3 hrt
               unfold gaveW
               go_wp2_with fail
               exact ⟨rfl, HQ.out⟩
              | some t =>
               rw [hrt] at hr
               obtain ⟨P, k, rfl, hcr, hpb⟩ := hr
               have hsz := hb2.size
               go_wp2_with fail
               exact hK.out _ _ hb3 ⟨t, P, k, hrt, rfl, hcr, fun p hp => Nat.le_trans hsz (hpb p hp)⟩))
       | (rintro _ ⟨t, P, k, hO, rfl, hcr, hpb⟩ K hK
          rw [if_pos (by rfl)]; simp only [overlay, upd, cond_true, cond_false, List.getD_cons_zero, List.getD_cons_succ, Nat.reduceEqDiff, reduceIte]
          go_simp
          exact hK.out _ _ (by repeat (first | exact Below.refl _ _ | assumption | refine Below.drew ?_ | refine below_drewN ?_ _ | refine Below.alloc ?_ (by simp <;> omega) _)) ⟨t, P, k, _, hO, rfl, Blk.new _ _ _, hcr.ext (by repeat (first | exact Below.refl _ _ | assumption | refine Below.drew ?_ | refine below_drewN ?_ _ | refine Below.alloc ?_ (by simp <;> omega) _)), hpb⟩)
       | ((first | change StepGoal _ _ _ _ [] x | change StepGoal _ _ _ _ [0, 0] x | change StepGoal _ _ _ _ [11, 0] x | change StepGoal _ _ _ _ [12, 0] x | change StepGoal _ _ _ _ [13, 0] x)
          simp only [StepGoal, List.getD_cons_zero, List.getD_cons_succ]
          intro K hK
          rw [if_pos (by rfl)]; simp only [overlay, upd, cond_true, cond_false, Nat.reduceEqDiff, reduceIte]
          go_simp
          exact hK.out _ rfl)
   · have HOR : Hid (st.acts = true ∨ Lib.hasPrefix s.data.toList tTab6 = false) := by
      show _ ∨ _
      rw [← HHA.out, ← HHP.out]
      cases ha
      · cases hp
        · exact Or.inr rfl
        · exact absurd ⟨rfl, rfl⟩ htab
      · exact Or.inl rfl
     have HBF := hd_ (bodyF_act HOR.out)
     obtain ⟨i0, hi0, hz0, hz1, hz2⟩ := info_parts info_act
     have hcase : ha = true ∨ (ha = false ∧ hp = false) := by
      cases ha
      · cases hp
        · exact Or.inr ⟨rfl, rfl⟩
        · exact absurd ⟨rfl, rfl⟩ htab
      · exact Or.inl rfl
     clear htab HHP HHA HOR
     rcases hcase with rfl | ⟨rfl, rfl⟩
     · clear HPX
       go_enter Tryz.func49, Tryz.ntmps49
       go_upto_region 5 with fail
       by_cases hT0 : T.length = 0
       · have HQ : Hid (LineQ st s.data.toList b base B w gaveW w) := lineq_no (a := .slice A T.length kT) (c := .slice C L.length kL) (x := { st with acts := true }) hBw (by rw [HLF.out, HBF.out, if_pos (by rw [← HTE.out]; exact hT0)]) (Below.refl _ _) HK.out
         have hgt : ¬ (0 : Int) < T.length := by omega
         clear hT0
         go_wp2_with fail
         rw [show decide (0 < T.length) = false from decide_eq_false (by omega)]
         refine (need_no _).mono ?_
         rintro r wz ⟨rfl, hw⟩
         rw [hw]
         clear hw wz
         unfold gaveW
         go_wp2_with fail
         exact ⟨rfl, HQ.out⟩
       · have HT0 : Hid (¬ st.ts.length = 0) := by show ¬ _; rw [← HTE.out]; exact hT0
         have hgt : (0 : Int) < T.length := by omega
         clear hT0
         go_wp2_with fail
         rw [show decide (0 < T.length) = true from decide_eq_true (by omega)]
         refine (need_yes _).mono ?_
         rintro r wz ⟨rfl, hw⟩
         rw [hw]
         clear hw wz
         obtain ⟨w3, hw3, lt⟩ := blk_put HK.out
         obtain ⟨pc, pf, pS⟩ := putBlk_facts (w := w3) 85 lt
         have HK1 := hd_ (putBlk_blk (w := w3) (b := b) #[.slice A T.length kT, .int .i64 st.seg, .int .i64 st.bd, .int .i64 st.r0, .int .i64 st.r1, .int .i64 st.r2, .slice C L.length kL, .int .i64 st.n, .bool true] 85 lt)
         have hgr : w.grownBy (putBlk w3 b #[.slice A T.length kT, .int .i64 st.seg, .int .i64 st.bd, .int .i64 st.r0, .int .i64 st.r1, .int .i64 st.r2, .slice C L.length kL, .int .i64 st.n, .bool true] 85) (some b) := by
          rw [hw3]
          exact gr_put w3 b _ _ _
         have HI1 := hd_ (HI.out.gr hgr hbb)
         have HB1 := hd_ (gr_low hgr hBb hBw)
         have HO1 := hd_ (Oth.gr hgr)
         clear y0 y1 y2 y3 y4 y5 y6 y7 y8 bl hgr
         rw [hw3]
         clear hw3
         go_upto_region 7 with fail
         clear pc pf pS lt
         generalize putBlk w3 b #[.slice A T.length kT, .int .i64 st.seg, .int .i64 st.bd, .int .i64 st.r0, .int .i64 st.r1, .int .i64 st.r2, .slice C L.length kL, .int .i64 st.n, .bool true] 85 = w1 at HK1 HI1 HB1 HO1 ⊢
         have hB1 : B ≤ w1.heap.size := by have := HB1.out.size; omega
         have HRA := hd_ (fun (W : World) (hW : Below w1.heap.size w1 W) => readAct_any s hs W (HL.out W (HB1.out.trans (hW.mono hB1))))
         refine region_app 11 8 _ [false, false, false, false, false, false, false, false, false, false, false, false, false, false, false, false, false, false, false, false, false, false, false, false, false, false, false, false, false, false, false, false, false, false, false, false, false, false, false, false, false, false, false, false, false, false, false, false, false, false, false, false, false, false, false, false, true, true, true, true, true, true, true, true, true, true, true] [56, 57, 58, 59, 60, 61, 62, 63, 64, 65, 66] [.val (.pointer (some ⟨b, 0, none⟩)), .val (.pointer (some ⟨b, 0, none⟩)), .val (.pointer (some ⟨b, 0, none⟩)), .val (.pointer (some ⟨b, 6, none⟩)), .val (.slice C L.length kL), .val (.string s), kActV (readA s.data.toList) w1.heap.size, kActS (readA s.data.toList) w1.heap.size, kAny, .val (.pointer (some ⟨b, 0, none⟩)), .val (.pointer (some ⟨b, 6, none⟩))] [0, 9, 10] (fun _ => True) (ActM st (readA s.data.toList) b base B T A kT #[.slice A T.length kT, .int .i64 st.seg, .int .i64 st.bd, .int .i64 st.r0, .int .i64 st.r1, .int .i64 st.r2, .slice C L.length kL, .int .i64 st.n, .bool true] w1) [4, 7] [10] (fun _ _ => trivial) (fun _ _ _ => trivial) (by kernel_rfl) rfl rfl (by omega) (by kernel_rfl) (by kernel_rfl) (by kernel_rfl) rfl rfl rfl (by kernel_rfl) (by kernel_rfl) (by kernel_rfl) (by kernel_rfl) ⟨?_, ?_, ?_, ?_, ?_, ?_, ?_, ?_, ?app, ?_, ?_, trivial⟩ ?done
         case app =>
          intro x w2 hb2
          simp only [StepGoal, List.getD_cons_zero, List.getD_cons_succ]
          rintro _ ⟨a, P, k, g, hO, rfl, hg, hvr, hpb⟩ K hK
          rw [if_pos (by rfl)]
          simp only [overlay, upd, cond_true, cond_false, Nat.reduceEqDiff, reduceIte]
          obtain ⟨haw, _⟩ := (readA_some HSL.out).1 hO
          have hI2 := HI1.out.ext hb2
          refine wp_append_lies w2 (.tmp 60) (.tmp 63) 28 rfl base 42 i0 _ 8 88 Tryz.underlying28 hi0 hz0 hz1 hz2 rfl (by decide) (.slice C L.length kL) L.length (acells L) rfl hI2.oL ⟨g, 0, none⟩ 1 1 (acells [⟨a, P, k⟩]) rfl rfl (cells_blkL (l := acells [⟨a, P, k⟩]) hg) (by simp [acells, Am.cells, Value.oneCell']) (by decide) (by have := HLE.out; simp only [maxLen]; omega) (by have := HLE.out; omega) hI2.hb _ rfl ?_
          intro g8 c8 w8 hown8 hg8 hat8 _
          exact hK.out _ _ (ActM.mk' hbb hBb hO haw HI1.out hb2 HK1.out hvr hpb HLA.out hB1 hown8 hg8 hat8)
         case done =>
          rintro x w2 v2 ⟨a, L', C', c', hO, rfl, hB', hI', hL', hbw', ho'⟩
          simp only [StepGoal, List.getD_cons_zero, List.getD_cons_succ]
          intro K hK
          obtain ⟨w3, rfl, lt⟩ := blk_put hB'
          obtain ⟨pc, pf, pS⟩ := putBlk_facts (w := w3) 85 lt
          have HBN := hd_ (putBlk_blk (w := w3) (b := b) #[.slice A T.length kT, .int .i64 st.seg, .int .i64 st.bd, .int .i64 st.r0, .int .i64 st.r1, .int .i64 st.r2, .slice C' L'.length c', .int .i64 st.n, .bool true] 85 lt)
          have HIN := hd_ (hI'.gr (gr_put w3 b #[.slice A T.length kT, .int .i64 st.seg, .int .i64 st.bd, .int .i64 st.r0, .int .i64 st.r1, .int .i64 st.r2, .slice C L.length kL, .int .i64 st.n, .bool true] #[.slice A T.length kT, .int .i64 st.seg, .int .i64 st.bd, .int .i64 st.r0, .int .i64 st.r1, .int .i64 st.r2, .slice C' L'.length c', .int .i64 st.n, .bool true] 85) hbb)
          have HBW := hd_ (putBlk_belows hbw' hBb #[.slice A T.length kT, .int .i64 st.seg, .int .i64 st.bd, .int .i64 st.r0, .int .i64 st.r1, .int .i64 st.r2, .slice C' L'.length c', .int .i64 st.n, .bool true])
          have HOT := hd_ (ho'.trans (Oth.gr (gr_put w3 b #[.slice A T.length kT, .int .i64 st.seg, .int .i64 st.bd, .int .i64 st.r0, .int .i64 st.r1, .int .i64 st.r2, .slice C L.length kL, .int .i64 st.n, .bool true] #[.slice A T.length kT, .int .i64 st.seg, .int .i64 st.bd, .int .i64 st.r0, .int .i64 st.r1, .int .i64 st.r2, .slice C' L'.length c', .int .i64 st.n, .bool true] 85)))
          clear hB' hI' hbw' ho'
          rw [if_pos (by rfl)]; simp only [overlay, upd, cond_true, cond_false, Nat.reduceEqDiff, reduceIte]
          go_simp
          refine hK.out _ _ ?_
          clear hK pc pf pS lt
          generalize putBlk w3 b #[.slice A T.length kT, .int .i64 st.seg, .int .i64 st.bd, .int .i64 st.r0, .int .i64 st.r1, .int .i64 st.r2, .slice C' L'.length c', .int .i64 st.n, .bool true] 85 = W2 at HBN HIN HBW HOT ⊢
          have HQ : Hid (LineQ st s.data.toList b base B w (.returned (.tuple #[])) W2) := by
           refine ⟨HB1.out.trans HBW.out, HO1.out.trans HOT.out, Or.inl ⟨{ st with l := st.l ++ [a], n := st.n + 1, acts := true }, ?_, rfl, T, A, kT, L', C', c', HBN.out, HIN.out, HTZ.out, hL'⟩⟩
           rw [HLF.out, HBF.out, if_neg HT0.out, hO]
          clear hO hL' HBN HIN HBW HOT
          go_wp2_with fail
          go_end0
          exact HQ.out
         all_goals
          intro x w2 hb2
          first
           | (intro K hK
              have hk2 := HK1.out.ext hb2
              obtain ⟨bl, y0, y1, y2, y3, y4, y5, y6, y7, y8⟩ := blk9 hk2
              rw [if_pos (by rfl)]; simp only [overlay, upd, cond_true, cond_false, List.getD_cons_zero, List.getD_cons_succ, Nat.reduceEqDiff, reduceIte]
              go_simp
              first
               | exact hK.out _ _ (Below.refl _ _) rfl
               | exact hK.out _ rfl
               | (refine (HRA.out _ hb2).mono ?_
                  rintro r w4 ⟨hr, hb3⟩
                  cases hrt : readA s.data.toList with
                  | none =>
                   rw [hrt] at hr
                   obtain rfl : r = gaveW := hr
                   have HQ : Hid (LineQ st s.data.toList b base B w gaveW w4) := lineq_no2 (a := .slice A T.length kT) (c := .slice C L.length kL) (x := { st with acts := true }) hB1 (by rw [HLF.out, HBF.out, if_neg HT0.out, hrt]) HB1.out HO1.out (bt hb2 hb3) HK1.out
                   clear hb3 hrt
                   unfold gaveW
                   go_wp2_with fail
                   exact ⟨rfl, HQ.out⟩
                  | some a =>
                   rw [hrt] at hr
                   obtain ⟨P, k, rfl, hvr, hpb⟩ := hr
                   have hsz := hb2.size
                   go_wp2_with fail
                   exact hK.out _ _ hb3 ⟨a, P, k, hrt, rfl, hvr, fun p hp => Nat.le_trans hsz (hpb p hp)⟩))
           | (rintro _ ⟨a, P, k, hO, rfl, hvr, hpb⟩ K hK
              rw [if_pos (by rfl)]; simp only [overlay, upd, cond_true, cond_false, List.getD_cons_zero, List.getD_cons_succ, Nat.reduceEqDiff, reduceIte]
              unfold Ac.agg
              go_simp
              exact hK.out _ _ (by repeat (first | exact Below.refl _ _ | assumption | refine Below.drew ?_ | refine below_drewN ?_ _ | refine Below.alloc ?_ (by simp <;> omega) _)) ⟨a, P, k, _, hO, rfl, Blk.new _ _ _, hvr.ext (by repeat (first | exact Below.refl _ _ | assumption | refine Below.drew ?_ | refine below_drewN ?_ _ | refine Below.alloc ?_ (by simp <;> omega) _)), hpb⟩)
           | ((first | change StepGoal _ _ _ _ [] x | change StepGoal _ _ _ _ [0, 0] x | change StepGoal _ _ _ _ [9, 0] x)
              simp only [StepGoal, List.getD_cons_zero, List.getD_cons_succ]
              intro K hK
              rw [if_pos (by rfl)]; simp only [overlay, upd, cond_true, cond_false, Nat.reduceEqDiff, reduceIte]
              go_simp
              exact hK.out _ rfl)
     · go_enter Tryz.func49, Tryz.ntmps49
       go_wp2_with fail
       refine (HPX.out _).mono ?_
       rintro r wq ⟨rfl, hw⟩
       rw [hw]
       clear hw wq HPX
       go_upto_region 5 with fail
       by_cases hT0 : T.length = 0
       · have HQ : Hid (LineQ st s.data.toList b base B w gaveW w) := lineq_no (a := .slice A T.length kT) (c := .slice C L.length kL) (x := { st with acts := false }) hBw (by rw [HLF.out, HBF.out, if_pos (by rw [← HTE.out]; exact hT0)]) (Below.refl _ _) HK.out
         have hgt : ¬ (0 : Int) < T.length := by omega
         clear hT0
         go_wp2_with fail
         rw [show decide (0 < T.length) = false from decide_eq_false (by omega)]
         refine (need_no _).mono ?_
         rintro r wz ⟨rfl, hw⟩
         rw [hw]
         clear hw wz
         unfold gaveW
         go_wp2_with fail
         exact ⟨rfl, HQ.out⟩
       · have HT0 : Hid (¬ st.ts.length = 0) := by show ¬ _; rw [← HTE.out]; exact hT0
         have hgt : (0 : Int) < T.length := by omega
         clear hT0
         go_wp2_with fail
         rw [show decide (0 < T.length) = true from decide_eq_true (by omega)]
         refine (need_yes _).mono ?_
         rintro r wz ⟨rfl, hw⟩
         rw [hw]
         clear hw wz
         obtain ⟨w3, hw3, lt⟩ := blk_put HK.out
         obtain ⟨pc, pf, pS⟩ := putBlk_facts (w := w3) 85 lt
         have HK1 := hd_ (putBlk_blk (w := w3) (b := b) #[.slice A T.length kT, .int .i64 st.seg, .int .i64 st.bd, .int .i64 st.r0, .int .i64 st.r1, .int .i64 st.r2, .slice C L.length kL, .int .i64 st.n, .bool true] 85 lt)
         have hgr : w.grownBy (putBlk w3 b #[.slice A T.length kT, .int .i64 st.seg, .int .i64 st.bd, .int .i64 st.r0, .int .i64 st.r1, .int .i64 st.r2, .slice C L.length kL, .int .i64 st.n, .bool true] 85) (some b) := by
          rw [hw3]
          exact gr_put w3 b _ _ _
         have HI1 := hd_ (HI.out.gr hgr hbb)
         have HB1 := hd_ (gr_low hgr hBb hBw)
         have HO1 := hd_ (Oth.gr hgr)
         clear y0 y1 y2 y3 y4 y5 y6 y7 y8 bl hgr
         rw [hw3]
         clear hw3
         go_upto_region 7 with fail
         clear pc pf pS lt
         generalize putBlk w3 b #[.slice A T.length kT, .int .i64 st.seg, .int .i64 st.bd, .int .i64 st.r0, .int .i64 st.r1, .int .i64 st.r2, .slice C L.length kL, .int .i64 st.n, .bool true] 85 = w1 at HK1 HI1 HB1 HO1 ⊢
         have hB1 : B ≤ w1.heap.size := by have := HB1.out.size; omega
         have HRA := hd_ (fun (W : World) (hW : Below w1.heap.size w1 W) => readAct_any s hs W (HL.out W (HB1.out.trans (hW.mono hB1))))
         refine region_app 11 8 _ [false, false, false, false, false, false, false, false, false, false, false, false, false, false, false, false, false, false, false, false, false, false, false, false, false, false, false, false, false, false, false, false, false, false, false, false, false, false, false, false, false, false, false, false, false, false, false, false, false, false, false, false, false, false, false, false, true, true, true, true, true, true, true, true, true, true, true] [56, 57, 58, 59, 60, 61, 62, 63, 64, 65, 66] [.val (.pointer (some ⟨b, 0, none⟩)), .val (.pointer (some ⟨b, 0, none⟩)), .val (.pointer (some ⟨b, 0, none⟩)), .val (.pointer (some ⟨b, 6, none⟩)), .val (.slice C L.length kL), .val (.string s), kActV (readA s.data.toList) w1.heap.size, kActS (readA s.data.toList) w1.heap.size, kAny, .val (.pointer (some ⟨b, 0, none⟩)), .val (.pointer (some ⟨b, 6, none⟩))] [0, 9, 10] (fun _ => True) (ActM st (readA s.data.toList) b base B T A kT #[.slice A T.length kT, .int .i64 st.seg, .int .i64 st.bd, .int .i64 st.r0, .int .i64 st.r1, .int .i64 st.r2, .slice C L.length kL, .int .i64 st.n, .bool true] w1) [4, 7] [10] (fun _ _ => trivial) (fun _ _ _ => trivial) (by kernel_rfl) rfl rfl (by omega) (by kernel_rfl) (by kernel_rfl) (by kernel_rfl) rfl rfl rfl (by kernel_rfl) (by kernel_rfl) (by kernel_rfl) (by kernel_rfl) ⟨?_, ?_, ?_, ?_, ?_, ?_, ?_, ?_, ?app, ?_, ?_, trivial⟩ ?done
         case app =>
          intro x w2 hb2
          simp only [StepGoal, List.getD_cons_zero, List.getD_cons_succ]
          rintro _ ⟨a, P, k, g, hO, rfl, hg, hvr, hpb⟩ K hK
          rw [if_pos (by rfl)]
          simp only [overlay, upd, cond_true, cond_false, Nat.reduceEqDiff, reduceIte]
          obtain ⟨haw, _⟩ := (readA_some HSL.out).1 hO
          have hI2 := HI1.out.ext hb2
          refine wp_append_lies w2 (.tmp 60) (.tmp 63) 28 rfl base 42 i0 _ 8 88 Tryz.underlying28 hi0 hz0 hz1 hz2 rfl (by decide) (.slice C L.length kL) L.length (acells L) rfl hI2.oL ⟨g, 0, none⟩ 1 1 (acells [⟨a, P, k⟩]) rfl rfl (cells_blkL (l := acells [⟨a, P, k⟩]) hg) (by simp [acells, Am.cells, Value.oneCell']) (by decide) (by have := HLE.out; simp only [maxLen]; omega) (by have := HLE.out; omega) hI2.hb _ rfl ?_
          intro g8 c8 w8 hown8 hg8 hat8 _
          exact hK.out _ _ (ActM.mk' hbb hBb hO haw HI1.out hb2 HK1.out hvr hpb HLA.out hB1 hown8 hg8 hat8)
         case done =>
          rintro x w2 v2 ⟨a, L', C', c', hO, rfl, hB', hI', hL', hbw', ho'⟩
          simp only [StepGoal, List.getD_cons_zero, List.getD_cons_succ]
          intro K hK
          obtain ⟨w3, rfl, lt⟩ := blk_put hB'
          obtain ⟨pc, pf, pS⟩ := putBlk_facts (w := w3) 85 lt
          have HBN := hd_ (putBlk_blk (w := w3) (b := b) #[.slice A T.length kT, .int .i64 st.seg, .int .i64 st.bd, .int .i64 st.r0, .int .i64 st.r1, .int .i64 st.r2, .slice C' L'.length c', .int .i64 st.n, .bool true] 85 lt)
          have HIN := hd_ (hI'.gr (gr_put w3 b #[.slice A T.length kT, .int .i64 st.seg, .int .i64 st.bd, .int .i64 st.r0, .int .i64 st.r1, .int .i64 st.r2, .slice C L.length kL, .int .i64 st.n, .bool true] #[.slice A T.length kT, .int .i64 st.seg, .int .i64 st.bd, .int .i64 st.r0, .int .i64 st.r1, .int .i64 st.r2, .slice C' L'.length c', .int .i64 st.n, .bool true] 85) hbb)
          have HBW := hd_ (putBlk_belows hbw' hBb #[.slice A T.length kT, .int .i64 st.seg, .int .i64 st.bd, .int .i64 st.r0, .int .i64 st.r1, .int .i64 st.r2, .slice C' L'.length c', .int .i64 st.n, .bool true])
          have HOT := hd_ (ho'.trans (Oth.gr (gr_put w3 b #[.slice A T.length kT, .int .i64 st.seg, .int .i64 st.bd, .int .i64 st.r0, .int .i64 st.r1, .int .i64 st.r2, .slice C L.length kL, .int .i64 st.n, .bool true] #[.slice A T.length kT, .int .i64 st.seg, .int .i64 st.bd, .int .i64 st.r0, .int .i64 st.r1, .int .i64 st.r2, .slice C' L'.length c', .int .i64 st.n, .bool true] 85)))
          clear hB' hI' hbw' ho'
          rw [if_pos (by rfl)]; simp only [overlay, upd, cond_true, cond_false, Nat.reduceEqDiff, reduceIte]
          go_simp
          refine hK.out _ _ ?_
          clear hK pc pf pS lt
          generalize putBlk w3 b #[.slice A T.length kT, .int .i64 st.seg, .int .i64 st.bd, .int .i64 st.r0, .int .i64 st.r1, .int .i64 st.r2, .slice C' L'.length c', .int .i64 st.n, .bool true] 85 = W2 at HBN HIN HBW HOT ⊢
          have HQ : Hid (LineQ st s.data.toList b base B w (.returned (.tuple #[])) W2) := by
           refine ⟨HB1.out.trans HBW.out, HO1.out.trans HOT.out, Or.inl ⟨{ st with l := st.l ++ [a], n := st.n + 1, acts := true }, ?_, rfl, T, A, kT, L', C', c', HBN.out, HIN.out, HTZ.out, hL'⟩⟩
           rw [HLF.out, HBF.out, if_neg HT0.out, hO]
          clear hO hL' HBN HIN HBW HOT
          go_wp2_with fail
          go_end0
          exact HQ.out
         all_goals
          intro x w2 hb2
          first
           | (intro K hK
              have hk2 := HK1.out.ext hb2
              obtain ⟨bl, y0, y1, y2, y3, y4, y5, y6, y7, y8⟩ := blk9 hk2
              rw [if_pos (by rfl)]; simp only [overlay, upd, cond_true, cond_false, List.getD_cons_zero, List.getD_cons_succ, Nat.reduceEqDiff, reduceIte]
              go_simp
              first
               | exact hK.out _ _ (Below.refl _ _) rfl
               | exact hK.out _ rfl
               | (refine (HRA.out _ hb2).mono ?_
                  rintro r w4 ⟨hr, hb3⟩
                  cases hrt : readA s.data.toList with
                  | none =>
                   rw [hrt] at hr
                   obtain rfl : r = gaveW := hr
                   have HQ : Hid (LineQ st s.data.toList b base B w gaveW w4) := lineq_no2 (a := .slice A T.length kT) (c := .slice C L.length kL) (x := { st with acts := true }) hB1 (by rw [HLF.out, HBF.out, if_neg HT0.out, hrt]) HB1.out HO1.out (bt hb2 hb3) HK1.out
                   clear hb3 hrt
                   unfold gaveW
                   go_wp2_with fail
                   exact ⟨rfl, HQ.out⟩
                  | some a =>
                   rw [hrt] at hr
                   obtain ⟨P, k, rfl, hvr, hpb⟩ := hr
                   have hsz := hb2.size
                   go_wp2_with fail
                   exact hK.out _ _ hb3 ⟨a, P, k, hrt, rfl, hvr, fun p hp => Nat.le_trans hsz (hpb p hp)⟩))
           | (rintro _ ⟨a, P, k, hO, rfl, hvr, hpb⟩ K hK
              rw [if_pos (by rfl)]; simp only [overlay, upd, cond_true, cond_false, List.getD_cons_zero, List.getD_cons_succ, Nat.reduceEqDiff, reduceIte]
              unfold Ac.agg
              go_simp
              exact hK.out _ _ (by repeat (first | exact Below.refl _ _ | assumption | refine Below.drew ?_ | refine below_drewN ?_ _ | refine Below.alloc ?_ (by simp <;> omega) _)) ⟨a, P, k, _, hO, rfl, Blk.new _ _ _, hvr.ext (by repeat (first | exact Below.refl _ _ | assumption | refine Below.drew ?_ | refine below_drewN ?_ _ | refine Below.alloc ?_ (by simp <;> omega) _)), hpb⟩)
           | ((first | change StepGoal _ _ _ _ [] x | change StepGoal _ _ _ _ [0, 0] x | change StepGoal _ _ _ _ [9, 0] x)
              simp only [StepGoal, List.getD_cons_zero, List.getD_cons_succ]
              intro K hK
              rw [if_pos (by rfl)]; simp only [overlay, upd, cond_true, cond_false, Nat.reduceEqDiff, reduceIte]
              go_simp
              exact hK.out _ rfl)
end Go.Proofs.YtfekohonidggjaaGreatDoor
