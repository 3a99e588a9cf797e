/- Texts joined by a tool: contracts and walks of this claim. -/
import Derived.Test.YtfekohonidggjaaGreatDoorB33
namespace Go.Proofs.YtfekohonidggjaaGreatDoor
open Go.RowKit
set_option maxRecDepth 100000 in
theorem read1_any (st : Ls) (s : ByteArray) (hs : s.size < 4294967281) (b base B c1 c2 : Nat) (hBb : B ≤ b) (hbb : b < base) (w : World) (h1 : Blk w c1 #[.pointer (some ⟨b, 0, none⟩)] 83) (h2 : Blk w c2 #[.string s] 9) (hL : ∀ W, Below B w W → LayS W) (hR : RdB b base st st.n w) (ht : st.ts.length ≤ 99) (hl : st.l.length ≤ 4294967000) :
  Calls Tryz.prog 48 #[.pointer (some ⟨c1, 0, none⟩), .pointer (some ⟨c2, 0, none⟩)] w (LineQ st s.data.toList b base B w) := by
 have HLN := hd_ (line_any st s hs b base B hBb hbb w hL hR ht hl)
 obtain ⟨x0, x1, x2⟩ := blk1c h1
 obtain ⟨z0, z1, z2⟩ := blk1c h2
 clear hL hR h1 h2
 go_enter Tryz.func48, Tryz.ntmps48
 go_wp2_with fail
 refine HLN.out.mono ?_
 intro r w1 hq
 obtain ⟨hb, ho, h⟩ := hq
 rcases h with ⟨st', e1, rfl, hr⟩ | ⟨e1, rfl, a, c, x, hk⟩
 · have HQ : Hid (LineQ st s.data.toList b base B w (.returned (.tuple #[])) w1) := ⟨hb, ho, Or.inl ⟨st', e1, rfl, hr⟩⟩
   clear hb ho e1 hr
   go_wp2_with fail
   go_end0
   exact HQ.out
 · have HQ : Hid (LineQ st s.data.toList b base B w gaveW w1) := ⟨hb, ho, Or.inr ⟨e1, rfl, a, c, x, hk⟩⟩
   clear hb ho e1 hk
   unfold gaveW
   go_wp2_with fail
   exact ⟨rfl, HQ.out⟩
def CfT (N : Nat) (Z F : Array Value) (a c : World) : Prop := a.grownBy c (some N) ∧ ((Blk a N Z 27 ∨ Blk a N F 27) → (Blk c N Z 27 ∨ Blk c N F 27)) ∧ (Blk a N F 27 → Blk c N F 27)
theorem CfT.of {N : Nat} {Z F : Array Value} {a c : World} (h : Below a.heap.size a c) : CfT N Z F a c := ⟨gr_below h, fun k => k.imp (·.ext h) (·.ext h), fun k => k.ext h⟩
theorem CfT.trans {N : Nat} {Z F : Array Value} {a c d : World} (h : CfT N Z F a c) (g : CfT N Z F c d) : CfT N Z F a d := ⟨gr_trans h.1 g.1, fun k => g.2.1 (h.2.1 k), fun k => g.2.2 (h.2.2 k)⟩
theorem CfT.put {N : Nat} {Z F X : Array Value} {w3 : World} (lt : N < w3.heap.size) : CfT N Z F (putBlk w3 N X 27) (putBlk w3 N F 27) :=
 ⟨gr_put w3 N X F _, fun _ => Or.inr (putBlk_blk F _ lt), fun _ => putBlk_blk F _ lt⟩
def kCf (N : Nat) (F : Array Value) : Known := .mem (fun _ w => Blk w N F 27) (fun _ _ _ h hb => h.ext hb)
theorem KT.kcf {N : Nat} {Z F : Array Value} : KT (CfT N Z F) (kCf N F) := fun _ _ _ h k => h.2.2 k
def zConf : Array Value := #[.slice none 0 0, .int .i64 0, .int .i64 0, .int .i64 0, .int .i64 0, .int .i64 0]
def ReadQ (text : ByteArray) (r : Ending) (w' : World) : Prop :=
 if 1048576 < text.size then r = .returned (.tuple #[.agg zConf, .slice none 0 0, .int .i64 0, .int .i64 5])
 else match goP Ls0 (spW 10 text.data.toList) with
  | .ok st => ∃ T A kT L C kL, r = .returned (.tuple #[Cf.agg ⟨st.seg, st.bd, st.r0, st.r1, st.r2, T⟩ A kT, .slice C (List.length L) kL, .int .i64 0, .int .i64 0]) ∧ TRow w' A kT T ∧ AmRow w' C L ∧ T.map Ta.z = st.ts ∧ L.map (·.a) = st.l
  | .bad n => r = .returned (.tuple #[.agg zConf, .slice none 0 0, .int .i64 n, .int .i64 310])
set_option maxRecDepth 100000 in
set_option maxHeartbeats 6400000 in
theorem read_any (text : ByteArray) (w : World) (hL : LayS w) :
  Calls Tryz.prog 17 #[.string text] w fun r w' => ReadQ text r w' ∧ Below w.heap.size w w' := by
 by_cases hlong : 1048576 < text.size
 · have hlI : (1048576 : Int) < text.size := by omega
   have HN : Hid (∀ w', ReadQ text (.returned (.tuple #[.agg zConf, .slice none 0 0, .int .i64 0, .int .i64 5])) w') := fun w' => by unfold ReadQ; rw [if_pos hlong]
   clear hlong hL
   go_enter Tryz.func17, Tryz.ntmps17
   go_wp2_with fail
   have hB : Below w.heap.size w (w.alloc (.cells #[.slice none 0 0, .int .i64 0, .int .i64 0, .int .i64 0, .int .i64 0, .int .i64 0] 27)) := bel1 _ _
   obtain ⟨d9, d0, d1, d2, d3, d4, d5⟩ := blk6 (Blk.new w #[.slice none 0 0, .int .i64 0, .int .i64 0, .int .i64 0, .int .i64 0, .int .i64 0] 27)
   generalize w.alloc (.cells #[.slice none 0 0, .int .i64 0, .int .i64 0, .int .i64 0, .int .i64 0, .int .i64 0] 27) = w1 at hB d9 d0 d1 d2 d3 d4 d5 ⊢
   refine bodyPost_ret (v := .tuple #[.agg zConf, .slice none 0 0, .int .i64 0, .int .i64 5]) (by simp [results, Tryz.results17, go_sem, zConf, d0, d1, d2, d3, d4, d5]) rfl ?_
   exact ⟨HN.out _, hB⟩
 · have hlI : ¬ (1048576 : Int) < text.size := by omega
   have HRQ : Hid (ReadQ text = fun r w' => match goP Ls0 (spW 10 text.data.toList) with
    | .ok st => ∃ T A kT L C kL, r = .returned (.tuple #[Cf.agg ⟨st.seg, st.bd, st.r0, st.r1, st.r2, T⟩ A kT, .slice C (List.length L) kL, .int .i64 0, .int .i64 0]) ∧ TRow w' A kT T ∧ AmRow w' C L ∧ T.map Ta.z = st.ts ∧ L.map (·.a) = st.l
    | .bad n => r = .returned (.tuple #[.agg zConf, .slice none 0 0, .int .i64 n, .int .i64 310])) := by
    show _ = _
    funext r w'
    unfold ReadQ
    rw [if_neg hlong]
   have HL := hd_ hL
   clear hL
   go_enter Tryz.func17, Tryz.ntmps17
   go_wp2_with fail
   have W : ∀ W3 : World, W3 = ((w.alloc (.cells #[.slice none 0 0, .int .i64 0, .int .i64 0, .int .i64 0, .int .i64 0, .int .i64 0] 27)).alloc (.cells #[.slice none 0 0, .int .i64 0, .int .i64 0, .int .i64 0, .int .i64 0, .int .i64 0, .slice none 0 0, .int .i64 0, .bool false] 85)).alloc (.cells #[.pointer (some ⟨w.heap.size + 1, 0, none⟩)] 83) → RdB (w.heap.size + 1) (w.heap.size + 3) Ls0 0 W3 ∧ Blk W3 w.heap.size #[.slice none 0 0, .int .i64 0, .int .i64 0, .int .i64 0, .int .i64 0, .int .i64 0] 27 ∧ Blk W3 (w.heap.size + 1 + 1) #[.pointer (some ⟨w.heap.size + 1, 0, none⟩)] 83 ∧ Below w.heap.size w W3 := by
    rintro W3 rfl
    have k1 : Blk (((w.alloc (.cells #[.slice none 0 0, .int .i64 0, .int .i64 0, .int .i64 0, .int .i64 0, .int .i64 0] 27)).alloc (.cells #[.slice none 0 0, .int .i64 0, .int .i64 0, .int .i64 0, .int .i64 0, .int .i64 0, .slice none 0 0, .int .i64 0, .bool false] 85)).alloc (.cells #[.pointer (some ⟨w.heap.size + 1, 0, none⟩)] 83)) (w.heap.size + 1) #[.slice none 0 0, .int .i64 0, .int .i64 0, .int .i64 0, .int .i64 0, .int .i64 0, .slice none 0 0, .int .i64 0, .bool false] 85 := (by repeat (first | exact Blk.at (by simp) | assumption | refine Blk.drew ?_ | refine Blk.old ?_ _))
    have k0 : Blk (((w.alloc (.cells #[.slice none 0 0, .int .i64 0, .int .i64 0, .int .i64 0, .int .i64 0, .int .i64 0] 27)).alloc (.cells #[.slice none 0 0, .int .i64 0, .int .i64 0, .int .i64 0, .int .i64 0, .int .i64 0, .slice none 0 0, .int .i64 0, .bool false] 85)).alloc (.cells #[.pointer (some ⟨w.heap.size + 1, 0, none⟩)] 83)) w.heap.size #[.slice none 0 0, .int .i64 0, .int .i64 0, .int .i64 0, .int .i64 0, .int .i64 0] 27 := (by repeat (first | exact Blk.at (by simp) | assumption | refine Blk.drew ?_ | refine Blk.old ?_ _))
    exact ⟨⟨[], none, 0, [], none, 0, k1, ⟨by simp, World.ownsRow_nil _ _ _ _, World.ownsRow_nil _ _ _ _, (fun _ ht => nomatch ht), (fun _ ht => nomatch ht)⟩, rfl, rfl⟩, k0, (by repeat (first | exact Blk.at (by simp) | assumption | refine Blk.drew ?_ | refine Blk.old ?_ _)), (by repeat (first | exact Below.refl _ _ | assumption | refine Below.drew ?_ | refine below_drewN ?_ _ | refine Below.alloc ?_ (by simp <;> omega) _))⟩
   obtain ⟨hR0, hZ0, hP0, hB0⟩ := W _ rfl
   clear W
   generalize ((w.alloc (.cells #[.slice none 0 0, .int .i64 0, .int .i64 0, .int .i64 0, .int .i64 0, .int .i64 0] 27)).alloc (.cells #[.slice none 0 0, .int .i64 0, .int .i64 0, .int .i64 0, .int .i64 0, .int .i64 0, .slice none 0 0, .int .i64 0, .bool false] 85)).alloc (.cells #[.pointer (some ⟨w.heap.size + 1, 0, none⟩)] 83) = W3 at hR0 hZ0 hP0 hB0 ⊢
   have HR0 := hd_ hR0
   have HZ0 := hd_ hZ0
   have HP0 := hd_ hP0
   clear hR0 hZ0 hP0
   go_loopw [7] (fun v wr => ∃ (st : Ls) (rest : ByteArray), v = .string rest ∧ Hid (goP Ls0 (spW 10 text.data.toList) = goP st (spW 10 rest.data.toList)) ∧ st.n + rest.size ≤ text.size ∧ st.l.length ≤ st.n ∧ st.ts.length ≤ 99 ∧ Hid (RdB (w.heap.size + 1) (w.heap.size + 3) st st.n wr) ∧ Hid (Blk wr w.heap.size #[.slice none 0 0, .int .i64 0, .int .i64 0, .int .i64 0, .int .i64 0, .int .i64 0] 27) ∧ Hid (Blk wr (w.heap.size + 1 + 1) #[.pointer (some ⟨w.heap.size + 1, 0, none⟩)] 83) ∧ Below w.heap.size w wr) (fun v _ => strLen v)
   case atStart => exact ⟨Ls0, text, rfl, rfl, by simp [Ls0], by simp [Ls0], by simp [Ls0], HR0.out, HZ0.out, HP0.out, hB0⟩
   case round =>
    obtain ⟨st, rest, rfl, HG, hn, hll, htl, HR, HZ, HP, hbw⟩ := hrel
    clear HR0 HZ0 HP0 hB0
    obtain ⟨ml, hml⟩ := (HL.out.ext hbw).ml
    have hCT := Tryz.strings_Cut rest ⟨#[10]⟩ ml wr (by omega) hml
    rw [show (⟨#[10]⟩ : ByteArray).data.toList = [10] from rfl, cut_L] at hCT
    have HBW := hd_ hbw
    clear hml hbw
    cases hcc : lnC rest.data.toList with
    | none =>
     rw [hcc] at hCT
     have HCT : Hid (Calls Tryz.prog 47 #[.string rest, .string ⟨#[10]⟩] wr fun r w' => r = .returned (.tuple #[.string rest, .string ⟨#[]⟩, .bool false]) ∧ ∃ n, w' = wr.drewN n) := hCT
     have HE := hd_ (goP_end (st := st) hcc)
     clear hcc hCT
     go_wp2_with fail
     refine HCT.out.mono ?_
     rintro r w4 ⟨rfl, nd, rfl⟩
     have hd4 : Below wr.heap.size wr (wr.drewN nd) := below_drewN (Below.refl _ _) nd
     have HR4 := hd_ (HR.out.ext hd4)
     have HZ4 := hd_ (HZ.out.ext hd4)
     have HP4 := hd_ (HP.out.ext hd4)
     have HB4 := hd_ (bt HBW.out hd4)
     clear hd4 HR HZ HP HBW HCT
     generalize wr.drewN nd = w4 at HR4 HZ4 HP4 HB4 ⊢
     go_upto_region 5 with fail
     have hb5 : Below w4.heap.size w4 (w4.alloc (.cells #[.string rest] 9)) := bel1 _ _
     have HR5 := hd_ (HR4.out.ext hb5)
     have HZ5 := hd_ (HZ4.out.ext hb5)
     have HP5 := hd_ (HP4.out.ext hb5)
     have HB5 := hd_ (bt HB4.out hb5)
     clear hb5 HR4 HZ4 HP4 HB4
     generalize w4.alloc (.cells #[.string rest] 9) = w5 at HR5 HZ5 HP5 HB5 ⊢
     obtain ⟨T, A, kT, L, C, kL, hk, hI, hTz, hLa⟩ := HR5.out
     have HK5 : Hid (Blk w5 (w.heap.size + 1) #[.slice A T.length kT, .int .i64 st.seg, .int .i64 st.bd, .int .i64 st.r0, .int .i64 st.r1, .int .i64 st.r2, .slice C L.length kL, .int .i64 st.n, .bool st.acts] 85) := hk
     have HI5 := hd_ hI
     have HTE : Hid (T.length = st.ts.length) := by show _ = _; rw [← hTz]; simp
     have HTZ := hd_ hTz
     have HLA := hd_ hLa
     clear hk hI hTz hLa HR5
     obtain ⟨p0, p1, p2⟩ := blk1c HP5.out
     obtain ⟨bl, y0, y1, y2, y3, y4, y5, y6, y7, y8⟩ := blk9 HK5.out
     obtain ⟨q, hq⟩ : ∃ q, q = decide (rest.size = 0) := ⟨_, rfl⟩
     cases q with
     | false =>
      have hne : ¬ rest.size = 0 := of_decide_eq_false hq.symm
      have hcmp : (rest.toList == []) = false := by
       refine Bool.eq_false_iff.2 fun e => hne ?_
       rw [ByteArray.toList_eq] at e
       have : rest.data.toList.length = 0 := by rw [beq_iff_eq.1 e]; rfl
       simpa using this
      have HN : Hid (goP Ls0 (spW 10 text.data.toList) = .bad (st.n + 1)) := by
       show _ = _
       rw [HG.out, HE.out, if_neg (fun e => hne (by
        have : rest.data.toList.length = 0 := by rw [e.1]; rfl
        simpa using this))]
      clear hq hne
      go_upto_region 11 with fail
      have hw1 : IntKind.i64.wrap ((st.n : Int) + 1) = (st.n : Int) + 1 := by rw [IntKind.wrap_i64]; omega
      refine region_free (CfT w.heap.size #[.slice none 0 0, .int .i64 0, .int .i64 0, .int .i64 0, .int .i64 0, .int .i64 0] #[.slice none 0 0, .int .i64 0, .int .i64 0, .int .i64 0, .int .i64 0, .int .i64 0]) [false, false, false, true, true, true, false, false, false, false, false, false, false, false, false, false, false, false, false, false, false, false, false, false, false, false, false, false, false, false, false, false, false, false, false, false, false, false, false, false, false, false, false, false, false, false, false, false, false, false, false, false, false, false, true, true, true, true, true, true, false, false, false, false, false, false, false, false] [54, 55, 56, 57, 58, 59, 0, 3, 4, 5] [.val (.agg #[.slice none 0 0, .int .i64 0, .int .i64 0, .int .i64 0, .int .i64 0, .int .i64 0]), .val (.pointer (some ⟨w.heap.size + 1, 0, none⟩)), .val (.pointer (some ⟨w.heap.size + 1, 0, none⟩)), .val (.pointer (some ⟨w.heap.size + 1, 7, none⟩)), .val (.int .i64 st.n), .val (.int .i64 (st.n + 1)), kCf w.heap.size #[.slice none 0 0, .int .i64 0, .int .i64 0, .int .i64 0, .int .i64 0, .int .i64 0], .val (.slice none 0 0), .val (.int .i64 (st.n + 1)), .val (.int .i64 310)] [6, 7, 8, 9] (CfT.of (Below.refl _ _).drew) CfT.trans ?ktA (by kernel_rfl) (by kernel_rfl) (by kernel_rfl) (by kernel_rfl) (by kernel_rfl) ⟨?_, ?_, ?_, ?_, ?_, ?_, ?_, ?_, ?_, ?_, trivial⟩ ?doneA
      case ktA =>
       intro k hk
       simp only [List.mem_cons, List.not_mem_nil, or_false] at hk
       rcases hk with rfl | rfl | rfl | rfl | rfl | rfl | rfl | rfl | rfl | rfl
       all_goals first | exact KT.val _ | exact KT.kcf
      case doneA =>
       intro x w9 hT9
       simp only [StepGoal, overlay, upd, cond_true, cond_false, List.getD_cons_zero, List.getD_cons_succ, Nat.zero_add, Nat.reduceAdd, Nat.reduceEqDiff, reduceIte]
       intro v hk9
       obtain ⟨d9, d0, d1, d2, d3, d4, d5⟩ := blk6 hk9
       have hb9 := HB5.out.trans (gr_low hT9.1 (Nat.le_refl _) HB5.out.size)
       clear hk9 hT9
       go_wp2_with fail
       refine bodyPost_ret (v := .tuple #[.agg #[.slice none 0 0, .int .i64 0, .int .i64 0, .int .i64 0, .int .i64 0, .int .i64 0], .slice none 0 0, .int .i64 (st.n + 1), .int .i64 310]) (by simp [results, Tryz.results17, go_sem, d0, d1, d2, d3, d4, d5]) rfl ?_
       refine ⟨?_, hb9⟩
       rw [HRQ.out]
       simp only
       rw [HN.out]
       rfl
      all_goals
       intro x w8 hT8
       have hp8 := blk_grown HP5.out hT8.1 (by simp; omega)
       have hr8 := blk_grown HK5.out hT8.1 (by simp)
       have hz8 : Blk w8 w.heap.size #[.slice none 0 0, .int .i64 0, .int .i64 0, .int .i64 0, .int .i64 0, .int .i64 0] 27 := (hT8.2.1 (Or.inl HZ5.out)).elim id id
       obtain ⟨p0, p1, p2⟩ := blk1c hp8
       obtain ⟨bl, y0, y1, y2, y3, y4, y5, y6, y7, y8⟩ := blk9 hr8
       first
        | (intro K hK
           obtain ⟨d9, d0, d1, d2, d3, d4, d5⟩ := blk6 hz8
           rw [if_pos (by rfl)]; simp only [overlay, upd, cond_true, cond_false, List.getD_cons_zero, List.getD_cons_succ, Nat.reduceEqDiff, reduceIte]
           go_simp
           exact hK.out _ _ (CfT.of (Below.refl _ _)) rfl)
        | (intro K hK
           obtain ⟨w3, rfl, lt⟩ := blk_put hz8
           obtain ⟨pc, pf, pS⟩ := putBlk_facts (w := w3) 27 lt
           rw [if_pos (by rfl)]; simp only [overlay, upd, cond_true, cond_false, List.getD_cons_zero, Nat.reduceEqDiff, reduceIte]
           go_simp
           exact hK.out undef _ (CfT.put lt) (putBlk_blk _ _ lt))
        | (intro v hv K hK
           rw [if_pos (by rfl)]; simp only [overlay, upd, cond_true, cond_false, List.getD_cons_zero, List.getD_cons_succ, Nat.reduceEqDiff, reduceIte]
           go_simp
           exact hK.out _ _ (CfT.of (Below.refl _ _)) rfl)
        | (intro v hv v' hv' K hK
           rw [if_pos (by rfl)]; simp only [overlay, upd, cond_true, cond_false, List.getD_cons_zero, List.getD_cons_succ, Nat.reduceEqDiff, reduceIte]
           go_simp
           exact hK.out _ _ (CfT.of (Below.refl _ _)) rfl)
     | true =>
      have hne : rest.size = 0 := of_decide_eq_true hq.symm
      obtain rfl : rest = ⟨#[]⟩ := by
       apply ByteArray.ext; apply Array.eq_empty_of_size_eq_zero; exact hne
      by_cases hT0 : T.length = 0
      · have HN : Hid (goP Ls0 (spW 10 text.data.toList) = .bad (st.n + 1)) := by
         show _ = _
         rw [HG.out, HE.out, if_neg (fun e => e.2 (by rw [← HTE.out]; exact hT0))]
        clear hq hne
        go_upto_region 11 with fail
        have hw1 : IntKind.i64.wrap ((st.n : Int) + 1) = (st.n : Int) + 1 := by rw [IntKind.wrap_i64]; omega
        refine region_free (CfT w.heap.size #[.slice none 0 0, .int .i64 0, .int .i64 0, .int .i64 0, .int .i64 0, .int .i64 0] #[.slice none 0 0, .int .i64 0, .int .i64 0, .int .i64 0, .int .i64 0, .int .i64 0]) [false, false, false, true, true, true, false, false, false, false, false, false, false, false, false, false, false, false, false, false, false, false, false, false, false, false, false, false, false, false, false, false, false, false, false, false, false, false, false, false, false, false, false, false, false, false, false, false, false, false, false, false, false, false, true, true, true, true, true, true, false, false, false, false, false, false, false, false] [54, 55, 56, 57, 58, 59, 0, 3, 4, 5] [.val (.agg #[.slice none 0 0, .int .i64 0, .int .i64 0, .int .i64 0, .int .i64 0, .int .i64 0]), .val (.pointer (some ⟨w.heap.size + 1, 0, none⟩)), .val (.pointer (some ⟨w.heap.size + 1, 0, none⟩)), .val (.pointer (some ⟨w.heap.size + 1, 7, none⟩)), .val (.int .i64 st.n), .val (.int .i64 (st.n + 1)), kCf w.heap.size #[.slice none 0 0, .int .i64 0, .int .i64 0, .int .i64 0, .int .i64 0, .int .i64 0], .val (.slice none 0 0), .val (.int .i64 (st.n + 1)), .val (.int .i64 310)] [6, 7, 8, 9] (CfT.of (Below.refl _ _).drew) CfT.trans ?ktB (by kernel_rfl) (by kernel_rfl) (by kernel_rfl) (by kernel_rfl) (by kernel_rfl) ⟨?_, ?_, ?_, ?_, ?_, ?_, ?_, ?_, ?_, ?_, trivial⟩ ?doneB
        case ktB =>
         intro k hk
         simp only [List.mem_cons, List.not_mem_nil, or_false] at hk
         rcases hk with rfl | rfl | rfl | rfl | rfl | rfl | rfl | rfl | rfl | rfl
         all_goals first | exact KT.val _ | exact KT.kcf
        case doneB =>
         intro x w9 hT9
         simp only [StepGoal, overlay, upd, cond_true, cond_false, List.getD_cons_zero, List.getD_cons_succ, Nat.zero_add, Nat.reduceAdd, Nat.reduceEqDiff, reduceIte]
         intro v hk9
         obtain ⟨d9, d0, d1, d2, d3, d4, d5⟩ := blk6 hk9
         have hb9 := HB5.out.trans (gr_low hT9.1 (Nat.le_refl _) HB5.out.size)
         clear hk9 hT9
         go_wp2_with fail
         refine bodyPost_ret (v := .tuple #[.agg #[.slice none 0 0, .int .i64 0, .int .i64 0, .int .i64 0, .int .i64 0, .int .i64 0], .slice none 0 0, .int .i64 (st.n + 1), .int .i64 310]) (by simp [results, Tryz.results17, go_sem, d0, d1, d2, d3, d4, d5]) rfl ?_
         refine ⟨?_, hb9⟩
         rw [HRQ.out]
         simp only
         rw [HN.out]
         rfl
        all_goals
         intro x w8 hT8
         have hp8 := blk_grown HP5.out hT8.1 (by simp; omega)
         have hr8 := blk_grown HK5.out hT8.1 (by simp)
         have hz8 : Blk w8 w.heap.size #[.slice none 0 0, .int .i64 0, .int .i64 0, .int .i64 0, .int .i64 0, .int .i64 0] 27 := (hT8.2.1 (Or.inl HZ5.out)).elim id id
         obtain ⟨p0, p1, p2⟩ := blk1c hp8
         obtain ⟨bl, y0, y1, y2, y3, y4, y5, y6, y7, y8⟩ := blk9 hr8
         first
          | (intro K hK
             obtain ⟨d9, d0, d1, d2, d3, d4, d5⟩ := blk6 hz8
             rw [if_pos (by rfl)]; simp only [overlay, upd, cond_true, cond_false, List.getD_cons_zero, List.getD_cons_succ, Nat.reduceEqDiff, reduceIte]
             go_simp
             exact hK.out _ _ (CfT.of (Below.refl _ _)) rfl)
          | (intro K hK
             obtain ⟨w3, rfl, lt⟩ := blk_put hz8
             obtain ⟨pc, pf, pS⟩ := putBlk_facts (w := w3) 27 lt
             rw [if_pos (by rfl)]; simp only [overlay, upd, cond_true, cond_false, List.getD_cons_zero, Nat.reduceEqDiff, reduceIte]
             go_simp
             exact hK.out undef _ (CfT.put lt) (putBlk_blk _ _ lt))
          | (intro v hv K hK
             rw [if_pos (by rfl)]; simp only [overlay, upd, cond_true, cond_false, List.getD_cons_zero, List.getD_cons_succ, Nat.reduceEqDiff, reduceIte]
             go_simp
             exact hK.out _ _ (CfT.of (Below.refl _ _)) rfl)
          | (intro v hv v' hv' K hK
             rw [if_pos (by rfl)]; simp only [overlay, upd, cond_true, cond_false, List.getD_cons_zero, List.getD_cons_succ, Nat.reduceEqDiff, reduceIte]
             go_simp
             exact hK.out _ _ (CfT.of (Below.refl _ _)) rfl)
      · have HN : Hid (goP Ls0 (spW 10 text.data.toList) = .ok st) := by
         show _ = _
         rw [HG.out, HE.out, if_pos ⟨rfl, (by rw [← HTE.out]; exact hT0)⟩]
        clear hq hne
        have hb0 : ((T.length : Int) == 0) = false := by simp; exact fun e => hT0 (by rw [e]; rfl)
        go_upto_region 12 with fail
        clear hT0 hb0
        refine region_free (CfT w.heap.size #[.slice none 0 0, .int .i64 0, .int .i64 0, .int .i64 0, .int .i64 0, .int .i64 0] #[.slice A T.length kT, .int .i64 st.seg, .int .i64 st.bd, .int .i64 st.r0, .int .i64 st.r1, .int .i64 st.r2]) [false, false, false, true, true, true, false, false, false, false, false, false, false, false, false, false, false, false, false, false, false, false, false, false, false, false, false, false, false, false, false, false, false, false, false, false, false, false, false, false, false, false, false, false, false, false, false, false, false, false, false, false, false, false, false, false, false, false, false, false, true, true, true, true, true, true, true, true] [60, 61, 62, 63, 64, 65, 66, 67, 0, 3, 4, 5] [.val (.pointer (some ⟨w.heap.size + 1, 0, none⟩)), .val (.pointer (some ⟨w.heap.size + 1, 0, none⟩)), .val (.pointer (some ⟨w.heap.size + 1, 0, none⟩)), .val (.agg #[.slice A T.length kT, .int .i64 st.seg, .int .i64 st.bd, .int .i64 st.r0, .int .i64 st.r1, .int .i64 st.r2]), .val (.pointer (some ⟨w.heap.size + 1, 0, none⟩)), .val (.pointer (some ⟨w.heap.size + 1, 0, none⟩)), .val (.pointer (some ⟨w.heap.size + 1, 6, none⟩)), .val (.slice C L.length kL), kCf w.heap.size #[.slice A T.length kT, .int .i64 st.seg, .int .i64 st.bd, .int .i64 st.r0, .int .i64 st.r1, .int .i64 st.r2], .val (.slice C L.length kL), .val (.int .i64 0), .val (.int .i64 0)] [8, 9, 10, 11] (CfT.of (Below.refl _ _).drew) CfT.trans ?kt (by kernel_rfl) (by kernel_rfl) (by kernel_rfl) (by kernel_rfl) (by kernel_rfl) ⟨?_, ?_, ?_, ?_, ?_, ?_, ?_, ?_, ?_, ?_, ?_, ?_, trivial⟩ ?done
        case kt =>
         intro k hk
         simp only [List.mem_cons, List.not_mem_nil, or_false] at hk
         rcases hk with rfl | rfl | rfl | rfl | rfl | rfl | rfl | rfl | rfl | rfl | rfl | rfl
         all_goals first | exact KT.val _ | exact KT.kcf
        case done =>
         intro x w9 hT9
         simp only [StepGoal, overlay, upd, cond_true, cond_false, List.getD_cons_zero, List.getD_cons_succ, Nat.zero_add, Nat.reduceAdd, Nat.reduceEqDiff, reduceIte]
         intro v hk9
         obtain ⟨d9, d0, d1, d2, d3, d4, d5⟩ := blk6 hk9
         have hb9 := HB5.out.trans (gr_low hT9.1 (Nat.le_refl _) HB5.out.size)
         have HI9 := hd_ (HI5.out.gr hT9.1 (by omega))
         clear hk9 hT9
         go_wp2_with fail
         refine bodyPost_ret (v := .tuple #[.agg #[.slice A T.length kT, .int .i64 st.seg, .int .i64 st.bd, .int .i64 st.r0, .int .i64 st.r1, .int .i64 st.r2], .slice C L.length kL, .int .i64 0, .int .i64 0]) (by simp [results, Tryz.results17, go_sem, d0, d1, d2, d3, d4, d5]) rfl ?_
         refine ⟨?_, hb9⟩
         rw [HRQ.out]
         simp only
         rw [HN.out]
         have hLE : L.length = st.l.length := by rw [← HLA.out]; simp
         exact ⟨T, A, kT, L, C, kL, rfl, HI9.out.trow (by have := HTE.out; omega), HI9.out.arow (by omega), HTZ.out, HLA.out⟩
        all_goals
         intro x w8 hT8
         have hp8 := blk_grown HP5.out hT8.1 (by simp; omega)
         have hr8 := blk_grown HK5.out hT8.1 (by simp)
         have hz8 := hT8.2.1 (Or.inl HZ5.out)
         obtain ⟨p0, p1, p2⟩ := blk1c hp8
         obtain ⟨bl, y0, y1, y2, y3, y4, y5, y6, y7, y8⟩ := blk9 hr8
         first
          | (intro K hK
             clear hz8
             rw [if_pos (by rfl)]; simp only [overlay, upd, cond_true, cond_false, List.getD_cons_zero, List.getD_cons_succ, Nat.reduceEqDiff, reduceIte]
             go_simp
             exact hK.out _ _ (CfT.of (Below.refl _ _)) rfl)
          | (intro K hK
             rcases hz8 with hz8 | hz8
             all_goals
              obtain ⟨w3, rfl, lt⟩ := blk_put hz8
              obtain ⟨pc, pf, pS⟩ := putBlk_facts (w := w3) 27 lt
              rw [if_pos (by rfl)]; simp only [overlay, upd, cond_true, cond_false, List.getD_cons_zero, List.getD_cons_succ, Nat.reduceEqDiff, reduceIte]
              go_simp
              exact hK.out undef _ (CfT.put lt) (putBlk_blk _ _ lt))
          | (intro v hv K hK
             clear hz8
             rw [if_pos (by rfl)]; simp only [overlay, upd, cond_true, cond_false, List.getD_cons_zero, List.getD_cons_succ, Nat.reduceEqDiff, reduceIte]
             go_simp
             exact hK.out _ _ (CfT.of (Below.refl _ _)) rfl)
          | (intro v hv v' hv' K hK
             clear hz8
             rw [if_pos (by rfl)]; simp only [overlay, upd, cond_true, cond_false, List.getD_cons_zero, List.getD_cons_succ, Nat.reduceEqDiff, reduceIte]
             go_simp
             exact hK.out _ _ (CfT.of (Below.refl _ _)) rfl)
    | some ab =>
     obtain ⟨la, lb⟩ := ab
     rw [hcc] at hCT
     have HCT : Hid (Calls Tryz.prog 47 #[.string rest, .string ⟨#[10]⟩] wr fun r w' => r = .returned (.tuple #[.string (bsO la), .string (bsO lb), .bool true]) ∧ ∃ n, w' = wr.drewN n) := hCT
     have HE := hd_ (goP_line (st := st) hcc)
     have HW := hd_ (ln_some hcc)
     clear hcc hCT
     go_wp2_with fail
     refine HCT.out.mono ?_
     rintro r w4 ⟨rfl, nd, rfl⟩
     have hd4 : Below wr.heap.size wr (wr.drewN nd) := below_drewN (Below.refl _ _) nd
     have HR4 := hd_ (HR.out.ext hd4)
     have HZ4 := hd_ (HZ.out.ext hd4)
     have HP4 := hd_ (HP.out.ext hd4)
     have HB4 := hd_ (bt HBW.out hd4)
     clear hd4 HR HZ HP HBW HCT
     generalize wr.drewN nd = w4 at HR4 HZ4 HP4 HB4 ⊢
     go_upto_region 5 with fail
     have hb5 : Below w4.heap.size w4 (w4.alloc (.cells #[.string (bsO la)] 9)) := bel1 _ _
     have HR5 := hd_ (HR4.out.ext hb5)
     have HZ5 := hd_ (HZ4.out.ext hb5)
     have HP5 := hd_ (HP4.out.ext hb5)
     have HB5 := hd_ (bt HB4.out hb5)
     clear hb5 HR4 HZ4 HP4 HB4
     have HS5 := hd_ (Blk.new w4 #[.string (bsO la)] 9)
     generalize w4.alloc (.cells #[.string (bsO la)] 9) = w5 at HR5 HZ5 HP5 HB5 HS5 ⊢
     generalize w4.heap.size = c8 at HS5 ⊢
     have hb56 : Below w5.heap.size w5 (w5.alloc (.cells #[.bool false] 4)) := bel1 _ _
     have HBL := hd_ (Blk.new w5 #[.bool false] 4)
     have hsz5 := HP5.out.lt
     have hZ6 := HZ5.out.ext hb56
     have hP6 := HP5.out.ext hb56
     have hB6 := bt HB5.out hb56
     have hlal : la.length + 1 + lb.length = rest.size := by
      have h1 := congrArg List.length HW.out
      simp only [List.length_append, List.length_cons] at h1
      have h2 : rest.data.toList.length = rest.size := by simp
      omega
     have hC := caught_rd (.pointer (some ⟨w.heap.size + 1 + 1, 0, none⟩)) (.pointer (some ⟨c8, 0, none⟩)) w5 (LineQ st la (w.heap.size + 1) (w.heap.size + 3) w.heap.size (w5.alloc (.cells #[.bool false] 4))) (read1_any st (bsO la) (by rw [bsO_size]; omega) (w.heap.size + 1) (w.heap.size + 3) w.heap.size (w.heap.size + 1 + 1) c8 (by omega) (by omega) _ hP6 (HS5.out.ext hb56) (fun W hW => HL.out.ext (hB6.trans hW)) (HR5.out.ext hb56) htl (by omega)) (fun r w' hq => ⟨hq.2.2.elim (fun ⟨_, _, h, _⟩ => Or.inl h) (fun ⟨_, h, _⟩ => Or.inr h), hq.2.1 _ _ _ (by omega) (by decide) (by decide) HBL.out⟩)
     have HC := hd_ hC
     have HZ6 := hd_ hZ6
     have HP6 := hd_ hP6
     have HB6 := hd_ hB6
     clear hC hZ6 hP6 hB6 hb56 HR5 HZ5 HP5 HB5 HS5
     have hs56 : w5.heap.size < (w5.alloc (.cells #[.bool false] 4)).heap.size := by simp
     generalize w5.alloc (.cells #[.bool false] 4) = w6 at HC HZ6 HP6 HB6 HBL hs56
     go_wp2_with fail
     refine HC.out.mono ?_
     rintro r w7 ⟨w1, ⟨hq, rfl, rfl⟩ | ⟨hq, rfl, rfl⟩⟩
     · obtain ⟨hb7, ho7, hcase⟩ := hq
       rcases hcase with ⟨st', e1, _, hr⟩ | ⟨_, e, _⟩
       case inl.inr => cases e
       obtain ⟨f1, f2, f3⟩ := lineF_facts e1 htl hll
       have HG7 : Hid (goP Ls0 (spW 10 text.data.toList) = goP st' (spW 10 (bsO lb).data.toList)) := by
        show _ = _
        rw [HG.out, HE.out, e1]
        rfl
       have HZ7 := hd_ (ho7 _ _ _ (by omega) (by decide) (by decide) HZ6.out)
       have HP7 := hd_ (ho7 _ _ _ (by omega) (by decide) (by decide) HP6.out)
       have hB7 := HB6.out.trans hb7
       obtain ⟨T, A, kT, L, C, kL, hk, hI, hTz, hLa⟩ := hr
       have hk7 : Blk w7 (w.heap.size + 1) #[.slice A T.length kT, .int .i64 st'.seg, .int .i64 st'.bd, .int .i64 st'.r0, .int .i64 st'.r1, .int .i64 st'.r2, .slice C L.length kL, .int .i64 st.n, .bool st'.acts] 85 := hk
       obtain ⟨w8, rfl, lt⟩ := blk_put hk7
       obtain ⟨pc, pf, pS⟩ := putBlk_facts (w := w8) 85 lt
       have hw1 : IntKind.i64.wrap ((st.n : Int) + 1) = (st.n : Int) + 1 := by rw [IntKind.wrap_i64]; omega
       have HKf := hd_ (putBlk_blk (w := w8) (b := w.heap.size + 1) #[.slice A T.length kT, .int .i64 st'.seg, .int .i64 st'.bd, .int .i64 st'.r0, .int .i64 st'.r1, .int .i64 st'.r2, .slice C L.length kL, .int .i64 (st.n + 1), .bool st'.acts] 85 lt)
       have HIf := hd_ (hI.gr (gr_put w8 (w.heap.size + 1) #[.slice A T.length kT, .int .i64 st'.seg, .int .i64 st'.bd, .int .i64 st'.r0, .int .i64 st'.r1, .int .i64 st'.r2, .slice C L.length kL, .int .i64 st.n, .bool st'.acts] #[.slice A T.length kT, .int .i64 st'.seg, .int .i64 st'.bd, .int .i64 st'.r0, .int .i64 st'.r1, .int .i64 st'.r2, .slice C L.length kL, .int .i64 (st.n + 1), .bool st'.acts] 85) (by omega))
       have HZf := hd_ (putBlk_old HZ7.out (by omega) #[.slice A T.length kT, .int .i64 st'.seg, .int .i64 st'.bd, .int .i64 st'.r0, .int .i64 st'.r1, .int .i64 st'.r2, .slice C L.length kL, .int .i64 (st.n + 1), .bool st'.acts])
       have HPf := hd_ (putBlk_old HP7.out (by omega) #[.slice A T.length kT, .int .i64 st'.seg, .int .i64 st'.bd, .int .i64 st'.r0, .int .i64 st'.r1, .int .i64 st'.r2, .slice C L.length kL, .int .i64 (st.n + 1), .bool st'.acts])
       have HBf := hd_ (putBlk_belows hB7 (by omega) #[.slice A T.length kT, .int .i64 st'.seg, .int .i64 st'.bd, .int .i64 st'.r0, .int .i64 st'.r1, .int .i64 st'.r2, .slice C L.length kL, .int .i64 (st.n + 1), .bool st'.acts])
       have HTz := hd_ hTz
       have HLa := hd_ hLa
       obtain ⟨p0, p1, p2⟩ := blk1c HP7.out
       clear hk hk7 hI hTz hLa hB7 hb7 ho7 e1 HC HZ6 HP6 HB6 HBL HZ7
       go_wp2_with fail
       clear p0 p1 p2 pc pf pS lt HP7
       generalize putBlk w8 (w.heap.size + 1) #[.slice A T.length kT, .int .i64 st'.seg, .int .i64 st'.bd, .int .i64 st'.r0, .int .i64 st'.r1, .int .i64 st'.r2, .slice C L.length kL, .int .i64 (st.n + 1), .bool st'.acts] 85 = wf at HKf HIf HZf HPf HBf ⊢
       go_roundw
       case rel =>
        have hnn : ((st'.n : Nat) : Int) = (st.n : Int) + 1 := by omega
        refine ⟨st', bsO lb, rfl, HG7, by rw [bsO_size]; omega, f3, f2, ⟨T, A, kT, L, C, kL, ?_, HIf.out, HTz.out, HLa.out⟩, HZf, HPf, HBf.out⟩
        unfold rdArr
        rw [hnn]
        exact HKf.out
       case measure => simp [strLen, bsO_size]; omega
     · obtain ⟨hb7, ho7, hcase⟩ := hq
       rcases hcase with ⟨_, _, e, _⟩ | ⟨e1, _, a, c, x, hk⟩
       case inr.inl =>
        unfold gaveW at e
        cases e
       have HN : Hid (goP Ls0 (spW 10 text.data.toList) = .bad (st.n + 1)) := by
        show _ = _
        rw [HG.out, HE.out, e1]
       have HZ5 := hd_ (putBlk_ne (cs := #[.bool true]) (t := 4) (ho7 _ _ _ (by omega) (by decide) (by decide) HZ6.out) (by omega : w.heap.size ≠ w5.heap.size))
       have HP5 := hd_ (putBlk_ne (cs := #[.bool true]) (t := 4) (ho7 _ _ _ (by omega) (by decide) (by decide) HP6.out) (by omega : w.heap.size + 1 + 1 ≠ w5.heap.size))
       have HK5 : Hid (Blk (putBlk w1 w5.heap.size #[.bool true] 4) (w.heap.size + 1) #[a, .int .i64 x.seg, .int .i64 x.bd, .int .i64 x.r0, .int .i64 x.r1, .int .i64 x.r2, c, .int .i64 st.n, .bool x.acts] 85) := putBlk_ne (cs := #[.bool true]) (t := 4) hk (by omega)
       have HB5 := hd_ (putBlk_below (b := w5.heap.size) #[.bool true] 4 (HB6.out.trans hb7) (by omega))
       clear hb7 ho7 hk e1 HC HZ6 HP6 HB6 HBL
       generalize putBlk w1 w5.heap.size #[.bool true] 4 = wb at HZ5 HP5 HK5 HB5 ⊢
       go_upto_region 7 with fail
       have hw1 : IntKind.i64.wrap ((st.n : Int) + 1) = (st.n : Int) + 1 := by rw [IntKind.wrap_i64]; omega
       refine region_free (CfT w.heap.size #[.slice none 0 0, .int .i64 0, .int .i64 0, .int .i64 0, .int .i64 0, .int .i64 0] #[.slice none 0 0, .int .i64 0, .int .i64 0, .int .i64 0, .int .i64 0, .int .i64 0]) [false, false, false, true, true, true, false, false, false, false, false, false, false, false, false, false, false, false, false, false, false, false, false, false, false, false, false, false, true, true, true, true, true, true, false, false, false, false, false, false, false, false, false, false, false, false, false, false, false, false, false, false, false, false, false, false, false, false, false, false, false, false, false, false, false, false, false, false] [28, 29, 30, 31, 32, 33, 0, 3, 4, 5] [.val (.agg #[.slice none 0 0, .int .i64 0, .int .i64 0, .int .i64 0, .int .i64 0, .int .i64 0]), .val (.pointer (some ⟨w.heap.size + 1, 0, none⟩)), .val (.pointer (some ⟨w.heap.size + 1, 0, none⟩)), .val (.pointer (some ⟨w.heap.size + 1, 7, none⟩)), .val (.int .i64 st.n), .val (.int .i64 (st.n + 1)), kCf w.heap.size #[.slice none 0 0, .int .i64 0, .int .i64 0, .int .i64 0, .int .i64 0, .int .i64 0], .val (.slice none 0 0), .val (.int .i64 (st.n + 1)), .val (.int .i64 310)] [6, 7, 8, 9] (CfT.of (Below.refl _ _).drew) CfT.trans ?ktC (by kernel_rfl) (by kernel_rfl) (by kernel_rfl) (by kernel_rfl) (by kernel_rfl) ⟨?_, ?_, ?_, ?_, ?_, ?_, ?_, ?_, ?_, ?_, trivial⟩ ?doneC
       case ktC =>
        intro k hk
        simp only [List.mem_cons, List.not_mem_nil, or_false] at hk
        rcases hk with rfl | rfl | rfl | rfl | rfl | rfl | rfl | rfl | rfl | rfl
        all_goals first | exact KT.val _ | exact KT.kcf
       case doneC =>
        intro x w9 hT9
        simp only [StepGoal, overlay, upd, cond_true, cond_false, List.getD_cons_zero, List.getD_cons_succ, Nat.zero_add, Nat.reduceAdd, Nat.reduceEqDiff, reduceIte]
        intro v hk9
        obtain ⟨d9, d0, d1, d2, d3, d4, d5⟩ := blk6 hk9
        have hb9 := HB5.out.trans (gr_low hT9.1 (Nat.le_refl _) HB5.out.size)
        clear hk9 hT9
        go_wp2_with fail
        refine bodyPost_ret (v := .tuple #[.agg #[.slice none 0 0, .int .i64 0, .int .i64 0, .int .i64 0, .int .i64 0, .int .i64 0], .slice none 0 0, .int .i64 (st.n + 1), .int .i64 310]) (by simp [results, Tryz.results17, go_sem, d0, d1, d2, d3, d4, d5]) rfl ?_
        refine ⟨?_, hb9⟩
        rw [HRQ.out]
        simp only
        rw [HN.out]
        rfl
       all_goals
        intro x w8 hT8
        have hp8 := blk_grown HP5.out hT8.1 (by simp; omega)
        have hr8 := blk_grown HK5.out hT8.1 (by simp)
        have hz8 : Blk w8 w.heap.size #[.slice none 0 0, .int .i64 0, .int .i64 0, .int .i64 0, .int .i64 0, .int .i64 0] 27 := (hT8.2.1 (Or.inl HZ5.out)).elim id id
        obtain ⟨p0, p1, p2⟩ := blk1c hp8
        obtain ⟨bl, y0, y1, y2, y3, y4, y5, y6, y7, y8⟩ := blk9 hr8
        first
         | (intro K hK
            obtain ⟨d9, d0, d1, d2, d3, d4, d5⟩ := blk6 hz8
            rw [if_pos (by rfl)]; simp only [overlay, upd, cond_true, cond_false, List.getD_cons_zero, List.getD_cons_succ, Nat.reduceEqDiff, reduceIte]
            go_simp
            exact hK.out _ _ (CfT.of (Below.refl _ _)) rfl)
         | (intro K hK
            obtain ⟨w3, rfl, lt⟩ := blk_put hz8
            obtain ⟨pc, pf, pS⟩ := putBlk_facts (w := w3) 27 lt
            rw [if_pos (by rfl)]; simp only [overlay, upd, cond_true, cond_false, List.getD_cons_zero, Nat.reduceEqDiff, reduceIte]
            go_simp
            exact hK.out undef _ (CfT.put lt) (putBlk_blk _ _ lt))
         | (intro v hv K hK
            rw [if_pos (by rfl)]; simp only [overlay, upd, cond_true, cond_false, List.getD_cons_zero, List.getD_cons_succ, Nat.reduceEqDiff, reduceIte]
            go_simp
            exact hK.out _ _ (CfT.of (Below.refl _ _)) rfl)
         | (intro v hv v' hv' K hK
            rw [if_pos (by rfl)]; simp only [overlay, upd, cond_true, cond_false, List.getD_cons_zero, List.getD_cons_succ, Nat.reduceEqDiff, reduceIte]
            go_simp
            exact hK.out _ _ (CfT.of (Below.refl _ _)) rfl)
end Go.Proofs.YtfekohonidggjaaGreatDoor
