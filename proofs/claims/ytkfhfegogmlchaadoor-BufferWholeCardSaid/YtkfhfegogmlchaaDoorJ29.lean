/- Several texts in one: see each part's head. -/
import Derived.Test.YtkfhfegogmlchaaDoorJ27
/- A transaction's end: what it turns, and what stays. -/
namespace Go.Proofs.YtkfhfegogmlchaaDoor
open Go.RowKit

def FinishPz (B nt : Nat) (bd nx fa : Int) (has : Bool) (l : List Tb) (t : Tb) (cnt sq : List Int) (w : World) (r : Ending) (w' : World) : Prop :=
  BelF B w w' ∧ r = .returned (.tuple #[.bool true, .int .i64 0]) ∧ ∃ f, f.cnt = cnt ∧ f.sq = sq ∧ BuR B nt bd nx has fa (l ++ [{ t with fin := some f }]) w' ∧ Dis (l ++ [{ t with fin := some f }]) ∧ B ≤ f.gc
set_option maxRecDepth 100000 in
set_option maxHeartbeats 1600000 in
set_option linter.unusedSimpArgs false in
theorem finish_genz (B nt : Nat) (bd nx fa : Int) (has : Bool) (l : List Tb) (t : Tb) (cnt sq : List Int) (C S : Option Addr) (n1 n2 : Nat) (w : World) (h : BuR B nt bd nx has fa (l ++ [t]) w) (hd : Dis (l ++ [t])) (hl : l.length ≤ 16) (hn : t.fin = none) (hc : CntOk cnt sq w C S) (hbd : l = [] → cnt.sum ≤ bd) :
    Calls Tryd.prog 43 #[.pointer (some ⟨B, 0, none⟩), .agg #[.int .u8 2, .int .u64 t.n, .slice C cnt.length n1, .slice S sq.length n2]] w (FinishPz B nt bd nx fa has l t cnt sq w) := by
  go_enter Tryd.func43, Tryd.ntmps43
  go_upto_region 1 with fail
  have h1 : Blk (w.alloc (.cells #[.int .u8 2, .int .u64 t.n, .slice C cnt.length n1, .slice S sq.length n2] 50)) w.heap.size #[.int .u8 2, .int .u64 t.n, .slice C cnt.length n1, .slice S sq.length n2] 50 := Blk.new w _ _
  have hC : Below w.heap.size w (w.alloc (.cells #[.int .u8 2, .int .u64 t.n, .slice C cnt.length n1, .slice S sq.length n2] 50)) := (by repeat (first | exact Below.refl _ _ | assumption | refine Below.drew ?_ | refine below_drewN ?_ _ | refine Below.alloc ?_ (by simp <;> omega) _))
  have HB0 := Lib.hid h
  have HMB := Lib.hid h1
  have HC := Lib.hid hC
  have hBw : B < w.heap.size := by obtain ⟨v, hb, _⟩ := h.b; exact hb.lt
  have HD := Lib.hid hd
  have HCN := Lib.hid hc
  have HBD := Lib.hid hbd
  clear h1 hC h hd hc hbd
  generalize w.alloc (.cells #[.int .u8 2, .int .u64 t.n, .slice C cnt.length n1, .slice S sq.length n2] 50) = W0 at HMB HC ⊢
  have hBl := hBw
  obtain ⟨lo, hlo⟩ : ∃ lo, lo = w.heap.size := ⟨_, rfl⟩
  have HLO := Lib.hid hlo
  rw [← hlo] at HMB HC hBl ⊢
  clear hlo
  generalize hmb : lo = mb at HMB ⊢
  have HMBL := Lib.hid hmb
  clear hmb
  go_wp2_with fail
  refine (last_some B nt bd nx fa has l t W0 (HB0.out.ext (by rw [← HLO.out]; exact HC.out)) (by omega)).mono ?_
  rintro r w1 ⟨rfl, hb1⟩
  have HMB := Lib.hid (HMB.out.ext hb1)
  have HC : Hid (Below lo w w1) := HC.out.trans (hb1.mono (by rw [HLO.out]; exact HC.out.size))
  clear hb1
  go_upto_region 2 with fail
  go_cut [26] (fun v wx => v = .bool false ∧ Hid (Below w1.heap.size w1 wx))
  case first =>
    have hM := HMB.out
    have m1 := hM.cell 1
    have lM := hM.lt
    have hT := (HB0.out.ext (by rw [← HLO.out]; exact HC.out)).t t (by simp)
    have hx := hT.x
    rw [hn] at hx
    have x0 := hx.cell 0
    have x1 := hx.cell 1
    have lX := hx.lt
    simp only [List.getElem?_toArray, List.getElem?_cons_zero, List.getElem?_cons_succ, endV] at m1 x0 x1
    clear hM hT hx
    go_quiet (fail)
    go_wp2_with fail
    go_meet
    exact ⟨rfl, below_drewN (Below.refl _ _) _⟩
  case rest =>
    obtain ⟨rfl, HW1⟩ := hcut
    rename World => w2
    have HMB := Lib.hid (HMB.out.ext HW1.out)
    have HC : Hid (Below lo w w2) := HC.out.trans (HW1.out.mono (by rw [HLO.out]; exact HC.out.size))
    clear HW1
    go_upto_region 4 with fail
    go_cut [] (fun wx => ∃ g1 c1 g2 c2, Hid (Blk wx mb #[.int .u8 2, .int .u64 t.n, .slice (some ⟨g1, 0, none⟩) cnt.length c1, .slice (some ⟨g2, 0, none⟩) sq.length c2] 50) ∧ lo ≤ g1 ∧ Hid (wx.ownsRow lo 3 1 (.slice (some ⟨g1, 0, none⟩) cnt.length c1) cnt.length (cnt.map (Value.int .i64))) ∧ Hid (wx.ownsRow lo 29 1 (.slice (some ⟨g2, 0, none⟩) sq.length c2) sq.length (sq.map (Value.int .u64))) ∧ Hid (Below lo w wx))
    case first =>
      have HC1 := Lib.hid (fun (W : World) (hW : Below lo w W) => cloneN_int cnt C n1 W (HCN.out.c.ext (by rw [← HLO.out]; exact hW)) HCN.out.cn (by have := HCN.out.cl; omega))
      have HC2 := Lib.hid (fun (W : World) (hW : Below lo w W) => cloneN_uint sq S n2 W (HCN.out.s.ext (by rw [← HLO.out]; exact hW)) HCN.out.sn (by have := HCN.out.sl; omega))
      have HL2 : Hid (lo ≤ w2.heap.size) := by have := HC.out.size; have := HLO.out; show lo ≤ w2.heap.size; omega
      refine region_tail 7 [false, false, false, false, false, false, false, false, false, false, false, false, false, false, false, false, false, false, false, false, false, false, false, false, false, false, false, true, true, true, true, true, true, true, false, false, false, false, false, false, false, false, false, false, false, false, false, false, false, false, false, false, false, false, false, false] [27, 28, 29, 30, 31, 32, 33] [.val (.pointer (some ⟨mb, 2, none⟩)), .val (.slice C cnt.length n1), wCl lo .i64 3 cnt, .val (.pointer (some ⟨mb, 3, none⟩)), .val (.slice S sq.length n2), wCl lo .u64 29 sq, .val (.pointer (some ⟨mb, 2, none⟩))] [2, 5, 6] (by kernel_rfl) (by decide) (by kernel_rfl) (by kernel_rfl) (by kernel_rfl) (by kernel_rfl) (by kernel_rfl) (by kernel_rfl) ⟨?_, ?_, ?_, ?_, ?_, ?_, ?_, trivial⟩ ?done
      case done =>
        intro x w5 hb5
        simp only [StepGoal, List.getD_cons_zero, List.getD_cons_succ]
        rintro _ ⟨g1, c1, rfl, lg1, ho1⟩ _ ⟨g2, c2, rfl, lg2, ho2⟩
        have hMk := HMB.out.ext hb5
        have hBel : Below lo w w5 := HC.out.trans (hb5.mono HL2.out)
        have hmb5 : lo ≤ mb := Nat.le_of_eq HMBL.out
        clear hb5 HC1 HC2 HMB HC
        obtain ⟨w6, rfl, lt⟩ := blk_put hMk
        have HF1 := Lib.hid (own_put ho1 lt (by decide) #[.int .u8 2, .int .u64 t.n, .slice (some ⟨g1, 0, none⟩) cnt.length c1, .slice (some ⟨g2, 0, none⟩) sq.length c2])
        have HF2 := Lib.hid (own_put ho2 lt (by decide) #[.int .u8 2, .int .u64 t.n, .slice (some ⟨g1, 0, none⟩) cnt.length c1, .slice (some ⟨g2, 0, none⟩) sq.length c2])
        have HFC := Lib.hid (putBlk_belows hBel hmb5 #[.int .u8 2, .int .u64 t.n, .slice (some ⟨g1, 0, none⟩) cnt.length c1, .slice (some ⟨g2, 0, none⟩) sq.length c2])
        obtain ⟨pc, pf, pS⟩ := putBlk_facts (w := w6) 50 lt
        clear ho1 ho2 hMk hBel
        intro K1 hK1
        rw [if_pos (by rfl)]; simp only [overlay, upd, cond_true, cond_false, Nat.reduceEqDiff, reduceIte]
        go_simp
        refine hK1.out _ _ ?_
        intro K2 hK2
        rw [if_pos (by rfl)]
        go_simp
        refine hK2.out _ _ ?_
        intro K3 hK3
        rw [if_pos (by rfl)]
        go_simp
        refine hK3.out _ _ (TailB.nil ?_)
        go_wp2_with fail
        go_meet
        exact ⟨g1, c1, g2, c2, putBlk_blk _ _ lt, lg1, HF1, HF2, HFC⟩
      all_goals
        intro x w5 hb5
        have hMk := HMB.out.ext hb5
        have m2 := hMk.cell 2
        have m3 := hMk.cell 3
        have lM := hMk.lt
        simp only [List.getElem?_toArray, List.getElem?_cons_zero, List.getElem?_cons_succ] at m2 m3
        have HBL : Hid (Below lo w w5) := HC.out.trans (hb5.mono HL2.out)
        have HL5 : Hid (lo ≤ w5.heap.size) := Nat.le_trans HL2.out hb5.size
        clear hMk
        simp only [StepGoal, List.getD_cons_zero, List.getD_cons_succ]
        first
          | (intro K hK
             rw [if_pos (by rfl)]; simp only [overlay, upd, cond_true, cond_false, Nat.reduceEqDiff, reduceIte]
             go_simp
             first
               | exact hK.out _ _ (Below.refl _ _) rfl
               | ((with_reducible refine (HC1.out _ HBL.out).mono ?_); rintro e wa ⟨hba, g1, c1, rfl, lg1, ho1⟩; go_wp2_with fail; exact hK.out _ _ hba ⟨g1, c1, rfl, Nat.le_trans HL5.out lg1, own_base ho1 HL5.out⟩))
          | (rintro _ ⟨g0, c0, rfl, lg0, ho0⟩
             intro K hK
             rw [if_pos (by rfl)]; simp only [overlay, upd, cond_true, cond_false, Nat.reduceEqDiff, reduceIte]
             go_simp
             ((with_reducible refine (HC2.out _ HBL.out).mono ?_); rintro e wa ⟨hba, g1, c1, rfl, lg1, ho1⟩; go_wp2_with fail; exact hK.out _ _ hba ⟨g1, c1, rfl, Nat.le_trans HL5.out lg1, own_base ho1 HL5.out⟩))
          | (intro _ _ _ _ K hK
             rw [if_pos (by rfl)]; simp only [overlay, upd, cond_true, cond_false, Nat.reduceEqDiff, reduceIte]
             go_simp
             exact hK.out _ _ (Below.refl _ _) rfl)
    case rest =>
      obtain ⟨g1, c1, g2, c2, HMK, lg1, HO1, HO2, HC⟩ := hcut
      rename World => w3
      obtain ⟨t', ht'⟩ : ∃ t' : Tb, t' = { t with fin := some ⟨mb, g1, c1, cnt, g2, c2, sq⟩ } := ⟨_, rfl⟩
      have HDN : Hid (Dis (l ++ [t'])) := by
        rw [ht']
        exact HD.out.fin HB0.out.t hn (by rw [← HLO.out]; exact lg1)
      have hB3 := HB0.out.ext (by rw [← HLO.out]; exact HC.out)
      have hT3 := hB3.t t (by simp)
      have hx3 := hT3.x
      rw [hn] at hx3
      have hBX : B ≤ t.X := hT3.lx
      obtain ⟨w6, rfl, lt⟩ := blk_put hx3
      have hoff : ∀ g, some t.X = some g → ∃ cs T f, (putBlk w6 t.X #[.int .u64 t.n, endV none, .slice (some ⟨t.N, 0, none⟩) nt nt, .map (some t.M)] 94).heap[g]? = some (.cells cs T f) ∧ T = 94 := fun g e => by
        obtain rfl := Option.some.inj e
        exact ⟨_, _, _, putBlk_blk _ _ lt, rfl⟩
      have hty : ∀ {T' : TypeId}, T' ≠ 94 → ∀ g, some t.X = some g → ∃ cs T f, (putBlk w6 t.X #[.int .u64 t.n, endV none, .slice (some ⟨t.N, 0, none⟩) nt nt, .map (some t.M)] 94).heap[g]? = some (.cells cs T f) ∧ T ≠ T' := fun {T'} hne g e => by
        obtain ⟨cs, T, f, h1, rfl⟩ := hoff g e
        exact ⟨cs, _, f, h1, fun e' => hne e'.symm⟩
      have hg := put_grown w6 t.X #[.int .u64 t.n, endV none, .slice (some ⟨t.N, 0, none⟩) nt nt, .map (some t.M)] #[.int .u64 t.n, .pointer (some ⟨mb, 0, none⟩), .slice (some ⟨t.N, 0, none⟩) nt nt, .map (some t.M)] 94
      have HBN : Hid (BuR B nt bd nx has fa (l ++ [t']) (putBlk w6 t.X #[.int .u64 t.n, .pointer (some ⟨mb, 0, none⟩), .slice (some ⟨t.N, 0, none⟩) nt nt, .map (some t.M)] 94)) := by
        obtain ⟨v, hb, hp⟩ := hB3.b
        refine ⟨⟨v, off_blk hb hg (hty (by decide)), ?_⟩, fun u hu => ?_⟩
        · have := hp.off hg (hty (by decide))
          rw [ht']
          simpa using this
        · rcases List.mem_append.1 hu with hu | hu
          · refine (hB3.t u (by simp [hu])).farB hg (putBlk_blk _ _ lt) (by decide) (by decide) (by decide) (fun _ => ?_) (fun e => absurd e (by decide))
            have h1 := HD.out.1
            rw [List.map_append, List.nodup_append] at h1
            exact h1.2.2 u.X (List.mem_map.2 ⟨u, hu, rfl⟩) t.X (by simp)
          · obtain rfl := List.mem_singleton.1 hu
            rw [ht']
            refine ⟨hT3.lx, hT3.ln, hT3.lm, putBlk_blk _ _ lt, fun f hf => ?_, off_blk hT3.n hg (hty (by decide)), hT3.l, ⟨off_map hT3.m.1 hg (fun g e => by obtain ⟨cs, T, f, h1, _⟩ := hoff g e; exact ⟨cs, T, f, h1⟩), hT3.m.2⟩, fun p hp => ?_⟩
            · obtain rfl := Option.some.inj hf
              exact ⟨off_blk HMK.out hg (hty (by decide)), ⟨lo, off_own HO1.out hg (hty (by decide))⟩, ⟨lo, off_own HO2.out hg (hty (by decide))⟩, HCN.out.cb, HCN.out.cl⟩
            · obtain ⟨A, c, A2, c2, h1, ⟨⟨b1, h2⟩, h2'⟩, ⟨⟨b2, h3⟩, h3'⟩⟩ := hT3.e p hp
              exact ⟨A, c, A2, c2, h1, ⟨⟨b1, off_own h2 hg (hty (by decide))⟩, h2'⟩, ⟨⟨b2, off_own h3 hg (hty (by decide))⟩, h3'⟩⟩
      have HBB : Hid (BelF B w (putBlk w6 t.X #[.int .u64 t.n, .pointer (some ⟨mb, 0, none⟩), .slice (some ⟨t.N, 0, none⟩) nt nt, .map (some t.M)] 94)) := BelF.puts (BelF.of (w := w) (by have h := HC.out; rw [HLO.out] at h; exact h) (Nat.le_of_lt hBw)) hBX lt (by decide) _
      have HSM : Hid (l = [] → cnt.sum ≤ bd) := HBD
      have hts : (t'.fin = some ⟨mb, g1, c1, cnt, g2, c2, sq⟩) ∧ t'.X = t.X := by rw [ht']; exact ⟨rfl, rfl⟩
      have HTS := Lib.hid hts
      obtain ⟨pc, pf, pS⟩ := putBlk_facts (w := w6) 94 lt
      have HT' := Lib.hid ht'
      clear hB3 hT3 hx3 hoff hty hg HMK HO1 HO2 HC ht' hts
      go_upto_region 6 with fail
      generalize putBlk w6 t.X #[.int .u64 t.n, .pointer (some ⟨mb, 0, none⟩), .slice (some ⟨t.N, 0, none⟩) nt nt, .map (some t.M)] 94 = w4 at HBN HBB ⊢
      clear pc pf pS lt
      have HSZ := Lib.hid (fun (W : World) (hW : Below w4.heap.size w4 W) => ((HBN.out.ext hW).t t' (by simp)).size HTS.out.1)
      rw [HTS.out.2] at HSZ
      obtain ⟨v, hb, A, c, rfl, _⟩ := HBN.out.b
      have b1 := hb.cell 1
      have b4 := hb.cell 4
      have lB := hb.lt
      simp only [List.getElem?_toArray, List.getElem?_cons_zero, List.getElem?_cons_succ, List.length_map, List.length_append, List.length_cons, List.length_nil, Nat.zero_add] at b1 b4
      clear hb
      have HFIN : Hid (∀ W, Below w4.heap.size w4 W → FinishPz B nt bd nx fa has l t cnt sq w (.returned (.tuple #[.bool true, .int .i64 0])) W) := fun W hW =>
        ⟨HBB.out.transB hW (by have := HBB.out.size; omega), rfl, _, rfl, rfl, by have h := HBN.out.ext hW; rw [HT'.out] at h; exact h, by have h := HDN.out; rw [HT'.out] at h; exact h, Nat.le_trans (Nat.le_of_lt hBl) lg1⟩
      generalize hq : cnt.sum = q at HSZ HSM
      by_cases hl0 : l = []
      · have hle := HSM.out hl0
        subst hl0
        have hgt : decide (bd < q) = false := decide_eq_false (by omega)
        have hgt2 : decide (q > bd) = false := hgt
        clear hle HBN HBB HDN HD HT' HTS HSM hq HCN HMB HMBL HBD HB0
        go_quiet (refine Calls.quiet_of_same ((HSZ.out _ (below_drewN (Below.refl _ _) _)).mono fun _ _ h => ⟨h.1, h.2.symm⟩))
        go_wp2_with fail
        go_ret2
        exact HFIN.out _ (below_drewN (Below.refl _ _) _)
      · have hne : decide ((l.length : Int) + 1 = 1) = false := decide_eq_false (by have := List.length_pos_iff.2 hl0; omega)
        have hne2 : (((l.length : Int) + 1) == 1) = false := by have := List.length_pos_iff.2 hl0; simp; omega
        clear HBN HBB HDN HD HT' HTS HSM hq HCN HMB HMBL HBD HB0
        go_quiet (fail)
        go_wp2_with fail
        go_ret2
        exact HFIN.out _ (below_drewN (Below.refl _ _) _)
end Go.Proofs.YtkfhfegogmlchaaDoor
