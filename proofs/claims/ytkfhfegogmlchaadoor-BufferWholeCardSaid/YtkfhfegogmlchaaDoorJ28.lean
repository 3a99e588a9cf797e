/- Several texts in one: see each part's head. -/
import Derived.Test.YtkfhfegogmlchaaDoorJ27
/- A transaction begins: what it turns, and what stays. -/
namespace Go.Proofs.YtkfhfegogmlchaaDoor
open Go.RowKit

def BegPz (B nt : Nat) (bd nx fa tx : Int) (has : Bool) (l : List Tb) (w : World) (r : Ending) (w' : World) : Prop :=
  BelF B w w' ∧ ((16 ≤ l.length ∧ r = .returned (.tuple #[.bool false, .int .i64 0]) ∧ BuR B nt bd nx has fa l w') ∨
    (l.length < 16 ∧ r = .returned (.tuple #[.bool true, .int .i64 0]) ∧ ∃ X N M, BuR B nt bd (if has then nx else tx) true fa (l ++ [⟨X, N, M, tx, none, List.replicate nt 0, []⟩]) w' ∧ Dis (l ++ [⟨X, N, M, tx, none, List.replicate nt 0, []⟩])))
/-- What the append gives. -/
def BegMz (B nt : Nat) (bd nx fa tx : Int) (lo : Nat) (l : List Tb) (w : World) (v : Value) (w' : World) : Prop := ∃ X N M v0, NewT lo nt tx X N M w' ∧ PtrL B w' v (l.map (·.X) ++ [X]) ∧ (∀ t ∈ l, TxR B nt t w') ∧ Blk w' B #[.int .i64 nt, .int .i64 bd, .int .u64 nx, .bool true, v0, .int .i64 fa] 85 ∧ BelF B w w' ∧ B < w'.heap.size
set_option maxRecDepth 100000 in
set_option maxHeartbeats 1600000 in
set_option linter.unusedSimpArgs false in
theorem begin_genz (B nt : Nat) (bd nx fa tx k : Int) (has : Bool) (l : List Tb) (C S : Option Addr) (n1 c1 n2 c2 : Nat) (w : World) (h : BuR B nt bd nx has fa l w) (hd : Dis l) (hl : l.length ≤ 16) (hnt : nt ≤ 40) (hok : BegOk nx tx has l) :
    Calls Tryd.prog 42 #[.pointer (some ⟨B, 0, none⟩), .agg #[.int .u8 k, .int .u64 tx, .slice C n1 c1, .slice S n2 c2]] w (BegPz B nt bd nx fa tx has l w) := by
  have hmm := @run_makeMap Tryd.prog
  have hms := madeN_run nt hnt
  go_enter Tryd.func42, Tryd.ntmps42
  go_upto_region 1 with fail
  have h1 : Blk (w.alloc (.cells #[.int .u8 k, .int .u64 tx, .slice C n1 c1, .slice S n2 c2] 50)) w.heap.size #[.int .u8 k, .int .u64 tx, .slice C n1 c1, .slice S n2 c2] 50 := Blk.new w _ _
  have hC : Below w.heap.size w (w.alloc (.cells #[.int .u8 k, .int .u64 tx, .slice C n1 c1, .slice S n2 c2] 50)) := (by repeat (first | exact Below.refl _ _ | assumption | refine Below.drew ?_ | refine below_drewN ?_ _ | refine Below.alloc ?_ (by simp <;> omega) _))
  have HB := Lib.hid (h.ext hC)
  have HB0 := Lib.hid h
  have HMB := Lib.hid h1
  have HC := Lib.hid hC
  have hBw : B < w.heap.size := by obtain ⟨v, hb, _⟩ := h.b; exact hb.lt
  have HD := Lib.hid hd
  have HOK := Lib.hid hok
  clear h1 hC h hd hok
  generalize w.alloc (.cells #[.int .u8 k, .int .u64 tx, .slice C n1 c1, .slice S n2 c2] 50) = W0 at HB HMB HC ⊢
  have hBl := hBw
  generalize w.heap.size = mb at HMB hBl ⊢
  go_wp2_with fail
  refine (last_any B nt bd nx fa has l W0 HB.out (by omega)).mono ?_
  rintro r w1 ⟨hb1, q, rfl, hq⟩
  have HB := Lib.hid (HB.out.ext hb1)
  have HMB := Lib.hid (HMB.out.ext hb1)
  have HC := Lib.hid (bt HC.out hb1)
  have HQ : Hid (LastQ W0 l q) := hq
  clear hb1 hq
  go_upto_region 2 with fail
  go_cut [9] (fun v wx => v = .bool false ∧ Hid (Below w1.heap.size w1 wx))
  case first =>
    have hB := HB.out
    have hM := HMB.out
    have m1 := hM.cell 1
    have lM := hM.lt
    simp only [List.getElem?_toArray, List.getElem?_cons_zero, List.getElem?_cons_succ] at m1
    rcases HQ.out with ⟨rfl, rfl⟩ | ⟨l', t, rfl, rfl⟩
    · clear hB hM
      go_quiet (fail)
      go_wp2_with fail
      go_meet
      exact ⟨rfl, below_drewN (Below.refl _ _) _⟩
    · obtain ⟨⟨f, hf⟩, hwr, hz⟩ := HOK.out.2 l' t rfl
      have hT := hB.t t (by simp)
      have hx := hT.x
      rw [hf] at hx
      have x0 := hx.cell 0
      have x1 := hx.cell 1
      have lX := hx.lt
      simp only [List.getElem?_toArray, List.getElem?_cons_zero, List.getElem?_cons_succ, endV] at x0 x1
      have hz1 : (tx == 0) = false := by simpa using hz
      clear hB hM hT hx hf
      go_quiet (fail)
      go_wp2_with fail
      go_meet
      exact ⟨rfl, below_drewN (Below.refl _ _) _⟩
  case rest =>
    obtain ⟨rfl, HW1⟩ := hcut
    rename World => w1
    have HB := Lib.hid (HB.out.ext HW1.out)
    have HMB := Lib.hid (HMB.out.ext HW1.out)
    have HC := Lib.hid (bt HC.out HW1.out)
    clear HW1
    go_upto_region 4 with fail
    go_cut [34] (fun v wx => v = .bool false ∧ Hid (Below w1.heap.size w1 wx))
    case first =>
      have hM := HMB.out
      have m1 := hM.cell 1
      have lM := hM.lt
      obtain ⟨v, hB, _⟩ := HB.out.b
      have b2 := hB.cell 2
      have b3 := hB.cell 3
      have lB := hB.lt
      simp only [List.getElem?_toArray, List.getElem?_cons_zero, List.getElem?_cons_succ] at m1 b2 b3
      rcases HQ.out with ⟨rfl, rfl⟩ | ⟨l', t, rfl, rfl⟩
      · cases has with
        | false =>
          clear hB hM
          go_quiet (fail)
          go_wp2_with fail
          go_meet
          exact ⟨rfl, below_drewN (Below.refl _ _) _⟩
        | true =>
          obtain rfl := HOK.out.1 rfl rfl
          clear hB hM
          go_quiet (fail)
          go_wp2_with fail
          go_meet
          exact ⟨rfl, below_drewN (Below.refl _ _) _⟩
      · clear hB hM
        go_quiet (fail)
        go_wp2_with fail
        go_meet
        exact ⟨rfl, below_drewN (Below.refl _ _) _⟩
    case rest =>
      obtain ⟨rfl, HW1⟩ := hcut
      rename World => w2
      have HB := Lib.hid (HB.out.ext HW1.out)
      have HMB := Lib.hid (HMB.out.ext HW1.out)
      have HC := Lib.hid (bt HC.out HW1.out)
      clear HW1 HQ
      go_upto_region 6 with fail
      obtain ⟨v, hB, A, c, rfl, hP⟩ := HB.out.b
      have b4 := hB.cell 4
      have b3 := hB.cell 3
      have lB := hB.lt
      simp only [List.getElem?_toArray, List.getElem?_cons_zero, List.getElem?_cons_succ, List.length_map] at b3 b4
      by_cases h16 : 16 ≤ l.length
      · have hge : (16 : Int) ≤ l.length := by omega
        clear hB hP
        go_wp2_with fail
        go_ret2
        exact ⟨BelF.of HC.out (Nat.le_of_lt hBw), Or.inl ⟨h16, rfl, HB.out⟩⟩
      · have hge : ¬ (16 : Int) ≤ l.length := by omega
        have HT0 := Lib.hid (fun t ht => (HB0.out.t t ht))
        have h16 : l.length < 16 := by omega
        cases has with
        | true =>
          have HB' : Hid (BuR B nt bd nx true fa l w2) := HB
          have HCB : Hid (BelF B w w2) := BelF.of HC.out (Nat.le_of_lt hBw)
          have hws := HC.out.size
          clear hB hP HB HC
          have HB := HB'
          have HC := HCB
          clear HB' HCB
          go_upto_region 10 with fail
          clear b3 b4 lB hge
          rename World => w3
          have HNB : Hid (∃ lo, lo = w.heap.size ∧ B ≤ lo ∧ lo ≤ w3.heap.size) := ⟨_, rfl, Nat.le_of_lt hBw, hws⟩
          obtain ⟨lo, hlo, hBlo, hlow⟩ := HNB.out
          obtain ⟨v, hB, hP⟩ := HB.out.b
          have HBB := Lib.hid hB
          have HP := Lib.hid hP
          have HT := Lib.hid HB.out.t
          have hBw3 := hB.lt
          have HLO := Lib.hid hlo
          clear hB hP HB HNB hlo hBw hws
          refine region_app 19 16 _ [false, false, false, false, false, false, false, false, false, false, false, false, false, false, false, false, false, false, false, false, false, false, false, false, false, false, false, false, false, false, false, false, false, false, false, false, false, false, false, false, false, false, false, false, false, false, false, false, false, false, false, false, false, false, false, false, false, false, false, false, false, false, false, false, false, false, false, false, false, false, false, false, false, true, true, true, true, true, true, true, true, true, true, true, true, true, true, true, true, true, true, true] [73, 74, 75, 76, 77, 78, 79, 80, 81, 82, 83, 84, 85, 86, 87, 88, 89, 90, 91] [.val (.pointer (some ⟨B, 0, none⟩)), .val (.pointer (some ⟨B, 0, none⟩)), .val (.pointer (some ⟨B, 0, none⟩)), .val (.pointer (some ⟨B, 4, none⟩)), .val (v), .val (.pointer (some ⟨mb, 1, none⟩)), .val (.int .u64 tx), .val (.pointer (some ⟨B, 0, none⟩)), .val (.pointer (some ⟨B, 0, none⟩)), .val (.pointer (some ⟨B, 0, none⟩)), .val (.int .i64 nt), wSl lo nt, kMap lo, wTx lo nt tx, wTxP lo nt tx, wTxS lo nt tx, kAny, .val (.pointer (some ⟨B, 0, none⟩)), .val (.pointer (some ⟨B, 4, none⟩))] [0, 17, 18] (fun W => B < W.heap.size) (BegMz B nt bd nx fa tx lo l w) [4, 15] [18] ?hj1 ?hj2 (by kernel_rfl) (by kernel_rfl) rfl (by decide) (by kernel_rfl) (by kernel_rfl) (by kernel_rfl) (by kernel_rfl) rfl (by kernel_rfl) (by kernel_rfl) (by kernel_rfl) (by kernel_rfl) (by kernel_rfl) ⟨?_, ?_, ?_, ?_, ?_, ?_, ?_, ?_, ?_, ?_, ?_, ?_, ?_, ?_, ?_, ?_, ?app, ?_, ?_, trivial⟩ ?done
          case hj1 =>
            intro W hW
            exact Nat.lt_of_lt_of_le hBw3 hW.size
          case hj2 =>
            rintro u W ⟨X, N, M, v0, _, _, _, _, _, hs⟩
            exact hs
          case done =>
            rintro x W v2 ⟨X, N, M, v0, hnew, hptr, htx, hBk, hbel, _⟩
            simp only [StepGoal, List.getD_cons_zero, List.getD_cons_succ]
            intro K hK
            obtain ⟨A2, cc2, rfl, _⟩ := id hptr
            generalize (l.map (·.X) ++ [X]).length = m at hptr ⊢
            obtain ⟨w6, rfl, lt⟩ := blk_put hBk
            obtain ⟨pc, pf, pS⟩ := putBlk_facts (w := w6) 85 lt
            have hg := put_grown w6 B #[.int .i64 nt, .int .i64 bd, .int .u64 nx, .bool true, v0, .int .i64 fa] #[.int .i64 nt, .int .i64 bd, .int .u64 nx, .bool true, (.slice A2 m cc2), .int .i64 fa] 85
            have hoff := put_off #[.int .i64 nt, .int .i64 bd, .int .u64 nx, .bool true, v0, .int .i64 fa] 85 lt (by decide) (by decide) (by decide) (by decide) (by decide)
            have HN := Lib.hid ((hnew.txr hBlo).off hg hoff)
            have HPP := Lib.hid (hptr.off hg (fun g e => ⟨_, _, _, by obtain rfl := Option.some.inj e; exact putBlk_blk _ _ lt, by decide⟩))
            have HTT := Lib.hid (fun t ht => (htx t ht).off hg hoff)
            have HBB2 := Lib.hid (BelF.puts hbel (Nat.le_refl B) lt (by decide) #[.int .i64 nt, .int .i64 bd, .int .u64 nx, .bool true, (.slice A2 m cc2), .int .i64 fa])
            have HLO2 := Lib.hid hnew.1
            clear hnew hptr htx hBk hbel hg hoff
            rw [if_pos (by rfl)]; simp only [overlay, upd, cond_true, cond_false, Nat.reduceEqDiff, reduceIte]
            go_simp
            refine hK.out _ _ ?_
            go_wp2_with fail
            go_ret2
            refine ⟨HBB2.out, Or.inr ⟨h16, rfl, X, N, M, ⟨⟨_, putBlk_blk _ _ lt, by rw [List.map_append]; exact HPP.out⟩, fun t ht => ?_⟩, ?_⟩⟩
            · rcases List.mem_append.1 ht with ht | ht
              · exact HTT.out t ht
              · obtain rfl := List.mem_singleton.1 ht
                exact HN.out
            · exact HD.out.snoc HT0.out (Nat.le_of_eq HLO.out.symm) HLO2.out.1 HLO2.out.2.1 HLO2.out.2.2 rfl
          case app =>
            intro x w5 hb5
            simp only [StepGoal, List.getD_cons_zero, List.getD_cons_succ]
            rintro _ ⟨h, X, N, M, rfl, hh, hT⟩
            intro K hK
            rw [if_pos (by rfl)]; simp only [overlay, upd, cond_true, cond_false, Nat.reduceEqDiff, reduceIte]
            have hP5 := HP.out.ext hb5
            have hs5 := hb5.size
            refine wp_append_ptr (by rfl) (.tmp 77) (.tmp 88) (by rfl) B v _ (by rfl) hP5 h X (by rfl) hh (by simp; omega) (by omega) ?_
            intro v' w6 row hP6 hg hrow
            have hoff : OffR w5 row := fun g e => by
              obtain ⟨_, cs, f, h1⟩ := hrow g e
              exact ⟨cs, _, f, h1, by decide, by decide, by decide, by decide, by decide⟩
            have hb6 : BelF B w5 w6 := ⟨(Below.refl _ _).grown hg (by omega) (fun g e => (hrow g e).1), FrS.grown hg (fun g e cs T f hh hT => by obtain ⟨_, cs', f', h1⟩ := hrow g e; rw [h1] at hh; simp only [Option.some.injEq, Obj.cells.injEq] at hh; exact absurd (hh.2.1.trans hT) (by decide))⟩
            have hB5 := HBB.out.ext hb5
            refine hK.out _ _ ⟨X, N, M, v, ?_, hP6, fun t ht => ((HT.out t ht).ext hb5).off hg hoff, off_blk hB5 hg (fun g e => by obtain ⟨_, cs, f, h1⟩ := hrow g e; exact ⟨cs, _, f, h1, by decide⟩), (HC.out.transB hb5 (by omega)).trans hb6, by have := hg.size; omega⟩
            exact ⟨hT.1, off_blk hT.2.1 hg (fun g e => by obtain ⟨_, cs, f, h1⟩ := hrow g e; exact ⟨cs, _, f, h1, by decide⟩), off_blk hT.2.2.1 hg (fun g e => by obtain ⟨_, cs, f, h1⟩ := hrow g e; exact ⟨cs, _, f, h1, by decide⟩), off_map hT.2.2.2 hg (fun g e => by obtain ⟨_, cs, f, h1⟩ := hrow g e; exact ⟨cs, _, f, h1⟩)⟩
          all_goals
            first
              | (intro x w5 hJ
                 simp only [StepGoal, List.getD_cons_zero, List.getD_cons_succ]
                 intro K hK
                 rw [if_pos (by rfl)]; simp only [overlay, upd, cond_true, cond_false, Nat.reduceEqDiff, reduceIte]
                 go_simp
                 exact hK.out _ rfl)
              | (intro x w5 hb5
                 have hBk := HBB.out.ext hb5
                 have hMk := HMB.out.ext hb5
                 have b0 := hBk.cell 0
                 have b4 := hBk.cell 4
                 have m1 := hMk.cell 1
                 have lB := hBk.lt
                 have lM := hMk.lt
                 have hs5 := hb5.size
                 simp only [List.getElem?_toArray, List.getElem?_cons_zero, List.getElem?_cons_succ] at b0 b4 m1
                 clear hBk hMk
                 simp only [StepGoal, List.getD_cons_zero, List.getD_cons_succ]
                 first
                   | (intro K hK
                      rw [if_pos (by rfl)]; simp only [overlay, upd, cond_true, cond_false, Nat.reduceEqDiff, reduceIte]
                      go_simp
                      first
                        | exact hK.out _ _ (Below.refl _ _) rfl
                        | exact hK.out _ _ (by repeat (first | exact Below.refl _ _ | assumption | refine Below.drew ?_ | refine below_drewN ?_ _ | refine Below.alloc ?_ (by simp <;> omega) _)) ⟨_, rfl, by omega, Blk.new _ _ _⟩
                        | exact hK.out _ _ (by repeat (first | exact Below.refl _ _ | assumption | refine Below.drew ?_ | refine below_drewN ?_ _ | refine Below.alloc ?_ (by simp <;> omega) _)) ⟨_, rfl, by omega, World.ownsMap_made _ _ _ _⟩)
                   | (rintro _ ⟨N, rfl, lN, hN⟩ _ ⟨M, rfl, lM2, hMp⟩
                      intro K hK
                      rw [if_pos (by rfl)]; simp only [overlay, upd, cond_true, cond_false, Nat.reduceEqDiff, reduceIte]
                      go_simp
                      exact hK.out _ _ (Below.refl _ _) ⟨N, M, rfl, ⟨lN, lM2⟩, hN, hMp⟩)
                   | (rintro _ ⟨N, M, rfl, ⟨lN, lM2⟩, hN, hMp⟩
                      intro K hK
                      rw [if_pos (by rfl)]; simp only [overlay, upd, cond_true, cond_false, Nat.reduceEqDiff, reduceIte]
                      go_simp
                      exact hK.out _ _ (by repeat (first | exact Below.refl _ _ | assumption | refine Below.drew ?_ | refine below_drewN ?_ _ | refine Below.alloc ?_ (by simp <;> omega) _)) ⟨_, N, M, rfl, ⟨by omega, lN, lM2⟩, Blk.new _ _ _, hN.ext (by repeat (first | exact Below.refl _ _ | assumption | refine Below.drew ?_ | refine below_drewN ?_ _ | refine Below.alloc ?_ (by simp <;> omega) _)), hMp.ext (by repeat (first | exact Below.refl _ _ | assumption | refine Below.drew ?_ | refine below_drewN ?_ _ | refine Below.alloc ?_ (by simp <;> omega) _))⟩)
                   | (rintro _ ⟨X, N, M, rfl, hT⟩
                      intro K hK
                      rw [if_pos (by rfl)]; simp only [overlay, upd, cond_true, cond_false, Nat.reduceEqDiff, reduceIte]
                      go_simp
                      exact hK.out _ _ (by repeat (first | exact Below.refl _ _ | assumption | refine Below.drew ?_ | refine below_drewN ?_ _ | refine Below.alloc ?_ (by simp <;> omega) _)) ⟨_, X, N, M, rfl, Blk.new _ _ _, hT.ext (by repeat (first | exact Below.refl _ _ | assumption | refine Below.drew ?_ | refine below_drewN ?_ _ | refine Below.alloc ?_ (by simp <;> omega) _))⟩))
        | false =>
          have hws := HC.out.size
          obtain ⟨w6, rfl, lt⟩ := blk_put hB
          obtain ⟨pc, pf, pS⟩ := putBlk_facts (w := w6) 85 lt
          have hM := HMB.out
          have m1 := hM.cell 1
          have lM := hM.lt
          simp only [List.getElem?_toArray, List.getElem?_cons_zero, List.getElem?_cons_succ] at m1
          have hMB : mb ≠ B := by omega
          have hm1 := fun ds => (putBlk_old hM hMB ds).cell 1
          simp only [List.getElem?_toArray, List.getElem?_cons_zero, List.getElem?_cons_succ] at hm1
          have HT := Lib.hid HB.out.t
          have HP := Lib.hid hP
          have HCC := Lib.hid (BelF.of HC.out (Nat.le_of_lt hBw))
          clear HB HC hB hP
          go_upto_region 10 with fail
          have hg := put_grown w6 B #[.int .i64 nt, .int .i64 bd, .int .u64 nx, .bool false, .slice A (l.map (·.X)).length c, .int .i64 fa] #[.int .i64 nt, .int .i64 bd, .int .u64 tx, .bool true, .slice A (l.map (·.X)).length c, .int .i64 fa] 85
          have hoff := put_off #[.int .i64 nt, .int .i64 bd, .int .u64 nx, .bool false, .slice A (l.map (·.X)).length c, .int .i64 fa] 85 lt (by decide) (by decide) (by decide) (by decide) (by decide)
          have HB : Hid (BuR B nt bd tx true fa l (putBlk w6 B #[.int .i64 nt, .int .i64 bd, .int .u64 tx, .bool true, .slice A (l.map (·.X)).length c, .int .i64 fa] 85)) := ⟨⟨_, putBlk_blk _ _ lt, PtrL.off ⟨A, c, rfl, HP.out⟩ hg (fun g e => ⟨_, _, _, by obtain rfl := Option.some.inj e; exact putBlk_blk _ _ lt, by decide⟩)⟩, fun t ht => (HT.out t ht).off hg hoff⟩
          have HMB := Lib.hid (putBlk_old hM hMB #[.int .i64 nt, .int .i64 bd, .int .u64 tx, .bool true, .slice A (l.map (·.X)).length c, .int .i64 fa])
          have HC := Lib.hid (BelF.puts HCC.out (Nat.le_refl B) lt (by decide) #[.int .i64 nt, .int .i64 bd, .int .u64 tx, .bool true, .slice A (l.map (·.X)).length c, .int .i64 fa])
          replace hws : w.heap.size ≤ (putBlk w6 B #[.int .i64 nt, .int .i64 bd, .int .u64 tx, .bool true, .slice A (l.map (·.X)).length c, .int .i64 fa] 85).heap.size := HC.out.size
          rw [List.length_map] at HB HMB HC hws
          clear b3 b4 lB hge hg hoff HT HP HCC pc pf pS m1 lM hM hm1 hMB
          generalize putBlk w6 B #[.int .i64 nt, .int .i64 bd, .int .u64 tx, .bool true, .slice A l.length c, .int .i64 fa] 85 = w3 at HB HMB HC hws ⊢
          have HNB : Hid (∃ lo, lo = w.heap.size ∧ B ≤ lo ∧ lo ≤ w3.heap.size) := ⟨_, rfl, Nat.le_of_lt hBw, hws⟩
          obtain ⟨lo, hlo, hBlo, hlow⟩ := HNB.out
          obtain ⟨v, hB, hP⟩ := HB.out.b
          have HBB := Lib.hid hB
          have HP := Lib.hid hP
          have HT := Lib.hid HB.out.t
          have hBw3 := hB.lt
          have HLO := Lib.hid hlo
          clear hB hP HB HNB hlo hBw hws
          refine region_app 19 16 _ [false, false, false, false, false, false, false, false, false, false, false, false, false, false, false, false, false, false, false, false, false, false, false, false, false, false, false, false, false, false, false, false, false, false, false, false, false, false, false, false, false, false, false, false, false, false, false, false, false, false, false, false, false, false, false, false, false, false, false, false, false, false, false, false, false, false, false, false, false, false, false, false, false, true, true, true, true, true, true, true, true, true, true, true, true, true, true, true, true, true, true, true] [73, 74, 75, 76, 77, 78, 79, 80, 81, 82, 83, 84, 85, 86, 87, 88, 89, 90, 91] [.val (.pointer (some ⟨B, 0, none⟩)), .val (.pointer (some ⟨B, 0, none⟩)), .val (.pointer (some ⟨B, 0, none⟩)), .val (.pointer (some ⟨B, 4, none⟩)), .val (v), .val (.pointer (some ⟨mb, 1, none⟩)), .val (.int .u64 tx), .val (.pointer (some ⟨B, 0, none⟩)), .val (.pointer (some ⟨B, 0, none⟩)), .val (.pointer (some ⟨B, 0, none⟩)), .val (.int .i64 nt), wSl lo nt, kMap lo, wTx lo nt tx, wTxP lo nt tx, wTxS lo nt tx, kAny, .val (.pointer (some ⟨B, 0, none⟩)), .val (.pointer (some ⟨B, 4, none⟩))] [0, 17, 18] (fun W => B < W.heap.size) (BegMz B nt bd tx fa tx lo l w) [4, 15] [18] ?hj1 ?hj2 (by kernel_rfl) (by kernel_rfl) rfl (by decide) (by kernel_rfl) (by kernel_rfl) (by kernel_rfl) (by kernel_rfl) rfl (by kernel_rfl) (by kernel_rfl) (by kernel_rfl) (by kernel_rfl) (by kernel_rfl) ⟨?_, ?_, ?_, ?_, ?_, ?_, ?_, ?_, ?_, ?_, ?_, ?_, ?_, ?_, ?_, ?_, ?app, ?_, ?_, trivial⟩ ?done
          case hj1 =>
            intro W hW
            exact Nat.lt_of_lt_of_le hBw3 hW.size
          case hj2 =>
            rintro u W ⟨X, N, M, v0, _, _, _, _, _, hs⟩
            exact hs
          case done =>
            rintro x W v2 ⟨X, N, M, v0, hnew, hptr, htx, hBk, hbel, _⟩
            simp only [StepGoal, List.getD_cons_zero, List.getD_cons_succ]
            intro K hK
            obtain ⟨A2, cc2, rfl, _⟩ := id hptr
            generalize (l.map (·.X) ++ [X]).length = m at hptr ⊢
            obtain ⟨w6, rfl, lt⟩ := blk_put hBk
            obtain ⟨pc, pf, pS⟩ := putBlk_facts (w := w6) 85 lt
            have hg := put_grown w6 B #[.int .i64 nt, .int .i64 bd, .int .u64 tx, .bool true, v0, .int .i64 fa] #[.int .i64 nt, .int .i64 bd, .int .u64 tx, .bool true, (.slice A2 m cc2), .int .i64 fa] 85
            have hoff := put_off #[.int .i64 nt, .int .i64 bd, .int .u64 tx, .bool true, v0, .int .i64 fa] 85 lt (by decide) (by decide) (by decide) (by decide) (by decide)
            have HN := Lib.hid ((hnew.txr hBlo).off hg hoff)
            have HPP := Lib.hid (hptr.off hg (fun g e => ⟨_, _, _, by obtain rfl := Option.some.inj e; exact putBlk_blk _ _ lt, by decide⟩))
            have HTT := Lib.hid (fun t ht => (htx t ht).off hg hoff)
            have HBB2 := Lib.hid (BelF.puts hbel (Nat.le_refl B) lt (by decide) #[.int .i64 nt, .int .i64 bd, .int .u64 tx, .bool true, (.slice A2 m cc2), .int .i64 fa])
            have HLO2 := Lib.hid hnew.1
            clear hnew hptr htx hBk hbel hg hoff
            rw [if_pos (by rfl)]; simp only [overlay, upd, cond_true, cond_false, Nat.reduceEqDiff, reduceIte]
            go_simp
            refine hK.out _ _ ?_
            go_wp2_with fail
            go_ret2
            refine ⟨HBB2.out, Or.inr ⟨h16, rfl, X, N, M, ⟨⟨_, putBlk_blk _ _ lt, by rw [List.map_append]; exact HPP.out⟩, fun t ht => ?_⟩, ?_⟩⟩
            · rcases List.mem_append.1 ht with ht | ht
              · exact HTT.out t ht
              · obtain rfl := List.mem_singleton.1 ht
                exact HN.out
            · exact HD.out.snoc HT0.out (Nat.le_of_eq HLO.out.symm) HLO2.out.1 HLO2.out.2.1 HLO2.out.2.2 rfl
          case app =>
            intro x w5 hb5
            simp only [StepGoal, List.getD_cons_zero, List.getD_cons_succ]
            rintro _ ⟨h, X, N, M, rfl, hh, hT⟩
            intro K hK
            rw [if_pos (by rfl)]; simp only [overlay, upd, cond_true, cond_false, Nat.reduceEqDiff, reduceIte]
            have hP5 := HP.out.ext hb5
            have hs5 := hb5.size
            refine wp_append_ptr (by rfl) (.tmp 77) (.tmp 88) (by rfl) B v _ (by rfl) hP5 h X (by rfl) hh (by simp; omega) (by omega) ?_
            intro v' w6 row hP6 hg hrow
            have hoff : OffR w5 row := fun g e => by
              obtain ⟨_, cs, f, h1⟩ := hrow g e
              exact ⟨cs, _, f, h1, by decide, by decide, by decide, by decide, by decide⟩
            have hb6 : BelF B w5 w6 := ⟨(Below.refl _ _).grown hg (by omega) (fun g e => (hrow g e).1), FrS.grown hg (fun g e cs T f hh hT => by obtain ⟨_, cs', f', h1⟩ := hrow g e; rw [h1] at hh; simp only [Option.some.injEq, Obj.cells.injEq] at hh; exact absurd (hh.2.1.trans hT) (by decide))⟩
            have hB5 := HBB.out.ext hb5
            refine hK.out _ _ ⟨X, N, M, v, ?_, hP6, fun t ht => ((HT.out t ht).ext hb5).off hg hoff, off_blk hB5 hg (fun g e => by obtain ⟨_, cs, f, h1⟩ := hrow g e; exact ⟨cs, _, f, h1, by decide⟩), (HC.out.transB hb5 (by omega)).trans hb6, by have := hg.size; omega⟩
            exact ⟨hT.1, off_blk hT.2.1 hg (fun g e => by obtain ⟨_, cs, f, h1⟩ := hrow g e; exact ⟨cs, _, f, h1, by decide⟩), off_blk hT.2.2.1 hg (fun g e => by obtain ⟨_, cs, f, h1⟩ := hrow g e; exact ⟨cs, _, f, h1, by decide⟩), off_map hT.2.2.2 hg (fun g e => by obtain ⟨_, cs, f, h1⟩ := hrow g e; exact ⟨cs, _, f, h1⟩)⟩
          all_goals
            first
              | (intro x w5 hJ
                 simp only [StepGoal, List.getD_cons_zero, List.getD_cons_succ]
                 intro K hK
                 rw [if_pos (by rfl)]; simp only [overlay, upd, cond_true, cond_false, Nat.reduceEqDiff, reduceIte]
                 go_simp
                 exact hK.out _ rfl)
              | (intro x w5 hb5
                 have hBk := HBB.out.ext hb5
                 have hMk := HMB.out.ext hb5
                 have b0 := hBk.cell 0
                 have b4 := hBk.cell 4
                 have m1 := hMk.cell 1
                 have lB := hBk.lt
                 have lM := hMk.lt
                 have hs5 := hb5.size
                 simp only [List.getElem?_toArray, List.getElem?_cons_zero, List.getElem?_cons_succ] at b0 b4 m1
                 clear hBk hMk
                 simp only [StepGoal, List.getD_cons_zero, List.getD_cons_succ]
                 first
                   | (intro K hK
                      rw [if_pos (by rfl)]; simp only [overlay, upd, cond_true, cond_false, Nat.reduceEqDiff, reduceIte]
                      go_simp
                      first
                        | exact hK.out _ _ (Below.refl _ _) rfl
                        | exact hK.out _ _ (by repeat (first | exact Below.refl _ _ | assumption | refine Below.drew ?_ | refine below_drewN ?_ _ | refine Below.alloc ?_ (by simp <;> omega) _)) ⟨_, rfl, by omega, Blk.new _ _ _⟩
                        | exact hK.out _ _ (by repeat (first | exact Below.refl _ _ | assumption | refine Below.drew ?_ | refine below_drewN ?_ _ | refine Below.alloc ?_ (by simp <;> omega) _)) ⟨_, rfl, by omega, World.ownsMap_made _ _ _ _⟩)
                   | (rintro _ ⟨N, rfl, lN, hN⟩ _ ⟨M, rfl, lM2, hMp⟩
                      intro K hK
                      rw [if_pos (by rfl)]; simp only [overlay, upd, cond_true, cond_false, Nat.reduceEqDiff, reduceIte]
                      go_simp
                      exact hK.out _ _ (Below.refl _ _) ⟨N, M, rfl, ⟨lN, lM2⟩, hN, hMp⟩)
                   | (rintro _ ⟨N, M, rfl, ⟨lN, lM2⟩, hN, hMp⟩
                      intro K hK
                      rw [if_pos (by rfl)]; simp only [overlay, upd, cond_true, cond_false, Nat.reduceEqDiff, reduceIte]
                      go_simp
                      exact hK.out _ _ (by repeat (first | exact Below.refl _ _ | assumption | refine Below.drew ?_ | refine below_drewN ?_ _ | refine Below.alloc ?_ (by simp <;> omega) _)) ⟨_, N, M, rfl, ⟨by omega, lN, lM2⟩, Blk.new _ _ _, hN.ext (by repeat (first | exact Below.refl _ _ | assumption | refine Below.drew ?_ | refine below_drewN ?_ _ | refine Below.alloc ?_ (by simp <;> omega) _)), hMp.ext (by repeat (first | exact Below.refl _ _ | assumption | refine Below.drew ?_ | refine below_drewN ?_ _ | refine Below.alloc ?_ (by simp <;> omega) _))⟩)
                   | (rintro _ ⟨X, N, M, rfl, hT⟩
                      intro K hK
                      rw [if_pos (by rfl)]; simp only [overlay, upd, cond_true, cond_false, Nat.reduceEqDiff, reduceIte]
                      go_simp
                      exact hK.out _ _ (by repeat (first | exact Below.refl _ _ | assumption | refine Below.drew ?_ | refine below_drewN ?_ _ | refine Below.alloc ?_ (by simp <;> omega) _)) ⟨_, X, N, M, rfl, Blk.new _ _ _, hT.ext (by repeat (first | exact Below.refl _ _ | assumption | refine Below.drew ?_ | refine below_drewN ?_ _ | refine Below.alloc ?_ (by simp <;> omega) _))⟩))
end Go.Proofs.YtkfhfegogmlchaaDoor
