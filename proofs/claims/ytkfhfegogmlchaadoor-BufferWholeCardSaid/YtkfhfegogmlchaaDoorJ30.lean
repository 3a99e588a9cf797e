/- Several texts in one: see each part's head. -/
import Derived.Test.YtkfhfegogmlchaaDoorJ27
/- An event is taken: what it turns, and what stays. -/
namespace Go.Proofs.YtkfhfegogmlchaaDoor
open Go.RowKit

def Ev1Pz (B nt : Nat) (bd nx fa : Int) (has : Bool) (l : List Tb) (k : Nat) (tx tot nth kd : Int) (bf af : List V) (w : World) (r : Ending) (w' : World) : Prop :=
  (roomL bd tx 0 l = none ∧ r = .returned (.tuple #[.bool false, .int .i64 0]) ∧ Below w.heap.size w w') ∨
  (∃ l1 t l2 v, roomL bd tx 0 l = some t.X ∧ l = l1 ++ t :: l2 ∧ r = .returned (.tuple #[.bool true, .int .i64 0]) ∧ BelF B w w' ∧ BuR B nt bd nx has fa (l1 ++ { t with nth := t.nth.set k (nth + 1), es := t.es ++ [(⟨tx, tot, nth, kd, k, bf, af⟩, v)] } :: l2) w' ∧ Dis (l1 ++ { t with nth := t.nth.set k (nth + 1), es := t.es ++ [(⟨tx, tot, nth, kd, k, bf, af⟩, v)] } :: l2))
set_option maxRecDepth 100000 in
set_option maxHeartbeats 3200000 in
set_option linter.unusedSimpArgs false in
theorem ev1_genz (p q B nt k : Nat) (bd nx fa tx tot nth kd : Int) (has : Bool) (bf af : List V) (A A2 : Option Addr) (c c2 : Nat) (l : List Tb) (w : World) (hT : Tabs w) (hpB : B ≤ p) (hp : Blk w p #[.int .u64 tx, .int .i64 tot, .int .i64 nth, .int .u8 kd, .int .i64 k, .slice A bf.length c, .slice A2 af.length c2] 59) (hq : Blk w q #[.pointer (some ⟨B, 0, none⟩)] 42)
    (h : BuR B nt bd nx has fa l w) (hd : Dis l) (hl : l.length ≤ 40) (hk : k < nt) (hev : evB ⟨tx, tot, nth, kd, k, bf, af⟩ = true) (hr1 : VRow w A bf) (hr2 : VRow w A2 af) (hbf : bf.length ≤ 1000) (haf : af.length ≤ 1000) (hz1 : A = none → c = 0) (hz2 : A2 = none → c2 = 0) (hnx : has = true → ¬ tx < nx) (htk : TakeOk bd k tx tot nth l) :
    Calls Tryd.prog 37 #[.pointer (some ⟨p, 0, none⟩), .pointer (some ⟨q, 0, none⟩)] w (Ev1Pz B nt bd nx fa has l k tx tot nth kd bf af w) := by
  have HCE := Lib.hid (fun (W : World) (hW : Below w.heap.size w W) => evcheck_any ⟨tx, tot, nth, kd, k, bf, af⟩ A A2 c c2 W (hT.ext hW) (hr1.ext hW) (hr2.ext hW))
  simp only [evCells, hev, show okE true = 0 from rfl] at HCE
  have HRM := Lib.hid (fun (W : World) (hW : Below w.heap.size w W) => room_any B nt bd nx fa tx has l W (h.ext hW) hl)
  have HB := Lib.hid h
  have HD := Lib.hid hd
  have HP := Lib.hid hp
  have HQ := Lib.hid hq
  have HR1 := Lib.hid hr1
  have HR2 := Lib.hid hr2
  have HTK := Lib.hid htk
  have HNX := Lib.hid hnx
  have hBw : B < w.heap.size := by obtain ⟨v, hb, _⟩ := h.b; exact hb.lt
  have hge : decide (nt ≤ k) = false := decide_eq_false (by omega)
  clear hp hq h hd hT hev hr1 hr2 htk hnx
  go_enter Tryd.func37, Tryd.ntmps37
  go_upto_region 1 with fail
  go_cut [19] (fun v wx => v = .bool false ∧ Hid (Below w.heap.size w wx))
  case first =>
    refine region_grow [false, false, false, false, false, false, false, true, true, true, true, true, true, true, true, true, true, true, true, true, false, false, false, false, false, false, false, false, false, false, false, false, false, false, false, false, false, false, false, false, false, false, false, false, false, false, false, false, false, false, false, false, false, false, false, false, false, false, false, false, false, false, false, false, false, false, false, false, false, false, false, false, false, false, false, false, false, false, false, false, false, false, false, false, false, false, false, false, false, false, false, false, false, false, false, false, false, false, false, false, false, false, false, false, false, false, false, false, false, false, false, false, false, false, false, false, false, false] [7, 8, 9, 10, 11, 12, 13, 14, 15, 16, 17, 18, 19] [.val (.agg #[.int .u64 tx, .int .i64 tot, .int .i64 nth, .int .u8 kd, .int .i64 k, .slice A bf.length c, .slice A2 af.length c2]), .val (.int .i64 0), .val (.bool false), .val (.bool false), .val (.pointer (some ⟨p, 3, none⟩)), .val (.pointer (some ⟨p, 4, none⟩)), .val (.int .i64 k), .val (.pointer (some ⟨B, 0, none⟩)), .val (.pointer (some ⟨B, 0, none⟩)), .val (.pointer (some ⟨B, 0, none⟩)), .val (.int .i64 nt), .val (.bool false), .val (.bool false)] [12] (by kernel_rfl) (by kernel_rfl) (by kernel_rfl) (by kernel_rfl) (by kernel_rfl) ⟨?_, ?_, ?_, ?_, ?_, ?_, ?_, ?_, ?_, ?_, ?_, ?_, ?_, trivial⟩ ?done
    case done =>
      intro x w5 hb5
      simp only [StepGoal, overlay, upd, cond_true, cond_false, List.getD_cons_zero, List.getD_cons_succ, Nat.zero_add, Nat.reduceAdd, Nat.reduceEqDiff, reduceIte]
      go_wp2_with fail
      go_meet
      exact ⟨rfl, hb5⟩
    all_goals
      intro x w5 hb5
      intro K hK
      have hP := HP.out.ext hb5
      have hQ := HQ.out.ext hb5
      obtain ⟨v, hB, _⟩ := (HB.out.ext hb5).b
      have p0 := hP.cell 0
      have p1 := hP.cell 1
      have p2 := hP.cell 2
      have p3 := hP.cell 3
      have p4 := hP.cell 4
      have p5 := hP.cell 5
      have p6 := hP.cell 6
      have q0 := hQ.cell 0
      have b0 := hB.cell 0
      have lP := hP.lt
      have lQ := hQ.lt
      have lB := hB.lt
      simp only [List.getElem?_toArray, List.getElem?_cons_zero, List.getElem?_cons_succ] at p0 p1 p2 p3 p4 p5 p6 q0 b0
      clear hP hQ hB
      rw [if_pos (by rfl)]; simp only [overlay, upd, cond_true, cond_false, List.getD_cons_zero, List.getD_cons_succ, Nat.reduceEqDiff, reduceIte]
      go_simp
      first
        | exact hK.out _ _ (Below.refl _ _) rfl
        | ((with_reducible refine (HCE.out _ hb5).mono ?_); rintro e wa ⟨rfl, hba⟩; go_wp2_with fail; exact hK.out _ _ hba rfl)
  case rest =>
    obtain ⟨rfl, HC⟩ := hcut
    rename World => w1
    have HP1 := Lib.hid (HP.out.ext HC.out)
    have HQ1 := Lib.hid (HQ.out.ext HC.out)
    have HB1 := Lib.hid (HB.out.ext HC.out)
    clear HCE
    go_upto_region 3 with fail
    go_cut [32] (fun v wx => v = .bool false ∧ Hid (Below w1.heap.size w1 wx))
    case first =>
      have hP := HP1.out
      have hQ := HQ1.out
      obtain ⟨v, hB, _⟩ := HB1.out.b
      have p0 := hP.cell 0
      have q0 := hQ.cell 0
      have b2 := hB.cell 2
      have b3 := hB.cell 3
      have lP := hP.lt
      have lQ := hQ.lt
      have lB := hB.lt
      simp only [List.getElem?_toArray, List.getElem?_cons_zero, List.getElem?_cons_succ] at p0 q0 b2 b3
      clear hP hQ hB
      cases has with
      | false =>
        go_quiet (fail)
        go_wp2_with fail
        go_meet
        exact ⟨rfl, below_drewN (Below.refl _ _) _⟩
      | true =>
        have hlt : decide (tx < nx) = false := decide_eq_false (HNX.out rfl)
        go_quiet (fail)
        go_wp2_with fail
        go_meet
        exact ⟨rfl, below_drewN (Below.refl _ _) _⟩
    case rest =>
      obtain ⟨rfl, HW⟩ := hcut
      rename World => w2
      have HP := Lib.hid (HP1.out.ext HW.out)
      have HQ := Lib.hid (HQ1.out.ext HW.out)
      have HC := Lib.hid (bt HC.out HW.out)
      have p0 := HP.out.cell 0
      have q0 := HQ.out.cell 0
      have lP := HP.out.lt
      have lQ := HQ.out.lt
      clear HP1 HQ1 HB1 HW
      simp only [List.getElem?_toArray, List.getElem?_cons_zero] at p0 q0
      go_wp2_with fail
      refine (HRM.out w2 HC.out).mono ?_
      rintro r w3 ⟨rfl, rfl⟩
      cases hroom : roomL bd tx 0 l with
      | none =>
        go_wp2_with fail
        go_ret2
        exact Or.inl ⟨hroom, rfl, HC.out⟩
      | some X =>
        obtain ⟨l1, t, l2, f, c0, rfl, rfl, hf, hmiss, hnth, hcnt, h0, hlt, ht0, htl, hel⟩ := HTK.out X hroom
        have HTX := Lib.hid (fun (W : World) (hW : Below w.heap.size w W) => (HB.out.ext hW).t t (by simp))
        have hsum : f.cnt.sum ≤ 163840 := by
          have := (sumF_le (HTX.out w (Below.refl _ _))).2
          rw [hf] at this
          exact this
        have hrg : -9223372036854775808 ≤ tot ∧ tot ≤ 9223372036854775807 := by omega
        have hmem : c0 ≤ 4096 := by
          obtain ⟨_, _, _, hcb, _⟩ := (HTX.out w (Below.refl _ _)).f f hf
          exact (hcb c0 (List.mem_of_getElem? hcnt)).2
        go_upto_region 8 with fail
        clear p0 q0 lP lQ
        go_cut [6] (fun v wx => v = .bool false ∧ Hid (Below w2.heap.size w2 wx))
        case first =>
          have HLK := Lib.hid (fun (W : World) (hW : Below w2.heap.size w2 W) => (HTX.out W (bt HC.out hW)).m.miss hmiss hrg)
          refine region_free (TE w2.heap.size) [false, false, false, false, false, true, true, false, false, false, false, false, false, false, false, false, false, false, false, false, false, false, false, false, false, false, false, false, false, false, false, false, false, false, false, false, false, false, false, true, true, true, true, true, true, true, true, true, true, false, false, false, false, false, false, false, false, false, false, false, false, false, false, false, false, false, false, false, false, false, false, false, false, false, false, false, false, false, false, false, false, false, false, false, false, false, false, false, false, false, false, false, false, false, false, false, false, false, false, false, false, false, false, false, false, false, false, false, false, false, false, false, false, false, false, false, false, false] [40, 41, 42, 43, 44, 45, 46, 39, 47, 48, 5, 0, 6] [.val (.pointer (some ⟨t.X, 0, none⟩)), .val (.pointer (some ⟨t.X, 0, none⟩)), .val (.pointer (some ⟨t.X, 3, none⟩)), .val (.map (some t.M)), .val (.pointer (some ⟨p, 1, none⟩)), .val (.int .i64 tot), .val (.tuple #[ZE, .bool false]), .val (.tuple #[ZE, .bool false]), .val (ZE), .val (.bool false), kEv w2.heap.size, kAny, .val (.bool false)] [12] ?t0 ?tt ?tk (by kernel_rfl) (by kernel_rfl) (by kernel_rfl) (by kernel_rfl) (by kernel_rfl) ⟨?_, ?_, ?_, ?_, ?_, ?_, ?_, ?_, ?_, ?_, ?_, ?_, ?_, trivial⟩ ?done
          case t0 => exact TE.of_below (Below.refl _ _).drew (Nat.le_refl _)
          case tt => exact fun h k => h.trans k
          case tk =>
            intro k hk
            simp only [List.mem_cons, List.not_mem_nil, or_false] at hk
            rcases hk with rfl | rfl | rfl | rfl | rfl | rfl | rfl | rfl | rfl | rfl | rfl | rfl | rfl
            all_goals first | exact KT.val _ | exact kEv_T | exact fun _ _ _ _ _ => trivial
          case done =>
            intro x w5 hb5
            simp only [StepGoal, overlay, upd, cond_true, cond_false, List.getD_cons_zero, List.getD_cons_succ, Nat.zero_add, Nat.reduceAdd, Nat.reduceEqDiff, reduceIte]
            go_wp2_with fail
            go_meet
            exact ⟨rfl, hb5.1⟩
          case refine_12 =>
            intro x w5 hb5
            rintro _ ⟨b0, cs0, rfl, _, _, _⟩
            rintro _ ⟨b5, cs5, rfl, lb5, hs5, hb⟩
            obtain ⟨a0, a1, a2, a3, a4, a5, a6, rfl⟩ := arr7 hs5
            have hTE := TE.put (Bs := w2.heap.size) (ds := #[.int .u64 0, .int .i64 0, .int .i64 0, .int .u8 0, .int .i64 0, .slice none 0 0, .slice none 0 0]) hb lb5 rfl
            obtain ⟨w6, rfl, lt⟩ := blk_put hb
            rw [put_put2] at hTE
            obtain ⟨pc, pf, pS⟩ := putBlk_facts (w := w6) 59 lt
            clear hb
            intro K hK
            rw [if_pos (by rfl)]; simp only [overlay, upd, cond_true, cond_false, List.getD_cons_zero, List.getD_cons_succ, Nat.reduceEqDiff, reduceIte]
            unfold ZE
            go_simp
            exact hK.out undef _ hTE trivial
          case refine_13 =>
            intro x w5 hb5 _ _ _ _ _ _ K hK
            have hle : w2.heap.size ≤ w5.heap.size := hb5.1.size
            rw [if_pos (by rfl)]; simp only [overlay, upd, cond_true, cond_false, List.getD_cons_zero, List.getD_cons_succ, Nat.reduceEqDiff, reduceIte]
            go_simp
            exact hK.out _ _ (TE.of_below (Below.refl _ _) hle) rfl
          all_goals
            intro x w5 hb5
            intro K hK
            have hle : w2.heap.size ≤ w5.heap.size := hb5.1.size
            have hP := HP.out.ext hb5.1
            have hX := (HTX.out w5 (bt HC.out hb5.1)).x
            have hlk := HLK.out w5 hb5.1
            have p1 := hP.cell 1
            have x3 := hX.cell 3
            have lP := hP.lt
            have lX := hX.lt
            simp only [List.getElem?_toArray, List.getElem?_cons_zero, List.getElem?_cons_succ] at p1 x3
            clear hX hP
            rw [if_pos (by rfl)]; simp only [overlay, upd, cond_true, cond_false, List.getD_cons_zero, List.getD_cons_succ, Nat.reduceEqDiff, reduceIte]
            go_simp
            first
              | exact hK.out _ _ (TE.of_below (Below.refl _ _) hle) rfl
              | exact hK.out _ _ (TE.of_below (by repeat (first | exact Below.refl _ _ | assumption | refine Below.drew ?_ | refine below_drewN ?_ _ | refine Below.alloc ?_ (by simp <;> omega) _)) hle) ⟨_, _, rfl, hle, rfl, Blk.new _ _ _⟩
        case rest =>
          obtain ⟨rfl, HW⟩ := hcut
          rename World => w3
          have HP := Lib.hid (HP.out.ext HW.out)
          have HC := Lib.hid (bt HC.out HW.out)
          clear HW HQ HRM HTK HNX
          go_upto_region 9 with fail
          go_cut [87] (fun v wx => v = .bool false ∧ Hid (Below w3.heap.size w3 wx))
          case first =>
            have hP := HP.out
            have hT := HTX.out w3 HC.out
            have hx := hT.x
            rw [hf] at hx
            have HSZ := Lib.hid (fun (W : World) (hW : Below w3.heap.size w3 W) => (HTX.out W (bt HC.out hW)).size hf)
            obtain ⟨hE, ⟨b1, hcn⟩, _⟩ := hT.f f hf
            have p1 := hP.cell 1
            have p2 := hP.cell 2
            have p4 := hP.cell 4
            have x1 := hx.cell 1
            have x2 := hx.cell 2
            have e2 := hE.cell 2
            have n0 := hT.n.cell k
            have cn := hcn.cells (g := f.gc) rfl k (.int .i64 c0) (by rw [List.getElem?_map, hcnt]; rfl)
            have lP := hP.lt
            have lX := hx.lt
            have lE := hE.lt
            have lN := hT.n.lt
            have hkc : k < f.cnt.length := by
              have := (List.getElem?_eq_some_iff.1 hcnt).1
              exact this
            rw [addr_add, Nat.zero_add] at cn
            have lC := cell_lt cn
            simp only [List.getElem?_toArray, List.getElem?_cons_zero, List.getElem?_cons_succ, List.getElem?_map, hnth, Option.map_some, endV] at p1 p2 p4 x1 x2 e2 n0
            have hk0 : (0 : Int) ≤ k := by omega
            have hk1 : (k : Int) < nt := by omega
            have hk2 : (k : Int) < f.cnt.length := by omega
            have hkt : (k : Int).toNat = k := by omega
            have hd1 : decide (c0 ≤ nth) = false := decide_eq_false (by omega)
            have hd2 : decide (f.cnt.sum ≤ tot) = false := decide_eq_false (by omega)
            clear hP hT hx hE hcn HTX HB HD HP HC hcnt hnth hmiss hsum hrg hroom HR1 HR2
            generalize f.cnt.sum = fs at *
            go_quiet (refine Calls.quiet_of_same ((HSZ.out _ (below_drewN (Below.refl _ _) _)).mono fun _ _ h => ⟨h.1, h.2.symm⟩))
            go_wp2_with fail
            go_meet
            exact ⟨rfl, below_drewN (Below.refl _ _) _⟩
          case rest =>
            obtain ⟨rfl, HW⟩ := hcut
            rename World => w4
            have HP := Lib.hid (HP.out.ext HW.out)
            have HC := Lib.hid (bt HC.out HW.out)
            clear HW
            go_upto_region 11 with fail
            go_cut [] (fun wx => ∃ A3 c3 A4 c4, Hid (Blk wx p #[.int .u64 tx, .int .i64 tot, .int .i64 nth, .int .u8 kd, .int .i64 k, .slice A3 bf.length c3, .slice A4 af.length c4] 59) ∧ Hid (RowR wx A3 c3 bf) ∧ Hid (RowR wx A4 c4 af) ∧ Hid (BuR B nt bd nx has fa (l1 ++ t :: l2) wx) ∧ Hid (BelF B w wx))
            case first =>
              have HC1 := Lib.hid (fun (W : World) (hW : Below w4.heap.size w4 W) => cloneR_val bf A c W (HR1.out.ext (bt HC.out hW)) hbf hz1)
              have HC2 := Lib.hid (fun (W : World) (hW : Below w4.heap.size w4 W) => cloneR_val af A2 c2 W (HR2.out.ext (bt HC.out hW)) haf hz2)
              refine region_tail 10 [false, false, false, false, false, false, false, false, false, false, false, false, false, false, false, false, false, false, false, false, false, false, false, false, false, false, false, false, false, false, false, false, false, false, false, false, false, false, false, false, false, false, false, false, false, false, false, false, false, false, false, false, false, false, false, false, false, false, false, false, false, false, false, false, false, false, false, false, false, false, false, false, false, false, false, false, false, false, false, false, false, false, false, false, false, false, false, false, true, true, true, true, true, true, true, true, true, true, false, false, false, false, false, false, false, false, false, false, false, false, false, false, false, false, false, false, false, false] [88, 89, 90, 91, 92, 93, 94, 95, 96, 97] [.val (.pointer (some ⟨p, 3, none⟩)), .val (.pointer (some ⟨p, 5, none⟩)), .val (.slice A bf.length c), wClv bf, .val (.pointer (some ⟨p, 3, none⟩)), .val (.pointer (some ⟨p, 6, none⟩)), .val (.slice A2 af.length c2), wClv af, .val (.pointer (some ⟨p, 3, none⟩)), .val (.pointer (some ⟨p, 5, none⟩))] [3, 7, 9] (by kernel_rfl) (by decide) (by kernel_rfl) (by kernel_rfl) (by kernel_rfl) (by kernel_rfl) (by kernel_rfl) (by kernel_rfl) ⟨?_, ?_, ?_, ?_, ?_, ?_, ?_, ?_, ?_, ?_, trivial⟩ ?done
              case done =>
                intro x w5 hb5
                simp only [StepGoal, List.getD_cons_zero, List.getD_cons_succ]
                rintro _ ⟨A3, c3, b3, rfl, ho3, hz3⟩ _ ⟨A4, c4, b4, rfl, ho4, hz4⟩
                have hPk := HP.out.ext hb5
                have hBel : BelF B w w5 := BelF.of (bt HC.out hb5) (Nat.le_of_lt hBw)
                have hB5 := HB.out.ext (bt HC.out hb5)
                have hR3 : RowR w5 A3 c3 bf := ⟨⟨b3, ho3⟩, hz3, HR1.out.1, hbf⟩
                have hR4 : RowR w5 A4 c4 af := ⟨⟨b4, ho4⟩, hz4, HR2.out.1, haf⟩
                clear hb5 HC1 HC2 HP HC ho3 ho4
                obtain ⟨w6, rfl, lt⟩ := blk_put hPk
                have hg := put_grown w6 p #[.int .u64 tx, .int .i64 tot, .int .i64 nth, .int .u8 kd, .int .i64 k, .slice A bf.length c, .slice A2 af.length c2] #[.int .u64 tx, .int .i64 tot, .int .i64 nth, .int .u8 kd, .int .i64 k, .slice A3 bf.length c3, .slice A4 af.length c4] 59
                have HF3 := Lib.hid (hR3.keep hg (NoT.blk hPk (by decide)))
                have HF4 := Lib.hid (hR4.keep hg (NoT.blk hPk (by decide)))
                have HFB := Lib.hid (hB5.offE hg hPk)
                have HFC := Lib.hid (BelF.puts hBel hpB lt (by decide) #[.int .u64 tx, .int .i64 tot, .int .i64 nth, .int .u8 kd, .int .i64 k, .slice A3 bf.length c3, .slice A4 af.length c4])
                obtain ⟨pc, pf, pS⟩ := putBlk_facts (w := w6) 59 lt
                clear hPk hBel hB5 hR3 hR4 hg
                intro K1 hK1
                rw [if_pos (by rfl)]; simp only [overlay, upd, cond_true, cond_false, Nat.reduceEqDiff, reduceIte]
                go_simp
                refine hK1.out _ _ ?_
                intro K2 hK2
                rw [if_pos (by rfl)]
                go_simp
                refine hK2.out _ _ ?_
                intro K3 hK3
                rw [if_pos (by rfl)]
                go_simp
                refine hK3.out _ _ ?_
                intro K4 hK4
                rw [if_pos (by rfl)]
                go_simp
                refine hK4.out _ _ (TailB.nil ?_)
                go_wp2_with fail
                go_meet
                exact ⟨A3, c3, A4, c4, putBlk_blk _ _ lt, HF3, HF4, HFB, HFC⟩
              all_goals
                intro x w5 hb5
                have hP := HP.out.ext hb5
                have p5 := hP.cell 5
                have p6 := hP.cell 6
                have lP := hP.lt
                simp only [List.getElem?_toArray, List.getElem?_cons_zero, List.getElem?_cons_succ] at p5 p6
                clear hP
                simp only [StepGoal, List.getD_cons_zero, List.getD_cons_succ]
                first
                  | (intro K hK
                     rw [if_pos (by rfl)]; simp only [overlay, upd, cond_true, cond_false, Nat.reduceEqDiff, reduceIte]
                     go_simp
                     first
                       | exact hK.out _ _ (Below.refl _ _) rfl
                       | ((with_reducible refine (HC1.out _ hb5).mono ?_); rintro e wa ⟨hba, A3, c3, rfl, ho3, hz3⟩; go_wp2_with fail; exact hK.out _ _ hba ⟨A3, c3, _, rfl, ho3, hz3⟩))
                  | (rintro _ ⟨A0, c0, b0, rfl, _, _⟩
                     intro K hK
                     rw [if_pos (by rfl)]; simp only [overlay, upd, cond_true, cond_false, Nat.reduceEqDiff, reduceIte]
                     go_simp
                     first
                       | exact hK.out _ _ (Below.refl _ _) rfl
                       | ((with_reducible refine (HC2.out _ hb5).mono ?_); rintro e wa ⟨hba, A3, c3, rfl, ho3, hz3⟩; go_wp2_with fail; exact hK.out _ _ hba ⟨A3, c3, _, rfl, ho3, hz3⟩))
                  | (rintro _ ⟨A0, c0, b0, rfl, _, _⟩ _ ⟨A7, c7, b7, rfl, _, _⟩
                     intro K hK
                     rw [if_pos (by rfl)]; simp only [overlay, upd, cond_true, cond_false, Nat.reduceEqDiff, reduceIte]
                     go_simp
                     exact hK.out _ _ (Below.refl _ _) rfl)
            case rest =>
              obtain ⟨A3, c3, A4, c4, HP, HR3, HR4, HBW, HC⟩ := hcut
              rename World => w5
              have HDD := HD
              clear HTX HR1 HR2
              go_upto_region 12 with fail
              go_cut [] (fun wx => Hid (Blk wx p #[.int .u64 tx, .int .i64 tot, .int .i64 nth, .int .u8 kd, .int .i64 k, .slice A3 bf.length c3, .slice A4 af.length c4] 59) ∧ ∃ v, Hid (BuR B nt bd nx has fa (l1 ++ { t with es := t.es ++ [(⟨tx, tot, nth, kd, k, bf, af⟩, v)] } :: l2) wx) ∧ Hid (BelF B w wx))
              case first =>
                have HTX := Lib.hid (fun (W : World) (hW : Below w5.heap.size w5 W) => (HBW.out.ext hW).t t (by simp))
                refine region_last 7 _ [false, false, false, false, false, false, false, false, false, false, false, false, false, false, false, false, false, false, false, false, false, false, false, false, false, false, false, false, false, false, false, false, false, false, false, false, false, false, false, false, false, false, false, false, false, false, false, false, false, false, false, false, false, false, false, false, false, false, false, false, false, false, false, false, false, false, false, false, false, false, false, false, false, false, false, false, false, false, false, false, false, false, false, false, false, false, false, false, false, false, false, false, false, false, false, false, false, false, false, false, true, true, true, true, true, true, true, false, false, false, false, false, false, false, false, false, false, false] [100, 101, 102, 103, 104, 105, 106] [.val (.pointer (some ⟨t.X, 0, none⟩)), .val (.pointer (some ⟨t.X, 0, none⟩)), .val (.pointer (some ⟨t.X, 3, none⟩)), .val (.map (some t.M)), .val (.pointer (some ⟨p, 1, none⟩)), .val (.int .i64 tot), .val (.agg #[.int .u64 tx, .int .i64 tot, .int .i64 nth, .int .u8 kd, .int .i64 k, .slice A3 bf.length c3, .slice A4 af.length c4])] [3, 5, 6] (by kernel_rfl) (by kernel_rfl) rfl (by kernel_rfl) (by kernel_rfl) (by kernel_rfl) (by kernel_rfl) (by kernel_rfl) ⟨?_, ?_, ?_, ?_, ?_, ?_, ?_, trivial⟩ ?done
                case done =>
                  intro x w6 hb6
                  simp only [StepGoal, List.getD_cons_zero, List.getD_cons_succ]
                  have hT := HTX.out w6 hb6
                  obtain ⟨w7, hrun, hmv, hg⟩ := hT.m.put hmiss hrg (by rw [t.ev_len]; exact hel) (.agg #[.int .u64 tx, .int .i64 tot, .int .i64 nth, .int .u8 kd, .int .i64 k, .slice A3 bf.length c3, .slice A4 af.length c4])
                  have HR := Lib.hid hrun
                  have k1 := Lib.hid (blk_keep (HP.out.ext hb6) hg (NoT.map hT.m _))
                  have r3 := (HR3.out.ext hb6).keep hg (NoT.map hT.m _)
                  have r4 := (HR4.out.ext hb6).keep hg (NoT.map hT.m _)
                  have k2 := Lib.hid ((HBW.out.ext hb6).mapPut (e := ⟨tx, tot, nth, kd, k, bf, af⟩) (v := .agg #[.int .u64 tx, .int .i64 tot, .int .i64 nth, .int .u8 kd, .int .i64 k, .slice A3 bf.length c3, .slice A4 af.length c4]) HD.out hg hmv ⟨A3, c3, A4, c4, rfl, r3, r4⟩)
                  have k3 : Hid (BelF B w w7) := (HC.out.transB hb6 (by have := HC.out.size; omega)).grown hg (by have := hb6.size; have := HC.out.size; omega) (by intro k hk; cases hk; exact hT.lm) (by intro k hk; cases hk; exact NoT.map hT.m _)
                  clear hrun hmv hg r3 r4 hb6 HTX HBW HP HR3 HR4 HC
                  intro K1 hK1
                  rw [if_pos (by rfl)]; simp only [overlay, upd, cond_true, cond_false, Nat.reduceEqDiff, reduceIte]
                  go_simp
                  rw [HR.out]
                  go_simp
                  refine hK1.out _ _ ?_
                  go_wp2_with fail
                  go_meet
                  exact ⟨k1, _, k2, k3⟩
                all_goals
                  intro x w6 hb6
                  intro K hK
                  have hP := HP.out.ext hb6
                  have hX := (HTX.out w6 hb6).x
                  have p0 := hP.cell 0
                  have p1 := hP.cell 1
                  have p2 := hP.cell 2
                  have p3 := hP.cell 3
                  have p4 := hP.cell 4
                  have p5 := hP.cell 5
                  have p6 := hP.cell 6
                  have x3 := hX.cell 3
                  have lP := hP.lt
                  have lX := hX.lt
                  simp only [List.getElem?_toArray, List.getElem?_cons_zero, List.getElem?_cons_succ] at p0 p1 p2 p3 p4 p5 p6 x3
                  clear hP hX
                  rw [if_pos (by rfl)]; simp only [overlay, upd, cond_true, cond_false, List.getD_cons_zero, List.getD_cons_succ, Nat.reduceEqDiff, reduceIte]
                  go_simp
                  exact hK.out _ _ (Below.refl _ _) rfl
              case rest =>
                obtain ⟨HP, v, HBW, HC⟩ := hcut
                rename World => w6
                have hT6 := HBW.out.t _ (List.mem_append_right _ (List.mem_cons_self ..))
                obtain ⟨arr, harr⟩ : ∃ arr, arr = (t.nth.map (Value.int .i64)).toArray := ⟨_, rfl⟩
                have hN6 : Blk w6 t.N arr 3 := by rw [harr]; exact hT6.n
                have HN := Lib.hid hN6
                have HX : Hid (Blk w6 t.X #[.int .u64 t.n, endV t.fin, .slice (some ⟨t.N, 0, none⟩) nt nt, .map (some t.M)] 94) := hT6.x
                have hlN : t.nth.length = nt := hT6.l
                have hBN : B ≤ t.N := hT6.ln
                have HAK : Hid (arr[k]? = some (.int .i64 nth)) := by
                  show arr[k]? = _
                  rw [harr, List.getElem?_toArray, List.getElem?_map, hnth]
                  rfl
                have HAS : Hid (arr.setIfInBounds k (.int .i64 (nth + 1)) = ((t.nth.set k (nth + 1)).map (Value.int .i64)).toArray) := by
                  show arr.setIfInBounds k (.int .i64 (nth + 1)) = _
                  rw [harr]
                  simp [List.map_set]
                have hk0 : (0 : Int) ≤ k := by omega
                have hk1 : (k : Int) < nt := by omega
                have hkt : (k : Int).toNat = k := by omega
                have hw : IntKind.i64.wrap (nth + 1) = nth + 1 := IntWalk.i64_in _ (by omega)
                have hsz : k < arr.size := by
                  have := HAK.out
                  exact (Array.getElem?_eq_some_iff.1 this).1
                clear hT6 hN6 harr
                go_upto_region 13 with fail
                refine region_last 11 _ [false, false, false, false, false, false, false, false, false, false, false, false, false, false, false, false, false, false, false, false, false, false, false, false, false, false, false, false, false, false, false, false, false, false, false, false, false, false, false, false, false, false, false, false, false, false, false, false, false, false, false, false, false, false, false, false, false, false, false, false, false, false, false, false, false, false, false, false, false, false, false, false, false, false, false, false, false, false, false, false, false, false, false, false, false, false, false, false, false, false, false, false, false, false, false, false, false, false, false, false, false, false, false, false, false, false, false, true, true, true, true, true, true, true, true, true, true, true] [107, 108, 109, 110, 111, 112, 113, 114, 115, 116, 117] [.val (.pointer (some ⟨t.X, 0, none⟩)), .val (.pointer (some ⟨t.X, 0, none⟩)), .val (.pointer (some ⟨t.X, 2, none⟩)), .val (.slice (some ⟨t.N, 0, none⟩) nt nt), .val (.pointer (some ⟨p, 3, none⟩)), .val (.pointer (some ⟨p, 4, none⟩)), .val (.int .i64 k), .val (.pointer (some ⟨t.N, k, none⟩)), .val (.int .i64 nth), .val (.int .i64 (nth + 1)), .val (.pointer (some ⟨t.N, k, none⟩))] [9, 10] (by kernel_rfl) (by kernel_rfl) rfl (by kernel_rfl) (by kernel_rfl) (by kernel_rfl) (by kernel_rfl) (by kernel_rfl) ⟨?_, ?_, ?_, ?_, ?_, ?_, ?_, ?_, ?_, ?_, ?_, trivial⟩ ?done
                case done =>
                  intro x w7 hb7
                  simp only [StepGoal, List.getD_cons_zero, List.getD_cons_succ]
                  have hN := HN.out.ext hb7
                  have hB7 := HBW.out.ext hb7
                  have hC7 : BelF B w w7 := HC.out.transB hb7 (by have := HC.out.size; omega)
                  clear hb7 HN HX HBW HC HP
                  obtain ⟨w8, rfl, lt⟩ := blk_put hN
                  have hg := put_grown w8 t.N arr (arr.setIfInBounds k (.int .i64 (nth + 1))) 3
                  have hD7 := HD.out.congr (t' := { t with es := t.es ++ [(⟨tx, tot, nth, kd, k, bf, af⟩, v)] }) rfl rfl rfl
                  have HF1 := Lib.hid (hB7.count hD7 (t.nth.set k (nth + 1)) (by rw [List.length_set]; exact hlN) hg (by rw [← HAS.out]; exact putBlk_blk _ _ lt))
                  have HF2 := Lib.hid (HD.out.congr (t' := { t with nth := t.nth.set k (nth + 1), es := t.es ++ [(⟨tx, tot, nth, kd, k, bf, af⟩, v)] }) rfl rfl rfl)
                  have HFC := Lib.hid (BelF.puts hC7 hBN lt (by decide) (arr.setIfInBounds k (.int .i64 (nth + 1))))
                  obtain ⟨pc, pf, pS⟩ := putBlk_facts (w := w8) 3 lt
                  clear hN hB7 hC7 hg hD7
                  intro K1 hK1
                  rw [if_pos (by rfl)]; simp only [overlay, upd, cond_true, cond_false, Nat.reduceEqDiff, reduceIte]
                  have pck := pc arr k
                  rw [HAK.out] at pck
                  go_simp
                  refine hK1.out _ _ ?_
                  go_wp2_with fail
                  go_ret2
                  exact Or.inr ⟨l1, t, l2, v, hroom, rfl, rfl, HFC.out, HF1.out, HF2.out⟩
                all_goals
                  intro x w7 hb7
                  intro K hK
                  have hP := HP.out.ext hb7
                  have hX := HX.out.ext hb7
                  have hN := HN.out.ext hb7
                  have p4 := hP.cell 4
                  have x2 := hX.cell 2
                  have n0 := hN.cell k
                  rw [HAK.out] at n0
                  have lP := hP.lt
                  have lX := hX.lt
                  have lN := hN.lt
                  simp only [List.getElem?_toArray, List.getElem?_cons_zero, List.getElem?_cons_succ] at p4 x2
                  clear hP hX hN
                  rw [if_pos (by rfl)]; simp only [overlay, upd, cond_true, cond_false, List.getD_cons_zero, List.getD_cons_succ, Nat.reduceEqDiff, reduceIte]
                  go_simp
                  exact hK.out _ _ (Below.refl _ _) rfl
end Go.Proofs.YtkfhfegogmlchaaDoor
