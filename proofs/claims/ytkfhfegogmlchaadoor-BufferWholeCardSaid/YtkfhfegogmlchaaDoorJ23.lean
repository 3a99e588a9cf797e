/- Several texts in one: see each part's head. -/
import Derived.Test.YtkfhfegogmlchaaDoorJ22
/- BufferNil: Event where the transaction is known, first part. -/
namespace Go.Proofs.YtkfhfegogmlchaaDoor
open Go.RowKit

/-- Blocks ahead of Bs stay; a block of an event stays one. -/
def TE (Bs : Nat) (w w' : World) : Prop := Below Bs w w' ∧ ∀ b cs, Blk w b cs 59 → cs.size = 7 → ∃ cs', cs'.size = 7 ∧ Blk w' b cs' 59
theorem TE.trans {Bs : Nat} {a b c : World} (h : TE Bs a b) (k : TE Bs b c) : TE Bs a c :=
  ⟨h.1.trans k.1, fun x cs hx hs => by obtain ⟨cs1, h1, h2⟩ := h.2 x cs hx hs; exact k.2 x cs1 h2 h1⟩
theorem TE.of_below {Bs : Nat} {w w' : World} (hb : Below w.heap.size w w') (hl : Bs ≤ w.heap.size) : TE Bs w w' :=
  ⟨hb.mono hl, fun _ cs hx hs => ⟨cs, hs, hx.ext hb⟩⟩
theorem TE.put {Bs b : Nat} {w : World} {cs ds : Array Value} (hb : Blk w b cs 59) (hl : Bs ≤ b) (hs : ds.size = 7) : TE Bs w (putBlk w b ds 59) :=
  ⟨putBlk_below _ _ (Below.refl Bs w) hl, fun x cs' hx hs' => by
    by_cases e : x = b
    · subst e; exact ⟨ds, hs, putBlk_blk _ _ hb.lt⟩
    · exact ⟨cs', hs', putBlk_ne hx e⟩⟩
theorem arr7 {cs : Array Value} (h : cs.size = 7) : ∃ a0 a1 a2 a3 a4 a5 a6, cs = #[a0, a1, a2, a3, a4, a5, a6] := by
  obtain ⟨l⟩ := cs
  match l, h with
  | [a0, a1, a2, a3, a4, a5, a6], _ => exact ⟨a0, a1, a2, a3, a4, a5, a6, rfl⟩
theorem put_put2 (w : World) (b : Nat) (cs ds : Array Value) (t u : TypeId) : putBlk (putBlk w b cs t) b ds u = putBlk w b ds u := by unfold putBlk; simp
def kEv (Bs : Nat) : Known := .mem (fun v w => ∃ (b : Nat) (cs : Array Value), v = .pointer (some ⟨b, 0, none⟩) ∧ Bs ≤ b ∧ cs.size = 7 ∧ Blk w b cs 59) (fun _ _ _ ⟨b, cs, h, h1, h2, h3⟩ hb => ⟨b, cs, h, h1, h2, h3.ext hb⟩)
theorem kEv_T {Bs : Nat} : KT (TE Bs) (kEv Bs) := fun _ _ _ hT ⟨b, cs, h, h1, h2, h3⟩ => by obtain ⟨cs', h4, h5⟩ := hT.2 b cs h3 h2; exact ⟨b, cs', h, h1, h4, h5⟩
def EVv (g6 cg6 : Nat) : Value := .agg #[.int .u64 5, .int .i64 0, .int .i64 0, .int .u8 1, .int .i64 0, .slice none 0 0, .slice (some ⟨g6, 0, none⟩) 1 cg6]
def kClv : Known := .mem (fun u w => ∃ g cg base, u = .slice (some ⟨g, 0, none⟩) 1 cg ∧ w.ownsRow base 97 4 (.slice (some ⟨g, 0, none⟩) 1 cg) 1 [.int .u8 0, .int .i64 0, .int .u64 0, .string ⟨#[]⟩]) (fun _ _ _ ⟨g, cg, base, h, h1⟩ hb => ⟨g, cg, base, h, own_below h1 hb⟩)
/-- A known transaction with its end and its one event. -/
def TxV (B : Nat) (w : World) : Prop := ∃ g cg base X N M E cb cc b1 sb sc b2 s g6 cg6 b6, (B ≤ X ∧ B ≤ N ∧ B ≤ M) ∧ StT B g cg base X N M E cb cc b1 sb sc b2 s w ∧ MapV w M (EVv g6 cg6) ∧ w.ownsRow b6 97 4 (.slice (some ⟨g6, 0, none⟩) 1 cg6) 1 [.int .u8 0, .int .i64 0, .int .u64 0, .string ⟨#[]⟩]
set_option maxRecDepth 100000 in
set_option maxHeartbeats 6400000 in
theorem event1_full (p q B g cg base X N M E h : Nat) (w : World) (hT : Tabs w) (hpB : B ≤ p) (hp : Blk w p #[.int .u64 5, .int .i64 0, .int .i64 0, .int .u8 1, .int .i64 0, .slice none 0 0, .slice (some ⟨h, 0, none⟩) 1 1] 59) (hq : Blk w q #[.pointer (some ⟨B, 0, none⟩)] 42)
    (hbg : Bg 5 0 B g cg base X w) (ht : TxE B 5 1 X N M E w) (hh : Blk w h #[.int .u8 0, .int .i64 0, .int .u64 0, .string ⟨#[]⟩] 97) :
    Calls Tryd.prog 37 #[.pointer (some ⟨p, 0, none⟩), .pointer (some ⟨q, 0, none⟩)] w fun r w' => r = .returned (.tuple #[.bool true, .int .i64 0]) ∧ Below B w w' ∧ TxV B w' := by
  have HCE := Lib.hid (fun (W : World) (hW : Below w.heap.size w W) => ev5_ok h W (hT.ext hW) (hh.ext hW))
  obtain ⟨hb, ho⟩ := hbg
  obtain ⟨hlow, hx, hn, hm, cb, cc, b1, sb, sc, b2, s, he, ho1, ho2⟩ := ht
  have hcb := ho1.cells (g := cb) rfl 0 _ rfl
  have hgx := ho.cells (g := g) rfl 0 _ rfl
  have ea : ∀ z : Nat, (⟨z, 0, none⟩ : Addr).add 0 = ⟨z, 0, none⟩ := fun _ => rfl
  rw [ea] at hcb hgx
  have HRM := Lib.hid (fun (W : World) (hW : Below w.heap.size w W) => room_one B cg g X E cb cc 1 5 0 5 5 2 1 true _ _ _ W (hb.ext hW) ((hW.cell (p := ⟨g, 0, none⟩) (cell_lt hgx)).trans hgx) (hx.ext hW) (he.ext hW) ((hW.cell (p := ⟨cb, 0, none⟩) (cell_lt hcb)).trans hcb) (by omega) (by omega))
  have HP := Lib.hid hp
  have HQ := Lib.hid hq
  have HB := Lib.hid hb
  have HX := Lib.hid hx
  have HN := Lib.hid hn
  have HM := Lib.hid hm
  have HH := Lib.hid hh
  have hBw := hb.lt
  have HS0 := Lib.hid (show StT B g cg base X N M E cb cc b1 sb sc b2 s w from ⟨⟨hb, ho⟩, hx, he, ho1, ho2⟩)
  clear hp hq hb hh hT ea hx hn hm ho he ho1 ho2 hcb hgx
  go_enter Tryd.func37, Tryd.ntmps37
  go_upto_region 1 with fail
  go_cut [19] (fun v wx => v = .bool false ∧ Hid (Below w.heap.size w wx))
  case first =>
    refine region_grow [false, false, false, false, false, false, false, true, true, true, true, true, true, true, true, true, true, true, true, true, false, false, false, false, false, false, false, false, false, false, false, false, false, false, false, false, false, false, false, false, false, false, false, false, false, false, false, false, false, false, false, false, false, false, false, false, false, false, false, false, false, false, false, false, false, false, false, false, false, false, false, false, false, false, false, false, false, false, false, false, false, false, false, false, false, false, false, false, false, false, false, false, false, false, false, false, false, false, false, false, false, false, false, false, false, false, false, false, false, false, false, false, false, false, false, false, false, false] [7, 8, 9, 10, 11, 12, 13, 14, 15, 16, 17, 18, 19] [.val (.agg #[.int .u64 5, .int .i64 0, .int .i64 0, .int .u8 1, .int .i64 0, .slice none 0 0, .slice (some ⟨h, 0, none⟩) 1 1]), .val (.int .i64 0), .val (.bool false), .val (.bool false), .val (.pointer (some ⟨p, 3, none⟩)), .val (.pointer (some ⟨p, 4, none⟩)), .val (.int .i64 0), .val (.pointer (some ⟨B, 0, none⟩)), .val (.pointer (some ⟨B, 0, none⟩)), .val (.pointer (some ⟨B, 0, none⟩)), .val (.int .i64 1), .val (.bool false), .val (.bool false)] [12] (by kernel_rfl) (by kernel_rfl) (by kernel_rfl) (by kernel_rfl) (by kernel_rfl) ⟨?_, ?_, ?_, ?_, ?_, ?_, ?_, ?_, ?_, ?_, ?_, ?_, ?_, trivial⟩ ?done
    case done =>
      intro x w5 hb5
      simp only [StepGoal, overlay, upd, cond_true, cond_false, List.getD_cons_zero, List.getD_cons_succ, Nat.zero_add, Nat.reduceAdd, Nat.reduceEqDiff, reduceIte]
      go_wp2_with fail
      go_meet
      exact ⟨rfl, hb5⟩
    all_goals
      intro x w5 hb5
      intro K hK
      have hP := HP.out.ext hb5
      have hQ := HQ.out.ext hb5
      have hB := HB.out.ext hb5
      have p0 := hP.cell 0
      have p1 := hP.cell 1
      have p2 := hP.cell 2
      have p3 := hP.cell 3
      have p4 := hP.cell 4
      have p5 := hP.cell 5
      have p6 := hP.cell 6
      have q0 := hQ.cell 0
      have b0 := hB.cell 0
      have b2 := hB.cell 2
      have b3 := hB.cell 3
      have lP := hP.lt
      have lQ := hQ.lt
      have lB := hB.lt
      simp only [List.getElem?_toArray, List.getElem?_cons_zero, List.getElem?_cons_succ] at p0 p1 p2 p3 p4 p5 p6 q0 b0 b2 b3
      rw [if_pos (by rfl)]; simp only [overlay, upd, cond_true, cond_false, List.getD_cons_zero, List.getD_cons_succ, Nat.reduceEqDiff, reduceIte]
      go_simp
      first
        | exact hK.out _ _ (Below.refl _ _) rfl
        | ((with_reducible refine (HCE.out _ hb5).mono ?_); rintro e wa ⟨rfl, hba⟩; go_wp2_with fail; exact hK.out _ _ hba rfl)
  case rest =>
    obtain ⟨rfl, HC⟩ := hcut
    rename World => w1
    have HP := Lib.hid (HP.out.ext HC.out)
    have HQ := Lib.hid (HQ.out.ext HC.out)
    have HB := Lib.hid (HB.out.ext HC.out)
    have HX := Lib.hid (HX.out.ext HC.out)
    have HM := Lib.hid (HM.out.ext HC.out)
    have HCE : Hid (∀ W : World, Below w1.heap.size w1 W → Calls Tryd.prog 38 #[.agg #[.int .u64 5, .int .i64 0, .int .i64 0, .int .u8 1, .int .i64 0, .slice none 0 0, .slice (some ⟨h, 0, none⟩) 1 1]] W fun r w' => r = .returned (.int .i64 0) ∧ Below W.heap.size W w') := fun W hW => HCE.out W (bt HC.out hW)
    go_upto_region 3 with fail
    go_cut [32] (fun v wx => v = .bool false ∧ Hid (Below w1.heap.size w1 wx))
    case first =>
      refine region_grow [false, false, false, false, false, false, false, false, false, false, false, false, false, false, false, false, false, false, false, false, true, true, true, true, true, true, true, true, true, true, true, true, true, false, false, false, false, false, false, false, false, false, false, false, false, false, false, false, false, false, false, false, false, false, false, false, false, false, false, false, false, false, false, false, false, false, false, false, false, false, false, false, false, false, false, false, false, false, false, false, false, false, false, false, false, false, false, false, false, false, false, false, false, false, false, false, false, false, false, false, false, false, false, false, false, false, false, false, false, false, false, false, false, false, false, false, false, false] [20, 21, 22, 23, 24, 25, 26, 27, 28, 29, 30, 31, 32] [.val (.pointer (some ⟨B, 0, none⟩)), .val (.pointer (some ⟨B, 0, none⟩)), .val (.pointer (some ⟨B, 3, none⟩)), .val (.bool true), .val (.bool true), .val (.pointer (some ⟨p, 0, none⟩)), .val (.int .u64 5), .val (.pointer (some ⟨B, 0, none⟩)), .val (.pointer (some ⟨B, 0, none⟩)), .val (.pointer (some ⟨B, 2, none⟩)), .val (.int .u64 5), .val (.bool false), .val (.bool false)] [12] (by kernel_rfl) (by kernel_rfl) (by kernel_rfl) (by kernel_rfl) (by kernel_rfl) ⟨?_, ?_, ?_, ?_, ?_, ?_, ?_, ?_, ?_, ?_, ?_, ?_, ?_, trivial⟩ ?done
      case done =>
        intro x w5 hb5
        simp only [StepGoal, overlay, upd, cond_true, cond_false, List.getD_cons_zero, List.getD_cons_succ, Nat.zero_add, Nat.reduceAdd, Nat.reduceEqDiff, reduceIte]
        go_wp2_with fail
        go_meet
        exact ⟨rfl, hb5⟩
      all_goals
        intro x w5 hb5
        intro K hK
        have hP := HP.out.ext hb5
        have hQ := HQ.out.ext hb5
        have hB := HB.out.ext hb5
        have p0 := hP.cell 0
        have p1 := hP.cell 1
        have p2 := hP.cell 2
        have p3 := hP.cell 3
        have p4 := hP.cell 4
        have p5 := hP.cell 5
        have p6 := hP.cell 6
        have q0 := hQ.cell 0
        have b0 := hB.cell 0
        have b2 := hB.cell 2
        have b3 := hB.cell 3
        have lP := hP.lt
        have lQ := hQ.lt
        have lB := hB.lt
        simp only [List.getElem?_toArray, List.getElem?_cons_zero, List.getElem?_cons_succ] at p0 p1 p2 p3 p4 p5 p6 q0 b0 b2 b3
        rw [if_pos (by rfl)]; simp only [overlay, upd, cond_true, cond_false, List.getD_cons_zero, List.getD_cons_succ, Nat.reduceEqDiff, reduceIte]
        go_simp
        first
          | exact hK.out _ _ (Below.refl _ _) rfl
          | ((with_reducible refine (HCE.out _ hb5).mono ?_); rintro e wa ⟨rfl, hba⟩; go_wp2_with fail; exact hK.out _ _ hba rfl)
    case rest =>
      obtain ⟨rfl, HW⟩ := hcut
      rename World => w2
      have HP := Lib.hid (HP.out.ext HW.out)
      have HQ := Lib.hid (HQ.out.ext HW.out)
      have HB := Lib.hid (HB.out.ext HW.out)
      have HX := Lib.hid (HX.out.ext HW.out)
      have HM := Lib.hid (HM.out.ext HW.out)
      have HC := Lib.hid (bt HC.out HW.out)
      have p0 := HP.out.cell 0
      have q0 := HQ.out.cell 0
      have lP := HP.out.lt
      have lQ := HQ.out.lt
      simp only [List.getElem?_toArray, List.getElem?_cons_zero] at p0 q0
      go_wp2_with fail
      refine (HRM.out w2 HC.out).mono ?_
      rintro r w3 ⟨rfl, rfl⟩
      go_upto_region 8 with fail
      clear p0 q0 lP lQ
      go_cut [6] (fun v wx => v = .bool false ∧ Hid (Below w2.heap.size w2 wx))
      case first =>
        have HLK := Lib.hid (fun (W : World) (hW : Below w2.heap.size w2 W) => map_look0 (HM.out.ext hW))
        refine region_free (TE w2.heap.size) [false, false, false, false, false, true, true, false, false, false, false, false, false, false, false, false, false, false, false, false, false, false, false, false, false, false, false, false, false, false, false, false, false, false, false, false, false, false, false, true, true, true, true, true, true, true, true, true, true, false, false, false, false, false, false, false, false, false, false, false, false, false, false, false, false, false, false, false, false, false, false, false, false, false, false, false, false, false, false, false, false, false, false, false, false, false, false, false, false, false, false, false, false, false, false, false, false, false, false, false, false, false, false, false, false, false, false, false, false, false, false, false, false, false, false, false, false, false] [40, 41, 42, 43, 44, 45, 46, 39, 47, 48, 5, 0, 6] [.val (.pointer (some ⟨X, 0, none⟩)), .val (.pointer (some ⟨X, 0, none⟩)), .val (.pointer (some ⟨X, 3, none⟩)), .val (.map (some M)), .val (.pointer (some ⟨p, 1, none⟩)), .val (.int .i64 0), .val (.tuple #[ZE, .bool false]), .val (.tuple #[ZE, .bool false]), .val (ZE), .val (.bool false), kEv w2.heap.size, kAny, .val (.bool false)] [12] ?t0 ?tt ?tk (by kernel_rfl) (by kernel_rfl) (by kernel_rfl) (by kernel_rfl) (by kernel_rfl) ⟨?_, ?_, ?_, ?_, ?_, ?_, ?_, ?_, ?_, ?_, ?_, ?_, ?_, trivial⟩ ?done
        case t0 => exact TE.of_below (Below.refl _ _).drew (Nat.le_refl _)
        case tt => exact fun h k => h.trans k
        case tk =>
          intro k hk
          simp only [List.mem_cons, List.not_mem_nil, or_false] at hk
          rcases hk with rfl | rfl | rfl | rfl | rfl | rfl | rfl | rfl | rfl | rfl | rfl | rfl | rfl
          all_goals first | exact KT.val _ | exact kEv_T | exact fun _ _ _ _ _ => trivial
        case done =>
          intro x w5 hb5
          simp only [StepGoal, overlay, upd, cond_true, cond_false, List.getD_cons_zero, List.getD_cons_succ, Nat.zero_add, Nat.reduceAdd, Nat.reduceEqDiff, reduceIte]
          go_wp2_with fail
          go_meet
          exact ⟨rfl, hb5.1⟩
        case refine_12 =>
          intro x w5 hb5
          rintro _ ⟨b0, cs0, rfl, _, _, _⟩
          rintro _ ⟨b5, cs5, rfl, lb5, hs5, hb⟩
          obtain ⟨a0, a1, a2, a3, a4, a5, a6, rfl⟩ := arr7 hs5
          have hTE := TE.put (Bs := w2.heap.size) (ds := #[.int .u64 0, .int .i64 0, .int .i64 0, .int .u8 0, .int .i64 0, .slice none 0 0, .slice none 0 0]) hb lb5 rfl
          obtain ⟨w6, rfl, lt⟩ := blk_put hb
          rw [put_put2] at hTE
          obtain ⟨pc, pf, pS⟩ := putBlk_facts (w := w6) 59 lt
          clear hb
          intro K hK
          rw [if_pos (by rfl)]; simp only [overlay, upd, cond_true, cond_false, List.getD_cons_zero, List.getD_cons_succ, Nat.reduceEqDiff, reduceIte]
          unfold ZE
          go_simp
          exact hK.out undef _ hTE trivial
        case refine_13 =>
          intro x w5 hb5 _ _ _ _ _ _ K hK
          have hle : w2.heap.size ≤ w5.heap.size := hb5.1.size
          rw [if_pos (by rfl)]; simp only [overlay, upd, cond_true, cond_false, List.getD_cons_zero, List.getD_cons_succ, Nat.reduceEqDiff, reduceIte]
          go_simp
          exact hK.out _ _ (TE.of_below (Below.refl _ _) hle) rfl
        all_goals
          intro x w5 hb5
          intro K hK
          have hle : w2.heap.size ≤ w5.heap.size := hb5.1.size
          have hP := HP.out.ext hb5.1
          have hX := HX.out.ext hb5.1
          have hlk := HLK.out w5 hb5.1
          have p1 := hP.cell 1
          have x3 := hX.cell 3
          have lP := hP.lt
          have lX := hX.lt
          simp only [List.getElem?_toArray, List.getElem?_cons_zero, List.getElem?_cons_succ] at p1 x3
          rw [if_pos (by rfl)]; simp only [overlay, upd, cond_true, cond_false, List.getD_cons_zero, List.getD_cons_succ, Nat.reduceEqDiff, reduceIte]
          go_simp
          first
            | exact hK.out _ _ (TE.of_below (Below.refl _ _) hle) rfl
            | exact hK.out _ _ (TE.of_below (by repeat (first | exact Below.refl _ _ | assumption | refine Below.drew ?_ | refine below_drewN ?_ _ | refine Below.alloc ?_ (by simp <;> omega) _)) hle) ⟨_, _, rfl, hle, rfl, Blk.new _ _ _⟩
      case rest =>
        obtain ⟨rfl, HW⟩ := hcut
        rename World => w3
        have HP := Lib.hid (HP.out.ext HW.out)
        have HM := Lib.hid (HM.out.ext HW.out)
        have HC := Lib.hid (bt HC.out HW.out)
        have HS := Lib.hid (HS0.out.ext HC.out)
        have HN := Lib.hid (HN.out.ext HC.out)
        have HH := Lib.hid (HH.out.ext HC.out)
        clear HW HQ HB HX HRM HCE HS0
        have HSZ := Lib.hid (fun (W : World) (hW : Below w3.heap.size w3 W) => (HS.out.ext hW).size)
        go_upto_region 9 with fail
        go_cut [87] (fun v wx => v = .bool false ∧ Hid (Below w3.heap.size w3 wx))
        case first =>
          refine region_grow [false, false, false, false, false, false, false, false, false, false, false, false, false, false, false, false, false, false, false, false, false, false, false, false, false, false, false, false, false, false, false, false, false, false, false, false, false, false, false, false, false, false, false, false, false, false, false, false, false, true, true, true, true, true, true, true, true, true, true, true, true, true, true, true, true, true, true, true, true, true, true, true, true, true, true, true, true, true, true, true, true, true, true, true, true, true, true, true, false, false, false, false, false, false, false, false, false, false, false, false, false, false, false, false, false, false, false, false, false, false, false, false, false, false, false, false, false, false] [49, 50, 51, 52, 53, 54, 55, 56, 57, 58, 59, 60, 61, 62, 63, 64, 65, 66, 67, 68, 69, 70, 71, 72, 73, 74, 75, 76, 77, 78, 79, 80, 81, 82, 83, 84, 85, 86, 87] [.val (.bool false), .val (.bool false), .val (.pointer (some ⟨p, 2, none⟩)), .val (.int .i64 0), .val (.pointer (some ⟨X, 0, none⟩)), .val (.pointer (some ⟨X, 0, none⟩)), .val (.pointer (some ⟨X, 2, none⟩)), .val (.slice (some ⟨N, 0, none⟩) 1 1), .val (.pointer (some ⟨p, 3, none⟩)), .val (.pointer (some ⟨p, 4, none⟩)), .val (.int .i64 0), .val (.pointer (some ⟨N, 0, none⟩)), .val (.int .i64 0), .val (.bool false), .val (.bool false), .val (.bool false), .val (.pointer (some ⟨p, 2, none⟩)), .val (.int .i64 0), .val (.pointer (some ⟨X, 0, none⟩)), .val (.pointer (some ⟨X, 0, none⟩)), .val (.pointer (some ⟨X, 1, none⟩)), .val (.pointer (some ⟨E, 0, none⟩)), .val (.pointer (some ⟨E, 0, none⟩)), .val (.pointer (some ⟨E, 2, none⟩)), .val (.slice (some ⟨cb, 0, none⟩) 1 cc), .val (.pointer (some ⟨p, 3, none⟩)), .val (.pointer (some ⟨p, 4, none⟩)), .val (.int .i64 0), .val (.pointer (some ⟨cb, 0, none⟩)), .val (.int .i64 1), .val (.bool false), .val (.bool false), .val (.bool false), .val (.pointer (some ⟨p, 1, none⟩)), .val (.int .i64 0), .val (.pointer (some ⟨X, 0, none⟩)), .val (.int .i64 1), .val (.bool false), .val (.bool false)] [38] (by kernel_rfl) (by kernel_rfl) (by kernel_rfl) (by kernel_rfl) (by kernel_rfl) ⟨?_, ?_, ?_, ?_, ?_, ?_, ?_, ?_, ?_, ?_, ?_, ?_, ?_, ?_, ?_, ?_, ?_, ?_, ?_, ?_, ?_, ?_, ?_, ?_, ?_, ?_, ?_, ?_, ?_, ?_, ?_, ?_, ?_, ?_, ?_, ?_, ?_, ?_, ?_, trivial⟩ ?done
          case done =>
            intro x w5 hb5
            simp only [StepGoal, overlay, upd, cond_true, cond_false, List.getD_cons_zero, List.getD_cons_succ, Nat.zero_add, Nat.reduceAdd, Nat.reduceEqDiff, reduceIte]
            go_wp2_with fail
            go_meet
            exact ⟨rfl, hb5⟩
          all_goals
            intro x w5 hb5
            intro K hK
            have hP := HP.out.ext hb5
            have hS := HS.out.ext hb5
            have hN := HN.out.ext hb5
            have hX := hS.tx
            have hE := hS.mk
            have p1 := hP.cell 1
            have p2 := hP.cell 2
            have p4 := hP.cell 4
            have x1 := hX.cell 1
            have x2 := hX.cell 2
            have e2 := hE.cell 2
            have n0 := hN.cell 0
            have c0 := hS.count
            have lP := hP.lt
            have lX := hX.lt
            have lE := hE.lt
            have lN := hN.lt
            simp only [List.getElem?_toArray, List.getElem?_cons_zero, List.getElem?_cons_succ] at p1 p2 p4 x1 x2 e2 n0
            clear hP hS hN hX hE
            rw [if_pos (by rfl)]; simp only [overlay, upd, cond_true, cond_false, List.getD_cons_zero, List.getD_cons_succ, Nat.reduceEqDiff, reduceIte]
            go_simp
            first
              | exact hK.out _ _ (Below.refl _ _) rfl
              | ((with_reducible refine (HSZ.out _ hb5).mono ?_); rintro e wa ⟨rfl, rfl⟩; go_wp2_with fail; exact hK.out _ _ (Below.refl _ _) rfl)
        case rest =>
          obtain ⟨rfl, HW⟩ := hcut
          rename World => w4
          have HP := Lib.hid (HP.out.ext HW.out)
          have HM := Lib.hid (HM.out.ext HW.out)
          have HC := Lib.hid (bt HC.out HW.out)
          have HS := Lib.hid (HS.out.ext HW.out)
          have HN := Lib.hid (HN.out.ext HW.out)
          have HH := Lib.hid (HH.out.ext HW.out)
          clear HW HSZ
          go_upto_region 11 with fail
          go_cut [] (fun wx => ∃ g6 cg6 b6, Hid (Blk wx p #[.int .u64 5, .int .i64 0, .int .i64 0, .int .u8 1, .int .i64 0, .slice none 0 0, .slice (some ⟨g6, 0, none⟩) 1 cg6] 59) ∧ Hid (wx.ownsRow b6 97 4 (.slice (some ⟨g6, 0, none⟩) 1 cg6) 1 [.int .u8 0, .int .i64 0, .int .u64 0, .string ⟨#[]⟩]) ∧ Hid (StT B g cg base X N M E cb cc b1 sb sc b2 s wx) ∧ Hid (Blk wx N #[.int .i64 0] 3) ∧ Hid (MapE wx M) ∧ Hid (Below B w wx))
          case first =>
            have HC1 := Lib.hid (fun (W : World) (hW : Below w4.heap.size w4 W) => clone_none W)
            have HC2 := Lib.hid (fun (W : World) (hW : Below w4.heap.size w4 W) => clone_val h 1 W (fun j u hu => by
              have hc := (HH.out.ext hW).cell j
              rw [List.getElem?_toArray, hu] at hc
              rcases j with _ | j <;> simpa [Addr.add] using hc))
            refine region_tail 10 [false, false, false, false, false, false, false, false, false, false, false, false, false, false, false, false, false, false, false, false, false, false, false, false, false, false, false, false, false, false, false, false, false, false, false, false, false, false, false, false, false, false, false, false, false, false, false, false, false, false, false, false, false, false, false, false, false, false, false, false, false, false, false, false, false, false, false, false, false, false, false, false, false, false, false, false, false, false, false, false, false, false, false, false, false, false, false, false, true, true, true, true, true, true, true, true, true, true, false, false, false, false, false, false, false, false, false, false, false, false, false, false, false, false, false, false, false, false] [88, 89, 90, 91, 92, 93, 94, 95, 96, 97] [.val (.pointer (some ⟨p, 3, none⟩)), .val (.pointer (some ⟨p, 5, none⟩)), .val (.slice none 0 0), .val (.slice none 0 0), .val (.pointer (some ⟨p, 3, none⟩)), .val (.pointer (some ⟨p, 6, none⟩)), .val (.slice (some ⟨h, 0, none⟩) 1 1), kClv, .val (.pointer (some ⟨p, 3, none⟩)), .val (.pointer (some ⟨p, 5, none⟩))] [3, 7, 9] (by kernel_rfl) (by decide) (by kernel_rfl) (by kernel_rfl) (by kernel_rfl) (by kernel_rfl) (by kernel_rfl) (by kernel_rfl) ⟨?_, ?_, ?_, ?_, ?_, ?_, ?_, ?_, ?_, ?_, trivial⟩ ?done
            case done =>
              intro x w5 hb5
              simp only [StepGoal, List.getD_cons_zero, List.getD_cons_succ]
              rintro _ ⟨g6, cg6, b6, rfl, ho6⟩
              have hPk := HP.out.ext hb5
              have hBel : Below B w w5 := (bt HC.out hb5).mono (Nat.le_of_lt hBw)
              have hS5 := HS.out.ext hb5
              have hN5 := HN.out.ext hb5
              have hM5 := HM.out.ext hb5
              have n1 := blk_ne' hN5 hPk (by decide)
              clear hb5 HC1 HC2 HS HN HM HP HC HH
              obtain ⟨w6, rfl, lt⟩ := blk_put hPk
              have HF1 := Lib.hid (own_put ho6 lt (by decide) #[.int .u64 5, .int .i64 0, .int .i64 0, .int .u8 1, .int .i64 0, .slice none 0 0, .slice (some ⟨g6, 0, none⟩) 1 cg6])
              have HFS := Lib.hid (hS5.put lt (by decide) #[.int .u64 5, .int .i64 0, .int .i64 0, .int .u8 1, .int .i64 0, .slice none 0 0, .slice (some ⟨g6, 0, none⟩) 1 cg6])
              have HFN := Lib.hid (putBlk_old hN5 n1 #[.int .u64 5, .int .i64 0, .int .i64 0, .int .u8 1, .int .i64 0, .slice none 0 0, .slice (some ⟨g6, 0, none⟩) 1 cg6])
              have HFM : Hid (MapE (putBlk w6 p #[.int .u64 5, .int .i64 0, .int .i64 0, .int .u8 1, .int .i64 0, .slice none 0 0, .slice (some ⟨g6, 0, none⟩) 1 cg6] 59) M) := map_put hM5 lt _
              have HFC := Lib.hid (putBlk_belows hBel hpB #[.int .u64 5, .int .i64 0, .int .i64 0, .int .u8 1, .int .i64 0, .slice none 0 0, .slice (some ⟨g6, 0, none⟩) 1 cg6])
              obtain ⟨pc, pf, pS⟩ := putBlk_facts (w := w6) 59 lt
              clear ho6 hPk hBel hS5 hN5 hM5 n1
              intro K1 hK1
              rw [if_pos (by rfl)]; simp only [overlay, upd, cond_true, cond_false, Nat.reduceEqDiff, reduceIte]
              go_simp
              refine hK1.out _ _ ?_
              intro K2 hK2
              rw [if_pos (by rfl)]
              go_simp
              refine hK2.out _ _ ?_
              intro K3 hK3
              rw [if_pos (by rfl)]
              go_simp
              refine hK3.out _ _ ?_
              intro K4 hK4
              rw [if_pos (by rfl)]
              go_simp
              refine hK4.out _ _ (TailB.nil ?_)
              go_wp2_with fail
              go_meet
              exact ⟨g6, cg6, b6, putBlk_blk _ _ lt, HF1, HFS, HFN, HFM, HFC⟩
            case refine_4 =>
              intro x w5 hb5 K hK
              rw [if_pos (by rfl)]; simp only [overlay, upd, cond_true, cond_false, List.getD_cons_zero, List.getD_cons_succ, Nat.reduceEqDiff, reduceIte]
              go_simp
              (with_reducible refine (HC1.out _ hb5).mono ?_)
              rintro e wa ⟨rfl, rfl⟩
              go_wp2_with fail
              exact hK.out _ _ (Below.refl _ _) rfl
            case refine_8 =>
              intro x w5 hb5 K hK
              rw [if_pos (by rfl)]; simp only [overlay, upd, cond_true, cond_false, List.getD_cons_zero, List.getD_cons_succ, Nat.reduceEqDiff, reduceIte]
              go_simp
              (with_reducible refine (HC2.out _ hb5).mono ?_)
              rintro e wa ⟨hba, hcl⟩
              obtain ⟨g1, cg1, bs1, rfl, ho1⟩ := hcl
              go_wp2_with fail
              exact hK.out _ _ hba ⟨g1, cg1, bs1, rfl, ho1⟩
            all_goals
              intro x w5 hb5
              intro K hK
              have hP := HP.out.ext hb5
              have p5 := hP.cell 5
              have p6 := hP.cell 6
              have lP := hP.lt
              simp only [List.getElem?_toArray, List.getElem?_cons_zero, List.getElem?_cons_succ] at p5 p6
              clear hP
              rw [if_pos (by rfl)]; simp only [overlay, upd, cond_true, cond_false, List.getD_cons_zero, List.getD_cons_succ, Nat.reduceEqDiff, reduceIte]
              go_simp
              exact hK.out _ _ (Below.refl _ _) rfl
          case rest =>
            obtain ⟨g6, cg6, b6, HP, HO6, HS, HN, HM, HC⟩ := hcut
            rename World => w5
            go_upto_region 12 with fail
            go_cut [] (fun wx => Hid (Blk wx p #[.int .u64 5, .int .i64 0, .int .i64 0, .int .u8 1, .int .i64 0, .slice none 0 0, .slice (some ⟨g6, 0, none⟩) 1 cg6] 59) ∧ Hid (wx.ownsRow b6 97 4 (.slice (some ⟨g6, 0, none⟩) 1 cg6) 1 [.int .u8 0, .int .i64 0, .int .u64 0, .string ⟨#[]⟩]) ∧ Hid (StT B g cg base X N M E cb cc b1 sb sc b2 s wx) ∧ Hid (Blk wx N #[.int .i64 0] 3) ∧ Hid (MapV wx M (EVv g6 cg6)) ∧ Hid (Below B w wx))
            case first =>
              refine region_last 7 _ [false, false, false, false, false, false, false, false, false, false, false, false, false, false, false, false, false, false, false, false, false, false, false, false, false, false, false, false, false, false, false, false, false, false, false, false, false, false, false, false, false, false, false, false, false, false, false, false, false, false, false, false, false, false, false, false, false, false, false, false, false, false, false, false, false, false, false, false, false, false, false, false, false, false, false, false, false, false, false, false, false, false, false, false, false, false, false, false, false, false, false, false, false, false, false, false, false, false, false, false, true, true, true, true, true, true, true, false, false, false, false, false, false, false, false, false, false, false] [100, 101, 102, 103, 104, 105, 106] [.val (.pointer (some ⟨X, 0, none⟩)), .val (.pointer (some ⟨X, 0, none⟩)), .val (.pointer (some ⟨X, 3, none⟩)), .val (.map (some M)), .val (.pointer (some ⟨p, 1, none⟩)), .val (.int .i64 0), .val (EVv g6 cg6)] [3, 5, 6] (by kernel_rfl) (by kernel_rfl) rfl (by kernel_rfl) (by kernel_rfl) (by kernel_rfl) (by kernel_rfl) (by kernel_rfl) ⟨?_, ?_, ?_, ?_, ?_, ?_, ?_, trivial⟩ ?done
              case done =>
                intro x w6 hb6
                simp only [StepGoal, List.getD_cons_zero, List.getD_cons_succ]
                obtain ⟨w7, hrun, hmv, hg⟩ := map_put0 (HM.out.ext hb6) (EVv g6 cg6)
                have HR := Lib.hid hrun
                have HMV := Lib.hid hmv
                have HG := Lib.hid hg
                clear hrun hmv hg
                intro K1 hK1
                rw [if_pos (by rfl)]; simp only [overlay, upd, cond_true, cond_false, Nat.reduceEqDiff, reduceIte]
                unfold EVv at HR ⊢
                go_simp
                rw [HR.out]
                go_simp
                refine hK1.out _ _ ?_
                have hMo := HM.out.ext hb6
                have k1 := blk_map (HP.out.ext hb6) hMo HG.out
                have k2 := own_map (own_below HO6.out hb6) hMo HG.out
                have k3 := (HS.out.ext hb6).map hMo HG.out
                have k4 := blk_map (HN.out.ext hb6) hMo HG.out
                have k5 : Below B w w7 := (HC.out.trans (hb6.mono (by have := HC.out.size; omega))).grown HG.out (by have := hb6.size; have := HC.out.size; omega) (by intro k hk; cases hk; exact hlow.2.2)
                have k6 := HMV.out
                clear hb6 HG HR HMV HM HP HO6 HS HN HC hMo
                go_wp2_with fail
                go_meet
                exact ⟨k1, k2, k3, k4, k6, k5⟩
              all_goals
                intro x w5 hb5
                intro K hK
                have hP := HP.out.ext hb5
                have hX := HS.out.tx.ext hb5
                have p0 := hP.cell 0
                have p1 := hP.cell 1
                have p2 := hP.cell 2
                have p3 := hP.cell 3
                have p4 := hP.cell 4
                have p5 := hP.cell 5
                have p6 := hP.cell 6
                have x3 := hX.cell 3
                have lP := hP.lt
                have lX := hX.lt
                simp only [List.getElem?_toArray, List.getElem?_cons_zero, List.getElem?_cons_succ] at p0 p1 p2 p3 p4 p5 p6 x3
                clear hP hX
                rw [if_pos (by rfl)]; simp only [overlay, upd, cond_true, cond_false, List.getD_cons_zero, List.getD_cons_succ, Nat.reduceEqDiff, reduceIte]
                go_simp
                exact hK.out _ _ (Below.refl _ _) rfl
            case rest =>
              obtain ⟨HP, HO6, HS, HN, HM, HC⟩ := hcut
              rename World => w6
              go_upto_region 13 with fail
              refine region_last 11 _ [false, false, false, false, false, false, false, false, false, false, false, false, false, false, false, false, false, false, false, false, false, false, false, false, false, false, false, false, false, false, false, false, false, false, false, false, false, false, false, false, false, false, false, false, false, false, false, false, false, false, false, false, false, false, false, false, false, false, false, false, false, false, false, false, false, false, false, false, false, false, false, false, false, false, false, false, false, false, false, false, false, false, false, false, false, false, false, false, false, false, false, false, false, false, false, false, false, false, false, false, false, false, false, false, false, false, false, true, true, true, true, true, true, true, true, true, true, true] [107, 108, 109, 110, 111, 112, 113, 114, 115, 116, 117] [.val (.pointer (some ⟨X, 0, none⟩)), .val (.pointer (some ⟨X, 0, none⟩)), .val (.pointer (some ⟨X, 2, none⟩)), .val (.slice (some ⟨N, 0, none⟩) 1 1), .val (.pointer (some ⟨p, 3, none⟩)), .val (.pointer (some ⟨p, 4, none⟩)), .val (.int .i64 0), .val (.pointer (some ⟨N, 0, none⟩)), .val (.int .i64 0), .val (.int .i64 1), .val (.pointer (some ⟨N, 0, none⟩))] [9, 10] (by kernel_rfl) (by kernel_rfl) rfl (by kernel_rfl) (by kernel_rfl) (by kernel_rfl) (by kernel_rfl) (by kernel_rfl) ⟨?_, ?_, ?_, ?_, ?_, ?_, ?_, ?_, ?_, ?_, ?_, trivial⟩ ?done
              case done =>
                intro x w7 hb7
                simp only [StepGoal, List.getD_cons_zero, List.getD_cons_succ]
                have hN := HN.out.ext hb7
                have hS := HS.out.ext hb7
                have hO := own_below HO6.out hb7
                have hM := HM.out.ext hb7
                have hC : Below B w w7 := HC.out.trans (hb7.mono (by have := HC.out.size; omega))
                clear hb7 HP HO6 HS HN HM HC
                obtain ⟨w8, rfl, lt⟩ := blk_put hN
                have HFS := Lib.hid (hS.putN (by decide) lt #[.int .i64 1])
                have HFO := Lib.hid (own_put hO lt (by decide) #[.int .i64 1])
                have HFM : Hid (MapV (putBlk w8 N #[.int .i64 1] 3) M (EVv g6 cg6)) := map_put hM lt _
                have HFC := Lib.hid (putBlk_belows hC hlow.2.1 #[.int .i64 1])
                obtain ⟨pc, pf, pS⟩ := putBlk_facts (w := w8) 3 lt
                clear hN hS hO hM hC
                intro K1 hK1
                rw [if_pos (by rfl)]; simp only [overlay, upd, cond_true, cond_false, Nat.reduceEqDiff, reduceIte]
                go_simp
                refine hK1.out _ _ ?_
                go_wp2_with fail
                go_ret2
                exact ⟨rfl, HFC.out, g, cg, base, X, N, M, E, cb, cc, b1, sb, sc, b2, s, g6, cg6, b6, hlow, HFS.out, HFM.out, HFO.out⟩
              all_goals
                intro x w5 hb5
                intro K hK
                have hP := HP.out.ext hb5
                have hX := HS.out.tx.ext hb5
                have hN := HN.out.ext hb5
                have p4 := hP.cell 4
                have x2 := hX.cell 2
                have n0 := hN.cell 0
                have lP := hP.lt
                have lX := hX.lt
                have lN := hN.lt
                simp only [List.getElem?_toArray, List.getElem?_cons_zero, List.getElem?_cons_succ] at p4 x2 n0
                clear hP hX hN
                rw [if_pos (by rfl)]; simp only [overlay, upd, cond_true, cond_false, List.getD_cons_zero, List.getD_cons_succ, Nat.reduceEqDiff, reduceIte]
                go_simp
                exact hK.out _ _ (Below.refl _ _) rfl
end Go.Proofs.YtkfhfegogmlchaaDoor
