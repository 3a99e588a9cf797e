/- Several texts in one: see each part's head. -/
import Derived.Test.YtgklopgeimjgiaaGreatDoorJ32
/- VerifySees: slices.CompactFunc at roots, its walk. -/
namespace Go.Proofs.YtgklopgeimjgiaaGreatDoor
open Go.RowKit

def eqR (a b : Int × V) : Bool := ordF a b == 0
def CompQ (g c base : Nat) (rs : List (Int × V)) (w : World) (q : Ending) (w' : World) : Prop :=
  q = .returned (.slice (some ⟨g, 0, none⟩) (adjL eqR rs).length c) ∧ Chg [g] w w' ∧ w'.ownsRow base 78 5 (.slice (some ⟨g, 0, none⟩) (adjL eqR rs).length c) (adjL eqR rs).length (rcells (adjL eqR rs))
/-- A root's cells in a row of one's own. -/
theorem rown_at {w : World} {base g n c k : Nat} {L : List (Int × V)} {p : Int × V} (h : w.ownsRow base 78 5 (.slice (some ⟨g, 0, none⟩) n c) n (rcells L)) (hk : L[k]? = some p) :
    g < w.heap.size ∧ w.cell? ⟨g, k * 5, none⟩ = some (.int .i64 p.1) ∧ w.cell? ⟨g, k * 5 + 1, none⟩ = some (.int .u8 p.2.k) ∧ w.cell? ⟨g, k * 5 + 2, none⟩ = some (.int .i64 p.2.n) ∧ w.cell? ⟨g, k * 5 + 3, none⟩ = some (.int .u64 p.2.r) ∧ w.cell? ⟨g, k * 5 + 4, none⟩ = some (.string p.2.t) := by
  have hc := h.cells (g := g) rfl
  have key : ∀ q v, q < 5 → (rtC p)[q]? = some v → w.cell? ⟨g, k * 5 + q, none⟩ = some v := by
    intro q v hq hv
    have := hc (k * 5 + q) v (by rw [show (rcells L)[k * 5 + q]? = (rtC p)[q]? from flat_get rtC 5 (fun _ => rfl) L k q p hk hq]; exact hv)
    rwa [addr_add, Nat.zero_add] at this
  exact ⟨(h.lt g rfl).2, key 0 _ (by omega) rfl, key 1 _ (by omega) rfl, key 2 _ (by omega) rfl, key 3 _ (by omega) rfl, key 4 _ (by omega) rfl⟩
/-- In the middle of it: what was looked at, up to the m-th, is adjacent-free in the first kk. -/
structure CpL (g n c base : Nat) (rs : List (Int × V)) (m kk : Nat) (w W : World) : Prop where
  o : ∃ L : List (Int × V), L.length = n ∧ L.take kk = adjL eqR (rs.take (m + 1)) ∧ L.drop m = rs.drop m ∧ W.ownsRow base 78 5 (.slice (some ⟨g, 0, none⟩) n c) n (rcells L)
  k : Chg [g] w W
  l : kk = (adjL eqR (rs.take (m + 1))).length
  kk : kk ≤ m
  m : m < n
theorem CpL.skip {g n c base m kk : Nat} {rs : List (Int × V)} {w W W' : World} {a b : Int × V} (h : CpL g n c base rs m kk w W) (hb : Below W.heap.size W W') (hm : m + 1 < n) (ha : rs[m]? = some a) (hb' : rs[m + 1]? = some b) (he : eqR b a = true) : CpL g n c base rs (m + 1) kk w W' := by
  obtain ⟨L, h1, h2, h3, h4⟩ := h.o
  have e : adjL eqR (rs.take (m + 1 + 1)) = adjL eqR (rs.take (m + 1)) := by rw [adjL_take eqR ha hb', he]; simp
  refine ⟨⟨L, h1, by rw [e]; exact h2, ?_, own_below h4 hb⟩, h.k.andBelow hb, by rw [e]; exact h.l, by have := h.kk; omega, hm⟩
  have := congrArg (List.drop 1) h3
  rwa [List.drop_drop, List.drop_drop] at this
theorem CpL.take {g n c base m kk : Nat} {rs L : List (Int × V)} {w W W' : World} {a b : Int × V} (h : CpL g n c base rs m kk w W) (hL : L.length = n ∧ L.take kk = adjL eqR (rs.take (m + 1)) ∧ L.drop m = rs.drop m) (ho : W'.ownsRow base 78 5 (.slice (some ⟨g, 0, none⟩) n c) n (rcells (L.set kk b))) (hk : Chg [g] w W') (hm : m + 1 < n) (ha : rs[m]? = some a) (hb' : rs[m + 1]? = some b) (he : eqR b a = false) : CpL g n c base rs (m + 1) (kk + 1) w W' := by
  have e : adjL eqR (rs.take (m + 1 + 1)) = adjL eqR (rs.take (m + 1)) ++ [b] := by rw [adjL_take eqR ha hb', he]; simp
  have hkk := h.kk
  obtain ⟨h1, h2, h3⟩ := hL
  refine ⟨⟨L.set kk b, by rw [List.length_set]; exact h1, ?_, ?_, ho⟩, hk, by rw [e, List.length_append, ← h.l]; rfl, by omega, hm⟩
  · rw [e, ← h2, List.take_add_one, List.getElem?_set_self (by omega), List.take_set_of_le (Nat.le_refl _)]
    rfl
  · rw [List.drop_set_of_lt (by omega)]
    have := congrArg (List.drop 1) h3
    rwa [List.drop_drop, List.drop_drop] at this
set_option maxRecDepth 100000 in
set_option maxHeartbeats 3200000 in
theorem compact_any (rs : List (Int × V)) (hw : ∀ p ∈ rs, p.2.wf) (g n c base kb : Nat) (w : World) (hn : rs.length = n) (hs : n < 1000000) (ho : w.ownsRow base 78 5 (.slice (some ⟨g, 0, none⟩) n c) n (rcells rs))
    (hk : Blk w kb #[.func (.func 33) #[] #[]] 81) :
    Calls Tryz.prog 56 #[.slice (some ⟨g, 0, none⟩) n c, .func (.func 57) #[] #[.pointer (some ⟨kb, 0, none⟩)]] w (CompQ g c base rs w) := by
  have HO := Lib.hid ho
  have HW := Lib.hid hw
  have HK := Lib.hid hk
  have HN := Lib.hid hn
  have hnc : n ≤ c := by
    obtain ⟨_, ⟨h1, _⟩ | ⟨q, cap, cur, h1, _, _, h4, _⟩⟩ := ho
    · cases h1
    · simp only [Value.slice.injEq, true_and] at h1
      obtain ⟨_, rfl⟩ := h1
      exact h4
  have HALL : Hid (∀ w1, Below w.heap.size w w1 → (∀ i a b, i + 1 < n → rs[i]? = some a → rs[i + 1]? = some b → eqR b a = false) → CompQ g c base rs w (.returned (.slice (some ⟨g, 0, none⟩) n c)) w1) := by
    intro w1 hb hj
    have e : adjL eqR rs = rs := by
      have := adjL_all eqR (l := rs) (k := n) hj (by omega)
      rwa [← hn, List.take_length] at this
    unfold CompQ
    rw [e, hn]
    exact ⟨rfl, Chg.of_below hb, own_below ho hb⟩
  clear ho hw hk
  go_enter Tryz.func56, Tryz.ntmps56
  by_cases h2 : n < 2
  · have h2' : (n : Int) < 2 := by omega
    have HF := Lib.hid (HALL.out w (Below.refl _ _) (fun i a b h => by omega))
    clear h2
    go_wp2_with fail
    go_ret
    exact HF.out
  · have h2' : ¬ (n : Int) < 2 := by omega
    go_wp2_with fail
    go_loopw [5] (fun v wr => ∃ j : Nat, j + 1 ≤ n ∧ v = .int .i64 (j + 1) ∧ Hid (∀ i a b, i + 1 < j + 1 → rs[i]? = some a → rs[i + 1]? = some b → eqR b a = false) ∧ Hid (Below w.heap.size w wr)) (fun v _ => n - (intOf v).toNat)
    case atStart => exact ⟨0, by omega, rfl, fun i a b h => by omega, Below.refl _ _⟩
    case round =>
      obtain ⟨j, hj, rfl, HJ, HB⟩ := hrel
      by_cases hlt : j + 1 < n
      · obtain ⟨a, ha⟩ : ∃ a, rs[j]? = some a := ⟨_, List.getElem?_eq_getElem (by omega)⟩
        obtain ⟨b, hb⟩ : ∃ b, rs[j + 1]? = some b := ⟨_, List.getElem?_eq_getElem (by omega)⟩
        have HCMP := Lib.hid (fun (W : World) (hW : Below w.heap.size w W) => sorted1_any b a kb W (HW.out b (List.mem_of_getElem? hb)) (HW.out a (List.mem_of_getElem? ha)) (HK.out.ext hW))
        have HOA := Lib.hid (fun (W : World) (hW : Below w.heap.size w W) => rown_at (own_below HO.out hW) ha)
        have HOB := Lib.hid (fun (W : World) (hW : Below w.heap.size w W) => rown_at (own_below HO.out hW) hb)
        obtain ⟨EQ, hEQ⟩ : ∃ q, q = eqR b a := ⟨_, rfl⟩
        have HEQ : Hid (eqR b a = EQ) := hEQ.symm
        rw [show (ordF b a == 0) = eqR b a from rfl, ← hEQ] at HCMP
        have HAB := Lib.hid (And.intro ha hb)
        clear hEQ ha hb
        obtain ⟨ta, ka, na, ra, sa⟩ := a
        obtain ⟨tb, kb', nb, rb, sb⟩ := b
        unfold rtV at HCMP
        simp only at HCMP HOA HOB
        have i0 : (j : Int) + 1 < n := by omega
        have i1 : (j : Int) < n := by omega
        have hwj : IntKind.i64.wrap (j : Int) = j := IntWalk.i64_in _ (by omega)
        have hwj2 : IntKind.i64.wrap ((j : Int) + 1 + 1) = (j : Int) + 1 + 1 := IntWalk.i64_in _ (by omega)
        go_upto_region 6 with fail
        refine region_grow [false, false, false, false, false, false, false, false, false, false, false, false, false, false, false, false, false, false, true, true, true, true, true, true, true, true, true, true, true, false, false, false, false, false, false, false, false, false, false, false, false, false, false, false, false, false, false, false, false, false, false, false, false, false, false, false, false, false, false, false, false, false, false, false, false, false] [18, 19, 20, 21, 22, 23, 24, 25, 26, 27, 28] [.val (.func (.func 57) #[] #[.pointer (some ⟨kb, 0, none⟩)]), .val (.slice (some ⟨g, 0, none⟩) n c), .val (.int .i64 (j + 1)), .val (.pointer (some ⟨g, (j + 1) * 5, none⟩)), .val (.agg #[.int .i64 tb, .int .u8 kb', .int .i64 nb, .int .u64 rb, .string sb]), .val (.slice (some ⟨g, 0, none⟩) n c), .val (.int .i64 (j + 1)), .val (.int .i64 j), .val (.pointer (some ⟨g, j * 5, none⟩)), .val (.agg #[.int .i64 ta, .int .u8 ka, .int .i64 na, .int .u64 ra, .string sa]), .val (.bool EQ)] [10] (by kernel_rfl) (by kernel_rfl) (by kernel_rfl) (by kernel_rfl) (by kernel_rfl) ⟨?_, ?_, ?_, ?_, ?_, ?_, ?_, ?_, ?_, ?_, ?_, trivial⟩ ?done
        case done =>
          intro x9 w5 hb5
          simp only [StepGoal, overlay, upd, cond_true, cond_false, List.getD_cons_zero, List.getD_cons_succ, Nat.zero_add, Nat.reduceAdd, Nat.reduceEqDiff, reduceIte]
          have HB5 := Lib.hid (bt HB.out hb5)
          clear hb5
          cases EQ
          · go_wp2_with fail
            go_roundw
            case rel => exact ⟨j + 1, by omega, by go_num, fun i a b h h1 h2 => by
              by_cases e : i = j
              · subst e
                rw [HAB.out.1, Option.some.injEq] at h1
                rw [HAB.out.2, Option.some.injEq] at h2
                subst h1; subst h2
                exact HEQ.out
              · exact HJ.out i a b (by omega) h1 h2, HB5.out⟩
            case measure => simp [intOf]; omega
          · have hjc : ¬ c = j + 1 := by omega
            have i2 : (j : Int) + 1 ≤ n := by omega
            have i3 : (j : Int) + 1 ≤ c := by omega
            have HST : Hid (CpL g n c base rs (j + 1) (j + 1) w w5) := by
              have e1 : adjL eqR (rs.take (j + 1)) = rs.take (j + 1) := adjL_all eqR HJ.out (by have := HN.out; omega)
              have e : adjL eqR (rs.take (j + 1 + 1)) = rs.take (j + 1) := by rw [adjL_take eqR HAB.out.1 HAB.out.2, HEQ.out, e1]; simp
              refine ⟨⟨rs, HN.out, e.symm, rfl, own_below HO.out HB5.out⟩, Chg.of_below HB5.out, ?_, Nat.le_refl _, hlt⟩
              rw [e, List.length_take, HN.out]; omega
            clear HEQ HAB HOA HOB HCMP HJ HB HB5 HALL
            go_wp2_with fail
            go_loopw [5, 7] (fun v5 v7 wr => ∃ i kk : Nat, v7 = .int .i64 (i + 1) ∧ v5 = .int .i64 kk ∧ Hid (CpL g n c base rs (j + 1 + i) kk w wr)) (fun _ v7 _ => n - (intOf v7).toNat)
            case atStart => exact ⟨0, j + 1, rfl, by go_num, HST.out⟩
            case round =>
              obtain ⟨i, kk, rfl, rfl, HC⟩ := hrel
              have hkm := HC.out.kk
              have hmn := HC.out.m
              by_cases hlt2 : j + 1 + i + 1 < n
              · obtain ⟨a, ha⟩ : ∃ a, rs[j + 1 + i]? = some a := ⟨_, List.getElem?_eq_getElem (by have := HN.out; omega)⟩
                obtain ⟨b, hb⟩ : ∃ b, rs[j + 1 + i + 1]? = some b := ⟨_, List.getElem?_eq_getElem (by have := HN.out; omega)⟩
                obtain ⟨L, hL1, hL2, hL3, hL4⟩ := HC.out.o
                have la : L[j + 1 + i]? = some a := by have := congrArg (fun l => l[0]?) hL3; simpa [List.getElem?_drop, ha] using this
                have lb : L[(j + 1) + (i + 1)]? = some b := by have := congrArg (fun l => l[1]?) hL3; rw [List.getElem?_drop, List.getElem?_drop] at this; exact this.trans hb
                have HKR := Lib.hid (HK.out.chg HC.out.k (fun hm => by rw [List.mem_singleton] at hm; exact own_vne HO.out HK.out (by decide) (by rw [hm]; rfl)))
                have HCMP := Lib.hid (fun (W : World) (hW : Below wr.heap.size wr W) => sorted1_any b a kb W (HW.out b (List.mem_of_getElem? hb)) (HW.out a (List.mem_of_getElem? ha)) (HKR.out.ext hW))
                have HOA := Lib.hid (fun (W : World) (hW : Below wr.heap.size wr W) => rown_at (own_below hL4 hW) la)
                have HOB := Lib.hid (fun (W : World) (hW : Below wr.heap.size wr W) => rown_at (own_below hL4 hW) lb)
                rw [Nat.add_mul (j + 1) i 5] at HOA
                rw [Nat.add_mul (j + 1) (i + 1) 5] at HOB
                obtain ⟨EQ, hEQ⟩ : ∃ q, q = eqR b a := ⟨_, rfl⟩
                have HEQ : Hid (eqR b a = EQ) := hEQ.symm
                rw [show (ordF b a == 0) = eqR b a from rfl, ← hEQ] at HCMP
                have HAB := Lib.hid (And.intro ha hb)
                have HL := Lib.hid (And.intro hL1 (And.intro hL2 hL3))
                have HLO := Lib.hid hL4
                clear hEQ ha hb hL1 hL2 hL3 hL4 la lb
                obtain ⟨ta, ka, na, ra, sa⟩ := a
                obtain ⟨tb, kb', nb, rb, sb⟩ := b
                unfold rtV at HCMP
                simp only at HCMP HOA HOB
                have k1 : (i : Int) + 1 < ((n - (j + 1) : Nat) : Int) := by omega
                have k2 : (i : Int) < ((n - (j + 1) : Nat) : Int) := by omega
                have k3 : (kk : Int) < n := by omega
                have hwi : IntKind.i64.wrap (i : Int) = i := IntWalk.i64_in _ (by omega)
                have hwi2 : IntKind.i64.wrap ((i : Int) + 1 + 1) = (i : Int) + 1 + 1 := IntWalk.i64_in _ (by omega)
                have hwk : IntKind.i64.wrap ((kk : Int) + 1) = (kk : Int) + 1 := IntWalk.i64_in _ (by omega)
                go_upto_region 11 with fail
                refine region_grow [false, false, false, false, false, false, false, false, false, false, false, false, false, false, false, false, false, false, false, false, false, false, false, false, false, false, false, false, false, false, false, false, false, false, false, false, false, false, true, true, true, true, true, true, true, true, true, true, true, true, false, false, false, false, false, false, false, false, false, false, false, false, false, false, false, false] [38, 39, 40, 41, 42, 43, 44, 45, 46, 47, 48, 49] [.val (.func (.func 57) #[] #[.pointer (some ⟨kb, 0, none⟩)]), .val (.slice (some ⟨g, (j + 1) * 5, none⟩) (n - (j + 1)) (c - (j + 1))), .val (.int .i64 (i + 1)), .val (.pointer (some ⟨g, (j + 1) * 5 + (i + 1) * 5, none⟩)), .val (.agg #[.int .i64 tb, .int .u8 kb', .int .i64 nb, .int .u64 rb, .string sb]), .val (.slice (some ⟨g, (j + 1) * 5, none⟩) (n - (j + 1)) (c - (j + 1))), .val (.int .i64 (i + 1)), .val (.int .i64 i), .val (.pointer (some ⟨g, (j + 1) * 5 + i * 5, none⟩)), .val (.agg #[.int .i64 ta, .int .u8 ka, .int .i64 na, .int .u64 ra, .string sa]), .val (.bool EQ), .val (.bool (!EQ))] [11] (by kernel_rfl) (by kernel_rfl) (by kernel_rfl) (by kernel_rfl) (by kernel_rfl) ⟨?_, ?_, ?_, ?_, ?_, ?_, ?_, ?_, ?_, ?_, ?_, ?_, trivial⟩ ?done
                case done =>
                  intro y9 w6 hb6
                  simp only [StepGoal, overlay, upd, cond_true, cond_false, List.getD_cons_zero, List.getD_cons_succ, Nat.zero_add, Nat.reduceAdd, Nat.reduceEqDiff, reduceIte]
                  have HB6 := Lib.hid hb6
                  clear hb6
                  cases EQ
                  · obtain ⟨cur, hcur, hsz, hset⟩ := rown_set (own_below HLO.out HB6.out) (show kk < n by omega)
                    obtain ⟨_, b0, b1, b2, b3, b4⟩ := HOB.out w6 HB6.out
                    obtain ⟨w7, rfl, lt⟩ := blk_put hcur
                    have hset' := hset ⟨tb, kb', nb, rb, sb⟩
                    rw [put_put'] at hset'
                    have HT := Lib.hid (HC.out.take HL.out hset' ((HC.out.k.andBelow HB6.out).trans (putx_chg w7 g cur _ _) (fun q hq => Or.inl hq)) hlt2 HAB.out.1 HAB.out.2 HEQ.out)
                    unfold set5 at HT
                    simp only at HT
                    have c0 : ∀ cs, (putBlk w7 g cs 78).cell? ⟨g, kk * 5, none⟩ = cs[kk * 5]? := fun cs => (putBlk_blk cs _ lt).cell _
                    have f0 : ∀ cs, (putBlk w7 g cs 78).frozen? ⟨g, kk * 5, none⟩ = false := fun cs => (putBlk_blk cs _ lt).frozen _
                    have s0 : ∀ cs v, (putBlk w7 g cs 78).setCell ⟨g, kk * 5, none⟩ v = putBlk w7 g (cs.setIfInBounds (kk * 5) v) 78 := fun cs v => putBlk_set cs _ lt _ v
                    have e0 : cur[kk * 5]? = some (cur[kk * 5]'(by omega)) := Array.getElem?_eq_getElem (by omega)
                    have c1 : ∀ cs, (putBlk w7 g cs 78).cell? ⟨g, kk * 5 + 1, none⟩ = cs[kk * 5 + 1]? := fun cs => (putBlk_blk cs _ lt).cell _
                    have f1 : ∀ cs, (putBlk w7 g cs 78).frozen? ⟨g, kk * 5 + 1, none⟩ = false := fun cs => (putBlk_blk cs _ lt).frozen _
                    have s1 : ∀ cs v, (putBlk w7 g cs 78).setCell ⟨g, kk * 5 + 1, none⟩ v = putBlk w7 g (cs.setIfInBounds (kk * 5 + 1) v) 78 := fun cs v => putBlk_set cs _ lt _ v
                    have e1 : cur[kk * 5 + 1]? = some (cur[kk * 5 + 1]'(by omega)) := Array.getElem?_eq_getElem (by omega)
                    have c2 : ∀ cs, (putBlk w7 g cs 78).cell? ⟨g, kk * 5 + 2, none⟩ = cs[kk * 5 + 2]? := fun cs => (putBlk_blk cs _ lt).cell _
                    have f2 : ∀ cs, (putBlk w7 g cs 78).frozen? ⟨g, kk * 5 + 2, none⟩ = false := fun cs => (putBlk_blk cs _ lt).frozen _
                    have s2 : ∀ cs v, (putBlk w7 g cs 78).setCell ⟨g, kk * 5 + 2, none⟩ v = putBlk w7 g (cs.setIfInBounds (kk * 5 + 2) v) 78 := fun cs v => putBlk_set cs _ lt _ v
                    have e2 : cur[kk * 5 + 2]? = some (cur[kk * 5 + 2]'(by omega)) := Array.getElem?_eq_getElem (by omega)
                    have c3 : ∀ cs, (putBlk w7 g cs 78).cell? ⟨g, kk * 5 + 3, none⟩ = cs[kk * 5 + 3]? := fun cs => (putBlk_blk cs _ lt).cell _
                    have f3 : ∀ cs, (putBlk w7 g cs 78).frozen? ⟨g, kk * 5 + 3, none⟩ = false := fun cs => (putBlk_blk cs _ lt).frozen _
                    have s3 : ∀ cs v, (putBlk w7 g cs 78).setCell ⟨g, kk * 5 + 3, none⟩ v = putBlk w7 g (cs.setIfInBounds (kk * 5 + 3) v) 78 := fun cs v => putBlk_set cs _ lt _ v
                    have e3 : cur[kk * 5 + 3]? = some (cur[kk * 5 + 3]'(by omega)) := Array.getElem?_eq_getElem (by omega)
                    have c4 : ∀ cs, (putBlk w7 g cs 78).cell? ⟨g, kk * 5 + 4, none⟩ = cs[kk * 5 + 4]? := fun cs => (putBlk_blk cs _ lt).cell _
                    have f4 : ∀ cs, (putBlk w7 g cs 78).frozen? ⟨g, kk * 5 + 4, none⟩ = false := fun cs => (putBlk_blk cs _ lt).frozen _
                    have s4 : ∀ cs v, (putBlk w7 g cs 78).setCell ⟨g, kk * 5 + 4, none⟩ v = putBlk w7 g (cs.setIfInBounds (kk * 5 + 4) v) 78 := fun cs v => putBlk_set cs _ lt _ v
                    have e4 : cur[kk * 5 + 4]? = some (cur[kk * 5 + 4]'(by omega)) := Array.getElem?_eq_getElem (by omega)
                    clear hset hset' hcur
                    go_wp2_with fail
                    go_roundw
                    case rel => exact ⟨i + 1, kk + 1, by go_num, by go_num, HT.out⟩
                    case measure => simp [intOf]; omega
                  · go_wp2_with fail
                    go_roundw
                    case rel => exact ⟨i + 1, kk, by go_num, rfl, HC.out.skip HB6.out hlt2 HAB.out.1 HAB.out.2 HEQ.out⟩
                    case measure => simp [intOf]; omega
                all_goals
                  intro y9 w8 hT8
                  intro K hK
                  obtain ⟨lg, a0, a1, a2, a3, a4⟩ := HOA.out w8 hT8
                  obtain ⟨_, b0, b1, b2, b3, b4⟩ := HOB.out w8 hT8
                  rw [if_pos (by rfl)]; simp only [overlay, upd, cond_true, cond_false, List.getD_cons_zero, List.getD_cons_succ, Nat.reduceEqDiff, reduceIte]
                  go_simp
                  first
                    | exact hK.out _ _ (Below.refl _ _) rfl
                    | ((with_reducible refine (HCMP.out _ hT8).mono ?_); rintro e wa ⟨rfl, hba⟩; go_wp2_with fail; exact hK.out _ _ hba rfl)
              · obtain ⟨L, hL1, hL2, hL3, hL4⟩ := HC.out.o
                obtain ⟨w7, hcl, hcg, hown⟩ := clear_own hL4 hL1 (show kk < n by omega) (c - kk)
                have HF : Hid (CompQ g c base rs w (.returned (.slice (some ⟨g, 0, none⟩) kk c)) w7) := by
                  have e : rs.take (j + 1 + i + 1) = rs := List.take_of_length_le (by have := HN.out; omega)
                  have hl := HC.out.l
                  rw [e] at hl hL2
                  rw [hL2] at hown
                  unfold CompQ
                  rw [← hl]
                  exact ⟨rfl, HC.out.k.trans hcg (fun q hq => Or.inl hq), hown⟩
                have k1 : ¬ (i : Int) + 1 < ((n - (j + 1) : Nat) : Int) := by omega
                have k3 : (kk : Int) ≤ n := by omega
                have k4 : (kk : Int) ≤ c := by omega
                have k5 : ¬ c = kk := by omega
                have k6 : kk ≤ c := by omega
                clear hL1 hL2 hL3 hL4 hcg hown
                go_wp2_with (simp only [hcl])
                go_ret
                exact HF.out
        all_goals
          intro x9 w8 hT8
          intro K hK
          have hb8 := bt HB.out hT8
          obtain ⟨lg, a0, a1, a2, a3, a4⟩ := HOA.out w8 hb8
          obtain ⟨_, b0, b1, b2, b3, b4⟩ := HOB.out w8 hb8
          rw [if_pos (by rfl)]; simp only [overlay, upd, cond_true, cond_false, List.getD_cons_zero, List.getD_cons_succ, Nat.reduceEqDiff, reduceIte]
          go_simp
          first
            | exact hK.out _ _ (Below.refl _ _) rfl
            | ((with_reducible refine (HCMP.out _ hb8).mono ?_); rintro e wa ⟨rfl, hba⟩; go_wp2_with fail; exact hK.out _ _ hba rfl)
      · have HF := Lib.hid (HALL.out wr HB.out (fun i a b h => HJ.out i a b (by omega)))
        have i0 : ¬ (j : Int) + 1 < n := by omega
        clear hlt
        go_wp2_with fail
        go_ret
        exact HF.out
end Go.Proofs.YtgklopgeimjgiaaGreatDoor

/- VerifySees: verify.sorted. -/
namespace Go.Proofs.YtgklopgeimjgiaaGreatDoor
open Go.RowKit

def SortedQ (g c base : Nat) (rs : List (Int × V)) (w : World) (q : Ending) (w' : World) : Prop :=
  ∃ ss xs : List (Int × V), ss.Perm rs ∧ ss.Pairwise (fun a b => pLI b a = false) ∧ xs = adjL eqR ss ∧ q = .returned (.slice (some ⟨g, 0, none⟩) xs.length c) ∧ Chg [g] w w' ∧ w'.ownsRow base 78 5 (.slice (some ⟨g, 0, none⟩) xs.length c) xs.length (rcells xs)
set_option maxRecDepth 100000 in
set_option maxHeartbeats 800000 in
theorem sorted_any (rs : List (Int × V)) (hw : ∀ p ∈ rs, p.2.wf) (g n c base : Nat) (w : World) (h0 : 0 < n) (hn : rs.length = n) (hs : n < 1000000) (ho : w.ownsRow base 78 5 (.slice (some ⟨g, 0, none⟩) n c) n (rcells rs)) :
    Calls Tryz.prog 32 #[.slice (some ⟨g, 0, none⟩) n c, .func (.func 33) #[] #[]] w (SortedQ g c base rs w) := by
  obtain ⟨RP, hRP⟩ : ∃ RP, RP = SortedQ g c base rs w := ⟨_, rfl⟩
  rw [← hRP]
  have HRP : Hid (∀ q w', SortedQ g c base rs w q w' → RP q w') := fun q w' h => hRP ▸ h
  have hb1 : Below w.heap.size w (w.alloc (.cells #[.func (.func 33) #[] #[]] 81)) := (by repeat (first | exact Below.refl _ _ | assumption | refine Below.drew ?_ | refine below_drewN ?_ _ | refine Below.alloc ?_ (by simp <;> omega) _))
  have hk1 := Blk.new w #[.func (.func 33) #[] #[]] 81
  have ho1 := own_below ho hb1
  have HSO := Lib.hid (sortR_any rs hw g n c base _ h0 hn hs ho1)
  have HB1 := Lib.hid hb1
  have HK1 := Lib.hid hk1
  have HO1 := Lib.hid ho1
  have HW := Lib.hid hw
  have HN := Lib.hid hn
  have HS := Lib.hid hs
  clear ho ho1 hk1 hb1 hw hRP h0 hn hs
  go_enter Tryz.func32, Tryz.ntmps32
  go_upto_region 1 with fail
  generalize w.alloc (.cells #[.func (.func 33) #[] #[]] 81) = w1 at HSO HB1 HK1 HO1 ⊢
  generalize hB0 : w.heap.size = B0 at HK1 ⊢
  have HB0 := Lib.hid hB0
  clear hB0
  have k0 := HK1.out.cell 0
  have lk := HK1.out.lt
  simp only [List.getElem?_toArray, List.getElem?_cons_zero] at k0
  go_wp2_with fail
  refine HSO.out.mono ?_
  rintro q w2 ⟨rfl, hc2, ss, hpm, hpw, ho2⟩
  have hwe : ∀ p ∈ ss, p.2.wf := fun p hp => HW.out p (hpm.mem_iff.1 hp)
  have hk2 : Blk w2 B0 #[.func (.func 33) #[] #[]] 81 := HK1.out.chg hc2 (fun hm => by rw [List.mem_singleton] at hm; exact own_vne HO1.out HK1.out (by decide) (by rw [hm]; rfl))
  have HCO := Lib.hid (compact_any ss hwe g n c base B0 w2 (hpm.length_eq.trans HN.out) HS.out ho2 hk2)
  have HPO : Hid (∀ q w3, CompQ g c base ss w2 q w3 → ∃ m, q = .returned (.slice (some ⟨g, 0, none⟩) m c) ∧ RP (.returned (.slice (some ⟨g, 0, none⟩) m c)) w3) := by
    rintro q w3 ⟨rfl, hc3, ho3⟩
    refine ⟨_, rfl, HRP.out _ _ ⟨ss, _, hpm, hpw, rfl, rfl, ?_, ho3⟩⟩
    exact ((Chg.of_below (S := [g]) HB1.out).trans hc2 (fun i hi => Or.inl hi)).trans hc3 (fun i hi => Or.inl hi)
  clear hc2 hpm hpw ho2 hwe HSO HRP k0 lk
  have k0 := hk2.cell 0
  have lk := hk2.lt
  simp only [List.getElem?_toArray, List.getElem?_cons_zero] at k0
  clear hk2
  go_wp2_with fail
  refine HCO.out.mono ?_
  intro q w3 hq
  obtain ⟨m, rfl, hf⟩ := HPO.out q w3 hq
  have HF := Lib.hid hf
  clear hq hf HPO HCO k0 lk
  go_wp2_with fail
  exact HF.out
end Go.Proofs.YtgklopgeimjgiaaGreatDoor
