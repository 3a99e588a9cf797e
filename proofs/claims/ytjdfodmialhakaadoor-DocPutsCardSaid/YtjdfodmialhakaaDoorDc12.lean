/- Several texts in one: see each part's head. -/
import Derived.Test.YtjdfodmialhakaaDoorDc10
import Derived.Test.YtjdfodmialhakaaDoorEv4
import Derived.Test.YtjdfodmialhakaaDoorMk2
/- Documents: the document's Put. -/
namespace Go.Proofs.YtjdfodmialhakaaDoor
open Go.RowKit

def putTo (d : De) (k : Nat) : List UInt8 := nodeL d ++ (d.kids.take k).flatMap putD
theorem putTo_end (d : De) {k : Nat} (h : d.kids.length ≤ k) : putTo d k = putD d := by rw [putTo, List.take_of_length_le h, putD_eq]
theorem putTo_step {d : De} {k : Nat} {x : De} (h : d.kids[k]? = some x) : putTo d (k + 1) = putTo d k ++ putD x := by
  rw [putTo, putTo, ← take_snoc1 h, List.flatMap_append, List.append_assoc]
  simp
theorem putTo_len (d : De) (k : Nat) : (putTo d k).length ≤ (putD d).length := by
  have h : (d.kids.take k).flatMap putD ++ (d.kids.drop k).flatMap putD = d.kids.flatMap putD := by rw [← List.flatMap_append, List.take_append_drop]
  rw [putD_eq, putTo, ← h]
  simp
theorem kid_len {d x : De} {k : Nat} (h : d.kids[k]? = some x) : (putTo d k).length + (putD x).length ≤ (putD d).length := by
  have := putTo_len d (k + 1)
  rw [putTo_step h, List.length_append] at this
  exact this
theorem num2 (k : Nat) : numL 2 k = [UInt8.ofNat k, UInt8.ofNat (k / 256)] := by
  simp only [numL]
  congr 1
  · apply UInt8.toNat_inj.1; simp
  · congr 1; apply UInt8.toNat_inj.1; simp
theorem fits_kid {d x : De} {k : Nat} (h : fitsB d = true) (hx : d.kids[k]? = some x) : fitsB x = true := by
  rw [fits_eq, Bool.and_eq_true, List.all_eq_true] at h
  exact h.2 x (List.mem_of_getElem? hx)
theorem fits_node {d : De} (h : fitsB d = true) : 0 ≤ d.tb ∧ d.tb < 12 ∧ rowB d.row = true ∧ ordB d.kids = true := by
  rw [fits_eq, Bool.and_eq_true, nodeB] at h
  simp only [Bool.and_eq_true, decide_eq_true_eq] at h
  exact ⟨h.1.1.1.1, h.1.1.1.2, h.1.1.2, h.1.2⟩
theorem nodeL_str {tb : Int} {N1 N2 : ByteArray} {d : De} (ht : d.tb = tb) (h1 : N1.data.toList = putRowL d.row) (h2 : N2.data.toList = numL 2 d.kids.length) : (strOfNums [tb] ++ N1 ++ N2).data.toList = nodeL d := by
  rw [ByteArray.data_append, ByteArray.data_append]
  simp only [Array.toList_append, h1, h2, num2, nodeL, ht]
  simp [strOfNums]
set_option maxRecDepth 100000 in
set_option maxHeartbeats 1600000 in
theorem refput25_any : ∀ (n : Nat) (v : Value) (d : De) (w : World), DRd n w v d → fitsB d = true → (putD d).length ≤ 400000 →
    Calls Tryd.prog 50 #[v] w fun r w' => r = .returned (.string ⟨(putD d).toArray⟩) ∧ Below w.heap.size w w'
  | 0, _, _, _, h, _, _ => h.elim
  | n + 1, v, d, w, hd, hf, hL => by
    obtain ⟨A, ca, K, ck, rfl, _, hv, hk⟩ := hd
    obtain ⟨ht0, ht1, hrb, _⟩ := fits_node hf
    have IH := Lib.hid (refput25_any n)
    have hlen := hk.1
    have HP1 := Lib.hid (fun (W : World) (hW : Below w.heap.size w W) => refputrow_any d.row A ca W (hv.ext hW) hrb)
    have HP2 := Lib.hid (fun (W : World) => (show Calls Tryd.prog 99 #[.int .u64 (d.kids.length : Int), .int .i64 2] W fun e w' => e = .returned (.string ⟨(numL 2 (d.kids.length : Int).toNat).toArray⟩) ∧ Below W.heap.size W w' from refnum (d.kids.length : Int) 2 (by omega) (by omega) (by omega) W))
    obtain ⟨N1, hN1⟩ : ∃ N1 : ByteArray, N1 = ⟨(putRowL d.row).toArray⟩ := ⟨_, rfl⟩
    obtain ⟨N2, hN2⟩ : ∃ N2 : ByteArray, N2 = ⟨(numL 2 (d.kids.length : Int).toNat).toArray⟩ := ⟨_, rfl⟩
    rw [← hN1] at HP1
    rw [← hN2] at HP2
    have hnode := nodeL_str (d := d) (N1 := N1) (N2 := N2) rfl (by rw [hN1]) (by rw [hN2]; simp)
    have hz := congrArg List.length hnode
    have hzn : (nodeL d).length ≤ (putD d).length := by have := putTo_len d 0; simpa [putTo] using this
    rw [ByteArray.data_append, ByteArray.data_append] at hz
    simp only [Array.toList_append, List.length_append] at hz
    have hs0 : (strOfNums [d.tb]).size = 1 := strOfNums_size _
    have hs1 : N1.size = N1.data.toList.length := by simp only [ByteArray.size, Array.length_toList]
    have hs2 : N2.size = N2.data.toList.length := by simp only [ByteArray.size, Array.length_toList]
    have hs0' : (strOfNums [d.tb]).data.toList.length = 1 := by rw [← hs0]; simp only [ByteArray.size, Array.length_toList]
    have hc1 : (strOfNums [d.tb]).size + N1.size ≤ 1000000 := by omega
    have hc2 : (strOfNums [d.tb] ++ N1).size + N2.size ≤ 1000000 := by rw [ByteArray.size_append]; omega
    have HPT := Lib.hid (fun k => (⟨fun x h => kid_len (d := d) (k := k) (x := x) h, fun x h => putTo_step (d := d) (k := k) (x := x) h, fun h => putTo_end d (k := k) h, putTo_len d k⟩ : (∀ x, d.kids[k]? = some x → (putTo d k).length + (putD x).length ≤ (putD d).length) ∧ (∀ x, d.kids[k]? = some x → putTo d (k + 1) = putTo d k ++ putD x) ∧ (d.kids.length ≤ k → putTo d k = putD d) ∧ (putTo d k).length ≤ (putD d).length))
    have HP0 : Hid ((strOfNums [d.tb] ++ N1 ++ N2).data.toList = putTo d 0) := by show _ = _; rw [hnode, putTo]; simp
    have HFK := Lib.hid (fun k x (h : d.kids[k]? = some x) => fits_kid hf h)
    have HK := Lib.hid hk
    have hszn : (strOfNums [d.tb] ++ N1 ++ N2).size ≤ 400000 := by rw [ByteArray.size_append, ByteArray.size_append]; omega
    clear hk hv hrb hf hN1 hN2 hnode hz hzn hs0 hs1 hs2 hs0'
    generalize hPF : putTo d = PF at HPT HP0
    generalize hPD : putD d = PD at HPT hL ⊢
    clear hPF hPD
    generalize d.tb = tb at ht0 ht1 hc1 hc2 HP0 hszn ⊢
    generalize d.row.length = rl at HP1 ⊢
    generalize d.kids = ks at HK HPT HFK HP2 hlen ⊢
    have hk1 := run_cat _ _ hc1
    have hk2 := run_cat _ _ hc2
    clear hc1 hc2
    have hw8 : IntKind.u8.wrap tb = tb := by show tb % 256 = tb; omega
    have hw64 : IntKind.u64.wrap (ks.length : Int) = ks.length := by show (ks.length : Int) % 18446744073709551616 = ks.length; omega
    have hcv := conv1_at tb
    have HSZ := Lib.hid hszn
    clear hszn
    go_enter Tryd.func50, Tryd.ntmps50
    go_upto_region 1 with fail
    have h1 : Blk (w.alloc (.cells #[.int .i64 tb, .slice A rl ca, .slice K ks.length ck] 71)) w.heap.size #[.int .i64 tb, .slice A rl ca, .slice K ks.length ck] 71 := Blk.new w _ _
    have hC : Below w.heap.size w (w.alloc (.cells #[.int .i64 tb, .slice A rl ca, .slice K ks.length ck] 71)) := (by repeat (first | exact Below.refl _ _ | assumption | refine Below.drew ?_ | refine below_drewN ?_ _ | refine Below.alloc ?_ (by simp <;> omega) _))
    have HB := Lib.hid h1
    have HC := Lib.hid hC
    have HK := Lib.hid (HK.out.ext hC (fun v k h => DRd.ext (n := n) h hC))
    have HP1 : Hid (∀ W : World, Below (w.alloc (.cells #[.int .i64 tb, .slice A rl ca, .slice K ks.length ck] 71)).heap.size (w.alloc (.cells #[.int .i64 tb, .slice A rl ca, .slice K ks.length ck] 71)) W → Calls Tryd.prog 26 #[.slice A rl ca] W fun e w' => e = .returned (.string N1) ∧ Below W.heap.size W w') := fun W hW => HP1.out W (bt hC hW)
    clear h1 hC
    generalize w.alloc (.cells #[.int .i64 tb, .slice A rl ca, .slice K ks.length ck] 71) = W0 at HB HC HK HP1 ⊢
    generalize w.heap.size = bx at HB ⊢
    refine region_grow [false, false, false, true, false, true, true, true, true, true, true, true, true, true, true, true, true, true, true, true, false, false, false, false, false, false, false, false, false, false, false, false, false, false, false, false] [5, 6, 7, 8, 9, 10, 11, 12, 13, 14, 15, 16, 17, 18, 19, 3] [.val (.pointer (some ⟨bx, 0, none⟩)), .val (.int .i64 tb), .val (.int .u8 tb), .new (fun g => .slice (some ⟨g, 0, none⟩) 1 1) #[.int .u8 tb] 5, .val (.string (strOfNums [tb])), .val (.pointer (some ⟨bx, 1, none⟩)), .val (.slice A rl ca), .val (.string N1), .val (.string (strOfNums [tb] ++ N1)), .val (.pointer (some ⟨bx, 2, none⟩)), .val (.slice K ks.length ck), .val (.int .i64 ks.length), .val (.int .u64 ks.length), .val (.string N2), .val (.string (strOfNums [tb] ++ N1 ++ N2)), .val (.string (strOfNums [tb] ++ N1 ++ N2))] [15] (by kernel_rfl) (by kernel_rfl) (by kernel_rfl) (by kernel_rfl) (by kernel_rfl) ⟨?_, ?_, ?_, ?_, ?_, ?_, ?_, ?_, ?_, ?_, ?_, ?_, ?_, ?_, ?_, ?_, trivial⟩ ?done
    case done =>
      intro x5 w5 hb5
      simp only [StepGoal, overlay, upd, cond_true, cond_false, List.getD_cons_zero, List.getD_cons_succ, Nat.zero_add, Nat.reduceAdd, Nat.reduceEqDiff, reduceIte]
      have HW5 := Lib.hid hb5
      clear hb5 hk1 hk2 hw8 hw64 hcv HP1 HP2
      generalize strOfNums [tb] ++ N1 ++ N2 = S0 at HP0 HSZ ⊢
      go_wp2_with fail
      go_loopw [3, 4] (fun o i wr => ∃ (k : Nat) (sb : ByteArray), k ≤ ks.length ∧ i = .int .i64 k ∧ o = .string sb ∧ sb.size ≤ 400000 ∧ Hid (sb.data.toList = PF k) ∧ Below W0.heap.size W0 wr) (fun _ i _ => ks.length - (intOf i).toNat)
      case atStart => exact ⟨0, S0, by omega, rfl, rfl, HSZ.out, HP0.out, HW5.out⟩
      case round =>
        obtain ⟨k, sb, hk1, rfl, rfl, hsb, HS, hbw⟩ := hrel
        obtain ⟨lb, _, _, d2⟩ := blk3 (HB.out.ext hbw)
        by_cases hlt : k < ks.length
        · obtain ⟨b, off, x, Ax, cax, Kx, ckx, rfl, hb, hdr, hx1, e0, e1, e2, hx⟩ := (HK.out.ext hbw (fun v k h => DRd.ext (n := n) h hbw)).kid hlt
          have hkl := (HPT.out k).1 x hx1
          have hst := (HPT.out k).2.1 x hx1
          have hle := (HPT.out (k + 1)).2.2.2
          have hfx := HFK.out k x hx1
          have HI := Lib.hid (IH.out _ x _ hx hfx (by omega))
          obtain ⟨qb, hqb⟩ : ∃ qb : ByteArray, qb = ⟨(putD x).toArray⟩ := ⟨_, rfl⟩
          rw [← hqb] at HI
          have hqs : qb.size = (putD x).length := by rw [hqb]; simp [ByteArray.size]
          have hsn : (sb ++ qb).data.toList = PF (k + 1) := by rw [hst, ByteArray.data_append, Array.toList_append, HS.out, hqb]
          have hss : sb.size = (PF k).length := by rw [← HS.out]; simp only [ByteArray.size, Array.length_toList]
          have hcat := run_cat sb qb (by omega)
          have hsz2 : (sb ++ qb).size ≤ 400000 := by rw [ByteArray.size_append]; omega
          have HSN := Lib.hid hsn
          have HW := Lib.hid hbw
          clear hx hbw hdr hx1 hkl hst hle hfx hqb hqs hsn hss
          go_wp2_with fail
          refine HI.out.mono ?_
          rintro r w4 ⟨rfl, hb4⟩
          have HW4 := Lib.hid (bt HW.out hb4)
          clear hb4 HW HI e0 e1 e2 hb lb d2
          go_wp2_with fail
          go_roundw
          case rel => exact ⟨k + 1, _, by omega, by go_num, rfl, hsz2, HSN.out, HW4.out⟩
          case measure => simp [intOf]; omega
        · have hbe : sb = ⟨PD.toArray⟩ := by
            rw [← (HPT.out k).2.2.1 (by omega), ← HS.out]
          subst hbe
          have HW := Lib.hid hbw
          clear hbw
          go_wp2_with fail
          go_ret
          exact ⟨rfl, bt HC.out HW.out⟩
    all_goals
      intro x5 w5 hb5
      (try (intro bq hq; have q0 := hq.cell 0; simp only [List.getElem?_toArray, List.getElem?_cons_zero] at q0))
      intro K hK
      obtain ⟨lb, d0, d1, d2⟩ := blk3 (HB.out.ext hb5)
      rw [if_pos (by rfl)]; simp only [overlay, upd, cond_true, cond_false, List.getD_cons_zero, List.getD_cons_succ, Nat.reduceEqDiff, reduceIte]
      go_simp
      first
        | exact hK.out _ _ (Below.refl _ _) rfl
        | exact hK.out _ _ (by repeat (first | exact Below.refl _ _ | assumption | refine Below.drew ?_ | refine below_drewN ?_ _ | refine Below.alloc ?_ (by simp <;> omega) _)) ⟨_, rfl, Blk.new _ _ _⟩
        | ((with_reducible refine (HP1.out _ hb5).mono ?_); rintro e wa ⟨rfl, hba⟩; go_wp2_with fail; exact hK.out _ _ hba rfl)
        | ((with_reducible refine (HP2.out _).mono ?_); rintro e wa ⟨rfl, hba⟩; go_wp2_with fail; exact hK.out _ _ hba rfl)
end Go.Proofs.YtjdfodmialhakaaDoor

/- Documents: the document's Rows. -/
namespace Go.Proofs.YtjdfodmialhakaaDoor
open Go.RowKit

theorem KCells.oneCell {n : Nat} {w : World} {xs : List Value} {ks : List De} (h : KCells (DRd n w) xs ks) : ∀ u ∈ xs, u.oneCell' = true := by
  intro u hu
  obtain ⟨j, hj, rfl⟩ := List.mem_iff_getElem.1 hu
  have hl := h.1
  have hi : j / 3 < ks.length := by omega
  obtain ⟨c0, c1, c2, h0, h1, h2, h3⟩ := h.2 (j / 3) _ (List.getElem?_eq_getElem hi)
  obtain ⟨A, ca, K, ck, hv⟩ := h3.form
  simp only [Value.agg.injEq, Array.mk.injEq, List.cons.injEq, and_true] at hv
  obtain ⟨rfl, rfl, rfl⟩ := hv
  have hx := List.getElem?_eq_getElem hj
  have e : j = j / 3 * 3 ∨ j = j / 3 * 3 + 1 ∨ j = j / 3 * 3 + 2 := by omega
  rcases e with e | e | e
  · rw [← e, hx] at h0; rw [Option.some.inj h0]; rfl
  · rw [← e, hx] at h1; rw [Option.some.inj h1]; rfl
  · rw [← e, hx] at h2; rw [Option.some.inj h2]; rfl
def rowsTo (d : De) (k : Nat) : List De := bareD d :: (d.kids.take k).flatMap rowsD
theorem rowsTo_end (d : De) {k : Nat} (h : d.kids.length ≤ k) : rowsTo d k = rowsD d := by rw [rowsTo, List.take_of_length_le h, rowsD_eq]
theorem rowsTo_step {d : De} {k : Nat} {x : De} (h : d.kids[k]? = some x) : rowsTo d (k + 1) = rowsTo d k ++ rowsD x := by
  rw [rowsTo, rowsTo, ← take_snoc1 h, List.flatMap_append, List.cons_append]
  simp
theorem rowsTo_len (d : De) (k : Nat) : (rowsTo d k).length ≤ (rowsD d).length := by
  have h : (d.kids.take k).flatMap rowsD ++ (d.kids.drop k).flatMap rowsD = d.kids.flatMap rowsD := by rw [← List.flatMap_append, List.take_append_drop]
  rw [rowsD_eq, rowsTo, ← h]
  simp
theorem rows_pos (d : De) : 1 ≤ (rowsD d).length := by rw [rowsD_eq]; simp
theorem rows_kid {d x : De} {k : Nat} (h : d.kids[k]? = some x) : (rowsTo d k).length + (rowsD x).length ≤ (rowsD d).length := by
  have := rowsTo_len d (k + 1)
  rw [rowsTo_step h, List.length_append] at this
  exact this
theorem own_some {w : World} {base e size n c : Nat} {A : Option Addr} {xs : List Value} (h : w.ownsRow base e size (.slice A n c) n xs) (hn : 1 ≤ n) : ∃ g, A = some ⟨g, 0, none⟩ := by
  obtain ⟨g, cap, hv, _⟩ := h.form hn
  exact ⟨g, by injection hv⟩
theorem KRow.kidw {n : Nat} {w0 w : World} {K : Option Addr} {ks : List De} (h : KRow (DRd n w0) w K ks) {k : Nat} (hk : k < ks.length) :
    ∃ (b off : Nat) (d : De) (A : Option Addr) (ca : Nat) (K' : Option Addr) (ck : Nat), K = some ⟨b, off, none⟩ ∧ b < w.heap.size ∧ ks[k]? = some d ∧
      w.cell? ⟨b, off + k * 3, none⟩ = some (.int .i64 d.tb) ∧ w.cell? ⟨b, off + k * 3 + 1, none⟩ = some (.slice A d.row.length ca) ∧ w.cell? ⟨b, off + k * 3 + 2, none⟩ = some (.slice K' d.kids.length ck) ∧ DRd n w0 (.agg #[.int .i64 d.tb, .slice A d.row.length ca, .slice K' d.kids.length ck]) d := by
  obtain ⟨b, off, d, c0, c1, c2, rfl, hb, _, h2, e0, e1, e2, hd⟩ := h.at_ hk
  obtain ⟨A, ca, K', ck, hv⟩ := hd.form
  simp only [Value.agg.injEq, Array.mk.injEq, List.cons.injEq, and_true] at hv
  obtain ⟨rfl, rfl, rfl⟩ := hv
  exact ⟨b, off, d, A, ca, K', ck, rfl, hb, h2, e0, e1, e2, hd⟩
def RowsP (w0 : World) (d : De) (w : World) (r : Ending) (w' : World) : Prop := ∃ A c xs, r = .returned (.slice A (rowsD d).length c) ∧ w'.ownsRow w.heap.size 71 3 (.slice A (rowsD d).length c) (rowsD d).length xs ∧ KCells (DRd 1 w0) xs (rowsD d) ∧ Below w.heap.size w w'
theorem below_size {B : Nat} {w w' : World} (h : Below B w w') : w.heap.size ≤ w'.heap.size := h.size
set_option maxRecDepth 100000 in
set_option maxHeartbeats 1600000 in
theorem refrows25_any (w0 : World) : ∀ (n : Nat) (v : Value) (d : De) (w : World), DRd n w0 v d → Below w0.heap.size w0 w → (rowsD d).length ≤ 1000 →
    Calls Tryd.prog 52 #[v] w (RowsP w0 d w)
  | 0, _, _, _, h, _, _ => h.elim
  | n + 1, v, d, w, hd, hw, hL => by
    obtain ⟨A, ca, K, ck, rfl, htb, hv, hk⟩ := hd
    have IH := Lib.hid (refrows25_any w0 n)
    obtain ⟨i0, hi0, hz0, hz1, hz2⟩ := info_parts info_D
    have hlen := hk.1
    have hbare : DRd 1 w0 (.agg #[.int .i64 d.tb, .slice A d.row.length ca, .slice none 0 0]) (bareD d) := ⟨A, ca, none, 0, rfl, htb, hv, by simp [bareD, De.kids], fun h => absurd rfl h⟩
    have HK := Lib.hid hk
    have HBR := Lib.hid hbare
    have HPT := Lib.hid (fun k => (⟨fun x h => rows_kid (d := d) (k := k) (x := x) h, fun x h => rowsTo_step (d := d) (k := k) (x := x) h, fun h => rowsTo_end d (k := k) h, rowsTo_len d k⟩ : (∀ x, d.kids[k]? = some x → (rowsTo d k).length + (rowsD x).length ≤ (rowsD d).length) ∧ (∀ x, d.kids[k]? = some x → rowsTo d (k + 1) = rowsTo d k ++ rowsD x) ∧ (d.kids.length ≤ k → rowsTo d k = rowsD d) ∧ (rowsTo d k).length ≤ (rowsD d).length))
    have HP0 : Hid (rowsTo d 0 = [bareD d]) := by show _ = _; simp [rowsTo]
    have HQ := Lib.hid (show ∀ r w', RowsP w0 d w r w' ↔ ∃ A c xs, r = .returned (.slice A (rowsD d).length c) ∧ w'.ownsRow w.heap.size 71 3 (.slice A (rowsD d).length c) (rowsD d).length xs ∧ KCells (DRd 1 w0) xs (rowsD d) ∧ Below w.heap.size w w' from fun _ _ => Iff.rfl)
    have HC0 := Lib.hid hw
    clear hk hv htb hbare hw
    generalize RowsP w0 d w = RP at HQ ⊢
    generalize hPF : rowsTo d = PF at HPT HP0
    generalize hPD : rowsD d = PD at HPT hL HQ
    clear hPF hPD
    generalize bareD d = bd at HBR HP0
    generalize d.tb = tb at HBR ⊢
    generalize d.row.length = rl at HBR ⊢
    generalize d.kids = ks at HK HPT hlen ⊢
    go_enter Tryd.func52, Tryd.ntmps52
    go_upto_region 2 with fail
    have hA : (w.alloc (.cells #[.int .i64 tb, .slice A rl ca, .slice K ks.length ck] 71)).heap.size = w.heap.size + 1 := by simp
    have h1 : Blk ((w.alloc (.cells #[.int .i64 tb, .slice A rl ca, .slice K ks.length ck] 71)).alloc (.cells #[.int .i64 tb, .slice A rl ca, .slice none 0 0] 71)) w.heap.size #[.int .i64 tb, .slice A rl ca, .slice K ks.length ck] 71 := (by repeat (first | exact Blk.at (by simp) | assumption | refine Blk.drew ?_ | refine Blk.old ?_ _))
    have h2 : ((w.alloc (.cells #[.int .i64 tb, .slice A rl ca, .slice K ks.length ck] 71)).alloc (.cells #[.int .i64 tb, .slice A rl ca, .slice none 0 0] 71)).ownsRow (w.heap.size + 1) 71 3 (.slice (some ⟨w.heap.size + 1, 0, none⟩) 1 1) 1 [.int .i64 tb, .slice A rl ca, .slice none 0 0] := ⟨rfl, Or.inr ⟨w.heap.size + 1, 1, #[.int .i64 tb, .slice A rl ca, .slice none 0 0], rfl, by omega, ((by repeat (first | exact Blk.at (by simp) | assumption | refine Blk.drew ?_ | refine Blk.old ?_ _)) : Blk _ (w.heap.size + 1) #[.int .i64 tb, .slice A rl ca, .slice none 0 0] 71), by omega, by decide, rfl, rfl⟩⟩
    have hC : Below w.heap.size w ((w.alloc (.cells #[.int .i64 tb, .slice A rl ca, .slice K ks.length ck] 71)).alloc (.cells #[.int .i64 tb, .slice A rl ca, .slice none 0 0] 71)) := (by repeat (first | exact Below.refl _ _ | assumption | refine Below.drew ?_ | refine below_drewN ?_ _ | refine Below.alloc ?_ (by simp <;> omega) _))
    have h3 : w.heap.size + 1 ≤ ((w.alloc (.cells #[.int .i64 tb, .slice A rl ca, .slice K ks.length ck] 71)).alloc (.cells #[.int .i64 tb, .slice A rl ca, .slice none 0 0] 71)).heap.size := by simp
    have HB := Lib.hid h1
    have HO := Lib.hid h2
    have HC := Lib.hid hC
    have HKC : Hid (KCells (DRd 1 w0) [.int .i64 tb, .slice A rl ca, .slice none 0 0] (PF 0)) := by show KCells _ _ _; rw [HP0.out]; exact KCells.one HBR.out
    have HL0 : Hid ((PF 0).length = 1) := by show _ = _; rw [HP0.out]; rfl
    clear h1 h2 hC hA
    generalize ((w.alloc (.cells #[.int .i64 tb, .slice A rl ca, .slice K ks.length ck] 71)).alloc (.cells #[.int .i64 tb, .slice A rl ca, .slice none 0 0] 71)) = W1 at HB HO HC h3 ⊢
    have hbx : w.heap.size < w.heap.size + 1 := by omega
    have hw0 := HC0.out.size
    generalize hb1 : w.heap.size + 1 = b1 at HO hbx h3 ⊢
    generalize hbe : w.heap.size = bx at HB hbx ⊢
    have HE := Lib.hid hbe
    have HE1 := Lib.hid (show w.heap.size ≤ b1 by omega)
    clear hbe hb1
    go_wp2_with fail
    go_loopw [3, 4] (fun o i wr => ∃ (k : Nat) (Av : Option Addr) (cv : Nat) (xs : List Value), k ≤ ks.length ∧ i = .int .i64 k ∧ o = .slice Av (PF k).length cv ∧ Hid (wr.ownsRow b1 71 3 (.slice Av (PF k).length cv) (PF k).length xs) ∧ Hid (KCells (DRd 1 w0) xs (PF k)) ∧ Below b1 W1 wr) (fun _ i _ => ks.length - (intOf i).toNat)
    case atStart => exact ⟨0, some ⟨b1, 0, none⟩, 1, _, by omega, rfl, by rw [HL0.out], by rw [HL0.out]; exact HO.out, HKC.out, Below.refl _ _⟩
    case round =>
      obtain ⟨k, Av, cv, xs, hk1, rfl, rfl, HO, HX, hbw⟩ := hrel
      have hB : Blk wr bx #[.int .i64 tb, .slice A rl ca, .slice K ks.length ck] 71 := (below_block hbw hbx).trans HB.out
      obtain ⟨lb, _, _, d2⟩ := blk3 hB
      have hw0r : Below w0.heap.size w0 wr := HC0.out.trans ((HC.out.mono hw0).trans (hbw.mono (by have := HE1.out; omega)))
      have hszr : b1 ≤ wr.heap.size := Nat.le_trans h3 hbw.size
      clear hB
      by_cases hlt : k < ks.length
      · obtain ⟨b, off, x, Ax, cax, Kx, ckx, rfl, hb, hx1, e0, e1, e2, hx⟩ := (HK.out.ext hw0r (fun v k h => h)).kidw hlt
        have hkl := (HPT.out k).1 x hx1
        have hst := (HPT.out k).2.1 x hx1
        have HI := Lib.hid (IH.out _ x wr hx hw0r (by omega))
        have HST := Lib.hid hst
        have HW := Lib.hid hbw
        clear hx hbw hx1 hst hw0r
        go_wp2_with fail
        refine HI.out.mono ?_
        rintro r w4 ⟨A4, c4, xs4, rfl, hown4, hkc4, hb4⟩
        obtain ⟨g4, rfl⟩ := own_some hown4 (rows_pos x)
        have hp := rows_pos x
        have HOWN := Lib.hid (own_below HO.out hb4)
        have HCE := Lib.hid (hown4.cells (g := g4) rfl)
        have HKC4 := Lib.hid hkc4
        have hl4 := hown4.1
        have HL4 := Lib.hid hl4
        have HW4 : Hid (Below b1 W1 w4) := HW.out.trans (hb4.mono hszr)
        have hsz4 : b1 ≤ w4.heap.size := Nat.le_trans hszr hb4.size
        clear hown4 hkc4 hb4 HW e0 e1 e2 hb lb d2 HI hl4
        go_wp2_with (at_builtin; refine wpList_append_fresh _ rfl _ _ 69 rfl b1 71 i0 _ 3 56 Tryd.underlying69 hi0 hz0 hz1 hz2 rfl (by decide) (.slice Av (PF k).length cv) (PF k).length xs rfl HOWN.out ⟨g4, 0, none⟩ (rowsD x).length c4 xs4 rfl HL4.out HCE.out (KCells.oneCell HKC4.out) ?b1 ?b2 ?b3 ?_)
        case b1 => simp only [maxLen]; omega
        case b2 => omega
        case b3 => exact hsz4
        intro v5 w5 hown5 hg5 hfr
        rw [← List.length_append, ← HST.out] at hown5
        obtain ⟨A5, c5, rfl⟩ := own_form' hown5
        have HKO := Lib.hid (by rw [HST.out]; exact KCells.app HX.out HKC4.out : KCells (DRd 1 w0) (xs ++ xs4) (PF (k + 1)))
        have HO5 := Lib.hid hown5
        have HW5 := Lib.hid (HW4.out.grown hg5 hsz4 (fun g hg => (HOWN.out.lt g hg).1))
        clear hown5 hg5 hfr
        go_wp2_with fail
        go_roundw
        case rel => exact ⟨k + 1, A5, c5, _, by omega, by go_num, rfl, HO5.out, HKO.out, HW5.out⟩
        case measure => simp [intOf]; omega
      · have hend := (HPT.out k).2.2.1 (by omega)
        have hob := HO.out
        have hxk := HX.out
        rw [hend] at hob hxk
        have HF : Hid (RP (.returned (.slice Av (PF k).length cv)) wr) := by
          show RP _ _
          rw [HQ.out, hend]
          exact ⟨Av, cv, xs, rfl, own_weak hob HE1.out, hxk, HC.out.trans (hbw.mono HE1.out)⟩
        clear hend hob hxk hbw hw0r
        go_wp2_with fail
        exact HF.out
end Go.Proofs.YtjdfodmialhakaaDoor
