/- Texts joined by a tool: contracts and walks of this claim. -/
import Derived.Test.YtceoficoappkpaaGreatDoorB32
import Derived.RegionIn
namespace Go.Proofs.YtceoficoappkpaaGreatDoor
open Go.RowKit Go.Shelf
attribute [local go_sem] Oper.semAt_some

theorem cat_M : (⟨#[115]⟩ : ByteArray) ++ ⟨#[46, 109, 97, 110]⟩ = ⟨#[115, 46, 109, 97, 110]⟩ := rfl
instance decOkC (n : Nat) : Decidable (okC n) := by unfold okC; infer_instance
theorem nmOk_of {l : List UInt8} (h1 : 1 ≤ l.length) (h2 : l.length ≤ 64) (h3 : l.all (fun c => decide (okC c.toNat)) = true) : NmOk ⟨l.toArray⟩ := by
 refine ⟨by show 1 ≤ l.toArray.size; simpa using h1, by show l.toArray.size ≤ 64; simpa using h2, fun i hi => ?_⟩
 have hi' : i < l.length := by
  have : (ByteArray.mk l.toArray).size = l.length := by show l.toArray.size = _; simp
  omega
 exact of_decide_eq_true (List.all_eq_true.1 h3 l[i] (List.getElem_mem hi'))
theorem nmOk_M : NmOk ⟨#[115, 46, 109, 97, 110]⟩ := nmOk_of (l := [115, 46, 109, 97, 110]) (by decide) (by decide) (by decide)
theorem nmOk_B : NmOk ⟨#[115, 46, 109, 97, 110, 46, 110, 101, 119]⟩ := nmOk_of (l := [115, 46, 109, 97, 110, 46, 110, 101, 119]) (by decide) (by decide) (by decide)
theorem DkW.neF {w : World} {d F b : Nat} {u lo : Value} {ks : List ByteArray} {sz : ByteArray → Nat} {cs : Array Value} {t : TypeId} (h : DkW w d F u lo ks sz) (hb : Blk w b cs t) : b ≠ F := fun e => by
 have h1 := hb
 rw [e] at h1
 exact h.files.no_cells _ _ _ h1
theorem neq_BM : ((⟨#[115, 46, 109, 97, 110, 46, 110, 101, 119]⟩ : ByteArray).toList == (⟨#[115, 46, 109, 97, 110]⟩ : ByteArray).toList) = false := by
 rw [Lib.toList_data, Lib.toList_data]; decide
def KvC (d km : Nat) (m0 m2 : Int) (wl : Value) : Array Value := #[.pointer (some ⟨d, 0, none⟩), .string ⟨#[115]⟩, .int .u64 m0, .slice none 0 0, .int .u64 m2, wl, .pointer (some ⟨km, 0, none⟩), .slice none 0 0, .int .i64 0]
theorem blk9f {w : World} {b : Nat} {a0 a1 a2 a3 a4 a5 a6 a7 a8 : Value} {t : TypeId} (h : Blk w b #[a0, a1, a2, a3, a4, a5, a6, a7, a8] t) : b < w.heap.size ∧ w.cell? ⟨b, 0, none⟩ = some a0 ∧ w.cell? ⟨b, 1, none⟩ = some a1 ∧ w.cell? ⟨b, 2, none⟩ = some a2 ∧ w.cell? ⟨b, 3, none⟩ = some a3 ∧ w.cell? ⟨b, 4, none⟩ = some a4 ∧ w.cell? ⟨b, 5, none⟩ = some a5 ∧ w.cell? ⟨b, 6, none⟩ = some a6 ∧ w.cell? ⟨b, 7, none⟩ = some a7 ∧ w.cell? ⟨b, 8, none⟩ = some a8 ∧ ∀ i, w.frozen? ⟨b, i, none⟩ = false := ⟨h.lt, h.cell 0, h.cell 1, h.cell 2, h.cell 3, h.cell 4, h.cell 5, h.cell 6, h.cell 7, h.cell 8, fun i => h.frozen i⟩
theorem kman_any (kk d km : Nat) (m0 m2 : Int) (wl : Value) (w : World) (h : Blk w kk (KvC d km m0 m2 wl) 145) :
  Calls Tryz.prog 145 #[.pointer (some ⟨kk, 0, none⟩)] w fun r w' => r = .returned (.string ⟨#[115, 46, 109, 97, 110]⟩) ∧ w' = w := by
 obtain ⟨l, c0, c1, _⟩ := blk9f h
 have hz : (ByteArray.mk #[115]).size = 1 := rfl
 have hc := cat_M
 go_enter Tryz.func145, Tryz.ntmps145
 go_wp2_with fail
 go_ret
 exact ⟨rfl, rfl⟩
set_option maxRecDepth 100000 in
set_option maxHeartbeats 1600000 in
theorem load_any (kk d km F : Nat) (u : Value) (wl : Value) (sz : ByteArray → Nat) (w : World) (h : Blk w kk (KvC d km 0 0 wl) 145) (hd : DkW w d F u (.slice none 0 0) [] sz) :
  Calls Tryz.prog 103 #[.pointer (some ⟨kk, 0, none⟩)] w fun r w' => r = .returned (.int .i64 0) ∧ (∃ u' sz', DkW w' d F u' (.slice none 0 0) [⟨#[115, 46, 109, 97, 110]⟩] sz') ∧ Blk w' kk (KvC d km 1 2 wl) 145 ∧ Chg [kk, d, F] w w' := by
 have HH := hd_ h
 have HD := hd_ hd
 obtain ⟨l, c0, c1, c2, c3, c4, c5, c6, c7, c8, cf⟩ := blk9f h
 clear h hd
 go_enter Tryz.func103, Tryz.ntmps103
 go_upto_region 1 with fail
 let Iv : Nat → Unit → World → Prop := fun k _ W => match k with
  | 0 => W = w.drew
  | _ => Below w.heap.size w W
 refine region_phase (Iv) (fun _ _ _ => True) (()) (fun _ => [.pointer (some ⟨kk, 0, none⟩), .pointer (some ⟨kk, 0, none⟩), .pointer (some ⟨kk, 0, none⟩), .pointer (some ⟨kk, 0, none⟩), .pointer (some ⟨d, 0, none⟩), .pointer (some ⟨kk, 0, none⟩), .string ⟨#[115, 46, 109, 97, 110]⟩, .tuple #[.agg #[.int .u64 0, .slice none 0 0, .int .u64 0], .int .i64 3], .tuple #[.agg #[.int .u64 0, .slice none 0 0, .int .u64 0], .int .i64 3], .agg #[.int .u64 0, .slice none 0 0, .int .u64 0], .int .i64 3, .pointer (some ⟨kk, 0, none⟩), .pointer (some ⟨kk, 2, none⟩), undef, .int .i64 3]) [7, 13] [(0, 1), (0, 0), (0, 0), (0, 0), (0, 0), (0, 0), (0, 0), (0, 2), (1, 1), (1, 1), (1, 2), (1, 1), (1, 1), (0, 2), (2, 2)] [false, false, true, true, true, true, true, true, true, true, true, true, true, true, true, true, false, false, false, false, false, false, false, false, false, false, false, false, false, false, false, false, false, false] [4, 5, 6, 7, 8, 9, 10, 11, 3, 12, 13, 14, 15, 0, 2] [14] rfl (fun _ => rfl) (fun _ _ _ _ _ _ _ _ _ => rfl) (by kernel_rfl) (by kernel_rfl) (by kernel_rfl) (by decide) (by kernel_rfl) (by kernel_rfl) (by kernel_rfl) (by kernel_rfl) (by kernel_rfl) ⟨PhStep.pure rfl ?_, PhStep.pure rfl ?_, PhStep.pure rfl ?_, PhStep.pure rfl ?_, PhStep.pure rfl ?_, PhStep.pure rfl ?_, PhStep.pure rfl ?_, PhStep.chain 0 rfl ?c1_7, PhStep.pure rfl ?_, PhStep.pure rfl ?_, PhStep.pure rfl ?_, PhStep.pure rfl ?_, PhStep.pure rfl ?_, PhStep.chain 1 rfl ?c1_13, PhStep.pure rfl ?_, trivial⟩ ?done1
 case done1 =>
  intro g x W hiv
  have hW : Below w.heap.size w W := hiv
  simp only [StepGoal, List.map_cons, List.map_nil, overlay, upd, cond_true, cond_false, List.getD_cons_zero, List.getD_cons_succ, Nat.zero_add, Nat.reduceAdd, Nat.reduceEqDiff, reduceIte]
  clear hiv Iv l c0 c1 c2 c3 c4 c5 c6 c7 c8 cf
  have HK := hd_ (HH.out.ext hW)
  have HDW := hd_ (HD.out.ext hW)
  have HW := hd_ hW
  obtain ⟨w3, rfl, l3⟩ := blk_put (HH.out.ext hW)
  obtain ⟨pc, pf, pS⟩ := putBlk_facts (w := w3) 145 l3
  clear hW HH HD
  unfold KvC at *
  go_upto_region 4 with fail
  have h4 : Blk (putBlk w3 kk #[.pointer (some ⟨d, 0, none⟩), .string ⟨#[115]⟩, .int .u64 1, .slice none 0 0, .int .u64 2, wl, .pointer (some ⟨km, 0, none⟩), .slice none 0 0, .int .i64 0] 145) kk #[.pointer (some ⟨d, 0, none⟩), .string ⟨#[115]⟩, .int .u64 1, .slice none 0 0, .int .u64 2, wl, .pointer (some ⟨km, 0, none⟩), .slice none 0 0, .int .i64 0] 145 := putBlk_blk _ _ l3
  have hnd : kk ≠ d := blk_nt HK.out HDW.out.b (by decide)
  have hnF : kk ≠ F := HDW.out.neF HK.out
  have hk4 : Chg [kk] (putBlk w3 kk #[.pointer (some ⟨d, 0, none⟩), .string ⟨#[115]⟩, .int .u64 0, .slice none 0 0, .int .u64 0, wl, .pointer (some ⟨km, 0, none⟩), .slice none 0 0, .int .i64 0] 145) (putBlk w3 kk #[.pointer (some ⟨d, 0, none⟩), .string ⟨#[115]⟩, .int .u64 1, .slice none 0 0, .int .u64 2, wl, .pointer (some ⟨km, 0, none⟩), .slice none 0 0, .int .i64 0] 145) := chg_put0
  have hd4 := HDW.out.chg hk4 (by simpa using Ne.symm hnd) (by simpa using Ne.symm hnF)
  have HC4 := hd_ (chg_tr (chg_mono (Chg.of_below (S := []) HW.out) (by simp) : Chg [kk, d, F] _ _) (chg_mono hk4 (by simp)))
  clear hk4 HK HDW HW pc pf pS
  generalize (putBlk w3 kk #[.pointer (some ⟨d, 0, none⟩), .string ⟨#[115]⟩, .int .u64 1, .slice none 0 0, .int .u64 2, wl, .pointer (some ⟨km, 0, none⟩), .slice none 0 0, .int .i64 0] 145) = W4 at h4 hd4 HC4 ⊢
  have H4 := hd_ h4
  have HD4 := hd_ hd4
  clear h4 hd4 l3
  let Iv : Nat → Unit → World → Prop := fun k _ W => match k with
   | 0 => W = W4.drew
   | _ => (∃ u' sz', DkW W d F u' (.slice none 0 0) [⟨#[115, 46, 109, 97, 110]⟩] sz') ∧ Chg [d, F] W4 W
  refine region_phase (Iv) (fun _ _ _ => True) (()) (fun _ => [.pointer (some ⟨kk, 0, none⟩), .pointer (some ⟨kk, 0, none⟩), .pointer (some ⟨kk, 0, none⟩), .pointer (some ⟨d, 0, none⟩), .pointer (some ⟨kk, 0, none⟩), .string ⟨#[115, 46, 109, 97, 110]⟩, .pointer (some ⟨kk, 0, none⟩), .pointer (some ⟨kk, 0, none⟩), .pointer (some ⟨kk, 2, none⟩), .agg #[.int .u64 1, .slice none 0 0, .int .u64 2], .int .i64 0, .int .i64 0]) [10] [(0, 0), (0, 0), (0, 0), (0, 0), (0, 0), (0, 0), (0, 0), (0, 0), (0, 0), (0, 0), (0, 1), (1, 1)] [false, false, true, false, false, false, false, false, false, false, false, false, false, false, false, false, false, false, false, false, false, false, true, true, true, true, true, true, true, true, true, true, true, false] [22, 23, 24, 25, 26, 27, 28, 29, 30, 31, 32, 2] [11] rfl (fun _ => rfl) (fun _ _ _ _ _ _ _ _ _ => rfl) (by kernel_rfl) (by kernel_rfl) (by kernel_rfl) (by decide) (by kernel_rfl) (by kernel_rfl) (by kernel_rfl) (by kernel_rfl) (by kernel_rfl) ⟨PhStep.pure rfl ?_, PhStep.pure rfl ?_, PhStep.pure rfl ?_, PhStep.pure rfl ?_, PhStep.pure rfl ?_, PhStep.pure rfl ?_, PhStep.pure rfl ?_, PhStep.pure rfl ?_, PhStep.pure rfl ?_, PhStep.pure rfl ?_, PhStep.chain 0 rfl ?c4_10, PhStep.pure rfl ?_, trivial⟩ ?done4
  case done4 =>
   intro g x W hiv
   have hW : (∃ u' sz', DkW W d F u' (.slice none 0 0) [⟨#[115, 46, 109, 97, 110]⟩] sz') ∧ Chg [d, F] W4 W := hiv
   simp only [StepGoal, List.map_cons, List.map_nil, overlay, upd, cond_true, cond_false, List.getD_cons_zero, List.getD_cons_succ, Nat.zero_add, Nat.reduceAdd, Nat.reduceEqDiff, reduceIte]
   clear hiv Iv
   have hkW := HD4.out.box H4.out (by decide) hW.2
   have HWW := hd_ hW
   clear hW
   go_wp2_with fail
   go_ret
   exact ⟨rfl, HWW.out.1, hkW, chg_tr HC4.out (chg_mono HWW.out.2 (by simp))⟩
  case c4_10 =>
   intro g x W1 hiv
   have hW1 : W1 = W4.drew := hiv
   subst hW1
   intro K hK
   rw [if_pos (by rfl)]; simp only [overlay, upd, cond_true, cond_false, List.getD_cons_zero, List.getD_cons_succ, Nat.reduceEqDiff, reduceIte]
   go_simp
   refine (save_any d F u sz ⟨#[115, 46, 109, 97, 110]⟩ ⟨#[115, 46, 109, 97, 110, 46, 110, 101, 119]⟩ nmOk_M nmOk_B rfl (by decide) neq_BM W4.drew (HD4.out.ext (by repeat (first | exact Below.refl _ _ | assumption | refine Below.drew ?_ | refine below_drewN ?_ _ | refine Below.alloc ?_ (by simp <;> omega) _)))).mono ?_
   rintro e W' ⟨rfl, h1, h2⟩
   exact hK.out _ _ () ⟨h1, ⟨h2.os, h2.tape, h2.output, h2.size, h2.block⟩⟩ trivial rfl
  all_goals
   intro q hk1 hk2 g x W1 hiv
   intro K hK
   first
    | (rw [if_pos (by rfl)]; simp only [overlay, upd, cond_true, cond_false, List.getD_cons_zero, List.getD_cons_succ, Nat.reduceEqDiff, reduceIte]
       go_simp
       exact hK.out _ _ _ hiv rfl rfl)
    | (rw [if_pos (by rfl)]; simp only [overlay, cond_true, cond_false]
       go_simp
       exact hK.out _ _ _ hiv rfl rfl)
    | (obtain rfl : q = 0 := by simp at hk2; omega
       have hX : Below W4.heap.size W4 W1 := by
        have h : W1 = W4.drew := hiv
        rw [h]; exact (by repeat (first | exact Below.refl _ _ | assumption | refine Below.drew ?_ | refine below_drewN ?_ _ | refine Below.alloc ?_ (by simp <;> omega) _))
       obtain ⟨lq, e0, e1, e2, e3, e4, e5, e6, e7, e8, ef⟩ := blk9f (H4.out.ext hX)
       rw [if_pos (by rfl)]; simp only [overlay, upd, cond_true, cond_false, List.getD_cons_zero, List.getD_cons_succ, Nat.reduceEqDiff, reduceIte]
       go_simp
       first
        | exact hK.out _ _ _ hiv rfl rfl
        | (refine (kman_any kk d km 1 2 wl W1 (H4.out.ext hX)).mono ?_
           rintro e W' ⟨rfl, rfl⟩
           exact hK.out _ _ _ hiv rfl rfl))
 case c1_7 =>
  intro g x W1 hiv
  have hW1 : W1 = w.drew := hiv
  subst hW1
  intro K hK
  rw [if_pos (by rfl)]; simp only [overlay, upd, cond_true, cond_false, List.getD_cons_zero, List.getD_cons_succ, Nat.reduceEqDiff, reduceIte]
  go_simp
  refine (mload_none d F u (.slice none 0 0) [] sz ⟨#[115, 46, 109, 97, 110]⟩ nmOk_M (by simp) w.drew (HD.out.ext (by repeat (first | exact Below.refl _ _ | assumption | refine Below.drew ?_ | refine below_drewN ?_ _ | refine Below.alloc ?_ (by simp <;> omega) _)))).mono ?_
  rintro e W' ⟨rfl, h1⟩
  exact hK.out _ _ () (⟨h1.os, h1.tape, h1.output, h1.size, h1.block⟩ : Below w.heap.size w W') trivial rfl
 case c1_13 =>
  intro g x W1 hiv
  have hX : Below w.heap.size w W1 := hiv
  intro K hK
  obtain ⟨w5, rfl, l5⟩ := blk_put (HH.out.ext hX)
  obtain ⟨pc5, pf5, pS5⟩ := putBlk_facts (w := w5) 145 l5
  unfold KvC at *
  rw [if_pos (by rfl)]; simp only [overlay, upd, cond_true, cond_false, List.getD_cons_zero, List.getD_cons_succ, Nat.reduceEqDiff, reduceIte]
  go_simp
  exact hK.out _ _ () hX trivial rfl
 all_goals
  intro q hk1 hk2 g x W1 hiv
  intro K hK
  first
   | (rw [if_pos (by rfl)]; simp only [overlay, upd, cond_true, cond_false, List.getD_cons_zero, List.getD_cons_succ, Nat.reduceEqDiff, reduceIte]
      go_simp
      exact hK.out _ _ _ hiv rfl rfl)
   | (rw [if_pos (by rfl)]; simp only [overlay, cond_true, cond_false]
      go_simp
      exact hK.out _ _ _ hiv rfl rfl)
   | (have hX : Below w.heap.size w W1 := by
       have hq : q = 0 ∨ 0 < q := by omega
       rcases hq with rfl | hq
       · have h : W1 = w.drew := hiv
         rw [h]; exact (by repeat (first | exact Below.refl _ _ | assumption | refine Below.drew ?_ | refine below_drewN ?_ _ | refine Below.alloc ?_ (by simp <;> omega) _))
       · match q, hq, hiv with
         | q + 1, _, hiv => exact hiv
      obtain ⟨lq, e0, e1, e2, e3, e4, e5, e6, e7, e8, ef⟩ := blk9f (HH.out.ext hX)
      rw [if_pos (by rfl)]; simp only [overlay, upd, cond_true, cond_false, List.getD_cons_zero, List.getD_cons_succ, Nat.reduceEqDiff, reduceIte]
      go_simp
      first
       | exact hK.out _ _ _ hiv rfl rfl
       | (refine (kman_any kk d km 0 0 wl W1 (HH.out.ext hX)).mono ?_
          rintro e W' ⟨rfl, rfl⟩
          exact hK.out _ _ _ hiv rfl rfl))
end Go.Proofs.YtceoficoappkpaaGreatDoor
namespace Go.Proofs.YtceoficoappkpaaGreatDoor
open Go.RowKit Go.Maps Go.Sort Go.Shelf
attribute [local go_sem] Oper.semAt_some

theorem sortsM (m : Nat) : AnyZ.SortsIn Tryz.prog Tryz.sortedM_ren Fence.wide m :=
 ⟨fun blk off cap ss W hH hblk hsz => callsIn_wide.2 (AnyM.slices_Sort_string Tryz.sortM blk off cap ss W hH hblk hsz),
  fun p cap W => callsIn_wide.2 (AnyM.slices_Sort_string_none Tryz.sortM p cap W)⟩
theorem maps_KeysM (mb : Option Nat) (W : World) : CallsIn Fence.wide 5 Tryz.prog 190 #[.map mb] W fun e w' => e = .returned (.func (.func 231) #[] #[.pointer (some ⟨W.heap.size, 0, none⟩)]) ∧ w' = W.alloc (.cells #[.map mb] 181) :=
 AnyZ.keys_in Tryz.keysM Fence.wide 5 trivial rfl mb W
set_option maxHeartbeats 1000000 in
theorem sorted_keysM {H : Type} (b nn : Nat) (D0 : DataW H) (R : Value → Option (DataW H × List MemPlace)) (w : World) (hown : w.ownsMap Tryz.prog 9 R b nn D0) (hmax : Maps.size D0 ≤ maxLen) (hbytes : Maps.size D0 * 16 ≤ 140737488355328) :
  CallsIn Fence.wide 5 Tryz.prog 189 #[.func (.func 231) #[] #[.pointer (some ⟨w.heap.size, 0, none⟩)]] (w.alloc (.cells #[.map (some b)] 181)) fun e w' => ∃ (v : Value) (ss : List (List UInt8)), e = .returned v ∧ ss.Perm (strKeys D0) ∧
   w'.ownsRow (w.alloc (.cells #[.map (some b)] 181)).heap.size 9 1 v ss.length ((ss.mergeSort (fun x y => decide (x ≤ y))).map encStr) ∧ (v = .slice none 0 0 ↔ ss = []) ∧ Below (w.alloc (.cells #[.map (some b)] 181)).heap.size (w.alloc (.cells #[.map (some b)] 181)) w' := by
 have hbl := hown.lt
 have hseq : SeqGives Fence.wide 2 Tryz.prog 231 #[.pointer (some ⟨w.heap.size, 0, none⟩)] encStr (fun ss => ss.Perm (strKeys D0)) (Maps.size D0) (w.alloc (.cells #[.map (some b)] 181)) :=
  AnyZ.keys_gives (ρ := Tryz.keysM_ren) { Tryz.keysM with } Fence.wide _ trivial rfl (by omega) w.heap.size b nn D0 _ (by simp) (by simp) (by
   obtain ⟨es, clock, hb, Ft, hs, hD⟩ := hown
   exact ⟨es, clock, (Below.heap_alloc _ _ b hbl).trans hb, Ft, hs, hD⟩)
 exact AnyZ.sorted_in Tryz.sortedM Fence.wide 5 trivial trivial trivial trivial rfl (by omega) (sortsM _) (enters_of Tryz.func230 (by kernel_rfl) rfl) 231 #[.pointer (some ⟨w.heap.size, 0, none⟩)] trivial (enters_of Tryz.func231 (by kernel_rfl) rfl) _ _ hmax hbytes _ hseq
set_option maxRecDepth 100000 in
set_option maxHeartbeats 800000 in
theorem names_one (d F : Nat) (u lo : Value) (sz : ByteArray → Nat) (s : ByteArray) (w : World) (hd : DkW w d F u lo [s] sz) :
  Calls Tryz.prog 147 #[.pointer (some ⟨d, 0, none⟩)] w fun r w' => (∃ g c, r = .returned (.slice (some ⟨g, 0, none⟩) 1 c) ∧ g < w'.heap.size ∧ w'.cell? ⟨g, 0, none⟩ = some (.string s)) ∧ Below w.heap.size w w' := by
 obtain ⟨D, hown, hsz, hhas, _⟩ := hd.files.map
 have hks : strKeys D = [s.data.toList] := by
  obtain ⟨es, clock, hb, Ft, hs, hD⟩ := hown
  subst hD
  have h1 := (hhas (kS s)).2 ⟨s, by simp, rfl⟩
  unfold Maps.has at h1
  unfold Maps.size at hsz
  unfold strKeys
  simp only [List.length_cons, List.length_nil, Nat.zero_add] at hsz
  revert h1 hsz
  generalize (List.foldr DataW.insert [] (List.map (Go.WideElems.rg Tryz.prog 9 HV) es.toList)) = l
  intro h1 hsz
  match l, hsz with
  | [p], _ =>
   simp only [List.any_cons, List.any_nil, Bool.or_false] at h1
   have h2 : p.1 = kS s := WideAt.sameKey_eq h1
   show [strOf p.1] = _
   rw [h2]
   rfl
 have HK := hd_ (maps_KeysM (some F) w)
 have HS := hd_ (sorted_keysM F _ D HV w hown (by rw [hsz]; show 1 ≤ maxLen; decide) (by rw [hsz]; show 1 * 16 ≤ _; decide))
 rw [hks] at HS
 obtain ⟨ld, d0, d1, d2, d3, d4, d5, df⟩ := blk6f hd.b
 clear hd hown hsz hhas hks
 refine callsIn_wide (n := 6) |>.1 ?_
 have hfK : Fence.wide.fn 190 := trivial
 have hfS : Fence.wide.fn 189 := trivial
 refine callsIn_of_wp Tryz.func147 rfl trivial ?_ rfl
 simp only [Tryz.ntmps147, List.size_toArray, List.length_cons, List.length_nil, Nat.reduceAdd, Nat.reduceSub, Array.replicate_succ, Array.replicate_zero, List.push_toArray, List.append_toArray, List.nil_append, List.cons_append]
 gi_wp2_with (first
  | (gi_at_call 190; refine HK.out.mono ?_; rintro e w' ⟨rfl, rfl⟩)
  | (gi_at_call 189; refine HS.out.mono ?_; rintro e w' ⟨v, ss, rfl, hS, hrow, hnil, hb⟩))
 go_ret
 have hss : ss = [s.data.toList] := List.perm_singleton.1 hS
 subst hss
 simp only [List.mergeSort_singleton, List.map_cons, List.map_nil, List.length_cons, List.length_nil, Nat.zero_add] at hrow
 obtain ⟨g, c, rfl, _⟩ := hrow.form (by omega)
 have h0 := hrow.cellAt 0 (by decide)
 exact ⟨⟨g, c, rfl, (hrow.lt g rfl).2, by simpa [encStr] using h0⟩, bt ((by repeat (first | exact Below.refl _ _ | assumption | refine Below.drew ?_ | refine below_drewN ?_ _ | refine Below.alloc ?_ (by simp <;> omega) _))) hb⟩
end Go.Proofs.YtceoficoappkpaaGreatDoor
namespace Go.Proofs.YtceoficoappkpaaGreatDoor
open Go.RowKit Go.Shelf
attribute [local go_sem] Oper.semAt_some

theorem cat_B : (⟨#[115, 46, 109, 97, 110]⟩ : ByteArray) ++ ⟨#[46, 110, 101, 119]⟩ = ⟨#[115, 46, 109, 97, 110, 46, 110, 101, 119]⟩ := rfl
theorem cat_D : (⟨#[115]⟩ : ByteArray) ++ ⟨#[46]⟩ = ⟨#[115, 46]⟩ := rfl
theorem neq_MB : ((⟨#[115, 46, 109, 97, 110]⟩ : ByteArray).toList == (⟨#[115, 46, 109, 97, 110, 46, 110, 101, 119]⟩ : ByteArray).toList) = false := by
 rw [Lib.toList_data, Lib.toList_data]; decide
set_option maxRecDepth 100000 in
set_option maxHeartbeats 800000 in
theorem stray_any (kk d km : Nat) (m0 m2 : Int) (wl : Value) (w : World) (h : Blk w kk (KvC d km m0 m2 wl) 145) (hL : LayX w) :
  Calls Tryz.prog 148 #[.pointer (some ⟨kk, 0, none⟩), .string ⟨#[115, 46, 109, 97, 110]⟩] w fun r w' => r = .returned (.bool false) ∧ Below w.heap.size w w' := by
 obtain ⟨l, c0, c1, _⟩ := blk9f h
 have HM := hd_ (kman_any kk d km m0 m2 wl w h)
 have HP : Hid (∀ W : World, Calls Tryz.prog 191 #[.string ⟨#[115, 46, 109, 97, 110]⟩, .string ⟨#[115, 46]⟩] W fun e w' => e = .returned (.tuple #[.string ⟨#[109, 97, 110]⟩, .bool true]) ∧ w' = W) := fun W => Tryz.strings_CutPrefix ⟨#[115, 46, 109, 97, 110]⟩ ⟨#[115, 46]⟩ W
 have HC : Hid (∀ W : World, LayX W → Calls Tryz.prog 192 #[.string ⟨#[109, 97, 110]⟩, .string ⟨#[46]⟩] W fun e w' => e = .returned (.tuple #[.string ⟨#[109, 97, 110]⟩, .string ⟨#[]⟩, .bool false]) ∧ Below W.heap.size W w') := by
  rintro W ⟨_, _, m, hm⟩
  refine (Tryz.strings_Cut ⟨#[109, 97, 110]⟩ ⟨#[46]⟩ m W (by decide) hm).mono ?_
  rintro e w' ⟨rfl, n, rfl⟩
  exact ⟨rfl, (by repeat (first | exact Below.refl _ _ | assumption | refine Below.drew ?_ | refine below_drewN ?_ _ | refine Below.alloc ?_ (by simp <;> omega) _))⟩
 have HU : Hid (∀ W : World, Calls Tryz.prog 193 #[.string ⟨#[]⟩] W fun e w' => e = .returned (.tuple #[.int .u64 0, .int .i64 2]) ∧ Below W.heap.size W w') := fun W => unhex_any ⟨#[]⟩ W
 have HL := hd_ hL
 have hb := cat_B
 have hq := neq_MB
 have hd := cat_D
 clear h hL
 have z1 : (ByteArray.mk #[115]).size = 1 := rfl
 have z2 : (ByteArray.mk #[115, 46, 109, 97, 110]).size = 5 := rfl
 go_enter Tryz.func148, Tryz.ntmps148
 go_wp2_with fail
 refine HM.out.mono ?_
 rintro r w1 ⟨rfl, rfl⟩
 go_wp2_with fail
 refine (HP.out _).mono ?_
 rintro r w1 ⟨rfl, rfl⟩
 clear hb hq hd
 go_wp2_with fail
 refine (HC.out _ HL.out).mono ?_
 rintro r w2 ⟨rfl, hb2⟩
 have HB2 := hd_ hb2
 clear hb2 l c0 c1
 go_wp2_with fail
 refine (HU.out _).mono ?_
 rintro r w3 ⟨rfl, hb3⟩
 have HB3 : Hid (Below w1.heap.size w1 w3) := bt HB2.out hb3
 clear hb3
 go_wp2_with fail
 go_ret
 exact ⟨rfl, HB3.out⟩
set_option maxRecDepth 100000 in
set_option maxHeartbeats 800000 in
theorem sweep_any (kk d km F : Nat) (u lo : Value) (m0 m2 : Int) (wl : Value) (sz : ByteArray → Nat) (w : World) (h : Blk w kk (KvC d km m0 m2 wl) 145) (hd : DkW w d F u lo [⟨#[115, 46, 109, 97, 110]⟩] sz) (hL : LayX w) :
  Calls Tryz.prog 104 #[.pointer (some ⟨kk, 0, none⟩)] w fun r w' => r = .returned (.int .i64 0) ∧ Below w.heap.size w w' := by
 obtain ⟨l, c0, c1, _⟩ := blk9f h
 have HN := hd_ (names_one d F u lo sz _ w hd)
 have HS := hd_ (fun (W : World) (hW : Below w.heap.size w W) => stray_any kk d km m0 m2 wl W (h.ext hW) (hL.ext hW))
 clear h hd hL
 go_enter Tryz.func104, Tryz.ntmps104
 go_wp2_with fail
 refine HN.out.mono ?_
 rintro r w1 ⟨⟨g, c, rfl, lg, cg⟩, hb⟩
 have HB := hd_ hb
 clear hb l c0 c1
 go_wp2_with fail
 refine wp_loop_rounds 2 ?_
 rw [rounds_succ]
 go_wp2_with fail
 refine (HS.out _ HB.out).mono ?_
 rintro r w2 ⟨rfl, hb⟩
 have HB2 : Hid (Below w.heap.size w w2) := bt HB.out hb
 clear hb lg cg
 go_wp2_with fail
 rw [rounds_succ]
 go_wp2_with fail
 go_ret
 exact ⟨rfl, HB2.out⟩
end Go.Proofs.YtceoficoappkpaaGreatDoor
namespace Go.Proofs.YtceoficoappkpaaGreatDoor
open Go.RowKit Go.Shelf
attribute [local go_sem] Oper.semAt_some

theorem setCell_one {w : World} {b : Nat} {v : Value} {t : TypeId} (h : Blk w b #[v] t) : w.setCell ⟨b, 0, none⟩ v = w := by
 obtain ⟨w3, rfl, lt⟩ := blk_put h
 exact putBlk_set #[v] t lt 0 v
theorem frames_any (s : ByteArray) (w : World) : Calls Tryz.prog 211 #[.string s] w fun r w' => r = .returned (.func (.func 241) #[] #[.pointer (some ⟨w.heap.size, 0, none⟩)]) ∧ w' = w.alloc (.cells #[.string s] 9) := by
 go_enter Tryz.func211, Tryz.ntmps211
 go_wp2_with fail
 go_ret
 exact ⟨rfl, rfl⟩
theorem frames_stops (n b : Nat) (w : World) (hb : Blk w b #[.string ⟨#[]⟩] 9) :
  SeqStopsW b Fence.wide n Tryz.prog 241 #[.pointer (some ⟨b, 0, none⟩)] (fun x : Empty => x.elim) (fun _ _ => True) (fun ys => ys = []) (fun _ => False) 0 w := by
 intro id J Jx W hW hJ hJx hJT hY h0
 obtain ⟨lb, b0⟩ := (show b < W.heap.size ∧ W.cell? ⟨b, 0, none⟩ = some (.string ⟨#[]⟩) from ⟨(hb.ext hW).lt, (hb.ext hW).cell 0⟩)
 have HJ := hd_ h0
 have hte : (⟨#[]⟩ : ByteArray).toList.isEmpty = true := by rw [Lib.toList_data]; rfl
 clear hJ hJx hJT hY h0 hb hW
 refine callsIn_of_wp Tryz.func241 rfl trivial ?_ rfl
 simp only [Tryz.ntmps241, List.size_toArray, List.length_cons, List.length_nil, Nat.reduceAdd, Nat.reduceSub, Array.replicate_succ, Array.replicate_zero, List.push_toArray, List.append_toArray, List.nil_append, List.cons_append]
 gi_wp2_with fail
 gi_loopg [] 0 (fun _ wr => wr = W)
 case atStart => rfl
 case round =>
  subst hrel
  gi_wp2_with fail
  go_end0
  exact ⟨⟨_, rfl⟩, Or.inl ⟨[], rfl, HJ.out⟩⟩
def FsI (w : World) (B : Nat) (pre : List Empty) (W : World) : Prop := pre = [] ∧ Blk W w.heap.size #[.slice none 0 0] 217 ∧ Blk W (w.heap.size + 1) #[.int .i64 0] 3 ∧ Blk W (w.heap.size + 2) #[.int .i64 0] 37 ∧ Below w.heap.size w W ∧ B ≤ W.heap.size
theorem fsI_own {w : World} {B : Nat} (hB : w.heap.size + 3 < B) : OwnFrom B (FsI w B) := by
 intro s X Y row ⟨h0, h1, h2, h3, h5, h6⟩ hg hr
 have hk : ∀ k cs t, k < B → Blk X k cs t → Blk Y k cs t := fun k cs t hk h => (hg.block k h.lt (fun e => by have := (hr k e.symm).1; omega)).trans h
 exact ⟨h0, hk _ _ _ (by omega) h1, hk _ _ _ (by omega) h2, hk _ _ _ (by omega) h3, ownFrom_below (Nat.le_refl _) (by omega) s X Y row h5 hg hr, Nat.le_trans h6 hg.size⟩
set_option maxRecDepth 100000 in
set_option maxHeartbeats 1600000 in
theorem fscan_nil (w : World) : Calls Tryz.prog 165 #[.string ⟨#[]⟩] w fun r w' => r = .returned (.tuple #[.slice none 0 0, .int .i64 0, .int .i64 0]) ∧ Below w.heap.size w w' := by
 refine callsIn_wide (n := 9) |>.1 ?_
 refine callsIn_of_wp_marks Tryz.func165 rfl trivial ?_ rfl
 simp only [Tryz.ntmps165, List.size_toArray, List.length_cons, List.length_nil, Nat.reduceAdd, Nat.reduceSub, Array.replicate_succ, Array.replicate_zero, List.push_toArray, List.append_toArray, List.nil_append, List.cons_append]
 gi_wp2_with fail
 refine ⟨trivial, callsIn_wide.2 ((frames_any _ _).mono ?_)⟩
 rintro r w1 ⟨rfl, rfl⟩
 gi_wp2_with fail
 have h3 : Blk ((((w.alloc (.cells #[.slice none 0 0] 217)).alloc (.cells #[.int .i64 0] 3)).alloc (.cells #[.int .i64 0] 37)).alloc (.cells #[.string ⟨#[]⟩] 9)) (w.heap.size + 3) #[.string ⟨#[]⟩] 9 := Blk.at (by simp)
 have h2 : Blk ((((w.alloc (.cells #[.slice none 0 0] 217)).alloc (.cells #[.int .i64 0] 3)).alloc (.cells #[.int .i64 0] 37)).alloc (.cells #[.string ⟨#[]⟩] 9)) (w.heap.size + 2) #[.int .i64 0] 37 := Blk.old (Blk.at (by simp)) _
 have h1 : Blk ((((w.alloc (.cells #[.slice none 0 0] 217)).alloc (.cells #[.int .i64 0] 3)).alloc (.cells #[.int .i64 0] 37)).alloc (.cells #[.string ⟨#[]⟩] 9)) (w.heap.size + 1) #[.int .i64 0] 3 := Blk.old (Blk.old (Blk.at (by simp)) _) _
 have h0 : Blk ((((w.alloc (.cells #[.slice none 0 0] 217)).alloc (.cells #[.int .i64 0] 3)).alloc (.cells #[.int .i64 0] 37)).alloc (.cells #[.string ⟨#[]⟩] 9)) w.heap.size #[.slice none 0 0] 217 := Blk.old (Blk.old (Blk.old (Blk.new _ _ _) _) _) _
 have hb : Below w.heap.size w ((((w.alloc (.cells #[.slice none 0 0] 217)).alloc (.cells #[.int .i64 0] 3)).alloc (.cells #[.int .i64 0] 37)).alloc (.cells #[.string ⟨#[]⟩] 9)) := (by repeat (first | exact Below.refl _ _ | assumption | refine Below.drew ?_ | refine below_drewN ?_ _ | refine Below.alloc ?_ (by simp <;> omega) _))
 generalize ((((w.alloc (.cells #[.slice none 0 0] 217)).alloc (.cells #[.int .i64 0] 3)).alloc (.cells #[.int .i64 0] 37)).alloc (.cells #[.string ⟨#[]⟩] 9)) = W at h0 h1 h2 h3 hb ⊢
 have l3 := h3.lt
 refine wpIn_rangeFunc_ownW rfl (by omega) (gf := 241) (lb := #[.pointer (some ⟨w.heap.size + 3, 0, none⟩)]) (by simp [go_sem, Act.eval]) trivial (enters_of Tryz.func241 (by kernel_rfl) rfl)
  (encs := fun x : Empty => x.elim) (Kp := fun _ _ => True) (frames_stops 8 (w.heap.size + 3) W h3) l3 (fun _ _ => trivial) (fun _ _ _ _ _ _ _ _ => trivial) (Below.refl _ _) (fun x => x.elim)
  (FsI w W.heap.size) (fsI_own l3) ⟨rfl, h0, h1, h2, hb, Nat.le_refl _⟩ ?hit (fun _ (_ : Empty) _ _ => True) (fun _ x => x.elim) ?assign ?body ?loopend
 case hit =>
  rintro s A B ⟨k0, k1, k2, k3, k5, k6⟩ hg
  have hk : ∀ k cs t, k ≠ w.heap.size + 3 → Blk A k cs t → Blk B k cs t := fun k cs t hk h => (hg.block k h.lt (fun e => hk (by simpa using e))).trans h
  exact ⟨k0, hk _ _ _ (by omega) k1, hk _ _ _ (by omega) k2, hk _ _ _ (by omega) k3, k5.grown hg k5.size (fun k e => by cases e; omega), Nat.le_trans k6 hg.size⟩
 case assign =>
  intro l pre x
  exact x.elim
 case body =>
  intro l pre x
  exact x.elim
 case loopend =>
  rintro D xs X hD hxs ⟨_, k1, k2, k3, k5, k6⟩ hK
  obtain ⟨l0, c0, f0, s0⟩ : w.heap.size < X.heap.size ∧ X.cell? ⟨w.heap.size, 0, none⟩ = some (.slice none 0 0) ∧ X.frozen? ⟨w.heap.size, 0, none⟩ = false ∧ X.setCell ⟨w.heap.size, 0, none⟩ (.slice none 0 0) = X := ⟨k1.lt, k1.cell 0, k1.frozen 0, setCell_one k1⟩
  obtain ⟨l1, c1, f1, s1⟩ : w.heap.size + 1 < X.heap.size ∧ X.cell? ⟨w.heap.size + 1, 0, none⟩ = some (.int .i64 0) ∧ X.frozen? ⟨w.heap.size + 1, 0, none⟩ = false ∧ X.setCell ⟨w.heap.size + 1, 0, none⟩ (.int .i64 0) = X := ⟨k2.lt, k2.cell 0, k2.frozen 0, setCell_one k2⟩
  obtain ⟨l2, c2, f2, s2⟩ : w.heap.size + 1 + 1 < X.heap.size ∧ X.cell? ⟨w.heap.size + 1 + 1, 0, none⟩ = some (.int .i64 0) ∧ X.frozen? ⟨w.heap.size + 1 + 1, 0, none⟩ = false ∧ X.setCell ⟨w.heap.size + 1 + 1, 0, none⟩ (.int .i64 0) = X := ⟨k3.lt, k3.cell 0, k3.frozen 0, setCell_one k3⟩
  have HB := hd_ k5
  have HKD := hd_ (show X.heap[D]? = some (.deferred (some [])) from hK)
  have HDD := hd_ hD
  clear k1 k2 k3 k5 k6 hK hD h0 h1 h2 h3 hb
  gi_upto_region 8 with fail
  gi_region
  gi_wp2_with fail
  have HKD2 : Hid (X.drew.heap[D]? = some (.deferred (some []))) := HKD.out
  refine ⟨by simp, .inl ⟨_, _, rfl, run_takeDeferred HKD2.out, ?_⟩⟩
  have kk := fun (b : Nat) (v : Value) (h : X.drew.cell? ⟨b, 0, none⟩ = some v) => cell_kept h (grownBy_putObj' X.drew D (.deferred none)) (fun r e => by cases e; exact ⟨_, HKD2.out, rfl⟩)
  have e0 := kk w.heap.size _ c0
  have e1 := kk (w.heap.size + 1) _ c1
  have e2 := kk (w.heap.size + 1 + 1) _ c2
  refine ⟨.tuple #[.slice none 0 0, .int .i64 0, .int .i64 0], ?_, ?_⟩
  · simp [results, Tryz.results165, go_sem, e0, e1, e2]
  · exact ⟨rfl, (HB.out.drew).trans (belowK_b (w := w) (Nat.le_refl _) X.drew D _ _ (by have := HDD.out; omega) HKD2.out rfl rfl)⟩
end Go.Proofs.YtceoficoappkpaaGreatDoor
