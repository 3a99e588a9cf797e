/- Texts joined by a tool: contracts and walks of this claim. -/
import Derived.Test.YtceoficoappkpaaGreatDoorB21
import Derived.Deep.CutBlock
import Derived.Lib.Replace
namespace Go.Proofs.YtceoficoappkpaaGreatDoor
open Go.RowKit Go.Shelf
attribute [local go_sem] Oper.semAt_some

set_option maxRecDepth 100000 in
theorem vget_any (B v kk m : Nat) (t : Tr) (k : ByteArray) (p : Pr) (w : World) (h : VwR w B v kk m t) (hf : findP k t.toL = some p) :
  Calls Tryz.prog 17 #[.pointer (some ⟨v, 0, none⟩), .string k] w fun r w' => r = .returned (.tuple #[.string p.v, .bool (!p.g), .int .i64 0]) ∧ Below w.heap.size w w' := by
 have HG := hd_ (memget_any m t k w h.mem)
 rw [hf] at HG
 unfold gotP Pr.agg at HG
 obtain ⟨lv, v0, v1, vf⟩ := blk2f h.b
 clear h hf
 go_enter Tryz.func17, Tryz.ntmps17
 go_wp2_with fail
 refine HG.out.mono ?_
 rintro r w1 ⟨rfl, hb⟩
 have HB := hd_ hb
 clear hb
 go_wp2_with fail
 go_quiet (fail)
 go_wp2_with fail
 refine bodyPost_ret (v := .tuple #[.string p.v, .bool (!p.g), .int .i64 0]) (by simp [results, Tryz.results17, go_sem]) rfl ?_
 exact ⟨rfl, bt HB.out ((by repeat (first | exact Below.refl _ _ | assumption | refine Below.drew ?_ | refine below_drewN ?_ _ | refine Below.alloc ?_ (by simp <;> omega) _)))⟩
def liveL (l : List Pr) : List Pr := l.filter fun p => !p.g
def VScanP (w : World) (ys : List Pr) (r : Ending) (w' : World) : Prop := ∃ A c, r = .returned (.tuple #[.slice A ys.length c, .int .i64 0]) ∧ w'.ownsRow w.heap.size 45 3 (.slice A ys.length c) ys.length (cellsP ys) ∧ Below w.heap.size w w'
theorem Rg.lower {w : World} {b b' e size n : Nat} {v : Value} {xs : List Value} (h : w.ownsRow b e size v n xs) (hb : b' ≤ b) : w.ownsRow b' e size v n xs := by
 refine ⟨h.1, ?_⟩
 rcases h.2 with h0 | ⟨g, cap, cur, rfl, hbg, h3⟩
 · exact .inl h0
 · exact .inr ⟨g, cap, cur, rfl, by omega, h3⟩
theorem cellsP_get {p : Pr} : ∀ {l : List Pr} {k : Nat}, l[k]? = some p → (cellsP l)[k * 3]? = some (.string p.k) ∧ (cellsP l)[k * 3 + 1]? = some (.string p.v) ∧ (cellsP l)[k * 3 + 2]? = some (.bool p.g)
 | q :: l, 0, h => by
  simp at h
  subst h
  exact ⟨rfl, rfl, rfl⟩
 | q :: l, k + 1, h => by
  have := cellsP_get (l := l) (k := k) (by simpa using h)
  rw [show cellsP (q :: l) = .string q.k :: .string q.v :: .bool q.g :: cellsP l from rfl, show (k + 1) * 3 = k * 3 + 3 by omega]
  exact this
theorem PrRow.own {w : World} {base n c : Nat} {A : Option Addr} {l : List Pr} (h : w.ownsRow base 45 3 (.slice A n c) n (cellsP l)) (hn : n = l.length) : PrRow w A l := by
 intro hl
 have h0 : 0 < n := by rw [hn]; exact List.length_pos_iff.2 hl
 obtain ⟨g, c', he, _⟩ := h.form h0
 simp only [Value.slice.injEq] at he
 obtain ⟨rfl, -, rfl⟩ := he
 refine ⟨g, 0, rfl, (h.lt g rfl).2, fun k p hk => ?_⟩
 obtain ⟨h1, h2, h3⟩ := cellsP_get hk
 have hkl : k < n := by rw [hn]; exact (List.getElem?_eq_some_iff.1 hk).1
 simp only [Nat.zero_add]
 exact ⟨(h.cellAt _ (by omega)).trans h1, (h.cellAt _ (by omega)).trans h2, (h.cellAt _ (by omega)).trans h3⟩
def VsI (w : World) (B rb : Nat) (pre : List Pr) (W : World) : Prop := RowP B rb (liveL pre) W ∧ Below w.heap.size w W ∧ B ≤ W.heap.size
theorem vsI_own {w : World} {B rb B' : Nat} (hB : w.heap.size ≤ B') : OwnFrom B' (VsI w B rb) := by
 intro s X Y row ⟨h1, h5, h6⟩ hg hr
 exact ⟨rowP_own h1 hg (fun r e => (hr r e).2), ownFrom_below (Nat.le_refl _) hB s X Y row h5 hg hr, Nat.le_trans h6 hg.size⟩
theorem live_yes {pre : List Pr} {x : Pr} (h : x.g = false) : liveL (pre ++ [x]) = liveL pre ++ [x] := by simp [liveL, h]
theorem live_no {pre : List Pr} {x : Pr} (h : x.g = true) : liveL (pre ++ [x]) = liveL pre := by simp [liveL, h]
theorem kpX_b {B rb : Nat} (W : World) (l : Nat) (o : Obj) (hl : B ≤ l) : KpX B rb W (W.putObj l o) :=
 ⟨⟨rfl, rfl, rfl⟩, by simp [World.putObj], fun k hk _ => World.putObj_heap_other (by omega)⟩
set_option maxRecDepth 100000 in
set_option maxHeartbeats 2000000 in
theorem vscan_any (B v kk km m : Nat) (t : Tr) (fr tt : ByteArray) (w : World) (h : VwR w B v kk m t) (hk : KvR w kk km) (hlen : (t.fromL fr).length ≤ 1000000000) :
  Calls Tryz.prog 18 #[.pointer (some ⟨v, 0, none⟩), .string fr, .string tt] w (VScanP w (liveL (scanL tt 1073741824 (t.fromL fr)))) := by
 obtain ⟨i0, hi0, hz0, hz1, hz2⟩ := info_parts info_Pr
 obtain ⟨lv, v0, v1, vf⟩ := blk2f h.b
 have HV := hd_ h
 have HK := hd_ (kvscan_any kk km fr tt 1073741824 (w.alloc (.cells #[.slice none 0 0] 36)) (hk.ext (by repeat (first | exact Below.refl _ _ | assumption | refine Below.drew ?_ | refine below_drewN ?_ _ | refine Below.alloc ?_ (by simp <;> omega) _))) (by decide))
 have h3 : Blk (w.alloc (.cells #[.slice none 0 0] 36)) w.heap.size #[.slice none 0 0] 36 := (by repeat (first | exact Blk.at (by simp) | assumption | refine Blk.drew ?_ | refine Blk.old ?_ _))
 clear h hk
 refine callsIn_wide (n := 9) |>.1 ?_
 refine callsIn_of_wp_marks Tryz.func18 rfl trivial ?_ rfl
 simp only [Tryz.ntmps18, List.size_toArray, List.length_cons, List.length_nil, Nat.reduceAdd, Nat.reduceSub, Array.replicate_succ, Array.replicate_zero, List.push_toArray, List.append_toArray, List.nil_append, List.cons_append]
 gi_wp2_with fail
 refine ⟨trivial, callsIn_wide.2 (HK.out.mono ?_)⟩
 rintro r w1 ⟨rfl, hb1⟩
 have hW1 : Below w.heap.size w w1 := bt ((by repeat (first | exact Below.refl _ _ | assumption | refine Below.drew ?_ | refine below_drewN ?_ _ | refine Below.alloc ?_ (by simp <;> omega) _))) hb1
 have H3 := hd_ (h3.ext hb1)
 have HW1 := hd_ hW1
 have HMS := hd_ (scan_any m t fr tt 1073741824 w1 (HV.out.mem.ext hW1) (by decide) hlen)
 have e1 := (HV.out.b.ext hW1)
 obtain ⟨lv', v0', v1', vf'⟩ := blk2f e1
 clear lv v0 v1 vf hb1 hW1 e1 h3 HK
 gi_wp2_with fail
 refine ⟨trivial, callsIn_wide.2 (HMS.out.mono ?_)⟩
 rintro r w2 ⟨A, c, rfl, hO, hb2⟩
 have HO := hd_ hO
 have HW2 : Hid (Below w.heap.size w w2) := bt HW1.out hb2
 have H32 := hd_ (H3.out.ext hb2)
 clear hO hb2 lv' v0' v1' vf'
 obtain ⟨ys, hys⟩ : ∃ ys, ys = scanL tt 1073741824 (t.fromL fr) := ⟨_, rfl⟩
 simp only [show (1073741824 : Int).toNat = 1073741824 from rfl] at HO ⊢
 rw [← hys] at HO ⊢
 have HYS := hd_ hys
 clear hys
 gi_wp2_with fail
 refine ⟨trivial, callsIn_wide.2 ((merged_any _ _ _ ⟨none, 0, 0, rfl⟩ ⟨_, _, _, rfl⟩).mono ?_)⟩
 rintro r W0 ⟨rfl, hx1, hx2, hb3⟩
 have hrl : w.heap.size < w2.heap.size := H32.out.lt
 have HX1 := hd_ hx1
 have HX2 := hd_ hx2
 have HR := hd_ (PrRow.own (own_below HO.out hb3) rfl)
 have HAb : Hid (∀ a, A = some a → w1.heap.size ≤ a.block ∧ a.block < w2.heap.size) := fun a e => HO.out.lt a.block (by rw [e]; rfl)
 have hc : ys.length ≤ c := by
  rcases HO.out.2 with ⟨h1, h2⟩ | ⟨g, cap, cur, h1, _, _, h2, _⟩
  · rw [h2]; exact Nat.zero_le _
  · simp only [Value.slice.injEq] at h1
    rw [h1.2.2]; exact h2
 have hyl : ys.length ≤ 1000000000 := by
  rw [HYS.out]
  unfold scanL
  have h1 := List.length_take_le' 1073741824 ((t.fromL fr).takeWhile (okTo tt))
  have h2 := (List.takeWhile_sublist (okTo tt) (l := t.fromL fr)).length_le
  omega
 have hsz0 : w2.heap.size + 1 < W0.heap.size := HX2.out.lt
 have hr1 : w.heap.size < w1.heap.size := H3.out.lt
 have HS := hd_ (merged1_stops 8 W0.heap.size w.heap.size w2.heap.size (w2.heap.size + 1) A c ys W0 HX1.out HX2.out HR.out (fun a e => by have := HAb.out a e; omega) (by omega) (by omega) hc hyl)
 have HC0 : Hid (Below w.heap.size w W0) := bt HW2.out hb3
 have H33 := hd_ (H32.out.ext hb3)
 clear hx1 hx2 hb3 HO HAb HX1 HX2 HR HW2 H32 HMS HV
 have HRB : Hid (w.heap.size ≤ w.heap.size ∧ w.heap.size < W0.heap.size ∧ w.heap.size ≤ W0.heap.size ∧ w.heap.size < w2.heap.size + 1) := ⟨Nat.le_refl _, by omega, by omega, by omega⟩
 have HBB : Hid (w2.heap.size + 1 < W0.heap.size) := hsz0
 have HYL := hd_ hyl
 clear hrl hsz0 hr1 hc hyl
 generalize w2.heap.size = Ba at HS HBB HRB ⊢
 obtain ⟨rb, hrb⟩ : ∃ rb, rb = w.heap.size := ⟨_, rfl⟩
 have HRB2 : Hid (w.heap.size ≤ rb ∧ rb < W0.heap.size ∧ w.heap.size ≤ W0.heap.size ∧ rb < Ba + 1) := by rw [hrb]; exact HRB.out
 rw [← hrb] at HS H33 ⊢
 have hrW := HRB2.out.2.1
 clear hrb HRB
 gi_wp2_with fail
 refine wpIn_rangeFunc_ownW rfl (by omega) (gf := 82) (lb := #[.pointer (some ⟨Ba, 0, none⟩), .pointer (some ⟨Ba + 1, 0, none⟩)]) rfl trivial (enters_of Tryz.func82 (by kernel_rfl) rfl)
  HS.out HBB.out (fun h k => h.trans k) (fun W l o o' hl _ _ _ => kpX_b W l o' hl) (Below.refl _ _) (fun _ => rfl)
  (VsI w W0.heap.size rb) (vsI_own HRB2.out.2.2.1) ⟨⟨none, 0, H33.out, World.ownsRow_nil _ _ _ _⟩, HC0.out, Nat.le_refl _⟩ ?hit
  (fun Wb x a' W => ((rb < Wb.heap.size ∧ W0.heap.size ≤ Wb.heap.size) ∧ a' = ⟨#[.pointer (some ⟨v, 0, none⟩), .string fr, .string tt, undef, undef, undef, .pointer (some ⟨rb, 0, none⟩), .int .i64 0, .slice none 0 0, .pointer (some ⟨Wb.heap.size, 0, none⟩), .pointer (some ⟨v, 0, none⟩), .bool false, .tuple #[.slice none 0 0, .int .i64 0], .pointer (some ⟨v, 0, none⟩), .pointer (some ⟨v, 0, none⟩), .pointer (some ⟨v, 0, none⟩), .pointer (some ⟨kk, 0, none⟩), .string fr, .string tt, .tuple #[.slice none 0 0, .int .i64 0], .slice none 0 0, .int .i64 0, .int .i64 0, .bool false, undef, .slice none 0 0, .pointer (some ⟨v, 0, none⟩), .pointer (some ⟨v, 0, none⟩), .pointer (some ⟨v, 1, none⟩), .pointer (some ⟨m, 0, none⟩), .string fr, .string tt, .slice A ys.length c, .func (.func 82) #[] #[.pointer (some ⟨Ba, 0, none⟩), .pointer (some ⟨Ba + 1, 0, none⟩)], .agg #[.string x.k, .string x.v, .bool x.g], undef, undef, undef, undef, undef, undef, undef, undef], []⟩) ∧ Blk W Wb.heap.size #[.string x.k, .string x.v, .bool x.g] 45 ∧ KpX W0.heap.size rb Wb W)
  ?hax
  ?assign ?body ?loopend
 case hit =>
  rintro s X Y ⟨⟨A1, c1, q1, q2⟩, q3, q4⟩ hg
  have hb := HRB2.out
  refine ⟨⟨A1, c1, (hg.block _ q1.lt (by simp; omega)).trans q1, q2.kept hg ?_⟩, q3.grown hg q3.size (fun k e => by cases e; omega), Nat.le_trans q4 hg.size⟩
  by_cases hA : (Value.slice A1 (liveL s).length c1).ownBlock = none
  · exact Or.inl hA
  · refine Or.inr fun e => ?_
    have := q2.lt _ e
    have := HBB.out
    omega
 case hax =>
  rintro Wb x a' s X Y row ⟨q1, q2, q3⟩ hg hr
  refine ⟨q1, (Rg.blk_own Wb.heap.size (fun (_ : Unit) => #[.string x.k, .string x.v, .bool x.g]) 45 : Own _) () X Y row q2 hg (fun r e => (hr r e).2), q3.trans ⟨⟨hg.os, hg.tape, hg.output⟩, hg.size, fun k hk _ => ?_⟩⟩
  have := q3.2.1
  exact hg.block k (by omega) (fun e => by have := (hr k e.symm).1; omega)
 case assign =>
  rintro l pre x W K1 hI hK
  have HK1 := hd_ hK
  have HI := hd_ hI
  have hltW : rb < W.heap.size := by obtain ⟨⟨_, _, h, _⟩, _⟩ := hI; exact h.lt
  have hsW : w.heap.size ≤ W.heap.size := hI.2.1.size
  have hBW : W0.heap.size ≤ W.heap.size := hI.2.2
  clear hI hK
  unfold Pr.agg
  gi_wp2_with fail
  refine HK1.out _ _ (Rg.keepsFrom_below ((by repeat (first | exact Below.refl _ _ | assumption | refine Below.drew ?_ | refine below_drewN ?_ _ | refine Below.alloc ?_ (by simp <;> omega) _)))) ?_ ⟨⟨⟨hltW, hBW⟩, rfl⟩, Blk.new _ _ _, ⟨rfl, rfl, rfl⟩, by simp, fun k hk _ => ?_⟩
  · obtain ⟨⟨A1, c1, q1, q2⟩, q3, q4⟩ := HI.out
    exact ⟨⟨A1, c1, q1.ext ((by repeat (first | exact Below.refl _ _ | assumption | refine Below.drew ?_ | refine below_drewN ?_ _ | refine Below.alloc ?_ (by simp <;> omega) _))), own_below q2 ((by repeat (first | exact Below.refl _ _ | assumption | refine Below.drew ?_ | refine below_drewN ?_ _ | refine Below.alloc ?_ (by simp <;> omega) _)))⟩, q3.trans (Below.mono ((by repeat (first | exact Below.refl _ _ | assumption | refine Below.drew ?_ | refine below_drewN ?_ _ | refine Below.alloc ?_ (by simp <;> omega) _)) : Below W.heap.size W (W.alloc (.cells #[.string x.k, .string x.v, .bool x.g] 45))) hsW), by simp; omega⟩
  · exact ((by repeat (first | exact Below.refl _ _ | assumption | refine Below.drew ?_ | refine below_drewN ?_ _ | refine Below.alloc ?_ (by simp <;> omega) _)) : Below W.heap.size W (W.alloc (.cells #[.string x.k, .string x.v, .bool x.g] 45))).block k (by omega)
 case body =>
  rintro l pre x a' Wb W hl ⟨⟨A1, c1, q1, q2⟩, q3, q4⟩ ⟨⟨⟨hr0, hB0⟩, rfl⟩, hX, hKp⟩ hlt
  obtain ⟨lx, x0, x1, x2⟩ := blk3 hX
  have HE1 := hd_ q1
  have HO := hd_ q2
  have H5 := hd_ q3
  have H6 := hd_ q4
  have HKP := hd_ hKp
  clear q1 q2 q3 q4 hX hKp
  cases hxg : x.g with
  | true =>
   have HXG := hd_ hxg
   rw [hxg] at x2
   clear hxg
   gi_wp2_with fail
   refine ⟨Rg.keepsFrom_below (Below.refl _ _), HKP.out, ⟨A1, c1, ?_, ?_⟩, H5.out, H6.out⟩
   · rw [live_no HXG.out]; exact HE1.out
   · rw [live_no HXG.out]; exact HO.out
  | false =>
   have HXG := hd_ hxg
   rw [hxg] at x2
   clear hxg
   have hpl : (liveL pre).length ≤ 1000000000 := by
    have h1 : (liveL pre).length ≤ pre.length := List.length_filter_le _ _
    have := HYL.out
    omega
   have HPC := hd_ (show cellsP (liveL pre) ++ [.string x.k, .string x.v, .bool false] = cellsP (liveL (pre ++ [x])) by rw [live_yes HXG.out, cellsP_snoc, HXG.out])
   have HPL := hd_ (show (liveL pre).length + 1 = (liveL (pre ++ [x])).length by rw [live_yes HXG.out]; simp)
   have HKP2 := hd_ HKP.out
   generalize hzl : liveL pre = zs at HE1 HO hpl HPC HPL
   have e0 : W.cell? ⟨rb, 0, none⟩ = some (.slice A1 zs.length c1) := HE1.out.cell 0
   have le := HE1.out.lt
   have hA2 : Below W.heap.size W (W.alloc (.cells #[.string x.k, .string x.v, .bool false] 45)) := bel1 _ _
   have HO2 := hd_ (own_below HO.out hA2)
   have HE2 := hd_ (HE1.out.ext hA2)
   have HA2 := hd_ hA2
   have hsW : w.heap.size ≤ W.heap.size := H5.out.size
   have h6 := H6.out
   clear hA2 hzl
   gi_wp2_with (gi_at_builtin; refine wpListIn_append_own _ rfl _ _ 36 rfl W0.heap.size 45 i0 _ 3 40 Tryz.underlying36 hi0 hz0 hz1 hz2 rfl (by decide) (.slice A1 zs.length c1) zs.length (cellsP zs) rfl HO2.out ⟨W.heap.size, 0, none⟩ 1 1 [.string x.k, .string x.v, .bool false] rfl rfl ?k1 (by simp [Value.oneCell']) ?b1 ?b2 ?b3 ?_)
   case k1 => exact cells_blk3 (Blk.new _ _ _)
   case b1 => simp only [maxLen]; omega
   case b2 => omega
   case b3 => simp; omega
   intro v1 w3 hown1 hg1 _
   obtain ⟨A3, c3, rfl⟩ := Rg.row_form hown1
   have hE3 := Rg.blk_grown HE2.out HO2.out (by decide) hg1
   have hF3 : KeepsFrom W0.heap.size W w3 := (Rg.keepsFrom_below HA2.out).trans (Rg.keepsFrom_grown HO2.out hg1)
   have hsA : w.heap.size ≤ (W.alloc (.cells #[.string x.k, .string x.v, .bool false] 45)).heap.size := by simp; omega
   have hs6 : W0.heap.size ≤ (W.alloc (.cells #[.string x.k, .string x.v, .bool false] 45)).heap.size := by simp; omega
   have hK3 : Below W0.heap.size W w3 := (HA2.out.mono h6).grown hg1 hs6 (fun k e => (HO2.out.lt k e).1)
   have hown1' := hown1
   clear hown1 hg1 HO2 HE2 HA2 HE1 HO e0 le lx x0 x1 x2
   obtain ⟨w5, he5, lt⟩ := blk_put hE3
   subst he5
   obtain ⟨pc, pf, pS⟩ := putBlk_facts (w := w5) 36 lt
   have HO5 := hd_ (own_put hown1' lt (by decide) #[.slice A3 (zs.length + 1) c3])
   have HE55 := hd_ (putBlk_blk (w := w5) #[.slice A3 (zs.length + 1) c3] 36 lt)
   have HF5 : Hid (KeepsFrom W0.heap.size W (putBlk w5 rb #[.slice A3 (zs.length + 1) c3] 36)) := hF3.trans (Rg.keepsFrom_put lt)
   have hgp : (putBlk w5 rb #[.slice A1 zs.length c1] 36).grownBy (putBlk w5 rb #[.slice A3 (zs.length + 1) c3] 36) (some rb) := Rg.put_only _ _ _ _ _
   have HK5 : Hid (KpX W0.heap.size rb W (putBlk w5 rb #[.slice A3 (zs.length + 1) c3] 36)) :=
    KpX.trans ⟨⟨hK3.os, hK3.tape, hK3.output⟩, hK3.size, fun k hk _ => hK3.block k hk⟩ ⟨⟨hgp.os, hgp.tape, hgp.output⟩, hgp.size, fun k hk hn => by
     have h7 := hK3.size
     exact hgp.block k (by omega) (fun e => hn (by cases e; rfl))⟩
   have HB5 : Hid (Below w.heap.size w (putBlk w5 rb #[.slice A3 (zs.length + 1) c3] 36)) := by
    have hrb := HRB2.out
    exact putBlk_belows (H5.out.trans (hK3.mono hrb.2.2.1)) hrb.1 _
   have HS5 := hd_ (Nat.le_trans h6 HK5.out.2.1)
   clear hown1' hE3 hF3 hK3 hgp
   gi_wp2_with fail
   refine ⟨HF5.out, HKP2.out.trans HK5.out, ⟨A3, c3, ?_, ?_⟩, HB5.out, HS5.out⟩
   · rw [← HPL.out]; exact HE55.out
   · rw [← HPL.out, ← HPC.out]; exact HO5.out
 case loopend =>
  rintro D ys2 W hD hys ⟨⟨A1, c1, e1, e2⟩, hB, _⟩ hK
  subst hys
  obtain ⟨w3, rfl, lt⟩ := blk_put e1
  obtain ⟨pc, pf, pS⟩ := putBlk_facts (w := w3) 36 lt
  have HO2 := hd_ e2
  have HD2 := hd_ hD
  have HB2 := hd_ hB
  have hN := HRB2.out
  have HKD := hd_ (show (putBlk w3 rb #[.slice A1 (liveL ys2).length c1] 36).heap[D]? = some (.deferred (some [])) from hK)
  clear e1 e2 hB hD hK
  gi_wp2_with fail
  refine ⟨by simp, .inl ⟨_, _, rfl, run_takeDeferred HKD.out, ?_⟩⟩
  have hc5 := cell_kept (pc #[.slice A1 (liveL ys2).length c1] 0) (grownBy_putObj' _ D (.deferred none)) (fun r e => by cases e; exact ⟨_, HKD.out, rfl⟩)
  have hD2 := HD2.out
  refine ⟨.tuple #[.slice A1 (liveL ys2).length c1, .int .i64 0], ?_, ?_⟩
  · simp [results, Tryz.results18, go_sem, hc5]
  · rw [← HYS.out]
    exact ⟨A1, c1, rfl, Rg.lower ((Rg.own_own (β := Unit) _ _ _ _ (.slice A1 (liveL ys2).length c1) _ : Own _) () _ _ _ HO2.out (grownBy_putObj' _ D (.deferred none)) (fun r e => by cases e; exact ⟨_, HKD.out, rfl⟩)) hN.2.2.1, HB2.out.trans (belowK_b (w := w) (Nat.le_refl _) _ D _ _ (by omega) HKD.out rfl rfl)⟩
end Go.Proofs.YtceoficoappkpaaGreatDoor
namespace Go.Proofs.YtceoficoappkpaaGreatDoor
open Go.RowKit
def Gw (w w' : World) : Prop := w.drawn ≤ w'.drawn ∧ Below w.heap.size w w'
theorem Gw.refl (w : World) : Gw w w := ⟨Nat.le_refl _, Below.refl _ _⟩
theorem Gw.trans {a b c : World} (h : Gw a b) (k : Gw b c) : Gw a c := ⟨Nat.le_trans h.1 k.1, bt h.2 k.2⟩
theorem Gw.alloc {a w : World} (h : Gw a w) (o : Obj) : Gw a (w.alloc o) := ⟨h.1, h.2.alloc h.2.size o⟩
theorem Gw.drew {a w : World} (h : Gw a w) : Gw a w.drew := ⟨Nat.le_succ_of_le h.1, h.2.drew⟩
theorem Gw.drewN {a w : World} (h : Gw a w) (n : Nat) : Gw a (w.drewN n) := ⟨Nat.le_trans h.1 (Nat.le_add_right _ _), below_drewN h.2 n⟩
theorem keyZ_low {r : Int} (h : canonZ r < 9223372036854775808) : keyZ r = canonZ r + 9223372036854775808 := by unfold keyZ; rw [if_pos h]
theorem keyZ_high {r : Int} (h : ¬ canonZ r < 9223372036854775808) : keyZ r = 18446744073709551615 - canonZ r := by unfold keyZ; rw [if_neg h]
theorem canonZ_in (b : Int) (h0 : 0 ≤ b) (h1 : b ≤ 18446744073709551615) : 0 ≤ canonZ b ∧ canonZ b ≤ 18446744073709551615 := by
 unfold canonZ; split <;> omega
theorem or_top (c : Int) (h0 : 0 ≤ c) (h1 : c < 9223372036854775808) : bits .or .u64 c 9223372036854775808 = c + 9223372036854775808 := by
 rw [u64_or _ _ (by omega) (by omega) (by omega) (by omega)]
 have e : (9223372036854775808 : Int).toNat = 9223372036854775808 := by decide
 rw [e, Nat.or_comm, nat_join 63 9223372036854775808 c.toNat (by omega) (by omega)]
 omega
theorem xor_all (c : Int) (h0 : 0 ≤ c) (h1 : c ≤ 18446744073709551615) : bits .xor .u64 IntKind.u64.max c = 18446744073709551615 - c := by
 rw [show IntKind.u64.max = 18446744073709551615 by decide, u64_xor _ _ (by omega) (by omega) (by omega) (by omega)]
 have e1 : (18446744073709551615 : Int).toNat = 18446744073709551615 := by decide
 have e := congrArg BitVec.toNat (BitVec.allOnes_xor (x := BitVec.ofNat 64 c.toNat))
 rw [BitVec.toNat_xor, BitVec.toNat_not, BitVec.toNat_allOnes, BitVec.toNat_ofNat, Nat.mod_eq_of_lt (by omega)] at e
 rw [e1]
 have e2 : 18446744073709551615 ^^^ c.toNat = 18446744073709551615 - c.toNat := by simpa using e
 rw [e2]; omega
set_option maxRecDepth 100000 in
theorem realkey_any (b : Int) (h0 : 0 ≤ b) (h1 : b ≤ 18446744073709551615) (w : World) :
  Calls Tryz.prog 109 #[.int .u64 b] w fun e w' => e = .returned (.int .u64 (keyZ b)) ∧ w = w' := by
 have HCN := hd_ (canon_any b h0 h1 w)
 have hc := canonZ_in b h0 h1
 by_cases h : canonZ b < 9223372036854775808
 · rw [keyZ_low h]
   have ho := or_top (canonZ b) hc.1 h
   have hs : canonZ b / 9223372036854775808 = 0 := by omega
   generalize canonZ b = c at *
   go_enter Tryz.func109, Tryz.ntmps109
   go_wp2_with (go_at_call 91; refine HCN.out.mono ?_; rintro e w' ⟨rfl, rfl⟩)
   go_ret
   exact ⟨rfl, rfl⟩
 · rw [keyZ_high h]
   have ho := xor_all (canonZ b) hc.1 hc.2
   have hs : canonZ b / 9223372036854775808 = 1 := by omega
   generalize canonZ b = c at *
   go_enter Tryz.func109, Tryz.ntmps109
   go_wp2_with (go_at_call 91; refine HCN.out.mono ?_; rintro e w' ⟨rfl, rfl⟩)
   go_ret
   exact ⟨rfl, rfl⟩
def hiN : Nat → Nat → List UInt8
 | 0, _ => []
 | k + 1, v => hiN k v ++ [UInt8.ofNat (v / 2 ^ (56 - 8 * k) % 256)]
theorem hiN_length : ∀ k v, (hiN k v).length = k
 | 0, _ => rfl
 | k + 1, v => by simp [hiN, hiN_length k v]
def keyT : List UInt8 → List UInt8
 | [] => []
 | b :: l => if b = 0 then 0 :: 255 :: keyT l else b :: keyT l
theorem keyT_replaceK : ∀ l : List UInt8, Lib.replaceK [0] [0, 255] (Lib.count l [0]) l = keyT l
 | [] => by rw [Lib.count_one]; rfl
 | b :: l => by
  have ih := keyT_replaceK l
  by_cases hb : b = 0
  · subst hb
    rw [Lib.count_cons_eq, Nat.add_comm, Lib.replaceK_hit _ _ _ _ 0 (by simp [Lib.index]), keyT, if_pos rfl]
    simp [ih]
  · rw [Lib.count_cons_ne _ _ _ hb, keyT, if_neg hb, ← ih]
    cases hc : Lib.count l [0] with
    | zero => simp [Lib.replaceK]
    | succ k =>
     obtain ⟨i, hi⟩ := Lib.index_of_count (s := l) (old := [0]) (by omega)
     have hi' : Lib.index (b :: l) [0] = ((i + 1 : Nat) : Int) := by
      rw [Lib.index, if_neg (by simp [Ne.symm hb]), hi, if_neg (by simp <;> omega)]
      omega
     rw [Lib.replaceK_hit _ _ _ _ _ hi', Lib.replaceK_hit _ _ _ _ _ hi]
     simp
theorem keyT_replaceAll (l : List UInt8) : Lib.replaceAll l [0] [0, 255] = keyT l := by
 unfold Lib.replaceAll Lib.replace
 rw [if_neg (by decide)]
 have : Lib.replaceNum l [0] (-1) = Lib.count l [0] := by unfold Lib.replaceNum; rw [if_pos (Or.inl (by decide))]
 rw [this, keyT_replaceK]
theorem keyT_length : ∀ l : List UInt8, (keyT l).length = l.length + Lib.count l [0]
 | [] => by rw [Lib.count_one]; rfl
 | b :: l => by
  have ih := keyT_length l
  by_cases hb : b = 0
  · subst hb
    rw [Lib.count_cons_eq, keyT, if_pos rfl]; simp [ih]; omega
  · rw [Lib.count_cons_ne _ _ _ hb, keyT, if_neg hb]; simp [ih]; omega
def key1 (v : V) : List UInt8 :=
 UInt8.ofNat (v.k.toNat + 1) ::
  (if v.k = 1 then [UInt8.ofNat v.n.toNat]
   else if v.k = 2 then hiN 8 (v.n + 9223372036854775808).toNat
   else if v.k = 3 then hiN 8 (keyZ v.r).toNat
   else if v.k = 4 ∨ v.k = 5 then keyT v.t.data.toList ++ [0, 1]
   else [])
def keyLs (l : List V) : List UInt8 := l.flatMap key1
theorem hi_byte (v : Int) (h0 : 0 ≤ v) (s : Nat) : (v / 2 ^ s) % 256 = ((UInt8.ofNat (v.toNat / 2 ^ s % 256)).toNat : Int) := by
 obtain ⟨n, rfl⟩ := Int.eq_ofNat_of_zero_le h0
 rw [UInt8.toNat_ofNat', Int.toNat_natCast]
 have : ((n : Int) / 2 ^ s) = ((n / 2 ^ s : Nat) : Int) := by rw [Int.natCast_ediv, Int.natCast_pow]; rfl
 rw [this]; omega
set_option maxRecDepth 100000 in
set_option maxHeartbeats 800000 in
theorem high_any (B : Nat) (l : List UInt8) (bv : Value) (v : Int) (h0 : 0 ≤ v) (_ : v ≤ 18446744073709551615) (w0 : World) (hB : B ≤ w0.heap.size) (hl : l.length ≤ 100000) (hown : w0.ownsRow B 5 1 bv l.length (l.map byteCell)) :
  Calls Tryz.prog 108 #[bv, .int .u64 v] w0 fun e w' => ∃ bv', e = .returned bv' ∧ w'.ownsRow B 5 1 bv' (l.length + 8) ((l ++ hiN 8 v.toNat).map byteCell) ∧ Below B w0 w' := by
 obtain ⟨i0, hi0, hz0, hz1, hz2⟩ := info_parts info_u8
 go_enter Tryz.func108, Tryz.ntmps108
 go_wp2_with fail
 go_loopw [0, 5] (fun b i wr => ∃ (j : Nat), j ≤ 8 ∧ i = .int .i64 (56 - 8 * (j : Int)) ∧ wr.ownsRow B 5 1 b (l.length + j) ((l ++ hiN j v.toNat).map byteCell) ∧ Below B w0 wr) (fun _ k _ => (intOf k + 8).toNat)
 case atStart => exact ⟨0, by omega, by go_num, by simpa [hiN] using hown, Below.refl _ _⟩
 case round =>
  obtain ⟨j, hj, rfl, hown, hbw⟩ := hrel
  by_cases hlt : j < 8
  · have hs0 : (0 : Int) ≤ 56 - 8 * (j : Int) := by omega
    have hsn : (56 - 8 * (j : Int)).toNat = 56 - 8 * j := by omega
    have hby := hi_byte v h0 (56 - 8 * j)
    have HBY := hd_ hby
    clear hby
    go_wp2_with (at_builtin; refine wpList_append_own _ rfl _ _ 128 rfl B 5 i0 (.int .u8 0) 1 1 Tryz.underlying128 hi0 hz0 hz1 hz2 rfl (by decide) _ (l.length + j) ((l ++ hiN j v.toNat).map byteCell) rfl (hown.alloc _) ⟨wr.heap.size, 0, none⟩ 1 1 [.int .u8 (v / 2 ^ (56 - 8 * j) % 256)] rfl rfl ?c1 ?c2 ?c3 ?c4 ?c5 ?_)
    case c1 => exact cell_one_new _ _ _
    case c2 => simp [Value.oneCell']
    case c3 => simp only [maxLen]; omega
    case c4 => omega
    case c5 => have := hbw.size; simp; omega
    intro v' w1 hown1 hg1 _
    have hown2 : w1.ownsRow B 5 1 v' (l.length + (j + 1)) ((l ++ hiN (j + 1) v.toNat).map byteCell) := by
     rw [hiN, List.map_append, List.map_append, List.map_singleton, byteCell, ← HBY.out, ← List.append_assoc, ← List.map_append]; simpa [Nat.add_assoc] using hown1
    have hbw1 : Below B w0 w1 := (hbw.alloc (by have := hbw.size; omega) _).grown hg1 (by have := hbw.size; simp; omega) (own_ge hown)
    clear hown1 hg1 hbw hown
    go_wp2_with fail
    go_roundw
    case rel => exact ⟨j + 1, by omega, by go_num, hown2, hbw1⟩
    case measure => simp [intOf]; omega
  · have hj8 : j = 8 := by omega
    subst hj8
    go_wp2_with fail
    go_ret
    exact ⟨_, rfl, hown, hbw⟩
theorem replace_any (s : ByteArray) (m : Int) (w : World) (hs : s.size ≤ 100) (hm : w.cell? ⟨3, 0, none⟩ = some (.int .i64 m)) :
  Calls Tryz.prog 98 #[.string s, .string ⟨#[0]⟩, .string ⟨#[0, 255]⟩] w fun e w' => e = .returned (.string ⟨(keyT s.data.toList).toArray⟩) ∧ Below w.heap.size w w' := by
 have hc : Lib.countB s ⟨#[0]⟩ ≤ s.size := Lib.countB_le ⟨#[0]⟩ (by decide) s.size s (Nat.le_refl _)
 have h2 : (ByteArray.mk #[0, 255]).size = 2 := rfl
 refine (Tryz.strings_ReplaceAll s ⟨#[0]⟩ ⟨#[0, 255]⟩ m w (by omega) hm (by decide) (by rw [h2]; omega)).mono ?_
 rintro e w' ⟨rfl, hb⟩
 exact ⟨by rw [← keyT_replaceAll], hb⟩
end Go.Proofs.YtceoficoappkpaaGreatDoor
