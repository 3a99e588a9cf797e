/- Texts joined by a tool: contracts and walks of this claim. -/
import Derived.Test.YtceoficoappkpaaGreatDoorB18
namespace Go.Proofs.YtceoficoappkpaaGreatDoor
open Go.RowKit Go.Shelf
attribute [local go_sem] Oper.semAt_some

def okTo (tt : ByteArray) (p : Pr) : Bool := tt.toList == [] || kLt p.k tt
def scanL (tt : ByteArray) (most : Nat) (L : List Pr) : List Pr := (L.takeWhile (okTo tt)).take most
def cellsP (l : List Pr) : List Value := l.flatMap fun p => [.string p.k, .string p.v, .bool p.g]
theorem cellsP_snoc (l : List Pr) (x : Pr) : cellsP (l ++ [x]) = cellsP l ++ [.string x.k, .string x.v, .bool x.g] := by simp [cellsP]
theorem tw_all {α : Type} {f : α → Bool} {l : List α} (h : ∀ x ∈ l, f x = true) (m : List α) : (l ++ m).takeWhile f = l ++ m.takeWhile f := by
 induction l with
 | nil => rfl
 | cons x l ih => rw [List.cons_append, List.takeWhile_cons, if_pos (h x (by simp)), ih (fun y hy => h y (by simp [hy])), List.cons_append]
theorem scan_all {tt : ByteArray} {m : Nat} {l : List Pr} (h : ∀ x ∈ l, okTo tt x = true) (hl : l.length ≤ m) : scanL tt m l = l := by
 have := tw_all h []
 simp only [List.append_nil, List.takeWhile_nil] at this
 unfold scanL
 rw [this, List.take_of_length_le hl]
theorem scan_out {tt : ByteArray} {m : Nat} {l : List Pr} {x : Pr} (h : ∀ x ∈ l, okTo tt x = true) (hl : l.length ≤ m) (hx : okTo tt x = false) {L : List Pr} (hp : l ++ [x] <+: L) : scanL tt m L = l := by
 obtain ⟨s, rfl⟩ := hp
 unfold scanL
 rw [List.append_assoc, tw_all h, List.singleton_append, List.takeWhile_cons, if_neg (by simp [hx]), List.append_nil, List.take_of_length_le hl]
theorem scan_full {tt : ByteArray} {m : Nat} {l : List Pr} {x : Pr} (h : ∀ x ∈ l, okTo tt x = true) (hl : l.length + 1 = m) (hx : okTo tt x = true) {L : List Pr} (hp : l ++ [x] <+: L) : scanL tt m L = l ++ [x] := by
 obtain ⟨s, rfl⟩ := hp
 unfold scanL
 rw [tw_all (l := l ++ [x]) (by intro y hy; rcases List.mem_append.1 hy with hy | hy; exact h y hy; rw [List.mem_singleton.1 hy]; exact hx), ← hl, List.take_append_of_le_length (by simp), List.take_of_length_le (by simp)]
theorem each_any (mm : Nat) (fr : ByteArray) (w : World) : Calls Tryz.prog 83 #[.pointer (some ⟨mm, 0, none⟩), .string fr] w fun r w' => r = .returned (.func (.func 124) #[] #[.pointer (some ⟨w.heap.size, 0, none⟩), .pointer (some ⟨w.heap.size + 1, 0, none⟩)]) ∧ Blk w' w.heap.size #[.pointer (some ⟨mm, 0, none⟩)] 100 ∧ Blk w' (w.heap.size + 1) #[.string fr] 9 ∧ Below w.heap.size w w' := by
 go_enter Tryz.func83, Tryz.ntmps83
 go_wp2_with fail
 go_ret
 exact ⟨rfl, (by repeat (first | exact Blk.at (by simp) | assumption | refine Blk.drew ?_ | refine Blk.old ?_ _)), (by repeat (first | exact Blk.at (by simp) | assumption | refine Blk.drew ?_ | refine Blk.old ?_ _)), (by repeat (first | exact Below.refl _ _ | assumption | refine Below.drew ?_ | refine below_drewN ?_ _ | refine Below.alloc ?_ (by simp <;> omega) _))⟩
set_option maxRecDepth 100000 in
theorem scan_nil (m : Value) (fr tt : ByteArray) (most : Int) (w : World) (h : m = .pointer none ∨ ∃ mm : Nat, m = .pointer (some ⟨mm, 0, none⟩) ∧ most < 1) : Calls Tryz.prog 53 #[m, .string fr, .string tt, .int .i64 most] w fun r w' => r = .returned (.slice none 0 0) ∧ Below w.heap.size w w' := by
 rcases h with rfl | ⟨mm, rfl, h⟩
 · go_enter Tryz.func53, Tryz.ntmps53
   go_wp2_with fail
   refine bodyPost_ret (v := .slice none 0 0) (by simp [results, Tryz.results53, go_sem]) rfl ?_
   exact ⟨rfl, (by repeat (first | exact Below.refl _ _ | assumption | refine Below.drew ?_ | refine below_drewN ?_ _ | refine Below.alloc ?_ (by simp <;> omega) _))⟩
 · go_enter Tryz.func53, Tryz.ntmps53
   go_wp2_with fail
   refine bodyPost_ret (v := .slice none 0 0) (by simp [results, Tryz.results53, go_sem]) rfl ?_
   exact ⟨rfl, (by repeat (first | exact Below.refl _ _ | assumption | refine Below.drew ?_ | refine below_drewN ?_ _ | refine Below.alloc ?_ (by simp <;> omega) _))⟩
theorem info_Pr : (Tryz.prog.info? 45).map (fun i => (i.zero, i.size, i.bytes)) = some (some (.agg #[.string ⟨#[]⟩, .string ⟨#[]⟩, .bool false]), 3, 40) := by kernel_rfl
def RowP (B rb : Nat) (ys : List Pr) (W : World) : Prop := ∃ A c, Blk W rb #[.slice A ys.length c] 36 ∧ W.ownsRow B 45 3 (.slice A ys.length c) ys.length (cellsP ys)
def ScI (w : World) (tt : ByteArray) (most : Int) (bt : Nat) (pre : List Pr) (W : World) : Prop := (((∀ x ∈ pre, okTo tt x = true) ∧ (pre.length : Int) < most) ∧ (RowP w.heap.size (bt + 1 + 1) pre W ∧ Blk W bt #[.string tt] 9 ∧ Blk W (bt + 1) #[.int .i64 most] 3)) ∧ Below w.heap.size w W
def ScX (w : World) (tt : ByteArray) (most : Int) (bt : Nat) (c : Code) (pre : List Pr) (W : World) : Prop := (c = .exit 0 ∧ ∃ ys, (∀ L, pre <+: L → scanL tt most.toNat L = ys) ∧ RowP w.heap.size (bt + 1 + 1) ys W) ∧ Below w.heap.size w W
theorem rowP_own {B rb : Nat} {ys : List Pr} {X Y : World} {row : Option Nat} (h : RowP B rb ys X) (hg : X.grownBy Y row) (hr : ∀ r, row = some r → ∃ o : Obj, X.heap[r]? = some o ∧ o.isCells = false) : RowP B rb ys Y := by
 obtain ⟨A, c, h1, h2⟩ := h
 exact ⟨A, c, (Rg.blk_own rb (fun (_ : Unit) => #[.slice A ys.length c]) 36 : Own _) () X Y row h1 hg hr, (Rg.own_own (β := Unit) _ _ _ _ (.slice A ys.length c) _ : Own _) () X Y row h2 hg hr⟩
theorem scI_own {w : World} {tt : ByteArray} {most : Int} {bt B : Nat} (hB : w.heap.size ≤ B) : OwnFrom B (ScI w tt most bt) := by
 intro s X Y row ⟨⟨h0, h1, h2, h3⟩, h5⟩ hg hr
 exact ⟨⟨h0, rowP_own h1 hg (fun r e => (hr r e).2), (Rg.blk_own bt (fun (_ : Unit) => #[.string tt]) _ : Own _) () X Y row h2 hg (fun r e => (hr r e).2), (Rg.blk_own (bt + 1) (fun (_ : Unit) => #[.int .i64 most]) _ : Own _) () X Y row h3 hg (fun r e => (hr r e).2)⟩, ownFrom_below (Nat.le_refl _) hB s X Y row h5 hg hr⟩
theorem scX_own {w : World} {tt : ByteArray} {most : Int} {bt B : Nat} (hB : w.heap.size ≤ B) (c : Code) : OwnFrom B (ScX w tt most bt c) := by
 intro s X Y row ⟨⟨h0, ys, h1, h2⟩, h5⟩ hg hr
 exact ⟨⟨h0, ys, h1, rowP_own h2 hg (fun r e => (hr r e).2)⟩, ownFrom_below (Nat.le_refl _) hB s X Y row h5 hg hr⟩
def ScanP (w : World) (ys : List Pr) (r : Ending) (w' : World) : Prop := ∃ A c, r = .returned (.slice A ys.length c) ∧ w'.ownsRow w.heap.size 45 3 (.slice A ys.length c) ys.length (cellsP ys) ∧ Below w.heap.size w w'
set_option maxRecDepth 100000 in
set_option maxHeartbeats 2000000 in
theorem scan_any (mm : Nat) (t : Tr) (fr tt : ByteArray) (most : Int) (w : World) (hM : MemR w mm t) (hm : 1 ≤ most) (hlen : (t.fromL fr).length ≤ 1000000000) :
  Calls Tryz.prog 53 #[.pointer (some ⟨mm, 0, none⟩), .string fr, .string tt, .int .i64 most] w (ScanP w (scanL tt most.toNat (t.fromL fr))) := by
 obtain ⟨i0, hi0, hz0, hz1, hz2⟩ := info_parts info_Pr
 have hmost : (most < 1) = False := by simp; omega
 have hC0 : Below w.heap.size w (((w.alloc (.cells #[.string tt] 9)).alloc (.cells #[.int .i64 most] 3)).alloc (.cells #[.slice none 0 0] 36)) := (by repeat (first | exact Below.refl _ _ | assumption | refine Below.drew ?_ | refine below_drewN ?_ _ | refine Below.alloc ?_ (by simp <;> omega) _))
 have h1 : Blk (((w.alloc (.cells #[.string tt] 9)).alloc (.cells #[.int .i64 most] 3)).alloc (.cells #[.slice none 0 0] 36)) w.heap.size #[.string tt] 9 := (by repeat (first | exact Blk.at (by simp) | assumption | refine Blk.drew ?_ | refine Blk.old ?_ _))
 have h2 : Blk (((w.alloc (.cells #[.string tt] 9)).alloc (.cells #[.int .i64 most] 3)).alloc (.cells #[.slice none 0 0] 36)) (w.heap.size + 1) #[.int .i64 most] 3 := (by repeat (first | exact Blk.at (by simp) | assumption | refine Blk.drew ?_ | refine Blk.old ?_ _))
 have h3 : Blk (((w.alloc (.cells #[.string tt] 9)).alloc (.cells #[.int .i64 most] 3)).alloc (.cells #[.slice none 0 0] 36)) (w.heap.size + 2) #[.slice none 0 0] 36 := (by repeat (first | exact Blk.at (by simp) | assumption | refine Blk.drew ?_ | refine Blk.old ?_ _))
 have HM := hd_ hM
 clear hM
 refine callsIn_wide (n := 9) |>.1 ?_
 refine callsIn_of_wp_marks Tryz.func53 rfl trivial ?_ rfl
 simp only [Tryz.ntmps53, List.size_toArray, List.length_cons, List.length_nil, Nat.reduceAdd, Nat.reduceSub, Array.replicate_succ, Array.replicate_zero, List.push_toArray, List.append_toArray, List.nil_append, List.cons_append]
 gi_wp2_with fail
 refine ⟨trivial, callsIn_wide.2 ((each_any mm fr _).mono ?_)⟩
 rintro r w2 ⟨rfl, hx1, hx2, hb⟩
 have HX1 := hd_ hx1
 have HX2 := hd_ hx2
 have H1 := hd_ (h1.ext hb)
 have H2 := hd_ (h2.ext hb)
 have H3 := hd_ (h3.ext hb)
 have HC := hd_ (bt hC0 hb)
 clear hx1 hx2 hb h1 h2 h3 hC0
 simp only [World.size_alloc] at HX1 HX2 ⊢
 generalize hbb : w.heap.size + 1 + 1 + 1 = Bm at HX1 HX2 ⊢
 generalize hbf : Bm + 1 = Bf at HX2 ⊢
 have hlt : w.heap.size + 2 < w2.heap.size := H3.out.lt
 have HN0 : Hid (w.heap.size ≤ w2.heap.size) := HC.out.size
 have hBl : Bf < w2.heap.size := HX2.out.lt
 have HS := hd_ (each1_stops w 8 Bm Bf mm t fr w2 HX1.out HX2.out HM.out HC.out)
 have hI0 : ScI w tt most w.heap.size [] w2 := ⟨⟨⟨by simp, by simp; omega⟩, ⟨none, 0, H3.out, World.ownsRow_nil _ _ _ _⟩, H1.out, H2.out⟩, HC.out⟩
 have HI0 := hd_ hI0
 have HB : Hid (∃ b : Nat, b = w.heap.size) := ⟨_, rfl⟩
 clear H1 H2 H3 HX1 HX2 HM hI0
 generalize hbx : w.heap.size = bx at HI0 hlt ⊢
 have HBX := hd_ hbx
 clear hbx
 gi_wp2_with fail
 refine wpIn_rangeFunc_ownH rfl (by omega) (gf := 124) (lb := #[.pointer (some ⟨Bm, 0, none⟩), .pointer (some ⟨Bf, 0, none⟩)]) rfl trivial (enters_of Tryz.func124 (by kernel_rfl) rfl)
  HS.out (fun h k => h.trans k) (belowK_b HN0.out) (Below.refl _ _) (fun _ => rfl)
  (ScI w tt most bx) (ScX w tt most bx) (scI_own HN0.out) (scX_own HN0.out) HI0.out
  (fun x a' W => ∃ Bx : Nat, (bx + 2 < Bx ∧ a' = ⟨#[.pointer (some ⟨mm, 0, none⟩), .string fr, .string tt, .int .i64 most, undef, undef, .pointer (some ⟨bx, 0, none⟩), .pointer (some ⟨bx + 1, 0, none⟩), .pointer (some ⟨bx + 1 + 1, 0, none⟩), .pointer (some ⟨Bx, 0, none⟩), .pointer (some ⟨mm, 0, none⟩), .bool false, .bool false, .int .i64 most, .bool false, .bool false, .pointer (some ⟨mm, 0, none⟩), .string fr, .func (.func 124) #[] #[.pointer (some ⟨Bm, 0, none⟩), .pointer (some ⟨Bf, 0, none⟩)], .agg #[.string x.k, .string x.v, .bool x.g], undef, undef, undef, undef, undef, undef, undef, undef, undef, undef, undef, undef, undef, undef, undef, undef, undef], []⟩) ∧ Blk W Bx #[.string x.k, .string x.v, .bool x.g] 45)
  (fun x a' _ X Y row hs hg hr => by obtain ⟨Bx, h1, h2⟩ := hs; exact ⟨Bx, h1, (Rg.blk_own Bx (fun (_ : Unit) => #[.string x.k, .string x.v, .bool x.g]) 45 : Own _) () X Y row h2 hg (fun r e => (hr r e).2)⟩)
  ?assign ?body ?loopend ?stop
 case assign =>
  rintro l pre x W K1 hI hK
  have HK1 := hd_ hK
  have HI := hd_ hI
  have hltW : bx + 2 < W.heap.size := by obtain ⟨⟨_, ⟨A, c, h, _⟩, _⟩, _⟩ := hI; exact h.lt
  have hsW : w.heap.size ≤ W.heap.size := hI.2.size
  clear hI hK
  unfold Pr.agg
  gi_wp2_with fail
  refine HK1.out _ _ (Rg.keepsFrom_below ((by repeat (first | exact Below.refl _ _ | assumption | refine Below.drew ?_ | refine below_drewN ?_ _ | refine Below.alloc ?_ (by simp <;> omega) _)))) (Below.mono ((by repeat (first | exact Below.refl _ _ | assumption | refine Below.drew ?_ | refine below_drewN ?_ _ | refine Below.alloc ?_ (by simp <;> omega) _)) : Below W.heap.size W (W.alloc (.cells #[.string x.k, .string x.v, .bool x.g] 45))) hsW) ?_ ⟨W.heap.size, ⟨hltW, rfl⟩, Blk.new _ _ _⟩
  obtain ⟨⟨h0, ⟨A, c, e1, e2⟩, e3, e4⟩, h5⟩ := HI.out
  exact ⟨⟨h0, ⟨A, c, e1.ext ((by repeat (first | exact Below.refl _ _ | assumption | refine Below.drew ?_ | refine below_drewN ?_ _ | refine Below.alloc ?_ (by simp <;> omega) _))), own_below e2 ((by repeat (first | exact Below.refl _ _ | assumption | refine Below.drew ?_ | refine below_drewN ?_ _ | refine Below.alloc ?_ (by simp <;> omega) _)))⟩, e3.ext ((by repeat (first | exact Below.refl _ _ | assumption | refine Below.drew ?_ | refine below_drewN ?_ _ | refine Below.alloc ?_ (by simp <;> omega) _))), e4.ext ((by repeat (first | exact Below.refl _ _ | assumption | refine Below.drew ?_ | refine below_drewN ?_ _ | refine Below.alloc ?_ (by simp <;> omega) _)))⟩, h5.trans (Below.mono ((by repeat (first | exact Below.refl _ _ | assumption | refine Below.drew ?_ | refine below_drewN ?_ _ | refine Below.alloc ?_ (by simp <;> omega) _)) : Below W.heap.size W (W.alloc (.cells #[.string x.k, .string x.v, .bool x.g] 45))) hsW)⟩
 case body =>
  rintro l pre x a' W hl ⟨r, hr⟩ ⟨⟨⟨hok, hpm⟩, ⟨A, c, e1, e2⟩, e3, e4⟩, h5⟩ ⟨Bx, ⟨hBx, rfl⟩, hX⟩ hlt
  obtain ⟨lbt, tt0⟩ := id (show bx < W.heap.size ∧ W.cell? ⟨bx, 0, none⟩ = some (.string tt) from ⟨e3.lt, e3.cell 0⟩)
  obtain ⟨lbm, mm0⟩ := id (show bx + 1 < W.heap.size ∧ W.cell? ⟨bx + 1, 0, none⟩ = some (.int .i64 most) from ⟨e4.lt, e4.cell 0⟩)
  obtain ⟨lx, x0, x1, x2⟩ := blk3 hX
  have HE1 := hd_ e1
  have HO := hd_ e2
  have HE3 := hd_ e3
  have HE4 := hd_ e4
  have H5 := hd_ h5
  have HOK := hd_ hok
  have HX := hd_ hX
  clear e1 e2 e3 e4 h5 hok hX
  by_cases c1 : okTo tt x = true
  · have c1' := c1
    simp only [okTo, Bool.or_eq_true] at c1'
    have c4 : (tt.toList == []) = true ∨ ((tt.toList == []) = false ∧ Op.bytesLess x.k.toList tt.toList = true) := by
     by_cases h : (tt.toList == []) = true
     · exact Or.inl h
     · exact Or.inr ⟨by simpa using h, c1'.resolve_left h⟩
    clear c1'
    have C1 := hd_ c1
    clear c1
    have e0 : W.cell? ⟨bx + 1 + 1, 0, none⟩ = some (.slice A pre.length c) := HE1.out.cell 0
    have le := HE1.out.lt
    have hA2 : Below W.heap.size W (W.alloc (.cells #[.string x.k, .string x.v, .bool x.g] 45)) := bel1 _ _
    have HO2 := hd_ (own_below HO.out hA2)
    have HE2 := hd_ (HE1.out.ext hA2)
    have HE42 := hd_ (HE4.out.ext hA2)
    have HE32 := hd_ (HE3.out.ext hA2)
    have HA2 := hd_ hA2
    have hsW : w.heap.size ≤ W.heap.size := H5.out.size
    clear hA2
    rcases c4 with c2 | ⟨c2, c3⟩
    all_goals
     gi_wp2_with (gi_at_builtin; refine wpListIn_append_own _ rfl _ _ 36 rfl w.heap.size 45 i0 _ 3 40 Tryz.underlying36 hi0 hz0 hz1 hz2 rfl (by decide) (.slice A pre.length c) pre.length (cellsP pre) rfl HO2.out ⟨W.heap.size, 0, none⟩ 1 1 [.string x.k, .string x.v, .bool x.g] rfl rfl ?k1 (by simp [Value.oneCell']) ?b1 ?b2 ?b3 ?_)
     case k1 => exact cells_blk3 (Blk.new _ _ _)
     case b1 => simp only [maxLen]; omega
     case b2 => omega
     case b3 => simp; omega
     intro v1 w3 hown1 hg1 _
     obtain ⟨A1, c1, rfl⟩ := Rg.row_form hown1
     have hE3 := Rg.blk_grown HE2.out HO2.out (by decide) hg1
     have hE43 := Rg.blk_grown HE42.out HO2.out (by decide) hg1
     have hE33 := Rg.blk_grown HE32.out HO2.out (by decide) hg1
     have hF3 : KeepsFrom w2.heap.size W w3 := (Rg.keepsFrom_below HA2.out).trans (Rg.keepsFrom_grown HO2.out hg1)
     have hsA : w.heap.size ≤ (W.alloc (.cells #[.string x.k, .string x.v, .bool x.g] 45)).heap.size := by simp; omega
     have hK3 : Below w.heap.size W w3 := (HA2.out.mono hsW).grown hg1 hsA (fun k e => (HO2.out.lt k e).1)
     have hown1' := hown1
     clear hown1 hg1 HO2 HE2 HE42 HE32 HA2 HE1 HO HE3 HE4 HX e0 le lbt tt0 lbm mm0 lx x0 x1 x2
     obtain ⟨w5, he5, lt⟩ := blk_put hE3
     subst he5
     obtain ⟨pc, pf, pS⟩ := putBlk_facts (w := w5) 36 lt
     have HO5 := hd_ (own_put hown1' lt (by decide) #[.slice A1 (pre.length + 1) c1])
     have hE45 := putBlk_old hE43 (by omega) #[.slice A1 (pre.length + 1) c1]
     have HE35 := hd_ (putBlk_old hE33 (by omega) #[.slice A1 (pre.length + 1) c1])
     have HE55 := hd_ (putBlk_blk (w := w5) #[.slice A1 (pre.length + 1) c1] 36 lt)
     have HF5 : Hid (KeepsFrom w2.heap.size W (putBlk w5 (bx + 1 + 1) #[.slice A1 (pre.length + 1) c1] 36)) := hF3.trans (Rg.keepsFrom_put lt)
     have HK5 : Hid (Below w.heap.size W (putBlk w5 (bx + 1 + 1) #[.slice A1 (pre.length + 1) c1] 36)) := putBlk_belows hK3 (by have := HBX.out; omega) _
     have HE45 := hd_ hE45
     have m5 : (putBlk w5 (bx + 1 + 1) #[.slice A1 (pre.length + 1) c1] 36).cell? ⟨bx + 1, 0, none⟩ = some (.int .i64 most) := hE45.cell 0
     have lm5 := hE45.lt
     have hpc : cellsP pre ++ [.string x.k, .string x.v, .bool x.g] = cellsP (pre ++ [x]) := (cellsP_snoc pre x).symm
     have hpl : pre.length + 1 = (pre ++ [x]).length := by simp
     have HPC := hd_ hpc
     have HPL := hd_ hpl
     have hn1 : IntKind.i64.wrap ((pre.length : Int) + 1) = (pre.length : Int) + 1 := IntWalk.i64_in _ (by omega)
     clear hown1' hE43 hE33 hE3 hE45 hF3 hK3 hpc hpl
     by_cases c6 : (pre.length : Int) + 1 = most
     · have c6' : ((pre.length : Int) + 1 == most) = true := by simp; omega
       have HL := hd_ (show pre.length + 1 = most.toNat by omega)
       clear c6
       gi_wp2_with fail
       refine ⟨HF5.out, ⟨⟨rfl, pre ++ [x], fun L hp => scan_full HOK.out HL.out C1.out hp, A1, c1, ?_, ?_⟩, H5.out.trans HK5.out⟩⟩
       · rw [← HPL.out]; exact HE55.out
       · rw [← HPL.out, ← HPC.out]; exact HO5.out
     · have c6' : ((pre.length : Int) + 1 == most) = false := by simp; omega
       have HL := hd_ (show (pre.length : Int) + 1 < most by omega)
       clear c6
       gi_wp2_with fail
       refine ⟨HF5.out, HK5.out, ⟨⟨⟨?_, ?_⟩, ⟨A1, c1, ?_, ?_⟩, HE35.out, HE45.out⟩, H5.out.trans HK5.out⟩⟩
       · intro y hy
         rcases List.mem_append.1 hy with hy | hy
         · exact HOK.out y hy
         · rw [List.mem_singleton.1 hy]; exact C1.out
       · rw [← HPL.out]; exact_mod_cast HL.out
       · rw [← HPL.out]; exact HE55.out
       · rw [← HPL.out, ← HPC.out]; exact HO5.out
  · have c1' := c1
    simp only [okTo, Bool.or_eq_true, not_or] at c1'
    obtain ⟨c2, c3⟩ := c1'
    have c2' : (tt.toList == []) = false := by simpa using c2
    have c3' : Op.bytesLess x.k.toList tt.toList = false := kLt_f c3
    have HF := hd_ (show Below w.heap.size w W → ScX w tt most bx (.exit 0) (pre ++ [x]) W from fun hb => ⟨⟨rfl, pre, fun L hp => scan_out HOK.out (by omega) (by simpa using c1) hp, A, c, HE1.out, HO.out⟩, hb⟩)
    gi_wp2_with fail
    exact ⟨Rg.keepsFrom_below (Below.refl _ _), HF.out H5.out⟩
 case loopend =>
  rintro D ys W hD hys ⟨⟨⟨hok, hlm⟩, ⟨A, c, e1, e2⟩, _, _⟩, hB⟩ hK
  have hR : scanL tt most.toNat (t.fromL fr) = ys := by rw [← hys]; exact scan_all hok (by omega)
  have HR := hd_ hR
  clear hok hlm hys
  obtain ⟨w3, rfl, lt⟩ := blk_put e1
  obtain ⟨pc, pf, pS⟩ := putBlk_facts (w := w3) 36 lt
  have HO2 := hd_ e2
  have HD2 := hd_ hD
  have HB2 := hd_ hB
  have HKD := hd_ (show (putBlk w3 (bx + 1 + 1) #[.slice A ys.length c] 36).heap[D]? = some (.deferred (some [])) from hK)
  clear e1 e2 hB hD hK hR
  gi_wp2_with fail
  refine ⟨by simp, .inl ⟨_, _, rfl, run_takeDeferred HKD.out, ?_⟩⟩
  have hc5 := cell_kept (pc #[.slice A ys.length c] 0) (grownBy_putObj' _ D (.deferred none)) (fun r e => by cases e; exact ⟨_, HKD.out, rfl⟩)
  have hN := HN0.out
  have hD2 := HD2.out
  refine ⟨.slice A ys.length c, ?_, ?_⟩
  · simp [results, Tryz.results53, go_sem, hc5]
  · rw [HR.out]
    exact ⟨A, c, rfl, (Rg.own_own (β := Unit) _ _ _ _ (.slice A ys.length c) _ : Own _) () _ _ _ HO2.out (grownBy_putObj' _ D (.deferred none)) (fun r e => by cases e; exact ⟨_, HKD.out, rfl⟩), HB2.out.trans (belowK_b (w := w) (Nat.le_refl _) _ D _ _ (by omega) HKD.out rfl rfl)⟩
 case stop =>
  rintro D c0 pre W hD hpre ⟨⟨rfl, ys, hy, A, c, e1, e2⟩, hB⟩ hK
  have hR : scanL tt most.toNat (t.fromL fr) = ys := hy _ hpre
  have HR := hd_ hR
  clear hy hpre
  obtain ⟨w3, rfl, lt⟩ := blk_put e1
  obtain ⟨pc, pf, pS⟩ := putBlk_facts (w := w3) 36 lt
  have HO2 := hd_ e2
  have HD2 := hd_ hD
  have HB2 := hd_ hB
  have HKD := hd_ (show (putBlk w3 (bx + 1 + 1) #[.slice A ys.length c] 36).heap[D]? = some (.deferred (some [])) from hK)
  clear e1 e2 hB hD hK hR
  gi_wp2_with fail
  refine ⟨by simp, .inl ⟨_, _, rfl, run_takeDeferred HKD.out, ?_⟩⟩
  have hc5 := cell_kept (pc #[.slice A ys.length c] 0) (grownBy_putObj' _ D (.deferred none)) (fun r e => by cases e; exact ⟨_, HKD.out, rfl⟩)
  have hN := HN0.out
  have hD2 := HD2.out
  refine ⟨.slice A ys.length c, ?_, ?_⟩
  · simp [results, Tryz.results53, go_sem, hc5]
  · rw [HR.out]
    exact ⟨A, c, rfl, (Rg.own_own (β := Unit) _ _ _ _ (.slice A ys.length c) _ : Own _) () _ _ _ HO2.out (grownBy_putObj' _ D (.deferred none)) (fun r e => by cases e; exact ⟨_, HKD.out, rfl⟩), HB2.out.trans (belowK_b (w := w) (Nat.le_refl _) _ D _ _ (by omega) HKD.out rfl rfl)⟩
end Go.Proofs.YtceoficoappkpaaGreatDoor
namespace Go.Proofs.YtceoficoappkpaaGreatDoor
open Go.RowKit Go.Shelf
attribute [local go_sem] Oper.semAt_some

structure VwR (w : World) (B v kk m : Nat) (t : Tr) : Prop where
 b : Blk w v #[.pointer (some ⟨kk, 0, none⟩), .pointer (some ⟨m, 0, none⟩)] 102
 mem : MemR w m t
 out : v ∉ m :: t.blks
 lo : ∀ x ∈ m :: t.blks, B ≤ x
theorem VwR.ext {w w' : World} {B v kk m : Nat} {t : Tr} (h : VwR w B v kk m t) (hb : Below w.heap.size w w') : VwR w' B v kk m t := ⟨h.b.ext hb, h.mem.ext hb, h.out, h.lo⟩
theorem blk2f {w : World} {b : Nat} {a0 a1 : Value} {t : TypeId} (h : Blk w b #[a0, a1] t) : b < w.heap.size ∧ w.cell? ⟨b, 0, none⟩ = some a0 ∧ w.cell? ⟨b, 1, none⟩ = some a1 ∧ ∀ i, w.frozen? ⟨b, i, none⟩ = false := ⟨h.lt, h.cell 0, h.cell 1, fun i => h.frozen i⟩
theorem nil_tl : (⟨#[]⟩ : ByteArray).toList = [] := by
 rw [ByteArray.toList, ByteArray.toList.loop]
 rfl
theorem nil_from : ∀ t : Tr, t.fromL ⟨#[]⟩ = t.toL
 | .nil => rfl
 | .node b q r L R => by
  have h : ¬ kLt q.k ⟨#[]⟩ = true := by
   rw [kLt_iff, nil_tl]
   exact List.not_lt_nil _
  rw [Tr.fromL, if_neg h, nil_from L, nil_from R]
  rfl
theorem ok_nil (p : Pr) : okTo ⟨#[]⟩ p = true := by
 unfold okTo
 rw [nil_tl]
 rfl
theorem scan_len (mm : Nat) (t : Tr) (w : World) (hM : MemR w mm t) (hlen : t.toL.length ≤ 1000000000) :
  Calls Tryz.prog 53 #[.pointer (some ⟨mm, 0, none⟩), .string ⟨#[]⟩, .string ⟨#[]⟩, .int .i64 t.toL.length] w (ScanP w t.toL) := by
 by_cases h : t.toL.length = 0
 · refine (scan_nil _ ⟨#[]⟩ ⟨#[]⟩ t.toL.length w (Or.inr ⟨mm, rfl, by omega⟩)).mono ?_
   rintro r W ⟨rfl, hb⟩
   have e : t.toL = [] := List.eq_nil_of_length_eq_zero h
   rw [e]
   exact ⟨none, 0, rfl, World.ownsRow_nil _ _ _ _, hb⟩
 · have := scan_any mm t ⟨#[]⟩ ⟨#[]⟩ t.toL.length w hM (by omega) (by rw [nil_from]; exact hlen)
   rw [nil_from, scan_all (fun x _ => ok_nil x) (by omega)] at this
   exact this
theorem on_any (kk : Nat) (w : World) : Calls Tryz.prog 24 #[.pointer (some ⟨kk, 0, none⟩)] w fun r w' => ∃ v m, r = .returned (.tuple #[.pointer (some ⟨v, 0, none⟩), .int .i64 0]) ∧ VwR w' w.heap.size v kk m .nil ∧ w.heap.size ≤ v ∧ Below w.heap.size w w' := by
 go_enter Tryz.func24, Tryz.ntmps24
 go_wp2_with fail
 refine (memnew_any _).mono ?_
 rintro r w1 ⟨rfl, hM, hb⟩
 have hM2 : MemB (w1.alloc (.cells #[.pointer (some ⟨kk, 0, none⟩), .pointer (some ⟨w.heap.size, 0, none⟩)] 102)) w.heap.size none 0 0 0 := hM.ext (by repeat (first | exact Below.refl _ _ | assumption | refine Below.drew ?_ | refine below_drewN ?_ _ | refine Below.alloc ?_ (by simp <;> omega) _))
 have HM := hd_ hM2
 have HB := hd_ hb
 have hl : w.heap.size < w1.heap.size := hM.1.lt
 clear hM hM2 hb
 go_wp2_with fail
 refine bodyPost_ret (v := .tuple #[.pointer (some ⟨w1.heap.size, 0, none⟩), .int .i64 0]) (by simp [results, Tryz.results24, go_sem]) rfl ?_
 exact ⟨w1.heap.size, w.heap.size, rfl, ⟨Blk.new _ _ _, MemR.new HM.out, by simp [Tr.blks]; omega, by simp [Tr.blks]⟩, by omega, HB.out.trans ((Below.refl _ _).alloc (by omega) _)⟩
theorem on_nil (w : World) : Calls Tryz.prog 24 #[.pointer none] w fun r w' => r = .returned (.tuple #[.pointer none, .int .i64 1]) ∧ Below w.heap.size w w' := by
 go_enter Tryz.func24, Tryz.ntmps24
 go_wp2_with fail
 refine bodyPost_ret (v := .tuple #[.pointer none, .int .i64 1]) (by simp [results, Tryz.results24, go_sem]) rfl ?_
 exact ⟨rfl, (by repeat (first | exact Below.refl _ _ | assumption | refine Below.drew ?_ | refine below_drewN ?_ _ | refine Below.alloc ?_ (by simp <;> omega) _))⟩
set_option maxRecDepth 100000 in
set_option maxHeartbeats 1000000 in
theorem laid_any (B v kk m : Nat) (t : Tr) (w : World) (h : VwR w B v kk m t) (hlen : t.toL.length ≤ 1000000000) : Calls Tryz.prog 22 #[.pointer (some ⟨v, 0, none⟩)] w (ScanP w t.toL) := by
 have hW : Below w.heap.size w w.drew := (by repeat (first | exact Below.refl _ _ | assumption | refine Below.drew ?_ | refine below_drewN ?_ _ | refine Below.alloc ?_ (by simp <;> omega) _))
 have HS := hd_ (scan_len m t w.drew (h.mem.ext hW) hlen)
 obtain ⟨sz, sd, hMB⟩ := h.mem.b
 have HL := hd_ (memlen_any m t.addr t.toL.length sz sd w.drew (hMB.ext hW))
 obtain ⟨lv, v0, v1, vf⟩ := blk2f h.b
 clear hMB h
 go_enter Tryz.func22, Tryz.ntmps22
 go_upto_region 3 with fail
 let Iv : Nat → (Option Addr × Nat) → World → Prop := fun k g W1 => match k with
  | 0 => W1 = w.drew
  | _ => W1.ownsRow w.heap.size 45 3 (.slice g.1 t.toL.length g.2) t.toL.length (cellsP t.toL) ∧ Below w.heap.size w W1
 refine region_phase (Iv) (fun k a b => k = 0 ∨ b = a) ((none, 0)) (fun g => [.pointer (some ⟨v, 0, none⟩), .pointer (some ⟨v, 0, none⟩), .pointer (some ⟨v, 1, none⟩), .pointer (some ⟨m, 0, none⟩), .pointer (some ⟨v, 0, none⟩), .pointer (some ⟨v, 0, none⟩), .pointer (some ⟨v, 1, none⟩), .pointer (some ⟨m, 0, none⟩), .int .i64 t.toL.length, .slice g.1 t.toL.length g.2, .slice g.1 t.toL.length g.2]) [9] [(0, 0), (0, 0), (0, 0), (0, 0), (0, 0), (0, 0), (0, 0), (0, 0), (0, 0), (0, 1), (1, 1)] [false, false, true, false, false, true, true, true, true, true, true, true, true, true, true] [5, 6, 7, 8, 9, 10, 11, 12, 13, 14, 2] [10] rfl (fun _ => rfl) (fun k ga gb hr j c hc hne hcl => hr.elim (fun hk => by subst hk; obtain rfl : 9 = c := (by simpa using hc); exact (match j, hne, hcl with | 0, _, _ => rfl | 1, _, _ => rfl | 2, _, _ => rfl | 3, _, _ => rfl | 4, _, _ => rfl | 5, _, _ => rfl | 6, _, _ => rfl | 7, _, _ => rfl | 8, _, _ => rfl | 9, hne, _ => absurd rfl hne | 10, _, hcl => absurd (hcl.symm.trans (by kernel_rfl)) Bool.false_ne_true | j + 11, _, _ => rfl)) (fun h => by rw [h])) (by kernel_rfl) (by kernel_rfl) (by kernel_rfl) (by decide) (by kernel_rfl) (by kernel_rfl) (by kernel_rfl) (by kernel_rfl) (by kernel_rfl) ⟨PhStep.pure rfl ?_, PhStep.pure rfl ?_, PhStep.pure rfl ?_, PhStep.pure rfl ?_, PhStep.pure rfl ?_, PhStep.pure rfl ?_, PhStep.pure rfl ?_, PhStep.pure rfl ?_, PhStep.pure rfl ?_, PhStep.chain 0 rfl ?c3_9, PhStep.pure rfl ?_, trivial⟩ ?done3
 case done3 =>
  intro g x W1 hiv
  have hF : W1.ownsRow w.heap.size 45 3 (.slice g.1 t.toL.length g.2) t.toL.length (cellsP t.toL) ∧ Below w.heap.size w W1 := hiv
  simp only [StepGoal, List.map_cons, List.map_nil, overlay, upd, cond_true, cond_false, List.getD_cons_zero, List.getD_cons_succ, Nat.zero_add, Nat.reduceAdd, Nat.reduceEqDiff, reduceIte]
  clear hiv Iv
  have HF := hd_ hF
  clear hF
  go_wp2_with fail
  go_ret
  exact ⟨g.1, g.2, rfl, HF.out.1, HF.out.2⟩
 case c3_9 =>
  intro g x W1 hiv
  have hW1 : W1 = w.drew := hiv
  subst hW1
  intro K hK
  rw [if_pos (by rfl)]; simp only [overlay, upd, cond_true, cond_false, List.getD_cons_zero, List.getD_cons_succ, Nat.reduceEqDiff, reduceIte]
  go_simp
  refine HS.out.mono ?_
  rintro e W' ⟨A, c, rfl, h1, h2⟩
  exact hK.out _ _ (A, c) ⟨h1, hW.trans h2⟩ (Or.inl rfl) rfl
 all_goals
  intro k hk1 hk2 g x W1 hiv
  intro K hK
  first
   | (rw [if_pos (by rfl)]; simp only [overlay, upd, cond_true, cond_false, List.getD_cons_zero, List.getD_cons_succ, Nat.reduceEqDiff, reduceIte]
      go_simp
      exact hK.out _ _ _ hiv rfl rfl)
   | (obtain rfl : k = 0 := by simp at hk2; omega
      have hW : W1 = w.drew := hiv
      subst hW
      first
       | (rw [if_pos (by rfl)]; simp only [overlay, upd, cond_true, cond_false, List.getD_cons_zero, List.getD_cons_succ, Nat.reduceEqDiff, reduceIte]
          go_simp
          exact hK.out _ _ _ rfl rfl rfl)
       | (rw [if_pos (by rfl)]; simp only [overlay, cond_true, cond_false]
          go_simp
          exact hK.out _ _ _ rfl rfl rfl)
       | (rw [if_pos (by rfl)]; simp only [overlay, upd, cond_true, cond_false, List.getD_cons_zero, List.getD_cons_succ, Nat.reduceEqDiff, reduceIte]
          go_simp
          refine HL.out.mono ?_
          rintro e W' ⟨rfl, rfl⟩
          exact hK.out _ _ _ rfl rfl rfl))
end Go.Proofs.YtceoficoappkpaaGreatDoor
