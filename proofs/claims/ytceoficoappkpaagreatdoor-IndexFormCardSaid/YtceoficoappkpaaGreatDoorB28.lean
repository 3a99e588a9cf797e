/- Texts joined by a tool: contracts and walks of this claim. -/
import Derived.Test.YtceoficoappkpaaGreatDoorB27
namespace Go.Proofs.YtceoficoappkpaaGreatDoor
open Go.RowKit
theorem txt_empty {t : ByteArray} : t.toList.isEmpty = decide (t.size = 0) := by
 rw [ByteArray.toList_eq]
 have : t.data.toList.length = t.size := by simp
 cases h : t.data.toList with
 | nil => rw [h] at this; simp at this; simp [← this]
 | cons c r => rw [h] at this; simp at this; simp [← this]
theorem bsizeB : (Tryz.prog.info? 232).map (·.size) = some 2 := by kernel_rfl
theorem bliesB : liesAt Tryz.prog Tryz.prog.depth 232 (2 / Tryz.prog.cellsOf 232) 0 232 1 = true := by kernel_rfl
set_option maxRecDepth 100000 in
set_option maxHeartbeats 1000000 in
theorem bcheck_used (b : Nat) (w : World) (h0 : w.cell? ⟨b, 0, none⟩ = some (.pointer (some ⟨b, 0, none⟩))) :
  Calls Tryz.prog 174 #[.pointer (some ⟨b, 0, none⟩)] w fun e w' => e = .returned (.tuple #[]) ∧ w' = w := by
 obtain ⟨j, hj, _⟩ := Option.map_eq_some_iff.1 bsizeB
 go_enter Tryz.func174, Tryz.ntmps174
 go_wp2
 rw [Lib.run_neq_ptr_same w _ Tryz.underlying230 hj]
 go_wp2
 go_end0
 exact ⟨rfl, rfl⟩
set_option maxRecDepth 100000 in
set_option maxHeartbeats 1000000 in
theorem bcheck_fresh (b : Nat) (w : World) (h0 : w.cell? ⟨b, 0, none⟩ = some (.pointer none)) (hsh : w.shape? b = some (232, 2)) (hfz : w.frozen? ⟨b, 0, none⟩ = false) :
  Calls Tryz.prog 174 #[.pointer (some ⟨b, 0, none⟩)] w fun e w' => e = .returned (.tuple #[]) ∧ w' = w.setCell ⟨b, 0, none⟩ (.pointer (some ⟨b, 0, none⟩)) := by
 obtain ⟨j, hj, hjs⟩ := Option.map_eq_some_iff.1 bsizeB
 go_enter Tryz.func174, Tryz.ntmps174
 go_wp2
 rw [Lib.run_to_unsafe w ⟨b, 0, none⟩ Tryz.underlying230 Tryz.underlying306 hj (by rw [hjs]; decide) hsh (Nat.zero_lt_succ 1)]
 simp only [Result.andThen]
 rw [Oper.upon_value]
 go_wp2
 rw [run_callFunc_extern Tryz.func214 (by kernel_rfl) (by kernel_rfl) (by kernel_rfl) (e := Extern.AbiNoEscape.same) (by kernel_rfl)]
 rw [Lib.run_noEscape]
 simp only [Result.andThen]
 rw [Oper.upon_value]
 go_wp2
 rw [Lib.run_from_unsafe w ⟨b, 0, none⟩ Tryz.underlying306 Tryz.underlying230 hj hsh bliesB]
 simp only [Result.andThen]
 rw [Oper.upon_value]
 go_wp2
 go_end0
 exact ⟨rfl, rfl⟩
theorem own_wk {w : World} {base base' e size n : Nat} {v : Value} {xs : List Value} (h : w.ownsRow base e size v n xs) (hb : base' ≤ base) : w.ownsRow base' e size v n xs :=
 ⟨h.1, h.2.elim Or.inl fun ⟨g, cap, cur, e1, e2, r⟩ => Or.inr ⟨g, cap, cur, e1, Nat.le_trans hb e2, r⟩⟩
def BX (B b : Nat) (p : Value) (bs : List Value) (w : World) : Prop :=
 ∃ v, w.heap[b]? = some (.cells #[p, v] 232 (0, 0)) ∧ w.ownsRow B 5 1 v bs.length bs ∧ v.ownBlock ≠ some b
structure KX (B b : Nat) (w w' : World) : Prop where
 low : Below b w w'
 mid : ∀ k, b < k → k < B → w'.heap[k]? = w.heap[k]?
theorem KX.refl (B b : Nat) (w : World) : KX B b w w := ⟨Below.refl _ _, fun _ _ _ => rfl⟩
theorem KX.trans {B b : Nat} {w w1 w2 : World} (h : KX B b w w1) (k : KX B b w1 w2) : KX B b w w2 := ⟨h.low.trans k.low, fun i h1 h2 => (k.mid i h1 h2).trans (h.mid i h1 h2)⟩
theorem KX.of_below {B b : Nat} {w w' : World} (h : Below w.heap.size w w') (hB : B ≤ w.heap.size) (hb : b ≤ B) : KX B b w w' :=
 ⟨h.mono (by omega), fun k _ h2 => h.block k (by omega)⟩
theorem setCell_other {w : World} {b o k : Nat} {v : Value} (h : k ≠ b) : (w.setCell ⟨b, o, none⟩ v).heap[k]? = w.heap[k]? := Below.heap_setCell _ _ _ _ (fun e => h (by simpa using e))
theorem bxcheck (B b : Nat) (p : Value) (bs : List Value) (w : World) (h : BX B b p bs w) (hp : p = .pointer none ∨ p = .pointer (some ⟨b, 0, none⟩)) :
  Calls Tryz.prog 174 #[.pointer (some ⟨b, 0, none⟩)] w fun e w' => e = .returned (.tuple #[]) ∧ (BX B b (.pointer (some ⟨b, 0, none⟩)) bs w' ∧ KX B b w w' ∧ w'.heap.size = w.heap.size) := by
 obtain ⟨v, hb, hown, hne⟩ := h
 have hc0 : w.cell? ⟨b, 0, none⟩ = some p := by rw [Lib.cell_of_heap hb]; rfl
 rcases hp with rfl | rfl
 · refine (bcheck_fresh b w hc0 (by simp [World.shape?, hb]) (Lib.frozen_of_heap hb 0)).mono ?_
   rintro e w' ⟨rfl, rfl⟩
   refine ⟨rfl, ⟨v, ?_, ?_, hne⟩, ⟨(Below.refl b w).setCell (p := ⟨b, 0, none⟩) (Nat.le_refl _) _, fun k h1 _ => setCell_other (by omega)⟩, by simp [World.setCell]⟩
   · simp [World.setCell, Array.getElem?_modify, hb]
   · exact hown.kept (row := some b) ⟨rfl, rfl, rfl, by simp [World.setCell], fun k _ hk => setCell_other (fun e => hk (by simp [e]))⟩ (Or.inr hne)
 · refine (bcheck_used b w hc0).mono ?_
   rintro e w' ⟨rfl, rfl⟩
   exact ⟨rfl, ⟨v, hb, hown, hne⟩, KX.refl _ _ _, rfl⟩
set_option maxRecDepth 100000 in
set_option maxHeartbeats 1000000 in
theorem bxwrite (B b : Nat) (p : Value) (bs : List Value) (s : ByteArray) (w : World) (h : BX B b p bs w) (hp : p = .pointer none ∨ p = .pointer (some ⟨b, 0, none⟩)) (hlen : bs.length + s.size ≤ 140737488355328) (hbB : b < B) (hBw : B ≤ w.heap.size) :
  Calls Tryz.prog 135 #[.pointer (some ⟨b, 0, none⟩), .string s] w fun e w' => e = .returned (.tuple #[.int .i64 s.size, .nilIface]) ∧ (BX B b (.pointer (some ⟨b, 0, none⟩)) (bs ++ Lib.strCells s) w' ∧ KX B b w w' ∧ w.heap.size ≤ w'.heap.size) := by
 obtain ⟨i0, hi, hz0, hz1, hz2⟩ := info_parts info_u8
 have HCK := hd_ (bxcheck B b p bs w h hp)
 clear h hp
 go_enter Tryz.func135, Tryz.ntmps135
 go_wp2_with fail
 refine HCK.out.mono ?_
 rintro e w1 ⟨rfl, h1, hb1, hs1⟩
 obtain ⟨v, hbk, hown, hne⟩ := h1
 have c0 : w1.cell? ⟨b, 0, none⟩ = some (.pointer (some ⟨b, 0, none⟩)) := by rw [Lib.cell_of_heap hbk]; rfl
 have c1 : w1.cell? ⟨b, 1, none⟩ = some v := by rw [Lib.cell_of_heap hbk]; rfl
 have HS1 := hd_ hs1
 clear hs1
 go_wp2_with (at_builtin; refine Lib.wpList_append_own_string _ rfl _ _ 128 9 rfl B 5 i0 Tryz.underlying128 Tryz.underlying9 hi hz0 hz1 hz2 _ _ _ rfl hown s rfl ?c3 ?c4 ?c5 ?_)
 case c3 => unfold maxLen; omega
 case c4 => omega
 case c5 => rw [HS1.out]; exact hBw
 intro v' w2 hown' hgrow _
 have hlt : b < w1.heap.size := by rw [HS1.out]; omega
 have hb2 : w2.heap[b]? = some (.cells #[.pointer (some ⟨b, 0, none⟩), v] 232 (0, 0)) := by
  rw [hgrow.block b hlt (fun e => hne e.symm)]
  exact hbk
 have d0 : w2.cell? ⟨b, 0, none⟩ = some (.pointer (some ⟨b, 0, none⟩)) := by rw [Lib.cell_of_heap hb2]; rfl
 have d1 : w2.cell? ⟨b, 1, none⟩ = some v := by rw [Lib.cell_of_heap hb2]; rfl
 have f1 : w2.frozen? ⟨b, 1, none⟩ = false := Lib.frozen_of_heap hb2 1
 obtain ⟨ao, n', cap, rfl⟩ : ∃ ao n' cap, v' = .slice ao n' cap := by
  rcases hown'.2 with ⟨hv, _⟩ | ⟨g, cap, cur, hv, _⟩
  · exact ⟨_, _, _, hv⟩
  · exact ⟨_, _, _, hv⟩
 go_wp2
 go_ret2
 have hne' : (Value.slice ao n' cap).ownBlock ≠ some b := fun e => by
  have := own_ge hown' _ e
  omega
 have hk2 : KX B b w1 (w2.setCell ⟨b, 1, none⟩ (.slice ao n' cap)) := by
  refine ⟨((Below.refl b w1).grown hgrow (by omega) (fun g hg => by have := own_ge hown g hg; omega)).setCell (p := ⟨b, 1, none⟩) (Nat.le_refl _) _, fun k h1 h2 => ?_⟩
  rw [setCell_other (by omega)]
  exact hgrow.block k (by rw [HS1.out]; omega) (fun e => by have := own_ge hown k e.symm; omega)
 refine ⟨rfl, ⟨_, ?_, ?_, hne'⟩, hb1.trans hk2, ?_⟩
 · simp [World.setCell, Array.getElem?_modify, hb2]
 · have : (w2.setCell ⟨b, 1, none⟩ (.slice ao n' cap)).ownsRow B 5 1 (.slice ao n' cap) (bs.length + s.size) (bs ++ Lib.strCells s) :=
    hown'.kept (row := some b) ⟨rfl, rfl, rfl, by simp [World.setCell], fun k _ hk => setCell_other (fun e => hk (by simp [e]))⟩ (Or.inr hne')
   simpa [Lib.strCells_length] using this
 · have h3 := hgrow.size
   rw [HS1.out] at h3
   simpa [World.setCell] using h3
theorem bxstring (B b : Nat) (p : Value) (l : List UInt8) (w : World) (h : BX B b p (Lib.byteCells l) w) (hp : p = .pointer none ∨ p = .pointer (some ⟨b, 0, none⟩)) (hbB : b < B) (hBw : B ≤ w.heap.size) :
  Calls Tryz.prog 137 #[.pointer (some ⟨b, 0, none⟩)] w fun e w' => e = .returned (.string (bsO l)) ∧ Below b w w' := by
 obtain ⟨v, hb, hown, hne⟩ := h
 refine Tryz.Builder_String_any b b l w ?_ (by omega)
 rcases hp with rfl | rfl
 · exact Or.inl ⟨Nat.le_refl _, v, hb, own_wk hown (by omega), hne⟩
 · exact Or.inr ⟨Nat.le_refl _, v, hb, own_wk hown (by omega), hne⟩
theorem byteCells_app (a b : List UInt8) : Lib.byteCells (a ++ b) = Lib.byteCells a ++ Lib.byteCells b := by simp [Lib.byteCells]
theorem strCells_bs (l : List UInt8) : Lib.strCells (bsO l) = Lib.byteCells l := rfl
end Go.Proofs.YtceoficoappkpaaGreatDoor
namespace Go.Proofs.YtceoficoappkpaaGreatDoor
open Go.RowKit
attribute [local go_sem] Oper.semAt_some

theorem wrap32 (n : Int) : 0 ≤ IntKind.u32.wrap n ∧ IntKind.u32.wrap n ≤ 4294967295 := by
 rw [IntKind.wrap_u32']; omega
theorem xor32 (a b : Int) : 0 ≤ bits .xor .u32 a b ∧ bits .xor .u32 a b ≤ 4294967295 := wrap32 _
theorem and15i (c : Int) (h0 : 0 ≤ c) (h1 : c ≤ 4294967295) : 0 ≤ bits .and .u32 c 15 ∧ bits .and .u32 c 15 < 16 := by
 rw [u32_and c 15 h0 (by omega) (by omega) (by omega)]
 have : c.toNat &&& (15 : Int).toNat ≤ 15 := Nat.and_le_right
 omega
def arr16 (f : Nat → Int) : Array Value := #[.int .u32 (f 0), .int .u32 (f 1), .int .u32 (f 2), .int .u32 (f 3), .int .u32 (f 4), .int .u32 (f 5), .int .u32 (f 6), .int .u32 (f 7), .int .u32 (f 8), .int .u32 (f 9), .int .u32 (f 10), .int .u32 (f 11), .int .u32 (f 12), .int .u32 (f 13), .int .u32 (f 14), .int .u32 (f 15)]
theorem arr16_get (f : Nat → Int) (k : Nat) (h : k < 16) : (arr16 f)[k]? = some (.int .u32 (f k)) := by
 match k, h with
 | 0, _ => rfl
 | 1, _ => rfl
 | 2, _ => rfl
 | 3, _ => rfl
 | 4, _ => rfl
 | 5, _ => rfl
 | 6, _ => rfl
 | 7, _ => rfl
 | 8, _ => rfl
 | 9, _ => rfl
 | 10, _ => rfl
 | 11, _ => rfl
 | 12, _ => rfl
 | 13, _ => rfl
 | 14, _ => rfl
 | 15, _ => rfl
 | k + 16, h => omega
theorem arr16_set (f : Nat → Int) (k : Nat) (h : k < 16) (v : Int) : (arr16 f).setIfInBounds k (.int .u32 v) = arr16 fun i => if i = k then v else f i := by
 match k, h with
 | 0, _ => rfl
 | 1, _ => rfl
 | 2, _ => rfl
 | 3, _ => rfl
 | 4, _ => rfl
 | 5, _ => rfl
 | 6, _ => rfl
 | 7, _ => rfl
 | 8, _ => rfl
 | 9, _ => rfl
 | 10, _ => rfl
 | 11, _ => rfl
 | 12, _ => rfl
 | 13, _ => rfl
 | 14, _ => rfl
 | 15, _ => rfl
 | k + 16, h => omega
set_option maxRecDepth 100000 in
theorem half1_any (c : Int) (w : World) :
  Calls Tryz.prog 265 #[.int .u32 c] w fun r w' => (∃ d : Int, 0 ≤ d ∧ d ≤ 4294967295 ∧ r = .returned (.int .u32 d)) ∧ w' = w := by
 go_enter Tryz.func265, Tryz.ntmps265
 go_wp2_with fail
 refine wp_loop_rounds 5 ?_
 iterate 5 (rw [rounds_succ]; go_wp2)
 go_ret
 exact ⟨⟨_, (xor32 _ _).1, (xor32 _ _).2, rfl⟩, rfl⟩
theorem setRow_put {w : World} {b : Nat} {cur A : Array Value} {t : TypeId} (h : Blk w b cur t) : w.setRow b A = putBlk w b A t := by
 have hb : w.heap[b]? = some (.cells cur t (0, 0)) := h
 have he : w.heap.modify b (fun o => match o with | .cells _ elem frozen => .cells A elem frozen | o => o) = w.heap.setIfInBounds b (.cells A t (0, 0)) := by
  apply Array.ext_getElem?
  intro i
  rw [Array.getElem?_modify, Array.getElem?_setIfInBounds]
  by_cases e : b = i
  · subst e
    rw [if_pos rfl, if_pos rfl, hb, if_pos (Array.getElem?_eq_some_iff.1 hb).1]
    rfl
  · rw [if_neg e, if_neg e]
 exact congrArg (fun hp => ({ w with heap := hp } : World)) he
theorem sz16 (f : Nat → Int) : (arr16 f).size = 16 := rfl
theorem one16 (f : Nat → Int) : (arr16 f).all (·.oneCell') = true := by simp [arr16, Value.oneCell']
theorem info16 : (Tryz.prog.info? 330).map (·.size) = some 16 := by kernel_rfl
theorem idx16 : ∀ (k : Nat) (_ : k < 16) (W : World), (Instr.index 330 (.agg #[.int .u32 0, .int .u32 1, .int .u32 2, .int .u32 3, .int .u32 4, .int .u32 5, .int .u32 6, .int .u32 7, .int .u32 8, .int .u32 9, .int .u32 10, .int .u32 11, .int .u32 12, .int .u32 13, .int .u32 14, .int .u32 15]) (.int .i64 k)).run Tryz.prog W = .ok (.int .u32 k) W
 | 0, _, W => by kernel_rfl
 | 1, _, W => by kernel_rfl
 | 2, _, W => by kernel_rfl
 | 3, _, W => by kernel_rfl
 | 4, _, W => by kernel_rfl
 | 5, _, W => by kernel_rfl
 | 6, _, W => by kernel_rfl
 | 7, _, W => by kernel_rfl
 | 8, _, W => by kernel_rfl
 | 9, _, W => by kernel_rfl
 | 10, _, W => by kernel_rfl
 | 11, _, W => by kernel_rfl
 | 12, _, W => by kernel_rfl
 | 13, _, W => by kernel_rfl
 | 14, _, W => by kernel_rfl
 | 15, _, W => by kernel_rfl
 | k + 16, h, _ => by omega
theorem results_cell1 {P : Program} {fn : Func} {p : Tmp} {ty : TypeId} {tmps : Array Value} {w w' : World} {a : Addr} {v : Value} (h : fn.results = #[.cell p ty]) (ha : tmps.getD p undef = .pointer (some a)) (hl : (loadVar ty a).run P w = .ok v w') :
  (results fn tmps).run P w = .ok v w' := by
 have ha' : (asAddr (tmps.getD p undef)).run P w = .ok a w := by rw [ha]; rfl
 simp only [results, h]
 simp only [List.mapM_toArray, List.mapM_cons, List.mapM_nil, Sem.run_bind, Sem.run_pure, bind_assoc, pure_bind, map_eq_pure_bind, ha', hl, Result.andThen]
 rfl
set_option maxRecDepth 100000 in
set_option maxHeartbeats 1600000 in
theorem half_any (w : World) :
  Calls Tryz.prog 253 #[] w fun r w' => (∃ f : Nat → Int, (∀ i, 0 ≤ f i ∧ f i ≤ 4294967295) ∧ r = .returned (.agg (arr16 f))) ∧ Below w.heap.size w w' := by
 go_enter Tryz.func253, Tryz.ntmps253
 go_wp2_with fail
 go_loopw [7] (fun i wr => ∃ (k : Nat) (f : Nat → Int), k ≤ 16 ∧ i = .int .i64 k ∧ Hid (∀ i, 0 ≤ f i ∧ f i ≤ 4294967295) ∧ Blk wr w.heap.size (arr16 fun _ => 0) 330 ∧ Blk wr (w.heap.size + 1) (arr16 f) 330 ∧ Below w.heap.size w wr) (fun k _ => 16 - (intOf k).toNat)
 case atStart => exact ⟨0, fun i => if i < 16 then i else 0, by omega, rfl, fun i => by simp only; split <;> omega, by exact (by repeat (first | exact Blk.at (by simp) | assumption | refine Blk.drew ?_ | refine Blk.old ?_ _)), by exact (by repeat (first | exact Blk.at (by simp) | assumption | refine Blk.drew ?_ | refine Blk.old ?_ _)), (by repeat (first | exact Below.refl _ _ | assumption | refine Below.drew ?_ | refine below_drewN ?_ _ | refine Below.alloc ?_ (by simp <;> omega) _))⟩
 case round =>
  obtain ⟨k, f, hk, rfl, HF, hb0, hb1, hbw⟩ := hrel
  by_cases hlt : k < 16
  · have hid := idx16 k hlt
    go_wp2_with fail
    refine (half1_any _ _).mono ?_
    rintro r wr2 ⟨⟨dd, hd0, hd1, rfl⟩, rfl⟩
    obtain ⟨w3, rfl, lb⟩ := blk_put hb1
    have pc : (putBlk w3 (w.heap.size + 1) (arr16 f) 330).cell? ⟨w.heap.size + 1, k, none⟩ = some (.int .u32 (f k)) := ((putBlk_blk (arr16 f) 330 lb).cell k).trans (arr16_get f k hlt)
    have pf : (putBlk w3 (w.heap.size + 1) (arr16 f) 330).frozen? ⟨w.heap.size + 1, k, none⟩ = false := (putBlk_blk (arr16 f) 330 lb).frozen k
    have pS : ∀ v, (putBlk w3 (w.heap.size + 1) (arr16 f) 330).setCell ⟨w.heap.size + 1, k, none⟩ v = putBlk w3 (w.heap.size + 1) ((arr16 f).setIfInBounds k v) 330 := fun v => putBlk_set (arr16 f) 330 lb k v
    have HB0 := hd_ (putBlk_old hb0 (by omega) (arr16 fun i => if i = k then dd else f i))
    have HBW := hd_ (hbw)
    clear hb0 hb1 hbw
    have HR : Hid (Below w.heap.size w (putBlk w3 (w.heap.size + 1) ((arr16 f).setIfInBounds k (.int .u32 dd)) 330)) := by
     rw [arr16_set f k hlt]
     exact putBlk_belows HBW.out (by omega) _
    have HN : Hid (Blk (putBlk w3 (w.heap.size + 1) ((arr16 f).setIfInBounds k (.int .u32 dd)) 330) w.heap.size (arr16 fun _ => 0) 330 ∧ Blk (putBlk w3 (w.heap.size + 1) ((arr16 f).setIfInBounds k (.int .u32 dd)) 330) (w.heap.size + 1) (arr16 fun i => if i = k then dd else f i) 330) := by
     rw [arr16_set f k hlt]
     exact ⟨HB0.out, putBlk_blk _ _ lb⟩
    have HF2 : Hid (∀ i, 0 ≤ (if i = k then dd else f i) ∧ (if i = k then dd else f i) ≤ 4294967295) := fun i => by
     have := HF.out i
     split <;> omega
    go_wp2_with fail
    go_roundw
    case rel => exact ⟨k + 1, fun i => if i = k then dd else f i, by omega, by go_num, HF2.out, HN.out.1, HN.out.2, HR.out⟩
    case measure => simp [intOf]; omega
  · obtain rfl : k = 16 := by omega
    have HBW := hd_ hbw
    have HL := hd_ hb0.lt
    go_upto_region 8 with fail
    refine wp_region_list ?_
    refine wpList_load_row rfl _ _ rfl (w.heap.size + 1) rfl 330 (arr16 f) (0, 0) _ hb1 Tryz.underlying330 rfl (by rw [sz16]; exact info16) ?_
    refine wpList_store_row rfl _ _ _ rfl w.heap.size (arr16 f) rfl rfl 330 (arr16 fun _ => 0) hb0 (by rw [sz16]; exact info16) rfl (one16 f) ?_
    rw [setRow_put hb0]
    have HV := hd_ (putBlk_blk (arr16 f) 330 hb0.lt)
    clear hb0 hb1
    refine wpList_nil ?_
    generalize hA : arr16 f = A at HV
    have HA := hd_ hA
    clear hA
    have hr : (loadVar 330 ⟨w.heap.size, 0, none⟩).run Tryz.prog (putBlk wr w.heap.size A 330) = .ok (.agg A) (putBlk wr w.heap.size A 330) :=
     run_loadVar_row (P := Tryz.prog) _ w.heap.size 330 330 A (0, 0) _ HV.out Tryz.underlying330 rfl (by rw [← HA.out, sz16]; exact info16)
    go_wp2_with fail
    refine bodyPost_ret (v := .agg A) ?_ rfl ⟨⟨f, HF.out, by rw [HA.out]⟩, ?_⟩
    · exact results_cell1 (a := ⟨w.heap.size, 0, none⟩) rfl rfl hr
    · exact putBlk_below _ _ HBW.out (Nat.le_refl _)
set_option maxRecDepth 100000 in
set_option maxHeartbeats 800000 in
theorem sum_any (s : ByteArray) (hs : s.size ≤ 140737488355328) (w : World) :
  Calls Tryz.prog 246 #[.string s] w fun r w' => (∃ d : Int, 0 ≤ d ∧ d ≤ 4294967295 ∧ r = .returned (.int .u32 d)) ∧ Below w.heap.size w w' := by
 go_enter Tryz.func246, Tryz.ntmps246
 go_wp2_with fail
 refine (half_any _).mono ?_
 rintro r w1 ⟨⟨f, hf, rfl⟩, hb⟩
 unfold arr16
 have HF := hd_ hf
 have HB := hd_ hb
 clear hb hf
 go_wp2_with fail
 have hb3 : Blk (w1.alloc (.cells #[.int .u32 (f 0), .int .u32 (f 1), .int .u32 (f 2), .int .u32 (f 3), .int .u32 (f 4), .int .u32 (f 5), .int .u32 (f 6), .int .u32 (f 7), .int .u32 (f 8), .int .u32 (f 9), .int .u32 (f 10), .int .u32 (f 11), .int .u32 (f 12), .int .u32 (f 13), .int .u32 (f 14), .int .u32 (f 15)] 330)) w1.heap.size (arr16 f) 330 := Blk.new _ _ _
 have HB1 : Hid (Below w.heap.size w (w1.alloc (.cells #[.int .u32 (f 0), .int .u32 (f 1), .int .u32 (f 2), .int .u32 (f 3), .int .u32 (f 4), .int .u32 (f 5), .int .u32 (f 6), .int .u32 (f 7), .int .u32 (f 8), .int .u32 (f 9), .int .u32 (f 10), .int .u32 (f 11), .int .u32 (f 12), .int .u32 (f 13), .int .u32 (f 14), .int .u32 (f 15)] 330))) := HB.out.alloc HB.out.size _
 generalize (w1.alloc (.cells #[.int .u32 (f 0), .int .u32 (f 1), .int .u32 (f 2), .int .u32 (f 3), .int .u32 (f 4), .int .u32 (f 5), .int .u32 (f 6), .int .u32 (f 7), .int .u32 (f 8), .int .u32 (f 9), .int .u32 (f 10), .int .u32 (f 11), .int .u32 (f 12), .int .u32 (f 13), .int .u32 (f 14), .int .u32 (f 15)] 330)) = W at hb3 HB1 ⊢
 generalize w1.heap.size = b3 at hb3 ⊢
 have lb := hb3.lt
 have HC := hd_ (fun (k : Nat) (h : k < 16) => (hb3.cell k).trans (arr16_get f k h))
 clear HB hb3
 go_loopw [4, 9] (fun c i wr => ∃ (k : Nat) (cc : Int), k ≤ s.size ∧ i = .int .i64 k ∧ c = .int .u32 cc ∧ 0 ≤ cc ∧ cc ≤ 4294967295 ∧ wr = W) (fun _ i _ => s.size - (intOf i).toNat)
 case atStart => exact ⟨0, 4294967295, by omega, rfl, rfl, by omega, by omega, rfl⟩
 case round =>
  obtain ⟨k, cc, hk, rfl, rfl, h0, h1, rfl⟩ := hrel
  by_cases hlt : k < s.size
  · go_upto_region 7 with fail
    obtain ⟨q0, q1⟩ := xor32 cc (↑s[k].toNat % 4294967296)
    generalize bits BinOp.xor IntKind.u32 cc (↑s[k].toNat % 4294967296) = c1 at q0 q1 ⊢
    obtain ⟨e0, e1⟩ := and15i c1 q0 q1
    obtain ⟨j, hj⟩ := Int.eq_ofNat_of_zero_le e0
    have hjl : j < 16 := by omega
    have hcj := HC.out j hjl
    clear e0 e1
    go_upto_region 8 with fail
    obtain ⟨q2, q3⟩ := xor32 (c1 / 16) (f j)
    generalize bits BinOp.xor IntKind.u32 (c1 / 16) (f j) = c2 at q2 q3 ⊢
    obtain ⟨e0, e1⟩ := and15i c2 q2 q3
    obtain ⟨j2, hj2⟩ := Int.eq_ofNat_of_zero_le e0
    have hjl2 : j2 < 16 := by omega
    have hcj2 := HC.out j2 hjl2
    clear e0 e1 hj hcj
    go_wp2_with fail
    obtain ⟨q4, q5⟩ := xor32 (c2 / 16) (f j2)
    go_roundw
    case rel => exact ⟨k + 1, _, by omega, by go_num, rfl, q4, q5, trivial⟩
    case measure => simp [intOf]; omega
  · obtain rfl : k = s.size := by omega
    go_wp2_with fail
    go_ret
    exact ⟨⟨_, (wrap32 _).1, (wrap32 _).2, rfl⟩, HB1.out⟩
theorem conv4 (w : World) (a b c d : Int) (k : Nat) :
  (convert 128 9 (.slice (some ⟨w.heap.size, 0, none⟩) 4 k)).run Tryz.prog (w.alloc (.cells #[.int .u8 a, .int .u8 b, .int .u8 c, .int .u8 d] 5)) = .ok (.string (strOfNums [a, b, c, d])) (w.alloc (.cells #[.int .u8 a, .int .u8 b, .int .u8 c, .int .u8 d] 5)) :=
 conv_new w [a, b, c, d] 4 k rfl
set_option maxRecDepth 100000 in
theorem wput4 (v : Int) (h0 : 0 ≤ v) (h1 : v ≤ 4294967295) (w : World) :
  Calls Tryz.prog 161 #[.int .u64 v, .int .i64 4] w fun e w' => (∃ t : ByteArray, t.size = 4 ∧ e = .returned (.tuple #[.string t, .int .i64 0])) ∧ Below w.heap.size w w' := by
 have hmk : ∀ w : World, (Instr.makeSlice 128 (.int .i64 4) (.int .i64 4)).run Tryz.prog w = .ok (.slice (some ⟨w.heap.size, 0, none⟩) 4 4) (w.alloc (.cells #[.int .u8 0, .int .u8 0, .int .u8 0, .int .u8 0] 5)) := fun _ => by kernel_rfl
 have hcv := conv4
 have hq : v / 4294967296 = 0 := by omega
 go_enter Tryz.func161, Tryz.ntmps161
 go_wp2
 refine wp_loop_rounds 5 ?_
 iterate 5 (rw [rounds_succ]; go_wp2)
 go_ret2
 exact ⟨⟨_, by simp [strOfNums, ByteArray.size], rfl⟩, (Below.refl _ _).alloc (Nat.le_refl _) _⟩
theorem fput_any (v : Int) (h0 : 0 ≤ v) (h1 : v ≤ 4294967295) (w : World) :
  Calls Tryz.prog 245 #[.int .u32 v] w fun e w' => (∃ t : ByteArray, t.size = 4 ∧ e = .returned (.string t)) ∧ Below w.heap.size w w' := by
 have HP := hd_ (wput4 v h0 h1)
 have hm : v % 18446744073709551616 = v := by omega
 go_enter Tryz.func245, Tryz.ntmps245
 go_wp2_with fail
 refine (HP.out _).mono ?_
 rintro r w1 ⟨⟨t, ht, rfl⟩, hb⟩
 go_wp2_with fail
 go_ret
 exact ⟨⟨t, ht, rfl⟩, hb⟩
theorem frame_any (s : ByteArray) (hs : s.size ≤ 4194304) (w : World) :
  Calls Tryz.prog 224 #[.string s] w fun e w' => (∃ t : ByteArray, t.size = s.size + 12 ∧ e = .returned (.tuple #[.string t, .int .i64 0])) ∧ Below w.heap.size w w' := by
 have hm : (s.size : Int) % 4294967296 = s.size := by omega
 have H1 := hd_ (fput_any s.size (by omega) (by omega))
 have H2 := hd_ (fun (t : ByteArray) (ht : t.size = 4) (W : World) => sum_any t (by omega) W)
 have H3 := hd_ (sum_any s (by omega))
 go_enter Tryz.func224, Tryz.ntmps224
 go_wp2_with fail
 refine (H1.out _).mono ?_
 rintro r w1 ⟨⟨t1, ht1, rfl⟩, hb1⟩
 have HB1 := hd_ hb1
 have HT1 := hd_ ht1
 have hz1 : t1.size ≤ 4 := by omega
 clear hb1 ht1
 go_wp2_with fail
 refine (H2.out t1 HT1.out _).mono ?_
 rintro r w2 ⟨⟨d, hd0, hd1, rfl⟩, hb⟩
 have HB2 : Hid (Below w.heap.size w w2) := bt HB1.out hb
 have HF := hd_ (fput_any d hd0 hd1)
 clear hb hd0 hd1 HB1
 go_wp2_with fail
 refine (HF.out _).mono ?_
 rintro r w3 ⟨⟨t2, ht2, rfl⟩, hb⟩
 have HB3 : Hid (Below w.heap.size w w3) := bt HB2.out hb
 have HT2 := hd_ ht2
 have hz2 : t2.size ≤ 4 := by omega
 clear hb ht2 HB2 HF
 go_wp2_with fail
 refine (H3.out _).mono ?_
 rintro r w4 ⟨⟨d2, hd0, hd1, rfl⟩, hb⟩
 have HB4 : Hid (Below w.heap.size w w4) := bt HB3.out hb
 have HF := hd_ (fput_any d2 hd0 hd1)
 clear hb hd0 hd1 HB3
 go_wp2_with fail
 refine (HF.out _).mono ?_
 rintro r w5 ⟨⟨t3, ht3, rfl⟩, hb⟩
 have HB5 : Hid (Below w.heap.size w w5) := bt HB4.out hb
 have HT3 := hd_ ht3
 have hz3 : t3.size ≤ 4 := by omega
 clear hb ht3 HB4 HF
 go_wp2_with fail
 refine bodyPost_ret (v := .tuple #[.string (t1 ++ t2 ++ t3 ++ s), .int .i64 0]) (by simp [results, Tryz.results224, go_sem]) rfl ?_
 exact ⟨⟨_, by have := HT1.out; have := HT2.out; have := HT3.out; simp; omega, rfl⟩, HB5.out⟩
end Go.Proofs.YtceoficoappkpaaGreatDoor
