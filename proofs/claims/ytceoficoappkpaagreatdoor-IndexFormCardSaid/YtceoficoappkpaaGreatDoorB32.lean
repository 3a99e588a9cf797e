/- Texts joined by a tool: contracts and walks of this claim. -/
import Derived.Test.YtceoficoappkpaaGreatDoorB31
namespace Go.Proofs.YtceoficoappkpaaGreatDoor
open Go.RowKit Go.Shelf
attribute [local go_sem] Oper.semAt_some

theorem BX.ext {B b : Nat} {p : Value} {bs : List Value} {w w' : World} (h : BX B b p bs w) (hb : Below w.heap.size w w') (hlt : b < w.heap.size) : BX B b p bs w' := by
 obtain ⟨v, k1, k2, k3⟩ := h
 exact ⟨v, by rw [hb.block _ hlt]; exact k1, own_ext k2 hb, k3⟩
set_option maxRecDepth 100000 in
set_option maxHeartbeats 3200000 in
theorem manput_any (w : World) :
  Calls Tryz.prog 183 #[.agg #[.int .u64 1, .slice none 0 0, .int .u64 2]] w fun r w' => (∃ t : ByteArray, t.size ≠ 0 ∧ t.size ≤ 100 ∧ r = .returned (.tuple #[.string t, .int .i64 0])) ∧ Below w.heap.size w w' := by
 go_enter Tryz.func183, Tryz.ntmps183
 go_wp2_with fail
 have h1 : Blk (w.alloc (.cells #[.int .u64 1, .slice none 0 0, .int .u64 2] 141)) w.heap.size #[.int .u64 1, .slice none 0 0, .int .u64 2] 141 := Blk.new _ _ _
 refine (mcheck_any _).mono ?_
 rintro r w1 ⟨rfl, hb⟩
 have h11 := h1.ext hb
 have hb1 : Below w.heap.size w w1 := bt ((by repeat (first | exact Below.refl _ _ | assumption | refine Below.drew ?_ | refine below_drewN ?_ _ | refine Below.alloc ?_ (by simp <;> omega) _))) hb
 have HB1 := hd_ hb1
 obtain ⟨l1, e0, e1, e2⟩ : w.heap.size < w1.heap.size ∧ w1.cell? ⟨w.heap.size, 0, none⟩ = some (.int .u64 1) ∧ w1.cell? ⟨w.heap.size, 1, none⟩ = some (.slice none 0 0) ∧ w1.cell? ⟨w.heap.size, 2, none⟩ = some (.int .u64 2) := ⟨h11.lt, h11.cell 0, h11.cell 1, h11.cell 2⟩
 clear hb hb1 h1 h11
 go_wp2_with fail
 have hy : Blk (((w1.alloc (.cells #[.pointer none, .slice none 0 0] 232)).alloc (.cells #[.int .u64 1, .int .u64 2, .int .u64 0] 29)).alloc (.cells #[.slice (some ⟨w1.heap.size + 1, 0, none⟩) 3 3, .slice none 0 0] 30)) (w1.heap.size + 1) #[.int .u64 1, .int .u64 2, .int .u64 0] 29 := (by repeat (first | exact Blk.at (by simp) | assumption | refine Blk.drew ?_ | refine Blk.old ?_ _))
 have hx : Blk (((w1.alloc (.cells #[.pointer none, .slice none 0 0] 232)).alloc (.cells #[.int .u64 1, .int .u64 2, .int .u64 0] 29)).alloc (.cells #[.slice (some ⟨w1.heap.size + 1, 0, none⟩) 3 3, .slice none 0 0] 30)) (w1.heap.size + 1 + 1) #[.slice (some ⟨w1.heap.size + 1, 0, none⟩) 3 3, .slice none 0 0] 30 := (by repeat (first | exact Blk.at (by simp) | assumption | refine Blk.drew ?_ | refine Blk.old ?_ _))
 have hbb : Blk (((w1.alloc (.cells #[.pointer none, .slice none 0 0] 232)).alloc (.cells #[.int .u64 1, .int .u64 2, .int .u64 0] 29)).alloc (.cells #[.slice (some ⟨w1.heap.size + 1, 0, none⟩) 3 3, .slice none 0 0] 30)) w1.heap.size #[.pointer none, .slice none 0 0] 232 := (by repeat (first | exact Blk.at (by simp) | assumption | refine Blk.drew ?_ | refine Blk.old ?_ _))
 refine (concat_any _ _ _ hx hy).mono ?_
 rintro r w2 ⟨⟨g, c, rfl, hg0, hg1, g0, g1, g2⟩, hb⟩
 have hbb2 := hbb.ext hb
 have hb2 : Below w1.heap.size w1 w2 := bt ((by repeat (first | exact Below.refl _ _ | assumption | refine Below.drew ?_ | refine below_drewN ?_ _ | refine Below.alloc ?_ (by simp <;> omega) _))) hb
 have hgb : w1.heap.size < g := by simp at hg0; omega
 have HB2 : Hid (Below w.heap.size w w2) := bt HB1.out hb2
 have hB0 : BX w2.heap.size w1.heap.size (.pointer none) (Lib.byteCells []) w2 := ⟨.slice none 0 0, hbb2, World.ownsRow_nil _ _ _ _, by simp [Value.ownBlock]⟩
 have HB0 := hd_ hB0
 have hlb : w1.heap.size < w2.heap.size := hbb2.lt
 have HLW : Hid (w.heap.size < w1.heap.size) := l1
 have HG : Hid (∀ j : Nat, j < 3 → ∃ v : Int, 0 ≤ v ∧ v ≤ 2 ∧ w2.cell? ⟨g, j, none⟩ = some (.int .u64 v)) := by
  intro j hj
  match j, hj with
  | 0, _ => exact ⟨1, by omega, by omega, g0⟩
  | 1, _ => exact ⟨2, by omega, by omega, g1⟩
  | 2, _ => exact ⟨0, by omega, by omega, g2⟩
 clear hb hb2 hy hx hbb hbb2 l1 e0 e1 e2 g0 g1 g2 hg0 hB0 HB1
 generalize w1.heap.size = bb at *
 go_wp2_with fail
 go_loopw [29] (fun i wr => ∃ (k : Nat) (p : Value) (l : List UInt8), k ≤ 3 ∧ i = .int .i64 k ∧ l.length = 8 * k ∧ (p = .pointer none ∨ p = .pointer (some ⟨bb, 0, none⟩)) ∧ Hid (BX w2.heap.size bb p (Lib.byteCells l) wr) ∧ Hid (KX w2.heap.size bb w2 wr) ∧ w2.heap.size ≤ wr.heap.size) (fun i _ => 3 - (intOf i).toNat)
 case atStart => exact ⟨0, .pointer none, [], by omega, rfl, rfl, Or.inl rfl, HB0, KX.refl _ _ _, Nat.le_refl _⟩
 case round =>
  obtain ⟨k, p, l, hk, rfl, hll, hp, HB, HK, hsz⟩ := hrel
  by_cases hlt : k < 3
  · obtain ⟨v, hv0, hv1, hcv⟩ := HG.out k hlt
    have c0 : wr.cell? ⟨g, k, none⟩ = some (.int .u64 v) := (World.cell?_of_block (HK.out.mid g hgb hg1)).trans hcv
    have lg : g < wr.heap.size := by omega
    have HP := hd_ (wput8 v hv0 (by omega))
    have hpl : (Lib.byteCells l).length + (bsO (numL 8 v.toNat)).size ≤ 140737488355328 := by
     rw [bsO_size, numL_length, Lib.byteCells_length]; omega
    have HWR := hd_ (fun (wa : World) (hb : Below wr.heap.size wr wa) => bxwrite w2.heap.size bb p _ (bsO (numL 8 v.toNat)) wa (HB.out.ext hb (by omega)) hp hpl hlb (Nat.le_trans hsz hb.size))
    have HN := hd_ (show (l ++ numL 8 v.toNat).length = 8 * (k + 1) by rw [List.length_append, numL_length]; omega)
    have HSZ := hd_ hsz
    have HLL := hd_ hll
    clear hpl hcv hll hv0 hv1
    rw [strCells_bs, ← byteCells_app] at HWR
    generalize l ++ numL 8 v.toNat = l2 at HWR HN
    rw [show (⟨(numL 8 v.toNat).toArray⟩ : ByteArray) = bsO (numL 8 v.toNat) from rfl] at HP
    generalize bsO (numL 8 v.toNat) = piece at HP HWR
    go_wp2_with fail
    refine (HP.out _).mono ?_
    rintro r wa ⟨rfl, hb⟩
    have HWR1 := hd_ (HWR.out wa hb)
    have HKA := hd_ (HK.out.trans (KX.of_below hb HSZ.out (by omega)))
    have HSA := hd_ (Nat.le_trans HSZ.out hb.size)
    clear hb c0 lg hp hsz HWR
    go_wp2_with fail
    refine HWR1.out.mono ?_
    rintro r wb ⟨rfl, hB2, hK2, hs2⟩
    have HB2' := hd_ hB2
    have HKB := hd_ (HKA.out.trans hK2)
    have HSB := hd_ (Nat.le_trans HSA.out hs2)
    clear hB2 hK2 hs2 HWR1 HKA HSA
    go_wp2_with fail
    go_roundw
    case rel => exact ⟨k + 1, _, _, by omega, by go_num, HN.out, Or.inr rfl, HB2', HKB, HSB.out⟩
    case measure => simp [intOf]; omega
  · obtain rfl : k = 3 := by omega
    have HST := hd_ (bxstring w2.heap.size bb p l wr HB.out hp hlb hsz)
    have hss : (bsO l).size = 24 := by rw [bsO_size]; omega
    have HFR := hd_ (frame_any (bsO l) (by omega))
    have HSS := hd_ hss
    have HX := hd_ (show Below w.heap.size w wr from HB2.out.trans ((HK.out.low).mono (by have := HLW.out; omega)))
    clear hll hp hss
    generalize bsO l = piece at HST HFR HSS
    go_wp2_with fail
    refine HST.out.mono ?_
    rintro r wa ⟨rfl, hb⟩
    have HXA := hd_ (HX.out.trans (hb.mono (by have := HLW.out; omega)))
    clear hb
    go_wp2_with fail
    refine (HFR.out _).mono ?_
    rintro r wb ⟨⟨t, ht, rfl⟩, hb⟩
    have HXB := hd_ (bt HXA.out hb)
    clear hb
    go_wp2_with fail
    refine bodyPost_ret (v := .tuple #[.string t, .int .i64 0]) (by simp [results, Tryz.results183, go_sem]) rfl ?_
    exact ⟨⟨t, by have := HSS.out; omega, by have := HSS.out; omega, rfl⟩, HXB.out⟩
end Go.Proofs.YtceoficoappkpaaGreatDoor
namespace Go.Proofs.YtceoficoappkpaaGreatDoor
open Go.RowKit Go.Shelf
attribute [local go_sem] Oper.semAt_some

theorem DkW.box {w w' : World} {d F b : Nat} {u lo : Value} {ks : List ByteArray} {sz : ByteArray → Nat} {cs : Array Value} {t : TypeId} (h : DkW w d F u lo ks sz) (hb : Blk w b cs t) (ht : t ≠ 184) (k : Chg [d, F] w w') : Blk w' b cs t := by
 refine hb.chg k ?_
 simp only [List.mem_cons, List.not_mem_nil, or_false, not_or]
 refine ⟨blk_nt hb h.b ht, fun e => ?_⟩
 have h1 := hb
 rw [e] at h1
 exact h.files.no_cells _ _ _ h1
set_option maxRecDepth 100000 in
theorem mload_none (d F : Nat) (u lo : Value) (ks : List ByteArray) (sz : ByteArray → Nat) (s : ByteArray) (hs : NmOk s) (hn : s ∉ ks) (w : World) (hd : DkW w d F u lo ks sz) :
  Calls Tryz.prog 144 #[.pointer (some ⟨d, 0, none⟩), .string s] w fun r w' => r = .returned (.tuple #[.agg #[.int .u64 0, .slice none 0 0, .int .u64 0], .int .i64 3]) ∧ Below w.heap.size w w' := by
 have HR := hd_ (fun (W : World) (hW : Below w.heap.size w W) => read_none d F u lo ks sz s hs hn W (hd.ext hW))
 clear hd hs hn
 go_enter Tryz.func144, Tryz.ntmps144
 go_wp2_with fail
 have h4 : Blk (w.alloc (.cells #[.int .u64 0, .slice none 0 0, .int .u64 0] 141)) w.heap.size #[.int .u64 0, .slice none 0 0, .int .u64 0] 141 := Blk.new _ _ _
 refine (HR.out _ (by repeat (first | exact Below.refl _ _ | assumption | refine Below.drew ?_ | refine below_drewN ?_ _ | refine Below.alloc ?_ (by simp <;> omega) _))).mono ?_
 rintro r w1 ⟨rfl, hb⟩
 have h41 := h4.ext hb
 have HB : Hid (Below w.heap.size w w1) := bt ((by repeat (first | exact Below.refl _ _ | assumption | refine Below.drew ?_ | refine below_drewN ?_ _ | refine Below.alloc ?_ (by simp <;> omega) _))) hb
 obtain ⟨w3, rfl, l3⟩ := blk_put h41
 obtain ⟨pc, pf, pS⟩ := putBlk_facts (w := w3) 141 l3
 clear hb h4 h41
 go_wp2_with fail
 refine bodyPost_ret (v := .tuple #[.agg #[.int .u64 0, .slice none 0 0, .int .u64 0], .int .i64 3]) (by simp [results, Tryz.results144, go_sem, pc]) rfl ?_
 exact ⟨rfl, HB.out⟩
theorem sv1_any (d F b3 b9 : Nat) (u lo : Value) (ks : List ByteArray) (sz : ByteArray → Nat) (s : ByteArray) (hs : NmOk s) (hn : s ∉ ks) (w : World) (hd : DkW w d F u lo ks sz)
  (h3 : Blk w b3 #[.pointer (some ⟨d, 0, none⟩)] 123) (h9 : Blk w b9 #[.string s] 9) :
  Calls Tryz.prog 184 #[.pointer (some ⟨b3, 0, none⟩), .pointer (some ⟨b9, 0, none⟩)] w fun r w' => r = .returned (.int .i64 0) ∧ Below w.heap.size w w' := by
 have HR := hd_ (remove_none d F u lo ks sz s hs hn w hd)
 obtain ⟨l3, c3⟩ : b3 < w.heap.size ∧ w.cell? ⟨b3, 0, none⟩ = some (.pointer (some ⟨d, 0, none⟩)) := ⟨h3.lt, h3.cell 0⟩
 obtain ⟨l9, c9⟩ : b9 < w.heap.size ∧ w.cell? ⟨b9, 0, none⟩ = some (.string s) := ⟨h9.lt, h9.cell 0⟩
 clear hd hs hn h3 h9
 go_enter Tryz.func184, Tryz.ntmps184
 go_wp2_with fail
 refine HR.out.mono ?_
 rintro r w1 ⟨rfl, hb⟩
 go_wp2_with fail
 go_ret
 exact ⟨rfl, hb⟩
theorem sv2_any (d F b3 b9 b7 : Nat) (u : Value) (sz : ByteArray → Nat) (s t : ByteArray) (hs : NmOk s) (ht : t.size ≤ 4194304) (h0 : t.size ≠ 0) (w : World) (hd : DkW w d F u (.slice none 0 0) [] sz)
  (h3 : Blk w b3 #[.pointer (some ⟨d, 0, none⟩)] 123) (h9 : Blk w b9 #[.string s] 9) (h7 : Blk w b7 #[.string t] 9) :
  Calls Tryz.prog 185 #[.pointer (some ⟨b3, 0, none⟩), .pointer (some ⟨b9, 0, none⟩), .pointer (some ⟨b7, 0, none⟩)] w fun r w' => r = .returned (.int .i64 0) ∧ (∃ lo, DkW w' d F u lo [s] (fun k => if k = s then t.size else sz k)) ∧ Chg [d, F] w w' := by
 have HR := hd_ (append_none d F u sz s t hs ht h0 w hd)
 obtain ⟨l3, c3⟩ : b3 < w.heap.size ∧ w.cell? ⟨b3, 0, none⟩ = some (.pointer (some ⟨d, 0, none⟩)) := ⟨h3.lt, h3.cell 0⟩
 obtain ⟨l9, c9⟩ : b9 < w.heap.size ∧ w.cell? ⟨b9, 0, none⟩ = some (.string s) := ⟨h9.lt, h9.cell 0⟩
 obtain ⟨l7, c7⟩ : b7 < w.heap.size ∧ w.cell? ⟨b7, 0, none⟩ = some (.string t) := ⟨h7.lt, h7.cell 0⟩
 clear hd hs ht h0 h3 h9 h7
 go_enter Tryz.func185, Tryz.ntmps185
 go_wp2_with fail
 refine HR.out.mono ?_
 rintro r w1 ⟨rfl, h1, h2⟩
 go_wp2_with fail
 go_ret
 exact ⟨rfl, h1, h2⟩
theorem sv3_any (d F b3 b9 b4 : Nat) (u : Value) (sz : ByteArray → Nat) (s t : ByteArray) (hs : NmOk s) (ht : NmOk t) (hn : t ≠ s) (hq : (s.toList == t.toList) = false) (w : World) (hd : DkW w d F u (.slice none 0 0) [s] sz)
  (h3 : Blk w b3 #[.pointer (some ⟨d, 0, none⟩)] 123) (h9 : Blk w b9 #[.string s] 9) (h4 : Blk w b4 #[.string t] 9) :
  Calls Tryz.prog 187 #[.pointer (some ⟨b3, 0, none⟩), .pointer (some ⟨b9, 0, none⟩), .pointer (some ⟨b4, 0, none⟩)] w fun r w' => r = .returned (.int .i64 0) ∧ (∃ lo, DkW w' d F u lo [t] fun _ => sz s) ∧ Chg [d, F] w w' := by
 have HR := hd_ (rename_one d F u sz s t hs ht hn hq w hd)
 obtain ⟨l3, c3⟩ : b3 < w.heap.size ∧ w.cell? ⟨b3, 0, none⟩ = some (.pointer (some ⟨d, 0, none⟩)) := ⟨h3.lt, h3.cell 0⟩
 obtain ⟨l9, c9⟩ : b9 < w.heap.size ∧ w.cell? ⟨b9, 0, none⟩ = some (.string s) := ⟨h9.lt, h9.cell 0⟩
 obtain ⟨l4, c4⟩ : b4 < w.heap.size ∧ w.cell? ⟨b4, 0, none⟩ = some (.string t) := ⟨h4.lt, h4.cell 0⟩
 clear hd hs ht hn h3 h9 h4
 go_enter Tryz.func187, Tryz.ntmps187
 go_wp2_with fail
 refine HR.out.mono ?_
 rintro r w1 ⟨rfl, h1, h2⟩
 go_wp2_with fail
 go_ret
 exact ⟨rfl, h1, h2⟩
set_option maxRecDepth 100000 in
set_option maxHeartbeats 3200000 in
theorem save_any (d F : Nat) (u : Value) (sz : ByteArray → Nat) (nm bs : ByteArray) (hnm : NmOk nm) (hbs : NmOk bs) (hcat : nm ++ ⟨#[46, 110, 101, 119]⟩ = bs) (hne : nm ≠ bs) (hq : (bs.toList == nm.toList) = false) (w : World) (hd : DkW w d F u (.slice none 0 0) [] sz) :
  Calls Tryz.prog 146 #[.pointer (some ⟨d, 0, none⟩), .string nm, .agg #[.int .u64 1, .slice none 0 0, .int .u64 2]] w fun r w' => r = .returned (.int .i64 0) ∧ (∃ u' sz', DkW w' d F u' (.slice none 0 0) [nm] sz') ∧ Chg [d, F] w w' := by
 have HD := hd_ hd
 have HS := hd_ (And.intro hnm (And.intro hbs (And.intro hcat hne)))
 have hnz : nm.size ≤ 64 := hnm.2.1
 clear hd hnm hbs hne
 go_enter Tryz.func146, Tryz.ntmps146
 go_wp2_with fail
 have h3 : Blk (((w.alloc (.cells #[.pointer (some ⟨d, 0, none⟩)] 123)).alloc (.cells #[.string nm] 9)).alloc (.cells #[.int .u64 1, .slice none 0 0, .int .u64 2] 141)) w.heap.size #[.pointer (some ⟨d, 0, none⟩)] 123 := (by repeat (first | exact Blk.at (by simp) | assumption | refine Blk.drew ?_ | refine Blk.old ?_ _))
 have h4 : Blk (((w.alloc (.cells #[.pointer (some ⟨d, 0, none⟩)] 123)).alloc (.cells #[.string nm] 9)).alloc (.cells #[.int .u64 1, .slice none 0 0, .int .u64 2] 141)) (w.heap.size + 1) #[.string nm] 9 := (by repeat (first | exact Blk.at (by simp) | assumption | refine Blk.drew ?_ | refine Blk.old ?_ _))
 refine (manput_any _).mono ?_
 rintro r w1 ⟨⟨t, ht0, ht1, rfl⟩, hb⟩
 have h31 := h3.ext hb
 have h41 := h4.ext hb
 have HT := hd_ (And.intro ht0 ht1)
 have HB1 : Hid (Below w.heap.size w w1) := bt ((by repeat (first | exact Below.refl _ _ | assumption | refine Below.drew ?_ | refine below_drewN ?_ _ | refine Below.alloc ?_ (by simp <;> omega) _))) hb
 clear hb h3 h4 ht0 ht1
 obtain ⟨b3, hb3⟩ : ∃ b, b = w.heap.size := ⟨_, rfl⟩
 obtain ⟨b4, hb4⟩ : ∃ b, b = w.heap.size + 1 := ⟨_, rfl⟩
 rw [← hb4] at h41 ⊢
 rw [← hb3] at h31 ⊢
 clear hb3 hb4
 obtain ⟨l3, c3⟩ : b3 < w1.heap.size ∧ w1.cell? ⟨b3, 0, none⟩ = some (.pointer (some ⟨d, 0, none⟩)) := ⟨h31.lt, h31.cell 0⟩
 obtain ⟨l4, c4⟩ : b4 < w1.heap.size ∧ w1.cell? ⟨b4, 0, none⟩ = some (.string nm) := ⟨h41.lt, h41.cell 0⟩
 go_wp2_with fail
 have h7 : Blk ((w1.alloc (.cells #[.string t] 9)).alloc (.cells #[.string bs] 9)) w1.heap.size #[.string t] 9 := Blk.old (Blk.new _ _ _) _
 have h9 : Blk ((w1.alloc (.cells #[.string t] 9)).alloc (.cells #[.string bs] 9)) (w1.heap.size + 1) #[.string bs] 9 := Blk.at (by simp)
 have hw2 : Below w1.heap.size w1 ((w1.alloc (.cells #[.string t] 9)).alloc (.cells #[.string bs] 9)) := (by repeat (first | exact Below.refl _ _ | assumption | refine Below.drew ?_ | refine below_drewN ?_ _ | refine Below.alloc ?_ (by simp <;> omega) _))
 have HB2 : Hid (Below w.heap.size w ((w1.alloc (.cells #[.string t] 9)).alloc (.cells #[.string bs] 9))) := bt HB1.out hw2
 have h32 := h31.ext hw2
 have h42 := h41.ext hw2
 clear l3 c3 l4 c4 h31 h41 hw2 HB1
 generalize ((w1.alloc (.cells #[.string t] 9)).alloc (.cells #[.string bs] 9)) = W at h7 h9 h32 h42 HB2 ⊢
 obtain ⟨b7, hb7⟩ : ∃ b, b = w1.heap.size := ⟨_, rfl⟩
 obtain ⟨b9, hb9⟩ : ∃ b, b = w1.heap.size + 1 := ⟨_, rfl⟩
 rw [← hb9] at h9 ⊢
 rw [← hb7] at h7 ⊢
 clear hb7 hb9 hcat
 have HBK := hd_ (And.intro h32 (And.intro h42 (And.intro h7 h9)))
 have HDW := hd_ (HD.out.ext HB2.out)
 clear h32 h42 h7 h9 HD
 have ix0 : ∀ X : World, (Instr.index 280 (.agg #[.func (.func 184) #[] #[.pointer (some ⟨b3, 0, none⟩), .pointer (some ⟨b9, 0, none⟩)], .func (.func 185) #[] #[.pointer (some ⟨b3, 0, none⟩), .pointer (some ⟨b9, 0, none⟩), .pointer (some ⟨b7, 0, none⟩)], .func (.func 150) #[.pointer (some ⟨d, 0, none⟩)] #[], .func (.func 187) #[] #[.pointer (some ⟨b3, 0, none⟩), .pointer (some ⟨b9, 0, none⟩), .pointer (some ⟨b4, 0, none⟩)], .func (.func 150) #[.pointer (some ⟨d, 0, none⟩)] #[]]) (.int .i64 0)).run Tryz.prog X = .ok (.agg #[.func (.func 184) #[] #[.pointer (some ⟨b3, 0, none⟩), .pointer (some ⟨b9, 0, none⟩)]]) X := fun _ => by kernel_rfl
 have ix1 : ∀ X : World, (Instr.index 280 (.agg #[.func (.func 184) #[] #[.pointer (some ⟨b3, 0, none⟩), .pointer (some ⟨b9, 0, none⟩)], .func (.func 185) #[] #[.pointer (some ⟨b3, 0, none⟩), .pointer (some ⟨b9, 0, none⟩), .pointer (some ⟨b7, 0, none⟩)], .func (.func 150) #[.pointer (some ⟨d, 0, none⟩)] #[], .func (.func 187) #[] #[.pointer (some ⟨b3, 0, none⟩), .pointer (some ⟨b9, 0, none⟩), .pointer (some ⟨b4, 0, none⟩)], .func (.func 150) #[.pointer (some ⟨d, 0, none⟩)] #[]]) (.int .i64 1)).run Tryz.prog X = .ok (.agg #[.func (.func 185) #[] #[.pointer (some ⟨b3, 0, none⟩), .pointer (some ⟨b9, 0, none⟩), .pointer (some ⟨b7, 0, none⟩)]]) X := fun _ => by kernel_rfl
 have ix2 : ∀ X : World, (Instr.index 280 (.agg #[.func (.func 184) #[] #[.pointer (some ⟨b3, 0, none⟩), .pointer (some ⟨b9, 0, none⟩)], .func (.func 185) #[] #[.pointer (some ⟨b3, 0, none⟩), .pointer (some ⟨b9, 0, none⟩), .pointer (some ⟨b7, 0, none⟩)], .func (.func 150) #[.pointer (some ⟨d, 0, none⟩)] #[], .func (.func 187) #[] #[.pointer (some ⟨b3, 0, none⟩), .pointer (some ⟨b9, 0, none⟩), .pointer (some ⟨b4, 0, none⟩)], .func (.func 150) #[.pointer (some ⟨d, 0, none⟩)] #[]]) (.int .i64 2)).run Tryz.prog X = .ok (.agg #[.func (.func 150) #[.pointer (some ⟨d, 0, none⟩)] #[]]) X := fun _ => by kernel_rfl
 have ix3 : ∀ X : World, (Instr.index 280 (.agg #[.func (.func 184) #[] #[.pointer (some ⟨b3, 0, none⟩), .pointer (some ⟨b9, 0, none⟩)], .func (.func 185) #[] #[.pointer (some ⟨b3, 0, none⟩), .pointer (some ⟨b9, 0, none⟩), .pointer (some ⟨b7, 0, none⟩)], .func (.func 150) #[.pointer (some ⟨d, 0, none⟩)] #[], .func (.func 187) #[] #[.pointer (some ⟨b3, 0, none⟩), .pointer (some ⟨b9, 0, none⟩), .pointer (some ⟨b4, 0, none⟩)], .func (.func 150) #[.pointer (some ⟨d, 0, none⟩)] #[]]) (.int .i64 3)).run Tryz.prog X = .ok (.agg #[.func (.func 187) #[] #[.pointer (some ⟨b3, 0, none⟩), .pointer (some ⟨b9, 0, none⟩), .pointer (some ⟨b4, 0, none⟩)]]) X := fun _ => by kernel_rfl
 have ix4 : ∀ X : World, (Instr.index 280 (.agg #[.func (.func 184) #[] #[.pointer (some ⟨b3, 0, none⟩), .pointer (some ⟨b9, 0, none⟩)], .func (.func 185) #[] #[.pointer (some ⟨b3, 0, none⟩), .pointer (some ⟨b9, 0, none⟩), .pointer (some ⟨b7, 0, none⟩)], .func (.func 150) #[.pointer (some ⟨d, 0, none⟩)] #[], .func (.func 187) #[] #[.pointer (some ⟨b3, 0, none⟩), .pointer (some ⟨b9, 0, none⟩), .pointer (some ⟨b4, 0, none⟩)], .func (.func 150) #[.pointer (some ⟨d, 0, none⟩)] #[]]) (.int .i64 4)).run Tryz.prog X = .ok (.agg #[.func (.func 150) #[.pointer (some ⟨d, 0, none⟩)] #[]]) X := fun _ => by kernel_rfl
 obtain ⟨W0, hW0⟩ : ∃ X, X = W := ⟨_, rfl⟩
 have HC0 : Hid (Chg [d, F] W W0) := by rw [hW0]; exact Chg.refl _ _
 have HDW0 := HDW
 have HBK0 := HBK
 rw [← hW0] at HDW0 HBK0
 have e0 := hW0
 rw [← hW0]
 clear HDW HBK hW0 e0
 refine wp_loop_rounds 6 ?_
 rw [rounds_succ]
 go_wp2_with fail
 have ha0 : Below W0.heap.size W0 (W0.alloc (.cells #[.func (.func 184) #[] #[.pointer (some ⟨b3, 0, none⟩), .pointer (some ⟨b9, 0, none⟩)]] 278)) := bel1 _ _
 have HX0 : Hid (Chg [d, F] W (W0.alloc (.cells #[.func (.func 184) #[] #[.pointer (some ⟨b3, 0, none⟩), .pointer (some ⟨b9, 0, none⟩)]] 278))) := chg_tr HC0.out (chg_mono (Chg.of_below (S := []) ha0) (by simp))
 have HD0 := hd_ (HDW0.out.ext ha0)
 have HK0 : Hid (Blk (W0.alloc (.cells #[.func (.func 184) #[] #[.pointer (some ⟨b3, 0, none⟩), .pointer (some ⟨b9, 0, none⟩)]] 278)) b3 #[.pointer (some ⟨d, 0, none⟩)] 123 ∧ Blk (W0.alloc (.cells #[.func (.func 184) #[] #[.pointer (some ⟨b3, 0, none⟩), .pointer (some ⟨b9, 0, none⟩)]] 278)) b4 #[.string nm] 9 ∧ Blk (W0.alloc (.cells #[.func (.func 184) #[] #[.pointer (some ⟨b3, 0, none⟩), .pointer (some ⟨b9, 0, none⟩)]] 278)) b7 #[.string t] 9 ∧ Blk (W0.alloc (.cells #[.func (.func 184) #[] #[.pointer (some ⟨b3, 0, none⟩), .pointer (some ⟨b9, 0, none⟩)]] 278)) b9 #[.string bs] 9) := ⟨HBK0.out.1.ext ha0, HBK0.out.2.1.ext ha0, HBK0.out.2.2.1.ext ha0, HBK0.out.2.2.2.ext ha0⟩
 clear ha0 HC0 HDW0 HBK0
 refine (sv1_any d F b3 b9 u (.slice none 0 0) [] sz bs HS.out.2.1 (by simp) _ HD0.out HK0.out.1 HK0.out.2.2.2).mono ?_
 rintro r W1 ⟨rfl, hb⟩
 have hc : Chg [d, F] (W0.alloc (.cells #[.func (.func 184) #[] #[.pointer (some ⟨b3, 0, none⟩), .pointer (some ⟨b9, 0, none⟩)]] 278)) W1 := chg_mono (Chg.of_below (S := []) hb) (by simp)
 have HC1 : Hid (Chg [d, F] W W1) := chg_tr HX0.out hc
 have HBK1 : Hid (Blk W1 b3 #[.pointer (some ⟨d, 0, none⟩)] 123 ∧ Blk W1 b4 #[.string nm] 9 ∧ Blk W1 b7 #[.string t] 9 ∧ Blk W1 b9 #[.string bs] 9) := ⟨HD0.out.box HK0.out.1 (by decide) hc, HD0.out.box HK0.out.2.1 (by decide) hc, HD0.out.box HK0.out.2.2.1 (by decide) hc, HD0.out.box HK0.out.2.2.2 (by decide) hc⟩
 have HDW1 := hd_ (HD0.out.ext hb)
 clear hc hb HX0 HK0 HD0
 go_wp2_with fail
 rw [rounds_succ]
 go_wp2_with fail
 have ha1 : Below W1.heap.size W1 (W1.alloc (.cells #[.func (.func 185) #[] #[.pointer (some ⟨b3, 0, none⟩), .pointer (some ⟨b9, 0, none⟩), .pointer (some ⟨b7, 0, none⟩)]] 278)) := bel1 _ _
 have HX1 : Hid (Chg [d, F] W (W1.alloc (.cells #[.func (.func 185) #[] #[.pointer (some ⟨b3, 0, none⟩), .pointer (some ⟨b9, 0, none⟩), .pointer (some ⟨b7, 0, none⟩)]] 278))) := chg_tr HC1.out (chg_mono (Chg.of_below (S := []) ha1) (by simp))
 have HD1 := hd_ (HDW1.out.ext ha1)
 have HK1 : Hid (Blk (W1.alloc (.cells #[.func (.func 185) #[] #[.pointer (some ⟨b3, 0, none⟩), .pointer (some ⟨b9, 0, none⟩), .pointer (some ⟨b7, 0, none⟩)]] 278)) b3 #[.pointer (some ⟨d, 0, none⟩)] 123 ∧ Blk (W1.alloc (.cells #[.func (.func 185) #[] #[.pointer (some ⟨b3, 0, none⟩), .pointer (some ⟨b9, 0, none⟩), .pointer (some ⟨b7, 0, none⟩)]] 278)) b4 #[.string nm] 9 ∧ Blk (W1.alloc (.cells #[.func (.func 185) #[] #[.pointer (some ⟨b3, 0, none⟩), .pointer (some ⟨b9, 0, none⟩), .pointer (some ⟨b7, 0, none⟩)]] 278)) b7 #[.string t] 9 ∧ Blk (W1.alloc (.cells #[.func (.func 185) #[] #[.pointer (some ⟨b3, 0, none⟩), .pointer (some ⟨b9, 0, none⟩), .pointer (some ⟨b7, 0, none⟩)]] 278)) b9 #[.string bs] 9) := ⟨HBK1.out.1.ext ha1, HBK1.out.2.1.ext ha1, HBK1.out.2.2.1.ext ha1, HBK1.out.2.2.2.ext ha1⟩
 clear ha1 HC1 HDW1 HBK1
 refine (sv2_any d F b3 b9 b7 u sz bs t HS.out.2.1 (by have := HT.out.2; omega) HT.out.1 _ HD1.out HK1.out.1 HK1.out.2.2.2 HK1.out.2.2.1).mono ?_
 rintro r W2 ⟨rfl, ⟨lo1, hd1⟩, hk⟩
 have hc : Chg [d, F] (W1.alloc (.cells #[.func (.func 185) #[] #[.pointer (some ⟨b3, 0, none⟩), .pointer (some ⟨b9, 0, none⟩), .pointer (some ⟨b7, 0, none⟩)]] 278)) W2 := hk
 have HC2 : Hid (Chg [d, F] W W2) := chg_tr HX1.out hc
 have HBK2 : Hid (Blk W2 b3 #[.pointer (some ⟨d, 0, none⟩)] 123 ∧ Blk W2 b4 #[.string nm] 9 ∧ Blk W2 b7 #[.string t] 9 ∧ Blk W2 b9 #[.string bs] 9) := ⟨HD1.out.box HK1.out.1 (by decide) hc, HD1.out.box HK1.out.2.1 (by decide) hc, HD1.out.box HK1.out.2.2.1 (by decide) hc, HD1.out.box HK1.out.2.2.2 (by decide) hc⟩
 have HDW2 := hd_ (hd1)
 clear hc hk hd1 HX1 HK1 HD1
 go_wp2_with fail
 rw [rounds_succ]
 go_wp2_with fail
 have ha2 : Below W2.heap.size W2 (W2.alloc (.cells #[.func (.func 150) #[.pointer (some ⟨d, 0, none⟩)] #[]] 278)) := bel1 _ _
 have HX2 : Hid (Chg [d, F] W (W2.alloc (.cells #[.func (.func 150) #[.pointer (some ⟨d, 0, none⟩)] #[]] 278))) := chg_tr HC2.out (chg_mono (Chg.of_below (S := []) ha2) (by simp))
 have HD2 := hd_ (HDW2.out.ext ha2)
 have HK2 : Hid (Blk (W2.alloc (.cells #[.func (.func 150) #[.pointer (some ⟨d, 0, none⟩)] #[]] 278)) b3 #[.pointer (some ⟨d, 0, none⟩)] 123 ∧ Blk (W2.alloc (.cells #[.func (.func 150) #[.pointer (some ⟨d, 0, none⟩)] #[]] 278)) b4 #[.string nm] 9 ∧ Blk (W2.alloc (.cells #[.func (.func 150) #[.pointer (some ⟨d, 0, none⟩)] #[]] 278)) b7 #[.string t] 9 ∧ Blk (W2.alloc (.cells #[.func (.func 150) #[.pointer (some ⟨d, 0, none⟩)] #[]] 278)) b9 #[.string bs] 9) := ⟨HBK2.out.1.ext ha2, HBK2.out.2.1.ext ha2, HBK2.out.2.2.1.ext ha2, HBK2.out.2.2.2.ext ha2⟩
 clear ha2 HC2 HDW2 HBK2
 refine (sync_any d F u lo1 [bs] _ _ HD2.out).mono ?_
 rintro r W3 ⟨rfl, ⟨u2, hd1⟩, hk⟩
 have hc : Chg [d, F] (W2.alloc (.cells #[.func (.func 150) #[.pointer (some ⟨d, 0, none⟩)] #[]] 278)) W3 := chg_mono hk (by simp)
 have HC3 : Hid (Chg [d, F] W W3) := chg_tr HX2.out hc
 have HBK3 : Hid (Blk W3 b3 #[.pointer (some ⟨d, 0, none⟩)] 123 ∧ Blk W3 b4 #[.string nm] 9 ∧ Blk W3 b7 #[.string t] 9 ∧ Blk W3 b9 #[.string bs] 9) := ⟨HD2.out.box HK2.out.1 (by decide) hc, HD2.out.box HK2.out.2.1 (by decide) hc, HD2.out.box HK2.out.2.2.1 (by decide) hc, HD2.out.box HK2.out.2.2.2 (by decide) hc⟩
 have HDW3 := hd_ (hd1)
 clear hc hk hd1 HX2 HK2 HD2
 go_wp2_with fail
 rw [rounds_succ]
 go_wp2_with fail
 have ha3 : Below W3.heap.size W3 (W3.alloc (.cells #[.func (.func 187) #[] #[.pointer (some ⟨b3, 0, none⟩), .pointer (some ⟨b9, 0, none⟩), .pointer (some ⟨b4, 0, none⟩)]] 278)) := bel1 _ _
 have HX3 : Hid (Chg [d, F] W (W3.alloc (.cells #[.func (.func 187) #[] #[.pointer (some ⟨b3, 0, none⟩), .pointer (some ⟨b9, 0, none⟩), .pointer (some ⟨b4, 0, none⟩)]] 278))) := chg_tr HC3.out (chg_mono (Chg.of_below (S := []) ha3) (by simp))
 have HD3 := hd_ (HDW3.out.ext ha3)
 have HK3 : Hid (Blk (W3.alloc (.cells #[.func (.func 187) #[] #[.pointer (some ⟨b3, 0, none⟩), .pointer (some ⟨b9, 0, none⟩), .pointer (some ⟨b4, 0, none⟩)]] 278)) b3 #[.pointer (some ⟨d, 0, none⟩)] 123 ∧ Blk (W3.alloc (.cells #[.func (.func 187) #[] #[.pointer (some ⟨b3, 0, none⟩), .pointer (some ⟨b9, 0, none⟩), .pointer (some ⟨b4, 0, none⟩)]] 278)) b4 #[.string nm] 9 ∧ Blk (W3.alloc (.cells #[.func (.func 187) #[] #[.pointer (some ⟨b3, 0, none⟩), .pointer (some ⟨b9, 0, none⟩), .pointer (some ⟨b4, 0, none⟩)]] 278)) b7 #[.string t] 9 ∧ Blk (W3.alloc (.cells #[.func (.func 187) #[] #[.pointer (some ⟨b3, 0, none⟩), .pointer (some ⟨b9, 0, none⟩), .pointer (some ⟨b4, 0, none⟩)]] 278)) b9 #[.string bs] 9) := ⟨HBK3.out.1.ext ha3, HBK3.out.2.1.ext ha3, HBK3.out.2.2.1.ext ha3, HBK3.out.2.2.2.ext ha3⟩
 clear ha3 HC3 HDW3 HBK3
 refine (sv3_any d F b3 b9 b4 u2 _ bs nm HS.out.2.1 HS.out.1 HS.out.2.2.2 hq _ HD3.out HK3.out.1 HK3.out.2.2.2 HK3.out.2.1).mono ?_
 rintro r W4 ⟨rfl, ⟨lo3, hd1⟩, hk⟩
 have hc : Chg [d, F] (W3.alloc (.cells #[.func (.func 187) #[] #[.pointer (some ⟨b3, 0, none⟩), .pointer (some ⟨b9, 0, none⟩), .pointer (some ⟨b4, 0, none⟩)]] 278)) W4 := hk
 have HC4 : Hid (Chg [d, F] W W4) := chg_tr HX3.out hc
 have HBK4 : Hid (Blk W4 b3 #[.pointer (some ⟨d, 0, none⟩)] 123 ∧ Blk W4 b4 #[.string nm] 9 ∧ Blk W4 b7 #[.string t] 9 ∧ Blk W4 b9 #[.string bs] 9) := ⟨HD3.out.box HK3.out.1 (by decide) hc, HD3.out.box HK3.out.2.1 (by decide) hc, HD3.out.box HK3.out.2.2.1 (by decide) hc, HD3.out.box HK3.out.2.2.2 (by decide) hc⟩
 have HDW4 := hd_ (hd1)
 clear hc hk hd1 HX3 HK3 HD3
 go_wp2_with fail
 rw [rounds_succ]
 go_wp2_with fail
 have ha4 : Below W4.heap.size W4 (W4.alloc (.cells #[.func (.func 150) #[.pointer (some ⟨d, 0, none⟩)] #[]] 278)) := bel1 _ _
 have HX4 : Hid (Chg [d, F] W (W4.alloc (.cells #[.func (.func 150) #[.pointer (some ⟨d, 0, none⟩)] #[]] 278))) := chg_tr HC4.out (chg_mono (Chg.of_below (S := []) ha4) (by simp))
 have HD4 := hd_ (HDW4.out.ext ha4)
 have HK4 : Hid (Blk (W4.alloc (.cells #[.func (.func 150) #[.pointer (some ⟨d, 0, none⟩)] #[]] 278)) b3 #[.pointer (some ⟨d, 0, none⟩)] 123 ∧ Blk (W4.alloc (.cells #[.func (.func 150) #[.pointer (some ⟨d, 0, none⟩)] #[]] 278)) b4 #[.string nm] 9 ∧ Blk (W4.alloc (.cells #[.func (.func 150) #[.pointer (some ⟨d, 0, none⟩)] #[]] 278)) b7 #[.string t] 9 ∧ Blk (W4.alloc (.cells #[.func (.func 150) #[.pointer (some ⟨d, 0, none⟩)] #[]] 278)) b9 #[.string bs] 9) := ⟨HBK4.out.1.ext ha4, HBK4.out.2.1.ext ha4, HBK4.out.2.2.1.ext ha4, HBK4.out.2.2.2.ext ha4⟩
 clear ha4 HC4 HDW4 HBK4
 refine (sync_any d F u2 lo3 [nm] _ _ HD4.out).mono ?_
 rintro r W5 ⟨rfl, ⟨u4, hd1⟩, hk⟩
 have hc : Chg [d, F] (W4.alloc (.cells #[.func (.func 150) #[.pointer (some ⟨d, 0, none⟩)] #[]] 278)) W5 := chg_mono hk (by simp)
 have HC5 : Hid (Chg [d, F] W W5) := chg_tr HX4.out hc
 have HBK5 : Hid (Blk W5 b3 #[.pointer (some ⟨d, 0, none⟩)] 123 ∧ Blk W5 b4 #[.string nm] 9 ∧ Blk W5 b7 #[.string t] 9 ∧ Blk W5 b9 #[.string bs] 9) := ⟨HD4.out.box HK4.out.1 (by decide) hc, HD4.out.box HK4.out.2.1 (by decide) hc, HD4.out.box HK4.out.2.2.1 (by decide) hc, HD4.out.box HK4.out.2.2.2 (by decide) hc⟩
 have HDW5 := hd_ (hd1)
 clear hc hk hd1 HX4 HK4 HD4
 go_wp2_with fail
 rw [rounds_succ]
 go_wp2_with fail
 go_ret
 exact ⟨rfl, ⟨u4, _, HDW5.out⟩, below_chg HB2.out HC5.out⟩
end Go.Proofs.YtceoficoappkpaaGreatDoor
