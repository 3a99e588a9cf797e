/- Texts joined by a tool: contracts and walks of this claim. -/
import Derived.Test.YtceoficoappkpaaGreatDoorF5
namespace Go.Proofs.YtceoficoappkpaaGreatDoor
open Go.ChangeShapes Go.WideShapes Go.ChangeAt Go.RowKit Go.Deep
end Go.Proofs.YtceoficoappkpaaGreatDoor

namespace Go.Proofs.YtceoficoappkpaaGreatDoor
open Go.ChangeShapes Go.WideShapes Go.ChangeAt Go.RowKit Go.Deep
section
variable {H : Type} {enc : TypeId × Value → H}
theorem open_rowG {α : Type} [Inhabited α] {W : World} (q : Nat) (hq : 0 < q) (cf : α → List Value) (hcf : ∀ x, (cf x).length = q) (p : α → Prop) (nb : Nat) {T E : TypeId}
  (hT : Tryz.prog.underlying T = some (.slice E)) (hc : Tryz.prog.cellsOf E = q) (hbytes : Tryz.prog.bytesOf E = nb)
  (hel : ∀ (fuel : Nat) (held : Bool) (cs : List Value) (x : DataW H × List MemPlace), DataW.trod enc Tryz.prog W 0 (fun _ => true) held fuel E cs = some x → (∀ m ∈ x.1.weights Tryz.prog E, m ≤ reachBytes) → ∃ v : α, p v ∧ cs = cf v)
  {fuel : Nat} {held : Bool} {cs : List Value} {x : DataW H × List MemPlace}
  (h : DataW.trod enc Tryz.prog W 0 (fun _ => true) held fuel T cs = some x) (hwt : ∀ n ∈ x.1.weights Tryz.prog T, n ≤ reachBytes) :
  ∃ (A : Option Addr) (l : List α) (c : Nat), cs = [.slice A l.length c] ∧ (∀ v ∈ l, p v) ∧ l.length * nb ≤ 140737488355328 ∧ l.length ≤ c ∧
   (l ≠ [] → ∃ b off, A = some ⟨b, off, none⟩ ∧ b < W.heap.size ∧ ∀ i v, l[i]? = some v → ∀ j, j < q → W.cell? ⟨b, off + i * q + j, none⟩ = (cf v)[j]?) := by
 rcases open_slice hT h with ⟨rfl, rfl⟩ | ⟨a, len, cap, m, n, D, Pl, rfl, _, hl, hm, hmm, rfl, hx⟩
 · exact ⟨none, [], 0, rfl, (fun _ h => by cases h), by simp, by simp, fun h => absurd rfl h⟩
 · simp only [if_true] at hmm
   subst hmm
   have hlen : len * nb ≤ 140737488355328 := by
    have := hwt _ (by simp only [DataW.weights, hT]; exact List.mem_cons_self)
    rw [hbytes] at this
    simp only [List.length_map, List.length_range] at this
    have h1 : reachBytes ≤ 140737488355328 := by decide
    exact Nat.le_trans (Nat.mul_le_mul_right nb (Nat.le_add_right len _)) (Nat.le_trans this h1)
   have hV : ∀ i, i < len → ∃ v : α, p v ∧ ∀ j, j < q → W.cell? (a.add (i * q + j)) = (cf v)[j]? := by
    intro i hi
    obtain ⟨cs', h1, h2⟩ := hx i (by omega)
    rw [hc] at h1
    obtain ⟨v, hwf, rfl⟩ := hel _ _ _ _ h2 (fun n hn => hwt n (by
     simp only [DataW.weights, hT]
     refine List.mem_cons_of_mem _ (List.mem_append_left _ (weights_all (d := D i) ?_ n hn))
     exact List.mem_map.2 ⟨i, List.mem_range.2 hi, rfl⟩))
    obtain ⟨_, _, hcell⟩ := World.cells?_some h1
    exact ⟨v, hwf, fun j hj => by rw [← Go.Deep.add_add]; exact hcell j hj⟩
   obtain ⟨f, hf⟩ := choose_lt (α := α) (p := fun i v => p v ∧ ∀ j, j < q → W.cell? (a.add (i * q + j)) = (cf v)[j]?) hV
   refine ⟨some a, (List.range len).map f, m, by simp, ?_, by simpa using hlen, by simpa using hl, fun hne => ?_⟩
   · intro v hv
     obtain ⟨i, hi, rfl⟩ := List.mem_map.1 hv
     exact (hf i (List.mem_range.1 hi)).1
   · have hpos : 0 < len := by
      rcases Nat.eq_zero_or_pos len with h0 | h0
      · subst h0; simp at hne
      · exact h0
     have h00 := (hf 0 hpos).2 0 hq
     have ha0 : a.add (0 * q + 0) = a := by simp [Addr.add]
     rw [ha0, List.getElem?_eq_getElem (by rw [hcf]; exact hq)] at h00
     have hap := addr_plain h00
     have hblk := lt_of_cell' h00
     obtain ⟨b, off, sp⟩ := a
     simp only at hap hblk
     injection hap with _ _ hsp
     subst hsp
     refine ⟨b, off, rfl, hblk, fun i v hi => ?_⟩
     have hil : i < len := by
      have := (List.getElem?_eq_some_iff.1 hi).1
      simpa using this
     have hv : v = f i := by
      rw [List.getElem?_map, List.getElem?_range hil] at hi
      exact (Option.some.inj hi).symm
     subst hv
     intro j hj
     rw [← (hf i hil).2 j hj]
     have ea : (⟨b, off, none⟩ : Addr).add (i * q + j) = ⟨b, off + i * q + j, none⟩ := by
      unfold Addr.add
      split
      · next h0 =>
        have e : off + i * q + j = off := by rw [Nat.add_assoc, h0]; rfl
        rw [e]
      · show (⟨b, off + (i * q + j), none⟩ : Addr) = _
        rw [Nat.add_assoc]
     rw [ea]
instance : Inhabited Co := ⟨⟨ByteArray.empty, 0, false⟩⟩
instance : Inhabited Ta := ⟨⟨ByteArray.empty, [], 0, 0, 0, none, 0⟩⟩
def coC (c : Co) : List Value := [.string c.nm, .int .u8 c.k, .bool c.nl]
set_option maxRecDepth 100000 in
/-- A column. -/
theorem open_Co {W : World} {fuel : Nat} {held : Bool} {cs : List Value} {x : DataW H × List MemPlace}
  (h : DataW.trod enc Tryz.prog W 0 (fun _ => true) held fuel 98 cs = some x) (hwt : ∀ n ∈ x.1.weights Tryz.prog 98, n ≤ reachBytes) :
  ∃ c : Co, c.wf ∧ cs = coC c := by
 obtain ⟨xs, n, _, hx, hlen, hxl, hf⟩ := DataW.trod_struct Tryz.underlying98 h
 have hc : Tryz.prog.cellsOf 98 = 3 := by kernel_rfl
 rw [hc] at hlen
 match cs, hlen with
 | [c0, c1, c2], _ =>
 match xs, hxl with
 | [x0, x1, x2], _ =>
  have k1 : Tryz.prog.cellsOf 9 = 1 := by kernel_rfl
  have k2 : Tryz.prog.cellsOf 5 = 1 := by kernel_rfl
  have k3 : Tryz.prog.cellsOf 4 = 1 := by kernel_rfl
  have f0 := hf 0 _ rfl
  have f1 := hf 1 _ rfl
  have f2 := hf 2 _ rfl
  change DataW.trod enc Tryz.prog W 0 (fun _ => true) held n 9 (([c0, c1, c2].drop 0).take (Tryz.prog.cellsOf 9)) = some x0 at f0
  change DataW.trod enc Tryz.prog W 0 (fun _ => true) held n 5 (([c0, c1, c2].drop 1).take (Tryz.prog.cellsOf 5)) = some x1 at f1
  change DataW.trod enc Tryz.prog W 0 (fun _ => true) held n 4 (([c0, c1, c2].drop 2).take (Tryz.prog.cellsOf 4)) = some x2 at f2
  rw [k1] at f0
  rw [k2] at f1
  rw [k3] at f2
  simp only [List.drop_zero, List.drop_succ_cons, List.take_succ_cons, List.take_zero] at f0 f1 f2
  obtain ⟨s, e0, rfl, ws⟩ := DataW.trod_string Tryz.underlying9 f0
  obtain ⟨a, e1, rfl, wa⟩ := DataW.trod_int Tryz.underlying5 f1
  obtain ⟨v, e2, rfl⟩ := DataW.trod_bool Tryz.underlying4 f2
  simp only [List.cons.injEq, and_true] at e0 e1 e2
  subst e0; subst e1; subst e2
  simp only [List.map_cons, List.map_nil] at hx
  subst hx
  have hsz : s.data.toList.length ≤ reachBytes := by
   refine hwt _ ?_
   simp [DataW.weights, Tryz.underlying98, DataW.weightsEach]
  have ba := bounds_u8 wa
  have hs2 : s.size ≤ 140737488355328 := by
   have : s.data.toList.length = s.size := by simp
   have : reachBytes ≤ 140737488355328 := by decide
   omega
  exact ⟨⟨s, a, v⟩, ⟨hs2, by simp only; omega, by simp only; omega⟩, rfl⟩
theorem open_crow {W : World} {fuel : Nat} {held : Bool} {cs : List Value} {x : DataW H × List MemPlace}
  (h : DataW.trod enc Tryz.prog W 0 (fun _ => true) held fuel 71 cs = some x) (hwt : ∀ n ∈ x.1.weights Tryz.prog 71, n ≤ reachBytes) :
  ∃ (A : Option Addr) (l : List Co) (c : Nat), cs = [.slice A l.length c] ∧ CRow W A l := by
 obtain ⟨A, l, c, e, h1, h2, _, h3⟩ := open_rowG (α := Co) 3 (by omega) coC (fun _ => rfl) Co.wf 24 Tryz.underlying71 (by kernel_rfl) (by kernel_rfl) (fun _ _ _ _ => open_Co) h hwt
 refine ⟨A, l, c, e, h1, by omega, fun hl => ?_⟩
 obtain ⟨b, off, rfl, hb, hx⟩ := h3 hl
 exact ⟨b, off, rfl, hb, fun i v hi => ⟨hx i v hi 0 (by omega), hx i v hi 1 (by omega), hx i v hi 2 (by omega)⟩⟩
def taC (t : Ta) : List Value := t.cells.toList
set_option maxRecDepth 100000 in
/-- A table. -/
theorem open_Ta {W : World} {fuel : Nat} {held : Bool} {cs : List Value} {x : DataW H × List MemPlace}
  (h : DataW.trod enc Tryz.prog W 0 (fun _ => true) held fuel 73 cs = some x) (hwt : ∀ n ∈ x.1.weights Tryz.prog 73, n ≤ reachBytes) :
  ∃ t : Ta, (t.wf ∧ CRow W t.A t.cs) ∧ cs = taC t := by
 obtain ⟨xs, n, _, hx, hlen, hxl, hf⟩ := DataW.trod_struct Tryz.underlying73 h
 have hc : Tryz.prog.cellsOf 73 = 5 := by kernel_rfl
 rw [hc] at hlen
 match cs, hlen with
 | [c0, c1, c2, c3, c4], _ =>
 match xs, hxl with
 | [x0, x1, x2, x3, x4], _ =>
  have k1 : Tryz.prog.cellsOf 9 = 1 := by kernel_rfl
  have k2 : Tryz.prog.cellsOf 71 = 1 := by kernel_rfl
  have k3 : Tryz.prog.cellsOf 3 = 1 := by kernel_rfl
  have f0 := hf 0 _ rfl
  have f1 := hf 1 _ rfl
  have f2 := hf 2 _ rfl
  have f3 := hf 3 _ rfl
  have f4 := hf 4 _ rfl
  change DataW.trod enc Tryz.prog W 0 (fun _ => true) held n 9 (([c0, c1, c2, c3, c4].drop 0).take (Tryz.prog.cellsOf 9)) = some x0 at f0
  change DataW.trod enc Tryz.prog W 0 (fun _ => true) held n 71 (([c0, c1, c2, c3, c4].drop 1).take (Tryz.prog.cellsOf 71)) = some x1 at f1
  change DataW.trod enc Tryz.prog W 0 (fun _ => true) held n 3 (([c0, c1, c2, c3, c4].drop 2).take (Tryz.prog.cellsOf 3)) = some x2 at f2
  change DataW.trod enc Tryz.prog W 0 (fun _ => true) held n 3 (([c0, c1, c2, c3, c4].drop 3).take (Tryz.prog.cellsOf 3)) = some x3 at f3
  change DataW.trod enc Tryz.prog W 0 (fun _ => true) held n 3 (([c0, c1, c2, c3, c4].drop 4).take (Tryz.prog.cellsOf 3)) = some x4 at f4
  rw [k1] at f0
  rw [k2] at f1
  rw [k3] at f2 f3 f4
  simp only [List.drop_zero, List.drop_succ_cons, List.take_succ_cons, List.take_zero] at f0 f1 f2 f3 f4
  obtain ⟨s, e0, rfl, ws⟩ := DataW.trod_string Tryz.underlying9 f0
  simp only [List.map_cons, List.map_nil] at hx
  have hw1 : ∀ m ∈ x1.1.weights Tryz.prog 71, m ≤ reachBytes := fun m hm => hwt m (by
   rw [hx]; simp only [DataW.weights, Tryz.underlying73]; exact DataW.weights_mem_each (j := 1) rfl rfl m hm)
  have hsz : s.data.toList.length ≤ reachBytes := by
   refine hwt _ ?_
   rw [hx]
   simp only [DataW.weights, Tryz.underlying73]
   exact DataW.weights_mem_each (j := 0) rfl rfl _ (by simp [DataW.weights])
  obtain ⟨A, l, c, e1, hA⟩ := open_crow f1 hw1
  obtain ⟨b2, e2, rfl, w2⟩ := DataW.trod_int Tryz.underlying3 f2
  obtain ⟨b3, e3, rfl, w3⟩ := DataW.trod_int Tryz.underlying3 f3
  obtain ⟨b4, e4, rfl, w4⟩ := DataW.trod_int Tryz.underlying3 f4
  simp only [List.cons.injEq, and_true] at e0 e1 e2 e3 e4
  subst e0; subst e1; subst e2; subst e3; subst e4
  have g2 := bounds_i64 w2
  have g3 := bounds_i64 w3
  have g4 := bounds_i64 w4
  have hs2 : s.size ≤ 140737488355328 := by
   have : s.data.toList.length = s.size := by simp
   have : reachBytes ≤ 140737488355328 := by decide
   omega
  exact ⟨⟨s, l, b2, b3, b4, A, c⟩, ⟨⟨hs2, by simp only; omega, by simp only; omega, by simp only; omega⟩, hA⟩, rfl⟩
set_option maxRecDepth 100000 in
/-- A schema: one cell, its tables. -/
theorem open_S {W : World} {fuel : Nat} {held : Bool} {cs : List Value} {x : DataW H × List MemPlace}
  (h : DataW.trod enc Tryz.prog W 0 (fun _ => true) held fuel 24 cs = some x) (hwt : ∀ n ∈ x.1.weights Tryz.prog 24, n ≤ reachBytes) :
  ∃ (ts : List Ta) (A : Option Addr) (c : Nat), cs = (#[.slice A ts.length c] : Array Value).toList ∧ TRow W A c ts := by
 obtain ⟨xs, n, _, hx, hlen, hxl, hf⟩ := DataW.trod_struct Tryz.underlying24 h
 have hc : Tryz.prog.cellsOf 24 = 1 := by kernel_rfl
 rw [hc] at hlen
 match cs, hlen with
 | [c0], _ =>
 match xs, hxl with
 | [x0], _ =>
  have k1 : Tryz.prog.cellsOf 22 = 1 := by kernel_rfl
  have f0 := hf 0 _ rfl
  change DataW.trod enc Tryz.prog W 0 (fun _ => true) held n 22 (([c0].drop 0).take (Tryz.prog.cellsOf 22)) = some x0 at f0
  rw [k1] at f0
  simp only [List.drop_zero, List.take_succ_cons, List.take_zero] at f0
  simp only [List.map_cons, List.map_nil] at hx
  have hw0 : ∀ m ∈ x0.1.weights Tryz.prog 22, m ≤ reachBytes := fun m hm => hwt m (by
   rw [hx]; simp only [DataW.weights, Tryz.underlying24]; exact DataW.weights_mem_each (j := 0) rfl rfl m hm)
  obtain ⟨A, l, c, e, h1, h2, h4, h3⟩ := open_rowG (α := Ta) 5 (by omega) taC (fun _ => rfl) (fun t => t.wf ∧ CRow W t.A t.cs) 64 Tryz.underlying22 (by kernel_rfl) (by kernel_rfl) (fun _ _ _ _ => open_Ta) f0 hw0
  simp only [List.cons.injEq, and_true] at e
  subst e
  refine ⟨l, A, c, rfl, h1, by omega, h4, fun hl => ?_⟩
  obtain ⟨b, off, rfl, hb, hx⟩ := h3 hl
  exact ⟨b, off, rfl, hb, fun i v hi => ⟨hx i v hi 0 (by omega), hx i v hi 1 (by omega), hx i v hi 2 (by omega), hx i v hi 3 (by omega), hx i v hi 4 (by omega)⟩⟩
end
end Go.Proofs.YtceoficoappkpaaGreatDoor
namespace Go.Proofs.YtceoficoappkpaaGreatDoor
open Go.RowKit Go.Shelf
attribute [local go_sem] Oper.semAt_some

theorem and_bit (n i : Nat) : n &&& 2 ^ i = if n.testBit i then 2 ^ i else 0 := by
 apply Nat.eq_of_testBit_eq
 intro k
 rw [Nat.testBit_and, Nat.testBit_two_pow]
 by_cases hk : i = k
 · subst hk
   cases h : n.testBit i <;> simp
 · cases h : n.testBit i <;> simp [hk]
theorem and_top (c : Int) (h0 : 0 ≤ c) (h1 : c < 9223372036854775808) : bits .and .u64 (c + 9223372036854775808) 9223372036854775808 = 9223372036854775808 := by
 rw [u64_and _ _ (by omega) (by omega) (by omega) (by omega)]
 have e : (9223372036854775808 : Int).toNat = 2 ^ 63 := by decide
 have e2 : (c + 9223372036854775808).toNat = 2 ^ 63 + c.toNat := by omega
 rw [e, e2, and_bit, Nat.testBit_two_pow_add_eq, Nat.testBit_lt_two_pow (by omega)]
 rfl
theorem andnot_top (c : Int) (h0 : 0 ≤ c) (h1 : c < 9223372036854775808) : bits .andNot .u64 (c + 9223372036854775808) 9223372036854775808 = c := by
 rw [u64_andNot _ _ (by omega) (by omega) (by omega) (by omega)]
 have e : 18446744073709551615 - (9223372036854775808 : Int).toNat = 2 ^ 63 - 1 := by decide
 rw [e, Nat.and_two_pow_sub_one_eq_mod]
 omega
theorem and_low (c : Int) (h0 : 0 ≤ c) (h1 : c < 9223372036854775808) : bits .and .u64 c 9223372036854775808 = 0 := by
 rw [u64_and _ _ (by omega) (by omega) (by omega) (by omega)]
 have e : (9223372036854775808 : Int).toNat = 2 ^ 63 := by decide
 rw [e, and_bit, Nat.testBit_lt_two_pow (by omega)]
 rfl
set_option maxRecDepth 100000 in
theorem back1_any (r : Int) (h0 : 0 ≤ r) (h1 : r ≤ 18446744073709551615) (hc : r = canonZ r) (b : Nat) (w : World) (hb : Blk w b #[.int .u64 (keyZ r)] 29) :
  Calls Tryz.prog 140 #[.pointer (some ⟨b, 0, none⟩)] w fun e w' => e = .returned (.int .u64 r) ∧ w = w' := by
 obtain ⟨lb, cb⟩ : b < w.heap.size ∧ w.cell? ⟨b, 0, none⟩ = some (.int .u64 (keyZ r)) := ⟨hb.lt, hb.cell 0⟩
 clear hb
 by_cases h : r < 9223372036854775808
 · rw [keyZ_low (by rw [← hc]; exact h), ← hc] at cb
   have ha := and_top r h0 h
   have hn := andnot_top r h0 h
   clear hc
   go_enter Tryz.func140, Tryz.ntmps140
   go_wp2_with fail
   go_ret
   exact ⟨rfl, rfl⟩
 · rw [keyZ_high (by rw [← hc]; exact h), ← hc] at cb
   have ha := and_low (18446744073709551615 - r) (by omega) (by omega)
   have hn := xor_all (18446744073709551615 - r) (by omega) (by omega)
   have hs : (18446744073709551615 : Int) - (18446744073709551615 - r) = r := by omega
   rw [hs] at hn
   clear hc hs
   generalize (18446744073709551615 : Int) - r = k at *
   go_enter Tryz.func140, Tryz.ntmps140
   go_wp2_with fail
   go_ret
   exact ⟨rfl, rfl⟩
set_option maxRecDepth 100000 in
theorem realback_any (r : Int) (h0 : 0 ≤ r) (h1 : r ≤ 18446744073709551615) (hc : r = canonZ r) (w : World) :
  Calls Tryz.prog 99 #[.int .u64 (keyZ r)] w fun e w' => e = .returned (.tuple #[.int .u64 r, .int .i64 0]) ∧ Below w.heap.size w w' := by
 have HB := hd_ (fun (b : Nat) (W : World) (hb : Blk W b #[.int .u64 (keyZ r)] 29) => back1_any r h0 h1 hc b W hb)
 have HK := hd_ (realkey_any r h0 h1)
 clear hc
 generalize keyZ r = k at *
 go_enter Tryz.func99, Tryz.ntmps99
 go_wp2_with fail
 refine (HB.out _ _ (Blk.new _ _ _)).mono ?_
 rintro e w1 ⟨rfl, rfl⟩
 go_upto_region 3 with fail
 go_quiet (refine Calls.quiet_of_same ((HK.out _).mono fun _ _ h => ⟨h.1, h.2.symm⟩))
 go_wp2_with fail
 refine bodyPost_ret (v := .tuple #[.int .u64 r, .int .i64 0]) (by simp [results, Tryz.results99, go_sem]) rfl ?_
 exact ⟨rfl, (by repeat (first | exact Below.refl _ _ | assumption | refine Below.drew ?_ | refine below_drewN ?_ _ | refine Below.alloc ?_ (by simp <;> omega) _))⟩
set_option maxRecDepth 100000 in
set_option maxHeartbeats 800000 in
theorem kg3_any (t r : List UInt8) (hs : (keyT t ++ 0 :: 1 :: r).length ≤ 1000000) (b1 b2 : Nat) (w : World) (h1 : Blk w b1 #[.string (bsO (keyT t ++ 0 :: 1 :: r))] 9) (hL : LayX w) :
  Calls Tryz.prog 96 #[.pointer (some ⟨b1, 0, none⟩), .pointer (some ⟨b2, 0, none⟩)] w fun e w' => e = .returned (.string (bsO t)) ∧ Blk w' b1 #[.string (bsO r)] 9 ∧ Chg [b1] w w' := by
 obtain ⟨-, lm, m, hm⟩ := hL
 have hlen : (keyT t ++ 0 :: 1 :: r).length = (keyT t).length + 2 + r.length := by simp; omega
 have hl1 : (keyT t).length ≤ 1000000 := by omega
 have hix := Tryz.strings_Index (bsO (keyT t ++ 0 :: 1 :: r)) ⟨#[0, 1]⟩ m w (by rw [bsO_size]; omega) hm
 have e0 : (bsO (keyT t ++ 0 :: 1 :: r)).data.toList = keyT t ++ 0 :: 1 :: r := rfl
 have e01 : (ByteArray.mk #[0, 1]).data.toList = [0, 1] := rfl
 rw [e0, e01, keyT_end r t] at hix
 have hcnt : Lib.countB (bsO (keyT t)) ⟨#[0, 255]⟩ ≤ (bsO (keyT t)).size := Lib.countB_le ⟨#[0, 255]⟩ (by decide) _ _ (Nat.le_refl _)
 have hsz1 : (ByteArray.mk #[0]).size = 1 := rfl
 have HRA : Hid (∀ W : World, W.cell? ⟨3, 0, none⟩ = some (.int .i64 m) → Calls Tryz.prog 98 #[.string (bsO (keyT t)), .string ⟨#[0, 255]⟩, .string ⟨#[0]⟩] W fun e w' => e = .returned (.string (bsO t)) ∧ Below W.heap.size W w') := by
  intro W hmW
  refine (Tryz.strings_ReplaceAll (bsO (keyT t)) ⟨#[0, 255]⟩ ⟨#[0]⟩ m W (by rw [bsO_size]; omega) hmW (by decide) (by rw [bsO_size] at hcnt; rw [bsO_size, hsz1]; omega)).mono ?_
  rintro e w' ⟨rfl, hb⟩
  refine ⟨?_, hb⟩
  have hu := keyT_undo t
  exact congrArg (fun l : List UInt8 => Ending.returned (.string ⟨l.toArray⟩)) hu
 have e1 := bsO_take (keyT t) (0 :: 1 :: r)
 have e2 : (bsO (keyT t ++ 0 :: 1 :: r)).extract ((keyT t).length + 2) (keyT t ++ 0 :: 1 :: r).length = bsO r := by
  have := bsO_drop (keyT t ++ [0, 1]) r
  simpa [List.append_assoc] using this
 have e4 : (keyT t ++ 0 :: 1 :: r).length = (bsO (keyT t ++ 0 :: 1 :: r)).size := (bsO_size _).symm
 rw [e4] at e2
 have e3 : (bsO (keyT t ++ 0 :: 1 :: r)).size = (keyT t).length + 2 + r.length := by rw [bsO_size]; exact hlen
 have HIX := hd_ hix
 have hne : b1 ≠ 3 := by
  rintro rfl
  have := h1.cell 0
  rw [hm] at this
  cases this
 clear e0 e01 hcnt hix e4 hlen hs
 generalize bsO (keyT t ++ 0 :: 1 :: r) = s at *
 generalize bsO (keyT t) = st at *
 generalize bsO r = sr at *
 generalize (keyT t).length = n at *
 generalize r.length = q at *
 obtain ⟨w3, rfl, lb⟩ := blk_put h1
 obtain ⟨pc, pf, pS⟩ := putBlk_facts (w := w3) 9 lb
 have HM : Hid (∀ cs, (putBlk w3 b1 cs 9).cell? ⟨3, 0, none⟩ = some (.int .i64 m)) := by
  intro cs
  have hc : Chg [b1] (putBlk w3 b1 #[.string s] 9) (putBlk w3 b1 cs 9) := chg_put0
  exact (World.cell?_of_block (a := ⟨3, 0, none⟩) (hc.block _ lm (by simp; omega))).trans hm
 have hle : n ≤ s.size := by omega
 have hle2 : n + 2 ≤ s.size := by omega
 have hIn : ((n : Int) < 0) = False := by simp
 have HE2 := hd_ e2
 clear e2 h1 hm lm hne hsz1 e3
 go_enter Tryz.func96, Tryz.ntmps96
 go_wp2_with fail
 refine HIX.out.mono ?_
 rintro e w1 ⟨rfl, rfl⟩
 go_wp2_with fail
 refine (HRA.out _ (HM.out _)).mono ?_
 rintro e w2 ⟨rfl, hb⟩
 have HB := hd_ hb
 clear hb
 go_wp2_with fail
 go_ret
 exact ⟨rfl, by rw [← HE2.out]; exact (putBlk_blk _ _ lb).ext HB.out, chg_tr' chg_put0 (Chg.of_below (S := []) HB.out)⟩
end Go.Proofs.YtceoficoappkpaaGreatDoor
