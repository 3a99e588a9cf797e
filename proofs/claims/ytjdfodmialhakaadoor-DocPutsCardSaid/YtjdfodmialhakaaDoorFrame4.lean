/- The opener of a document. -/
import Derived.Test.YtjdfodmialhakaaDoorFrame
import Derived.Test.YtjdfodmialhakaaDoorDc3
namespace Go.Proofs.YtjdfodmialhakaaDoor
open Go.ChangeShapes Go.WideShapes Go.ChangeAt Go.RowKit Go.Deep
section
variable {H : Type} {enc : TypeId × Value → H}
/-- A slice of structs, each of which, smaller than the slice, opens to cells cf. -/
theorem open_rowZ {α : Type} [Inhabited α] {W : World} (q : Nat) (hq : 0 < q) (cf : α → List Value) (hcf : ∀ x, (cf x).length = q) (p : α → Prop) (nb : Nat) {T E : TypeId}
    (hT : Tryd.prog.underlying T = some (.slice E)) (hc : Tryd.prog.cellsOf E = q) (hbytes : Tryd.prog.bytesOf E = nb)
    {fuel : Nat} {held : Bool} {cs : List Value} {x : DataW H × List MemPlace}
    (h : DataW.trod enc Tryd.prog W 0 (fun _ => true) held fuel T cs = some x) (hwt : ∀ n ∈ x.1.weights Tryd.prog T, n ≤ reachBytes)
    (hel : ∀ (fuel' : Nat) (held' : Bool) (cs' : List Value) (x' : DataW H × List MemPlace), DataW.trod enc Tryd.prog W 0 (fun _ => true) held' fuel' E cs' = some x' → SizeOf.sizeOf x'.1 < SizeOf.sizeOf x.1 → (∀ m ∈ x'.1.weights Tryd.prog E, m ≤ reachBytes) → ∃ v : α, p v ∧ cs' = cf v) :
    ∃ (A : Option Addr) (l : List α) (c : Nat), cs = [.slice A l.length c] ∧ (∀ v ∈ l, p v) ∧ l.length * nb ≤ 140737488355328 ∧ l.length ≤ c ∧
      (l ≠ [] → ∃ b off, A = some ⟨b, off, none⟩ ∧ b < W.heap.size ∧ ∀ i v, l[i]? = some v → ∀ j, j < q → W.cell? ⟨b, off + i * q + j, none⟩ = (cf v)[j]?) := by
  rcases open_slice hT h with ⟨rfl, rfl⟩ | ⟨a, len, cap, m, n, D, Pl, rfl, _, hl, hm, hmm, rfl, hx⟩
  · exact ⟨none, [], 0, rfl, (fun _ h => by cases h), by simp, by simp, fun h => absurd rfl h⟩
  · simp only [if_true] at hmm
    subst hmm
    have hlen : len * nb ≤ 140737488355328 := by
      have := hwt _ (by simp only [DataW.weights, hT]; exact List.mem_cons_self)
      rw [hbytes] at this
      simp only [List.length_map, List.length_range] at this
      have h1 : reachBytes ≤ 140737488355328 := by decide
      exact Nat.le_trans (Nat.mul_le_mul_right nb (Nat.le_add_right len _)) (Nat.le_trans this h1)
    have hV : ∀ i, i < len → ∃ v : α, p v ∧ ∀ j, j < q → W.cell? (a.add (i * q + j)) = (cf v)[j]? := by
      intro i hi
      obtain ⟨cs', h1, h2⟩ := hx i (by omega)
      rw [hc] at h1
      obtain ⟨v, hwf, rfl⟩ := hel _ _ _ _ h2 (by
        have h3 := List.sizeOf_lt_of_mem (List.mem_map.2 ⟨i, List.mem_range.2 hi, rfl⟩ : D i ∈ (List.range len).map D)
        simp only [DataW.slice.sizeOf_spec]
        omega) (fun n hn => hwt n (by
        simp only [DataW.weights, hT]
        refine List.mem_cons_of_mem _ (List.mem_append_left _ (weights_all (d := D i) ?_ n hn))
        exact List.mem_map.2 ⟨i, List.mem_range.2 hi, rfl⟩))
      obtain ⟨_, _, hcell⟩ := World.cells?_some h1
      exact ⟨v, hwf, fun j hj => by rw [← Go.Deep.add_add]; exact hcell j hj⟩
    obtain ⟨f, hf⟩ := choose_lt (α := α) (p := fun i v => p v ∧ ∀ j, j < q → W.cell? (a.add (i * q + j)) = (cf v)[j]?) hV
    refine ⟨some a, (List.range len).map f, m, by simp, ?_, by simpa using hlen, by simpa using hl, fun hne => ?_⟩
    · intro v hv
      obtain ⟨i, hi, rfl⟩ := List.mem_map.1 hv
      exact (hf i (List.mem_range.1 hi)).1
    · have hpos : 0 < len := by
        rcases Nat.eq_zero_or_pos len with h0 | h0
        · subst h0; simp at hne
        · exact h0
      have h00 := (hf 0 hpos).2 0 hq
      have ha0 : a.add (0 * q + 0) = a := by simp [Addr.add]
      rw [ha0, List.getElem?_eq_getElem (by rw [hcf]; exact hq)] at h00
      have hap := addr_plain h00
      have hblk := lt_of_cell' h00
      obtain ⟨b, off, sp⟩ := a
      simp only at hap hblk
      injection hap with _ _ hsp
      subst hsp
      refine ⟨b, off, rfl, hblk, fun i v hi => ?_⟩
      have hil : i < len := by
        have := (List.getElem?_eq_some_iff.1 hi).1
        simpa using this
      have hv : v = f i := by
        rw [List.getElem?_map, List.getElem?_range hil] at hi
        exact (Option.some.inj hi).symm
      subst hv
      intro j hj
      rw [← (hf i hil).2 j hj]
      have ea : (⟨b, off, none⟩ : Addr).add (i * q + j) = ⟨b, off + i * q + j, none⟩ := by
        unfold Addr.add
        split
        · next h0 =>
          have e : off + i * q + j = off := by rw [Nat.add_assoc, h0]; rfl
          rw [e]
        · show (⟨b, off + (i * q + j), none⟩ : Addr) = _
          rw [Nat.add_assoc]
      rw [ea]
instance : Inhabited De := ⟨.mk 0 [] []⟩
def docC (v : De × Option Addr × Nat × Option Addr × Nat) : List Value := [.int .i64 v.1.tb, .slice v.2.1 v.1.row.length v.2.2.1, .slice v.2.2.2.1 v.1.kids.length v.2.2.2.2]
set_option maxRecDepth 100000 in
/-- A document. -/
theorem open_D {W : World} : ∀ (N : Nat) {fuel : Nat} {held : Bool} {cs : List Value} {x : DataW H × List MemPlace},
    DataW.trod enc Tryd.prog W 0 (fun _ => true) held fuel 71 cs = some x → SizeOf.sizeOf x.1 ≤ N → (∀ n ∈ x.1.weights Tryd.prog 71, n ≤ reachBytes) →
    ∃ v : De × Option Addr × Nat × Option Addr × Nat, DRd (N + 1) W (.agg (docC v).toArray) v.1 ∧ cs = docC v
  | N, fuel, held, cs, x, h, hN, hwt => by
    obtain ⟨xs, n, _, hx, hlen, hxl, hf⟩ := DataW.trod_struct Tryd.underlying71 h
    have hc : Tryd.prog.cellsOf 71 = 3 := by kernel_rfl
    rw [hc] at hlen
    match cs, hlen with
    | [c0, c1, c2], _ =>
    match xs, hxl with
    | [x0, x1, x2], _ =>
      have k0 : Tryd.prog.cellsOf 3 = 1 := by kernel_rfl
      have k1 : Tryd.prog.cellsOf 25 = 1 := by kernel_rfl
      have k2 : Tryd.prog.cellsOf 69 = 1 := by kernel_rfl
      have f0 := hf 0 _ rfl
      have f1 := hf 1 _ rfl
      have f2 := hf 2 _ rfl
      change DataW.trod enc Tryd.prog W 0 (fun _ => true) held n 3 (([c0, c1, c2].drop 0).take (Tryd.prog.cellsOf 3)) = some x0 at f0
      change DataW.trod enc Tryd.prog W 0 (fun _ => true) held n 25 (([c0, c1, c2].drop 1).take (Tryd.prog.cellsOf 25)) = some x1 at f1
      change DataW.trod enc Tryd.prog W 0 (fun _ => true) held n 69 (([c0, c1, c2].drop 2).take (Tryd.prog.cellsOf 69)) = some x2 at f2
      rw [k0] at f0
      rw [k1] at f1
      rw [k2] at f2
      simp only [List.drop_zero, List.drop_succ_cons, List.take_succ_cons, List.take_zero] at f0 f1 f2
      simp only [List.map_cons, List.map_nil] at hx
      have hw1 : ∀ m ∈ x1.1.weights Tryd.prog 25, m ≤ reachBytes := fun m hm => hwt m (by
        rw [hx]; simp only [DataW.weights, Tryd.underlying71]; exact DataW.weights_mem_each (j := 1) rfl rfl m hm)
      have hw2 : ∀ m ∈ x2.1.weights Tryd.prog 69, m ≤ reachBytes := fun m hm => hwt m (by
        rw [hx]; simp only [DataW.weights, Tryd.underlying71]; exact DataW.weights_mem_each (j := 2) rfl rfl m hm)
      have hs2 : SizeOf.sizeOf x2.1 < N := by
        have h1 : x2.1 ∈ [x0.1, x1.1, x2.1] := by simp
        have h3 := List.sizeOf_lt_of_mem h1
        have h4 : SizeOf.sizeOf x.1 = 1 + SizeOf.sizeOf [x0.1, x1.1, x2.1] := by rw [hx]; rfl
        omega
      obtain ⟨t, e0, _, wt⟩ := DataW.trod_int Tryd.underlying3 f0
      obtain ⟨A, l, ca, e1, hv⟩ := open_vrow f1 hw1
      obtain ⟨K, ks, ck, e2, hp, hl, _, hk⟩ := open_rowZ (α := De × Option Addr × Nat × Option Addr × Nat) 3 (by omega) docC (fun _ => rfl) (fun v => DRd N W (.agg (docC v).toArray) v.1) 56 Tryd.underlying69 (by kernel_rfl) (by kernel_rfl) f2 hw2 (fun fuel' held' cs' x' h' hs' hw' => by
        obtain ⟨M, rfl⟩ : ∃ M, N = M + 1 := ⟨N - 1, by omega⟩
        exact open_D M h' (by omega) hw')
      simp only [List.cons.injEq, and_true] at e0 e1 e2
      subst e0; subst e1; subst e2
      have bt := bounds_i64 wt
      refine ⟨(.mk t l (ks.map (·.1)), A, ca, K, ck), ⟨A, ca, K, ck, rfl, by simp only [De.tb]; omega, hv, ?_⟩, by simp [docC, De.tb, De.row, De.kids]⟩
      show KRow (DRd N W) W K (ks.map (·.1))
      refine ⟨by rw [List.length_map]; omega, fun hne => ?_⟩
      obtain ⟨b, off, rfl, hb, hcell⟩ := hk (by intro e; subst e; exact hne rfl)
      refine ⟨b, off, rfl, hb, fun i d hi => ?_⟩
      rw [List.getElem?_map] at hi
      obtain ⟨v, hv1, rfl⟩ := Option.map_eq_some_iff.1 hi
      have g0 := hcell i v hv1 0 (by omega)
      have g1 := hcell i v hv1 1 (by omega)
      have g2 := hcell i v hv1 2 (by omega)
      exact ⟨_, _, _, g0, g1, g2, hp v (List.mem_of_getElem? hv1)⟩
  termination_by N => N
end
end Go.Proofs.YtjdfodmialhakaaDoor
