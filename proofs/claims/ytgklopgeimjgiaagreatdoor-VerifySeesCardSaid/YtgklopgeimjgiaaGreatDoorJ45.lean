/- Several texts in one: see each part's head. -/
import Derived.Test.YtgklopgeimjgiaaGreatDoorJ44
import Derived.ProofKit
import Derived.OpenShut
import Derived.Deep.DeepHandedRow
import Derived.Deep.Slices
import Derived.Lib.LaidU8
import Derived.Lib.LaidU8T
import Derived.SizedLaws
import Derived.Carry
import Derived.Test.YtgklopgeimjgiaaGreatDoorCards
import Derived.Test.YtgklopgeimjgiaaGreatDoorTie
import Derived.Test.YtgklopgeimjgiaaGreatDoorJ1
import Derived.Test.YtgklopgeimjgiaaGreatDoorJ7
import Derived.Test.YtgklopgeimjgiaaGreatDoorJ8
/- VerifySees: its walk, of any two small numbers. -/
namespace Go.Proofs.YtgklopgeimjgiaaGreatDoor
open Go.RowKit

theorem sees_walk (ts : List Ta) (A P B : Option Addr) (c pc rc : Nat) (ops : List Ox) (row : List V) (x y : Int) (w : World) (ht : TRow w A c ts) (ho : OpRow w P ops) (hv : VRow w B row) (hT : Tabs w) (hx : 0 ≤ x ∧ x ≤ 255) (hy : 0 ≤ y ∧ y ≤ 255) :
    Calls Tryz.prog 3 #[.agg #[.slice A ts.length c], .slice P ops.length pc, .int .u8 x, .int .u8 y, .slice B row.length rc] w fun q w' => q = .returned (.bool true) ∧ Below w.heap.size w w' := by
  obtain ⟨n, rfl⟩ : ∃ n : Nat, x = n := ⟨x.toNat, by omega⟩
  obtain ⟨m, rfl⟩ : ∃ n : Nat, y = n := ⟨y.toNat, by omega⟩
  exact sees_any ts A P B c pc rc ops row n m w ht ho hv hT (by omega) (by omega)
end Go.Proofs.YtgklopgeimjgiaaGreatDoor

/- The frame of this seat's laws: arguments opened to cells, the tables out of the row's list, the post of a law that answers true and turns nothing that lay there. -/
namespace Go.Proofs.YtgklopgeimjgiaaGreatDoor
open Go.ChangeShapes Go.WideShapes Go.ChangeAt Go.RowKit Go.Deep

theorem own : ownKnob Tryz.prog.godebug = none := by kernel_rfl
theorem laidOut : laidOutB Tryz.prog = true := by kernel_rfl

theorem first_eq : Rows.laid_unicode_utf8_first = Lib.firstData := by kernel_rfl
/-- The two tables, out of what the row lists. -/
theorem tabs_of_list {W : World} (h : laidMetH Tryz.prog Rows.verifySeesRow.laid W) : Tabs W := by
  have h' : laidMet Tryz.prog Rows.verifySeesRow.laid W := h
  have h4 : Lib.VarReads Tryz.prog W "unicode/utf8.acceptRanges" Lib.acceptData := by
    first
      | exact Lib.laidMet.reads h' (.head _)
      | exact Lib.laidMet.reads h' (.tail _ (.tail _ (.tail _ (.head _))))
  have h3 : Lib.VarReads Tryz.prog W "unicode/utf8.first" Rows.laid_unicode_utf8_first := by
    first
      | exact Lib.laidMet.reads h' (.tail _ (.head _))
      | exact Lib.laidMet.reads h' (.tail _ (.tail _ (.tail _ (.tail _ (.tail _ (.tail _ (.head _)))))))
  rw [first_eq] at h3
  first
    | exact utf8Tabs_of_readsT (ρ := Tryz.lays196_ren) (U8Types.of196 Tryz.lays196) ⟨by kernel_rfl, by kernel_rfl, by kernel_rfl, by kernel_rfl, by kernel_rfl, by kernel_rfl, by kernel_rfl⟩ h3 h4
    | exact utf8Tabs_of_reads (ρ := Tryz.lays260_ren) Tryz.lays260 ⟨by kernel_rfl, by kernel_rfl, by kernel_rfl, by kernel_rfl, by kernel_rfl, by kernel_rfl, by kernel_rfl⟩ h3 h4

def setCells (cs : Array Value) : Obj → Obj
  | .cells _ t fr => .cells cs t fr
  | o => o
/-- A world for a witness: the settled one, the two tables holding what their initialisers lay. -/
noncomputable def laidWorld (os : Os) : World :=
  { World.holding Tryz.prog os ⟨#[], #[], []⟩ with heap := ((World.holding Tryz.prog os ⟨#[], #[], []⟩).heap.modify 0 (setCells ((List.range 256).map fun c => Value.int .u8 (Lib.firstT c : Int)).toArray)).modify 1 (setCells ((List.range 16).flatMap fun i => [Value.int .u8 (Lib.accLo i : Int), Value.int .u8 (Lib.accHi i : Int)]).toArray) }

section
variable {H : Type} {enc : TypeId × Value → H}
/-- What reads as it did behind a call that turned nothing. -/
theorem trodAll_below {W W' : World} (hb : Below W.heap.size W W') : ∀ {ts : List TypeId} {vs : List Value} {ds : List (DataW H)} {ps : List MemPlace},
    (∀ t ∈ ts, Tryz.prog.readableRec t = true ∧ t < Tryz.prog.types.size) → DataW.TrodAll enc Tryz.prog W 0 (fun _ => true) true ts vs ds ps → (∀ x ∈ ps, x.block < W.heap.size) →
    DataW.TrodAll enc Tryz.prog W' 0 (fun b => decide (b < W.heap.size)) true ts vs ds ps
  | [], _, _, _, _, h, _ => by
    obtain ⟨rfl, rfl, rfl⟩ := trodAll_nil h
    exact trodAll_mk0
  | t :: ts, vs, ds, ps, hr, h, hlt => by
    obtain ⟨v, vs', d, ds', p, q, rfl, rfl, rfl, hd, hs⟩ := trodAll_cons h
    obtain ⟨h1, h2⟩ := hr t (by simp)
    exact trodAll_cons_mk (Below.trod laidOut h1 h2 hd hb (fun x hx => hlt x (by simp [hx]))) (trodAll_below hb (fun t ht => hr t (by simp [ht])) hs (fun x hx => hlt x (by simp [hx])))
theorem post_law {fn : Func} {s : ChangeSpec} {W W' : World} {args : Array Value} {ds gs : List (DataW H)} {before : List MemPlace}
    (hW : DataW.Whole enc Tryz.prog fn.params.toList s.vars false W args.toList ds gs before) (hv : s.vars = []) (hres : fn.resultTypes = #[4])
    (hread : ∀ t ∈ fn.params.toList, Tryz.prog.readableRec t = true ∧ t < Tryz.prog.types.size)
    (h1 : (s.fn H ds).results = [.lit (.bool true)]) (h2 : (s.fn H ds).args = ds) (h3 : (s.fn H ds).vars = []) (hb : Below W.heap.size W W') :
    s.post enc Tryz.prog fn false true false false W args (.bool true) W' := by
  have hlt : ∀ x ∈ before, x.block < W.heap.size := fun x hx => hW.lt x hx
  have hW' := hW
  obtain ⟨p, q, hA, hV, rfl, hfz, hnd⟩ := hW
  rw [hv] at hV
  obtain ⟨rfl, rfl⟩ := trodVars_none hV
  refine ⟨ds, [], p ++ [], [], p, [], hW', ?_, ?_, ?_, ?_, fun h => by cases h⟩
  · rw [hres, List.append_nil, h1]
    exact trodAll_mk1 (shut_bool Tryz.underlying4 true)
  · rw [List.append_nil, h2]
    exact trodAll_below hb hread hA (fun x hx => hlt x (by simp [hx]))
  · rw [List.append_nil, h3, hv]
    rfl
  · refine World.keptBut_mono (fun x hx => ⟨hx, ?_⟩) (hb.frame (· ∈ p ++ []))
    rw [List.append_nil] at hx
    exact Or.inr (Or.inl hx)

instance : Inhabited V := ⟨⟨0, 0, 0, ByteArray.empty⟩⟩
theorem lt_of_cell' {w : World} {a : Addr} {v : Value} (h : w.cell? a = some v) : a.block < w.heap.size := by
  rcases Nat.lt_or_ge a.block w.heap.size with h' | h'
  · exact h'
  · simp [World.cell?, Array.getElem?_eq_none h'] at h
theorem weights_all {P : Program} {e : TypeId} : ∀ {l : List (DataW H)} {d : DataW H}, d ∈ l → ∀ n ∈ d.weights P e, n ∈ DataW.weightsAll P e l
  | x :: l, d, h, n, hn => by
    simp only [DataW.weightsAll, List.mem_append]
    rcases List.mem_cons.1 h with rfl | h
    · exact Or.inl hn
    · exact Or.inr (weights_all h n hn)
set_option maxRecDepth 100000 in
/-- A struct of this type: its four cells, and what they read as. -/
theorem open_V {W : World} {base fuel : Nat} {spare : Nat → Bool} {held : Bool} {cs : List Value} {x : DataW H × List MemPlace}
    (h : DataW.trod enc Tryz.prog W base spare held fuel 49 cs = some x) (hwt : ∀ n ∈ x.1.weights Tryz.prog 49, n ≤ reachBytes) :
    ∃ v : V, v.wf ∧ cs = [.int .u8 v.k, .int .i64 v.n, .int .u64 v.r, .string v.t] ∧ x.1 = .agg [.lit (.int .u8 v.k), .lit (.int .i64 v.n), .lit (.int .u64 v.r), .lit (.string v.t.data.toList)] := by
  obtain ⟨xs, n, _, hx, hlen, hxl, hf⟩ := DataW.trod_struct Tryz.underlying49 h
  have hc : Tryz.prog.cellsOf 49 = 4 := by kernel_rfl
  rw [hc] at hlen
  match cs, hlen with
  | [c0, c1, c2, c3], _ =>
  match xs, hxl with
  | [x0, x1, x2, x3], _ =>
    have k1 : Tryz.prog.cellsOf 5 = 1 := by kernel_rfl
    have k2 : Tryz.prog.cellsOf 2 = 1 := by kernel_rfl
    have k3 : Tryz.prog.cellsOf 47 = 1 := by kernel_rfl
    have k4 : Tryz.prog.cellsOf 9 = 1 := by kernel_rfl
    have f0 := hf 0 _ rfl
    have f1 := hf 1 _ rfl
    have f2 := hf 2 _ rfl
    have f3 := hf 3 _ rfl
    change DataW.trod enc Tryz.prog W base spare held n 5 (([c0, c1, c2, c3].drop 0).take (Tryz.prog.cellsOf 5)) = some x0 at f0
    change DataW.trod enc Tryz.prog W base spare held n 2 (([c0, c1, c2, c3].drop 1).take (Tryz.prog.cellsOf 2)) = some x1 at f1
    change DataW.trod enc Tryz.prog W base spare held n 47 (([c0, c1, c2, c3].drop 2).take (Tryz.prog.cellsOf 47)) = some x2 at f2
    change DataW.trod enc Tryz.prog W base spare held n 9 (([c0, c1, c2, c3].drop 3).take (Tryz.prog.cellsOf 9)) = some x3 at f3
    rw [k1] at f0
    rw [k2] at f1
    rw [k3] at f2
    rw [k4] at f3
    simp only [List.drop_zero, List.drop_succ_cons, List.take_succ_cons, List.take_zero] at f0 f1 f2 f3
    obtain ⟨a, e0, rfl, wa⟩ := DataW.trod_int Tryz.underlying5 f0
    obtain ⟨b, e1, rfl, wb⟩ := DataW.trod_int Tryz.underlying2 f1
    obtain ⟨c, e2, rfl, wc⟩ := DataW.trod_int Tryz.underlying47 f2
    obtain ⟨s, e3, rfl, ws⟩ := DataW.trod_string Tryz.underlying9 f3
    simp only [List.cons.injEq, and_true] at e0 e1 e2 e3
    subst e0; subst e1; subst e2; subst e3
    simp only [List.map_cons, List.map_nil] at hx
    subst hx
    have hsz : s.data.toList.length ≤ reachBytes := by
      refine hwt _ ?_
      simp [DataW.weights, Tryz.underlying49, DataW.weightsEach]
    refine ⟨⟨a, b, c, s⟩, ?_, rfl, rfl⟩
    have ba := bounds_u8 wa
    have bb := bounds_i64 wb
    have bc := bounds_u64 wc
    have hs2 : s.size ≤ 140737488355328 := by
      have : s.data.toList.length = s.size := by simp
      have : reachBytes ≤ 140737488355328 := by decide
      omega
    exact ⟨by simp only; omega, by simp only; omega, by simp only; omega, by simp only; omega, by simp only; omega, by simp only; omega, hs2⟩

theorem addr_plain {W : World} {a : Addr} {v : Value} (h : W.cell? a = some v) : a = ⟨a.block, a.off, none⟩ := by
  obtain ⟨b, o, sp⟩ := a
  rw [cell_spot h]
/-- A slice of such structs, as a row. -/
theorem open_vrow {W : World} {fuel : Nat} {held : Bool} {cs : List Value} {x : DataW H × List MemPlace}
    (h : DataW.trod enc Tryz.prog W 0 (fun _ => true) held fuel 26 cs = some x) (hwt : ∀ n ∈ x.1.weights Tryz.prog 26, n ≤ reachBytes) :
    ∃ (A : Option Addr) (l : List V) (c : Nat), cs = [.slice A l.length c] ∧ VRow W A l := by
  rcases open_slice Tryz.underlying26 h with ⟨rfl, rfl⟩ | ⟨a, len, cap, m, n, D, Pl, rfl, _, hl, hm, hmm, rfl, hx⟩
  · exact ⟨none, [], 0, rfl, (fun _ h => by cases h), by simp, fun h => absurd rfl h⟩
  · have hc : Tryz.prog.cellsOf 49 = 4 := by kernel_rfl
    have hbytes : Tryz.prog.bytesOf 49 = 40 := by kernel_rfl
    simp only [if_true] at hmm
    subst hmm
    have hlen : len ≤ 35184372088832 := by
      have := hwt _ (by simp only [DataW.weights, Tryz.underlying26]; exact List.mem_cons_self)
      rw [hbytes] at this
      simp only [List.length_map, List.length_range] at this
      have : reachBytes ≤ 140737488355328 := by decide
      omega
    have hV : ∀ i, i < len → ∃ v : V, v.wf ∧ ∀ j, j < 4 → W.cell? (a.add (i * 4 + j)) = [Value.int .u8 v.k, .int .i64 v.n, .int .u64 v.r, .string v.t][j]? := by
      intro i hi
      obtain ⟨cs', h1, h2⟩ := hx i (by omega)
      rw [hc] at h1
      obtain ⟨v, hwf, rfl, _⟩ := open_V h2 (fun n hn => hwt n (by
        simp only [DataW.weights, Tryz.underlying26]
        refine List.mem_cons_of_mem _ (List.mem_append_left _ (weights_all (d := D i) ?_ n hn))
        exact List.mem_map.2 ⟨i, List.mem_range.2 hi, rfl⟩))
      obtain ⟨_, _, hcell⟩ := World.cells?_some h1
      exact ⟨v, hwf, fun j hj => by rw [← Go.Deep.add_add]; exact hcell j hj⟩
    obtain ⟨f, hf⟩ := choose_lt (α := V) (p := fun i v => v.wf ∧ ∀ j, j < 4 → W.cell? (a.add (i * 4 + j)) = [Value.int .u8 v.k, .int .i64 v.n, .int .u64 v.r, .string v.t][j]?) hV
    refine ⟨some a, (List.range len).map f, m, by simp, ?_, by simpa using hlen, fun hne => ?_⟩
    · intro v hv
      obtain ⟨i, hi, rfl⟩ := List.mem_map.1 hv
      exact (hf i (List.mem_range.1 hi)).1
    · have hpos : 0 < len := by
        rcases Nat.eq_zero_or_pos len with h0 | h0
        · subst h0; simp at hne
        · exact h0
      have h00 := (hf 0 hpos).2 0 (by omega)
      have ha0 : a.add (0 * 4 + 0) = a := by simp [Addr.add]
      rw [ha0] at h00
      have hap := addr_plain h00
      have hblk := lt_of_cell' h00
      obtain ⟨b, off, sp⟩ := a
      simp only at hap hblk
      injection hap with _ _ hsp
      subst hsp
      refine ⟨b, off, rfl, hblk, fun i v hi => ?_⟩
      have hil : i < len := by
        have := (List.getElem?_eq_some_iff.1 hi).1
        simpa using this
      have hv : v = f i := by
        rw [List.getElem?_map, List.getElem?_range hil] at hi
        exact (Option.some.inj hi).symm
      subst hv
      have hh := (hf i hil).2
      have ea : ∀ j, (⟨b, off, none⟩ : Addr).add (i * 4 + j) = ⟨b, off + i * 4 + j, none⟩ := by
        intro j
        unfold Addr.add
        split
        · next h0 =>
          obtain rfl : i = 0 := by omega
          obtain rfl : j = 0 := by omega
          rfl
        · show (⟨b, off + (i * 4 + j), none⟩ : Addr) = _
          rw [Nat.add_assoc]
      have g0 := hh 0 (by omega)
      have g1 := hh 1 (by omega)
      have g2 := hh 2 (by omega)
      have g3 := hh 3 (by omega)
      rw [ea] at g0 g1 g2 g3
      exact ⟨g0, g1, g2, g3⟩
end
end Go.Proofs.YtgklopgeimjgiaaGreatDoor

/- Several texts in one: see each part's head. -/
/- More arguments opened: events, marks, rows of numbers. -/
namespace Go.Proofs.YtgklopgeimjgiaaGreatDoor
open Go.ChangeShapes Go.WideShapes Go.ChangeAt Go.RowKit Go.Deep
section
variable {H : Type} {enc : TypeId × Value → H}
end
end Go.Proofs.YtgklopgeimjgiaaGreatDoor

/- A schema argument opened: its tables, each with its columns. -/
namespace Go.Proofs.YtgklopgeimjgiaaGreatDoor
open Go.ChangeShapes Go.WideShapes Go.ChangeAt Go.RowKit Go.Deep
section
variable {H : Type} {enc : TypeId × Value → H}
/-- A slice of structs, each of which opens to cells cf. -/
theorem open_rowG {α : Type} [Inhabited α] {W : World} (q : Nat) (hq : 0 < q) (cf : α → List Value) (hcf : ∀ x, (cf x).length = q) (p : α → Prop) (nb : Nat) {T E : TypeId}
    (hT : Tryz.prog.underlying T = some (.slice E)) (hc : Tryz.prog.cellsOf E = q) (hbytes : Tryz.prog.bytesOf E = nb)
    (hel : ∀ (fuel : Nat) (held : Bool) (cs : List Value) (x : DataW H × List MemPlace), DataW.trod enc Tryz.prog W 0 (fun _ => true) held fuel E cs = some x → (∀ m ∈ x.1.weights Tryz.prog E, m ≤ reachBytes) → ∃ v : α, p v ∧ cs = cf v)
    {fuel : Nat} {held : Bool} {cs : List Value} {x : DataW H × List MemPlace}
    (h : DataW.trod enc Tryz.prog W 0 (fun _ => true) held fuel T cs = some x) (hwt : ∀ n ∈ x.1.weights Tryz.prog T, n ≤ reachBytes) :
    ∃ (A : Option Addr) (l : List α) (c : Nat), cs = [.slice A l.length c] ∧ (∀ v ∈ l, p v) ∧ l.length * nb ≤ 140737488355328 ∧ l.length ≤ c ∧
      (l ≠ [] → ∃ b off, A = some ⟨b, off, none⟩ ∧ b < W.heap.size ∧ ∀ i v, l[i]? = some v → ∀ j, j < q → W.cell? ⟨b, off + i * q + j, none⟩ = (cf v)[j]?) := by
  rcases open_slice hT h with ⟨rfl, rfl⟩ | ⟨a, len, cap, m, n, D, Pl, rfl, _, hl, hm, hmm, rfl, hx⟩
  · exact ⟨none, [], 0, rfl, (fun _ h => by cases h), by simp, by simp, fun h => absurd rfl h⟩
  · simp only [if_true] at hmm
    subst hmm
    have hlen : len * nb ≤ 140737488355328 := by
      have := hwt _ (by simp only [DataW.weights, hT]; exact List.mem_cons_self)
      rw [hbytes] at this
      simp only [List.length_map, List.length_range] at this
      have h1 : reachBytes ≤ 140737488355328 := by decide
      exact Nat.le_trans (Nat.mul_le_mul_right nb (Nat.le_add_right len _)) (Nat.le_trans this h1)
    have hV : ∀ i, i < len → ∃ v : α, p v ∧ ∀ j, j < q → W.cell? (a.add (i * q + j)) = (cf v)[j]? := by
      intro i hi
      obtain ⟨cs', h1, h2⟩ := hx i (by omega)
      rw [hc] at h1
      obtain ⟨v, hwf, rfl⟩ := hel _ _ _ _ h2 (fun n hn => hwt n (by
        simp only [DataW.weights, hT]
        refine List.mem_cons_of_mem _ (List.mem_append_left _ (weights_all (d := D i) ?_ n hn))
        exact List.mem_map.2 ⟨i, List.mem_range.2 hi, rfl⟩))
      obtain ⟨_, _, hcell⟩ := World.cells?_some h1
      exact ⟨v, hwf, fun j hj => by rw [← Go.Deep.add_add]; exact hcell j hj⟩
    obtain ⟨f, hf⟩ := choose_lt (α := α) (p := fun i v => p v ∧ ∀ j, j < q → W.cell? (a.add (i * q + j)) = (cf v)[j]?) hV
    refine ⟨some a, (List.range len).map f, m, by simp, ?_, by simpa using hlen, by simpa using hl, fun hne => ?_⟩
    · intro v hv
      obtain ⟨i, hi, rfl⟩ := List.mem_map.1 hv
      exact (hf i (List.mem_range.1 hi)).1
    · have hpos : 0 < len := by
        rcases Nat.eq_zero_or_pos len with h0 | h0
        · subst h0; simp at hne
        · exact h0
      have h00 := (hf 0 hpos).2 0 hq
      have ha0 : a.add (0 * q + 0) = a := by simp [Addr.add]
      rw [ha0, List.getElem?_eq_getElem (by rw [hcf]; exact hq)] at h00
      have hap := addr_plain h00
      have hblk := lt_of_cell' h00
      obtain ⟨b, off, sp⟩ := a
      simp only at hap hblk
      injection hap with _ _ hsp
      subst hsp
      refine ⟨b, off, rfl, hblk, fun i v hi => ?_⟩
      have hil : i < len := by
        have := (List.getElem?_eq_some_iff.1 hi).1
        simpa using this
      have hv : v = f i := by
        rw [List.getElem?_map, List.getElem?_range hil] at hi
        exact (Option.some.inj hi).symm
      subst hv
      intro j hj
      rw [← (hf i hil).2 j hj]
      have ea : (⟨b, off, none⟩ : Addr).add (i * q + j) = ⟨b, off + i * q + j, none⟩ := by
        unfold Addr.add
        split
        · next h0 =>
          have e : off + i * q + j = off := by rw [Nat.add_assoc, h0]; rfl
          rw [e]
        · show (⟨b, off + (i * q + j), none⟩ : Addr) = _
          rw [Nat.add_assoc]
      rw [ea]
instance : Inhabited Co := ⟨⟨ByteArray.empty, 0, false⟩⟩
instance : Inhabited Ta := ⟨⟨ByteArray.empty, [], 0, 0, 0, none, 0⟩⟩
def coC (c : Co) : List Value := [.string c.nm, .int .u8 c.k, .bool c.nl]
set_option maxRecDepth 100000 in
/-- A column. -/
theorem open_Co {W : World} {fuel : Nat} {held : Bool} {cs : List Value} {x : DataW H × List MemPlace}
    (h : DataW.trod enc Tryz.prog W 0 (fun _ => true) held fuel 86 cs = some x) (hwt : ∀ n ∈ x.1.weights Tryz.prog 86, n ≤ reachBytes) :
    ∃ c : Co, c.wf ∧ cs = coC c := by
  obtain ⟨xs, n, _, hx, hlen, hxl, hf⟩ := DataW.trod_struct Tryz.underlying86 h
  have hc : Tryz.prog.cellsOf 86 = 3 := by kernel_rfl
  rw [hc] at hlen
  match cs, hlen with
  | [c0, c1, c2], _ =>
  match xs, hxl with
  | [x0, x1, x2], _ =>
    have k1 : Tryz.prog.cellsOf 9 = 1 := by kernel_rfl
    have k2 : Tryz.prog.cellsOf 5 = 1 := by kernel_rfl
    have k3 : Tryz.prog.cellsOf 4 = 1 := by kernel_rfl
    have f0 := hf 0 _ rfl
    have f1 := hf 1 _ rfl
    have f2 := hf 2 _ rfl
    change DataW.trod enc Tryz.prog W 0 (fun _ => true) held n 9 (([c0, c1, c2].drop 0).take (Tryz.prog.cellsOf 9)) = some x0 at f0
    change DataW.trod enc Tryz.prog W 0 (fun _ => true) held n 5 (([c0, c1, c2].drop 1).take (Tryz.prog.cellsOf 5)) = some x1 at f1
    change DataW.trod enc Tryz.prog W 0 (fun _ => true) held n 4 (([c0, c1, c2].drop 2).take (Tryz.prog.cellsOf 4)) = some x2 at f2
    rw [k1] at f0
    rw [k2] at f1
    rw [k3] at f2
    simp only [List.drop_zero, List.drop_succ_cons, List.take_succ_cons, List.take_zero] at f0 f1 f2
    obtain ⟨s, e0, rfl, ws⟩ := DataW.trod_string Tryz.underlying9 f0
    obtain ⟨a, e1, rfl, wa⟩ := DataW.trod_int Tryz.underlying5 f1
    obtain ⟨v, e2, rfl⟩ := DataW.trod_bool Tryz.underlying4 f2
    simp only [List.cons.injEq, and_true] at e0 e1 e2
    subst e0; subst e1; subst e2
    simp only [List.map_cons, List.map_nil] at hx
    subst hx
    have hsz : s.data.toList.length ≤ reachBytes := by
      refine hwt _ ?_
      simp [DataW.weights, Tryz.underlying86, DataW.weightsEach]
    have ba := bounds_u8 wa
    have hs2 : s.size ≤ 140737488355328 := by
      have : s.data.toList.length = s.size := by simp
      have : reachBytes ≤ 140737488355328 := by decide
      omega
    exact ⟨⟨s, a, v⟩, ⟨hs2, by simp only; omega, by simp only; omega⟩, rfl⟩
theorem open_crow {W : World} {fuel : Nat} {held : Bool} {cs : List Value} {x : DataW H × List MemPlace}
    (h : DataW.trod enc Tryz.prog W 0 (fun _ => true) held fuel 44 cs = some x) (hwt : ∀ n ∈ x.1.weights Tryz.prog 44, n ≤ reachBytes) :
    ∃ (A : Option Addr) (l : List Co) (c : Nat), cs = [.slice A l.length c] ∧ CRow W A l := by
  obtain ⟨A, l, c, e, h1, h2, _, h3⟩ := open_rowG (α := Co) 3 (by omega) coC (fun _ => rfl) Co.wf 24 Tryz.underlying44 (by kernel_rfl) (by kernel_rfl) (fun _ _ _ _ => open_Co) h hwt
  refine ⟨A, l, c, e, h1, by omega, fun hl => ?_⟩
  obtain ⟨b, off, rfl, hb, hx⟩ := h3 hl
  exact ⟨b, off, rfl, hb, fun i v hi => ⟨hx i v hi 0 (by omega), hx i v hi 1 (by omega), hx i v hi 2 (by omega)⟩⟩
def taC (t : Ta) : List Value := t.cells.toList
set_option maxRecDepth 100000 in
/-- A table. -/
theorem open_Ta {W : World} {fuel : Nat} {held : Bool} {cs : List Value} {x : DataW H × List MemPlace}
    (h : DataW.trod enc Tryz.prog W 0 (fun _ => true) held fuel 46 cs = some x) (hwt : ∀ n ∈ x.1.weights Tryz.prog 46, n ≤ reachBytes) :
    ∃ t : Ta, (t.wf ∧ CRow W t.A t.cs) ∧ cs = taC t := by
  obtain ⟨xs, n, _, hx, hlen, hxl, hf⟩ := DataW.trod_struct Tryz.underlying46 h
  have hc : Tryz.prog.cellsOf 46 = 5 := by kernel_rfl
  rw [hc] at hlen
  match cs, hlen with
  | [c0, c1, c2, c3, c4], _ =>
  match xs, hxl with
  | [x0, x1, x2, x3, x4], _ =>
    have k1 : Tryz.prog.cellsOf 9 = 1 := by kernel_rfl
    have k2 : Tryz.prog.cellsOf 44 = 1 := by kernel_rfl
    have k3 : Tryz.prog.cellsOf 3 = 1 := by kernel_rfl
    have f0 := hf 0 _ rfl
    have f1 := hf 1 _ rfl
    have f2 := hf 2 _ rfl
    have f3 := hf 3 _ rfl
    have f4 := hf 4 _ rfl
    change DataW.trod enc Tryz.prog W 0 (fun _ => true) held n 9 (([c0, c1, c2, c3, c4].drop 0).take (Tryz.prog.cellsOf 9)) = some x0 at f0
    change DataW.trod enc Tryz.prog W 0 (fun _ => true) held n 44 (([c0, c1, c2, c3, c4].drop 1).take (Tryz.prog.cellsOf 44)) = some x1 at f1
    change DataW.trod enc Tryz.prog W 0 (fun _ => true) held n 3 (([c0, c1, c2, c3, c4].drop 2).take (Tryz.prog.cellsOf 3)) = some x2 at f2
    change DataW.trod enc Tryz.prog W 0 (fun _ => true) held n 3 (([c0, c1, c2, c3, c4].drop 3).take (Tryz.prog.cellsOf 3)) = some x3 at f3
    change DataW.trod enc Tryz.prog W 0 (fun _ => true) held n 3 (([c0, c1, c2, c3, c4].drop 4).take (Tryz.prog.cellsOf 3)) = some x4 at f4
    rw [k1] at f0
    rw [k2] at f1
    rw [k3] at f2 f3 f4
    simp only [List.drop_zero, List.drop_succ_cons, List.take_succ_cons, List.take_zero] at f0 f1 f2 f3 f4
    obtain ⟨s, e0, rfl, ws⟩ := DataW.trod_string Tryz.underlying9 f0
    simp only [List.map_cons, List.map_nil] at hx
    have hw1 : ∀ m ∈ x1.1.weights Tryz.prog 44, m ≤ reachBytes := fun m hm => hwt m (by
      rw [hx]; simp only [DataW.weights, Tryz.underlying46]; exact DataW.weights_mem_each (j := 1) rfl rfl m hm)
    have hsz : s.data.toList.length ≤ reachBytes := by
      refine hwt _ ?_
      rw [hx]
      simp only [DataW.weights, Tryz.underlying46]
      exact DataW.weights_mem_each (j := 0) rfl rfl _ (by simp [DataW.weights])
    obtain ⟨A, l, c, e1, hA⟩ := open_crow f1 hw1
    obtain ⟨b2, e2, rfl, w2⟩ := DataW.trod_int Tryz.underlying3 f2
    obtain ⟨b3, e3, rfl, w3⟩ := DataW.trod_int Tryz.underlying3 f3
    obtain ⟨b4, e4, rfl, w4⟩ := DataW.trod_int Tryz.underlying3 f4
    simp only [List.cons.injEq, and_true] at e0 e1 e2 e3 e4
    subst e0; subst e1; subst e2; subst e3; subst e4
    have g2 := bounds_i64 w2
    have g3 := bounds_i64 w3
    have g4 := bounds_i64 w4
    have hs2 : s.size ≤ 140737488355328 := by
      have : s.data.toList.length = s.size := by simp
      have : reachBytes ≤ 140737488355328 := by decide
      omega
    exact ⟨⟨s, l, b2, b3, b4, A, c⟩, ⟨⟨hs2, by simp only; omega, by simp only; omega, by simp only; omega⟩, hA⟩, rfl⟩
set_option maxRecDepth 100000 in
/-- A schema: one cell, its tables. -/
theorem open_S {W : World} {fuel : Nat} {held : Bool} {cs : List Value} {x : DataW H × List MemPlace}
    (h : DataW.trod enc Tryz.prog W 0 (fun _ => true) held fuel 24 cs = some x) (hwt : ∀ n ∈ x.1.weights Tryz.prog 24, n ≤ reachBytes) :
    ∃ (ts : List Ta) (A : Option Addr) (c : Nat), cs = (#[.slice A ts.length c] : Array Value).toList ∧ TRow W A c ts := by
  obtain ⟨xs, n, _, hx, hlen, hxl, hf⟩ := DataW.trod_struct Tryz.underlying24 h
  have hc : Tryz.prog.cellsOf 24 = 1 := by kernel_rfl
  rw [hc] at hlen
  match cs, hlen with
  | [c0], _ =>
  match xs, hxl with
  | [x0], _ =>
    have k1 : Tryz.prog.cellsOf 22 = 1 := by kernel_rfl
    have f0 := hf 0 _ rfl
    change DataW.trod enc Tryz.prog W 0 (fun _ => true) held n 22 (([c0].drop 0).take (Tryz.prog.cellsOf 22)) = some x0 at f0
    rw [k1] at f0
    simp only [List.drop_zero, List.take_succ_cons, List.take_zero] at f0
    simp only [List.map_cons, List.map_nil] at hx
    have hw0 : ∀ m ∈ x0.1.weights Tryz.prog 22, m ≤ reachBytes := fun m hm => hwt m (by
      rw [hx]; simp only [DataW.weights, Tryz.underlying24]; exact DataW.weights_mem_each (j := 0) rfl rfl m hm)
    obtain ⟨A, l, c, e, h1, h2, h4, h3⟩ := open_rowG (α := Ta) 5 (by omega) taC (fun _ => rfl) (fun t => t.wf ∧ CRow W t.A t.cs) 64 Tryz.underlying22 (by kernel_rfl) (by kernel_rfl) (fun _ _ _ _ => open_Ta) f0 hw0
    simp only [List.cons.injEq, and_true] at e
    subst e
    refine ⟨l, A, c, rfl, h1, by omega, h4, fun hl => ?_⟩
    obtain ⟨b, off, rfl, hb, hx⟩ := h3 hl
    exact ⟨b, off, rfl, hb, fun i v hi => ⟨hx i v hi 0 (by omega), hx i v hi 1 (by omega), hx i v hi 2 (by omega), hx i v hi 3 (by omega), hx i v hi 4 (by omega)⟩⟩
end
end Go.Proofs.YtgklopgeimjgiaaGreatDoor
