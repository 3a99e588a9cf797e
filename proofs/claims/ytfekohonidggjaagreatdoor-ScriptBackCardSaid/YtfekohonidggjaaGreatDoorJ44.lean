/- Several texts in one: see each part's head. -/
import Derived.ProofKit
import Derived.OpenShut
import Derived.Deep.DeepHandedRow
import Derived.Deep.Slices
import Derived.Lib.LaidU8
import Derived.SizedLaws
import Derived.Carry
import Derived.Test.YtfekohonidggjaaGreatDoorCards
import Derived.Test.YtfekohonidggjaaGreatDoorTie
import Derived.Test.YtfekohonidggjaaGreatDoorJ2
import Derived.Shelf.Vars
import Derived.LaidLaws
import Derived.Lay
import Derived.Test.YtfekohonidggjaaGreatDoorJ14
/- The frame of this seat's laws: arguments opened to cells, the tables out of the row's list, the post of a law that answers true and turns nothing that lay there. -/
namespace Go.Proofs.YtfekohonidggjaaGreatDoor
open Go.ChangeShapes Go.WideShapes Go.ChangeAt Go.RowKit Go.Deep

theorem own : ownKnob Tryz.prog.godebug = none := by kernel_rfl
theorem laidOut : laidOutB Tryz.prog = true := by kernel_rfl

theorem first_eq : Rows.laid_unicode_utf8_first = Lib.firstData := by kernel_rfl
/-- The two tables, out of what the row lists. -/
theorem tabs_of_list {W : World} (h : laidMetH Tryz.prog Rows.scriptWritesRow.laid W) : Tabs W := by
  have h' : laidMet Tryz.prog Rows.scriptWritesRow.laid W := h
  have h4 : Lib.VarReads Tryz.prog W "unicode/utf8.acceptRanges" Lib.acceptData := by
    first
      | exact Lib.laidMet.reads h' (.head _)
      | exact Lib.laidMet.reads h' (.tail _ (.tail _ (.tail _ (.head _))))
  have h3 : Lib.VarReads Tryz.prog W "unicode/utf8.first" Rows.laid_unicode_utf8_first := by
    first
      | exact Lib.laidMet.reads h' (.tail _ (.head _))
      | exact Lib.laidMet.reads h' (.tail _ (.tail _ (.tail _ (.tail _ (.tail _ (.tail _ (.head _)))))))
  rw [first_eq] at h3
  exact utf8Tabs_of_reads (ρ := Tryz.lays260_ren) Tryz.lays260 ⟨by kernel_rfl, by kernel_rfl, by kernel_rfl, by kernel_rfl, by kernel_rfl, by kernel_rfl, by kernel_rfl⟩ h3 h4

def setCells (cs : Array Value) : Obj → Obj
  | .cells _ t fr => .cells cs t fr
  | o => o

section
variable {H : Type} {enc : TypeId × Value → H}
/-- What reads as it did behind a call that turned nothing. -/
theorem trodAll_below {W W' : World} (hb : Below W.heap.size W W') : ∀ {ts : List TypeId} {vs : List Value} {ds : List (DataW H)} {ps : List MemPlace},
    (∀ t ∈ ts, Tryz.prog.readableRec t = true ∧ t < Tryz.prog.types.size) → DataW.TrodAll enc Tryz.prog W 0 (fun _ => true) true ts vs ds ps → (∀ x ∈ ps, x.block < W.heap.size) →
    DataW.TrodAll enc Tryz.prog W' 0 (fun b => decide (b < W.heap.size)) true ts vs ds ps
  | [], _, _, _, _, h, _ => by
    obtain ⟨rfl, rfl, rfl⟩ := trodAll_nil h
    exact trodAll_mk0
  | t :: ts, vs, ds, ps, hr, h, hlt => by
    obtain ⟨v, vs', d, ds', p, q, rfl, rfl, rfl, hd, hs⟩ := trodAll_cons h
    obtain ⟨h1, h2⟩ := hr t (by simp)
    exact trodAll_cons_mk (Below.trod laidOut h1 h2 hd hb (fun x hx => hlt x (by simp [hx]))) (trodAll_below hb (fun t ht => hr t (by simp [ht])) hs (fun x hx => hlt x (by simp [hx])))
theorem post_law {fn : Func} {s : ChangeSpec} {W W' : World} {args : Array Value} {ds gs : List (DataW H)} {before : List MemPlace}
    (hW : DataW.Whole enc Tryz.prog fn.params.toList s.vars false W args.toList ds gs before) (hv : s.vars = []) (hres : fn.resultTypes = #[4])
    (hread : ∀ t ∈ fn.params.toList, Tryz.prog.readableRec t = true ∧ t < Tryz.prog.types.size)
    (h1 : (s.fn H ds).results = [.lit (.bool true)]) (h2 : (s.fn H ds).args = ds) (h3 : (s.fn H ds).vars = []) (hb : Below W.heap.size W W') :
    s.post enc Tryz.prog fn false true false false W args (.bool true) W' := by
  have hlt : ∀ x ∈ before, x.block < W.heap.size := fun x hx => hW.lt x hx
  have hW' := hW
  obtain ⟨p, q, hA, hV, rfl, hfz, hnd⟩ := hW
  rw [hv] at hV
  obtain ⟨rfl, rfl⟩ := trodVars_none hV
  refine ⟨ds, [], p ++ [], [], p, [], hW', ?_, ?_, ?_, ?_, fun h => by cases h⟩
  · rw [hres, List.append_nil, h1]
    exact trodAll_mk1 (shut_bool Tryz.underlying4 true)
  · rw [List.append_nil, h2]
    exact trodAll_below hb hread hA (fun x hx => hlt x (by simp [hx]))
  · rw [List.append_nil, h3, hv]
    rfl
  · refine World.keptBut_mono (fun x hx => ⟨hx, ?_⟩) (hb.frame (· ∈ p ++ []))
    rw [List.append_nil] at hx
    exact Or.inr (Or.inl hx)

instance : Inhabited V := ⟨⟨0, 0, 0, ByteArray.empty⟩⟩
theorem lt_of_cell' {w : World} {a : Addr} {v : Value} (h : w.cell? a = some v) : a.block < w.heap.size := by
  rcases Nat.lt_or_ge a.block w.heap.size with h' | h'
  · exact h'
  · simp [World.cell?, Array.getElem?_eq_none h'] at h
theorem weights_all {P : Program} {e : TypeId} : ∀ {l : List (DataW H)} {d : DataW H}, d ∈ l → ∀ n ∈ d.weights P e, n ∈ DataW.weightsAll P e l
  | x :: l, d, h, n, hn => by
    simp only [DataW.weightsAll, List.mem_append]
    rcases List.mem_cons.1 h with rfl | h
    · exact Or.inl hn
    · exact Or.inr (weights_all h n hn)
set_option maxRecDepth 100000 in
/-- A struct of this type: its four cells, and what they read as. -/
theorem open_V {W : World} {base fuel : Nat} {spare : Nat → Bool} {held : Bool} {cs : List Value} {x : DataW H × List MemPlace}
    (h : DataW.trod enc Tryz.prog W base spare held fuel 48 cs = some x) (hwt : ∀ n ∈ x.1.weights Tryz.prog 48, n ≤ reachBytes) :
    ∃ v : V, v.wf ∧ cs = [.int .u8 v.k, .int .i64 v.n, .int .u64 v.r, .string v.t] ∧ x.1 = .agg [.lit (.int .u8 v.k), .lit (.int .i64 v.n), .lit (.int .u64 v.r), .lit (.string v.t.data.toList)] := by
  obtain ⟨xs, n, _, hx, hlen, hxl, hf⟩ := DataW.trod_struct Tryz.underlying48 h
  have hc : Tryz.prog.cellsOf 48 = 4 := by kernel_rfl
  rw [hc] at hlen
  match cs, hlen with
  | [c0, c1, c2, c3], _ =>
  match xs, hxl with
  | [x0, x1, x2, x3], _ =>
    have k1 : Tryz.prog.cellsOf 5 = 1 := by kernel_rfl
    have k2 : Tryz.prog.cellsOf 2 = 1 := by kernel_rfl
    have k3 : Tryz.prog.cellsOf 46 = 1 := by kernel_rfl
    have k4 : Tryz.prog.cellsOf 9 = 1 := by kernel_rfl
    have f0 := hf 0 _ rfl
    have f1 := hf 1 _ rfl
    have f2 := hf 2 _ rfl
    have f3 := hf 3 _ rfl
    change DataW.trod enc Tryz.prog W base spare held n 5 (([c0, c1, c2, c3].drop 0).take (Tryz.prog.cellsOf 5)) = some x0 at f0
    change DataW.trod enc Tryz.prog W base spare held n 2 (([c0, c1, c2, c3].drop 1).take (Tryz.prog.cellsOf 2)) = some x1 at f1
    change DataW.trod enc Tryz.prog W base spare held n 46 (([c0, c1, c2, c3].drop 2).take (Tryz.prog.cellsOf 46)) = some x2 at f2
    change DataW.trod enc Tryz.prog W base spare held n 9 (([c0, c1, c2, c3].drop 3).take (Tryz.prog.cellsOf 9)) = some x3 at f3
    rw [k1] at f0
    rw [k2] at f1
    rw [k3] at f2
    rw [k4] at f3
    simp only [List.drop_zero, List.drop_succ_cons, List.take_succ_cons, List.take_zero] at f0 f1 f2 f3
    obtain ⟨a, e0, rfl, wa⟩ := DataW.trod_int Tryz.underlying5 f0
    obtain ⟨b, e1, rfl, wb⟩ := DataW.trod_int Tryz.underlying2 f1
    obtain ⟨c, e2, rfl, wc⟩ := DataW.trod_int Tryz.underlying46 f2
    obtain ⟨s, e3, rfl, ws⟩ := DataW.trod_string Tryz.underlying9 f3
    simp only [List.cons.injEq, and_true] at e0 e1 e2 e3
    subst e0; subst e1; subst e2; subst e3
    simp only [List.map_cons, List.map_nil] at hx
    subst hx
    have hsz : s.data.toList.length ≤ reachBytes := by
      refine hwt _ ?_
      simp [DataW.weights, Tryz.underlying48, DataW.weightsEach]
    refine ⟨⟨a, b, c, s⟩, ?_, rfl, rfl⟩
    have ba := bounds_u8 wa
    have bb := bounds_i64 wb
    have bc := bounds_u64 wc
    have hs2 : s.size ≤ 140737488355328 := by
      have : s.data.toList.length = s.size := by simp
      have : reachBytes ≤ 140737488355328 := by decide
      omega
    exact ⟨by simp only; omega, by simp only; omega, by simp only; omega, by simp only; omega, by simp only; omega, by simp only; omega, hs2⟩

theorem addr_plain {W : World} {a : Addr} {v : Value} (h : W.cell? a = some v) : a = ⟨a.block, a.off, none⟩ := by
  obtain ⟨b, o, sp⟩ := a
  rw [cell_spot h]
/-- A slice of such structs, as a row. -/
theorem open_vrow {W : World} {fuel : Nat} {held : Bool} {cs : List Value} {x : DataW H × List MemPlace}
    (h : DataW.trod enc Tryz.prog W 0 (fun _ => true) held fuel 38 cs = some x) (hwt : ∀ n ∈ x.1.weights Tryz.prog 38, n ≤ reachBytes) :
    ∃ (A : Option Addr) (l : List V) (c : Nat), cs = [.slice A l.length c] ∧ VRow W A l := by
  rcases open_slice Tryz.underlying38 h with ⟨rfl, rfl⟩ | ⟨a, len, cap, m, n, D, Pl, rfl, _, hl, hm, hmm, rfl, hx⟩
  · exact ⟨none, [], 0, rfl, (fun _ h => by cases h), by simp, fun h => absurd rfl h⟩
  · have hc : Tryz.prog.cellsOf 48 = 4 := by kernel_rfl
    have hbytes : Tryz.prog.bytesOf 48 = 40 := by kernel_rfl
    simp only [if_true] at hmm
    subst hmm
    have hlen : len ≤ 35184372088832 := by
      have := hwt _ (by simp only [DataW.weights, Tryz.underlying38]; exact List.mem_cons_self)
      rw [hbytes] at this
      simp only [List.length_map, List.length_range] at this
      have : reachBytes ≤ 140737488355328 := by decide
      omega
    have hV : ∀ i, i < len → ∃ v : V, v.wf ∧ ∀ j, j < 4 → W.cell? (a.add (i * 4 + j)) = [Value.int .u8 v.k, .int .i64 v.n, .int .u64 v.r, .string v.t][j]? := by
      intro i hi
      obtain ⟨cs', h1, h2⟩ := hx i (by omega)
      rw [hc] at h1
      obtain ⟨v, hwf, rfl, _⟩ := open_V h2 (fun n hn => hwt n (by
        simp only [DataW.weights, Tryz.underlying38]
        refine List.mem_cons_of_mem _ (List.mem_append_left _ (weights_all (d := D i) ?_ n hn))
        exact List.mem_map.2 ⟨i, List.mem_range.2 hi, rfl⟩))
      obtain ⟨_, _, hcell⟩ := World.cells?_some h1
      exact ⟨v, hwf, fun j hj => by rw [← Go.Deep.add_add]; exact hcell j hj⟩
    obtain ⟨f, hf⟩ := choose_lt (α := V) (p := fun i v => v.wf ∧ ∀ j, j < 4 → W.cell? (a.add (i * 4 + j)) = [Value.int .u8 v.k, .int .i64 v.n, .int .u64 v.r, .string v.t][j]?) hV
    refine ⟨some a, (List.range len).map f, m, by simp, ?_, by simpa using hlen, fun hne => ?_⟩
    · intro v hv
      obtain ⟨i, hi, rfl⟩ := List.mem_map.1 hv
      exact (hf i (List.mem_range.1 hi)).1
    · have hpos : 0 < len := by
        rcases Nat.eq_zero_or_pos len with h0 | h0
        · subst h0; simp at hne
        · exact h0
      have h00 := (hf 0 hpos).2 0 (by omega)
      have ha0 : a.add (0 * 4 + 0) = a := by simp [Addr.add]
      rw [ha0] at h00
      have hap := addr_plain h00
      have hblk := lt_of_cell' h00
      obtain ⟨b, off, sp⟩ := a
      simp only at hap hblk
      injection hap with _ _ hsp
      subst hsp
      refine ⟨b, off, rfl, hblk, fun i v hi => ?_⟩
      have hil : i < len := by
        have := (List.getElem?_eq_some_iff.1 hi).1
        simpa using this
      have hv : v = f i := by
        rw [List.getElem?_map, List.getElem?_range hil] at hi
        exact (Option.some.inj hi).symm
      subst hv
      have hh := (hf i hil).2
      have ea : ∀ j, (⟨b, off, none⟩ : Addr).add (i * 4 + j) = ⟨b, off + i * 4 + j, none⟩ := by
        intro j
        unfold Addr.add
        split
        · next h0 =>
          obtain rfl : i = 0 := by omega
          obtain rfl : j = 0 := by omega
          rfl
        · show (⟨b, off + (i * 4 + j), none⟩ : Addr) = _
          rw [Nat.add_assoc]
      have g0 := hh 0 (by omega)
      have g1 := hh 1 (by omega)
      have g2 := hh 2 (by omega)
      have g3 := hh 3 (by omega)
      rw [ea] at g0 g1 g2 g3
      exact ⟨g0, g1, g2, g3⟩
end
end Go.Proofs.YtfekohonidggjaaGreatDoor

/- The frame of this seat's laws: what the library's variables hold, out of the row's list; a world for a witness. -/
namespace Go.Proofs.YtfekohonidggjaaGreatDoor
open Go.ChangeShapes Go.WideShapes Go.ChangeAt Go.RowKit Go.Deep

theorem iface_reads {W : World} {n nm : String} {d : DataW Unit} {g t : Nat} {ms : Array (String × TypeId)} (h : Lib.VarReads Tryz.prog W n (.iface nm d)) (hg : Tryz.prog.globalNamed n = some g) (ht : (Tryz.prog.globals[g]?).map (·.type) = some t) (hi : Tryz.prog.underlying t = some (.interface ms)) :
    ∃ te pe, W.cell? ⟨g, 0, none⟩ = some (.iface te pe) := by
  obtain ⟨g', t', cs, fuel, p, hg', hty, hvar, hd⟩ := h
  obtain rfl := Option.some.inj (hg.symm.trans hg')
  obtain rfl := Option.some.inj (ht.symm.trans hty)
  obtain ⟨_, u, v, hcs, _, _⟩ := iface_of_trod hi hd
  refine ⟨u, v, ?_⟩
  rw [World.var?_cell hg hvar 0, ← Array.getElem?_toList, hcs]
  rfl
theorem pow_eq : (Rows.laid_internal_strconv_uint64pow10 : DataW Unit) = Lib.tabData .u64 Lib.pow10Tab := by kernel_rfl
theorem lays_of_list {W : World} (h : laidMetH Tryz.prog Rows.scriptBackRow.laid W) (hs : W.ShapedOpen Tryz.prog) : LayS W := by
  have h' : laidMet Tryz.prog Rows.scriptBackRow.laid W := h
  have p2 := Lib.laidMet.reads h' (.tail _ (.tail _ (.head _)))
  have p4 := Lib.laidMet.reads h' (.tail _ (.tail _ (.tail _ (.tail _ (.head _)))))
  have p5 := Lib.laidMet.reads h' (.tail _ (.tail _ (.tail _ (.tail _ (.tail _ (.head _))))))
  refine ⟨tabs_of_list h, ?_, ?_, ?_, ?_⟩
  · obtain ⟨g, t, cs, fuel, p, hg, hty, hvar, hd⟩ := p2
    obtain rfl := Option.some.inj ((show Tryz.prog.globalNamed "internal/strconv.uint64pow10" = some 4 by kernel_rfl).symm.trans hg)
    obtain rfl := Option.some.inj ((show (Tryz.prog.globals[4]?).map (·.type) = some 225 by kernel_rfl).symm.trans hty)
    rw [pow_eq] at hd
    have hcs := Lib.cells_of_tab Tryz.underlying225 Tryz.underlying46 (by kernel_rfl) (by kernel_rfl) hd
    show W.var? _ _ = _
    rw [hvar, ← hcs]
  · exact cell_of_shapedOpen_int (g := 2) (t := 3) (zero := #[.int .i64 0]) hs (of_decide_eq_true (by kernel_rfl)) (by kernel_rfl) rfl (by kernel_rfl) (by kernel_rfl) Tryz.underlying3
  · exact iface_reads p5 (by kernel_rfl) (by kernel_rfl) Tryz.underlying119
  · exact iface_reads p4 (by kernel_rfl) (by kernel_rfl) Tryz.underlying119
/-- A world for a witness: the settled one, the listed variables holding what their text lays. -/
noncomputable def laidWorldS (os : Os) : World := World.laidAll Tryz.prog os Rows.scriptBackRow.laid
theorem laid_metS (os : Os) (args : Array Value) : laidMet Tryz.prog Rows.scriptBackRow.laid ((laidWorldS os).forCall (fun _ _ => 0) ⟨#[], args, []⟩).memory := laidMet_laidAll args (by kernel_rfl) (by kernel_rfl)
end Go.Proofs.YtfekohonidggjaaGreatDoor
