/- Several texts in one: see each part's head. -/
import Derived.Test.YtkfhfegogmlchaaDoorJ40
import Derived.Test.YtkfhfegogmlchaaDoorJ12
import Derived.Test.YtkfhfegogmlchaaDoorJ11
import Derived.Test.YtkfhfegogmlchaaDoorJ10
import Derived.Test.YtkfhfegogmlchaaDoorJ37
import Derived.Lib.AppendStr
import Derived.Test.YtkfhfegogmlchaaDoorJ31
import Derived.Test.YtkfhfegogmlchaaDoorJ8
import Derived.Test.YtkfhfegogmlchaaDoorJ33
import Derived.BigRegion
import Derived.Test.YtkfhfegogmlchaaDoorJ36
/- Same of one change of the call's. -/
namespace Go.Proofs.YtkfhfegogmlchaaDoor
open Go.RowKit

/-- A change's cells lie here. -/
def ChAt (w : World) (b off : Nat) (k tb : Int) (A1 A2 : Option Addr) (n1 n2 c1 c2 : Nat) : Prop :=
  b < w.heap.size ∧ w.cell? ⟨b, off, none⟩ = some (.int .u8 k) ∧ w.cell? ⟨b, off + 1, none⟩ = some (.int .i64 tb) ∧ w.cell? ⟨b, off + 2, none⟩ = some (.slice A1 n1 c1) ∧ w.cell? ⟨b, off + 3, none⟩ = some (.slice A2 n2 c2)
theorem ChAt.ext {w w' : World} {b off n1 n2 c1 c2 : Nat} {k tb : Int} {A1 A2 : Option Addr} (h : ChAt w b off k tb A1 A2 n1 n2 c1 c2) (hb : Below w.heap.size w w') : ChAt w' b off k tb A1 A2 n1 n2 c1 c2 := by
  obtain ⟨hlt, h1, h2, h3, h4⟩ := h
  exact ⟨Nat.lt_of_lt_of_le hlt hb.size, (hb.cell (p := ⟨b, _, none⟩) hlt).trans h1, (hb.cell (p := ⟨b, _, none⟩) hlt).trans h2, (hb.cell (p := ⟨b, _, none⟩) hlt).trans h3, (hb.cell (p := ⟨b, _, none⟩) hlt).trans h4⟩
set_option maxRecDepth 100000 in
set_option maxHeartbeats 800000 in
theorem same15_at (k tb : Int) (A B A2 B2 : Option Addr) (c d c2 d2 : Nat) (bf af : List V) (g cp g2 o2 cp2 : Nat) (w : World) (hg : Blk w g #[.int .u8 k, .int .i64 tb, .slice A bf.length c, .slice B af.length d] 57) (hg2 : ChAt w g2 o2 k tb A2 B2 bf.length af.length c2 d2)
    (hl : VRow w A bf) (hm : VRow w B af) (hl2 : VRow w A2 bf) (hm2 : VRow w B2 af) :
    Calls Tryd.prog 14 #[.slice (some ⟨g, 0, none⟩) 1 cp, .slice (some ⟨g2, o2, none⟩) 1 cp2] w fun r w' => r = .returned (.bool true) ∧ Below w.heap.size w w' := by
  have HCB := Lib.hid (fun (W : World) (hW : Below w.heap.size w W) => same_self bf A A2 c c2 W (hl.ext hW) (hl2.ext hW))
  have HCA := Lib.hid (fun (W : World) (hW : Below w.heap.size w W) => same_self af B B2 d d2 W (hm.ext hW) (hm2.ext hW))
  have HG := Lib.hid hg
  have HG2 := Lib.hid hg2
  have b1 := hl.2.1
  have b2 := hm.2.1
  clear hl hm hl2 hm2 hg hg2
  go_enter Tryd.func14, Tryd.ntmps14
  go_wp2_with fail
  refine wp_loop_rounds 2 ?_
  rw [rounds_succ]
  go_wp2_with fail
  refine region_grow [false, false, false, false, false, false, false, false, false, false, false, false, false, false, false, false, false, true, true, true, true, true, true, true, true, true, true, true, true, true, true, true, true, true, true, true, true, true, true, true, true, true, true, true, true, true, true, true, true, true, true, true, true, true, true, true, true, true, true, true, true, true, true, true, true, true, true, true, true] [17, 18, 19, 20, 21, 22, 23, 24, 25, 26, 27, 28, 29, 30, 31, 32, 33, 34, 35, 36, 37, 38, 39, 40, 41, 42, 43, 44, 45, 46, 47, 48, 49, 50, 51, 52, 53, 54, 55, 56, 57, 58, 59, 60, 61, 62, 63, 64, 65, 66, 67, 68] [.val (.slice (some ⟨g, 0, none⟩) 1 cp), .val (.int .i64 0), .val (.pointer (some ⟨g, 0, none⟩)), .val (.pointer (some ⟨g, 0, none⟩)), .val (.int .u8 k), .val (.slice (some ⟨g2, o2, none⟩) 1 cp2), .val (.int .i64 0), .val (.pointer (some ⟨g2, o2, none⟩)), .val (.pointer (some ⟨g2, o2, none⟩)), .val (.int .u8 k), .val (.bool false), .val (.bool false), .val (.slice (some ⟨g, 0, none⟩) 1 cp), .val (.int .i64 0), .val (.pointer (some ⟨g, 0, none⟩)), .val (.pointer (some ⟨g, 1, none⟩)), .val (.int .i64 tb), .val (.slice (some ⟨g2, o2, none⟩) 1 cp2), .val (.int .i64 0), .val (.pointer (some ⟨g2, o2, none⟩)), .val (.pointer (some ⟨g2, o2 + 1, none⟩)), .val (.int .i64 tb), .val (.bool false), .val (.bool false), .val (.bool false), .val (.slice (some ⟨g, 0, none⟩) 1 cp), .val (.int .i64 0), .val (.pointer (some ⟨g, 0, none⟩)), .val (.pointer (some ⟨g, 2, none⟩)), .val (.slice A bf.length c), .val (.slice (some ⟨g2, o2, none⟩) 1 cp2), .val (.int .i64 0), .val (.pointer (some ⟨g2, o2, none⟩)), .val (.pointer (some ⟨g2, o2 + 2, none⟩)), .val (.slice A2 bf.length c2), .val (.bool true), .val (.bool false), .val (.bool false), .val (.bool false), .val (.slice (some ⟨g, 0, none⟩) 1 cp), .val (.int .i64 0), .val (.pointer (some ⟨g, 0, none⟩)), .val (.pointer (some ⟨g, 3, none⟩)), .val (.slice B af.length d), .val (.slice (some ⟨g2, o2, none⟩) 1 cp2), .val (.int .i64 0), .val (.pointer (some ⟨g2, o2, none⟩)), .val (.pointer (some ⟨g2, o2 + 3, none⟩)), .val (.slice B2 af.length d2), .val (.bool true), .val (.bool false), .val (.bool false)] [51] (by kernel_rfl) (by kernel_rfl) (by kernel_rfl) (by kernel_rfl) (by kernel_rfl) ⟨?_, ?_, ?_, ?_, ?_, ?_, ?_, ?_, ?_, ?_, ?_, ?_, ?_, ?_, ?_, ?_, ?_, ?_, ?_, ?_, ?_, ?_, ?_, ?_, ?_, ?_, ?_, ?_, ?_, ?_, ?_, ?_, ?_, ?_, ?_, ?_, ?_, ?_, ?_, ?_, ?_, ?_, ?_, ?_, ?_, ?_, ?_, ?_, ?_, ?_, ?_, ?_, trivial⟩ ?done
  case done =>
    intro x w2 hb2
    simp only [StepGoal, overlay, upd, cond_true, cond_false, List.getD_cons_zero, List.getD_cons_succ, Nat.zero_add, Nat.reduceAdd, Nat.reduceEqDiff, reduceIte]
    go_wp2_with fail
    rw [rounds_succ]
    go_wp2_with fail
    go_ret
    exact ⟨rfl, hb2⟩
  all_goals
    intro x w2 hb2
    intro K hK
    obtain ⟨_, y0, y1, y2, y3⟩ := mk4 (HG.out.ext hb2)
    obtain ⟨ul, u0, u1, u2, u3⟩ := HG2.out.ext hb2
    rw [if_pos (by rfl)]; simp only [overlay, upd, cond_true, cond_false, List.getD_cons_zero, List.getD_cons_succ, Nat.reduceEqDiff, reduceIte]
    go_simp
    first
      | exact hK.out _ _ (Below.refl _ _) rfl
      | ((with_reducible refine (HCB.out _ hb2).mono ?_); rintro e wa ⟨rfl, hba⟩; go_wp2_with fail; exact hK.out _ _ hba rfl)
      | ((with_reducible refine (HCA.out _ hb2).mono ?_); rintro e wa ⟨rfl, hba⟩; go_wp2_with fail; exact hK.out _ _ hba rfl)
end Go.Proofs.YtkfhfegogmlchaaDoor

/- What the statement's loops know: the plain side. -/
namespace Go.Proofs.YtkfhfegogmlchaaDoor
open Go.RowKit

theorem szT_tabs {ls : List (List Ch)} {i : Nat} {l : List Ch} (h : ls[i]? = some l) : szT (tabsOf ls) (i + 1) = szT (tabsOf ls) i + l.length := by
  show _ + ((tabsOf ls).getD i []).length = _
  rw [tabs_at h, List.length_map]
theorem atL_start (nt : Nat) : (atL nt ⟨0, 0, fun _ => 0⟩).toArray = Array.replicate (nt + 1) (Value.int .i64 0) := by
  have e : (fun m => Value.int .i64 (atN ⟨0, 0, fun _ => 0⟩ m)) = fun _ => Value.int .i64 0 := by
    funext m
    cases m <;> rfl
  unfold atL
  rw [e, List.map_const', List.length_range, List.toArray_replicate]
theorem LoopS.start {nt lo g h : Nat} (n : Nat) {first : Int} {ls : List (List Ch)} {vs : List Value} {R : Nat → List ByteArray} {w : World} (hT : TopR lo nt g vs R w) (hh : Blk w h (Array.replicate (nt + 1) (Value.int .i64 0)) 3) (hlo : lo ≤ h) :
    LoopS w.heap.size nt n lo g h first ls vs R ⟨0, 0, fun _ => 0⟩ (w.alloc (.cells #[.int .i64 nt, .int .i64 n, .int .u64 0, .bool false, .slice none 0 0, .int .i64 0] 85)) := by
  have hb : Below w.heap.size w (w.alloc (.cells #[.int .i64 nt, .int .i64 n, .int .u64 0, .bool false, .slice none 0 0, .int .i64 0] 85)) := (Below.refl _ _).alloc (Nat.le_refl _) _
  refine ⟨hT.ext hb, ⟨hT.b.lt, hh.lt, hlo, fun m v hv b hvb => ?_⟩, ?_, ?_⟩
  · obtain ⟨ol, _, ho⟩ := hT.r m v hv
    exact (ho.lt b hvb).2
  · rw [atL_start]
    exact hh.ext hb
  · exact ⟨[], 0, false, ⟨⟨.slice none 0 0, Blk.new _ _ _, none, 0, rfl, fun h => absurd rfl h, Or.inl (World.ownsRow_nil _ _ _ _)⟩, fun t ht => by simp at ht⟩, by unfold Dis; simp, BW.start nt n first ls, fun t ht => by simp at ht⟩
theorem PlanR.of {nt n : Nat} {first : Int} {ls : List (List Ch)} (hok : ∀ l ∈ ls, okC nt l ∧ l.length ≤ 200) (h1 : 1 ≤ nt) (h12 : nt ≤ 12) (hm : mostN ls ≤ n) (hn : n ≤ 40) (hl : ls.length ≤ 40) (hf : 0 ≤ first ∧ first ≤ 4294967295) : PlanR nt n first ls :=
  ⟨fun l hl c hc => by
    obtain ⟨j, hj⟩ := List.getElem?_of_mem hc
    obtain ⟨h1, h2, _⟩ := (hok l hl).1 j c hj
    exact ⟨h1, h2⟩, h1, h12, fun l hl => Nat.le_trans (mostN_le l hl) hm, fun l hl => (hok l hl).2, hn, hl, hf⟩
theorem LsRow.wf {w : World} {A : Option Addr} {ls : List (List Ch)} (h : LsRow w A ls) : ∀ l ∈ ls, ∀ c ∈ l, c.wf ∧ (∀ v ∈ c.bf, v.wf) ∧ ∀ v ∈ c.af, v.wf := by
  intro l hl c hc
  obtain ⟨i, hi⟩ := List.getElem?_of_mem hl
  obtain ⟨b, off, l', _, _, hl', A1, c1, _, h2⟩ := h.at_ (List.getElem?_eq_some_iff.1 hi).1
  rw [hi] at hl'
  obtain rfl := Option.some.inj hl'
  obtain ⟨j, hj⟩ := List.getElem?_of_mem hc
  obtain ⟨_, _, c', _, _, hc', hw, A3, A4, c3, c4, _, _, _, _, v1, v2⟩ := h2.at_ (List.getElem?_eq_some_iff.1 hj).1
  rw [hj] at hc'
  obtain rfl := Option.some.inj hc'
  exact ⟨hw, v1.1, v2.1⟩
theorem roundB.bound {nt n : Nat} {ls : List (List Ch)} {mix step : Nat} {s : Bs} (h : roundB nt n (tabsOf ls) mix step s) (hok : okT nt (tabsOf ls)) : step ≤ mix + (nt + 1) * (szT (tabsOf ls) ls.length + 2 * ls.length + 2) := by
  have h1 := h.few
  rw [left_start hok, tabs_length] at h1
  rw [show szT (tabsOf ls) ls.length + 2 * ls.length + 2 = 2 * ls.length + szT (tabsOf ls) ls.length + 2 by omega]
  exact h1
theorem schB_len {ts : List Ta} (h : schB ts = true) : 1 ≤ ts.length ∧ ts.length ≤ 12 := by
  unfold schB at h
  exact of_decide_eq_true (Bool.and_eq_true_iff.1 h).1
end Go.Proofs.YtkfhfegogmlchaaDoor

/- A law for a region that draws its order and holds two appends in a row (the first may come anywhere among the others; the second, and what stores its value, come last): each operation is run once. -/
namespace Go.Proofs.YtkfhfegogmlchaaDoor
open Go.RowKit

def Steps2 (P : Program) (ops : Array Oper) (Q : Exit → Act → World → Prop) (mask : List Bool) (L : List Value) (df : List Deferred) (ps : List Known) (dst : Nat → Nat) (a : Nat) (J V0 : World → Prop) (V1 : Value → World → Prop) (T : World → World → Prop) : Nat → List Oper → Prop
  | _, [] => True
  | i, o :: os => (if i = a then ∀ x w, J w → V0 w → StepGoal ps dst w (TurnBody P ops Q mask L df (fun v w' => T w w' ∧ V1 v w') w (dst i) o) (depsOf o) x
      else ∀ x w, J w → StepGoal ps dst w (StepBody P ops Q mask L df (ps.getD i kAny) w (dst i) o) (depsOf o) x) ∧ Steps2 P ops Q mask L df ps dst a J V0 V1 T (i + 1) os
theorem Steps2.at_ {P : Program} {ops : Array Oper} {Q : Exit → Act → World → Prop} {mask : List Bool} {L : List Value} {df : List Deferred} {ps : List Known} {dst : Nat → Nat} {a : Nat} {J V0 : World → Prop} {V1 : Value → World → Prop} {T : World → World → Prop} :
    ∀ (os : List Oper) (n i : Nat) (o : Oper), Steps2 P ops Q mask L df ps dst a J V0 V1 T n os → os[i]? = some o → (if n + i = a then ∀ x w, J w → V0 w → StepGoal ps dst w (TurnBody P ops Q mask L df (fun v w' => T w w' ∧ V1 v w') w (dst (n + i)) o) (depsOf o) x
      else ∀ x w, J w → StepGoal ps dst w (StepBody P ops Q mask L df (ps.getD (n + i) kAny) w (dst (n + i)) o) (depsOf o) x)
  | [], _, _, _, _, h => by simp at h
  | o' :: os, n, 0, o, hs, h => by
    simp only [List.getElem?_cons_zero, Option.some.injEq] at h
    subst h
    exact hs.1
  | o' :: os, n, i + 1, o, hs, h => by
    have := Steps2.at_ os (n + 1) i o hs.2 (by simpa using h)
    rw [show n + 1 + i = n + (i + 1) by omega] at this
    exact this
/-- No operation of the first n but a itself hangs on a. -/
def farB (ops : Array Oper) (n a : Nat) : Bool := (List.range n).all fun i => decide (i = a) || match ops[i]? with | some o => !(depsOf o).contains a | none => true
end Go.Proofs.YtkfhfegogmlchaaDoor

/- schema.Get's two closures: the next byte, the next name. -/
namespace Go.Proofs.YtkfhfegogmlchaaDoor
open Go.RowKit

/-- What a reading step does to memory: the rest and the mark 'bad' turn, all else stays. -/
structure Rds (rb bb : Nat) (w w' : World) (s : ByteArray) (bd : Bool) : Prop where
  os : w'.os = w.os
  tape : w'.tape = w.tape
  output : w'.output = w.output
  size : w.heap.size ≤ w'.heap.size
  block : ∀ c, c < w.heap.size → c ≠ rb → c ≠ bb → w'.heap[c]? = w.heap[c]?
  r : Blk w' rb #[.string s] 9
  b : Blk w' bb #[.bool bd] 4
theorem Rds.blk {rb bb : Nat} {w w' : World} {s : ByteArray} {bd : Bool} (h : Rds rb bb w w' s bd) {x : Nat} {cs : Array Value} {t : TypeId} (hx : Blk w x cs t) (h1 : x ≠ rb) (h2 : x ≠ bb) : Blk w' x cs t := (h.block x hx.lt h1 h2).trans hx
theorem Rds.own {rb bb : Nat} {w w' : World} {s s0 : ByteArray} {bd bd0 : Bool} (h : Rds rb bb w w' s bd) (hr : Blk w rb #[.string s0] 9) (hb : Blk w bb #[.bool bd0] 4) {base : Nat} {e : TypeId} {size n : Nat} {v : Value} {xs : List Value}
    (ho : w.ownsRow base e size v n xs) (h1 : e ≠ 9) (h2 : e ≠ 4) : w'.ownsRow base e size v n xs := by
  have n1 := own_ne ho hr h1
  have n2 := own_ne ho hb h2
  refine ⟨ho.1, ?_⟩
  rcases ho.2 with h0 | ⟨g, cap, cur, hv, hbg, hh, h4⟩
  · exact .inl h0
  · subst hv
    have hlt : g < w.heap.size := by
      rcases Nat.lt_or_ge g w.heap.size with h' | h'
      · exact h'
      · rw [Array.getElem?_eq_none h'] at hh; cases hh
    refine .inr ⟨g, cap, cur, rfl, hbg, (h.block g hlt ?_ ?_).trans hh, h4⟩
    · intro e; apply n1; rw [e]; rfl
    · intro e; apply n2; rw [e]; rfl
theorem Rds.below {rb bb : Nat} {w w' : World} {s : ByteArray} {bd : Bool} (h : Rds rb bb w w' s bd) {B : Nat} (h0 : B ≤ w.heap.size) (h1 : B ≤ rb) (h2 : B ≤ bb) : Below B w w' :=
  ⟨h.os, h.tape, h.output, h.size, fun c hc => h.block c (by omega) (by omega) (by omega)⟩
theorem Rds.of_below {rb bb : Nat} {w w' : World} {s : ByteArray} {bd : Bool} (hb : Below w.heap.size w w') (h1 : Blk w rb #[.string s] 9) (h2 : Blk w bb #[.bool bd] 4) : Rds rb bb w w' s bd :=
  ⟨hb.os, hb.tape, hb.output, hb.size, fun c hc _ _ => hb.block c hc, h1.ext hb, h2.ext hb⟩
theorem Rds.trans {rb bb : Nat} {w w1 w2 : World} {s1 s2 : ByteArray} {b1 b2 : Bool} (h : Rds rb bb w w1 s1 b1) (k : Rds rb bb w1 w2 s2 b2) : Rds rb bb w w2 s2 b2 :=
  ⟨k.os.trans h.os, k.tape.trans h.tape, k.output.trans h.output, Nat.le_trans h.size k.size, fun c hc h1 h2 => (k.block c (Nat.lt_of_lt_of_le hc h.size) h1 h2).trans (h.block c hc h1 h2), k.r, k.b⟩
end Go.Proofs.YtkfhfegogmlchaaDoor

/- What a reader of schemas knows while it reads; rows of tables of its own. Plain laws for schema.Get and the reference's Get. -/
namespace Go.Proofs.YtkfhfegogmlchaaDoor
open Go.RowKit

def ccells (l : List Co) : List Value := l.flatMap fun c => [Value.string c.nm, .int .u8 c.k, .bool c.nl]
def tcells (l : List Ta) : List Value := l.flatMap fun t => [Value.string t.nm, .slice t.A t.cs.length t.c, .int .i64 t.key, .int .i64 t.ref, .int .i64 t.par]
theorem flat_get {α : Type} (f : α → List Value) (m : Nat) (hf : ∀ x, (f x).length = m) : ∀ (l : List α) (i q : Nat) (x : α), l[i]? = some x → q < m → (l.flatMap f)[i * m + q]? = (f x)[q]?
  | [], i, q, x, h, _ => by simp at h
  | y :: l, 0, q, x, h, hq => by
    have e : y = x := by simpa using h
    subst e
    rw [List.flatMap_cons, Nat.zero_mul, Nat.zero_add, List.getElem?_append_left (by rw [hf]; exact hq)]
  | y :: l, i + 1, q, x, h, hq => by
    rw [List.flatMap_cons, List.getElem?_append_right (by rw [hf, Nat.succ_mul]; omega), hf]
    have := flat_get f m hf l i q x (by simpa using h) hq
    rw [← this]
    congr 1
    rw [Nat.succ_mul]
    omega
theorem addr_addS (g i : Nat) : (⟨g, 0, none⟩ : Addr).add i = ⟨g, 0 + i, none⟩ := by
  unfold Addr.add
  split
  · next h0 => subst h0; rfl
  · simp
theorem CRow.of_own {w : World} {base n c : Nat} {e : TypeId} {A : Option Addr} {l : List Co} (hw : ∀ c ∈ l, c.wf) (hlen : l.length ≤ 5864062014805) (hn : n = l.length)
    (h : w.ownsRow base e 3 (.slice A n c) n (ccells l)) : CRow w A l := by
  refine ⟨hw, hlen, fun hl => ?_⟩
  have hpos : 0 < n := by rw [hn]; exact List.length_pos_iff.2 hl
  obtain ⟨g, cap, hv, _, hlt⟩ := h.form hpos
  have hA : A = some ⟨g, 0, none⟩ := by injection hv
  subst hA
  refine ⟨g, 0, rfl, hlt, fun i v hi => ?_⟩
  have hc := h.cells (g := g) rfl
  have k := fun q hq u hu => hc (i * 3 + q) u ((flat_get (fun c : Co => [Value.string c.nm, .int .u8 c.k, .bool c.nl]) 3 (fun _ => rfl) l i q v hi hq).trans hu)
  have k0 := k 0 (by omega) _ rfl
  have k1 := k 1 (by omega) _ rfl
  have k2 := k 2 (by omega) _ rfl
  rw [addr_addS] at k0 k1 k2
  exact ⟨k0, k1, k2⟩
theorem TRow.of_own {w : World} {base n c : Nat} {e : TypeId} {A : Option Addr} {l : List Ta} (hw : ∀ t ∈ l, t.wf ∧ CRow w t.A t.cs) (hlen : l.length ≤ 2199023255552) (hn : n = l.length)
    (h : w.ownsRow base e 5 (.slice A n c) n (tcells l)) : TRow w A c l := by
  refine ⟨hw, hlen, ?_, fun hl => ?_⟩
  · rcases h.2 with ⟨h1, _⟩ | ⟨g, cap, cur, h1, _, _, h2, _⟩
    · injection h1 with _ h2 _
      rw [← hn, h2]
      exact Nat.zero_le _
    · injection h1 with _ _ h3
      rw [h3, ← hn]
      exact h2
  · have hpos : 0 < n := by rw [hn]; exact List.length_pos_iff.2 hl
    obtain ⟨g, cap, hv, _, hlt⟩ := h.form hpos
    have hA : A = some ⟨g, 0, none⟩ := by injection hv
    subst hA
    refine ⟨g, 0, rfl, hlt, fun i v hi => ?_⟩
    have hc := h.cells (g := g) rfl
    have k := fun q hq u hu => hc (i * 5 + q) u ((flat_get (fun t : Ta => [Value.string t.nm, .slice t.A t.cs.length t.c, .int .i64 t.key, .int .i64 t.ref, .int .i64 t.par]) 5 (fun _ => rfl) l i q v hi hq).trans hu)
    have k0 := k 0 (by omega) _ rfl
    have k1 := k 1 (by omega) _ rfl
    have k2 := k 2 (by omega) _ rfl
    have k3 := k 3 (by omega) _ rfl
    have k4 := k 4 (by omega) _ rfl
    rw [addr_addS] at k0 k1 k2 k3 k4
    exact ⟨k0, k1, k2, k3, k4⟩
/-- A table of the reader's own, its columns' row ahead of block B. -/
def TOk (B : Nat) (t : Ta) (w : World) : Prop := t.wf ∧ (∀ c ∈ t.cs, c.wf) ∧ t.cs.length ≤ 60000 ∧ (∀ g, (Value.slice t.A t.cs.length t.c).ownBlock = some g → g < B) ∧ ∃ base, w.ownsRow base 102 3 (.slice t.A t.cs.length t.c) t.cs.length (ccells t.cs)
theorem own_low {w w' : World} {B base : Nat} {e : TypeId} {size n : Nat} {v : Value} {xs : List Value} (h : w.ownsRow base e size v n xs) (hb : Below B w w') (hv : ∀ g, v.ownBlock = some g → g < B) : w'.ownsRow base e size v n xs := by
  refine ⟨h.1, ?_⟩
  rcases h.2 with h0 | ⟨g, cap, cur, rfl, hbg, hh, h4⟩
  · exact .inl h0
  · exact .inr ⟨g, cap, cur, rfl, hbg, (hb.block g (hv g rfl)).trans hh, h4⟩
theorem blk_low {w w' : World} {B x : Nat} {cs : Array Value} {t : TypeId} (h : Blk w x cs t) (hb : Below B w w') (hx : x < B) : Blk w' x cs t := (hb.block x hx).trans h
theorem TOk.low {B : Nat} {t : Ta} {w w' : World} (h : TOk B t w) (hb : Below B w w') : TOk B t w' := by
  obtain ⟨h1, h2, h3, h4, base, h5⟩ := h
  exact ⟨h1, h2, h3, h4, base, own_low h5 hb h4⟩
theorem TOk.mono {B B' : Nat} {t : Ta} {w : World} (h : TOk B t w) (hB : B ≤ B') : TOk B' t w := by
  obtain ⟨h1, h2, h3, h4, h5⟩ := h
  exact ⟨h1, h2, h3, fun g hg => Nat.lt_of_lt_of_le (h4 g hg) hB, h5⟩
/-- What lies in memory ahead of block B: the answer's place r0, the schema read so far at sb. -/
def GI (w0 : World) (r0 sb B : Nat) (A : Option Addr) (c : Nat) (T : List Ta) (w : World) : Prop :=
  (w0.heap.size ≤ r0 ∧ w0.heap.size ≤ sb ∧ r0 < B ∧ sb < B ∧ r0 ≠ sb ∧ T.length ≤ 255) ∧ Blk w r0 #[.slice none 0 0] 24 ∧ Blk w sb #[.slice A T.length c] 24 ∧ w.ownsRow w0.heap.size 71 5 (.slice A T.length c) T.length (tcells T) ∧ (∀ g, (Value.slice A T.length c).ownBlock = some g → g < B) ∧ (∀ t ∈ T, TOk B t w) ∧ Below w0.heap.size w0 w
theorem GI.low {w0 : World} {r0 sb B : Nat} {A : Option Addr} {c : Nat} {T : List Ta} {w w' : World} (h : GI w0 r0 sb B A c T w) (hb : Below B w w') : GI w0 r0 sb B A c T w' := by
  obtain ⟨h0, h1, h2, h3, h4, h5, h6⟩ := h
  exact ⟨h0, blk_low h1 hb h0.2.2.1, blk_low h2 hb h0.2.2.2.1, own_low h3 hb h4, h4, fun t ht => (h5 t ht).low hb, h6.trans (hb.mono (by omega))⟩
theorem GI.mono {w0 : World} {r0 sb B B' : Nat} {A : Option Addr} {c : Nat} {T : List Ta} {w : World} (h : GI w0 r0 sb B A c T w) (hB : B ≤ B') : GI w0 r0 sb B' A c T w := by
  obtain ⟨h0, h1, h2, h3, h4, h5, h6⟩ := h
  exact ⟨by omega, h1, h2, h3, fun g hg => Nat.lt_of_lt_of_le (h4 g hg) hB, fun t ht => (h5 t ht).mono hB, h6⟩

/-! Plain laws. -/
end Go.Proofs.YtkfhfegogmlchaaDoor

/- Several texts in one: see each part's head. -/
/- fasciclelaw13.Large answers, and changes nothing; fascicleref13.Copy gives the same schema. -/
namespace Go.Proofs.YtkfhfegogmlchaaDoor
open Go.RowKit

def BoolP (w : World) (r : Ending) (w' : World) : Prop := (∃ v, r = .returned (.bool v)) ∧ Below w.heap.size w w'
set_option maxRecDepth 100000 in
set_option maxHeartbeats 1000000 in
theorem large13_any (ts : List Ta) (A : Option Addr) (c : Nat) (w : World) (ht : TRow w A c ts) :
    Calls Tryd.prog 16 #[.agg #[.slice A ts.length c]] w (BoolP w) := by
  have hlen := ht.2.1
  have HT := Lib.hid ht
  clear ht
  go_enter Tryd.func16, Tryd.ntmps16
  go_wp2_with fail
  have h0 : Blk (w.alloc (.cells #[.slice A ts.length c] 24)) w.heap.size #[.slice A ts.length c] 24 := Blk.new w #[.slice A ts.length c] 24
  have hC : Below w.heap.size w (w.alloc (.cells #[.slice A ts.length c] 24)) := (by repeat (first | exact Below.refl _ _ | assumption | refine Below.drew ?_ | refine below_drewN ?_ _ | refine Below.alloc ?_ (by simp <;> omega) _))
  have HA := Lib.hid h0
  have HC := Lib.hid hC
  clear h0 hC
  generalize w.alloc (.cells #[.slice A ts.length c] 24) = W0 at HA HC ⊢
  go_loopw [3, 4] (fun n i wr => ∃ (k : Nat) (v : Int), k ≤ ts.length ∧ n = .int .i64 v ∧ i = .int .i64 k ∧ Hid (Below W0.heap.size W0 wr)) (fun _ i _ => ts.length - (intOf i).toNat)
  case atStart => exact ⟨0, 0, by omega, rfl, rfl, Below.refl _ _⟩
  case round =>
    obtain ⟨k, n, hk1, rfl, rfl, HBW⟩ := hrel
    have HBW' := Lib.hid (bt HC.out HBW.out)
    have g0 := (HA.out.ext HBW.out).cell 0
    simp only [List.getElem?_toArray, List.getElem?_cons_zero] at g0
    have l1 := (HA.out.ext HBW.out).lt
    by_cases hlt : k < ts.length
    · obtain ⟨b, off, t, rfl, hb, hlk, hmem, hwf, hcr, c0, c1, c2, c3, c4⟩ := (HT.out.ext HBW'.out).at_ hlt
      have HCR := Lib.hid hcr
      have hcl := hcr.2.1
      have hnz := hwf.1
      clear hlk hmem hwf hcr
      have i0 : (0 : Int) ≤ k := by omega
      have i1 : (k : Int) < ts.length := by omega
      by_cases h40 : (k : Int) < 40
      · obtain ⟨nm, cs, key, ref, par, TA, tc⟩ := t
        simp only at c0 c1 c2 c3 c4 HCR hcl hnz
        go_wp2_with fail
        go_quiet (fail)
        go_wp2_with fail
        generalize wrap64 (wrap64 (n + ↑cs.length) + ↑nm.size / 16) = n2
        have HC1 := Lib.hid c1
        clear c0 c1 c2 c3 c4 g0
        have HBN := Lib.hid (show Below wr.heap.size wr (wr.drewN nq) by have := Below.refl wr.heap.size wr; repeat (first | assumption | refine Below.drew ?_ | refine below_drewN ?_ _))
        generalize wr.drewN nq = wx at HBN ⊢
        go_loopw [3, 5] (fun n i wy => ∃ (j : Nat) (v : Int), j ≤ cs.length ∧ n = .int .i64 v ∧ i = .int .i64 j ∧ Hid (Below wr.heap.size wr wy)) (fun _ i _ => cs.length - (intOf i).toNat)
        case atStart => exact ⟨0, n2, by omega, rfl, rfl, HBN.out⟩
        case round =>
          obtain ⟨j, n3, hj1, rfl, rfl, HBY⟩ := hrel
          have c1 := (HBY.out.cell (p := ⟨b, off + k * 5 + 1, none⟩) hb).trans HC1.out
          have g0 := ((HA.out.ext HBW.out).ext HBY.out).cell 0
          simp only [List.getElem?_toArray, List.getElem?_cons_zero] at g0
          have l2 := HBY.out.size
          have h40' : k < 40 := by omega
          by_cases hjl : j < cs.length
          · by_cases hj40 : (j : Int) < 40
            · obtain ⟨bb, of, v, rfl, hbb, hv, hm, hvw, d0, d1, d2⟩ := (HCR.out.ext HBY.out).at_ hjl
              have hvz := hvw.1
              have m1 : (j : Int) < cs.length := by omega
              have m0 : (0 : Int) ≤ j := by omega
              clear hv hm hvw
              go_wp2_with fail
              go_roundw
              case rel => exact ⟨j + 1, _, by omega, rfl, by go_num, HBY.out⟩
              case measure => simp [intOf]; omega
            · have m2 : (40 : Int) ≤ j := by omega
              go_wp2_with fail
              go_roundw
              case rel => exact ⟨k + 1, _, by omega, rfl, by go_num, bt HBW.out HBY.out⟩
              case measure => simp [intOf]; omega
          · have m1 : (cs.length : Int) ≤ j := by omega
            go_wp2_with fail
            go_roundw
            case rel => exact ⟨k + 1, _, by omega, rfl, by go_num, bt HBW.out HBY.out⟩
            case measure => simp [intOf]; omega
      · have e1 : (30 : Int) < ts.length := by omega
        go_wp2_with fail
        go_ret
        exact ⟨⟨_, rfl⟩, HBW'.out⟩
    · have hk : ¬ (k : Int) < ts.length := by omega
      by_cases e1 : (30 : Int) < ts.length
      · go_wp2_with fail
        go_ret
        exact ⟨⟨_, rfl⟩, HBW'.out⟩
      · have f1 : (ts.length : Int) ≤ 30 := by omega
        by_cases e2 : (600 : Int) < n
        · go_wp2_with fail
          go_ret
          exact ⟨⟨_, rfl⟩, HBW'.out⟩
        · have f2 : n ≤ 600 := by omega
          go_wp2_with fail
          go_ret
          exact ⟨⟨_, rfl⟩, HBW'.out⟩
end Go.Proofs.YtkfhfegogmlchaaDoor

/- fasciclelaw13.Two: the chapter's two tables. -/
namespace Go.Proofs.YtkfhfegogmlchaaDoor
open Go.RowKit

end Go.Proofs.YtkfhfegogmlchaaDoor

/- fasciclelaw20.Heavy answers; buffer.New in general. -/
namespace Go.Proofs.YtkfhfegogmlchaaDoor
open Go.RowKit

set_option maxRecDepth 100000 in
set_option maxHeartbeats 1600000 in
set_option linter.unusedSimpArgs false in
theorem heavy20_any (ts : List Ta) (A LA : Option Addr) (c lc : Nat) (l : List Ch) (w : World) (hT : TRow w A c ts) (hl : ChRow w LA l) :
    Calls Tryd.prog 4 #[.agg #[.slice A ts.length c], .agg #[.int .u64 0, .slice none 0 0], .slice LA l.length lc] w (BoolP w) := by
  have hlen := hl.1
  have HLG := Lib.hid (fun (W : World) (hW : Below w.heap.size w W) => large13_any ts A c W (hT.ext hW))
  have HL := Lib.hid hl
  clear hT hl
  go_enter Tryd.func4, Tryd.ntmps4
  go_wp2_with fail
  have HS : Hid (Blk ((w.alloc (.cells #[.slice A ts.length c] 24)).alloc (.cells #[.int .u64 0, .slice none 0 0] 32)) w.heap.size #[.slice A ts.length c] 24) := (by repeat (first | exact Blk.at (by simp) | assumption | refine Blk.drew ?_ | refine Blk.old ?_ _))
  have HP : Hid (Blk ((w.alloc (.cells #[.slice A ts.length c] 24)).alloc (.cells #[.int .u64 0, .slice none 0 0] 32)) (w.heap.size + 1) #[.int .u64 0, .slice none 0 0] 32) := (by repeat (first | exact Blk.at (by simp) | assumption | refine Blk.drew ?_ | refine Blk.old ?_ _))
  have hC : Below w.heap.size w ((w.alloc (.cells #[.slice A ts.length c] 24)).alloc (.cells #[.int .u64 0, .slice none 0 0] 32)) := (by repeat (first | exact Below.refl _ _ | assumption | refine Below.drew ?_ | refine below_drewN ?_ _ | refine Below.alloc ?_ (by simp <;> omega) _))
  have HC := Lib.hid hC
  clear hC
  generalize (w.alloc (.cells #[.slice A ts.length c] 24)).alloc (.cells #[.int .u64 0, .slice none 0 0] 32) = W0 at HS HP HC ⊢
  go_loopw [7, 8] (fun n i wr => ∃ (k : Nat) (v : Int), k ≤ l.length ∧ n = .int .i64 v ∧ i = .int .i64 k ∧ Hid (Below W0.heap.size W0 wr)) (fun _ i _ => l.length - (intOf i).toNat)
  case atStart => exact ⟨0, 0, by omega, rfl, rfl, Below.refl _ _⟩
  case round =>
    obtain ⟨k, n, hk1, rfl, rfl, HBW⟩ := hrel
    have HBW' := Lib.hid (bt HC.out HBW.out)
    by_cases hlt : k < l.length ∧ k < 400
    · obtain ⟨hlt, h400⟩ := hlt
      obtain ⟨b, off, ch, rfl, hbl, hcj, hcw, A1, A2, c1, c2, e0, e1, e2, e3, v1, v2⟩ := (HL.out.ext HBW'.out).at_ hlt
      have HL1 := Lib.hid (fun (W : World) (hW : Below wr.heap.size wr W) => long_any ch.bf A1 c1 W (v1.ext hW))
      have HL2 := Lib.hid (fun (W : World) (hW : Below wr.heap.size wr W) => long_any ch.af A2 c2 W (v2.ext hW))
      have hb1 := v1.2.1
      have hb2 := v2.2.1
      generalize decide (4000 < longN ch.bf) = q1 at HL1
      generalize decide (4000 < longN ch.af) = q2 at HL2
      clear hcj hcw e0 e1 v1 v2
      generalize ch.bf.length = n1 at *
      generalize ch.af.length = n2 at *
      have h400' : (k : Int) < 400 := by omega
      go_wp2_with fail
      refine (HL1.out _ (by repeat (first | exact Below.refl _ _ | assumption | refine Below.drew ?_ | refine below_drewN ?_ _ | refine Below.alloc ?_ (by simp <;> omega) _))).mono ?_
      rintro r w1 ⟨rfl, rfl⟩
      cases q1 with
      | true =>
        go_wp2_with fail
        go_ret
        exact ⟨⟨_, rfl⟩, HBW'.out⟩
      | false =>
        go_wp2_with fail
        refine (HL2.out _ (by repeat (first | exact Below.refl _ _ | assumption | refine Below.drew ?_ | refine below_drewN ?_ _ | refine Below.alloc ?_ (by simp <;> omega) _))).mono ?_
        rintro r w1 ⟨rfl, rfl⟩
        cases q2 with
        | true =>
          go_wp2_with fail
          go_ret
          exact ⟨⟨_, rfl⟩, HBW'.out⟩
        | false =>
          go_wp2_with fail
          go_quiet (fail)
          go_wp2_with fail
          go_roundw
          case rel => exact ⟨k + 1, _, by omega, rfl, by go_num, below_drewN HBW.out _⟩
          case measure => simp [intOf]; omega
    · have HFL := Lib.hid (HLG.out wr HBW'.out)
      have hS := HS.out.ext HBW.out
      have hP := HP.out.ext HBW.out
      have s0 := hS.cell 0
      have lS := hS.lt
      have p1 := hP.cell 1
      have lP := hP.lt
      simp only [List.getElem?_toArray, List.getElem?_cons_zero, List.getElem?_cons_succ] at s0 p1
      clear hS hP
      have key : ¬ ((k : Int) < l.length) ∨ ((k : Int) < l.length ∧ ¬ (k : Int) < 400) := by omega
      rcases key with h1 | ⟨h1, h2⟩
      · go_wp2_with fail
        refine (HFL.out).mono ?_
        rintro r w1 ⟨⟨v, rfl⟩, hb⟩
        have hC1 := bt HBW'.out hb
        have p1' := (hb.cell (p := ⟨w.heap.size + 1, 1, none⟩) lP).trans p1
        have lP' := Nat.lt_of_lt_of_le lP hb.size
        clear hb p1
        cases v with
        | true =>
          go_wp2_with fail
          go_ret
          exact ⟨⟨_, rfl⟩, hC1⟩
        | false =>
          by_cases h300 : (300 : Int) < l.length
          · go_wp2_with fail
            go_ret
            exact ⟨⟨_, rfl⟩, hC1⟩
          · by_cases h3 : (3000 : Int) < n
            · go_wp2_with fail
              go_ret
              exact ⟨⟨_, rfl⟩, hC1⟩
            · go_wp2_with fail
              go_ret
              exact ⟨⟨_, rfl⟩, hC1⟩
      · go_wp2_with fail
        refine (HFL.out).mono ?_
        rintro r w1 ⟨⟨v, rfl⟩, hb⟩
        have hC1 := bt HBW'.out hb
        have p1' := (hb.cell (p := ⟨w.heap.size + 1, 1, none⟩) lP).trans p1
        have lP' := Nat.lt_of_lt_of_le lP hb.size
        clear hb p1
        cases v with
        | true =>
          go_wp2_with fail
          go_ret
          exact ⟨⟨_, rfl⟩, hC1⟩
        | false =>
          by_cases h300 : (300 : Int) < l.length
          · go_wp2_with fail
            go_ret
            exact ⟨⟨_, rfl⟩, hC1⟩
          · exfalso
            omega
theorem new_gen (nt n : Nat) (h1 : 1 ≤ nt) (h12 : nt ≤ 12) (hn : 1 ≤ n) (hn2 : n ≤ 4096) (w : World) : Calls Tryd.prog 8 #[.int .i64 nt, .int .i64 n] w fun r w' => r = .returned (.tuple #[.pointer (some ⟨w.heap.size, 0, none⟩), .int .i64 0]) ∧ w' = w.alloc (.cells #[.int .i64 nt, .int .i64 n, .int .u64 0, .bool false, .slice none 0 0, .int .i64 0] 85) := by
  have g1 : ¬ (nt : Int) < 1 := by omega
  have g2 : ¬ (12 : Int) < nt := by omega
  have g3 : ¬ (n : Int) < 1 := by omega
  have g4 : ¬ (4096 : Int) < n := by omega
  go_enter Tryd.func8, Tryd.ntmps8
  go_wp2
  go_ret2
  exact ⟨rfl, rfl⟩
end Go.Proofs.YtkfhfegogmlchaaDoor
