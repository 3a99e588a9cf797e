/- schema.text; what Put's bytes are; appending texts to bytes of the call's own. -/
import Derived.Test.YtjdfodmialhakaaDoorSc3
import Derived.Test.YtjdfodmialhakaaDoorRegTwo
import Derived.Test.YtjdfodmialhakaaDoorPuts
import Derived.Lib.AppendStr
namespace Go.Proofs.YtjdfodmialhakaaDoor
open Go.RowKit

/-- A name's bytes. -/
def txL (s : ByteArray) : List UInt8 := putRowL [⟨5, 0, 0, s⟩]
def colL (c : Co) : List UInt8 := txL c.nm ++ [UInt8.ofNat c.k.toNat, if c.nl then 1 else 0]
def tabL (t : Ta) : List UInt8 := txL t.nm ++ (UInt8.ofNat t.cs.length :: (t.cs.flatMap colL ++ [UInt8.ofNat t.key.toNat, UInt8.ofNat (t.ref + 1).toNat, UInt8.ofNat (t.par + 1).toNat]))
def putS (ts : List Ta) : List UInt8 := UInt8.ofNat ts.length :: ts.flatMap tabL
theorem txL_eq (s : ByteArray) : txL s = 1 :: 5 :: UInt8.ofNat s.size :: s.data.toList := by
  simp [txL, putRowL, putL]
theorem txL_len (s : ByteArray) : (txL s).length = s.size + 3 := by rw [txL_eq]; simp
theorem ch_lt {v : Int} (h : chB v = true) : v < 128 := by
  have := of_decide_eq_true h
  omega
theorem name_parts {s : ByteArray} (h : nameB s = true) : chars s = true ∧ 1 ≤ s.size ∧ s.size ≤ 16 := by
  unfold nameB at h
  obtain ⟨h1, h2⟩ := Bool.and_eq_true_iff.1 h
  obtain ⟨h3, h4⟩ := Bool.and_eq_true_iff.1 h2
  exact ⟨h1, of_decide_eq_true h3, of_decide_eq_true h4⟩
theorem name_valid {s : ByteArray} (h : nameB s = true) : Lib.validD s.data.toList = true := by
  have hc := (name_parts h).1
  rw [Lib.validD_ascii s.data.toList.length _ (fun b hb => by
    rw [List.take_length] at hb
    have := List.all_eq_true.1 hc b hb
    have := ch_lt this
    omega), List.drop_length]
  rfl
theorem name_row {s : ByteArray} (h : nameB s = true) : rowB [⟨5, 0, 0, s⟩] = true := by
  obtain ⟨_, h1, h2⟩ := name_parts h
  have h3 := name_valid h
  have h4 : s.size ≤ 100 := by omega
  simp [rowB, mayB, h3, h4]
theorem name_wf {s : ByteArray} (h : nameB s = true) : (⟨5, 0, 0, s⟩ : V).wf := by
  obtain ⟨_, h1, h2⟩ := name_parts h
  unfold V.wf
  refine ⟨?_, ?_, ?_, ?_, ?_, ?_, ?_⟩ <;> simp only <;> omega
theorem vrow_one {w : World} {b : Nat} {v : V} {t : TypeId} (hw : v.wf) (h : Blk w b #[.int .u8 v.k, .int .i64 v.n, .int .u64 v.r, .string v.t] t) : VRow w (some ⟨b, 0, none⟩) [v] := by
  refine ⟨by simpa using hw, by simp, fun _ => ⟨b, 0, rfl, h.lt, fun i x hi => ?_⟩⟩
  match i, hi with
  | 0, hi =>
    have : x = v := by simpa using hi.symm
    subst this
    exact ⟨h.cell 0, h.cell 1, h.cell 2, h.cell 3⟩
  | i + 1, hi => simp at hi
set_option maxRecDepth 100000 in
theorem text_any (s : ByteArray) (w : World) (hT : Tabs w) (hn : nameB s = true) :
    Calls Tryd.prog 138 #[.string s] w fun r w' => r = .returned (.string ⟨(txL s).toArray⟩) ∧ Below w.heap.size w w' := by
  have hP : ∀ W, Below w.heap.size w W → ∀ A c, VRow W A [⟨5, 0, 0, s⟩] → Calls Tryd.prog 21 #[.slice A 1 c] W fun e w' => e = .returned (.tuple #[.string ⟨(txL s).toArray⟩, .int .i64 0]) ∧ Below W.heap.size W w' := by
    intro W hW A c hr
    have h := putrow_any [⟨5, 0, 0, s⟩] A c W hr (hT.ext hW)
    unfold putRowR at h
    rw [name_row hn] at h
    exact h
  have HP := Lib.hid hP
  have HW := Lib.hid (name_wf hn)
  obtain ⟨X, hX⟩ : ∃ q : ByteArray, q = ⟨(txL s).toArray⟩ := ⟨_, rfl⟩
  rw [← hX] at HP ⊢
  clear hP hX hT hn
  go_enter Tryd.func138, Tryd.ntmps138
  go_wp2_with fail
  refine (HP.out _ ?h1 _ _ ?h2).mono ?_
  case h1 => exact (by repeat (first | exact Below.refl _ _ | assumption | refine Below.drew ?_ | refine below_drewN ?_ _ | refine Below.alloc ?_ (by simp <;> omega) _))
  case h2 => exact vrow_one (v := ⟨5, 0, 0, s⟩) (t := 24) HW.out (by repeat (first | exact Blk.at (by simp) | assumption | refine Blk.drew ?_ | refine Blk.old ?_ _))
  rintro r w1 ⟨rfl, hb1⟩
  have hbw : Below w.heap.size w w1 := bt (by repeat (first | exact Below.refl _ _ | assumption | refine Below.drew ?_ | refine below_drewN ?_ _ | refine Below.alloc ?_ (by simp <;> omega) _)) hb1
  clear hb1 HP
  go_wp2_with fail
  go_ret
  exact ⟨rfl, hbw⟩
section
variable {P : Program} (w : World)
/-- 'append(b, s...)', for a region's step. -/
theorem wp_append_str {o : Oper} {a : Act} {K : Act → World → Prop} {Q : Exit → Act → World → Prop} (sl x : Operand) (t u : TypeId)
    (ho : o.op = .call { callee := .builtin .append, args := #[sl, x], argTypes := #[t, u] })
    (base : Nat) (e : TypeId) (i : TypeInfo) (ht : P.underlying t = some (.slice e)) (hu : P.underlying u = some .string) (hi : P.info? e = some i) (hz : i.zero = some (.int .u8 0))
    (hsize : i.size = 1) (hby : i.bytes = 1)
    (v : Value) (n : Nat) (xs : List Value) (hs : a.eval sl = v) (hown : w.ownsRow base e 1 v n xs) (s : ByteArray) (hx : a.eval x = .string s)
    (h63 : n + s.size ≤ maxLen) (hbytes : n + s.size ≤ 140737488355328) (hbase : base ≤ w.heap.size)
    (h : ∀ v' w', w'.ownsRow base e 1 v' (n + s.size) (xs ++ Lib.strCells s) → w.grownBy w' v.ownBlock → K (a.put o.dst v') w') : o.wp P a w K Q := by
  obtain ⟨v', w', hr, h2, h3, _⟩ := Lib.run_append_own_string (P := P) w base t u o.type e i ht hu hi hz hsize hby v n xs hown s h63 hbytes hbase
  unfold Oper.wp execOp
  simp only [ho, resolve, invoke, builtin, Sem.run_bind, Sem.run_pure, Result.andThen_ok, List.map_toArray, List.map_cons, List.map_nil, hs, hx, hr]
  exact h v' w' h2 h3
end
def bv (l : List UInt8) : List Value := l.map fun c => Value.int .u8 (c.toNat : Int)
theorem bv_app (l m : List UInt8) : bv (l ++ m) = bv l ++ bv m := by simp [bv]
theorem bv_str (s : ByteArray) : Lib.strCells s = bv s.data.toList := by simp [Lib.strCells, bv]
theorem own_of_blk {w : World} {b base : Nat} {cs : Array Value} {t : TypeId} (h : Blk w b cs t) (hb : base ≤ b) (hm : cs.size ≤ maxLen) : w.ownsRow base t 1 (.slice (some ⟨b, 0, none⟩) cs.size cs.size) cs.size cs.toList := by
  refine ⟨by simp, .inr ⟨b, cs.size, cs, rfl, hb, h, Nat.le_refl _, hm, by simp, ?_⟩⟩
  rw [List.take_of_length_le (by simp)]
theorem byteV {v : Int} (h0 : 0 ≤ v) (h1 : v ≤ 255) : Value.int .u8 (IntKind.u8.wrap v) = Value.int .u8 ((UInt8.ofNat v.toNat).toNat : Int) := by
  congr 1
  rw [UInt8.toNat_ofNat']
  simp [IntKind.wrap, IntKind.bits, IntKind.signed]
  omega
theorem tabL_len {t : Ta} (hn : nameB t.nm = true) (hc : colsB t = true) : (tabL t).length ≤ 200 := by
  obtain ⟨⟨_, h8⟩, _, hnm, _⟩ := cols_parts hc
  have h1 := (name_parts hn).2.2
  unfold namedB at hnm
  have hall := (Bool.and_eq_true_iff.1 hnm).1
  have hcl : ∀ l : List Co, (∀ c ∈ l, nameB c.nm = true) → (l.flatMap colL).length ≤ 21 * l.length := by
    intro l
    induction l with
    | nil => intro _; simp
    | cons c l ih =>
      intro h
      have hc := (name_parts (h c (by simp))).2.2
      have := ih (fun x hx => h x (by simp [hx]))
      have e : (colL c).length = c.nm.size + 5 := by unfold colL; rw [List.length_append, txL_len]; simp
      rw [List.flatMap_cons, List.length_append, List.length_cons, e]
      omega
  have := hcl t.cs (fun c hc => List.all_eq_true.1 hall c.nm (List.mem_map.2 ⟨c, hc, rfl⟩))
  unfold tabL
  rw [List.length_append, txL_len, List.length_cons, List.length_append]
  simp only [List.length_cons, List.length_nil]
  omega
theorem flat_len_le {α : Type} (f : α → List UInt8) (m : Nat) : ∀ (l : List α), (∀ x ∈ l, (f x).length ≤ m) → (l.flatMap f).length ≤ m * l.length
  | [], _ => by simp
  | x :: l, h => by
    have h1 := h x (by simp)
    have h2 := flat_len_le f m l (fun y hy => h y (by simp [hy]))
    rw [List.flatMap_cons, List.length_append, List.length_cons, Nat.mul_succ]
    omega
end Go.Proofs.YtjdfodmialhakaaDoor
