/- Several texts in one: see each part's head. -/
import Derived.Test.YtkfhfegogmlchaaDoorJ35
import Derived.Test.YtkfhfegogmlchaaDoorJ10
/- The topics of some transactions: where they lie. -/
namespace Go.Proofs.YtkfhfegogmlchaaDoor
open Go.RowKit

/-- A slice of transactions' changes reads as this list. -/
def LsRow (w : World) (A : Option Addr) (ls : List (List Ch)) : Prop :=
  ls.length ≤ 17592186044416 ∧ (ls ≠ [] → ∃ b off, A = some ⟨b, off, none⟩ ∧ b < w.heap.size ∧ ∀ (i : Nat) l, ls[i]? = some l → ∃ (A1 : Option Addr) (c1 : Nat), w.cell? ⟨b, off + i, none⟩ = some (.slice A1 l.length c1) ∧ ChRow w A1 l ∧ l.length ≤ c1)
theorem LsRow.ext {w w' : World} {A : Option Addr} {ls : List (List Ch)} (h : LsRow w A ls) (hb : Below w.heap.size w w') : LsRow w' A ls := by
  refine ⟨h.1, fun hl => ?_⟩
  obtain ⟨b, off, rfl, hlt, hc⟩ := h.2 hl
  refine ⟨b, off, rfl, Nat.lt_of_lt_of_le hlt hb.size, fun i l hi => ?_⟩
  obtain ⟨A1, c1, h1, h2, h3⟩ := hc i l hi
  exact ⟨A1, c1, (hb.cell (p := ⟨b, _, none⟩) hlt).trans h1, h2.ext hb, h3⟩
theorem LsRow.atc {w : World} {A : Option Addr} {ls : List (List Ch)} (h : LsRow w A ls) {k : Nat} (hk : k < ls.length) :
    ∃ (b off : Nat) (l : List Ch), A = some ⟨b, off, none⟩ ∧ b < w.heap.size ∧ ls[k]? = some l ∧ ∃ (A1 : Option Addr) (c1 : Nat), w.cell? ⟨b, off + k, none⟩ = some (.slice A1 l.length c1) ∧ ChRow w A1 l ∧ l.length ≤ c1 := by
  obtain ⟨b, off, rfl, hlt, hc⟩ := h.2 (by intro e; simp [e] at hk)
  have hv := List.getElem?_eq_getElem hk
  exact ⟨b, off, ls[k], rfl, hlt, hv, hc k _ hv⟩
theorem LsRow.at_ {w : World} {A : Option Addr} {ls : List (List Ch)} (h : LsRow w A ls) {k : Nat} (hk : k < ls.length) :
    ∃ (b off : Nat) (l : List Ch), A = some ⟨b, off, none⟩ ∧ b < w.heap.size ∧ ls[k]? = some l ∧ ∃ (A1 : Option Addr) (c1 : Nat), w.cell? ⟨b, off + k, none⟩ = some (.slice A1 l.length c1) ∧ ChRow w A1 l := by
  obtain ⟨b, off, l, h1, h2, h3, A1, c1, h4, h5, _⟩ := h.atc hk
  exact ⟨b, off, l, h1, h2, h3, A1, c1, h4, h5⟩
/-- An append to a row of the call's own: the row behind lies where it lay, or in a new block. -/
theorem run_append_apart {P : Program} (w : World) (base : Nat) (t ty e : TypeId) (i : TypeInfo) (z : Value) (size bytes : Nat) (ht : P.underlying t = some (.slice e)) (hi : P.info? e = some i) (hz : i.zero = some z)
    (hsize : i.size = size) (hby : i.bytes = bytes) (hzs : z.cells.size = size) (hsz : 0 < size)
    (v : Value) (n : Nat) (xs : List Value) (hown : w.ownsRow base e size v n xs)
    (a : Addr) (m c : Nat) (news : List Value) (hl : news.length = m * size) (hnews : ∀ j u, news[j]? = some u → w.cell? (a.add j) = some u) (h1 : ∀ u ∈ news, u.oneCell' = true)
    (h63 : n + m ≤ maxLen) (hbytes : (n + m) * bytes ≤ 140737488355328) (hbase : base ≤ w.heap.size) (hm : 0 < m) :
    ∃ v' w', (Builtin.append_ #[t, t] ty #[v, .slice (some a) m c]).run P w = .ok v' w' ∧ w'.ownsRow base e size v' (n + m) (xs ++ news) ∧ w.grownBy w' v.ownBlock ∧ (v'.ownBlock = v.ownBlock ∨ v'.ownBlock = some w.heap.size) := by
  obtain ⟨v', w', hr, ho, hg, _⟩ := run_append_own (P := P) w base t ty e i z size bytes ht hi hz hsize hby hzs hsz v n xs hown a m c news hl hnews h1 h63 hbytes hbase
  refine ⟨v', w', hr, ho, hg, ?_⟩
  subst hsize
  subst hby
  have h63' : n + m ≤ 9223372036854775807 := by simp only [maxLen] at h63; omega
  rcases hown.2 with ⟨rfl, rfl⟩ | ⟨g, cap, cur, rfl, hbg, hgg, hnc, hcm, hcs, htake⟩
  · have h := Go.run_append_nil (P := P) w t ty e i z ht hi hz a m c news hl hnews hm (by omega) (by simp only [Nat.zero_add] at hbytes; omega)
    rw [hr] at h
    injection h with h _
    right
    rw [h]
    rfl
  · by_cases hroom : n + m ≤ cap
    · have hfit : n * i.size + news.length ≤ cur.size := by rw [hl, hcs, ← Nat.add_mul]; exact Nat.mul_le_mul_right _ hroom
      have h := run_append_room (P := P) w t ty e i ht hi g n cap cur hgg a m c news hl hnews h1 hroom hfit
      rw [hr] at h
      injection h with h _
      left
      rw [h]
      rfl
    · have holds : ∀ j u, xs[j]? = some u → w.cell? ((⟨g, 0, none⟩ : Addr).add j) = some u := hown.cells (g := g) rfl
      have h := run_append_grow (P := P) w t ty e i z ht hi hz ⟨g, 0, none⟩ n cap xs hown.1 holds a m c news hl hnews (by omega) (by omega) (growslice_fits (by omega) hbytes)
      rw [hr] at h
      injection h with h _
      right
      rw [h]
      rfl
theorem wp_append_apart {P : Program} (w : World) {o : Oper} {a : Act} {K : Act → World → Prop} {Q : Exit → Act → World → Prop} (s x : Operand) (t : TypeId)
    (ho : o.op = .call { callee := .builtin .append, args := #[s, x], argTypes := #[t, t] })
    (base : Nat) (e : TypeId) (i : TypeInfo) (z : Value) (size bytes : Nat) (ht : P.underlying t = some (.slice e)) (hi : P.info? e = some i) (hz : i.zero = some z)
    (hsize : i.size = size) (hby : i.bytes = bytes) (hzs : z.cells.size = size) (hsz : 0 < size)
    (v : Value) (n : Nat) (xs : List Value) (hs : a.eval s = v) (hown : w.ownsRow base e size v n xs)
    (ad : Addr) (m c : Nat) (news : List Value) (hx : a.eval x = .slice (some ad) m c) (hl : news.length = m * size) (hnews : ∀ j u, news[j]? = some u → w.cell? (ad.add j) = some u) (h1 : ∀ u ∈ news, u.oneCell' = true)
    (h63 : n + m ≤ maxLen) (hbytes : (n + m) * bytes ≤ 140737488355328) (hbase : base ≤ w.heap.size) (hm : 0 < m)
    (h : ∀ v' w', w'.ownsRow base e size v' (n + m) (xs ++ news) → w.grownBy w' v.ownBlock → (v'.ownBlock = v.ownBlock ∨ v'.ownBlock = some w.heap.size) → K (a.put o.dst v') w') : o.wp P a w K Q := by
  obtain ⟨v', w', hr, h2, h3, h4⟩ := run_append_apart (P := P) w base t o.type e i z size bytes ht hi hz hsize hby hzs hsz v n xs hown ad m c news hl hnews h1 h63 hbytes hbase hm
  unfold Oper.wp execOp
  simp only [ho, resolve, invoke, builtin, Sem.run_bind, Sem.run_pure, Result.andThen_ok, List.map_toArray, List.map_cons, List.map_nil, hs, hx, hr]
  exact h v' w' h2 h3 h4
/-- Records in a row of the call's own, by their texts. -/
def txC (ol : List (ByteArray × Int × ByteArray)) : List Value := ol.flatMap fun p => outC p.1 p.2.2 p.2.1
theorem txC_snoc (ol : List (ByteArray × Int × ByteArray)) (p : ByteArray × Int × ByteArray) : txC (ol ++ [p]) = txC ol ++ outC p.1 p.2.2 p.2.1 := by simp [txC]
/-- The topics' rows: those that block g holds. -/
structure TopR (lo nt g : Nat) (vs : List Value) (R : Nat → List ByteArray) (w : World) : Prop where
  b : Blk w g vs.toArray 78
  l : vs.length = nt + 1
  lg : lo ≤ g
  r : ∀ (n : Nat) v, vs[n]? = some v → ∃ ol : List (ByteArray × Int × ByteArray), ol.map (·.2.2) = R n ∧ w.ownsRow lo 82 3 v ol.length (txC ol)
  a : ∀ (i j : Nat) v u, vs[i]? = some v → vs[j]? = some u → i ≠ j → ∀ b, v.ownBlock = some b → u.ownBlock ≠ some b
theorem TopR.ext {lo nt g : Nat} {vs : List Value} {R : Nat → List ByteArray} {w w' : World} (h : TopR lo nt g vs R w) (hb : Below w.heap.size w w') : TopR lo nt g vs R w' :=
  ⟨h.b.ext hb, h.l, h.lg, fun n v hv => by obtain ⟨ol, h1, h2⟩ := h.r n v hv; exact ⟨ol, h1, own_below h2 hb⟩, h.a⟩
theorem TopR.start {lo nt g : Nat} {w : World} (hb : Blk w g (List.replicate (nt + 1) (Value.slice none 0 0)).toArray 78) (hl : lo ≤ g) : TopR lo nt g (List.replicate (nt + 1) (Value.slice none 0 0)) (fun _ => []) w := by
  have hnil : ∀ (n : Nat) v, (List.replicate (nt + 1) (Value.slice none 0 0))[n]? = some v → v = .slice none 0 0 := fun n v hv => by
    rw [List.getElem?_replicate] at hv
    split at hv
    · exact (Option.some.inj hv).symm
    · cases hv
  refine ⟨hb, by simp, hl, fun n v hv => ⟨[], rfl, ?_⟩, fun i j v u hv hu _ b hvb => ?_⟩
  · obtain rfl := hnil n v hv
    exact World.ownsRow_nil _ _ _ _
  · obtain rfl := hnil i v hv
    cases hvb
theorem TopR.congr {lo nt g : Nat} {vs : List Value} {R R' : Nat → List ByteArray} {w : World} (h : TopR lo nt g vs R w) (e : ∀ n, n < nt + 1 → R n = R' n) : TopR lo nt g vs R' w :=
  ⟨h.b, h.l, h.lg, fun n v hv => by
    obtain ⟨ol, h1, h2⟩ := h.r n v hv
    exact ⟨ol, h1.trans (e n (by have := (List.getElem?_eq_some_iff.1 hv).1; have := h.l; omega)), h2⟩, h.a⟩
/-- A record is put behind topic n's. -/
theorem TopR.add {lo nt g n : Nat} {vs : List Value} {R : Nat → List ByteArray} {w w1 : World} {v v' : Value} {ol : List (ByteArray × Int × ByteArray)} {p : ByteArray × Int × ByteArray} (h : TopR lo nt g vs R w) (hv : vs[n]? = some v) (hol : ol.map (·.2.2) = R n) (ho : w.ownsRow lo 82 3 v ol.length (txC ol)) (ho' : w1.ownsRow lo 82 3 v' (ol.length + 1) (txC ol ++ outC p.1 p.2.2 p.2.1)) (hg : w.grownBy w1 v.ownBlock) (hap : v'.ownBlock = v.ownBlock ∨ v'.ownBlock = some w.heap.size) :
    TopR lo nt g (vs.set n v') (fun m => if m = n then R m ++ [p.2.2] else R m) (putBlk w1 g (vs.set n v').toArray 78) := by
  have hg1 : Blk w1 g vs.toArray 78 := h.b.grown ho (by decide) hg
  have hlt := (List.getElem?_eq_some_iff.1 hv).1
  have keep : ∀ {x : Value} {k : Nat} {xs : List Value}, w1.ownsRow lo 82 3 x k xs → (putBlk w1 g (vs.set n v').toArray 78).ownsRow lo 82 3 x k xs := fun {x k xs} hx => by
    have e1 := putBlk_self hg1
    have hx' : (putBlk w1 g vs.toArray 78).ownsRow lo 82 3 x k xs := by rw [e1]; exact hx
    exact own_put hx' hg1.lt (by decide) _
  refine ⟨putBlk_blk _ _ hg1.lt, by rw [List.length_set]; exact h.l, h.lg, fun m u hu => ?_, fun i j x y hx hy hij b hxb => ?_⟩
  · by_cases e : m = n
    · subst e
      rw [List.getElem?_set_self hlt] at hu
      obtain rfl := Option.some.inj hu
      refine ⟨ol ++ [p], by rw [if_pos rfl, List.map_append, hol]; rfl, ?_⟩
      rw [List.length_append, txC_snoc]
      exact keep ho'
    · rw [List.getElem?_set_ne (fun e' => e e'.symm)] at hu
      obtain ⟨ol2, h1, h2⟩ := h.r m u hu
      refine ⟨ol2, by rw [if_neg e]; exact h1, keep (own_grown h2 hg ?_)⟩
      cases hvb : v.ownBlock with
      | none => exact Or.inl rfl
      | some b => exact Or.inr (h.a n m v u hv hu (fun e' => e e'.symm) b hvb)
  · have old : ∀ (k : Nat) z, vs[k]? = some z → ∀ b, z.ownBlock = some b → b < w.heap.size := fun k z hz b hb => by
      obtain ⟨ol2, _, h2⟩ := h.r k z hz
      exact (h2.lt b hb).2
    have hnew : ∀ (k : Nat) z, k ≠ n → vs[k]? = some z → ∀ b, z.ownBlock = some b → v'.ownBlock ≠ some b := fun k z hk hz b hb e => by
      rcases hap with hap | hap
      · rw [hap] at e
        exact h.a n k v z hv hz (fun e' => hk e'.symm) b e hb
      · rw [hap] at e
        have := old k z hz b hb
        simp only [Option.some.injEq] at e
        omega
    by_cases ei : i = n
    · subst ei
      rw [List.getElem?_set_self hlt] at hx
      obtain rfl := Option.some.inj hx
      rw [List.getElem?_set_ne hij] at hy
      intro e
      exact hnew j y (fun e' => hij e'.symm) hy b e hxb
    · rw [List.getElem?_set_ne (fun e' => ei e'.symm)] at hx
      by_cases ej : j = n
      · subst ej
        rw [List.getElem?_set_self hlt] at hy
        obtain rfl := Option.some.inj hy
        exact hnew i x ei hx b hxb
      · rw [List.getElem?_set_ne (fun e' => ej e'.symm)] at hy
        exact h.a i j x y hx hy hij b hxb
end Go.Proofs.YtkfhfegogmlchaaDoor

/- A law for drawn regions in which operations choose: a ghost tells what was chosen (a call's results, a block's number), and what is known of each operation's value may speak of it. -/
namespace Go.Proofs.YtkfhfegogmlchaaDoor
open Go.RowKit

/-- One operation, s, may turn the world by TS; all others let what lies there be. -/
def SR (s : Nat) (TS : World → World → Prop) (i : Nat) (w w' : World) : Prop := if i = s then TS w w' else Below w.heap.size w w'
theorem SR.low {s : Nat} {TS : World → World → Prop} {i : Nat} {w w' : World} (hi : i ≠ s) (h : Below w.heap.size w w') : SR s TS i w w' := by unfold SR; rw [if_neg hi]; exact h
theorem SR.put {s : Nat} {TS : World → World → Prop} {w w' : World} (h : TS w w') : SR s TS s w w' := by unfold SR; rw [if_pos rfl]; exact h
def GBody {Γ : Type} (P : Program) (ops : Array Oper) (Q : Exit → Act → World → Prop) (mask : List Bool) (L : List Value) (df : List Deferred) (T : Nat → World → World → Prop) (ps : Γ → List Known) (R : Nat → Γ → Γ → Prop) (γ : Γ) (w : World) (i d : Nat) (o : Oper) (x : Nat → Value) : Prop :=
  ∀ K' : Act → World → Prop, Shut (∀ v w' γ', T i w w' → R i γ γ' → ((ps γ').getD i kAny).holds v w' → K' ⟨(overlay (upd x d v) 0 mask L).toArray, df⟩ w') →
    if Region.wanted o (yielded ops (overlay x 0 mask L).toArray) = true then Oper.wp P o ⟨(overlay x 0 mask L).toArray, df⟩ w K' Q else K' (Act.put ⟨(overlay x 0 mask L).toArray, df⟩ o.dst undef) w
def StepsG {Γ : Type} (P : Program) (ops : Array Oper) (Q : Exit → Act → World → Prop) (mask : List Bool) (L : List Value) (df : List Deferred) (T : Nat → World → World → Prop) (T0 : World → Prop) (ps : Γ → List Known) (R : Nat → Γ → Γ → Prop) (dst : Nat → Nat) : Nat → List Oper → Prop
  | _, [] => True
  | i, o :: os => (∀ γ x w, T0 w → StepGoal (ps γ) dst w (GBody P ops Q mask L df T ps R γ w i (dst i) o) (depsOf o) x) ∧ StepsG P ops Q mask L df T T0 ps R dst (i + 1) os
theorem StepsG.at_ {Γ : Type} {P : Program} {ops : Array Oper} {Q : Exit → Act → World → Prop} {mask : List Bool} {L : List Value} {df : List Deferred} {T : Nat → World → World → Prop} {T0 : World → Prop} {ps : Γ → List Known} {R : Nat → Γ → Γ → Prop} {dst : Nat → Nat} :
    ∀ (os : List Oper) (n i : Nat) (o : Oper), StepsG P ops Q mask L df T T0 ps R dst n os → os[i]? = some o → ∀ γ x w, T0 w → StepGoal (ps γ) dst w (GBody P ops Q mask L df T ps R γ w (n + i) (dst (n + i)) o) (depsOf o) x
  | [], _, _, _, _, h => by simp at h
  | o' :: os, n, 0, o, hs, h => by
    simp only [List.getElem?_cons_zero, Option.some.injEq] at h
    subst h
    exact hs.1
  | o' :: os, n, i + 1, o, hs, h => by
    have := StepsG.at_ os (n + 1) i o hs.2 (by simpa using h)
    rw [show n + 1 + i = n + (i + 1) by omega] at this
    exact this
/-- Each operation that hangs on i's choice waits for it. -/
def ghostB (ops : Array Oper) (dep : List (List Nat)) : Bool := (List.range ops.size).all fun i => (dep.getD i []).all fun j => match ops[j]? with
  | some o => (depsOf o).any fun q => q == i || (dep.getD i []).contains q
  | none => false
theorem region_ghost {Γ : Type} {P : Program} {id : Nat} {ops : Array Oper} {Q : Exit → Act → World → Prop} {L : List Value} {df : List Deferred} {w0 : World} (s : Nat) (TS : World → World → Prop) (T0 : World → Prop) (γ0 : Γ) (ps : Γ → List Known) (R : Nat → Γ → Γ → Prop) (dep : List (List Nat)) (mask : List Bool) (dsts : List Nat) (fin : List Nat)
    (hT0 : T0 w0.drew) (hTb : ∀ w w', T0 w → Below w.heap.size w w' → T0 w') (hTs : ∀ w w', T0 w → TS w w' → T0 w') (hTk : ∀ γ j, j ≠ s → ∀ v w w', T0 w → TS w w' → ((ps γ).getD j kAny).holds v w → ((ps γ).getD j kAny).holds v w') (hR : ∀ i γ γ', R i γ γ' → ∀ j, (dep.getD i []).contains j = false → j ≠ i → (ps γ').getD j kAny = (ps γ).getD j kAny)
    (hm : P.follows .mixedOrders = true) (hb : backB ops = true) (hg : ghostB ops dep = true) (hdl : dsts = (List.range ops.size).map (dstN ops)) (hd : distB ops = true) (hfin : fin.all (fun j => decide (j < ops.size)) = true)
    (hs : StepsG P ops Q mask L df (SR s TS) T0 ps R (fun i => dsts.getD i 0) 0 ops.toList)
    (hdone : ∀ γ x w, T0 w → StepGoal (ps γ) (fun i => dsts.getD i 0) w (fun x => Q .normal ⟨(overlay x 0 mask L).toArray, df⟩ w) fin x) :
    (Code.region id ops true).wp P Q ⟨L.toArray, df⟩ w0 := by
  have hKT : ∀ γ i j v w w', T0 w → SR s TS i w w' → j ≠ i → ((ps γ).getD j kAny).holds v w → ((ps γ).getD j kAny).holds v w' := by
    intro γ i j v w w' h0 hst hji hh
    unfold SR at hst
    split at hst
    · next e => exact hTk γ j (fun e' => hji (e'.trans e.symm)) v w w' h0 hst hh
    · exact Known.ext hh hst
  have hT' : ∀ i w w', T0 w → SR s TS i w w' → T0 w' := by
    intro i w w' h0 hst
    unfold SR at hst
    split at hst
    · exact hTs w w' h0 hst
    · exact hTb w w' h0 hst
  have hdg : ∀ i, i < ops.size → dsts.getD i 0 = dstN ops i := by
    intro i hi
    rw [hdl, List.getD_eq_getElem?_getD, List.getElem?_map, List.getElem?_range hi]
    rfl
  have hgh : ∀ i j, i < ops.size → (dep.getD i []).contains j = true → ∃ o, ops[j]? = some o ∧ ∃ e ∈ o.after, Region.binds .any e = true ∧ (e.on = i ∨ (dep.getD i []).contains e.on = true) := by
    intro i j hi hj
    have h1 := List.all_eq_true.1 (List.all_eq_true.1 hg i (List.mem_range.2 hi)) j (by simpa using hj)
    cases ho : ops[j]? with
    | none => rw [ho] at h1; cases h1
    | some o =>
      rw [ho] at h1
      obtain ⟨q, hq, h2⟩ := List.any_eq_true.1 h1
      obtain ⟨e, he, hbd, he2⟩ := mem_deps (List.contains_iff_mem.2 hq)
      subst he2
      refine ⟨o, rfl, e, he, hbd, ?_⟩
      simpa using h2
  refine wp_region_any hm (wpAny_inv (fun listed a w => ∃ (x : Nat → Value) (γ : Γ), a = ⟨(overlay x 0 mask L).toArray, df⟩ ∧ T0 w ∧ (∀ i, i < ops.size → listed.getD i false = true → ((ps γ).getD i kAny).holds (x (dsts.getD i 0)) w) ∧ ∀ i j, i < ops.size → (dep.getD i []).contains j = true → listed.getD j false = true → listed.getD i false = true) ?_ ?_ _ _ _ _ (by simp) (by simp) ?_)
  · rintro listed a w i hsz ⟨x, γ, rfl, hbw, hk, hdp⟩ hi
    obtain ⟨hun, o, ho, hall⟩ := mem_ready.1 hi
    have his : i < ops.size := (Array.getElem?_eq_some_iff.1 ho).1
    have hun' : listed.getD i false = false := by
      rw [Array.getD_eq_getD_getElem?] at hun ⊢
      rw [Array.getElem?_eq_getElem (by omega)] at hun ⊢
      exact hun
    have hset : ∀ j, j ≠ i → (listed.setIfInBounds i true).getD j false = listed.getD j false := by
      intro j hji
      rw [Array.getD_eq_getD_getElem?, Array.getD_eq_getD_getElem?, Array.getElem?_setIfInBounds_ne (Ne.symm hji)]
    have hself : (listed.setIfInBounds i true).getD i false = true := by
      rw [Array.getD_eq_getD_getElem?, Array.getElem?_setIfInBounds_self_of_lt (by omega)]
      rfl
    have hst := StepsG.at_ ops.toList 0 i o hs (by rw [Array.getElem?_toList]; exact ho) γ x w hbw
    rw [Nat.zero_add] at hst
    have hbd := StepGoal.use (depsOf o) x (fun j hj => by
      obtain ⟨e, he, rfl⟩ := List.mem_map.1 hj
      obtain ⟨he1, he2⟩ := List.mem_filter.1 he
      have hl := hall e (by simpa using he1) he2
      refine hk e.on ?_ hl
      rcases Nat.lt_or_ge e.on listed.size with h' | h'
      · omega
      · rw [Array.getD_eq_getD_getElem?, Array.getElem?_eq_none h'] at hl; cases hl) hst
    refine wpOp_step ho (fun K' hK => hbd K' (fun v w' γ' hb' hR' hv => hK _ _ ⟨upd x (dsts.getD i 0) v, γ', rfl, hT' i _ _ hbw hb', fun j hj hlj => ?_, fun p q hp hq hlq => ?_⟩))
    · by_cases hji : j = i
      · subst hji; rw [upd_eq]; exact hv
      · have hne : dsts.getD j 0 ≠ dsts.getD i 0 := by
          rw [hdg j hj, hdg i his]
          have h1 := List.all_eq_true.1 (List.all_eq_true.1 hd j (List.mem_range.2 hj)) i (List.mem_range.2 his)
          simpa [hji] using h1
        rw [upd_ne hne]
        rw [hset j hji] at hlj
        have hnd : (dep.getD i []).contains j = false := by
          cases hc : (dep.getD i []).contains j with
          | false => rfl
          | true =>
            have := hdp i j his hc hlj
            rw [hun'] at this
            cases this
        rw [hR i γ γ' hR' j hnd hji]
        exact hKT γ i j _ _ _ hbw hb' hji (hk j hj hlj)
    · by_cases hqi : q = i
      · subst hqi
        obtain ⟨o2, ho2, e, he, hbde, hor⟩ := hgh p q hp hq
        rw [ho] at ho2
        cases ho2
        have hle := hall e he hbde
        have hlp : listed.getD p false = true := by
          rcases hor with h | h
          · rw [← h]; exact hle
          · exact hdp p e.on hp h hle
        by_cases hpi : p = q
        · subst hpi; exact hself
        · rw [hset p hpi]; exact hlp
      · rw [hset q hqi] at hlq
        have hlp := hdp p q hp hq hlq
        by_cases hpi : p = i
        · subst hpi; exact hself
        · rw [hset p hpi]; exact hlp
  · rintro listed a w hsz ⟨x, γ, rfl, hbw, hk, _⟩ hr
    have hal := all_listed hb hsz hr
    exact StepGoal.use fin x (fun j hj => by
      have hjs : j < ops.size := of_decide_eq_true (List.all_eq_true.1 hfin j hj)
      exact hk j hjs (hal (j + 1) j (by omega) hjs)) (hdone γ x w hbw)
  · refine ⟨fun j => L.getD j undef, γ0, ?_, hT0, fun i hi h => ?_, fun i j _ _ h => ?_⟩
    · have := overlay_self L [] mask
      rw [List.nil_append, List.length_nil] at this
      rw [this]
    · rw [Array.getD_eq_getD_getElem?] at h
      simp [hi] at h
    · rw [Array.getD_eq_getD_getElem?] at h
      rcases Nat.lt_or_ge j ops.size with hlt | hge
      · simp [hlt] at h
      · rw [Array.getElem?_eq_none (by simpa using hge)] at h; cases h
end Go.Proofs.YtkfhfegogmlchaaDoor

/- The topics of some transactions: made. -/
namespace Go.Proofs.YtkfhfegogmlchaaDoor
open Go.RowKit

def kTopS (lo nt : Nat) : Known := .mem (fun v w => ∃ g, v = .slice (some ⟨g, 0, none⟩) (nt + 1) (nt + 1) ∧ lo ≤ g ∧ Blk w g (Array.replicate (nt + 1) (Value.slice none 0 0)) 78) (fun _ _ _ ⟨g, h, l, h1⟩ hb => ⟨g, h, l, h1.ext hb⟩)
def kAtS (lo nt : Nat) : Known := .mem (fun v w => ∃ g, v = .slice (some ⟨g, 0, none⟩) (nt + 1) (nt + 1) ∧ lo ≤ g ∧ Blk w g (Array.replicate (nt + 1) (Value.int .i64 0)) 3) (fun _ _ _ ⟨g, h, l, h1⟩ hb => ⟨g, h, l, h1.ext hb⟩)
def kTopA (lo nt : Nat) : Known := .mem (fun v w => ∃ g h, v = .agg #[.slice (some ⟨g, 0, none⟩) (nt + 1) (nt + 1), .slice (some ⟨h, 0, none⟩) (nt + 1) (nt + 1)] ∧ (lo ≤ g ∧ lo ≤ h) ∧ Blk w g (Array.replicate (nt + 1) (Value.slice none 0 0)) 78 ∧ Blk w h (Array.replicate (nt + 1) (Value.int .i64 0)) 3) (fun _ _ _ ⟨g, h, e, l, h1, h2⟩ hb => ⟨g, h, e, l, h1.ext hb, h2.ext hb⟩)
def kTopP (lo : Nat) : Known := .mem (fun v w => ∃ g, v = .pointer (some ⟨g, 0, none⟩) ∧ lo ≤ g ∧ Blk w g #[.slice none 0 0, .slice none 0 0] 39) (fun _ _ _ ⟨g, h, l, h1⟩ hb => ⟨g, h, l, h1.ext hb⟩)
theorem info_OutS : (Tryd.prog.info? 78).map (fun i => (i.zero, i.size, i.bytes)) = some (some (.slice none 0 0), 1, 24) := by kernel_rfl
theorem madeT_run (n : Nat) (hn : n ≤ 1000) (W : World) : (Instr.makeSlice 36 (.int .i64 n) (.int .i64 n)).run Tryd.prog W = .ok (.slice (some ⟨W.heap.size, 0, none⟩) n n) (W.alloc (.cells (Array.replicate n (Value.slice none 0 0)) 78)) := by
  obtain ⟨i3, hi3, hy0, hy1, hy2⟩ := info_parts info_OutS
  refine (run_makeSlice W 36 78 i3 _ Tryd.underlying36 hi3 hy0 .i64 .i64 n n (by omega) (by omega) (by rw [hy1]; omega) (by rw [hy2]; omega) (by omega)).trans ?_
  rw [hy1, show (n : Int).toNat = n by omega, made_cells1 _ rfl]
/-- What does not turn while records are put. -/
structure MadeS (ts : List Ta) (A : Option Addr) (c nt lo S RB TL g h TB : Nat) (w wr : World) : Prop where
  s : Blk wr S #[.slice A nt c] 24
  rb : Blk wr RB #[.slice none 0 0, .slice none 0 0] 39
  tl : Blk wr TL #[.slice (some ⟨g, 0, none⟩) (nt + 1) (nt + 1), .slice (some ⟨h, 0, none⟩) (nt + 1) (nt + 1)] 39
  h : Blk wr h (Array.replicate (nt + 1) (Value.int .i64 0)) 3
  t : ∃ cs, Blk wr TB cs 9 ∧ cs.size = nt + 1 ∧ ∀ i, i ≤ nt → cs[i]? = some (.string (topAt ts i))
  b : Below lo w wr
theorem MadeS.ext {ts : List Ta} {A : Option Addr} {c nt lo S RB TL g h TB : Nat} {w wr w' : World} (hm : MadeS ts A c nt lo S RB TL g h TB w wr) (hb : Below wr.heap.size wr w') (hl : lo ≤ wr.heap.size) : MadeS ts A c nt lo S RB TL g h TB w w' := by
  obtain ⟨cs, t1, t2⟩ := hm.t
  exact ⟨hm.s.ext hb, hm.rb.ext hb, hm.tl.ext hb, hm.h.ext hb, ⟨cs, t1.ext hb, t2⟩, hm.b.trans (hb.mono hl)⟩
theorem MadeS.kp {ts : List Ta} {A : Option Addr} {c nt lo S RB TL g h TB : Nat} {w wr w' : World} {vs : Array Value} (hm : MadeS ts A c nt lo S RB TL g h TB w wr) (hk : Kp [g] 82 wr w') (hg : Blk wr g vs 78) (hb : Below lo w w') : MadeS ts A c nt lo S RB TL g h TB w w' := by
  have key : ∀ {b : Nat} {cs : Array Value} {u : TypeId}, Blk wr b cs u → u ≠ 78 → u ≠ 82 → Blk w' b cs u := fun {b cs u} h1 h2 h3 =>
    hk.blk h1 (fun hm => by obtain rfl := List.mem_singleton.1 hm; exact blk_apart h1 hg h2 rfl) h3
  obtain ⟨cs, t1, t2⟩ := hm.t
  exact ⟨key hm.s (by decide) (by decide), key hm.rb (by decide) (by decide), key hm.tl (by decide) (by decide), key hm.h (by decide) (by decide), ⟨cs, key t1 (by decide) (by decide), t2⟩, hb⟩
def mostN (ls : List (List Ch)) : Nat := ls.foldl (fun m l => max m l.length) 0
theorem mostN_snoc (ls : List (List Ch)) (l : List Ch) : mostN (ls ++ [l]) = max (mostN ls) l.length := by simp [mostN]
theorem mostN_le {ls : List (List Ch)} : ∀ l ∈ ls, l.length ≤ mostN ls := by
  have key : ∀ r : List (List Ch), ∀ l ∈ r.reverse, l.length ≤ mostN r.reverse := by
    intro r
    induction r with
    | nil => intro l hl; simp at hl
    | cons x r ih =>
      intro l hl
      rw [List.reverse_cons, mostN_snoc]
      rw [List.reverse_cons] at hl
      rcases List.mem_append.1 hl with hl | hl
      · have := ih l hl
        omega
      · obtain rfl := List.mem_singleton.1 hl
        omega
  intro l hl
  have := key ls.reverse l (by simpa using hl)
  simpa using this
def MadeP (nt : Nat) (first : Int) (ls : List (List Ch)) (w : World) (r : Ending) (w' : World) : Prop :=
  Below w.heap.size w w' ∧ ((∃ A1 n1 c1 A2 n2 c2, r = .returned (.tuple #[.agg #[.slice A1 n1 c1, .slice A2 n2 c2], .int .i64 0, .bool false])) ∨
  ((∀ l ∈ ls, okC nt l ∧ l.length ≤ 200) ∧ ∃ (g h : Nat) (vs : List Value) (R : Nat → List ByteArray), r = .returned (.tuple #[.agg #[.slice (some ⟨g, 0, none⟩) (nt + 1) (nt + 1), .slice (some ⟨h, 0, none⟩) (nt + 1) (nt + 1)], .int .i64 (mostN ls), .bool true]) ∧ TopR w.heap.size nt g vs R w' ∧ MadeR nt first ls ls.length R ∧ w.heap.size ≤ h ∧ Blk w' h (Array.replicate (nt + 1) (Value.int .i64 0)) 3))
theorem nodup_at {α : Type} {l : List α} (h : l.Nodup) {i j : Nat} {a : α} (hi : l[i]? = some a) (hj : l[j]? = some a) : i = j := by
  obtain ⟨h1, e1⟩ := List.getElem?_eq_some_iff.1 hi
  obtain ⟨h2, e2⟩ := List.getElem?_eq_some_iff.1 hj
  have hp := List.pairwise_iff_getElem.1 h
  rcases Nat.lt_trichotomy i j with hlt | heq | hlt
  · exact absurd (e1.trans e2.symm) (hp i j h1 h2 hlt)
  · exact heq
  · exact absurd (e2.trans e1.symm) (hp j i h2 h1 hlt)
theorem topAt_inj {ts : List Ta} (h : schB ts = true) {i j : Nat} (hi : i ≤ ts.length) (hj : j ≤ ts.length) (e : topAt ts i = topAt ts j) : i = j := by
  have hnd : (ts.map (·.nm)).Nodup := by
    unfold schB namedB at h
    simp only [Bool.and_eq_true, decide_eq_true_eq] at h
    exact h.2.2.2
  have hl : ∀ (k : Nat) (t : Ta), ts[k]? = some t → (topAt ts (k + 1)).data.toList = 116 :: 45 :: t.nm.data.toList := by
    intro k t hk
    show (match ts[k]? with | some t => tS ++ t.nm | none => ByteArray.empty).data.toList = _
    rw [hk]
    show (tS ++ t.nm).data.toList = _
    rw [ByteArray.data_append, Array.toList_append]
    rfl
  have h0 : (topAt ts 0).data.toList = [109, 97, 114, 107, 115] := rfl
  have at_ : ∀ k, k < ts.length → ∃ t, ts[k]? = some t := fun k hk => ⟨_, List.getElem?_eq_getElem hk⟩
  cases i with
  | zero =>
    cases j with
    | zero => rfl
    | succ j =>
      obtain ⟨t, ht⟩ := at_ j (by omega)
      have h1 := hl j t ht
      rw [← e, h0] at h1
      cases h1
  | succ i =>
    cases j with
    | zero =>
      obtain ⟨t, ht⟩ := at_ i (by omega)
      have h1 := hl i t ht
      rw [e, h0] at h1
      cases h1
    | succ j =>
      obtain ⟨t, ht⟩ := at_ i (by omega)
      obtain ⟨u, hu⟩ := at_ j (by omega)
      have h1 := hl i t ht
      have h2 := hl j u hu
      rw [e, h2] at h1
      have h3 : u.nm = t.nm := str_inj (by simpa using h1)
      have e1 : (ts.map (·.nm))[i]? = some t.nm := by rw [List.getElem?_map, ht]; rfl
      have e2 : (ts.map (·.nm))[j]? = some t.nm := by rw [List.getElem?_map, hu, ← h3]; rfl
      rw [nodup_at hnd e1 e2]
/-- What a round's records come to. -/
def OfQ (ts : List Ta) (nt lo : Nat) (tx mk M : Int) (l : List Ch) (sv pv : Value) (e : Int) (w' : World) : Prop :=
  (∃ (a : Int) (D : Option Addr) (n c : Nat), pv = .agg #[.int .u64 a, .slice D n c]) ∧ ((e ≠ 0 ∧ ¬ (okC nt l ∧ l.length ≤ 200)) ∨ (e = 0 ∧ okC nt l ∧ l.length ≤ 200 ∧ ∃ (G : Nat) (s1 s2 : List Int) (ol : List (Nat × ByteArray × Int)), pv = .agg #[.int .u64 (mk + 2), .slice (some ⟨G, 0, none⟩) nt nt] ∧ w'.ownsRow lo 82 3 sv ol.length (outsC ts ol) ∧ olR ol = outOf nt tx l s1 s2 ∧ sqOk nt s1 ∧ sqOk nt s2 ∧ Blk w' G (s2.map (Value.int .u64)).toArray 29 ∧ sqLe (M + l.length) s2))
theorem OfP.q {ts : List Ta} {nt : Nat} {tx mk M : Int} {l : List Ch} {w w' : World} {r : Ending} (h : OfP ts nt tx mk M l w r w') : ∃ sv pv e, r = .returned (.tuple #[sv, pv, .int .i64 e]) ∧ OfQ ts nt w.heap.size tx mk M l sv pv e w' ∧ Below w.heap.size w w' := by
  rcases h with ⟨e, h1, h2, h3, h4⟩ | ⟨h1, h2, sv, G, s1, s2, ol, h3, h4, h5, h6, h7, h8, h9, h10⟩
  · exact ⟨_, _, e, h2, ⟨⟨_, _, _, _, rfl⟩, Or.inl ⟨h1, h3⟩⟩, h4⟩
  · exact ⟨_, _, 0, h3, ⟨⟨_, _, _, _, rfl⟩, Or.inr ⟨rfl, h1, h2, G, s1, s2, ol, rfl, h4, h5, h6, h7, h8, h9⟩⟩, h10⟩
theorem own_kp {S : List Nat} {t e lo sz n : Nat} {v : Value} {xs : List Value} {w w' : World} (h : w.ownsRow lo e sz v n xs) (hk : Kp S t w w') (hne : e ≠ t) (hS : ∀ b, v.ownBlock = some b → b ∉ S) : w'.ownsRow lo e sz v n xs := by
  refine ⟨h.1, ?_⟩
  rcases h.2 with h0 | ⟨g, cap, cur, rfl, hlo, hh, h3⟩
  · exact Or.inl h0
  · refine Or.inr ⟨g, cap, cur, rfl, hlo, ?_, h3⟩
    have hlt : g < w.heap.size := by
      rcases Nat.lt_or_ge g w.heap.size with h' | h'
      · exact h'
      · rw [Array.getElem?_eq_none h'] at hh; cases hh
    exact (hk.2 g hlt (hS g rfl) (fun cs f e' => by
      rw [hh] at e'
      simp only [Option.some.injEq, Obj.cells.injEq] at e'
      exact hne e'.2.1)).trans hh
/-- Blocks ahead of B stay; but for places all stay, and a place's block stays one. -/
def TP (B : Nat) (w w' : World) : Prop := Below B w w' ∧ Kp [] 32 w w' ∧ ∀ b cs, Blk w b cs 32 → cs.size = 2 → ∃ cs', cs'.size = 2 ∧ Blk w' b cs' 32
theorem TP.trans {B : Nat} {a b c : World} (h : TP B a b) (k : TP B b c) : TP B a c :=
  ⟨h.1.trans k.1, h.2.1.trans k.2.1 (fun _ h => h), fun x cs hx hs => by obtain ⟨cs1, h1, h2⟩ := h.2.2 x cs hx hs; exact k.2.2 x cs1 h2 h1⟩
theorem TP.of_below {B : Nat} {w w' : World} (hb : Below w.heap.size w w') (hl : B ≤ w.heap.size) : TP B w w' :=
  ⟨hb.mono hl, Kp.of_below hb, fun _ cs hx hs => ⟨cs, hs, hx.ext hb⟩⟩
theorem Kp.put_same {t : TypeId} {w : World} {b : Nat} {cs ds : Array Value} (hb : Blk w b cs t) : Kp [] t w (putBlk w b ds t) :=
  ⟨by rw [putBlk_size]; exact Nat.le_refl _, fun g _ _ ht => by
    have hne : b ≠ g := fun e => by subst e; exact ht cs (0, 0) hb
    unfold putBlk
    simp only
    rw [Array.getElem?_setIfInBounds_ne hne]⟩
theorem TP.put {B b : Nat} {w : World} {cs ds : Array Value} (hb : Blk w b cs 32) (hl : B ≤ b) (hs : ds.size = 2) : TP B w (putBlk w b ds 32) :=
  ⟨putBlk_below _ _ (Below.refl B w) hl, Kp.put_same hb, fun x cs' hx hs' => by
    by_cases e : x = b
    · subst e; exact ⟨ds, hs, putBlk_blk _ _ hb.lt⟩
    · exact ⟨cs', hs', putBlk_ne hx e⟩⟩
theorem OfQ.tp {ts : List Ta} {nt lo B : Nat} {tx mk M : Int} {l : List Ch} {sv pv : Value} {e : Int} {w w' : World} (h : OfQ ts nt lo tx mk M l sv pv e w) (hT : TP B w w') : OfQ ts nt lo tx mk M l sv pv e w' := by
  refine ⟨h.1, ?_⟩
  rcases h.2 with h0 | ⟨h1, h2, h3, G, s1, s2, ol, h4, h5, h6, h7, h8, h9, h10⟩
  · exact Or.inl h0
  · exact Or.inr ⟨h1, h2, h3, G, s1, s2, ol, h4, own_kp h5 hT.2.1 (by decide) (fun _ _ => by simp), h6, h7, h8, hT.2.1.blk h9 (by simp) (by decide), h10⟩
theorem OfQ.mono {ts : List Ta} {nt lo lo' : Nat} {tx mk M : Int} {l : List Ch} {sv pv : Value} {e : Int} {w : World} (h : OfQ ts nt lo tx mk M l sv pv e w) (hl : lo' ≤ lo) : OfQ ts nt lo' tx mk M l sv pv e w := by
  refine ⟨h.1, ?_⟩
  rcases h.2 with h0 | ⟨h1, h2, h3, G, s1, s2, ol, h4, h5, h6⟩
  · exact Or.inl h0
  · exact Or.inr ⟨h1, h2, h3, G, s1, s2, ol, h4, ⟨h5.1, by
      rcases h5.2 with h0 | ⟨g, cap, cur, e1, e2, e3⟩
      · exact Or.inl h0
      · exact Or.inr ⟨g, cap, cur, e1, Nat.le_trans hl e2, e3⟩⟩, h6⟩
/-- What was chosen: the place's block, the call's results. -/
abbrev G8 := Nat × Value × Value × Int
def kOf (ts : List Ta) (nt lo : Nat) (tx mk M : Int) (l : List Ch) (γ : G8) : Known := .mem (fun v w => v = .tuple #[γ.2.1, γ.2.2.1, .int .i64 γ.2.2.2] ∧ OfQ ts nt lo tx mk M l γ.2.1 γ.2.2.1 γ.2.2.2 w) (fun _ _ _ ⟨h1, h2⟩ hb => ⟨h1, h2.tp (TP.of_below hb (Nat.le_refl _))⟩)
def kBox (lo : Nat) (γ : G8) : Known := .mem (fun v w => v = .pointer (some ⟨γ.1, 0, none⟩) ∧ lo ≤ γ.1 ∧ ∃ cs, cs.size = 2 ∧ Blk w γ.1 cs 32) (fun _ _ _ h hb => by obtain ⟨h1, h2, cs, h3, h4⟩ := h; exact ⟨h1, h2, cs, h3, h4.ext hb⟩)
def kPut (γ : G8) : Known := .mem (fun _ w => ∃ p0 p1, γ.2.2.1 = .agg #[p0, p1] ∧ Blk w γ.1 #[p0, p1] 32) (fun _ _ _ ⟨p0, p1, h1, h2⟩ hb => ⟨p0, p1, h1, h2.ext hb⟩)
def R8 (i : Nat) (γ γ' : G8) : Prop := (i = 10 ∧ γ'.1 = γ.1) ∨ (i = 15 ∧ γ'.2 = γ.2) ∨ γ' = γ
end Go.Proofs.YtkfhfegogmlchaaDoor
