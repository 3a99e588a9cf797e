/- Texts joined by a tool: contracts and walks of this claim. -/
import Derived.Test.YtceoficoappkpaaGreatDoorB13
import Derived.ArgAppend
import Derived.DeepKeys4
import Derived.Maps.OwnSet
namespace Go.Proofs.YtceoficoappkpaaGreatDoor
open Go.Sort (SWO)

structure StI (ts : List Ta) (l : List Rw) : Prop where
 ris : Ris (plN ts) l
 fit : ∀ x ∈ l, rowS ts x.1 x.2 = true ∧ ∀ v ∈ x.2, v.wf
 few : l.length ≤ 200
theorem StI.nil (ts : List Ta) : StI ts [] := ⟨List.Pairwise.nil, by simp, by simp⟩
end Go.Proofs.YtceoficoappkpaaGreatDoor
namespace Go.Proofs.YtceoficoappkpaaGreatDoor
open Go.Sort (SWO)

noncomputable instance : DecidableEq (Nat × V) := fun _ _ => Classical.propDecidable _
end Go.Proofs.YtceoficoappkpaaGreatDoor
namespace Go.Proofs.YtceoficoappkpaaGreatDoor
open Go.RowKit
theorem DRd.form {n : Nat} {w : World} {v : Value} {d : De} (h : DRd n w v d) : ∃ (A : Option Addr) (ca : Nat) (K : Option Addr) (ck : Nat), v = .agg #[.int .i64 d.tb, .slice A d.row.length ca, .slice K d.kids.length ck] := by
 cases n with
 | zero => exact h.elim
 | succ n => obtain ⟨A, ca, K, ck, h, _⟩ := h; exact ⟨A, ca, K, ck, h⟩
def OkK (ks : List De) (k : Nat) : Prop := (∀ i x, i < k → ks[i]? = some x → fitsB x = true) ∧ (∀ i a b, i + 1 < k → ks[i]? = some a → ks[i + 1]? = some b → a.tb ≤ b.tb)
theorem OkK.step {ks : List De} {k : Nat} {x : De} (h : OkK ks k) (hx : ks[k]? = some x) (hf : fitsB x = true) (ho : ∀ j a, k = j + 1 → ks[j]? = some a → a.tb ≤ x.tb) : OkK ks (k + 1) := by
 refine ⟨fun i y hi hy => ?_, fun i a b hi ha hb => ?_⟩
 · by_cases e : i = k
   · subst e; rw [hx] at hy; cases hy; exact hf
   · exact h.1 i y (by omega) hy
 · by_cases e : i + 1 = k
   · subst e; rw [hx] at hb; cases hb; exact ho i a rfl ha
   · exact h.2 i a b (by omega) ha hb
theorem blk3 {w : World} {b : Nat} {a0 a1 a2 : Value} {t : TypeId} (h : Blk w b #[a0, a1, a2] t) : b < w.heap.size ∧ w.cell? ⟨b, 0, none⟩ = some a0 ∧ w.cell? ⟨b, 1, none⟩ = some a1 ∧ w.cell? ⟨b, 2, none⟩ = some a2 := ⟨h.lt, h.cell 0, h.cell 1, h.cell 2⟩
theorem cell_block {w w' : World} {b : Nat} (h : w'.heap[b]? = w.heap[b]?) (o : Nat) : w'.cell? ⟨b, o, none⟩ = w.cell? ⟨b, o, none⟩ := by simp only [World.cell?, h]
theorem VRow.keep {w w' : World} {A : Option Addr} {l : List V} (h : VRow w A l) (hs : w.heap.size ≤ w'.heap.size) (hk : ∀ b off, A = some ⟨b, off, none⟩ → l ≠ [] → b < w.heap.size → w'.heap[b]? = w.heap[b]?) : VRow w' A l := by
 refine ⟨h.1, h.2.1, fun hl => ?_⟩
 obtain ⟨b, off, rfl, hlt, hc⟩ := h.2.2 hl
 have e := hk b off rfl hl hlt
 refine ⟨b, off, rfl, Nat.lt_of_lt_of_le hlt hs, fun i v hi => ?_⟩
 simp only [cell_block e]
 exact hc i v hi
def DRp (P : Nat → Prop) : Nat → World → Value → De → Prop
 | 0, _, _, _ => False
 | n + 1, w, v, d => ∃ (A : Option Addr) (ca : Nat) (K : Option Addr) (ck : Nat), v = .agg #[.int .i64 d.tb, .slice A d.row.length ca, .slice K d.kids.length ck] ∧
  (-9223372036854775808 ≤ d.tb ∧ d.tb ≤ 9223372036854775807) ∧ (VRow w A d.row ∧ ∀ b off, A = some ⟨b, off, none⟩ → d.row ≠ [] → P b) ∧ (KRow (DRp P n w) w K d.kids ∧ ∀ b off, K = some ⟨b, off, none⟩ → d.kids ≠ [] → P b)
theorem KRow.mono {R R' : Value → De → Prop} {w : World} {K : Option Addr} {ks : List De} (h : KRow R w K ks) (hR : ∀ v k, R v k → R' v k) : KRow R' w K ks := by
 refine ⟨h.1, fun hl => ?_⟩
 obtain ⟨b, off, rfl, hlt, hc⟩ := h.2 hl
 refine ⟨b, off, rfl, hlt, fun i k hi => ?_⟩
 obtain ⟨c0, c1, c2, h0, h1, h2, h3⟩ := hc i k hi
 exact ⟨c0, c1, c2, h0, h1, h2, hR _ _ h3⟩
theorem KRow.keep {R R' : Value → De → Prop} {w w' : World} {K : Option Addr} {ks : List De} (h : KRow R w K ks) (hs : w.heap.size ≤ w'.heap.size) (hk : ∀ b off, K = some ⟨b, off, none⟩ → ks ≠ [] → b < w.heap.size → w'.heap[b]? = w.heap[b]?) (hR : ∀ v k, R v k → R' v k) : KRow R' w' K ks := by
 refine ⟨h.1, fun hl => ?_⟩
 obtain ⟨b, off, rfl, hlt, hc⟩ := h.2 hl
 have e := hk b off rfl hl hlt
 refine ⟨b, off, rfl, Nat.lt_of_lt_of_le hlt hs, fun i k hi => ?_⟩
 obtain ⟨c0, c1, c2, h0, h1, h2, h3⟩ := hc i k hi
 exact ⟨c0, c1, c2, (cell_block e _).trans h0, (cell_block e _).trans h1, (cell_block e _).trans h2, hR _ _ h3⟩
theorem DRp.rd : ∀ {P : Nat → Prop} {n : Nat} {w : World} {v : Value} {d : De}, DRp P n w v d → DRd n w v d
 | _, 0, _, _, _, h => h.elim
 | _, _ + 1, _, _, _, ⟨A, ca, K, ck, hv, hr, ha, hk⟩ => ⟨A, ca, K, ck, hv, hr, ha.1, hk.1.mono (fun _ _ h => h.rd)⟩
theorem DRp.keep : ∀ {P : Nat → Prop} {n : Nat} {w w' : World} {v : Value} {d : De}, DRp P n w v d → w.heap.size ≤ w'.heap.size → (∀ b, P b → b < w.heap.size → w'.heap[b]? = w.heap[b]?) → DRp P n w' v d
 | _, 0, _, _, _, _, h, _, _ => h.elim
 | _, _ + 1, _, _, _, _, ⟨A, ca, K, ck, hv, hr, ha, hk⟩, hs, hb =>
  ⟨A, ca, K, ck, hv, hr, ⟨ha.1.keep hs (fun b off e hl hlt => hb b (ha.2 b off e hl) hlt), ha.2⟩, hk.1.keep hs (fun b off e hl hlt => hb b (hk.2 b off e hl) hlt) (fun _ _ h => h.keep hs hb), hk.2⟩
theorem below_block {B : Nat} {w w' : World} (h : Below B w w') {b : Nat} (hb : b < B) : w'.heap[b]? = w.heap[b]? := h.block b hb
theorem DRp.ext {P : Nat → Prop} {n : Nat} {w w' : World} {v : Value} {d : De} (h : DRp P n w v d) (hb : Below w.heap.size w w') : DRp P n w' v d := h.keep hb.size (fun _ _ hlt => below_block hb hlt)
theorem DRp.weak : ∀ {P Q : Nat → Prop} {n : Nat} {w : World} {v : Value} {d : De}, DRp P n w v d → (∀ b, P b → b < w.heap.size → Q b) → DRp Q n w v d
 | _, _, 0, _, _, _, h, _ => h.elim
 | _, _, _ + 1, w, _, d, ⟨A, ca, K, ck, hv, hr, ha, hk⟩, hq => by
  refine ⟨A, ca, K, ck, hv, hr, ⟨ha.1, fun b off e hl => ?_⟩, hk.1.mono (fun _ _ h => h.weak hq), fun b off e hl => ?_⟩
  · obtain ⟨b', off', e', hlt, _⟩ := ha.1.2.2 hl
    rw [e] at e'
    simp only [Option.some.injEq, Addr.mk.injEq, and_true] at e'
    exact hq b (ha.2 b off e hl) (by rw [e'.1]; exact hlt)
  · obtain ⟨b', off', e', hlt, _⟩ := hk.1.2 hl
    rw [e] at e'
    simp only [Option.some.injEq, Addr.mk.injEq, and_true] at e'
    exact hq b (hk.2 b off e hl) (by rw [e'.1]; exact hlt)
theorem DRp.grown {P : Nat → Prop} {n : Nat} {w w' : World} {v : Value} {d : De} {row : Option Nat} (h : DRp P n w v d) (hg : w.grownBy w' row) (hr : ∀ b, P b → row ≠ some b) : DRp P n w' v d :=
 h.keep hg.size (fun b hp hlt => hg.block b hlt (fun e => hr b hp e.symm))
theorem DRp.put {P : Nat → Prop} {n : Nat} {w : World} {v : Value} {d : De} {b : Nat} {cs : Array Value} {t : TypeId} (h : DRp P n (putBlk w b cs t) v d) (hb : ¬ P b) (ds : Array Value) : DRp P n (putBlk w b ds t) v d :=
 h.keep (by unfold putBlk; simp) (fun x hx _ => by
  have : x ≠ b := fun e => hb (e ▸ hx)
  unfold putBlk
  simp only
  rw [Array.getElem?_setIfInBounds_ne (Ne.symm this), Array.getElem?_setIfInBounds_ne (Ne.symm this)])
theorem DRp.cells {P : Nat → Prop} {n : Nat} {w : World} {v : Value} {d : De} (h : DRp P n w v d) : ∃ (A : Option Addr) (ca : Nat) (K : Option Addr) (ck : Nat), v = .agg #[.int .i64 d.tb, .slice A d.row.length ca, .slice K d.kids.length ck] := h.rd.form
def KCells (R : Value → De → Prop) (xs : List Value) (ks : List De) : Prop := xs.length = ks.length * 3 ∧ ∀ i k, ks[i]? = some k → ∃ c0 c1 c2, xs[i * 3]? = some c0 ∧ xs[i * 3 + 1]? = some c1 ∧ xs[i * 3 + 2]? = some c2 ∧ R (.agg #[c0, c1, c2]) k
theorem KCells.nil (R : Value → De → Prop) : KCells R [] [] := ⟨rfl, by simp⟩
theorem KCells.mono {R R' : Value → De → Prop} {xs : List Value} {ks : List De} (h : KCells R xs ks) (hR : ∀ v k, R v k → R' v k) : KCells R' xs ks :=
 ⟨h.1, fun i k hi => by obtain ⟨c0, c1, c2, h0, h1, h2, h3⟩ := h.2 i k hi; exact ⟨c0, c1, c2, h0, h1, h2, hR _ _ h3⟩⟩
structure Chg (S : List Nat) (w w' : World) : Prop where
 os : w'.os = w.os
 tape : w'.tape = w.tape
 output : w'.output = w.output
 size : w.heap.size ≤ w'.heap.size
 block : ∀ i, i < w.heap.size → i ∉ S → w'.heap[i]? = w.heap[i]?
theorem Chg.refl (S : List Nat) (w : World) : Chg S w w := ⟨rfl, rfl, rfl, Nat.le_refl _, fun _ _ _ => rfl⟩
theorem Chg.of_below {S : List Nat} {w w' : World} (h : Below w.heap.size w w') : Chg S w w' := ⟨h.os, h.tape, h.output, h.size, fun i hi _ => h.block i hi⟩
theorem Chg.of_grown {S : List Nat} {w w' : World} {b : Nat} (h : w.grownBy w' (some b)) (hb : b ∈ S) : Chg S w w' :=
 ⟨h.os, h.tape, h.output, h.size, fun i hi hn => h.block i hi (fun e => by cases e; exact hn hb)⟩
theorem Chg.trans {S T : List Nat} {a b c : World} (h : Chg S a b) (k : Chg T b c) (hT : ∀ i ∈ T, i ∈ S ∨ a.heap.size ≤ i) : Chg S a c :=
 ⟨k.os.trans h.os, k.tape.trans h.tape, k.output.trans h.output, Nat.le_trans h.size k.size, fun i hi hn =>
   (k.block i (Nat.lt_of_lt_of_le hi h.size) (fun hm => (hT i hm).elim hn (fun h => by omega))).trans (h.block i hi hn)⟩
theorem Chg.andBelow {S : List Nat} {a b c : World} (h : Chg S a b) (k : Below b.heap.size b c) : Chg S a c := h.trans (Chg.of_below (S := []) k) (by simp)
theorem Chg.below {S : List Nat} {w w' : World} (h : Chg S w w') {B : Nat} (hB : B ≤ w.heap.size) (hS : ∀ i ∈ S, B ≤ i) : Below B w w' :=
 ⟨h.os, h.tape, h.output, h.size, fun i hi => h.block i (by omega) (fun hm => by have := hS i hm; omega)⟩
theorem Chg.weak {S T : List Nat} {w w' : World} (h : Chg S w w') (hT : ∀ i ∈ S, i ∈ T ∨ w.heap.size ≤ i) : Chg T w w' :=
 ⟨h.os, h.tape, h.output, h.size, fun i hi hn => h.block i hi (fun hm => (hT i hm).elim hn (fun h => by omega))⟩
theorem Chg.put {S : List Nat} {a w : World} {b : Nat} (h : Chg S a w) (hb : b ∈ S ∨ a.heap.size ≤ b) (cs : Array Value) (t : TypeId) : Chg S a (putBlk w b cs t) := by
 refine ⟨h.os, h.tape, h.output, by rw [putBlk_size]; exact h.size, fun i hi hn => ?_⟩
 refine Eq.trans ?_ (h.block i hi hn)
 unfold putBlk
 simp only
 rw [Array.getElem?_setIfInBounds_ne (fun e => by subst e; exact hb.elim hn (fun h => by omega))]
theorem Blk.chg {S : List Nat} {w w' : World} {b : Nat} {cs : Array Value} {t : TypeId} (h : Blk w b cs t) (k : Chg S w w') (hn : b ∉ S) : Blk w' b cs t := (k.block b h.lt hn).trans h
theorem own_chg {S : List Nat} {w w' : World} {base : Nat} {e : TypeId} {size n : Nat} {v : Value} {xs : List Value} (h : w.ownsRow base e size v n xs) (k : Chg S w w') (hn : ∀ i ∈ S, v.ownBlock ≠ some i) : w'.ownsRow base e size v n xs := by
 refine ⟨h.1, ?_⟩
 rcases h.2 with h0 | ⟨g, cap, cur, rfl, hbg, hh, h4⟩
 · exact .inl h0
 · have hlt : g < w.heap.size := (Array.getElem?_eq_some_iff.1 hh).1
   exact .inr ⟨g, cap, cur, rfl, hbg, (k.block g hlt (fun hm => hn g hm rfl)).trans hh, h4⟩
def Oth (w : World) (S : List Nat) : Prop := ∀ i ∈ S, ∀ cs t, w.heap[i]? = some (.cells cs t (0, 0)) → t ≠ 73 ∧ t ≠ 98 ∧ t ≠ 47
theorem own_oth {S : List Nat} {w : World} {base : Nat} {e : TypeId} {size n : Nat} {v : Value} {xs : List Value} (h : w.ownsRow base e size v n xs) (ho : Oth w S) (he : e = 73 ∨ e = 98 ∨ e = 47) : ∀ i ∈ S, v.ownBlock ≠ some i := by
 intro i hi
 rcases h.2 with ⟨rfl, _⟩ | ⟨g, cap, cur, rfl, hbg, hh, h4⟩
 · simp [Value.ownBlock]
 · intro e1
   have e2 : g = i := by simpa [Value.ownBlock] using e1
   subst e2
   have := ho g hi cur e hh
   rcases he with rfl | rfl | rfl
   · exact this.1 rfl
   · exact this.2.1 rfl
   · exact this.2.2 rfl
structure OwS (w : World) (A : Option Addr) (c : Nat) (us : List Ta) : Prop where
 few : us.length ≤ 30
 row : ∃ base, w.ownsRow base 73 5 (.slice A us.length c) us.length (tcells us)
 tab : ∀ t ∈ us, t.wf ∧ (∀ c ∈ t.cs, c.wf) ∧ t.cs.length ≤ 600 ∧ ∃ base, w.ownsRow base 98 3 (.slice t.A t.cs.length t.c) t.cs.length (ccells t.cs)
theorem OwS.chg {S : List Nat} {w w' : World} {A : Option Addr} {c : Nat} {us : List Ta} (h : OwS w A c us) (k : Chg S w w') (ho : Oth w S) : OwS w' A c us := by
 obtain ⟨base, h1⟩ := h.row
 refine ⟨h.few, ⟨base, own_chg h1 k (own_oth h1 ho (Or.inl rfl))⟩, fun t ht => ?_⟩
 obtain ⟨h1, h2, h3, base, h5⟩ := h.tab t ht
 exact ⟨h1, h2, h3, base, own_chg h5 k (own_oth h5 ho (Or.inr (Or.inl rfl)))⟩
theorem OwS.ext {w w' : World} {A : Option Addr} {c : Nat} {us : List Ta} (h : OwS w A c us) (hb : Below w.heap.size w w') : OwS w' A c us :=
 h.chg (Chg.of_below (S := []) hb) (fun i hi => by simp at hi)
def RowO (w : World) (A : Option Addr) (c : Nat) (l : List V) : Prop := (∃ b, w.ownsRow b 47 4 (.slice A l.length c) l.length (rowCells l)) ∧ (A = none → c = 0) ∧ (∀ v ∈ l, v.wf) ∧ l.length ≤ 1000
theorem RowO.chg {S : List Nat} {w w' : World} {A : Option Addr} {c : Nat} {l : List V} (h : RowO w A c l) (k : Chg S w w') (ho : Oth w S) : RowO w' A c l := by
 obtain ⟨⟨b, h1⟩, h2⟩ := h
 exact ⟨⟨b, own_chg h1 k (own_oth h1 ho (Or.inr (Or.inr rfl)))⟩, h2⟩
theorem RowO.ext {w w' : World} {A : Option Addr} {c : Nat} {l : List V} (h : RowO w A c l) (hb : Below w.heap.size w w') : RowO w' A c l := by
 obtain ⟨⟨b, h1⟩, h2⟩ := h
 exact ⟨⟨b, own_below h1 hb⟩, h2⟩
def plc (t : Int) (v : V) : Value := .agg #[.int .i64 t, .int .u8 v.k, .int .i64 v.n, .int .u64 v.r, .string v.t]
def keyP (t : Int) (v : V) : Lit := .string (keyBytes [.int .i64 t, .int .u8 v.k, .int .i64 v.n, .int .u64 v.r, .string v.t.data.toList])
def okT (t : Int) : Prop := -9223372036854775808 ≤ t ∧ t ≤ 9223372036854775807
def phClo (ops : Array Oper) : Nat → Nat → List Nat
 | 0, _ => []
 | f + 1, i => match ops[i]? with
  | none => []
  | some o => (depsOf o).flatMap fun j => j :: phClo ops f j
def PhDC (ops : Array Oper) (listed : Array Bool) : Prop := ∀ i o, ops[i]? = some o → listed.getD i false = true → ∀ j ∈ depsOf o, listed.getD j false = true
theorem PhDC.clo {ops : Array Oper} {listed : Array Bool} (h : PhDC ops listed) : ∀ (f i : Nat) (o : Oper), ops[i]? = some o → (∀ j ∈ depsOf o, listed.getD j false = true) → ∀ j ∈ phClo ops f i, listed.getD j false = true
 | 0, _, _, _, _, j, hj => by simp [phClo] at hj
 | f + 1, i, o, ho, hd, j, hj => by
  rw [phClo, ho] at hj
  obtain ⟨q, hq, hj⟩ := List.mem_flatMap.1 hj
  rcases List.mem_cons.1 hj with rfl | hj
  · exact hd _ hq
  · cases hoq : ops[q]? with
    | none => cases f <;> simp [phClo, hoq] at hj
    | some oq => exact PhDC.clo h f q oq hoq (fun p hp => h q oq hoq (hd _ hq) p hp) j hj
def phLoB (ops : Array Oper) (cs : List Nat) (i lo : Nat) : Bool := lo == 0 || (match cs[lo - 1]? with | some c => (phClo ops ops.size i).contains c | none => false)
def phHiB (ops : Array Oper) (cs : List Nat) (i hi : Nat) : Bool := cs.length ≤ hi || (match cs[hi]? with | some c => (phClo ops ops.size c).contains i | none => false)
def phChB (ops : Array Oper) (cs : List Nat) : Bool := (List.range (cs.length - 1)).all fun j => match cs[j]?, cs[j + 1]? with | some a, some b => (phClo ops ops.size b).contains a | _, _ => false
def PhBody {Γ : Type} (P : Program) (ops : Array Oper) (Q : Exit → Act → World → Prop) (mask : List Bool) (L : List Value) (df : List Deferred) (I' : Γ → World → Prop) (R : Γ → Γ → Prop) (vs : Γ → List Value) (γ : Γ) (w : World) (i d : Nat) (o : Oper) (x : Nat → Value) : Prop :=
 ∀ K' : Act → World → Prop, Shut (∀ v w' γ', I' γ' w' → R γ γ' → v = (vs γ').getD i undef → K' ⟨(overlay (upd x d v) 0 mask L).toArray, df⟩ w') →
  if Region.wanted o (yielded ops (overlay x 0 mask L).toArray) = true then Oper.wp P o ⟨(overlay x 0 mask L).toArray, df⟩ w K' Q else K' (Act.put ⟨(overlay x 0 mask L).toArray, df⟩ o.dst undef) w
def PhStep {Γ : Type} (P : Program) (ops : Array Oper) (Q : Exit → Act → World → Prop) (mask : List Bool) (L : List Value) (df : List Deferred) (Iv : Nat → Γ → World → Prop) (R : Nat → Γ → Γ → Prop) (vs : Γ → List Value) (cs : List Nat) (bd : List (Nat × Nat)) (dst : Nat → Nat) (i : Nat) (o : Oper) : Prop :=
 match cs.idxOf? i with
 | some k => ∀ γ x w, Iv k γ w → StepGoal ((vs γ).map Known.val) dst w (PhBody P ops Q mask L df (Iv (k + 1)) (R k) vs γ w i (dst i) o) (depsOf o) x
 | none => ∀ k, (bd.getD i (0, 0)).1 ≤ k → k ≤ (bd.getD i (0, 0)).2 → ∀ γ x w, Iv k γ w → StepGoal ((vs γ).map Known.val) dst w (PhBody P ops Q mask L df (Iv k) (fun a b => a = b) vs γ w i (dst i) o) (depsOf o) x
def PhSteps {Γ : Type} (P : Program) (ops : Array Oper) (Q : Exit → Act → World → Prop) (mask : List Bool) (L : List Value) (df : List Deferred) (Iv : Nat → Γ → World → Prop) (R : Nat → Γ → Γ → Prop) (vs : Γ → List Value) (cs : List Nat) (bd : List (Nat × Nat)) (dst : Nat → Nat) : Nat → List Oper → Prop
 | _, [] => True
 | i, o :: os => PhStep P ops Q mask L df Iv R vs cs bd dst i o ∧ PhSteps P ops Q mask L df Iv R vs cs bd dst (i + 1) os
theorem PhSteps.at_ {Γ : Type} {P : Program} {ops : Array Oper} {Q : Exit → Act → World → Prop} {mask : List Bool} {L : List Value} {df : List Deferred} {Iv : Nat → Γ → World → Prop} {R : Nat → Γ → Γ → Prop} {vs : Γ → List Value} {cs : List Nat} {bd : List (Nat × Nat)} {dst : Nat → Nat} :
  ∀ (os : List Oper) (n i : Nat) (o : Oper), PhSteps P ops Q mask L df Iv R vs cs bd dst n os → os[i]? = some o → PhStep P ops Q mask L df Iv R vs cs bd dst (n + i) o
 | [], _, _, _, _, h => by simp at h
 | o' :: os, n, 0, o, hs, h => by
  simp only [List.getElem?_cons_zero, Option.some.injEq] at h
  subst h
  exact hs.1
 | o' :: os, n, i + 1, o, hs, h => by
  have := PhSteps.at_ os (n + 1) i o hs.2 (by simpa using h)
  rw [show n + 1 + i = n + (i + 1) by omega] at this
  exact this
theorem PhStep.pure {Γ : Type} {P : Program} {ops : Array Oper} {Q : Exit → Act → World → Prop} {mask : List Bool} {L : List Value} {df : List Deferred} {Iv : Nat → Γ → World → Prop} {R : Nat → Γ → Γ → Prop} {vs : Γ → List Value} {cs : List Nat} {bd : List (Nat × Nat)} {dst : Nat → Nat} {i : Nat} {o : Oper} (h : cs.idxOf? i = none)
  (hs : ∀ k, (bd.getD i (0, 0)).1 ≤ k → k ≤ (bd.getD i (0, 0)).2 → ∀ γ x w, Iv k γ w → StepGoal ((vs γ).map Known.val) dst w (PhBody P ops Q mask L df (Iv k) (fun a b => a = b) vs γ w i (dst i) o) (depsOf o) x) : PhStep P ops Q mask L df Iv R vs cs bd dst i o := by
 unfold PhStep; rw [h]; exact hs
theorem PhStep.chain {Γ : Type} {P : Program} {ops : Array Oper} {Q : Exit → Act → World → Prop} {mask : List Bool} {L : List Value} {df : List Deferred} {Iv : Nat → Γ → World → Prop} {R : Nat → Γ → Γ → Prop} {vs : Γ → List Value} {cs : List Nat} {bd : List (Nat × Nat)} {dst : Nat → Nat} {i : Nat} {o : Oper} (k : Nat) (h : cs.idxOf? i = some k)
  (hs : ∀ γ x w, Iv k γ w → StepGoal ((vs γ).map Known.val) dst w (PhBody P ops Q mask L df (Iv (k + 1)) (R k) vs γ w i (dst i) o) (depsOf o) x) : PhStep P ops Q mask L df Iv R vs cs bd dst i o := by
 unfold PhStep; rw [h]; exact hs
theorem map_val_getD (l : List Value) (j : Nat) (hj : j < l.length) : (l.map Known.val).getD j kAny = .val (l.getD j undef) := by
 rw [List.getD_eq_getElem?_getD, List.getD_eq_getElem?_getD, List.getElem?_map, List.getElem?_eq_getElem hj]
 rfl
theorem region_phase {Γ : Type} {P : Program} {id : Nat} {ops : Array Oper} {Q : Exit → Act → World → Prop} {L : List Value} {df : List Deferred} {w0 : World} (Iv : Nat → Γ → World → Prop) (R : Nat → Γ → Γ → Prop) (γ0 : Γ) (vs : Γ → List Value) (cs : List Nat) (bd : List (Nat × Nat)) (mask : List Bool) (dsts : List Nat) (fin : List Nat)
  (h0 : Iv 0 γ0 w0.drew) (hlen : ∀ γ, (vs γ).length = ops.size)
  (hR : ∀ k γ γ', R k γ γ' → ∀ j c, cs[k]? = some c → j ≠ c → (phClo ops ops.size j).contains c = false → (vs γ').getD j undef = (vs γ).getD j undef)
  (hm : P.follows .mixedOrders = true) (hb : backB ops = true) (hch : phChB ops cs = true) (hnd : cs.Nodup) (hbd : ((List.range ops.size).all fun i => phLoB ops cs i (bd.getD i (0, 0)).1 && phHiB ops cs i (bd.getD i (0, 0)).2) = true)
  (hdl : dsts = (List.range ops.size).map (dstN ops)) (hd : distB ops = true) (hfin : fin.all (fun j => decide (j < ops.size)) = true) (hcs : cs.all (fun j => decide (j < ops.size)) = true)
  (hs : PhSteps P ops Q mask L df Iv R vs cs bd (fun i => dsts.getD i 0) 0 ops.toList)
  (hdone : ∀ γ x w, Iv cs.length γ w → StepGoal ((vs γ).map Known.val) (fun i => dsts.getD i 0) w (fun x => Q .normal ⟨(overlay x 0 mask L).toArray, df⟩ w) fin x) :
  (Code.region id ops true).wp P Q ⟨L.toArray, df⟩ w0 := by
 have hdg : ∀ i, i < ops.size → dsts.getD i 0 = dstN ops i := by
  intro i hi
  rw [hdl, List.getD_eq_getElem?_getD, List.getElem?_map, List.getElem?_range hi]
  rfl
 have hne : ∀ i j, i < ops.size → j < ops.size → j ≠ i → dsts.getD j 0 ≠ dsts.getD i 0 := by
  intro i j hi hj hji
  rw [hdg j hj, hdg i hi]
  have h1 := List.all_eq_true.1 (List.all_eq_true.1 hd j (List.mem_range.2 hj)) i (List.mem_range.2 hi)
  simpa [hji] using h1
 refine wp_region_any hm (wpAny_inv (fun listed a w => ∃ (x : Nat → Value) (γ : Γ) (k : Nat), a = ⟨(overlay x 0 mask L).toArray, df⟩ ∧ Iv k γ w ∧ k ≤ cs.length ∧ PhDC ops listed ∧ (∀ j c, cs[j]? = some c → (listed.getD c false = true ↔ j < k)) ∧ ∀ i, i < ops.size → listed.getD i false = true → x (dsts.getD i 0) = (vs γ).getD i undef) ?_ ?_ _ _ _ _ (by simp) (by simp) ?_)
 · rintro listed a w i hsz ⟨x, γ, k, rfl, hiv, hkl, hdc, hck, hx⟩ hi
   obtain ⟨hun, o, ho, hall⟩ := mem_ready.1 hi
   have his : i < ops.size := (Array.getElem?_eq_some_iff.1 ho).1
   have hun' : listed.getD i false = false := by
    rw [Array.getD_eq_getD_getElem?] at hun ⊢
    rw [Array.getElem?_eq_getElem (by omega)] at hun ⊢
    exact hun
   have hset : ∀ j, j ≠ i → (listed.setIfInBounds i true).getD j false = listed.getD j false := by
    intro j hji
    rw [Array.getD_eq_getD_getElem?, Array.getD_eq_getD_getElem?, Array.getElem?_setIfInBounds_ne (Ne.symm hji)]
   have hself : (listed.setIfInBounds i true).getD i false = true := by
    rw [Array.getD_eq_getD_getElem?, Array.getElem?_setIfInBounds_self_of_lt (by omega)]
    rfl
   have hdep : ∀ j ∈ depsOf o, listed.getD j false = true ∧ j < ops.size := by
    intro j hj
    obtain ⟨e, he, rfl⟩ := List.mem_map.1 hj
    obtain ⟨he1, he2⟩ := List.mem_filter.1 he
    have hl := hall e (by simpa using he1) he2
    have hlt : e.on < i := back_lt hb ho (by simpa using he1) he2
    exact ⟨by rw [Array.getD_eq_getD_getElem?] at hl ⊢; exact hl, by omega⟩
   have hcl : ∀ j ∈ phClo ops ops.size i, listed.getD j false = true := hdc.clo _ _ o ho fun j hj => (hdep j hj).1
   have hnc : ∀ c oc, ops[c]? = some oc → listed.getD c false = true → ∀ f, i ∉ phClo ops f c := by
    intro c oc hoc hlc f hmem
    have := hdc.clo f c oc hoc (fun j hj => hdc c oc hoc hlc j hj) i hmem
    rw [hun'] at this
    cases this
   have hdc' : PhDC ops (listed.setIfInBounds i true) := by
    intro p op hop hlp j hj
    by_cases hpi : p = i
    · subst hpi
      rw [ho] at hop
      cases hop
      by_cases hji : j = p
      · rw [hji]; exact hself
      · rw [hset j hji]; exact (hdep j hj).1
    · rw [hset p hpi] at hlp
      have := hdc p op hop hlp j hj
      by_cases hji : j = i
      · rw [hji]; exact hself
      · rw [hset j hji]; exact this
   have hsg : ∀ j ∈ depsOf o, (((vs γ).map Known.val).getD j kAny).holds (x (dsts.getD j 0)) w := by
    intro j hj
    obtain ⟨h1, h2⟩ := hdep j hj
    rw [map_val_getD _ _ (by rw [hlen]; exact h2)]
    exact hx j h2 h1
   have hst := PhSteps.at_ ops.toList 0 i o hs (by rw [Array.getElem?_toList]; exact ho)
   rw [Nat.zero_add] at hst
   unfold PhStep at hst
   cases hcx : cs.idxOf? i with
   | some j =>
    rw [hcx] at hst
    have hcj : cs[j]? = some i := by
     obtain ⟨h1, h2, _⟩ := List.findIdx?_eq_some_iff_getElem.1 (by rw [List.idxOf?] at hcx; exact hcx)
     rw [List.getElem?_eq_getElem h1]
     simpa using h2
    have hjl : j < cs.length := (List.getElem?_eq_some_iff.1 hcj).1
    have hkj : k = j := by
     have h1 : ¬ j < k := fun h => by
      have := (hck j i hcj).2 h
      rw [hun'] at this
      cases this
     rcases Nat.lt_or_ge k j with h2 | h2
     · exfalso
       have hj1 : j - 1 < cs.length := by omega
       have hc1 : cs[j - 1]? = some cs[j - 1] := List.getElem?_eq_getElem hj1
       have hb1 := List.all_eq_true.1 hch (j - 1) (List.mem_range.2 (by omega))
       rw [hc1, show j - 1 + 1 = j by omega, hcj] at hb1
       have hl1 := hcl _ (List.contains_iff_mem.1 hb1)
       have := (hck _ _ hc1).1 hl1
       omega
     · omega
    subst hkj
    have hbd2 := StepGoal.use (depsOf o) x hsg (hst γ x w hiv)
    refine wpOp_step ho (fun K' hK => hbd2 K' (fun v w' γ' hiv' hR' hv => hK _ _ ⟨upd x (dsts.getD i 0) v, γ', k + 1, rfl, hiv', by omega, hdc', fun p c hc => ?_, fun p hp hlp => ?_⟩))
    · by_cases hpk : p = k
      · subst hpk
        rw [hcj] at hc
        cases hc
        simp [hself]
      · have hci : c ≠ i := by
         intro e
         subst e
         exact hpk ((List.getElem?_inj (List.getElem?_eq_some_iff.1 hc).1 hnd).1 (hc.trans hcj.symm))
        rw [hset c hci, hck p c hc]
        omega
    · by_cases hpi : p = i
      · subst hpi; rw [upd_eq]; exact hv
      · rw [upd_ne (hne i p his hp hpi)]
        rw [hset p hpi] at hlp
        obtain ⟨op, hop⟩ : ∃ op, ops[p]? = some op := ⟨_, Array.getElem?_eq_getElem hp⟩
        rw [hx p hp hlp, hR k γ γ' hR' p i hcj hpi]
        cases hcc : (phClo ops ops.size p).contains i with
        | false => rfl
        | true => exact absurd (List.contains_iff_mem.1 hcc) (hnc p op hop hlp _)
   | none =>
    rw [hcx] at hst
    have hci : ∀ (p c : Nat), cs[p]? = some c → c ≠ i := by
     intro p c hc e
     subst e
     have : cs.idxOf? c ≠ none := by
      rw [List.idxOf?, Ne, List.findIdx?_eq_none_iff]
      intro h
      have := h c (List.mem_of_getElem? hc)
      simp at this
     exact this hcx
    have hb2 := List.all_eq_true.1 hbd i (List.mem_range.2 his)
    rw [Bool.and_eq_true] at hb2
    have hlo : (bd.getD i (0, 0)).1 ≤ k := by
     have h1 := hb2.1
     unfold phLoB at h1
     rw [Bool.or_eq_true] at h1
     rcases h1 with h1 | h1
     · have : (bd.getD i (0, 0)).1 = 0 := by simpa using h1
       omega
     · cases hc : cs[(bd.getD i (0, 0)).1 - 1]? with
       | none => rw [hc] at h1; cases h1
       | some c =>
        rw [hc] at h1
        have := (hck _ c hc).1 (hcl c (List.contains_iff_mem.1 h1))
        omega
    have hhi : k ≤ (bd.getD i (0, 0)).2 := by
     have h1 := hb2.2
     unfold phHiB at h1
     rw [Bool.or_eq_true] at h1
     rcases h1 with h1 | h1
     · have : cs.length ≤ (bd.getD i (0, 0)).2 := by simpa using h1
       omega
     · cases hc : cs[(bd.getD i (0, 0)).2]? with
       | none => rw [hc] at h1; cases h1
       | some c =>
        rw [hc] at h1
        have hcsz : c < ops.size := by
         have := List.all_eq_true.1 hcs c (List.mem_of_getElem? hc)
         simpa using this
        rcases Nat.lt_or_ge (bd.getD i (0, 0)).2 k with h2 | h2
        · exact absurd (List.contains_iff_mem.1 h1) (hnc c _ (Array.getElem?_eq_getElem hcsz) ((hck _ c hc).2 h2) _)
        · exact h2
    have hbd2 := StepGoal.use (depsOf o) x hsg (hst k hlo hhi γ x w hiv)
    refine wpOp_step ho (fun K' hK => hbd2 K' (fun v w' γ' hiv' hR' hv => hK _ _ ⟨upd x (dsts.getD i 0) v, γ', k, rfl, hiv', hkl, hdc', fun p c hc => ?_, fun p hp hlp => ?_⟩))
    · rw [hset c (hci p c hc), hck p c hc]
    · subst hR'
      by_cases hpi : p = i
      · subst hpi; rw [upd_eq]; exact hv
      · rw [upd_ne (hne i p his hp hpi)]
        rw [hset p hpi] at hlp
        exact hx p hp hlp
 · rintro listed a w hsz ⟨x, γ, k, rfl, hiv, hkl, hdc, hck, hx⟩ hr
   have hal := all_listed hb hsz hr
   have hk : k = cs.length := by
    rcases Nat.lt_or_ge k cs.length with h | h
    · exfalso
      have hc : cs[k]? = some cs[k] := List.getElem?_eq_getElem h
      have hcsz : cs[k] < ops.size := by
       have := List.all_eq_true.1 hcs cs[k] (List.getElem_mem h)
       simpa using this
      have := (hck k _ hc).1 (hal (cs[k] + 1) cs[k] (by omega) hcsz)
      omega
    · omega
   subst hk
   exact StepGoal.use fin x (fun j hj => by
    have hjs : j < ops.size := of_decide_eq_true (List.all_eq_true.1 hfin j hj)
    rw [map_val_getD _ _ (by rw [hlen]; exact hjs)]
    exact hx j hjs (hal (j + 1) j (by omega) hjs)) (hdone γ x w hiv)
 · refine ⟨fun j => L.getD j undef, γ0, 0, ?_, h0, by omega, fun i o _ h => ?_, fun j c _ => ?_, fun i hi h => ?_⟩
   · have := overlay_self L [] mask
     rw [List.nil_append, List.length_nil] at this
     rw [this]
   · exfalso
     rw [Array.getD_eq_getD_getElem?] at h
     by_cases hi : i < ops.size
     · simp [hi] at h
     · simp [Nat.not_lt.1 hi] at h
   · rw [Array.getD_eq_getD_getElem?]
     by_cases hi : c < ops.size
     · simp [hi]
     · simp [Nat.not_lt.1 hi]
   · rw [Array.getD_eq_getD_getElem?] at h
     simp [hi] at h
end Go.Proofs.YtceoficoappkpaaGreatDoor
