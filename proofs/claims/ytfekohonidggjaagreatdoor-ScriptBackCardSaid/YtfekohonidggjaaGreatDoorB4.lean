/- Texts joined by a tool: contracts and walks of this claim. -/
import Derived.Test.YtfekohonidggjaaGreatDoorB3
import Derived.Deep.DeepCutAuto
import Derived.Laws.Concat
import Derived.Lib.ConvBytes
namespace Go.Proofs.YtfekohonidggjaaGreatDoor
open Go.RowKit
theorem mk4 {w : World} {b : Nat} {a0 a1 a2 a3 : Value} {t : TypeId} (h : Blk w b #[a0, a1, a2, a3] t) :
 Blk w b #[a0, a1, a2, a3] t ∧ w.cell? ⟨b, 0, none⟩ = some a0 ∧ w.cell? ⟨b, 1, none⟩ = some a1 ∧ w.cell? ⟨b, 2, none⟩ = some a2 ∧ w.cell? ⟨b, 3, none⟩ = some a3 :=
 ⟨h, h.cell 0, h.cell 1, h.cell 2, h.cell 3⟩
def putBlk (w : World) (b : Nat) (cs : Array Value) (t : TypeId) : World := { w with heap := w.heap.setIfInBounds b (.cells cs t (0, 0)) }
theorem putBlk_self {w : World} {b : Nat} {cs : Array Value} {t : TypeId} (h : Blk w b cs t) : putBlk w b cs t = w := by
 have : w.heap.setIfInBounds b (.cells cs t (0, 0)) = w.heap := by
  apply Array.ext_getElem?
  intro i
  rw [Array.getElem?_setIfInBounds]
  split
  · next e =>
    subst e
    split
    · exact h.symm
    · next hn => exact absurd h.lt hn
  · rfl
 unfold putBlk
 rw [this]
theorem putBlk_size (w : World) (b : Nat) (cs : Array Value) (t : TypeId) : (putBlk w b cs t).heap.size = w.heap.size := by simp [putBlk]
theorem putBlk_blk {w : World} {b : Nat} (cs : Array Value) (t : TypeId) (h : b < w.heap.size) : Blk (putBlk w b cs t) b cs t := by
 unfold Blk putBlk
 simp [h]
theorem putBlk_ne {w : World} {b c : Nat} {cs cs' : Array Value} {t t' : TypeId} (h : Blk w c cs' t') (hne : c ≠ b) : Blk (putBlk w b cs t) c cs' t' := by
 unfold Blk putBlk at *
 simp only
 rw [Array.getElem?_setIfInBounds_ne (Ne.symm hne)]
 exact h
theorem putBlk_below {w a : World} {B b : Nat} (cs : Array Value) (t : TypeId) (h : Below B a w) (hb : B ≤ b) : Below B a (putBlk w b cs t) := by
 refine ⟨h.os, h.tape, h.output, by rw [putBlk_size]; exact h.size, fun c hc => ?_⟩
 refine Eq.trans ?_ (h.block c hc)
 unfold putBlk
 simp only
 rw [Array.getElem?_setIfInBounds_ne (by omega)]
theorem putBlk_set {w : World} {b : Nat} (cs : Array Value) (t : TypeId) (h : b < w.heap.size) (i : Nat) (v : Value) : (putBlk w b cs t).setCell ⟨b, i, none⟩ v = putBlk w b (cs.setIfInBounds i v) t := by
 unfold putBlk World.setCell
 simp only [World.mk.injEq, and_true]
 apply Array.ext_getElem?
 intro j
 rw [Array.getElem?_modify, Array.getElem?_setIfInBounds, Array.getElem?_setIfInBounds]
 by_cases e : b = j
 · subst e
   simp [h]
 · simp [e]
theorem putBlk_facts {w : World} {b : Nat} (t : TypeId) (h : b < w.heap.size) :
 (∀ cs i, (putBlk w b cs t).cell? ⟨b, i, none⟩ = cs[i]?) ∧ (∀ cs i, (putBlk w b cs t).frozen? ⟨b, i, none⟩ = false) ∧ ∀ cs i v, (putBlk w b cs t).setCell ⟨b, i, none⟩ v = putBlk w b (cs.setIfInBounds i v) t :=
 ⟨fun cs i => (putBlk_blk cs t h).cell i, fun cs i => (putBlk_blk cs t h).frozen i, fun cs i v => putBlk_set cs t h i v⟩
theorem blk_put {w : World} {b : Nat} {cs : Array Value} {t : TypeId} (h : Blk w b cs t) : ∃ w3, w = putBlk w3 b cs t ∧ b < w3.heap.size := ⟨w, (putBlk_self h).symm, h.lt⟩
theorem putBlk_old {w : World} {b c : Nat} {cs cs' : Array Value} {t t' : TypeId} (h : Blk (putBlk w b cs t) c cs' t') (hne : c ≠ b) (ds : Array Value) : Blk (putBlk w b ds t) c cs' t' := by
 unfold Blk putBlk at *
 simp only at *
 rw [Array.getElem?_setIfInBounds_ne (Ne.symm hne)] at h ⊢
 exact h
theorem putBlk_belows {w a : World} {B b : Nat} {cs : Array Value} {t : TypeId} (h : Below B a (putBlk w b cs t)) (hb : B ≤ b) (ds : Array Value) : Below B a (putBlk w b ds t) := by
 have := putBlk_below (b := b) ds t h hb
 have e : putBlk (putBlk w b cs t) b ds t = putBlk w b ds t := by unfold putBlk; simp
 rwa [e] at this
theorem own_below {w w' : World} {base : Nat} {e : TypeId} {size n : Nat} {v : Value} {xs : List Value} (h : w.ownsRow base e size v n xs) (hb : Below w.heap.size w w') : w'.ownsRow base e size v n xs := by
 refine ⟨h.1, ?_⟩
 rcases h.2 with h0 | ⟨g, cap, cur, rfl, hbg, hh, h1, h2, h3, h4⟩
 · exact .inl h0
 · have hlt : g < w.heap.size := by
    rcases Nat.lt_or_ge g w.heap.size with hlt | hge
    · exact hlt
    · rw [Array.getElem?_eq_none hge] at hh; cases hh
   exact .inr ⟨g, cap, cur, rfl, hbg, (hb.block g hlt).trans hh, h1, h2, h3, h4⟩
theorem own_far {w : World} {b1 b2 : Nat} {e1 e2 : TypeId} {s1 s2 n1 n2 : Nat} {v1 v2 : Value} {x1 x2 : List Value} (h1 : w.ownsRow b1 e1 s1 v1 n1 x1) (h2 : w.ownsRow b2 e2 s2 v2 n2 x2) (hne : e1 ≠ e2) : v2.ownBlock = none ∨ v1.ownBlock ≠ v2.ownBlock := by
 rcases h2.2 with ⟨rfl, _⟩ | ⟨g, cap, cur, rfl, _, hh, _⟩
 · exact .inl rfl
 · exact .inr (own_ne h1 hh hne)
theorem Blk.grown {w w' : World} {b : Nat} {cs : Array Value} {t : TypeId} {base : Nat} {e : TypeId} {sz n : Nat} {v : Value} {xs : List Value} (h : Blk w b cs t) (ho : w.ownsRow base e sz v n xs) (hne : e ≠ t) (hg : w.grownBy w' v.ownBlock) : Blk w' b cs t :=
 (hg.block b h.lt (own_ne ho h hne).symm).trans h
theorem own_form {w : World} {base : Nat} {e : TypeId} {size n : Nat} {v : Value} {xs : List Value} (h : w.ownsRow base e size v n xs) : ∃ A c, v = .slice A n c := by
 rcases h.2 with ⟨rfl, rfl⟩ | ⟨g, cap, cur, rfl, _⟩
 · exact ⟨none, 0, rfl⟩
 · exact ⟨_, _, rfl⟩
theorem cells_new1 (w : World) (a : Value) (t : TypeId) : ∀ j u, [a][j]? = some u → (w.alloc (.cells #[a] t)).cell? ((⟨w.heap.size, 0, none⟩ : Addr).add j) = some u := by
 intro j u h
 match j with
 | 0 => exact ((Blk.new w #[a] t).cell 0).trans (by simpa using h)
 | j + 1 => simp at h
theorem ne_empty {rb : ByteArray} (h : ¬ rb.size = 0) : rb.toList.isEmpty = false ∧ rb.data.toList ≠ [] := by
 have h1 : rb.data.toList ≠ [] := by
  intro h'
  apply h
  have := congrArg List.length h'
  simpa using this
 have := str_ne rb.data.toList h1
 rw [Array.toArray_toList] at this
 exact ⟨this.1, h1⟩
theorem putBlk_cell_ne {w : World} {b g : Nat} (h : g ≠ b) (cs ds : Array Value) (t : TypeId) (i : Nat) : (putBlk w b ds t).cell? ⟨g, i, none⟩ = (putBlk w b cs t).cell? ⟨g, i, none⟩ := by
 unfold putBlk World.cell?
 simp only
 rw [Array.getElem?_setIfInBounds_ne (Ne.symm h), Array.getElem?_setIfInBounds_ne (Ne.symm h)]
def strLen : Value → Nat
 | .string b => b.size
 | _ => 0
theorem NRow.of_own {k : IntKind} {w : World} {base n c : Nat} {e : TypeId} {A : Option Addr} {l : List Int} (hlen : l.length ≤ 17592186044416)
 (h : w.ownsRow base e 1 (.slice A n c) n (l.map (Value.int k))) : NRow k w A l ∧ n = l.length := by
 have hn : n = l.length := by have := h.1; simp at this; omega
 refine ⟨⟨hlen, fun hl => ?_⟩, hn⟩
 have hpos : 0 < n := by rw [hn]; exact List.length_pos_iff.2 hl
 obtain ⟨g, cap, hv, _, hlt⟩ := h.form hpos
 have hA : A = some ⟨g, 0, none⟩ := by injection hv
 subst hA
 refine ⟨g, 0, rfl, hlt, fun i v hi => ?_⟩
 have hc := h.cells (g := g) rfl i (.int k v) (by rw [List.getElem?_map, hi]; rfl)
 have e : (⟨g, 0, none⟩ : Addr).add i = ⟨g, 0 + i, none⟩ := by
  unfold Addr.add; split
  · next h0 => subst h0; rfl
  · simp
 rwa [e] at hc
theorem info_i64 : (Tryz.prog.info? 3).map (fun i => (i.zero, i.size, i.bytes)) = some (some (.int .i64 0), 1, 8) := by kernel_rfl
theorem cells_blk1 {w : World} {b : Nat} {a : Value} {t : TypeId} (h : Blk w b #[a] t) : ∀ j u, [a][j]? = some u → w.cell? ((⟨b, 0, none⟩ : Addr).add j) = some u := by
 intro j u hu
 match j with
 | 0 => exact (h.cell 0).trans (by simpa using hu)
 | j + 1 => simp at hu
theorem str_empty {rb : ByteArray} (h : rb.size = 0) : rb = ByteArray.empty := by
 apply ByteArray.ext; apply Array.eq_empty_of_size_eq_zero; exact h
theorem run_append_nil (P : Program) (w : World) (base : Nat) (t ty e : TypeId) (i : TypeInfo) (size : Nat) (ht : P.underlying t = some (.slice e)) (hi : P.info? e = some i)
 (v : Value) (n : Nat) (xs : List Value) (hown : w.ownsRow base e size v n xs) (c : Nat) : (Builtin.append_ #[t, t] ty #[v, .slice none 0 c]).run P w = .ok v w := by
 rcases hown.2 with ⟨rfl, rfl⟩ | ⟨g, cap, cur, rfl, _, _, hnc, _⟩
 · simp [Builtin.append_, run_underlying ht, sizeOf, typeInfo, hi, Builtin.lenOf, Builtin.firstCells]
 · simp [Builtin.append_, run_underlying ht, sizeOf, typeInfo, hi, Builtin.lenOf, Builtin.firstCells, hnc, storeCells]
end Go.Proofs.YtfekohonidggjaaGreatDoor
namespace Go.Proofs.YtfekohonidggjaaGreatDoor
open Go.RowKit

structure Co where
 nm : ByteArray
 k : Int
 nl : Bool
deriving DecidableEq
def Co.wf (c : Co) : Prop := c.nm.size ≤ 140737488355328 ∧ 0 ≤ c.k ∧ c.k ≤ 255
structure Ta where
 nm : ByteArray
 cs : List Co
 key : Int
 ref : Int
 par : Int
 A : Option Addr
 c : Nat
def Ta.cells (t : Ta) : Array Value := #[.string t.nm, .slice t.A t.cs.length t.c, .int .i64 t.key, .int .i64 t.ref, .int .i64 t.par]
def Ta.wf (t : Ta) : Prop := t.nm.size ≤ 140737488355328 ∧ (-9223372036854775808 ≤ t.key ∧ t.key ≤ 9223372036854775807) ∧ (-9223372036854775808 ≤ t.ref ∧ t.ref ≤ 9223372036854775807) ∧ (-9223372036854775808 ≤ t.par ∧ t.par ≤ 9223372036854775807)
def Ta.d (t : Ta) : ByteArray × List Co × Int × Int × Int := (t.nm, t.cs, t.key, t.ref, t.par)
def CRow (w : World) (A : Option Addr) (l : List Co) : Prop :=
 (∀ c ∈ l, c.wf) ∧ l.length ≤ 5864062014805 ∧ (l ≠ [] → ∃ b off, A = some ⟨b, off, none⟩ ∧ b < w.heap.size ∧ ∀ i v, l[i]? = some v →
   w.cell? ⟨b, off + i * 3, none⟩ = some (.string v.nm) ∧ w.cell? ⟨b, off + i * 3 + 1, none⟩ = some (.int .u8 v.k) ∧ w.cell? ⟨b, off + i * 3 + 2, none⟩ = some (.bool v.nl))
theorem CRow.ext {w w' : World} {A : Option Addr} {l : List Co} (h : CRow w A l) (hb : Below w.heap.size w w') : CRow w' A l := by
 refine ⟨h.1, h.2.1, fun hl => ?_⟩
 obtain ⟨b, off, rfl, hlt, hc⟩ := h.2.2 hl
 refine ⟨b, off, rfl, Nat.lt_of_lt_of_le hlt hb.size, fun i v hi => ?_⟩
 obtain ⟨c0, c1, c2⟩ := hc i v hi
 exact ⟨(hb.cell (p := ⟨b, _, none⟩) hlt).trans c0, (hb.cell (p := ⟨b, _, none⟩) hlt).trans c1, (hb.cell (p := ⟨b, _, none⟩) hlt).trans c2⟩
theorem CRow.at_ {w : World} {A : Option Addr} {l : List Co} (h : CRow w A l) {k : Nat} (hk : k < l.length) :
 ∃ (b off : Nat) (v : Co), A = some ⟨b, off, none⟩ ∧ b < w.heap.size ∧ l[k]? = some v ∧ v ∈ l ∧ v.wf ∧
  w.cell? ⟨b, off + k * 3, none⟩ = some (.string v.nm) ∧ w.cell? ⟨b, off + k * 3 + 1, none⟩ = some (.int .u8 v.k) ∧ w.cell? ⟨b, off + k * 3 + 2, none⟩ = some (.bool v.nl) := by
 obtain ⟨b, off, rfl, hlt, hc⟩ := h.2.2 (by intro e; simp [e] at hk)
 have hv := List.getElem?_eq_getElem hk
 obtain ⟨c0, c1, c2⟩ := hc k _ hv
 exact ⟨b, off, l[k], rfl, hlt, hv, List.getElem_mem hk, h.1 _ (List.getElem_mem hk), c0, c1, c2⟩
def TRow (w : World) (A : Option Addr) (c : Nat) (l : List Ta) : Prop :=
 (∀ t ∈ l, t.wf ∧ CRow w t.A t.cs) ∧ l.length ≤ 2199023255552 ∧ l.length ≤ c ∧ (l ≠ [] → ∃ b off, A = some ⟨b, off, none⟩ ∧ b < w.heap.size ∧ ∀ i t, l[i]? = some t →
   w.cell? ⟨b, off + i * 5, none⟩ = some (.string t.nm) ∧ w.cell? ⟨b, off + i * 5 + 1, none⟩ = some (.slice t.A t.cs.length t.c) ∧ w.cell? ⟨b, off + i * 5 + 2, none⟩ = some (.int .i64 t.key) ∧ w.cell? ⟨b, off + i * 5 + 3, none⟩ = some (.int .i64 t.ref) ∧ w.cell? ⟨b, off + i * 5 + 4, none⟩ = some (.int .i64 t.par))
theorem TRow.ext {w w' : World} {A : Option Addr} {c : Nat} {l : List Ta} (h : TRow w A c l) (hb : Below w.heap.size w w') : TRow w' A c l := by
 refine ⟨fun t ht => ⟨(h.1 t ht).1, (h.1 t ht).2.ext hb⟩, h.2.1, h.2.2.1, fun hl => ?_⟩
 obtain ⟨b, off, rfl, hlt, hc⟩ := h.2.2.2 hl
 refine ⟨b, off, rfl, Nat.lt_of_lt_of_le hlt hb.size, fun i v hi => ?_⟩
 obtain ⟨c0, c1, c2, c3, c4⟩ := hc i v hi
 exact ⟨(hb.cell (p := ⟨b, _, none⟩) hlt).trans c0, (hb.cell (p := ⟨b, _, none⟩) hlt).trans c1, (hb.cell (p := ⟨b, _, none⟩) hlt).trans c2, (hb.cell (p := ⟨b, _, none⟩) hlt).trans c3, (hb.cell (p := ⟨b, _, none⟩) hlt).trans c4⟩
theorem TRow.at_ {w : World} {A : Option Addr} {c : Nat} {l : List Ta} (h : TRow w A c l) {k : Nat} (hk : k < l.length) :
 ∃ (b off : Nat) (t : Ta), A = some ⟨b, off, none⟩ ∧ b < w.heap.size ∧ l[k]? = some t ∧ t ∈ l ∧ t.wf ∧ CRow w t.A t.cs ∧
  w.cell? ⟨b, off + k * 5, none⟩ = some (.string t.nm) ∧ w.cell? ⟨b, off + k * 5 + 1, none⟩ = some (.slice t.A t.cs.length t.c) ∧ w.cell? ⟨b, off + k * 5 + 2, none⟩ = some (.int .i64 t.key) ∧ w.cell? ⟨b, off + k * 5 + 3, none⟩ = some (.int .i64 t.ref) ∧ w.cell? ⟨b, off + k * 5 + 4, none⟩ = some (.int .i64 t.par) := by
 obtain ⟨b, off, rfl, hlt, hc⟩ := h.2.2.2 (by intro e; simp [e] at hk)
 have hv := List.getElem?_eq_getElem hk
 obtain ⟨c0, c1, c2, c3, c4⟩ := hc k _ hv
 have hm := h.1 _ (List.getElem_mem hk)
 exact ⟨b, off, l[k], rfl, hlt, hv, List.getElem_mem hk, hm.1, hm.2, c0, c1, c2, c3, c4⟩
theorem TRow.take {w : World} {A : Option Addr} {c : Nat} {l : List Ta} (h : TRow w A c l) (k : Nat) : TRow w A c (l.take k) := by
 refine ⟨fun t ht => h.1 t (List.mem_of_mem_take ht), by have := h.2.1; simp; omega, by have := h.2.2.1; simp; omega, fun hl => ?_⟩
 obtain ⟨b, off, rfl, hlt, hc⟩ := h.2.2.2 (by intro e; rw [e] at hl; simp at hl)
 refine ⟨b, off, rfl, hlt, fun i t hi => hc i t ?_⟩
 rw [List.getElem?_take] at hi
 split at hi
 · exact hi
 · cases hi

def chB (v : Int) : Bool := decide ((97 ≤ v ∧ v ≤ 122) ∨ (48 ≤ v ∧ v ≤ 57))
def chars (s : ByteArray) : Bool := s.data.toList.all fun c => chB c.toNat
def nameB (s : ByteArray) : Bool := chars s && (decide (1 ≤ s.size) && decide (s.size ≤ 16))
theorem chars_step {s : ByteArray} {k : Nat} (h : k < s.size) (h1 : (s.data.toList.take k).all (fun c => chB c.toNat) = true) (h2 : chB ((s.data.toList.getD k 0).toNat : Int) = true) : Hid ((s.data.toList.take (k + 1)).all (fun c => chB c.toNat) = true) := by
 show _ = _
 have hk : k < s.data.toList.length := by simpa using h
 rw [List.take_succ_eq_append_getElem hk, List.all_append, h1]
 rw [List.getD_eq_getElem?_getD, List.getElem?_eq_getElem hk] at h2
 simpa using h2
theorem chars_end {s : ByteArray} (h1 : (s.data.toList.take s.size).all (fun c => chB c.toNat) = true) : chars s = true := by
 unfold chars
 rwa [List.take_of_length_le (by simp)] at h1
theorem chars_not {s : ByteArray} {k : Nat} (h : k < s.size) (h2 : chB ((s.data.toList.getD k 0).toNat : Int) = false) : chars s = false := by
 have hk : k < s.data.toList.length := by simpa using h
 unfold chars
 rw [List.all_eq_false]
 refine ⟨s.data.toList[k], List.getElem_mem hk, ?_⟩
 rw [List.getD_eq_getElem?_getD, List.getElem?_eq_getElem hk] at h2
 simpa using h2
theorem below_bytes (w : World) (e : TypeId) (s : ByteArray) : Below w.heap.size w (Lib.bytesWorld w e s) := by
 have h1 : Below w.heap.size w (w.drew.alloc (.cells (Lib.bytesCells w e s) e)) := (by repeat (first | exact Below.refl _ _ | assumption | refine Below.drew ?_ | refine below_drewN ?_ _ | refine Below.alloc ?_ (by simp <;> omega) _))
 refine ⟨h1.os, h1.tape, h1.output, by rw [Lib.bytesWorld_size]; omega, fun c hc => Lib.bytesWorld_at_old w e s c hc⟩
set_option maxRecDepth 100000 in
theorem name_any (s : ByteArray) (w : World) (hs : s.size ≤ 140737488355328) :
 Calls Tryz.prog 168 #[.string s] w fun r w' => r = .returned (.bool (nameB s)) ∧ Below w.heap.size w w' := by
 have hcv := Lib.run_convert_string_bytes (P := Tryz.prog) w 9 114 5 s Tryz.underlying9 Tryz.underlying114 Tryz.underlying5
 have hcell := Lib.bytesWorld_cell w 5 s
 have hbl := below_bytes w 5 s
 have hsz := Lib.bytesWorld_size w 5 s
 generalize Lib.bytesWorld w 5 s = W at hcv hcell hbl hsz
 have HBL := hd_ hbl
 have HCELL := hd_ hcell
 have HSZ := hd_ hsz
 generalize hM : nameB s = M
 have HM := hd_ hM
 clear hM hcell hsz hbl
 go_enter Tryz.func168, Tryz.ntmps168
 go_wp2
 clear hcv
 go_loop [8] (fun i => ∃ k : Nat, k ≤ s.size ∧ i = .int .i64 k ∧ Hid ((s.data.toList.take k).all (fun c => chB c.toNat) = true)) (fun i => s.size - (intOf i).toNat)
 case atStart => exact ⟨0, by omega, rfl, (by simp : _ = _)⟩
 case round =>
  obtain ⟨k, hk, rfl, HS⟩ := hrel
  by_cases hlt : k < s.size
  · have c0 := HCELL.out k hlt
    obtain ⟨v, hv⟩ : ∃ v : Int, v = ((s.data.toList.getD k 0).toNat : Int) := ⟨_, rfl⟩
    have c1 : W.cell? ⟨w.heap.size, 0 + k, none⟩ = some (.int .u8 v) := by rw [Nat.zero_add, hv]; exact c0
    have c2 : W.cell? ⟨w.heap.size, k, none⟩ = some (.int .u8 v) := by rw [hv]; exact c0
    have HV := hd_ hv
    clear c0 hv
    cases hc : chB v
    · have hf := chars_not hlt (by rw [← HV.out]; exact hc)
      have hMf : Hid (M = false) := by show _ = _; rw [← HM.out]; unfold nameB; rw [hf]; rfl
      have hc' := of_decide_eq_false hc
      clear hf hc HM
      by_cases h97 : v < 97
      · by_cases h48 : v < 48
        · clear hc'
          go_wp2
          go_ret
          exact ⟨ret_bool hMf.out.symm, HBL.out⟩
        · have h57 : 57 < v := by omega
          clear hc'
          go_wp2
          go_ret
          exact ⟨ret_bool hMf.out.symm, HBL.out⟩
      · have h122 : 122 < v := by omega
        have h57 : 57 < v := by omega
        clear hc'
        go_wp2
        go_ret
        exact ⟨ret_bool hMf.out.symm, HBL.out⟩
    · have hS' := chars_step hlt HS.out (by rw [← HV.out]; exact hc)
      have hc' := of_decide_eq_true hc
      clear hc
      by_cases h97 : v < 97
      · have h48 : 48 ≤ v := by omega
        have h57 : v ≤ 57 := by omega
        clear hc'
        go_wp2
        go_round
        case rel => exact ⟨k + 1, by omega, by go_num, hS'⟩
        case measure => simp [intOf]; omega
      · have h122 : v ≤ 122 := by omega
        clear hc'
        go_wp2
        go_round
        case rel => exact ⟨k + 1, by omega, by go_num, hS'⟩
        case measure => simp [intOf]; omega
  · obtain rfl : k = s.size := by omega
    have hf := chars_end HS.out
    have hMf : Hid (M = (decide (1 ≤ s.size) && decide (s.size ≤ 16))) := by show _ = _; rw [← HM.out]; unfold nameB; rw [hf]; rfl
    clear hf HM HS
    by_cases hz : s.size = 0
    · have hMf' : Hid (M = false) := by show _ = _; rw [hMf.out, decide_eq_false (by omega)]; rfl
      obtain rfl := str_empty hz
      clear hz
      go_wp2
      go_ret
      exact ⟨ret_bool hMf'.out.symm, HBL.out⟩
    · obtain ⟨hne, _⟩ := ne_empty hz
      have hne' : (!s.toList.isEmpty) = true := by rw [hne]; rfl
      have hMf' : Hid (M = decide ((s.size : Int) ≤ 16)) := by show _ = _; rw [hMf.out, decide_eq_true (show 1 ≤ s.size by omega), Bool.true_and]; exact decide_eq_decide.2 (by omega)
      by_cases h16 : s.size ≤ 16
      · go_wp2
        go_ret
        exact ⟨ret_bool (by rw [hMf'.out, decide_eq_true (by omega)]), HBL.out⟩
      · go_wp2
        go_ret
        exact ⟨ret_bool (by rw [hMf'.out, decide_eq_false (by omega)]), HBL.out⟩
end Go.Proofs.YtfekohonidggjaaGreatDoor
