/- Several texts in one: see each part's head. -/
import Derived.Laws.CopyOwn
import Derived.StillTailTactics
import Derived.WalkSpells
import Derived.Test.YtkfhfegogmlchaaDoorJ34
import Derived.Test.YtkfhfegogmlchaaDoorJ11
import Derived.Test.YtkfhfegogmlchaaDoorJ12
import Derived.Test.YtkfhfegogmlchaaDoorJ16
import Derived.Test.YtkfhfegogmlchaaDoorJ21
/- A transaction's records: stream.Of. -/
namespace Go.Proofs.YtkfhfegogmlchaaDoor
open Go.RowKit

def Ch.wf (c : Ch) : Prop := (0 ≤ c.k ∧ c.k ≤ 255) ∧ (-9223372036854775808 ≤ c.tb ∧ c.tb ≤ 9223372036854775807)
/-- A slice of changes reads as this list. -/
def ChRow (w : World) (A : Option Addr) (l : List Ch) : Prop :=
  l.length ≤ 17592186044416 ∧ (l ≠ [] → ∃ b off, A = some ⟨b, off, none⟩ ∧ b < w.heap.size ∧ ∀ (i : Nat) (c : Ch), l[i]? = some c → c.wf ∧ ∃ (A1 A2 : Option Addr) (c1 c2 : Nat),
    w.cell? ⟨b, off + i * 4, none⟩ = some (.int .u8 c.k) ∧ w.cell? ⟨b, off + i * 4 + 1, none⟩ = some (.int .i64 c.tb) ∧ w.cell? ⟨b, off + i * 4 + 2, none⟩ = some (.slice A1 c.bf.length c1) ∧ w.cell? ⟨b, off + i * 4 + 3, none⟩ = some (.slice A2 c.af.length c2) ∧ VRow w A1 c.bf ∧ VRow w A2 c.af)
theorem ChRow.ext {w w' : World} {A : Option Addr} {l : List Ch} (h : ChRow w A l) (hb : Below w.heap.size w w') : ChRow w' A l := by
  refine ⟨h.1, fun hl => ?_⟩
  obtain ⟨b, off, rfl, hlt, hc⟩ := h.2 hl
  refine ⟨b, off, rfl, Nat.lt_of_lt_of_le hlt hb.size, fun i c hi => ?_⟩
  obtain ⟨h0, A1, A2, c1, c2, h1, h2, h3, h4, h5, h6⟩ := hc i c hi
  exact ⟨h0, A1, A2, c1, c2, (hb.cell (p := ⟨b, _, none⟩) hlt).trans h1, (hb.cell (p := ⟨b, _, none⟩) hlt).trans h2, (hb.cell (p := ⟨b, _, none⟩) hlt).trans h3, (hb.cell (p := ⟨b, _, none⟩) hlt).trans h4, h5.ext hb, h6.ext hb⟩
theorem ChRow.at_ {w : World} {A : Option Addr} {l : List Ch} (h : ChRow w A l) {k : Nat} (hk : k < l.length) :
    ∃ (b off : Nat) (c : Ch), A = some ⟨b, off, none⟩ ∧ b < w.heap.size ∧ l[k]? = some c ∧ c.wf ∧ ∃ (A1 A2 : Option Addr) (c1 c2 : Nat),
    w.cell? ⟨b, off + k * 4, none⟩ = some (.int .u8 c.k) ∧ w.cell? ⟨b, off + k * 4 + 1, none⟩ = some (.int .i64 c.tb) ∧ w.cell? ⟨b, off + k * 4 + 2, none⟩ = some (.slice A1 c.bf.length c1) ∧ w.cell? ⟨b, off + k * 4 + 3, none⟩ = some (.slice A2 c.af.length c2) ∧ VRow w A1 c.bf ∧ VRow w A2 c.af := by
  obtain ⟨b, off, rfl, hlt, hc⟩ := h.2 (by intro e; simp [e] at hk)
  have hv := List.getElem?_eq_getElem hk
  obtain ⟨h0, h1⟩ := hc k _ hv
  exact ⟨b, off, l[k], rfl, hlt, hv, h0, h1⟩
def outsC (ts : List Ta) (ol : List (Nat × ByteArray × Int)) : List Value := ol.flatMap fun p => outC (topAt ts p.1) p.2.1 p.2.2
def olR (ol : List (Nat × ByteArray × Int)) : List (Nat × ByteArray) := ol.map fun p => (p.1, p.2.1)
theorem outsC_snoc (ts : List Ta) (ol : List (Nat × ByteArray × Int)) (p : Nat × ByteArray × Int) : outsC ts (ol ++ [p]) = outsC ts ol ++ outC (topAt ts p.1) p.2.1 p.2.2 := by simp [outsC]
theorem olR_snoc (ol : List (Nat × ByteArray × Int)) (p : Nat × ByteArray × Int) : olR (ol ++ [p]) = olR ol ++ [(p.1, p.2.1)] := by simp [olR]
theorem olR_length (ol : List (Nat × ByteArray × Int)) : (olR ol).length = ol.length := by simp [olR]
def sqLe (M : Int) (sq : List Int) : Prop := ∀ v ∈ sq, v ≤ M
def OfP (ts : List Ta) (nt : Nat) (tx mk M : Int) (l : List Ch) (w : World) (r : Ending) (w' : World) : Prop :=
  (∃ e : Int, e ≠ 0 ∧ r = .returned (.tuple #[.slice none 0 0, .agg #[.int .u64 0, .slice none 0 0], .int .i64 e]) ∧ ¬ (okC nt l ∧ l.length ≤ 200) ∧ Below w.heap.size w w') ∨
  (okC nt l ∧ l.length ≤ 200 ∧ ∃ (sv : Value) (G : Nat) (s1 s2 : List Int) (ol : List (Nat × ByteArray × Int)), r = .returned (.tuple #[sv, .agg #[.int .u64 (mk + 2), .slice (some ⟨G, 0, none⟩) nt nt], .int .i64 0]) ∧ w'.ownsRow w.heap.size 82 3 sv ol.length (outsC ts ol) ∧ olR ol = outOf nt tx l s1 s2 ∧ sqOk nt s1 ∧ sqOk nt s2 ∧ Blk w' G (s2.map (Value.int .u64)).toArray 29 ∧ sqLe (M + l.length) s2 ∧ Below w.heap.size w w')
theorem made_u64 (n : Nat) (hn : n ≤ 1000) (W : World) : (Instr.makeSlice 30 (.int .i64 n) (.int .i64 n)).run Tryd.prog W = .ok (.slice (some ⟨W.heap.size, 0, none⟩) n n) (W.alloc (.cells (Array.replicate n (Value.int .u64 0)) 29)) := by
  obtain ⟨i3, hi3, hy0, hy1, hy2⟩ := info_parts info_u64
  refine (run_makeSlice W 30 29 i3 _ Tryd.underlying30 hi3 hy0 .i64 .i64 n n (by omega) (by omega) (by rw [hy1]; omega) (by rw [hy2]; omega) (by omega)).trans ?_
  rw [hy1, show (n : Int).toNat = n by omega, made_cells1 _ rfl]
theorem sqOk_mk {nt : Nat} {tx : Int} {l : List Ch} {sq : List Int} (h : sqOk nt sq) (h1 : 1 ≤ nt) (h2 : nt ≤ 12) (ht : 0 ≤ tx ∧ tx ≤ 18446744073709551615) : (mkAt nt tx l false sq).wf ∧ mkB (mkAt nt tx l false sq) = true := by
  refine ⟨⟨by simp [mkAt], ht, (by intro v hv; simp [mkAt] at hv), h.2⟩, ?_⟩
  unfold mkB mkAt
  simp [h.1, h1, h2]
theorem sqOk_mk2 {nt : Nat} {tx : Int} {l : List Ch} {sq : List Int} (h : sqOk nt sq) (h1 : 1 ≤ nt) (h2 : nt ≤ 12) (hp : ∀ c ∈ l, 0 ≤ c.tb ∧ c.tb < nt) (hl : l.length ≤ 200) (ht : 0 ≤ tx ∧ tx ≤ 18446744073709551615) : (mkAt nt tx l true sq).wf ∧ mkB (mkAt nt tx l true sq) = true := by
  have hle : ∀ v ∈ cntsOf nt l, 0 ≤ v ∧ v ≤ l.length := by
    intro v hv
    obtain ⟨k, _, rfl⟩ := List.mem_map.1 hv
    have : cntT l (k : Int) ≤ l.length := List.countP_le_length
    omega
  refine ⟨⟨by simp [mkAt], ht, (by intro v hv; have := hle v hv; omega), h.2⟩, ?_⟩
  have hc : cntB (cntsOf nt l) = true := by
    unfold cntB
    rw [cnts_sum hp, Bool.and_eq_true, List.all_eq_true]
    exact ⟨fun v hv => by simpa using (hle v hv).1, by simp; omega⟩
  unfold mkB mkAt
  simp [h.1, h1, h2, hc, cntsOf_length]
/-- What holds at the head of each round. -/
structure OfI (ts : List Ta) (A : Option Addr) (c nt lo S P R G K O TB : Nat) (tx mk M : Int) (l : List Ch) (s1 : List Int) (w : World) (j : Nat) (wr : World) : Prop where
  ok : ∀ (i : Nat) (c : Ch), i < j → l[i]? = some c → 0 ≤ c.tb ∧ c.tb < nt ∧ evB (evAt tx l i c) = true
  s : Blk wr S #[.slice A nt c] 24
  p : Blk wr P #[.int .u64 (mk + 1), .slice (some ⟨G, 0, none⟩) nt nt] 32
  r : Blk wr R #[.int .u64 0, .slice none 0 0] 32
  g : ∃ sq : List Int, Blk wr G (sq.map (Value.int .u64)).toArray 29 ∧ sqOk nt sq ∧ sqLe (M + j) sq
  k : Blk wr K ((cntsOf nt (l.take j)).map (Value.int .i64)).toArray 3
  o : ∃ sv ol, Blk wr O #[sv] 78 ∧ wr.ownsRow lo 82 3 sv ol.length (outsC ts ol) ∧ olR ol = recM nt tx l false s1 :: evsTo tx l j
  t : ∃ cs, Blk wr TB cs 9 ∧ cs.size = nt + 1 ∧ ∀ i, i ≤ nt → cs[i]? = some (.string (topAt ts i))
  b : Below lo w wr
theorem OfI.ext {ts : List Ta} {A : Option Addr} {c nt lo S P R G K O TB : Nat} {tx mk M : Int} {l : List Ch} {s1 : List Int} {w : World} {j : Nat} {wr w' : World} (h : OfI ts A c nt lo S P R G K O TB tx mk M l s1 w j wr) (hb : Below wr.heap.size wr w') (hl : lo ≤ wr.heap.size) : OfI ts A c nt lo S P R G K O TB tx mk M l s1 w j w' := by
  obtain ⟨sq, g1, g2⟩ := h.g
  obtain ⟨sv, ol, o1, o2, o3⟩ := h.o
  obtain ⟨cs, t1, t2⟩ := h.t
  exact ⟨h.ok, h.s.ext hb, h.p.ext hb, h.r.ext hb, ⟨sq, g1.ext hb, g2⟩, h.k.ext hb, ⟨sv, ol, o1.ext hb, own_below o2 hb, o3⟩, ⟨cs, t1.ext hb, t2⟩, h.b.trans (hb.mono hl)⟩
theorem evputT (e : Ev) : ∃ t2 e2, evPutR e = .tuple #[.string t2, .int .i64 e2] ∧ ((e2 = 0 ∧ evB e = true ∧ t2 = ⟨(evL e).toArray⟩) ∨ (e2 = 2 ∧ evB e = false)) := by
  refine ⟨_, _, rfl, ?_⟩
  cases evB e with
  | true => exact Or.inl ⟨rfl, rfl, rfl⟩
  | false => exact Or.inr ⟨rfl, rfl⟩
theorem set_arr (f : Int → Value) (l : List Int) (k : Nat) (v : Int) : (l.map f).toArray.setIfInBounds k (f v) = ((l.set k v).map f).toArray := by
  apply Array.ext
  · simp
  · intro i h1 h2
    simp [List.getElem_set]
theorem cnts_set {nt k j : Nat} {l : List Ch} {c : Ch} (h : l[j]? = some c) (hc : c.tb = k) : ((cntsOf nt (l.take j)).map (Value.int .i64)).toArray.setIfInBounds k (.int .i64 ((cntT (l.take j) (k : Int) : Int) + 1)) = ((cntsOf nt (l.take (j + 1))).map (Value.int .i64)).toArray := by
  rw [set_arr]
  congr 2
  apply List.ext_getElem
  · simp [cntsOf]
  · intro i h1 h2
    have ht := cntT_take h (i : Int)
    rw [List.getElem_set]
    by_cases e : k = i
    · subst e
      rw [if_pos rfl]
      simp only [cntsOf, List.getElem_map, List.getElem_range]
      rw [ht, if_pos hc]
      simp
    · rw [if_neg e]
      simp only [cntsOf, List.getElem_map, List.getElem_range]
      rw [ht, if_neg (by omega)]
      simp
theorem sqOk_set {nt : Nat} {sq : List Int} {k : Nat} {v : Int} (h : sqOk nt sq) (hv : 0 ≤ v ∧ v ≤ 18446744073709551615) : sqOk nt (sq.set k v) := by
  refine ⟨by rw [List.length_set]; exact h.1, fun x hx => ?_⟩
  rcases List.mem_or_eq_of_mem_set hx with hx | rfl
  · exact h.2 x hx
  · exact hv
theorem sqLe_set {M : Int} {sq : List Int} {k : Nat} {v : Int} (h : sqLe M sq) (hv : v ≤ M + 1) : sqLe (M + 1) (sq.set k v) := by
  intro x hx
  rcases List.mem_or_eq_of_mem_set hx with hx | rfl
  · have := h x hx
    omega
  · exact hv
theorem Blk.below {w w' : World} {b B : Nat} {cs : Array Value} {t : TypeId} (h : Blk w b cs t) (hb : Below B w w') (hlt : b < B) : Blk w' b cs t := (hb.block b hlt).trans h
theorem blk_apart {w : World} {a b : Nat} {cs ds : Array Value} {t u : TypeId} (h1 : Blk w a cs t) (h2 : Blk w b ds u) (h : t ≠ u) : a ≠ b := by
  intro e
  subst e
  unfold Blk at h1 h2
  rw [h1] at h2
  simp only [Option.some.injEq, Obj.cells.injEq] at h2
  exact h h2.2.1
theorem kp_blk2 {p o b : Nat} {t tp tr u : TypeId} {w w' : World} {cs ps os : Array Value} (h : Kp [p, o] t w w') (hb : Blk w b cs u) (hp : Blk w p ps tp) (ho : Blk w o os tr) (h1 : u ≠ tp ∨ b ≠ p) (h2 : u ≠ tr) (h3 : u ≠ t) : Blk w' b cs u :=
  h.blk hb (by
    intro hm
    rcases List.mem_cons.1 hm with rfl | hm
    · rcases h1 with h1 | h1
      · exact blk_apart hb hp h1 rfl
      · exact h1 rfl
    · obtain rfl := List.mem_singleton.1 hm
      exact blk_apart hb ho h2 rfl) h3
theorem NRow.of_blk {k : IntKind} {w : World} {b : Nat} {l : List Int} {t : TypeId} (h : Blk w b (l.map (Value.int k)).toArray t) (hl : l.length ≤ 1000000) : NRow k w (some ⟨b, 0, none⟩) l :=
  ⟨by omega, fun _ => ⟨b, 0, rfl, h.lt, fun i v hi => by rw [Nat.zero_add, h.cell i]; simp [hi]⟩⟩
theorem NRow.nil_ (k : IntKind) (w : World) (A : Option Addr) : NRow k w A [] := ⟨by simp, fun h => absurd rfl h⟩
theorem putmk1 (nt G : Nat) (tx : Int) (l : List Ch) (sq : List Int) (W : World) (h : sqOk nt sq) (h1 : 1 ≤ nt) (h2 : nt ≤ 12) (ht : 0 ≤ tx ∧ tx ≤ 18446744073709551615) (hG : Blk W G (sq.map (Value.int .u64)).toArray 29) :
    Calls Tryd.prog 47 #[.agg #[.int .u8 1, .int .u64 tx, .slice none 0 0, .slice (some ⟨G, 0, none⟩) nt nt]] W fun r w' => r = .returned (.tuple #[.string (recM nt tx l false sq).2, .int .i64 0]) ∧ Below W.heap.size W w' := by
  obtain ⟨hw, hb⟩ := sqOk_mk (l := l) h h1 h2 ht
  have hc := putmark_any (mkAt nt tx l false sq) none (some ⟨G, 0, none⟩) 0 nt W hw (NRow.nil_ _ _ _) (NRow.of_blk hG (by have := h.1; show sq.length ≤ 1000000; omega))
  unfold mkPutR at hc
  rw [hb, okE_t, if_pos rfl] at hc
  have e : mkCells (mkAt nt tx l false sq) (.slice none (mkAt nt tx l false sq).cs.length 0) (.slice (some ⟨G, 0, none⟩) (mkAt nt tx l false sq).sq.length nt) = #[.int .u8 1, .int .u64 tx, .slice none 0 0, .slice (some ⟨G, 0, none⟩) nt nt] := by
    simp [mkCells, mkAt, h.1]
  rw [e] at hc
  exact hc
theorem putmk2 (nt G K : Nat) (tx : Int) (l : List Ch) (sq : List Int) (W : World) (h : sqOk nt sq) (h1 : 1 ≤ nt) (h2 : nt ≤ 12) (hp : ∀ c ∈ l, 0 ≤ c.tb ∧ c.tb < nt) (hl : l.length ≤ 200) (ht : 0 ≤ tx ∧ tx ≤ 18446744073709551615) (hG : Blk W G (sq.map (Value.int .u64)).toArray 29) (hK : Blk W K ((cntsOf nt l).map (Value.int .i64)).toArray 3) :
    Calls Tryd.prog 47 #[.agg #[.int .u8 2, .int .u64 tx, .slice (some ⟨K, 0, none⟩) nt nt, .slice (some ⟨G, 0, none⟩) nt nt]] W fun r w' => r = .returned (.tuple #[.string (recM nt tx l true sq).2, .int .i64 0]) ∧ Below W.heap.size W w' := by
  obtain ⟨hw, hb⟩ := sqOk_mk2 h h1 h2 hp hl ht
  have hc := putmark_any (mkAt nt tx l true sq) (some ⟨K, 0, none⟩) (some ⟨G, 0, none⟩) nt nt W hw (NRow.of_blk hK (by have := cntsOf_length nt l; show (cntsOf nt l).length ≤ 1000000; omega)) (NRow.of_blk hG (by have := h.1; show sq.length ≤ 1000000; omega))
  unfold mkPutR at hc
  rw [hb, okE_t, if_pos rfl] at hc
  have e : mkCells (mkAt nt tx l true sq) (.slice (some ⟨K, 0, none⟩) (mkAt nt tx l true sq).cs.length nt) (.slice (some ⟨G, 0, none⟩) (mkAt nt tx l true sq).sq.length nt) = #[.int .u8 2, .int .u64 tx, .slice (some ⟨K, 0, none⟩) nt nt, .slice (some ⟨G, 0, none⟩) nt nt] := by
    simp [mkCells, mkAt, h.1, cntsOf_length]
  rw [e] at hc
  exact hc
theorem cnts0 (nt : Nat) (l : List Ch) : ((cntsOf nt (l.take 0)).map (Value.int .i64)).toArray = Array.replicate nt (Value.int .i64 0) := by
  apply Array.ext
  · simp [cntsOf]
  · intro i h1 h2
    simp [cntsOf, cntT]
theorem splice_all {α : Type} (a b : List α) (h : b.length = a.length) : splice a 0 b = b := by
  unfold splice
  rw [List.drop_of_length_le (by omega)]
  simp
set_option maxRecDepth 100000 in
set_option maxHeartbeats 3200000 in
set_option linter.unusedSimpArgs false in
theorem of_any (ts : List Ta) (A PS LA : Option Addr) (c pc lc nt : Nat) (tx mk M : Int) (sq : List Int) (l : List Ch) (w : World) (hT : TRow w A c ts) (hs : schB ts = true) (hnt : nt = ts.length) (h1 : 1 ≤ nt) (h12 : nt ≤ 12) (hsq : NRow .u64 w PS sq) (hsl : sqOk nt sq) (hsm : sqLe M sq) (hM : M ≤ 1000000000) (hmk : 0 ≤ mk ∧ mk ≤ 1000000000) (htx : 0 ≤ tx ∧ tx ≤ 18446744073709551615) (hch : ChRow w LA l) (hTb : Tabs w) :
    Calls Tryd.prog 28 #[.agg #[.slice A nt c], .agg #[.int .u64 mk, .slice PS nt pc], .int .u64 tx, .slice LA l.length lc] w (OfP ts nt tx mk M l w) := by
  have HT := Lib.hid hT
  have HTP := Lib.hid (fun (W : World) (hW : Below w.heap.size w W) => topics_any ts A c W (hT.ext hW) hs (by omega))
  have HFT := Lib.hid (fun (W : World) (hW : Below w.heap.size w W) => fits_yes A PS c pc nt mk sq W (NRow.ext hsq hW) hsl.1 (by omega) (by omega) (fun v hv => by have := hsm v hv; omega))
  have HSQ := Lib.hid hsq
  have HSL := Lib.hid hsl
  have HSM := Lib.hid hsm
  have HNT := Lib.hid hnt
  have HCH := Lib.hid hch
  have HTB := Lib.hid (fun (W : World) (hW : Below w.heap.size w W) => hTb.ext hW)
  rw [← hnt] at HTP
  have hll := hch.1
  have hl0 : sq.length = nt := hsl.1
  have HL0 := Lib.hid hl0
  have heq : ∀ (W : World) (g n c : Nat), (binOp .eql 76 (.slice (some ⟨g, 0, none⟩) n c) (.slice none 0 0)).run Tryd.prog W = .ok (.bool false) W := fun _ _ _ _ => rfl
  clear hT hs hsq hsl hsm hnt hch hTb hl0
  go_enter Tryd.func28, Tryd.ntmps28
  go_wp2_with fail
  refine (HTP.out _ (by repeat (first | exact Below.refl _ _ | assumption | refine Below.drew ?_ | refine below_drewN ?_ _ | refine Below.alloc ?_ (by simp <;> omega) _))).mono ?_
  rintro r w1 ⟨TB, cs, rfl, hTBl, hTB, hcs, hall, hb⟩
  have hS : Blk w1 w.heap.size #[.slice A nt c] 24 := ((by repeat (first | exact Blk.at (by simp) | assumption | refine Blk.drew ?_ | refine Blk.old ?_ _)) : Blk _ w.heap.size #[.slice A nt c] 24).ext hb
  have hP : Blk w1 (w.heap.size + 1) #[.int .u64 mk, .slice PS nt pc] 32 := ((by repeat (first | exact Blk.at (by simp) | assumption | refine Blk.drew ?_ | refine Blk.old ?_ _)) : Blk _ (w.heap.size + 1) #[.int .u64 mk, .slice PS nt pc] 32).ext hb
  have hR : Blk w1 (w.heap.size + 1 + 1) #[.int .u64 0, .slice none 0 0] 32 := ((by repeat (first | exact Blk.at (by simp) | assumption | refine Blk.drew ?_ | refine Blk.old ?_ _)) : Blk _ (w.heap.size + 1 + 1) #[.int .u64 0, .slice none 0 0] 32).ext hb
  have hC : Below w.heap.size w w1 := bt (by repeat (first | exact Below.refl _ _ | assumption | refine Below.drew ?_ | refine below_drewN ?_ _ | refine Below.alloc ?_ (by simp <;> omega) _)) hb
  have HTT : Hid (∃ cs, Blk w1 TB cs 9 ∧ cs.size = nt + 1 ∧ ∀ i, i ≤ nt → cs[i]? = some (.string (topAt ts i))) := ⟨cs, hTB, by rw [HNT.out]; exact hcs, fun i hi => hall i (by rw [← HNT.out]; exact hi)⟩
  rw [← HNT.out]
  clear hb hTBl hTB hcs hall HTP
  obtain ⟨lo, hlo⟩ : ∃ lo, lo = w.heap.size := ⟨_, rfl⟩
  obtain ⟨P, hPe⟩ : ∃ P, P = w.heap.size + 1 := ⟨_, rfl⟩
  obtain ⟨R, hRe⟩ : ∃ R, R = w.heap.size + 1 + 1 := ⟨_, rfl⟩
  rw [← hRe] at hR ⊢
  rw [← hPe] at hP ⊢
  rw [← hlo] at hS hC ⊢
  have HLO := Lib.hid hlo
  have HPE := Lib.hid (show lo < P ∧ P < R by omega)
  clear hlo hPe hRe
  have HS := Lib.hid hS
  have HP := Lib.hid hP
  have HR := Lib.hid hR
  have HC := Lib.hid hC
  have s0 := hS.cell 0
  have lS := hS.lt
  have p0 := hP.cell 0
  have p1 := hP.cell 1
  have lP := hP.lt
  simp only [List.getElem?_toArray, List.getElem?_cons_zero, List.getElem?_cons_succ] at s0 p0 p1
  clear hS hP hR hC
  go_wp2_with fail
  refine (HFT.out _ (by rw [← HLO.out]; exact HC.out)).mono ?_
  rintro r w2 ⟨rfl, hb⟩
  have HS := Lib.hid (HS.out.ext hb)
  have HP := Lib.hid (HP.out.ext hb)
  have HR := Lib.hid (HR.out.ext hb)
  have HTT : Hid (∃ cs, Blk w2 TB cs 9 ∧ cs.size = nt + 1 ∧ ∀ i, i ≤ nt → cs[i]? = some (.string (topAt ts i))) := by obtain ⟨cs, h1, h2⟩ := HTT.out; exact ⟨cs, h1.ext hb, h2⟩
  have HC : Hid (Below lo w w2) := HC.out.trans (hb.mono (Nat.le_of_lt (Nat.lt_of_lt_of_le lS (Nat.le_refl _))))
  clear hb HFT s0 lS p0 p1 lP
  have s0 := HS.out.cell 0
  have lS := HS.out.lt
  simp only [List.getElem?_toArray, List.getElem?_cons_zero, List.getElem?_cons_succ] at s0
  by_cases h200 : 200 < l.length
  · have hge : (200 : Int) < l.length := by omega
    obtain ⟨w6, he, lt⟩ := blk_put HR.out
    obtain ⟨pc1, pf1, pS1⟩ := putBlk_facts (w := w6) 32 lt
    subst he
    go_wp2_with fail
    refine bodyPost_ret (v := .tuple #[.slice none 0 0, .agg #[.int .u64 0, .slice none 0 0], .int .i64 2]) (by simp [results, Tryd.results28, go_sem, pc1]) rfl (Or.inl ⟨2, by omega, rfl, (fun h => by have := h.2; omega), ?_⟩)
    rw [← HLO.out]
    exact HC.out
  · have hge : ¬ (200 : Int) < l.length := by omega
    have p0 := HP.out.cell 0
    have p1 := HP.out.cell 1
    have lP := HP.out.lt
    simp only [List.getElem?_toArray, List.getElem?_cons_zero, List.getElem?_cons_succ] at p0 p1
    have hmu := fun (W : World) => made_u64 nt (by omega) W
    have hmi := fun (W : World) => madeN_run nt (by omega) W
    go_upto_region 5 with fail
    have HLG : Hid (w.heap.size ≤ w2.heap.size ∧ P < w2.heap.size ∧ R < w2.heap.size ∧ TB < w2.heap.size ∧ lo < w2.heap.size) := by
      obtain ⟨cs, h1, _⟩ := HTT.out
      exact ⟨by rw [← HLO.out]; exact Nat.le_of_lt lS, lP, HR.out.lt, h1.lt, lS⟩
    have hA : Below w2.heap.size w2 (w2.alloc (.cells (Array.replicate nt (Value.int .u64 0)) 29)) := (by repeat (first | exact Below.refl _ _ | assumption | refine Below.drew ?_ | refine below_drewN ?_ _ | refine Below.alloc ?_ (by simp <;> omega) _))
    have HG : Hid (Blk (w2.alloc (.cells (Array.replicate nt (Value.int .u64 0)) 29)) w2.heap.size (List.replicate nt (Value.int .u64 0)).toArray 29) := by rw [List.toArray_replicate]; exact Blk.new _ _ _
    have HS := Lib.hid (HS.out.ext hA)
    have HP := Lib.hid (HP.out.ext hA)
    have HR := Lib.hid (HR.out.ext hA)
    have HTT : Hid (∃ cs, Blk (w2.alloc (.cells (Array.replicate nt (Value.int .u64 0)) 29)) TB cs 9 ∧ cs.size = nt + 1 ∧ ∀ i, i ≤ nt → cs[i]? = some (.string (topAt ts i))) := by obtain ⟨cs, h1, h2⟩ := HTT.out; exact ⟨cs, h1.ext hA, h2⟩
    have HC : Hid (Below lo w (w2.alloc (.cells (Array.replicate nt (Value.int .u64 0)) 29))) := HC.out.trans (hA.mono (Nat.le_of_lt lS))
    clear hA s0 lS p0 p1 lP
    generalize w2.alloc (.cells (Array.replicate nt (Value.int .u64 0)) 29) = W3 at HG HS HP HR HTT HC ⊢
    generalize w2.heap.size = G at HG HLG ⊢
    have s0 := HS.out.cell 0
    have lS := HS.out.lt
    have p1 := HP.out.cell 1
    have lP := HP.out.lt
    simp only [List.getElem?_toArray, List.getElem?_cons_zero, List.getElem?_cons_succ] at s0 p1
    have hsz1 : (Tryd.prog.info? 29).map (·.size) = some 1 := by kernel_rfl
    have hmin : ((sq.map (Value.int .u64)).length = Nat.min nt nt) := by rw [List.length_map, HL0.out]; exact (Nat.min_self _).symm
    have HPOS : Hid (∃ ad, PS = some ad ∧ ∀ j v, (sq.map (Value.int .u64))[j]? = some v → W3.cell? (ad.add j) = some v) := by
      obtain ⟨b, o, e, _⟩ := HSQ.out.2 (by intro e; have := HL0.out; rw [e] at this; simp at this; omega)
      subst e
      have hsq3 : NRow .u64 W3 (some ⟨b, o, none⟩) sq := NRow.ext HSQ.out (by rw [← HLO.out]; exact HC.out)
      exact ⟨_, rfl, hsq3.news⟩
    have HGR : Hid (∃ Z : List Value, Z.length = nt ∧ W3.heap[G]? = some (.cells Z.toArray 29 (0, 0))) := ⟨_, List.length_replicate, HG.out⟩
    obtain ⟨Z, hZl, hZ⟩ := HGR.out
    have HZ := Lib.hid hZ
    have HFITC := Lib.hid (show 0 + (sq.map (Value.int .u64)).length ≤ Z.length by rw [List.length_map, hZl, HL0.out]; omega)
    have HZL := Lib.hid hZl
    clear hZl hZ HGR HG
    have HMIN := Lib.hid hmin
    clear hmin
    go_wp2_with (with_reducible refine wpList_copy_splice rfl (.tmp 44) (.tmp 46) 30 30 rfl 29 Tryd.underlying30 hsz1 (some ⟨G, 0, none⟩) PS nt nt nt pc rfl rfl G 0 Z 29 HZ.out (sq.map (Value.int .u64)) HMIN.out (fun _ => ⟨rfl, HPOS.out⟩) HFITC.out (one_ints _ _) G W3 (Below.refl _ _) (Nat.le_refl _) ?_)
    intro W4 hG4 hb4
    rw [splice_all Z _ (by rw [List.length_map, HZL.out, HL0.out])] at hG4
    have HG : Hid (Blk W4 G (sq.map (Value.int .u64)).toArray 29) := hG4
    obtain ⟨lg0, lgP, lgR, lgT, lgL⟩ := HLG.out
    have HS := Lib.hid (HS.out.below hb4 lgL)
    have hP4 := HP.out.below hb4 lgP
    have hR4 := HR.out.below hb4 lgR
    have HTT : Hid (∃ cs, Blk W4 TB cs 9 ∧ cs.size = nt + 1 ∧ ∀ i, i ≤ nt → cs[i]? = some (.string (topAt ts i))) := by obtain ⟨cs, h1, h2⟩ := HTT.out; exact ⟨cs, h1.below hb4 lgT, h2⟩
    have hC4 : Below lo w W4 := HC.out.trans (hb4.mono (Nat.le_of_lt lgL))
    have hPR : R ≠ P := by have := HPE.out; omega
    have hPl : lo < P := HPE.out.1
    have HPE2 := Lib.hid (show lo ≠ P ∧ P ≠ G ∧ lo ≤ P ∧ lo ≤ G by omega)
    clear hG4 hb4 HC HP HR HZ HZL HFITC HMIN HPOS s0 lS p1 lP hsz1 lg0 lgR lgT lgL lgP HLG hPl
    have HTP : Hid (TB ≠ P) := by obtain ⟨cs, h1, _⟩ := HTT.out; exact blk_apart h1 hP4 (by decide)
    obtain ⟨w6, rfl, lt⟩ := blk_put hP4
    obtain ⟨pc1, pf1, pS1⟩ := putBlk_facts (w := w6) 32 lt
    have HR := Lib.hid (putBlk_old hR4 hPR #[.int .u64 mk, .slice (some ⟨G, 0, none⟩) nt nt])
    have HS := Lib.hid (putBlk_old HS.out HPE2.out.1 #[.int .u64 mk, .slice (some ⟨G, 0, none⟩) nt nt])
    have HG := Lib.hid (putBlk_old HG.out (fun e => HPE2.out.2.1 e.symm) #[.int .u64 mk, .slice (some ⟨G, 0, none⟩) nt nt])
    have HTT : Hid (∃ cs, Blk (putBlk w6 P #[.int .u64 mk, .slice (some ⟨G, 0, none⟩) nt nt] 32) TB cs 9 ∧ cs.size = nt + 1 ∧ ∀ i, i ≤ nt → cs[i]? = some (.string (topAt ts i))) := by obtain ⟨cs, h1, h2⟩ := HTT.out; exact ⟨cs, putBlk_old h1 HTP.out _, h2⟩
    have HC := Lib.hid (putBlk_belows hC4 HPE2.out.2.2.1 #[.int .u64 mk, .slice (some ⟨G, 0, none⟩) nt nt])
    have HP := Lib.hid (putBlk_blk (w := w6) #[.int .u64 mk, .slice (some ⟨G, 0, none⟩) nt nt] 32 lt)
    clear hP4 hR4 hC4
    go_upto_region 7 with fail
    clear pc1 pf1 pS1 lt
    generalize putBlk w6 P #[.int .u64 mk, .slice (some ⟨G, 0, none⟩) nt nt] 32 = W5 at HR HS HG HTT HC HP ⊢
    go_upto_region 10 with fail
    have hA : Below W5.heap.size W5 ((W5.alloc (.cells (Array.replicate nt (Value.int .i64 0)) 3)).alloc (.cells #[.slice none 0 0] 78)) := (by repeat (first | exact Below.refl _ _ | assumption | refine Below.drew ?_ | refine below_drewN ?_ _ | refine Below.alloc ?_ (by simp <;> omega) _))
    have HK : Hid (Blk ((W5.alloc (.cells (Array.replicate nt (Value.int .i64 0)) 3)).alloc (.cells #[.slice none 0 0] 78)) W5.heap.size ((cntsOf nt (l.take 0)).map (Value.int .i64)).toArray 3) := by rw [cnts0]; exact (Blk.new W5 _ _).old _
    have HO : Hid (Blk ((W5.alloc (.cells (Array.replicate nt (Value.int .i64 0)) 3)).alloc (.cells #[.slice none 0 0] 78)) (W5.heap.size + 1) #[.slice none 0 0] 78) := (by repeat (first | exact Blk.at (by simp) | assumption | refine Blk.drew ?_ | refine Blk.old ?_ _))
    have lP5 := HP.out.lt
    have hlo5 : lo ≤ W5.heap.size := Nat.le_trans HPE2.out.2.2.1 (Nat.le_of_lt HP.out.lt)
    have HC := Lib.hid (HC.out.trans (hA.mono hlo5))
    have HR := Lib.hid (HR.out.ext hA)
    have HS := Lib.hid (HS.out.ext hA)
    have HP := Lib.hid (HP.out.ext hA)
    have HG := Lib.hid (HG.out.ext hA)
    have HTT : Hid (∃ cs, Blk ((W5.alloc (.cells (Array.replicate nt (Value.int .i64 0)) 3)).alloc (.cells #[.slice none 0 0] 78)) TB cs 9 ∧ cs.size = nt + 1 ∧ ∀ i, i ≤ nt → cs[i]? = some (.string (topAt ts i))) := by obtain ⟨cs, h1, h2⟩ := HTT.out; exact ⟨cs, h1.ext hA, h2⟩
    have HKO : Hid (lo ≤ W5.heap.size ∧ P < W5.heap.size) := ⟨hlo5, lP5⟩
    clear hA hlo5 hmu hmi lP5
    generalize (W5.alloc (.cells (Array.replicate nt (Value.int .i64 0)) 3)).alloc (.cells #[.slice none 0 0] 78) = W6 at HK HO HC HR HS HP HG HTT ⊢
    generalize W5.heap.size = K at HK HO HKO ⊢
    generalize hO1 : K + 1 = O at HO ⊢
    have HKO : Hid (lo ≤ K ∧ P < K ∧ K < O ∧ lo ≤ P) := by have h5 := HKO.out; have h6 := HPE2.out; exact ⟨h5.1, h5.2, by omega, h6.2.2.1⟩
    clear hO1
    go_wp2_with fail
    refine (putmk1 nt G tx l sq _ HSL.out h1 h12 htx HG.out).mono ?_
    rintro r w7 ⟨rfl, hb⟩
    have HC := Lib.hid (HC.out.trans (hb.mono (by have := HO.out.lt; have := HKO.out; omega)))
    have HR := Lib.hid (HR.out.ext hb)
    have HS := Lib.hid (HS.out.ext hb)
    have HP := Lib.hid (HP.out.ext hb)
    have HG := Lib.hid (HG.out.ext hb)
    have HK := Lib.hid (HK.out.ext hb)
    have HO := Lib.hid (HO.out.ext hb)
    have HTT : Hid (∃ cs, Blk w7 TB cs 9 ∧ cs.size = nt + 1 ∧ ∀ i, i ≤ nt → cs[i]? = some (.string (topAt ts i))) := by obtain ⟨cs, h1, h2⟩ := HTT.out; exact ⟨cs, h1.ext hb, h2⟩
    generalize hT1 : (recM nt tx l false sq).2 = t1
    have HT1 := Lib.hid hT1
    clear hb hT1
    go_wp2_with fail
    refine (of1_any P 0 O lo 0 32 #[.int .u64 mk, .slice (some ⟨G, 0, none⟩) nt nt] mk marksS t1 (.slice none 0 0) [] w7 HP.out rfl (by omega) (by omega) HO.out (World.ownsRow_nil _ _ _ _) (by have := HKO.out; omega) (by decide) HKO.out.2.2.2 (by have := HKO.out; omega) (by omega)).mono ?_
    rintro r w8 ⟨rfl, ⟨sv, hown, hO8⟩, hP8, hkp, hbel⟩
    have HI : Hid (OfI ts A c nt lo lo P R G K O TB tx mk M l sq w 0 w8) := by
      have hRP : R ≠ P := by have := HPE.out; omega
      refine ⟨fun i c h => absurd h (by omega), kp_blk2 hkp HS.out HP.out HO.out (Or.inl (by decide)) (by decide) (by decide), hP8, kp_blk2 hkp HR.out HP.out HO.out (Or.inr hRP) (by decide) (by decide), ⟨sq, kp_blk2 hkp HG.out HP.out HO.out (Or.inl (by decide)) (by decide) (by decide), HSL.out, fun v hv => by have := HSM.out v hv; simpa using this⟩, kp_blk2 hkp HK.out HP.out HO.out (Or.inl (by decide)) (by decide) (by decide), ⟨sv, [(0, t1, mk + 1)], hO8, ?_, ?_⟩, ?_, ?_⟩
      · simpa [outsC, topAt] using hown
      · rw [← HT1.out]
        simp [olR, evsTo, recM]
      · obtain ⟨cs, h1, h2⟩ := HTT.out
        exact ⟨cs, kp_blk2 hkp h1 HP.out HO.out (Or.inl (by decide)) (by decide) (by decide), h2⟩
      · exact HC.out.trans hbel
    clear hkp hbel hO8 hP8 hown HC HR HS HP HG HK HO HTT
    go_upto_region 13 with fail
    have HGK : Hid (lo ≤ K) := HKO.out.1
    have HGL : Hid (lo ≤ G ∧ lo ≤ O) := by have h5 := HKO.out; have h6 := HPE2.out; exact ⟨h6.2.2.2, by omega⟩
    have HLR : Hid (lo ≤ R) := by have := HPE.out; show lo ≤ R; omega
    go_loopw [67] (fun i wr => ∃ j : Nat, j ≤ l.length ∧ i = .int .i64 j ∧ Hid (OfI ts A c nt lo lo P R G K O TB tx mk M l sq w j wr)) (fun i _ => l.length - (intOf i).toNat)
    case atStart => exact ⟨0, by omega, rfl, HI⟩
    case round =>
      obtain ⟨j, hj, rfl, HI⟩ := hrel
      by_cases hlt : j < l.length
      · have hwlo : w.heap.size = lo := HLO.out.symm
        obtain ⟨b, off, ch, rfl, hbl, hcj, hcw, A1, A2, c1, c2, e0, e1, e2, e3, v1, v2⟩ := (HCH.out.ext (by rw [hwlo]; exact HI.out.b)).at_ hlt
        clear hwlo
        obtain ⟨ck, ctb, cbf, caf⟩ := ch
        simp only at e0 e1 e2 e3 v1 v2
        obtain ⟨hck, hctb⟩ := hcw
        simp only at hck hctb
        have HCJ := Lib.hid hcj
        have HV1 := Lib.hid v1
        have HV2 := Lib.hid v2
        clear hcj v1 v2
        go_upto_region 15 with fail
        have hA : Below wr.heap.size wr (wr.alloc (.cells #[.int .u8 ck, .int .i64 ctb, .slice A1 cbf.length c1, .slice A2 caf.length c2] 57)) := (by repeat (first | exact Below.refl _ _ | assumption | refine Below.drew ?_ | refine below_drewN ?_ _ | refine Below.alloc ?_ (by simp <;> omega) _))
        have HCB : Hid (Blk (wr.alloc (.cells #[.int .u8 ck, .int .i64 ctb, .slice A1 cbf.length c1, .slice A2 caf.length c2] 57)) wr.heap.size #[.int .u8 ck, .int .i64 ctb, .slice A1 cbf.length c1, .slice A2 caf.length c2] 57) := Blk.new _ _ _
        have hlw : lo ≤ wr.heap.size := Nat.le_of_lt HI.out.s.lt
        have HI := Lib.hid (HI.out.ext hA hlw)
        have HV1 := Lib.hid (HV1.out.ext hA)
        have HV2 := Lib.hid (HV2.out.ext hA)
        have HCL : Hid (lo ≤ wr.heap.size) := hlw
        clear hA e0 e1 e2 e3 hlw hbl
        generalize wr.alloc (.cells #[.int .u8 ck, .int .i64 ctb, .slice A1 cbf.length c1, .slice A2 caf.length c2] 57) = wa at HCB HI HV1 HV2 ⊢
        generalize wr.heap.size = C at HCB HCL ⊢
        have a1 := HCB.out.cell 1
        have lC := HCB.out.lt
        simp only [List.getElem?_toArray, List.getElem?_cons_zero, List.getElem?_cons_succ] at a1
        by_cases hneg : ctb < 0
        · have HBAD : Hid (¬ (okC nt l ∧ l.length ≤ 200)) := fun h => by
            have h5 : (0 : Int) ≤ ctb := (h.1 j _ HCJ.out).1
            omega
          have HRR := Lib.hid HI.out.r
          have HCC := Lib.hid HI.out.b
          clear HI HCB HV1 HV2
          obtain ⟨w6, he, lt⟩ := blk_put HRR.out
          obtain ⟨pc1, pf1, pS1⟩ := putBlk_facts (w := w6) 32 lt
          subst he
          go_wp2_with fail
          refine bodyPost_ret (v := .tuple #[.slice none 0 0, .agg #[.int .u64 0, .slice none 0 0], .int .i64 2]) (by simp [results, Tryd.results28, go_sem, pc1]) rfl (Or.inl ⟨2, by omega, rfl, HBAD.out, ?_⟩)
          rw [← HLO.out]
          exact putBlk_belows HCC.out HLR.out _
        · by_cases hbig : (nt : Int) ≤ ctb
          · have HBAD : Hid (¬ (okC nt l ∧ l.length ≤ 200)) := fun h => by
              have h5 : ctb < (nt : Int) := (h.1 j _ HCJ.out).2.1
              omega
            have HRR := Lib.hid HI.out.r
            have HCC := Lib.hid HI.out.b
            clear HI HCB HV1 HV2
            obtain ⟨w6, he, lt⟩ := blk_put HRR.out
            obtain ⟨pc1, pf1, pS1⟩ := putBlk_facts (w := w6) 32 lt
            subst he
            go_wp2_with fail
            refine bodyPost_ret (v := .tuple #[.slice none 0 0, .agg #[.int .u64 0, .slice none 0 0], .int .i64 2]) (by simp [results, Tryd.results28, go_sem, pc1]) rfl (Or.inl ⟨2, by omega, rfl, HBAD.out, ?_⟩)
            rw [← HLO.out]
            exact putBlk_belows HCC.out HLR.out _
          · obtain ⟨k, rfl⟩ := Int.eq_ofNat_of_zero_le (show 0 ≤ ctb by omega)
            have hk : k < nt := by omega
            go_upto_region 17 with fail
            have hcnt := cntsOf_at (l.take j) hk
            have hKb := HI.out.k
            have hnl : cntT (l.take j) (k : Int) ≤ 200 := by
              have h1 : cntT (l.take j) (k : Int) ≤ (l.take j).length := List.countP_le_length
              have h2 := List.length_take_le j l
              omega
            obtain ⟨t2, e2, hpe, hee⟩ := evputT (evAt tx l j ⟨ck, k, cbf, caf⟩)
            have HEP := Lib.hid (fun (W : World) (hW : Below wa.heap.size wa W) => evput_any (evAt tx l j ⟨ck, k, cbf, caf⟩) A1 A2 c1 c2 W (HTB.out W (by have h1 := HI.out.b.trans (hW.mono (Nat.le_trans HCL.out (Nat.le_of_lt lC))); rw [← HLO.out]; exact h1)) ⟨htx, ⟨by show (-9223372036854775808 : Int) ≤ (j : Int); omega, by show (j : Int) ≤ 9223372036854775807; omega⟩, ⟨by show (-9223372036854775808 : Int) ≤ ((cntT (l.take j) (k : Int) : Nat) : Int); omega, by show ((cntT (l.take j) (k : Int) : Nat) : Int) ≤ 9223372036854775807; omega⟩, hck, hctb⟩ (HV1.out.ext hW) (HV2.out.ext hW))
            rw [hpe] at HEP
            simp only [evCells, evAt] at HEP
            have HEE := Lib.hid hee
            have k0 := hKb.cell k
            rw [List.getElem?_toArray, List.getElem?_map, hcnt] at k0
            simp only [Option.map_some] at k0
            have HN := Lib.hid (rfl : cntT (l.take j) (k : Int) = cntT (l.take j) (k : Int))
            generalize hnn : cntT (l.take j) (k : Int) = nn at k0 HEP hnl
            have HNN := Lib.hid hnn
            have lK := hKb.lt
            have a0 := HCB.out.cell 0
            have a2 := HCB.out.cell 2
            have a3 := HCB.out.cell 3
            simp only [List.getElem?_toArray, List.getElem?_cons_zero, List.getElem?_cons_succ] at a0 a2 a3
            clear hpe hee hcnt hKb hnn HN
            refine region_grow [false, false, false, false, false, false, false, false, false, false, false, false, false, false, false, false, false, false, false, false, true, true, false, false, false, false, false, false, false, false, false, false, false, false, false, false, false, false, false, false, false, false, false, false, false, false, false, false, false, false, false, false, false, false, false, false, false, false, false, false, false, false, false, false, false, false, false, false, false, false, false, false, false, false, false, false, false, false, false, false, false, false, false, true, true, true, true, true, true, true, true, true, true, true, true, true, false, false, false, false, false, false, false, false, false, false, false, false, false, false, false, false, false, false, false, false, false, false, false, false, false, false, false, false, false, false, false, false, false, false, false, false, false, false, false] [84, 85, 86, 87, 88, 89, 90, 91, 92, 93, 83, 94, 95, 20, 21] [.val (.int .u64 tx), .val (.int .i64 j), .val (.slice (some ⟨K, 0, none⟩) nt nt), .val (.pointer (some ⟨C, 1, none⟩)), .val (.int .i64 k), .val (.pointer (some ⟨K, k, none⟩)), .val (.int .i64 nn), .val (.agg #[.int .u8 ck, .int .i64 k, .slice A1 cbf.length c1, .slice A2 caf.length c2]), .val (.agg #[.int .u64 tx, .int .i64 j, .int .i64 nn, .int .u8 ck, .int .i64 k, .slice A1 cbf.length c1, .slice A2 caf.length c2]), .val (.tuple #[.string t2, .int .i64 e2]), .val (.tuple #[.string t2, .int .i64 e2]), .val (.string t2), .val (.int .i64 e2), .val (.string t2), .val (.int .i64 e2)] [13, 14] (by kernel_rfl) (by kernel_rfl) (by kernel_rfl) (by kernel_rfl) (by kernel_rfl) ⟨?_, ?_, ?_, ?_, ?_, ?_, ?_, ?_, ?_, ?_, ?_, ?_, ?_, ?_, ?_, trivial⟩ ?done
            case done =>
              intro x w5 hb5
              simp only [StepGoal, List.getD_cons_zero, List.getD_cons_succ]
              simp only [overlay, upd, cond_true, cond_false, Nat.reduceEqDiff, reduceIte]
              have hlw : lo ≤ wa.heap.size := Nat.le_of_lt HI.out.s.lt
              rcases HEE.out with ⟨rfl, hevb, ht2⟩ | ⟨rfl, hevb⟩
              · have HT2 := Lib.hid ht2
                have HEVB := Lib.hid hevb
                obtain ⟨tcs, ht1, htn, htc⟩ := HI.out.t
                have ht1 := ht1.ext hb5
                have tk := ht1.cell (k + 1)
                rw [htc (k + 1) (by omega)] at tk
                have lT := ht1.lt
                have hC5 := HCB.out.ext hb5
                have a1 := hC5.cell 1
                have lC := hC5.lt
                simp only [List.getElem?_toArray, List.getElem?_cons_zero, List.getElem?_cons_succ] at a1
                have hk2 : k + 1 < nt + 1 := by omega
                have HI5 := Lib.hid (HI.out.ext hb5 hlw)
                have HC5 := Lib.hid hC5
                clear ht1 htc htn HEE hevb ht2 HI HCB HEP hC5 hlw hb5 a0 a2 a3 k0 lK HV1 HV2
                go_upto_region 20 with fail
                have hi1 : IntKind.i64.wrap ((k : Int) + 1) = (k : Int) + 1 := IntWalk.i64_in _ (by omega)
                have hi2 : (0 : Int) ≤ (k : Int) + 1 := by omega
                have hi3 : ((k : Int) + 1).toNat = k + 1 := by omega
                go_still_tail 12, (by kernel_rfl)
                clear hi1 hi2 hi3
                change wpList _ _ _ _ _ w5.drew
                have hd : Below w5.heap.size w5 w5.drew := (by repeat (first | exact Below.refl _ _ | assumption | refine Below.drew ?_ | refine below_drewN ?_ _ | refine Below.alloc ?_ (by simp <;> omega) _))
                have hlw : lo ≤ w5.heap.size := Nat.le_of_lt HI5.out.s.lt
                have HI := Lib.hid (HI5.out.ext hd hlw)
                have HCB := Lib.hid (HC5.out.ext hd)
                clear hd HI5 HC5 tk lT a1 lC hlw
                generalize w5.drew = w6 at HI HCB ⊢
                obtain ⟨sqs, hg1, hg2, hg3⟩ := HI.out.g
                obtain ⟨sv, ol, ho1, ho2, ho3⟩ := HI.out.o
                have hkl : k < sqs.length := by rw [hg2.1]; exact hk
                obtain ⟨v, hv⟩ : ∃ v, sqs[k]? = some v := ⟨_, List.getElem?_eq_getElem hkl⟩
                have hv0 := hg2.2 v (List.mem_of_getElem? hv)
                have hv1 := hg3 v (List.mem_of_getElem? hv)
                have hol : ol.length = j + 1 := by rw [← olR_length, ho3, List.length_cons, evsTo_length]
                have HOF := Lib.hid (of1_any G k O lo ol.length 29 (sqs.map (Value.int .u64)).toArray v (topAt ts (k + 1)) t2 sv (outsC ts ol) w6 hg1 (by simp [hv]) hv0.1 (by omega) ho1 ho2 (blk_apart hg1 ho1 (by decide)) (by decide) HGL.out.1 HGL.out.2 (by omega))
                have HG1 := Lib.hid hg1
                have HO1 := Lib.hid ho1
                have HSQS := Lib.hid (show sqOk nt (sqs.set k (v + 1)) ∧ sqLe (M + ((j + 1 : Nat) : Int)) (sqs.set k (v + 1)) from ⟨sqOk_set hg2 (by omega), by
                  have := sqLe_set (k := k) (v := v + 1) hg3 (by omega)
                  rw [show M + ((j + 1 : Nat) : Int) = M + (j : Int) + 1 by omega]
                  exact this⟩)
                have HO3 := Lib.hid ho3
                have HOL := Lib.hid hol
                clear hg1 hg2 hg3 ho1 ho2 ho3 hkl hv hv0 hv1 hol
                go_wp2_with fail
                refine HOF.out.mono ?_
                rintro r w7 ⟨rfl, ⟨sv', hown, hO7⟩, hG7, hkp, hbel⟩
                have hk0 : ((cntsOf nt (l.take j)).map (Value.int .i64)).toArray[k]? = some (.int .i64 nn) := by
                  rw [List.getElem?_toArray, List.getElem?_map, cntsOf_at (l.take j) hk, HNN.out]
                  rfl
                have hks := cnts_set (nt := nt) (k := k) HCJ.out rfl
                rw [HNN.out] at hks
                have hK7 := kp_blk2 hkp HI.out.k HG1.out HO1.out (Or.inl (by decide)) (by decide) (by decide)
                have hC7 := kp_blk2 hkp HCB.out HG1.out HO1.out (Or.inl (by decide)) (by decide) (by decide)
                have hS7 := kp_blk2 hkp HI.out.s HG1.out HO1.out (Or.inl (by decide)) (by decide) (by decide)
                have hP7 := kp_blk2 hkp HI.out.p HG1.out HO1.out (Or.inl (by decide)) (by decide) (by decide)
                have hR7 := kp_blk2 hkp HI.out.r HG1.out HO1.out (Or.inl (by decide)) (by decide) (by decide)
                obtain ⟨tcs, ht1, ht2, ht3⟩ := HI.out.t
                have hT7 := kp_blk2 hkp ht1 HG1.out HO1.out (Or.inl (by decide)) (by decide) (by decide)
                have hB7 := HI.out.b.trans hbel
                have HOK := Lib.hid HI.out.ok
                rw [set_arr] at hG7
                generalize ((cntsOf nt (l.take j)).map (Value.int .i64)).toArray = kc at hk0 hks hK7
                have HKS := Lib.hid hks
                have hCK : C ≠ K := blk_apart hC7 hK7 (by decide)
                obtain ⟨w8, rfl, lt⟩ := blk_put hK7
                obtain ⟨pc1, pf1, pS1⟩ := putBlk_facts (w := w8) 3 lt
                have HF : Hid (OfI ts A c nt lo lo P R G K O TB tx mk M l sq w (j + 1) (putBlk w8 K (kc.setIfInBounds k (.int .i64 ((nn : Int) + 1))) 3)) := by
                  refine ⟨fun i ch hi hch => ?_, putBlk_old hS7 (blk_apart hS7 hK7 (by decide)) _, putBlk_old hP7 (blk_apart hP7 hK7 (by decide)) _, putBlk_old hR7 (blk_apart hR7 hK7 (by decide)) _, ⟨sqs.set k (v + 1), putBlk_old hG7 (blk_apart hG7 hK7 (by decide)) _, HSQS.out.1, HSQS.out.2⟩, ?_, ⟨sv', ol ++ [(k + 1, t2, v + 1)], putBlk_old hO7 (blk_apart hO7 hK7 (by decide)) _, ?_, ?_⟩, ⟨tcs, putBlk_old hT7 (blk_apart hT7 hK7 (by decide)) _, ht2, ht3⟩, putBlk_belows hB7 HGK.out _⟩
                  · rcases Nat.lt_or_ge i j with h | h
                    · exact HOK.out i ch h hch
                    · obtain rfl : i = j := by omega
                      rw [HCJ.out] at hch
                      obtain rfl := Option.some.inj hch
                      exact ⟨by show (0 : Int) ≤ (k : Int); omega, by show (k : Int) < (nt : Int); omega, HEVB.out⟩
                  · rw [← HKS.out]
                    exact putBlk_blk _ _ lt
                  · rw [List.length_append, outsC_snoc]
                    exact own_put hown lt (by decide) _
                  · rw [olR_snoc, HO3.out, evsTo_succ, List.cons_append]
                    congr 2
                    unfold recE
                    rw [HCJ.out, HT2.out]
                    simp
                have hm1 := putBlk_old hC7 hCK kc
                have a1 := hm1.cell 1
                have lC := hm1.lt
                simp only [List.getElem?_toArray, List.getElem?_cons_zero, List.getElem?_cons_succ] at a1
                clear hks hC7 hS7 hP7 hR7 ht1 ht2 ht3 hT7 hB7 hkp hbel hown hO7 hG7 hK7 hm1 HI HCB HOF HG1 HO1 hCK
                go_wp2_with fail
                go_roundw
                case rel => exact ⟨j + 1, by omega, by go_num, HF⟩
                case measure => simp [intOf]; omega
              · have HBAD : Hid (¬ (okC nt l ∧ l.length ≤ 200)) := fun h => by
                  have h5 := (h.1 j _ HCJ.out).2.2
                  have h6 : evB (evAt tx l j ⟨ck, k, cbf, caf⟩) = true := h5
                  rw [hevb] at h6
                  cases h6
                clear hevb
                have HRR := Lib.hid (HI.out.ext hb5 hlw).r
                have HCC := Lib.hid (HI.out.ext hb5 hlw).b
                clear HI HCB HV1 HV2 HEP HEE a0 a2 a3 k0 lK hlw hb5 a1 lC
                obtain ⟨w6, he, lt⟩ := blk_put HRR.out
                obtain ⟨pc1, pf1, pS1⟩ := putBlk_facts (w := w6) 32 lt
                subst he
                go_wp2_with fail
                refine bodyPost_ret (v := .tuple #[.slice none 0 0, .agg #[.int .u64 0, .slice none 0 0], .int .i64 2]) (by simp [results, Tryd.results28, go_sem, pc1]) rfl (Or.inl ⟨2, by omega, rfl, HBAD.out, ?_⟩)
                rw [← HLO.out]
                exact putBlk_belows HCC.out HLR.out _
            all_goals
              intro x w5 hb5
              have hlw : lo ≤ wa.heap.size := Nat.le_of_lt HI.out.s.lt
              have hC := HCB.out.ext hb5
              have hK := (HI.out.ext hb5 hlw).k
              have a0 := hC.cell 0
              have a1 := hC.cell 1
              have a2 := hC.cell 2
              have a3 := hC.cell 3
              have lC := hC.lt
              have k0 := hK.cell k
              have lK := hK.lt
              rw [List.getElem?_toArray, List.getElem?_map, cntsOf_at (l.take j) hk] at k0
              simp only [Option.map_some, HNN.out] at k0
              simp only [List.getElem?_toArray, List.getElem?_cons_zero, List.getElem?_cons_succ] at a0 a1 a2 a3
              clear hC hK hlw
              intro K1 hK1
              rw [if_pos (by rfl)]; simp only [overlay, upd, cond_true, cond_false, List.getD_cons_zero, List.getD_cons_succ, Nat.reduceEqDiff, reduceIte]
              go_simp
              first
                | exact hK1.out _ _ (Below.refl _ _) rfl
                | exact hK1.out _ rfl
                | ((with_reducible refine (HEP.out _ hb5).mono ?_); rintro e wb ⟨rfl, hbb⟩; go_wp2_with fail; exact hK1.out _ _ hbb rfl)
      · have hjl : j = l.length := by omega
        have htk : l.take j = l := by rw [hjl]; exact List.take_length
        have HOKC : Hid (okC nt l) := fun i ch hch => by
          have := (List.getElem?_eq_some_iff.1 hch).1
          exact HI.out.ok i ch (by omega) hch
        have hp : ∀ c ∈ l, 0 ≤ c.tb ∧ c.tb < nt := fun c hc => by
          obtain ⟨i, hi⟩ := List.mem_iff_getElem?.1 hc
          have := HOKC.out i c hi
          exact ⟨this.1, this.2.1⟩
        obtain ⟨sqs, hg1, hg2, hg3⟩ := HI.out.g
        obtain ⟨sv, ol, ho1, ho2, ho3⟩ := HI.out.o
        have hk1 := HI.out.k
        rw [htk] at hk1
        have HPM := Lib.hid (fun (W : World) (hW : Below wr.heap.size wr W) => putmk2 nt G K tx l sqs W hg2 h1 h12 hp (by omega) htx (hg1.ext hW) (hk1.ext hW))
        have HG3 := Lib.hid (show sqOk nt sqs ∧ sqLe (M + l.length) sqs from ⟨hg2, by rw [← hjl]; exact hg3⟩)
        have HO1 := Lib.hid ho1
        have HO2 := Lib.hid ho2
        have HG1 := Lib.hid hg1
        have HP1 := Lib.hid HI.out.p
        have HR1 := Lib.hid HI.out.r
        have HB1 := Lib.hid HI.out.b
        have HO3 := Lib.hid ho3
        have HJ := Lib.hid hjl
        have hlw : lo ≤ wr.heap.size := Nat.le_of_lt HI.out.s.lt
        have hol : ol.length = j + 1 := by rw [← olR_length, ho3, List.length_cons, evsTo_length]
        have holb : ol.length ≤ 300 := by omega
        clear hjl htk hp hg1 hg2 hg3 ho1 ho2 ho3 hk1 HI hol
        generalize hT3 : (recM nt tx l true sqs).2 = t3 at HPM
        have HT3 := Lib.hid hT3
        clear hT3
        go_wp2_with fail
        refine (HPM.out _ (Below.refl _ _)).mono ?_
        rintro r w7 ⟨rfl, hb⟩
        have HO1 := Lib.hid (HO1.out.ext hb)
        have HO2 := Lib.hid (own_below HO2.out hb)
        have HG1 := Lib.hid (HG1.out.ext hb)
        have HP1 := Lib.hid (HP1.out.ext hb)
        have HR1 := Lib.hid (HR1.out.ext hb)
        have HB1 := Lib.hid (HB1.out.trans (hb.mono hlw))
        have HOF := Lib.hid (of1_any P 0 O lo ol.length 32 #[.int .u64 (mk + 1), .slice (some ⟨G, 0, none⟩) nt nt] (mk + 1) marksS t3 sv (outsC ts ol) w7 HP1.out rfl (by omega) (by omega) HO1.out HO2.out (by have := HKO.out; omega) (by decide) HKO.out.2.2.2 HGL.out.2 (by omega))
        clear hb HPM hlw
        go_wp2_with fail
        refine HOF.out.mono ?_
        rintro r w8 ⟨rfl, ⟨sv', hown, hO8⟩, hP8, hkp, hbel⟩
        have hRP : R ≠ P := by have := HPE.out; omega
        have hG8 := kp_blk2 hkp HG1.out HP1.out HO1.out (Or.inl (by decide)) (by decide) (by decide)
        have hR8 := kp_blk2 hkp HR1.out HP1.out HO1.out (Or.inr hRP) (by decide) (by decide)
        have hB8 := HB1.out.trans hbel
        have hP8 : Blk w8 P #[.int .u64 (mk + 2), .slice (some ⟨G, 0, none⟩) nt nt] 32 := by
          have e : mk + 1 + 1 = mk + 2 := by omega
          rw [e] at hP8
          exact hP8
        have hRR : lo ≤ R := HLR.out
        clear HOF HG1 HP1 HR1 HB1 hkp hbel HO1 HO2
        have HG8 := Lib.hid hG8
        have HR8 := Lib.hid hR8
        have HB8 := Lib.hid hB8
        have HP8 := Lib.hid hP8
        have HO8 := Lib.hid hO8
        have HOWN := Lib.hid hown
        have HRP := Lib.hid hRP
        have HRL := Lib.hid hRR
        clear hG8 hR8 hB8 hP8 hO8 hown hRP hRR
        go_upto_region 25 with fail
        refine region_tail 3 [false, false, false, false, false, false, false, false, true, false, false, false, false, false, false, false, false, false, false, false, false, false, false, false, false, false, false, false, false, false, false, false, false, false, false, false, false, false, false, false, false, false, false, false, false, false, false, false, false, false, false, false, false, false, false, false, false, false, false, false, false, false, false, false, false, false, false, false, false, false, false, false, false, false, false, false, false, false, false, false, false, false, false, false, false, false, false, false, false, false, false, false, false, false, false, false, false, false, false, false, false, false, false, false, false, false, false, false, false, false, false, false, false, false, false, false, false, false, false, false, false, false, false, false, false, false, false, false, false, false, false, false, false, true, true] [133, 134, 8] [.val (sv'), .val (.agg #[.int .u64 (mk + 2), .slice (some ⟨G, 0, none⟩) nt nt]), .val (sv')] [1, 2] (by kernel_rfl) (by decide) (by kernel_rfl) (by kernel_rfl) (by kernel_rfl) (by kernel_rfl) (by kernel_rfl) (by kernel_rfl) ⟨?_, ?_, ?_, trivial⟩ ?done
        case done =>
          intro x w5 hb5
          simp only [StepGoal, List.getD_cons_zero, List.getD_cons_succ]
          have hR5 := HR8.out.ext hb5
          have hG5 := HG8.out.ext hb5
          have hO5 := own_below HOWN.out hb5
          have hB5 := HB8.out.trans (hb5.mono (Nat.le_trans HRL.out (Nat.le_of_lt HR8.out.lt)))
          have hGR := blk_apart hG5 hR5 (by decide)
          clear hb5 HG8 HR8 HB8 HP8 HO8 HOWN
          obtain ⟨w9, rfl, lt⟩ := blk_put hR5
          obtain ⟨pc1, pf1, pS1⟩ := putBlk_facts (w := w9) 32 lt
          have HFIN : Hid (OfP ts nt tx mk M l w (.returned (.tuple #[sv', .agg #[.int .u64 (mk + 2), .slice (some ⟨G, 0, none⟩) nt nt], .int .i64 0])) (putBlk w9 R #[.int .u64 (mk + 2), .slice (some ⟨G, 0, none⟩) nt nt] 32)) := by
            refine Or.inr ⟨HOKC.out, by omega, sv', G, sq, sqs, ol ++ [(0, t3, mk + 2)], rfl, ?_, ?_, HSL.out, HG3.out.1, putBlk_old hG5 hGR _, HG3.out.2, ?_⟩
            · rw [← HLO.out, List.length_append, outsC_snoc]
              have e : mk + 1 + 1 = mk + 2 := by omega
              rw [e] at hO5
              exact own_put hO5 lt (by decide) _
            · rw [olR_snoc, HO3.out, HJ.out, ← HT3.out]
              rfl
            · rw [← HLO.out]
              exact putBlk_belows hB5 HRL.out _
          clear hG5 hO5 hB5 hGR
          intro K1 hK1
          rw [if_pos (by rfl)]; simp only [overlay, upd, cond_true, cond_false, Nat.reduceEqDiff, reduceIte]
          go_simp
          refine hK1.out _ _ ?_
          intro K2 hK2
          rw [if_pos (by rfl)]
          go_simp
          refine hK2.out _ _ (TailB.nil ?_)
          go_wp2_with fail
          exact bodyPost_ret (v := .tuple #[sv', .agg #[.int .u64 (mk + 2), .slice (some ⟨G, 0, none⟩) nt nt], .int .i64 0]) (by simp [results, Tryd.results28, go_sem, pc1]) rfl HFIN.out
        all_goals
          intro x w5 hb5
          have hP := HP8.out.ext hb5
          have hO := HO8.out.ext hb5
          have p0 := hP.cell 0
          have p1 := hP.cell 1
          have lP := hP.lt
          have o0 := hO.cell 0
          have lO := hO.lt
          simp only [List.getElem?_toArray, List.getElem?_cons_zero, List.getElem?_cons_succ] at p0 p1 o0
          clear hP hO
          intro K1 hK1
          rw [if_pos (by rfl)]; simp only [overlay, upd, cond_true, cond_false, List.getD_cons_zero, List.getD_cons_succ, Nat.reduceEqDiff, reduceIte]
          go_simp
          exact hK1.out _ _ (Below.refl _ _) rfl
end Go.Proofs.YtkfhfegogmlchaaDoor
