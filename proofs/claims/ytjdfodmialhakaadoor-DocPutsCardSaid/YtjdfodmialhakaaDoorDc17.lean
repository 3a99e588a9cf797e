/- Several texts in one: see each part's head. -/
import Derived.Test.YtjdfodmialhakaaDoorDc16
import Derived.Test.YtjdfodmialhakaaDoorRegHead
import Derived.Deep.MidRow
/- A range over a function whose body never leaves it, where the block that a round's variable lies in is turned by that round. -/
namespace Go.Proofs.YtjdfodmialhakaaDoor
open Go.RowKit Go.Shelf

/-- A round's end: what is kept is counted from ahead of the variable's block. -/
def postJ {α : Type} (B : Nat) (Kp : World → World → Prop) (I : List α → World → Prop) (xs : List α) (W0 W : World) : Exit → Act → World → Prop
  | .normal, _, W' => KeepsFrom B W W' ∧ Kp W0 W' ∧ I xs W'
  | _, _, _ => False
theorem wpIn_rangeFunc_ownJ {F : Fence} {n : Nat} {P : Program} {w : World} {α : Type} {g : Operand} {ps : Array Tmp} {assign body : Code} {Q : Exit → Act → World → Prop} {a : Act}
    (hro : F.round = none) (h1 : 1 ≤ n) {gf : Nat} {lb : Array Value} (hg : a.eval g = .func (.func gf) #[] lb) (hFg : F.fn gf) (eg : ∀ args w, (callFunc gf args).run P w = .ok (.enter gf args) w)
    {encs : α → Array Value} {Kp : World → World → Prop} {S Sp : List α → Prop} {N : Nat} {w0 : World} (hseq : SeqStopsK F (n - 1) P gf lb encs Kp S Sp N w0)
    (hKt : ∀ {A B C : World}, Kp A B → Kp B C → Kp A C) (hKb : ∀ (W : World) (l : Nat) (o o' : Obj), w.heap.size ≤ l → W.heap[l]? = some o → o.isCells = false → o.isWalk = false → Kp W (W.putObj l o'))
    (hb0 : Below w0.heap.size w0 w) (hps : ∀ x, (encs x).size = ps.size)
    (I : List α → World → Prop) (hI : OwnFrom w.heap.size I) (h0 : I [] w) (Ax : World → α → Act → World → Prop) (hAx : ∀ W0 x a', OwnFrom w.heap.size (fun (_ : Unit) W => Ax W0 x a' W))
    (hassign : ∀ (l : Nat) (pre : List α) (x : α) (W : World) (K : Act → World → Prop), I pre W → (∀ a' W', KeepsFrom w.heap.size W W' → I pre W' → Ax W x a' W' → K a' W') →
      assign.wpIn (F.inRound l) (n - 1 - 1) P (Exit.then K (fun _ _ _ => False)) { tmps := (ps.zip (encs x)).foldl (fun t (p, v) => t.setIfInBounds p v) a.tmps, defers := [] } W)
    (hbody : ∀ (l : Nat) (pre : List α) (x : α) (a' : Act) (W0 W : World), w.heap.size ≤ l → I pre W → Ax W0 x a' W → pre.length < N → body.wpIn (F.inRound l) (n - 1 - 1) P (postJ w.heap.size Kp I (pre ++ [x]) W0 W) a' W)
    (hdone : ∀ (D : Nat) (xs : List α) (W : World), w.heap.size ≤ D → S xs → I xs W → W.heap[D]? = some (.deferred (some [])) → Q .normal { a with defers := { target := .collected D, args := #[] } :: a.defers } W) :
    (Code.rangeFunc g ps assign body).wpIn F n P Q a w := by
  refine wpIn_rangeFunc fun fn hfn => ?_
  rw [hro]
  generalize hrec : (fun (st : LoopState) (pe : Option Code) => ({ state := st, pending := pe, fn, tmps := a.tmps, params := ps, assign, body, defers := w.heap.size } : Loop)) = rec
  have hr0 : ∀ st pe, rec st pe = { state := st, pending := pe, fn, tmps := a.tmps, params := ps, assign, body, defers := w.heap.size } := fun st pe => by rw [← hrec]
  generalize hW1 : (w.alloc (.deferred (some []))).alloc (.loop (rec .ready none)) = W1
  have hL1 : W1.heap[w.heap.size + 1]? = some (.loop (rec .ready none)) := by
    have h := World.alloc_heap_new (w.alloc (.deferred (some []))) (.loop (rec .ready none))
    rw [World.size_alloc, hW1] at h
    exact h
  have hK1 : W1.heap[w.heap.size]? = some (.deferred (some [])) := by
    rw [← hW1]; exact (Below.heap_alloc _ _ _ (by simp)).trans (World.alloc_heap_new w _)
  have hI1 : I [] W1 := by rw [← hW1]; exact hI.alloc _ (hI.alloc _ h0)
  have hb1 : Below w0.heap.size w0 W1 := by
    rw [← hW1]; exact hb0.trans ((((Below.refl _ w).alloc (Nat.le_refl _) _).alloc (by simp) _).mono hb0.size)
  have hs1 : W1.heap.size = w.heap.size + 2 := by rw [← hW1]; simp
  refine ⟨w.heap.size + 1, [{ target := .collected w.heap.size, args := #[] }], W1, { target := .fn (.func gf) lb, args := #[.func (.yield (w.heap.size + 1)) #[] #[]] }, W1, gf,
    #[.func (.yield (w.heap.size + 1)) #[] #[]] ++ lb, W1, ?_, ?_, ?_, ?_, fun _ => h1, ?_⟩
  · rw [← hW1, hr0]; exact run_enterLoop_outer _ _ _ _ _
  · simp only [resolve, hg]
    simp [go_sem]
  · intro f' hf'
    simp [Target.leads] at hf'
    subst hf'
    exact hFg
  · simp [invoke, go_sem, eg]
  · have hnw : ∀ {A : World} {row : Option Nat}, (∀ r, row = some r → W1.heap.size ≤ r ∧ ∃ o : Obj, A.heap[r]? = some o ∧ o.isWalk = true) → (∀ r, row = some r → w.heap.size ≤ r ∧ ∃ o : Obj, A.heap[r]? = some o ∧ o.isCells = false) := fun hr r e => by
      obtain ⟨hB, o, ho, hw⟩ := hr r e
      exact ⟨by omega, o, ho, Obj.not_cells_of_walk hw⟩
    refine (hseq (w.heap.size + 1)
      (fun pre W => I pre W ∧ W.heap[w.heap.size + 1]? = some (.loop (rec .ready none)) ∧ W.heap[w.heap.size]? = some (.deferred (some [])))
      (fun _ _ => False) W1 hb1
      (fun s A B row hs hg' hr => ⟨hI s A B row hs.1 hg' (hnw hr), (grownBy_keeps hg' (fun r e => (hr r e).2) hs.2.1 rfl).trans hs.2.1, (grownBy_keeps hg' (fun r e => (hr r e).2) hs.2.2 rfl).trans hs.2.2⟩)
      (fun _ _ _ _ h _ _ => h) ?_ ⟨hI1, hL1, hK1⟩).mono ?_
    · rintro pre x W ⟨hi, hl, hk⟩ hlen
      have hy := run_yield (P := P) (args := encs x) hl (by rw [hr0]; exact hps x)
      rw [hr0] at hy
      refine ⟨fn, _, assign, body, hy, roundIn_of_wpIn hfn (hassign _ pre x W _ hi ?_)⟩
      clear hy
      intro a' Wa hkf hia hax
      have hl1 := hkf.same _ _ (by omega) hl rfl
      have hk1 := hkf.same _ _ (Nat.le_refl _) hk rfl
      have hlt := (Array.getElem?_eq_some_iff.1 hl1).1
      refine ⟨_, run_beginRound hl1 (by rw [hr0]), ?_⟩
      have hl2 : (Wa.putObj (w.heap.size + 1) (.loop { rec .ready none with state := .busy })).heap[w.heap.size + 1]? = some (.loop { rec .ready none with state := .busy }) := World.putObj_heap_same hlt
      have hk2 : (Wa.putObj (w.heap.size + 1) (.loop { rec .ready none with state := .busy })).heap[w.heap.size]? = some (.deferred (some [])) := (World.putObj_heap_other (by omega)).trans hk1
      refine wpIn_mono (hbody _ pre x a' W _ (by omega) (hI.putObj _ hia (by omega) hl1 rfl) ((hAx W x a').putObj (s := ()) _ hax (by omega) hl1 rfl) hlen) ?_
      rintro e a3 W3 hp
      cases e with
      | normal =>
        obtain ⟨hk3, hkp3, hi3⟩ := hp
        have hl3 := hk3.same _ _ (by omega) hl2 rfl
        have hr := run_endRound (P := P) none hl3
        have hr' : ({ ({ rec .ready none with state := .busy } : Loop) with state := .ready, pending := none } : Loop) = rec .ready none := by rw [hr0]
        have hl4 : (W3.putObj (w.heap.size + 1) (.loop (rec .ready none))).heap[w.heap.size + 1]? = some (.loop (rec .ready none)) := World.putObj_heap_same (Array.getElem?_eq_some_iff.1 hl3).1
        have hk4 : (W3.putObj (w.heap.size + 1) (.loop (rec .ready none))).heap[w.heap.size]? = some (.deferred (some [])) := (World.putObj_heap_other (by omega)).trans (hk3.same _ _ (Nat.le_refl _) hk2 rfl)
        refine ⟨.bool true, W3.putObj (w.heap.size + 1) (.loop (rec .ready none)), ?_, .inl ⟨rfl, ⟨hI.putObj _ hi3 (by omega) hl3 rfl, hl4, hk4⟩, hKt hkp3 (hKb _ _ _ _ (by omega) hl3 rfl rfl)⟩⟩
        rw [hr]
        simp [hr0]
      | ret => exact hp.elim
      | exit id => exact hp.elim
      | goto t => exact hp.elim
      | panic ch => exact hp.elim
      | outgrown => exact hp.elim
    · rintro e W2 ⟨⟨v, rfl⟩, (⟨xs, hS, hi, hl, hk⟩ | ⟨pre, hSp, h⟩)⟩
      · exact ⟨none, _, by have := run_endLoop (P := P) hl (by rw [hr0]; simp); rw [hr0] at this; exact this, hdone _ xs _ (Nat.le_refl _) hS (hI.putObj _ hi (by omega) hl rfl) ((World.putObj_heap_other (by omega)).trans hk)⟩
      · exact h.elim
end Go.Proofs.YtjdfodmialhakaaDoor

/- Documents: Rows. -/
namespace Go.Proofs.YtjdfodmialhakaaDoor
open Go.RowKit Go.Shelf
attribute [local go_sem] Oper.semAt_some

/-- As run_append_fresh; a block that has not that much room is as it was. -/
theorem run_append_keep {P : Program} (w : World) (base : Nat) (t ty e : TypeId) (i : TypeInfo) (z : Value) (size bytes : Nat) (ht : P.underlying t = some (.slice e)) (hi : P.info? e = some i) (hz : i.zero = some z)
    (hsize : i.size = size) (hby : i.bytes = bytes) (hzs : z.cells.size = size) (hsz : 0 < size)
    (v : Value) (n : Nat) (xs : List Value) (hown : w.ownsRow base e size v n xs)
    (a : Addr) (m c : Nat) (news : List Value) (hl : news.length = m * size) (hnews : ∀ j u, news[j]? = some u → w.cell? (a.add j) = some u) (h1 : ∀ u ∈ news, u.oneCell' = true)
    (h63 : n + m ≤ maxLen) (hbytes : (n + m) * bytes ≤ 140737488355328) (hbase : base ≤ w.heap.size) :
    ∃ v' w', (Builtin.append_ #[t, t] ty #[v, .slice (some a) m c]).run P w = .ok v' w' ∧ w'.ownsRow base e size v' (n + m) (xs ++ news) ∧ w.grownBy w' v.ownBlock ∧ (∀ g, v'.ownBlock = some g → v.ownBlock = some g ∨ w.heap.size ≤ g) ∧
      (∀ b cs, Blk w b cs e → cs.size < (n + m) * size → Blk w' b cs e) := by
  obtain ⟨v', w', hr, h2, h3, h4⟩ := run_append_fresh (P := P) w base t ty e i z size bytes ht hi hz hsize hby hzs hsz v n xs hown a m c news hl hnews h1 h63 hbytes hbase
  refine ⟨v', w', hr, h2, h3, h4, fun b cs hb hlt => ?_⟩
  rcases hown.2 with ⟨rfl, _⟩ | ⟨g, cap, cur, rfl, hbg, hg, hnc, hcm, hcs, htake⟩
  · exact (h3.block b hb.lt (fun e => by cases e)).trans hb
  · by_cases hbe : b = g
    · subst hbe
      have hcur : cs = cur := by
        have hb' : w.heap[b]? = some (.cells cs e (0, 0)) := hb
        rw [hg] at hb'
        cases hb'
        rfl
      subst hcur
      have hno : ¬ n + m ≤ cap := fun h => by
        have := Nat.mul_le_mul_right size h
        omega
      obtain ⟨v2, w2, hr2, _, hg2⟩ := run_append_arg_grows (P := P) w t ty e i z size bytes ht hi hz hsize hby hzs hsz ⟨b, 0, none⟩ n cap xs hown.1 (hown.cells rfl) a m c news hl hnews (by omega) h63 hbytes
      rw [hr] at hr2
      simp only [Result.ok.injEq] at hr2
      obtain ⟨rfl, rfl⟩ := hr2
      exact (hg2.block b hb.lt (fun e => by cases e)).trans hb
    · exact (h3.block b hb.lt (fun e => hbe (by cases e; rfl))).trans hb
theorem wp_append_keep {P : Program} (w : World) {o : Oper} {a : Act} {K : Act → World → Prop} {Q : Exit → Act → World → Prop} (s x : Operand) (t : TypeId)
    (ho : o.op = .call { callee := .builtin .append, args := #[s, x], argTypes := #[t, t] })
    (base : Nat) (e : TypeId) (i : TypeInfo) (z : Value) (size bytes : Nat) (ht : P.underlying t = some (.slice e)) (hi : P.info? e = some i) (hz : i.zero = some z)
    (hsize : i.size = size) (hby : i.bytes = bytes) (hzs : z.cells.size = size) (hsz : 0 < size)
    (v : Value) (n : Nat) (xs : List Value) (hs : a.eval s = v) (hown : w.ownsRow base e size v n xs)
    (ad : Addr) (m c : Nat) (news : List Value) (hx : a.eval x = .slice (some ad) m c) (hl : news.length = m * size) (hnews : ∀ j u, news[j]? = some u → w.cell? (ad.add j) = some u) (h1 : ∀ u ∈ news, u.oneCell' = true)
    (h63 : n + m ≤ maxLen) (hbytes : (n + m) * bytes ≤ 140737488355328) (hbase : base ≤ w.heap.size)
    (h : ∀ v' w', w'.ownsRow base e size v' (n + m) (xs ++ news) → w.grownBy w' v.ownBlock → (∀ g, v'.ownBlock = some g → v.ownBlock = some g ∨ w.heap.size ≤ g) → (∀ b cs, Blk w b cs e → cs.size < (n + m) * size → Blk w' b cs e) → K (a.put o.dst v') w') : o.wp P a w K Q := by
  obtain ⟨v', w', hr, h2, h3, h4, h5⟩ := run_append_keep (P := P) w base t o.type e i z size bytes ht hi hz hsize hby hzs hsz v n xs hown ad m c news hl hnews h1 h63 hbytes hbase
  unfold Oper.wp execOp
  simp only [ho, resolve, invoke, builtin, Sem.run_bind, Sem.run_pure, Result.andThen_ok, List.map_toArray, List.map_cons, List.map_nil, hs, hx, hr]
  exact h v' w' h2 h3 h4 h5
/-- Three cells of a row of the call's own are turned. -/
theorem own_setCells {w : World} {base e size n g cap : Nat} {xs : List Value} (h : w.ownsRow base e size (.slice (some ⟨g, 0, none⟩) n cap) n xs) (o : Nat) (a b c : Value) :
    (w.setCells g o [a, b, c]).ownsRow base e size (.slice (some ⟨g, 0, none⟩) n cap) n (((xs.set o a).set (o + 1) b).set (o + 2) c) ∧ w.grownBy (w.setCells g o [a, b, c]) (some g) := by
  have h1 := h.stored o a
  have h2 := h1.1.stored (o + 1) b
  have h3 := h2.1.stored (o + 2) c
  have e : w.setCells g o [a, b, c] = ((w.setCell ⟨g, o, none⟩ a).setCell ⟨g, o + 1, none⟩ b).setCell ⟨g, o + 2, none⟩ c := rfl
  rw [e]
  exact ⟨h3.1, only_trans (only_trans h1.2 h2.2) h3.2⟩
theorem set_last3 {xs : List Value} {a b c a' b' c' : Value} {o : Nat} (ho : o = xs.length) : (((xs ++ [a', b', c']).set o a).set (o + 1) b).set (o + 2) c = xs ++ [a, b, c] := by
  subst ho
  simp
theorem there3 {w : World} {base e size n g cap : Nat} {xs : List Value} (h : w.ownsRow base e size (.slice (some ⟨g, 0, none⟩) n cap) n xs) {o : Nat} (ho : o + 3 ≤ n * size) : w.there g o 3 := by
  intro j hj
  refine ⟨?_, h.frozenAt _⟩
  rw [h.cellAt _ (by omega)]
  have := h.1
  simp
  omega
/-- Rows' rounds: what has come lies as documents of the call's own. -/
def bareL {w : World} (pre : List (DA w)) : List De := (deL pre).map bareD
theorem bareL_len {w : World} (pre : List (DA w)) : (bareL pre).length = pre.length := by simp [bareL, deL]
def RwI (w : World) (rb : Nat) (pre : List (DA w)) (W : World) : Prop := (∃ A c xs, Blk W rb #[.slice A pre.length c] 69 ∧ W.ownsRow w.heap.size 71 3 (.slice A pre.length c) pre.length xs ∧ KCells (DRd 1 w) xs (bareL pre) ∧ (pre.length = 0 → A = none)) ∧ Below w.heap.size w W
theorem rwI_own {w : World} {rb B : Nat} (hB : w.heap.size ≤ B) : OwnFrom B (RwI w rb) := by
  intro s X Y row ⟨⟨A, c, xs, h1, h2, h3, h4⟩, h5⟩ hg hr
  exact ⟨⟨A, c, xs, (blk_own rb (fun _ => #[.slice A s.length c]) 69 : Own _) () X Y row h1 hg (fun r e => (hr r e).2), (own_own (β := Unit) _ _ _ _ (.slice A s.length c) _ : Own _) () X Y row h2 hg (fun r e => (hr r e).2), h3, h4⟩, ownFrom_below (Nat.le_refl _) hB s X Y row h5 hg hr⟩
theorem keepD_own {n0 B : Nat} {W0 : World} (hn : n0 ≤ W0.heap.size) (hB : n0 ≤ B) : OwnFrom B (fun (_ : Unit) W => KeepD n0 W0 W) := fun s X Y row ⟨h1, h2⟩ hg hr =>
  ⟨ownFrom_below hn hB s X Y row h1 hg hr, fun b cs hb hs => blk_own b (fun (_ : Unit) => cs) 71 () X Y row (h2 b cs hb hs) hg (fun r e => (hr r e).2)⟩
set_option maxRecDepth 100000 in
theorem rows25_not (n : Nat) (v : Value) (d : De) (w : World) (hT : Tabs w) (hd : DRd n w v d) (hm : mayD d = false) :
    Calls Tryd.prog 46 #[v] w fun r w' => r = .returned (.slice none 0 0) ∧ Below w.heap.size w w' := by
  have HC := Lib.hid (fun (W : World) (hW : Below w.heap.size w W) => check25_any n v d W (hT.ext hW) (hd.ext hW))
  rw [hm] at HC
  simp only [show okE false = 2 from rfl] at HC
  obtain ⟨A, ca, K, ck, rfl⟩ := hd.form
  clear hd hT hm
  go_enter Tryd.func46, Tryd.ntmps46
  go_wp2_with fail
  have hE : Blk ((w.alloc (.cells #[.int .i64 d.tb, .slice A d.row.length ca, .slice K d.kids.length ck] 71)).alloc (.cells #[.slice none 0 0] 69)) (w.heap.size + 1) #[.slice none 0 0] 69 := (by repeat (first | exact Blk.at (by simp) | assumption | refine Blk.drew ?_ | refine Blk.old ?_ _))
  refine (HC.out _ (by repeat (first | exact Below.refl _ _ | assumption | refine Below.drew ?_ | refine below_drewN ?_ _ | refine Below.alloc ?_ (by simp <;> omega) _))).mono ?_
  rintro r w1 ⟨rfl, hb1⟩
  have HW1 : Hid (Below w.heap.size w w1) := bt (by repeat (first | exact Below.refl _ _ | assumption | refine Below.drew ?_ | refine below_drewN ?_ _ | refine Below.alloc ?_ (by simp <;> omega) _)) hb1
  have hE1 := hE.ext hb1
  clear hb1 HC hE
  obtain ⟨w3, rfl, lt⟩ := blk_put hE1
  obtain ⟨pc, pf, pS⟩ := putBlk_facts (w := w3) 69 lt
  go_wp2_with fail
  refine bodyPost_ret (v := .slice none 0 0) (by simp [results, Tryd.results46, go_sem, pc]) rfl ?_
  exact ⟨rfl, HW1.out⟩
theorem cells_blk3 {w : World} {b : Nat} {a0 a1 a2 : Value} {t : TypeId} (h : Blk w b #[a0, a1, a2] t) : ∀ j u, [a0, a1, a2][j]? = some u → w.cell? ((⟨b, 0, none⟩ : Addr).add j) = some u := by
  intro j u hu
  have h := h.cell j
  rw [List.getElem?_toArray, hu] at h
  cases j with
  | zero => exact h
  | succ j => simpa [Addr.add] using h
theorem own_wide {w : World} {base e size n c g : Nat} {xs : List Value} {cs : Array Value} (h : w.ownsRow base e size (.slice (some ⟨g, 0, none⟩) n c) n xs) (hb : Blk w g cs e) : n * size ≤ cs.size := by
  rcases h.2 with ⟨h', _⟩ | ⟨g', cap', cur, h', _, hg, hnc, _, hcs, _⟩
  · simp at h'
  · simp only [Value.slice.injEq, Option.some.injEq, Addr.mk.injEq, and_true, true_and] at h'
    obtain ⟨rfl, rfl⟩ := h'
    have hb' : w.heap[g]? = some (.cells cs e (0, 0)) := hb
    rw [hg] at hb'
    cases hb'
    rw [hcs]
    exact Nat.mul_le_mul_right size hnc
theorem put_only (w : World) (b : Nat) (cs ds : Array Value) (t : TypeId) : (putBlk w b cs t).grownBy (putBlk w b ds t) (some b) :=
  ⟨rfl, rfl, rfl, by simp [putBlk_size], fun k _ hk => putBlk_other (fun e => hk (by rw [e]))⟩
/-- A round's end, in whatever order the two stores come. -/
def Gz (n0 B : Nat) (Wb W : World) (rb g n c : Nat) (r : Value) (ys : List Value) (wz : World) : Prop :=
  Blk wz rb #[r] 69 ∧ wz.ownsRow n0 71 3 (.slice (some ⟨g, 0, none⟩) n c) n ys ∧ KeepD n0 Wb wz ∧ KeepsFrom B W wz
theorem Gz.cells {n0 B : Nat} {Wb W : World} {rb g n c : Nat} {r : Value} {ys : List Value} {wz : World} (h : Gz n0 B Wb W rb g n c r ys wz) (hg : ∀ b cs, Blk Wb b cs 71 → cs.size = 3 → b ≠ g) (hn : n0 ≤ wz.heap.size) (o : Nat) (x y z : Value) :
    Gz n0 B Wb W rb g n c r (((ys.set o x).set (o + 1) y).set (o + 2) z) (wz.setCells g o [x, y, z]) := by
  obtain ⟨h1, h2, h3, h4⟩ := h
  have hs := own_setCells h2 o x y z
  have hg0 : n0 ≤ g := (h2.lt g rfl).1
  refine ⟨blk_grown h1 h2 (by decide) hs.2, hs.1, ⟨h3.1.grown hs.2 hn (fun k e => by cases e; exact hg0), fun b cs hb hsz => ?_⟩, h4.trans (keepsFrom_grown h2 hs.2)⟩
  have hb2 := h3.2 b cs hb hsz
  exact (hs.2.block b hb2.lt (fun e => hg b cs hb hsz (by cases e; rfl))).trans hb2
theorem Gz.put {n0 B : Nat} {Wb W : World} {rb g n c : Nat} {r : Value} {ys : List Value} {wz : World} (h : Gz n0 B Wb W rb g n c r ys (putBlk wz rb #[r] 69)) (lt : rb < wz.heap.size) (hn : n0 ≤ rb) (r' : Value) :
    Gz n0 B Wb W rb g n c r' ys (putBlk wz rb #[r'] 69) :=
  ⟨putBlk_blk _ _ lt, own_put h.2.1 lt (by decide) _, h.2.2.1.trans (keepD_put lt hn (by decide)), h.2.2.2.trans (keepsFrom_put lt)⟩
theorem Gz.end_ {w : World} {B : Nat} {Wb W : World} {rb g c : Nat} {x0 x1 x2 : Value} {xs : List Value} {wz : World} {pre : List (DA w)} {x : DA w} (h : Gz w.heap.size B Wb W rb g (pre.length + 1) c (.slice (some ⟨g, 0, none⟩) (pre.length + 1) c) (xs ++ [x0, x1, x2]) wz)
    (hb : Below w.heap.size w Wb) (hk : KCells (DRd 1 w) xs (bareL pre)) (hx : DRd 1 w (.agg #[x0, x1, x2]) (bareD x.1.2)) : KeepsFrom B W wz ∧ KeepD w.heap.size Wb wz ∧ RwI w rb (pre ++ [x]) wz := by
  refine ⟨h.2.2.2, h.2.2.1, ⟨some ⟨g, 0, none⟩, c, xs ++ [x0, x1, x2], ?_, ?_, ?_, ?_⟩, hb.trans h.2.2.1.1⟩
  · rw [List.length_append]; exact h.1
  · rw [List.length_append]; exact h.2.1
  · rw [show bareL (pre ++ [x]) = bareL pre ++ [bareD x.1.2] by simp [bareL, deL]]
    exact hk.app (KCells.one hx)
  · simp
set_option maxRecDepth 100000 in
set_option maxHeartbeats 2000000 in
theorem rows25_yes (n : Nat) (v : Value) (d : De) (w : World) (hT : Tabs w) (hd : DRd n w v d) (hm : mayD d = true) :
    Calls Tryd.prog 46 #[v] w (RowsP w d w) := by
  have HCK := Lib.hid (fun (W : World) (hW : Below w.heap.size w W) => check25_any n v d W (hT.ext hW) (hd.ext hW))
  rw [hm] at HCK
  simp only [show okE true = 0 from rfl] at HCK
  obtain ⟨A, ca, K, ck, rfl⟩ := hd.form
  have HD := Lib.hid hd
  obtain ⟨hs, hf⟩ := may_size25 hm
  have hN := pre_le hs
  obtain ⟨i0, hi0, hz0, hz1, hz2⟩ := info_parts info_D
  have HQ := Lib.hid (show ∀ r w', (∃ A c xs, r = .returned (.slice A (rowsD d).length c) ∧ w'.ownsRow w.heap.size 71 3 (.slice A (rowsD d).length c) (rowsD d).length xs ∧ KCells (DRd 1 w) xs (rowsD d) ∧ Below w.heap.size w w') → RowsP w d w r w' from fun _ _ h => h)
  clear hd hT hm hs hf
  generalize RowsP w d w = RP at HQ ⊢
  generalize d.tb = tb at HCK HD ⊢
  generalize d.row.length = rl at HCK HD ⊢
  generalize d.kids.length = kl at HCK HD ⊢
  have hC0 : Below w.heap.size w ((w.alloc (.cells #[.int .i64 tb, .slice A rl ca, .slice K kl ck] 71)).alloc (.cells #[.slice none 0 0] 69)) := (by repeat (first | exact Below.refl _ _ | assumption | refine Below.drew ?_ | refine below_drewN ?_ _ | refine Below.alloc ?_ (by simp <;> omega) _))
  have h1 : Blk ((w.alloc (.cells #[.int .i64 tb, .slice A rl ca, .slice K kl ck] 71)).alloc (.cells #[.slice none 0 0] 69)) w.heap.size #[.int .i64 tb, .slice A rl ca, .slice K kl ck] 71 := (by repeat (first | exact Blk.at (by simp) | assumption | refine Blk.drew ?_ | refine Blk.old ?_ _))
  have h2 : Blk ((w.alloc (.cells #[.int .i64 tb, .slice A rl ca, .slice K kl ck] 71)).alloc (.cells #[.slice none 0 0] 69)) (w.heap.size + 1) #[.slice none 0 0] 69 := (by repeat (first | exact Blk.at (by simp) | assumption | refine Blk.drew ?_ | refine Blk.old ?_ _))
  refine callsIn_wide (n := 9) |>.1 ?_
  refine callsIn_of_wp_marks Tryd.func46 rfl trivial ?_ rfl
  simp only [Tryd.ntmps46, List.size_toArray, List.length_cons, List.length_nil, Nat.reduceAdd, Nat.reduceSub, Array.replicate_succ, Array.replicate_zero, List.push_toArray, List.append_toArray, List.nil_append, List.cons_append]
  gi_wp2_with fail
  refine ⟨trivial, callsIn_wide.2 ((HCK.out _ hC0).mono ?_)⟩
  rintro r w1 ⟨rfl, hb1⟩
  have HB := Lib.hid (h1.ext hb1)
  have HE := Lib.hid (h2.ext hb1)
  have HC := Lib.hid (bt hC0 hb1)
  have hsz1 : w.heap.size + 2 ≤ w1.heap.size := by have := hb1.size; simp at this; omega
  clear hb1 h1 h2 hC0 HCK
  obtain ⟨lb, b0, b1, b2⟩ := blk3 HB.out
  gi_wp2_with fail
  refine ⟨trivial, callsIn_wide.2 ((all25_any tb A rl ca K kl ck _).mono ?_)⟩
  rintro r w2 ⟨rfl, rfl⟩
  have hA : Below w1.heap.size w1 (w1.alloc (.cells #[.int .i64 tb, .slice A rl ca, .slice K kl ck] 71)) := (by repeat (first | exact Below.refl _ _ | assumption | refine Below.drew ?_ | refine below_drewN ?_ _ | refine Below.alloc ?_ (by simp <;> omega) _))
  have HX := Lib.hid (Blk.new w1 #[.int .i64 tb, .slice A rl ca, .slice K kl ck] 71)
  have HE := Lib.hid (HE.out.ext hA)
  have HC := Lib.hid (bt HC.out hA)
  have hsz2 : w1.heap.size < (w1.alloc (.cells #[.int .i64 tb, .slice A rl ca, .slice K kl ck] 71)).heap.size := by simp
  clear hA lb b0 b1 b2 HB
  generalize w1.alloc (.cells #[.int .i64 tb, .slice A rl ca, .slice K kl ck] 71) = W0 at HX HE HC hsz2 ⊢
  generalize w1.heap.size = Bt at HX hsz1 hsz2 ⊢
  have hex : w.heap.size + 1 < W0.heap.size := by omega
  have HEX := Lib.hid (show w.heap.size ≤ w.heap.size + 1 by omega)
  generalize w.heap.size + 1 = rb at HE HEX hex ⊢
  have HN0 : Hid (w.heap.size ≤ W0.heap.size) := HC.out.size
  generalize hbx : w.heap.size = bx
  clear hbx
  gi_wp2_with fail
  refine wpIn_rangeFunc_ownJ rfl (by omega) (gf := 166) (lb := #[.pointer (some ⟨Bt, 0, none⟩)]) rfl trivial (enters_of Tryd.func166 (by kernel_rfl) rfl)
    (all1_stops w _ n Bt tb A rl ca K kl ck d W0 HX.out HD.out HC.out) keepD_t (keepD_b HN0.out) (Below.refl _ _) (fun _ => rfl)
    (RwI w rb) (rwI_own HN0.out)
    ⟨⟨none, 0, [], HE.out, World.ownsRow_nil _ _ _ _, KCells.nil _, fun _ => rfl⟩, HC.out⟩
    (fun Wb x a' W => ∃ (A' : Option Addr) (ca' : Nat) (K' : Option Addr) (ck' : Nat), (x.1.1 = .agg #[.int .i64 x.1.2.tb, .slice A' x.1.2.row.length ca', .slice K' x.1.2.kids.length ck'] ∧ a' = { tmps := #[.agg #[.int .i64 tb, .slice A rl ca, .slice K kl ck], .pointer (some ⟨bx, 0, none⟩), .pointer (some ⟨rb, 0, none⟩), .pointer (some ⟨Wb.heap.size, 0, none⟩), .agg #[.int .i64 tb, .slice A rl ca, .slice K kl ck], .int .i64 0, .bool false, .agg #[.int .i64 tb, .slice A rl ca, .slice K kl ck], .func (.func 166) #[] #[.pointer (some ⟨Bt, 0, none⟩)], x.1.1, undef, undef, undef, undef, undef, undef, undef, undef], defers := [] }) ∧ Blk W Wb.heap.size #[.int .i64 x.1.2.tb, .slice A' x.1.2.row.length ca', .slice K' x.1.2.kids.length ck'] 71 ∧ ((Below w.heap.size w Wb ∧ rb < Wb.heap.size) ∧ KeepD w.heap.size Wb W ∧ ∃ r0 : Value, Blk W rb #[r0] 69 ∧ ∀ g, r0.ownBlock = some g → g < Wb.heap.size))
    (fun Wb x a' _ X Y row hs hg hr => by obtain ⟨A', ca', K', ck', h1, h2, h3, h4, r0, h5, h6⟩ := hs; exact ⟨A', ca', K', ck', h1, blk_own Wb.heap.size (fun (_ : Unit) => #[.int .i64 x.1.2.tb, .slice A' x.1.2.row.length ca', .slice K' x.1.2.kids.length ck']) 71 () X Y row h2 hg (fun r e => (hr r e).2), h3, keepD_own h3.1.size HN0.out () X Y row h4 hg hr, r0, blk_own rb (fun (_ : Unit) => #[r0]) 69 () X Y row h5 hg (fun r e => (hr r e).2), h6⟩)
    ?assign ?body ?loopend
  case assign =>
    rintro l pre ⟨⟨xv, xd⟩, hx0⟩ W K1 hI hK
    obtain ⟨nx, hx⟩ := id hx0
    have hx : DRd nx w xv xd := hx
    obtain ⟨A', ca', K', ck', hv⟩ := hx.form
    subst hv
    have HK1 := Lib.hid hK
    have HI := Lib.hid hI
    obtain ⟨⟨A0, c0, xs0, hE, hO, _⟩, _⟩ := hI
    have hltE := hE.lt
    have HE0 := Lib.hid hE
    have HL0 := Lib.hid (fun g hg => (hO.lt g hg).2)
    clear hK hx hE hO
    gi_wp2_with fail
    refine HK1.out _ _ (keepsFrom_below ((by repeat (first | exact Below.refl _ _ | assumption | refine Below.drew ?_ | refine below_drewN ?_ _ | refine Below.alloc ?_ (by simp <;> omega) _)))) ?_ ⟨A', ca', K', ck', ⟨rfl, rfl⟩, Blk.new _ _ _, ⟨HI.out.2, hltE⟩, KeepD.of_below ((by repeat (first | exact Below.refl _ _ | assumption | refine Below.drew ?_ | refine below_drewN ?_ _ | refine Below.alloc ?_ (by simp <;> omega) _))) HI.out.2.size, _, HE0.out.ext ((by repeat (first | exact Below.refl _ _ | assumption | refine Below.drew ?_ | refine below_drewN ?_ _ | refine Below.alloc ?_ (by simp <;> omega) _))), HL0.out⟩
    obtain ⟨⟨A1, c1, xs1, h1, h2, h3, h4⟩, h5⟩ := HI.out
    exact ⟨⟨A1, c1, xs1, h1.ext ((by repeat (first | exact Below.refl _ _ | assumption | refine Below.drew ?_ | refine below_drewN ?_ _ | refine Below.alloc ?_ (by simp <;> omega) _))), own_below h2 ((by repeat (first | exact Below.refl _ _ | assumption | refine Below.drew ?_ | refine below_drewN ?_ _ | refine Below.alloc ?_ (by simp <;> omega) _))), h3, h4⟩, h5.trans (((by repeat (first | exact Below.refl _ _ | assumption | refine Below.drew ?_ | refine below_drewN ?_ _ | refine Below.alloc ?_ (by simp <;> omega) _)) : Below W.heap.size W (W.alloc (.cells #[.int .i64 xd.tb, .slice A' xd.row.length ca', .slice K' xd.kids.length ck'] 71))).mono h5.size)⟩
  case body =>
    rintro l pre ⟨⟨xv, xd⟩, hx0⟩ a' Wb W hl ⟨⟨Ar, cr, xs, hE, hO, hKC, hZ⟩, hB⟩ ⟨A', ca', K', ck', ⟨hv, rfl⟩, hbx2, ⟨hWb, hrb⟩, hKD, r0, hr0, hrl⟩ hlt
    obtain ⟨nx, hx⟩ := id hx0
    have hx : DRd nx w xv xd := hx
    have hv : xv = .agg #[.int .i64 xd.tb, .slice A' xd.row.length ca', .slice K' xd.kids.length ck'] := hv
    subst hv
    obtain rfl : r0 = .slice Ar pre.length cr := by
      have e1 : W.heap[rb]? = some (.cells #[r0] 69 (0, 0)) := hr0
      have e2 : W.heap[rb]? = some (.cells #[.slice Ar pre.length cr] 69 (0, 0)) := hE
      rw [e1] at e2
      simpa using e2
    clear hr0
    have HXB : Hid (DRd 1 w (.agg #[.int .i64 xd.tb, .slice A' xd.row.length ca', .slice none 0 0]) (bareD xd)) := by
      obtain ⟨nx, rfl⟩ : ∃ k, nx = k + 1 := by cases nx; exact hx.elim; exact ⟨_, rfl⟩
      obtain ⟨A2, ca2, K2, ck2, hv2, htb, hrow, hkr⟩ := hx
      simp only [Value.agg.injEq, Array.mk.injEq, List.cons.injEq, Value.slice.injEq, and_true, true_and] at hv2
      obtain ⟨⟨rfl, rfl⟩, rfl, rfl⟩ := hv2
      exact ⟨_, _, none, 0, rfl, htb, hrow, by simp [bareD, De.kids], fun h => absurd rfl h⟩
    clear hx
    have HKC := Lib.hid hKC
    have HBW := Lib.hid hB
    have HWB := Lib.hid hWb
    have HKD := Lib.hid hKD
    have HZ := Lib.hid hZ
    have hszW := hB.size
    have hn0 := hWb.size
    have hxb := hbx2.lt
    clear hKC hB hWb hKD hZ
    have hbx2 : Blk W Wb.heap.size #[.int .i64 xd.tb, .slice A' xd.row.length ca', .slice K' xd.kids.length ck'] 71 := hbx2
    obtain ⟨w3, he3, lt⟩ := blk_put hbx2
    clear hbx2
    subst he3
    obtain ⟨pc, pf, pS⟩ := putBlk_facts (w := w3) 71 lt
    have hne : rb ≠ Wb.heap.size := by omega
    have HE := Lib.hid (putBlk_old hE hne #[.int .i64 xd.tb, .slice A' xd.row.length ca', .slice none 0 0])
    have HKD2 : Hid (KeepD w.heap.size Wb (putBlk w3 Wb.heap.size #[.int .i64 xd.tb, .slice A' xd.row.length ca', .slice none 0 0] 71)) := by
      refine ⟨putBlk_belows HKD.out.1 hn0 _, fun b cs hb hs => putBlk_old (HKD.out.2 b cs hb hs) ?_ _⟩
      have := hb.lt
      omega
    have HF2 : Hid (KeepsFrom W0.heap.size (putBlk w3 Wb.heap.size #[.int .i64 xd.tb, .slice A' xd.row.length ca', .slice K' xd.kids.length ck'] 71) (putBlk w3 Wb.heap.size #[.int .i64 xd.tb, .slice A' xd.row.length ca', .slice none 0 0] 71)) := keepsFrom_put lt
    have HO : Hid ((putBlk w3 Wb.heap.size #[.int .i64 xd.tb, .slice A' xd.row.length ca', .slice none 0 0] 71).ownsRow w.heap.size 71 3 (.slice Ar pre.length cr) pre.length xs) := by
      refine hO.kept (put_only w3 Wb.heap.size _ _ _) (Or.inr fun e => ?_)
      have := hrl _ e
      omega
    have hrbW : w.heap.size ≤ rb := HEX.out
    have hpl : pre.length ≤ 200 := by omega
    have HLO := Lib.hid HO.out.1
    have hnn : IntKind.i64.wrap (pre.length : Int) = pre.length := IntWalk.i64_in _ (by omega)
    gi_wp2_with fail
    have HX := Lib.hid (putBlk_blk (w := w3) #[.int .i64 xd.tb, .slice A' xd.row.length ca', .slice none 0 0] 71 lt)
    clear pc pf pS lt hrl hE hO
    generalize putBlk w3 Wb.heap.size #[.int .i64 xd.tb, .slice A' xd.row.length ca', .slice none 0 0] 71 = W1 at *
    have hx1 := HX.out.lt
    refine region_headIn 4 [false, false, false, false, false, false, false, false, false, false, false, true, true, true, true, false, false, false] [11, 12, 13, 14] [.val (.slice Ar pre.length cr), .val (.agg #[.int .i64 xd.tb, .slice A' xd.row.length ca', .slice none 0 0]), .val (.int .i64 pre.length), .new (fun g => .slice (some ⟨g, 0, none⟩) 1 1) #[.int .i64 0, .slice none 0 0, .slice none 0 0] 71] [0, 1, 2, 3] (by kernel_rfl) (by kernel_rfl) (by decide) (by kernel_rfl) (by kernel_rfl) (by kernel_rfl) (by kernel_rfl) (by kernel_rfl) ⟨?_, ?_, ?_, ?_, trivial⟩ (by kernel_rfl) ?done
    case done =>
      intro x5 w5 hb5
      simp only [StepGoal, overlay, upd, cond_true, cond_false, List.getD_cons_zero, List.getD_cons_succ, Nat.zero_add, Nat.reduceAdd, Nat.reduceEqDiff, reduceIte]
      intro b4 hb4
      have HE5 := Lib.hid (HE.out.ext hb5)
      have HO5 := Lib.hid (own_below HO.out hb5)
      have hsz5 := hb5.size
      have hw1s : w.heap.size ≤ W1.heap.size := by omega
      have HK5 : Hid (KeepD w.heap.size Wb w5) := keepD_t HKD2.out (KeepD.of_below hb5 hw1s)
      have HF5 : Hid (KeepsFrom W0.heap.size (putBlk w3 Wb.heap.size #[.int .i64 xd.tb, .slice A' xd.row.length ca', .slice K' xd.kids.length ck'] 71) w5) := HF2.out.trans (keepsFrom_below hb5)
      clear hb5
      refine wpAnyIn_ready (rs := [4]) (by kernel_rfl) (by simp) ?_
      refine AllReadyIn.cons rfl (fun K hK => ?_) AllReadyIn.nil
      rw [if_pos (by rfl)]
      refine Oper.wpIn_of_wp (by intro c h; cases h) (wp_append_keep _ _ _ 69 rfl w.heap.size 71 i0 _ 3 56 Tryd.underlying69 hi0 hz0 hz1 hz2 rfl (by decide) (.slice Ar pre.length cr) pre.length xs rfl HO5.out ⟨b4, 0, none⟩ 1 1 [.int .i64 0, .slice none 0 0, .slice none 0 0] rfl rfl (cells_blk3 hb4) (by simp [Value.oneCell']) (by simp only [maxLen]; omega) (by omega) (by omega) ?_)
      intro v6 w6 hown6 hg6 hfr hkp
      obtain ⟨g6, c6, rfl, _⟩ := hown6.form (by omega)
      have hk6 : KeepD w.heap.size Wb w6 := by
        refine ⟨HK5.out.1.grown hg6 (by omega) (fun k e => (HO5.out.lt k e).1), fun b cs hb hs => ?_⟩
        have h5 := HK5.out.2 b cs hb hs
        by_cases hp0 : pre.length = 0
        · exact (hg6.block b h5.lt (by rw [HZ.out hp0]; intro e; cases e)).trans h5
        · exact hkp b cs h5 (by omega)
      have hgk : ∀ b cs, Blk Wb b cs 71 → cs.size = 3 → b ≠ g6 := by
        intro b cs hb hs e
        subst e
        have h6 := own_wide hown6 (hk6.2 b cs hb hs)
        by_cases hp0 : pre.length = 0
        · rcases hfr b rfl with h7 | h7
          · rw [HZ.out hp0] at h7; cases h7
          · have := hb.lt; omega
        · omega
      have HGK := Lib.hid hgk
      have HG : Hid (Gz w.heap.size W0.heap.size Wb (putBlk w3 Wb.heap.size #[.int .i64 xd.tb, .slice A' xd.row.length ca', .slice K' xd.kids.length ck'] 71) rb g6 (pre.length + 1) c6 (.slice Ar pre.length cr) (xs ++ [.int .i64 0, .slice none 0 0, .slice none 0 0]) w6) :=
        ⟨blk_grown HE5.out HO5.out (by decide) hg6, hown6, hk6, HF5.out.trans (keepsFrom_grown HO5.out hg6)⟩
      have hsz6 : w.heap.size ≤ w6.heap.size := by have := hg6.size; omega
      have HXL := Lib.hid (show pre.length * 3 = xs.length from HLO.out.symm)
      have HFN := Lib.hid (fun (wz : World) (h : Gz w.heap.size W0.heap.size Wb (putBlk w3 Wb.heap.size #[.int .i64 xd.tb, .slice A' xd.row.length ca', .slice K' xd.kids.length ck'] 71) rb g6 (pre.length + 1) c6 (.slice (some ⟨g6, 0, none⟩) (pre.length + 1) c6) (xs ++ [.int .i64 xd.tb, .slice A' xd.row.length ca', .slice none 0 0]) wz) => Gz.end_ (x := ⟨(.agg #[.int .i64 xd.tb, .slice A' xd.row.length ca', .slice K' xd.kids.length ck'], xd), hx0⟩) h HWB.out HKC.out HXB.out)
      refine hK _ _ ?_
      clear hK K hown6 hg6 hfr hkp hk6 hgk HK5 HF5 HE5 HO5 hb4
      have hlen1 : (pre.length : Int) < (pre.length : Int) + 1 := by omega
      have HTH := Lib.hid (fun (wz : World) (r : Value) (ys : List Value) (h : Gz w.heap.size W0.heap.size Wb (putBlk w3 Wb.heap.size #[.int .i64 xd.tb, .slice A' xd.row.length ca', .slice K' xd.kids.length ck'] 71) rb g6 (pre.length + 1) c6 r ys wz) => there3 (o := pre.length * 3) h.2.1 (by omega))
      have HCE := Lib.hid (fun (wz : World) (r : Value) (hz : w.heap.size ≤ wz.heap.size) (h : Gz w.heap.size W0.heap.size Wb (putBlk w3 Wb.heap.size #[.int .i64 xd.tb, .slice A' xd.row.length ca', .slice K' xd.kids.length ck'] 71) rb g6 (pre.length + 1) c6 r (xs ++ [.int .i64 0, .slice none 0 0, .slice none 0 0]) wz) => (by
        have h1 := h.cells HGK.out hz (pre.length * 3) (.int .i64 xd.tb) (.slice A' xd.row.length ca') (.slice none 0 0)
        rw [set_last3 HXL.out] at h1
        exact h1 : Gz w.heap.size W0.heap.size Wb (putBlk w3 Wb.heap.size #[.int .i64 xd.tb, .slice A' xd.row.length ca', .slice K' xd.kids.length ck'] 71) rb g6 (pre.length + 1) c6 r (xs ++ [.int .i64 xd.tb, .slice A' xd.row.length ca', .slice none 0 0]) (wz.setCells g6 (pre.length * 3) [.int .i64 xd.tb, .slice A' xd.row.length ca', .slice none 0 0])))
      refine wpAnyIn_ready (rs := [5, 7]) (by kernel_rfl) (by simp) ?_
      refine AllReadyIn.cons rfl (fun K hK => ?_) (AllReadyIn.cons rfl (fun K hK => ?_) AllReadyIn.nil)
      · rw [if_pos (by rfl)]
        go_simp
        refine hK _ _ ?_
        clear hK K
        refine wpAnyIn_ready (rs := [6, 7]) (by kernel_rfl) (by simp) ?_
        refine AllReadyIn.cons rfl (fun K hK => ?_) (AllReadyIn.cons rfl (fun K hK => ?_) AllReadyIn.nil)
        · rw [if_pos (by rfl)]
          refine Oper.wpIn_of_wp (by intro c h; cases h) (wp_store_mid _ _ _ rfl g6 (pre.length * 3) #[.int .i64 xd.tb, .slice A' xd.row.length ca', .slice none 0 0] rfl rfl (HTH.out _ _ _ HG.out) (by kernel_rfl) (by simp [Value.oneCell']) ?_)
          refine hK _ _ ?_
          clear hK K
          have HG7 := Lib.hid (HCE.out _ _ hsz6 HG.out)
          obtain ⟨w8, he8, lt8⟩ := blk_put HG7.out.1
          dsimp only at *
          rw [he8] at HG7 ⊢
          obtain ⟨pc, pf, pS⟩ := putBlk_facts (w := w8) 69 lt8
          refine wpAnyIn_ready (rs := [7]) (by kernel_rfl) (by simp) ?_
          refine AllReadyIn.cons rfl (fun K hK => ?_) AllReadyIn.nil
          rw [if_pos (by rfl)]
          clear he8
          go_simp
          refine hK _ _ ?_
          clear hK K
          refine wpAnyIn_done (by kernel_rfl) ?_ _
          have HF := Lib.hid (HFN.out _ (Gz.put HG7.out lt8 hrbW _))
          clear pc pf pS
          gi_wp2_with fail
          exact HF.out
        · rw [if_pos (by rfl)]
          obtain ⟨w8, he8, lt8⟩ := blk_put HG.out.1
          subst he8
          obtain ⟨pc, pf, pS⟩ := putBlk_facts (w := w8) 69 lt8
          go_simp
          refine hK _ _ ?_
          clear hK K pc pf pS
          have HG8 := Lib.hid (Gz.put HG.out lt8 hrbW (.slice (some ⟨g6, 0, none⟩) (pre.length + 1) c6))
          rw [putBlk_size] at hsz6
          generalize hw9 : putBlk w8 rb #[.slice (some ⟨g6, 0, none⟩) (pre.length + 1) c6] 69 = w9 at HG8 ⊢
          have hsz9 : w.heap.size ≤ w9.heap.size := by rw [← hw9, putBlk_size]; exact hsz6
          clear hw9 HG
          refine wpAnyIn_ready (rs := [6]) (by kernel_rfl) (by simp) ?_
          refine AllReadyIn.cons rfl (fun K hK => ?_) AllReadyIn.nil
          rw [if_pos (by rfl)]
          refine Oper.wpIn_of_wp (by intro c h; cases h) (wp_store_mid _ _ _ rfl g6 (pre.length * 3) #[.int .i64 xd.tb, .slice A' xd.row.length ca', .slice none 0 0] rfl rfl (HTH.out _ _ _ HG8.out) (by kernel_rfl) (by simp [Value.oneCell']) ?_)
          refine hK _ _ ?_
          clear hK K
          refine wpAnyIn_done (by kernel_rfl) ?_ _
          have HF := Lib.hid (HFN.out _ (HCE.out _ _ hsz9 HG8.out))
          dsimp only
          generalize w9.setCells g6 (pre.length * 3) [.int .i64 xd.tb, .slice A' xd.row.length ca', .slice none 0 0] = wf at HF ⊢
          gi_wp2_with fail
          exact HF.out
      · rw [if_pos (by rfl)]
        obtain ⟨w8, he8, lt8⟩ := blk_put HG.out.1
        subst he8
        obtain ⟨pc, pf, pS⟩ := putBlk_facts (w := w8) 69 lt8
        go_simp
        refine hK _ _ ?_
        clear hK K pc pf pS
        have HG8 := Lib.hid (Gz.put HG.out lt8 hrbW (.slice (some ⟨g6, 0, none⟩) (pre.length + 1) c6))
        rw [putBlk_size] at hsz6
        generalize hw9 : putBlk w8 rb #[.slice (some ⟨g6, 0, none⟩) (pre.length + 1) c6] 69 = w9 at HG8 ⊢
        have hsz9 : w.heap.size ≤ w9.heap.size := by rw [← hw9, putBlk_size]; exact hsz6
        clear hw9 HG
        refine wpAnyIn_ready (rs := [5]) (by kernel_rfl) (by simp) ?_
        refine AllReadyIn.cons rfl (fun K hK => ?_) AllReadyIn.nil
        rw [if_pos (by rfl)]
        go_simp
        refine hK _ _ ?_
        clear hK K
        refine wpAnyIn_ready (rs := [6]) (by kernel_rfl) (by simp) ?_
        refine AllReadyIn.cons rfl (fun K hK => ?_) AllReadyIn.nil
        rw [if_pos (by rfl)]
        refine Oper.wpIn_of_wp (by intro c h; cases h) (wp_store_mid _ _ _ rfl g6 (pre.length * 3) #[.int .i64 xd.tb, .slice A' xd.row.length ca', .slice none 0 0] rfl rfl (HTH.out _ _ _ HG8.out) (by kernel_rfl) (by simp [Value.oneCell']) ?_)
        refine hK _ _ ?_
        clear hK K
        refine wpAnyIn_done (by kernel_rfl) ?_ _
        have HF := Lib.hid (HFN.out _ (HCE.out _ _ hsz9 HG8.out))
        dsimp only
        generalize w9.setCells g6 (pre.length * 3) [.int .i64 xd.tb, .slice A' xd.row.length ca', .slice none 0 0] = wf at HF ⊢
        gi_wp2_with fail
        exact HF.out
    all_goals
      intro x5 w5 hb5
      intro K hK
      have he := (HE.out.ext hb5).cell 0
      have le := (HE.out.ext hb5).lt
      obtain ⟨lx, x0, x1, x2⟩ := blk3 (HX.out.ext hb5)
      simp only [List.getElem?_toArray, List.getElem?_cons_zero] at he
      rw [if_pos (by rfl)]; simp only [overlay, upd, cond_true, cond_false, List.getD_cons_zero, Nat.reduceEqDiff, reduceIte]
      go_simp
      first
        | exact hK.out _ _ (Below.refl _ _) rfl
        | exact hK.out _ _ (by repeat (first | exact Below.refl _ _ | assumption | refine Below.drew ?_ | refine below_drewN ?_ _ | refine Below.alloc ?_ (by simp <;> omega) _)) ⟨_, rfl, Blk.new _ _ _⟩
  case loopend =>
    rintro D ys W hD hys ⟨⟨Ar, cr, xs, hE, hO, hKC, _⟩, hB⟩ hK
    have hbl : bareL ys = rowsD d := by unfold bareL; rw [hys]; rfl
    have hyl : ys.length = (rowsD d).length := by rw [← hbl, bareL_len]
    rw [hyl] at hE hO
    rw [hbl] at hKC
    have hltE := hE.lt
    obtain ⟨w3, rfl, lt⟩ := blk_put hE
    obtain ⟨pc, pf, pS⟩ := putBlk_facts (w := w3) 69 lt
    have HE2 := Lib.hid hE
    have HO2 := Lib.hid hO
    have HC2 := Lib.hid hKC
    have HD2 := Lib.hid hD
    have HB2 := Lib.hid hB
    have HKD := Lib.hid (show (putBlk w3 rb #[.slice Ar (rowsD d).length cr] 69).heap[D]? = some (.deferred (some [])) from hK)
    clear hE hO hKC hB hD hK hys hbl hyl
    gi_wp2_with fail
    refine ⟨by simp, .inl ⟨_, _, rfl, run_takeDeferred HKD.out, ?_⟩⟩
    have hc5 := cell_kept (pc #[.slice Ar (rowsD d).length cr] 0) (grownBy_putObj' _ D (.deferred none)) (fun r e => by cases e; exact ⟨_, HKD.out, rfl⟩)
    have hN := HN0.out
    have hD2 := HD2.out
    refine ⟨.slice Ar (rowsD d).length cr, ?_, HQ.out _ _ ⟨Ar, cr, xs, rfl, ?_, HC2.out, HB2.out.trans (belowK_b (w := w) (Nat.le_refl _) _ D _ _ (by omega) HKD.out rfl rfl)⟩⟩
    · simp [results, Tryd.results46, go_sem, hc5]
    · exact (own_own (β := Unit) _ _ _ _ (.slice Ar (rowsD d).length cr) _ : Own _) () _ _ _ HO2.out (grownBy_putObj' _ D (.deferred none)) (fun r e => by cases e; exact ⟨_, HKD.out, rfl⟩)
end Go.Proofs.YtjdfodmialhakaaDoor
