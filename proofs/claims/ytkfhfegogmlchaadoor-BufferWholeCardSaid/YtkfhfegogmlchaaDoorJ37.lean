/- Several texts in one: see each part's head. -/
import Derived.Test.YtkfhfegogmlchaaDoorJ36
/- The topics of some transactions: made. -/
namespace Go.Proofs.YtkfhfegogmlchaaDoor
open Go.RowKit

/-- What holds ahead of transaction i. -/
structure OutI (ts : List Ta) (A : Option Addr) (c nt lo S RB TL g h TB P : Nat) (first : Int) (ls : List (List Ch)) (w : World) (i : Nat) (wr : World) : Prop where
  s : MadeS ts A c nt lo S RB TL g h TB w wr
  p : ∃ (G : Nat) (sq : List Int), Blk wr P #[.int .u64 (2 * (i : Int)), .slice (some ⟨G, 0, none⟩) nt nt] 32 ∧ Blk wr G (sq.map (Value.int .u64)).toArray 29 ∧ sqOk nt sq ∧ sqLe (200 * (i : Int)) sq
  t : ∃ (vs : List Value) (R : Nat → List ByteArray), TopR lo nt g vs R wr ∧ MadeR nt first ls i R
  ok : ∀ l ∈ ls.take i, okC nt l ∧ l.length ≤ 200
/-- While records are put behind their topics'. -/
structure InR (lo nt g : Nat) (sv : Value) (n0 : Nat) (xs : List Value) (R : Nat → List ByteArray) (w w8 wr : World) : Prop where
  k : Kp [g] 82 w8 wr
  b : Below lo w wr
  s : wr.ownsRow lo 82 3 sv n0 xs
  t : ∃ vs, TopR lo nt g vs R wr ∧ ∀ (i : Nat) v, vs[i]? = some v → ∀ b, v.ownBlock = some b → sv.ownBlock ≠ some b
theorem InR.congr {lo nt g n0 : Nat} {sv : Value} {xs : List Value} {R R' : Nat → List ByteArray} {w w8 wr : World} (h : InR lo nt g sv n0 xs R w w8 wr) (e : ∀ n, n < nt + 1 → R n = R' n) : InR lo nt g sv n0 xs R' w w8 wr := by
  obtain ⟨vs, h1, h2⟩ := h.t
  exact ⟨h.k, h.b, h.s, vs, h1.congr e, h2⟩
theorem InR.ext {lo nt g n0 : Nat} {sv : Value} {xs : List Value} {R : Nat → List ByteArray} {w w8 wr w' : World} (h : InR lo nt g sv n0 xs R w w8 wr) (hb : Below wr.heap.size wr w') (hl : lo ≤ wr.heap.size) : InR lo nt g sv n0 xs R w w8 w' := by
  obtain ⟨vs, h1, h2⟩ := h.t
  exact ⟨h.k.trans (Kp.of_below (S := [g]) hb) (fun _ h => h), h.b.trans (hb.mono hl), own_below h.s hb, vs, h1.ext hb, h2⟩
theorem addR_take1 {R : Nat → List ByteArray} {L : List (Nat × ByteArray)} {j n : Nat} {p : Nat × ByteArray} (h : L[j]? = some p) : addR R (L.take (j + 1)) n = addR R (L.take j) n ++ if p.1 = n then [p.2] else [] := by
  rw [take_snoc1 h, addR_snoc]
theorem olR_at {ol : List (Nat × ByteArray × Int)} {j : Nat} {q : Nat × ByteArray × Int} (h : ol[j]? = some q) : (olR ol)[j]? = some (q.1, q.2.1) := by unfold olR; rw [List.getElem?_map, h]; rfl
theorem own_mono {w : World} {lo lo' e sz n : Nat} {v : Value} {xs : List Value} (h : w.ownsRow lo e sz v n xs) (hl : lo' ≤ lo) : w.ownsRow lo' e sz v n xs :=
  ⟨h.1, by
    rcases h.2 with h0 | ⟨g, cap, cur, e1, e2, e3⟩
    · exact Or.inl h0
    · exact Or.inr ⟨g, cap, cur, e1, Nat.le_trans hl e2, e3⟩⟩
theorem outOf_lt {nt : Nat} {tx : Int} {l : List Ch} {s1 s2 : List Int} (hp : ∀ c ∈ l, 0 ≤ c.tb ∧ c.tb < nt) {p : Nat × ByteArray} (h : p ∈ outOf nt tx l s1 s2) : p.1 < nt + 1 := by
  unfold outOf at h
  rcases List.mem_cons.1 h with rfl | h
  · exact Nat.succ_pos _
  · rcases List.mem_append.1 h with h | h
    · exact evs_far tx l nt hp h
    · obtain rfl := List.mem_singleton.1 h
      exact Nat.succ_pos _
theorem outsC_at (ts : List Ta) : ∀ (ol : List (Nat × ByteArray × Int)) (j : Nat) (q : Nat × ByteArray × Int), ol[j]? = some q → (outsC ts ol)[j * 3]? = some (.string (topAt ts q.1)) ∧ (outsC ts ol)[j * 3 + 1]? = some (.int .u64 q.2.2) ∧ (outsC ts ol)[j * 3 + 2]? = some (.string q.2.1)
  | [], j, q, h => by simp at h
  | p :: ol, 0, q, h => by
    simp only [List.getElem?_cons_zero, Option.some.injEq] at h
    subst h
    exact ⟨rfl, rfl, rfl⟩
  | p :: ol, j + 1, q, h => by
    have ih := outsC_at ts ol j q (by simpa using h)
    have e : ∀ r, (outsC ts (p :: ol))[(j + 1) * 3 + r]? = (outsC ts ol)[j * 3 + r]? := fun r => by
      show (outC (topAt ts p.1) p.2.1 p.2.2 ++ outsC ts ol)[(j + 1) * 3 + r]? = _
      rw [List.getElem?_append_right (by simp [outC]; omega)]
      congr 1
      simp [outC]
      omega
    exact ⟨(e 0).trans ih.1, (e 1).trans ih.2.1, (e 2).trans ih.2.2⟩
theorem arr2 {cs : Array Value} (h : cs.size = 2) : ∃ a0 a1, cs = #[a0, a1] := by
  obtain ⟨l⟩ := cs
  match l, h with
  | [a0, a1], _ => exact ⟨a0, a1, rfl⟩
theorem put_put7 (w : World) (b : Nat) (cs ds : Array Value) (t u : TypeId) : putBlk (putBlk w b cs t) b ds u = putBlk w b ds u := by unfold putBlk; simp
theorem InR.add {lo nt g n0 m : Nat} {sv v v' : Value} {xs : List Value} {R : Nat → List ByteArray} {w w8 w6 W2 w2 : World} {vs : List Value} {pl : List (ByteArray × Int × ByteArray)} {p : ByteArray × Int × ByteArray} (hk : Kp [g] 82 w8 w6) (hb : Below lo w w6) (hs : w6.ownsRow lo 82 3 sv n0 xs) (ht : TopR lo nt g vs R w6)
    (hsep : ∀ (i : Nat) v, vs[i]? = some v → ∀ b, v.ownBlock = some b → sv.ownBlock ≠ some b) (hlo : lo ≤ w6.heap.size) (hv : vs[m]? = some v) (hpl : pl.map (·.2.2) = R m) (ho : w6.ownsRow lo 82 3 v pl.length (txC pl)) (hb2 : Below w6.heap.size w6 W2) (ho' : w2.ownsRow lo 82 3 v' (pl.length + 1) (txC pl ++ outC p.1 p.2.2 p.2.1)) (hg : W2.grownBy w2 v.ownBlock) (hap : v'.ownBlock = v.ownBlock ∨ v'.ownBlock = some W2.heap.size) :
    InR lo nt g sv n0 xs (fun z => if z = m then R z ++ [p.2.2] else R z) w w8 (putBlk w2 g (vs.set m v').toArray 78) := by
  have ho2 := own_below ho hb2
  have htop := (ht.ext hb2).add hv hpl ho2 ho' hg hap
  have hgb : Blk w2 g vs.toArray 78 := (ht.b.ext hb2).grown ho2 (by decide) hg
  have hs2 := own_below hs hb2
  have hs3 : w2.ownsRow lo 82 3 sv n0 xs := own_grown hs2 hg (by
    cases hvb : v.ownBlock with
    | none => exact Or.inl rfl
    | some b => exact Or.inr (hsep m v hv b hvb))
  have hlt := (List.getElem?_eq_some_iff.1 hv).1
  refine ⟨((hk.trans (Kp.of_below (S := [g]) hb2) (fun _ h => h)).trans (Kp.row (S := [g]) ho2 hg) (fun _ h => h)).trans (Kp.put _) (fun _ h => h), putBlk_below _ _ (grown_below (hb.trans (hb2.mono hlo)) ho2 hg (Nat.le_refl _) (Nat.le_trans hlo hb2.size)) ht.lg, ?_, vs.set m v', htop, fun i x hx b hxb hsb => ?_⟩
  · have e1 := putBlk_self hgb
    have hs4 : (putBlk w2 g vs.toArray 78).ownsRow lo 82 3 sv n0 xs := by rw [e1]; exact hs3
    exact own_put hs4 hgb.lt (by decide) _
  · by_cases ei : i = m
    · subst ei
      rw [List.getElem?_set_self hlt] at hx
      obtain rfl := Option.some.inj hx
      rcases hap with hap | hap
      · rw [hap] at hxb
        exact hsep i v hv b hxb hsb
      · rw [hap] at hxb
        simp only [Option.some.injEq] at hxb
        have := (hs.lt b hsb).2
        have := hb2.size
        omega
    · rw [List.getElem?_set_ne (fun e => ei e.symm)] at hx
      exact hsep i x hx b hxb hsb
theorem addR_len (R : Nat → List ByteArray) (L : List (Nat × ByteArray)) (n : Nat) : (addR R L n).length ≤ (R n).length + L.length := by
  unfold addR
  rw [List.length_append, List.length_map]
  have := List.length_filter_le (fun p : Nat × ByteArray => p.1 == n) L
  omega
theorem preT_le {ls : List (List Ch)} (k : Nat) : ∀ i, (∀ l ∈ ls.take i, l.length ≤ 200) → preT (tabsOf ls) i k ≤ 200 * i
  | 0, _ => Nat.le_refl _
  | i + 1, h => by
    have ih := preT_le k i (fun l hl => h l (by rw [List.take_add_one]; exact List.mem_append_left _ hl))
    rw [preT_succ]
    have h2 : ((tabsOf ls).getD i []).count k ≤ 200 := by
      cases hl : ls[i]? with
      | none =>
        rw [List.getD_eq_getElem?_getD, List.getElem?_eq_none (by rw [tabs_length]; exact List.getElem?_eq_none_iff.1 hl)]
        simp
      | some l =>
        rw [tabs_at hl]
        have h3 := h l (by rw [take_snoc1 hl]; simp)
        have h4 : List.count k (l.map fun c => c.tb.toNat) ≤ (l.map fun c => c.tb.toNat).length := List.count_le_length
        rw [List.length_map] at h4
        omega
    omega
theorem MadeR.bound {nt i : Nat} {first : Int} {ls : List (List Ch)} {R : Nat → List ByteArray} (h : MadeR nt first ls i R) (hok : ∀ l ∈ ls.take i, l.length ≤ 200) (hi : i ≤ 40) : ∀ n, n < nt + 1 → (R n).length ≤ 8000 := by
  intro n hn
  cases n with
  | zero => rw [h.l0]; omega
  | succ k =>
    rw [h.lk k (by omega)]
    have := preT_le k i hok
    omega
theorem MadeS.kp0 {ts : List Ta} {A : Option Addr} {c nt lo S RB TL g h TB : Nat} {w wr w' : World} (hm : MadeS ts A c nt lo S RB TL g h TB w wr) (hk : Kp [] 32 wr w') (hb : Below lo w w') : MadeS ts A c nt lo S RB TL g h TB w w' := by
  obtain ⟨cs, t1, t2⟩ := hm.t
  exact ⟨hk.blk hm.s (by simp) (by decide), hk.blk hm.rb (by simp) (by decide), hk.blk hm.tl (by simp) (by decide), hk.blk hm.h (by simp) (by decide), ⟨cs, hk.blk t1 (by simp) (by decide), t2⟩, hb⟩
theorem TopR.kp0 {lo nt g : Nat} {vs : List Value} {R : Nat → List ByteArray} {w w' : World} (h : TopR lo nt g vs R w) (hk : Kp [] 32 w w') : TopR lo nt g vs R w' :=
  ⟨hk.blk h.b (by simp) (by decide), h.l, h.lg, fun n v hv => by
    obtain ⟨ol, h1, h2⟩ := h.r n v hv
    exact ⟨ol, h1, own_kp h2 hk (by decide) (fun _ _ => by simp)⟩, h.a⟩
theorem TopR.kpT {lo nt g : Nat} {vs : List Value} {R : Nat → List ByteArray} {w w' : World} (h : TopR lo nt g vs R w) (hk : Kp [] 39 w w') : TopR lo nt g vs R w' :=
  ⟨hk.blk h.b (by simp) (by decide), h.l, h.lg, fun n v hv => by
    obtain ⟨ol, h1, h2⟩ := h.r n v hv
    exact ⟨ol, h1, own_kp h2 hk (by decide) (fun _ _ => by simp)⟩, h.a⟩
/-- What the append gives. -/
def MdM (lo TL g h nt : Nat) (v : Value) (n : Nat) (xs : List Value) (W0 : World) (v' : Value) (w' : World) : Prop :=
  ∃ W2, Below W0.heap.size W0 W2 ∧ w'.ownsRow lo 82 3 v' n xs ∧ W2.grownBy w' v.ownBlock ∧ (v'.ownBlock = v.ownBlock ∨ v'.ownBlock = some W2.heap.size) ∧ Blk w' TL #[.slice (some ⟨g, 0, none⟩) (nt + 1) (nt + 1), .slice (some ⟨h, 0, none⟩) (nt + 1) (nt + 1)] 39
set_option maxRecDepth 100000 in
set_option maxHeartbeats 3200000 in
set_option linter.unusedSimpArgs false in
theorem made_any (ts : List Ta) (A LA : Option Addr) (c lc nt : Nat) (first : Int) (ls : List (List Ch)) (w : World) (hT : TRow w A c ts) (hs : schB ts = true) (hnt : nt = ts.length) (h1 : 1 ≤ nt) (h12 : nt ≤ 12) (hf : 0 ≤ first ∧ first ≤ 4294967295) (hls : LsRow w LA ls) (hl40 : ls.length ≤ 40) (hTb : Tabs w) :
    Calls Tryd.prog 7 #[.agg #[.slice A nt c], .int .u64 first, .slice LA ls.length lc] w (MadeP nt first ls w) := by
  have HT := Lib.hid hT
  have HTP := Lib.hid (fun (W : World) (hW : Below w.heap.size w W) => topics_any ts A c W (hT.ext hW) hs (by omega))
  rw [← hnt] at HTP
  have HS13 := Lib.hid hs
  have HNT := Lib.hid hnt
  have HLS := Lib.hid hls
  have HTB := Lib.hid (fun (W : World) (hW : Below w.heap.size w W) => hTb.ext hW)
  have e1 : ((nt + 1 : Nat) : Int) = (nt : Int) + 1 := by omega
  have hm1 := fun (W : World) => madeT_run (nt + 1) (by omega) W
  have hm2 := fun (W : World) => madeN_run (nt + 1) (by omega) W
  have hm3 := fun (W : World) => made_u64 nt (by omega) W
  simp only [e1] at hm1 hm2
  clear hT hs hnt hls hTb e1
  go_enter Tryd.func7, Tryd.ntmps7
  go_upto_region 1 with fail
  have hA : Below w.heap.size w ((w.alloc (.cells #[.slice A nt c] 24)).alloc (.cells #[.slice none 0 0, .slice none 0 0] 39)) := (by repeat (first | exact Below.refl _ _ | assumption | refine Below.drew ?_ | refine below_drewN ?_ _ | refine Below.alloc ?_ (by simp <;> omega) _))
  have HS : Hid (Blk ((w.alloc (.cells #[.slice A nt c] 24)).alloc (.cells #[.slice none 0 0, .slice none 0 0] 39)) w.heap.size #[.slice A nt c] 24) := (by repeat (first | exact Blk.at (by simp) | assumption | refine Blk.drew ?_ | refine Blk.old ?_ _))
  have HRB : Hid (Blk ((w.alloc (.cells #[.slice A nt c] 24)).alloc (.cells #[.slice none 0 0, .slice none 0 0] 39)) (w.heap.size + 1) #[.slice none 0 0, .slice none 0 0] 39) := (by repeat (first | exact Blk.at (by simp) | assumption | refine Blk.drew ?_ | refine Blk.old ?_ _))
  have HC := Lib.hid hA
  have HSZ := Lib.hid (show ((w.alloc (.cells #[.slice A nt c] 24)).alloc (.cells #[.slice none 0 0, .slice none 0 0] 39)).heap.size = w.heap.size + 2 by simp)
  clear hA
  generalize (w.alloc (.cells #[.slice A nt c] 24)).alloc (.cells #[.slice none 0 0, .slice none 0 0] 39) = W1 at HS HRB HC HSZ ⊢
  obtain ⟨lo, hlo⟩ : ∃ lo, lo = w.heap.size := ⟨_, rfl⟩
  obtain ⟨S, hSe⟩ : ∃ S, S = w.heap.size := ⟨_, rfl⟩
  obtain ⟨RB, hRe⟩ : ∃ R, R = w.heap.size + 1 := ⟨_, rfl⟩
  rw [← hRe] at HRB ⊢
  rw [← hSe] at HS ⊢
  have HLO := Lib.hid hlo
  have HLS2 : Hid (lo ≤ S ∧ lo ≤ RB ∧ lo ≤ W1.heap.size ∧ RB < W1.heap.size) := by have := HSZ.out; show _ ∧ _; omega
  have HC : Hid (Below lo w W1) := by rw [hlo]; exact HC.out
  clear hlo hRe hSe HSZ
  have hwn : IntKind.i64.wrap ((nt : Int) + 1) = (nt : Int) + 1 := IntWalk.i64_in _ (by omega)
  refine region_last 12 _ [false, false, false, false, false, false, false, false, false, true, false, false, false, false, false, false, false, false, false, true, true, true, true, true, true, true, true, true, true, true, false, false, false, false, false, false, false, false, false, false, false, false, false, false, false, false, false, false, false, false, false, false, false, false, false, false, false, false, false, false, false, false, false, false, false, false, false, false, false, false, false, false, false, false, false, false, false, false, false, false, false, false, false, false, false, false, false, false, false, false, false, false, false, false, false, false, false, false, false, false, false, false, false, false, false, false, false, false, false, false, false, false, false, false, false, false] [19, 20, 21, 22, 23, 24, 25, 26, 27, 28, 29, 9] [.val (.pointer (some ⟨S, 0, none⟩)), .val (.slice A nt c), .val (.int .i64 nt), .val (.int .i64 ((nt : Int) + 1)), kTopS lo nt, .val (.pointer (some ⟨S, 0, none⟩)), .val (.slice A nt c), .val (.int .i64 nt), .val (.int .i64 ((nt : Int) + 1)), kAtS lo nt, kTopA lo nt, kTopP W1.heap.size] [11, 10] (by kernel_rfl) (by kernel_rfl) rfl (by kernel_rfl) (by kernel_rfl) (by kernel_rfl) (by kernel_rfl) (by kernel_rfl) ⟨?_, ?_, ?_, ?_, ?_, ?_, ?_, ?_, ?_, ?_, ?_, ?_, trivial⟩ ?done
  case done =>
    intro x w5 hb5
    simp only [StepGoal, List.getD_cons_zero, List.getD_cons_succ]
    rintro _ ⟨TL, rfl, lTL, bTL⟩ _ ⟨g, h, rfl, ⟨lg, lh⟩, bg, bh⟩
    have hS := HS.out.ext hb5
    have hRB := HRB.out.ext hb5
    have hRT : RB ≠ TL := by have := HLS2.out.2.2.2; omega
    have lTL : lo ≤ TL := Nat.le_trans HLS2.out.2.2.1 lTL
    have hC := HC.out.trans (hb5.mono HLS2.out.2.2.1)
    clear hb5 HS HRB HC hm1 hm2
    obtain ⟨w6, rfl, lt⟩ := blk_put bTL
    obtain ⟨pc1, pf1, pS1⟩ := putBlk_facts (w := w6) 39 lt
    have HS := Lib.hid (putBlk_old hS (blk_apart hS bTL (by decide)) #[.slice (some ⟨g, 0, none⟩) (nt + 1) (nt + 1), .slice (some ⟨h, 0, none⟩) (nt + 1) (nt + 1)])
    have HRB := Lib.hid (putBlk_old hRB hRT #[.slice (some ⟨g, 0, none⟩) (nt + 1) (nt + 1), .slice (some ⟨h, 0, none⟩) (nt + 1) (nt + 1)])
    have HG := Lib.hid (putBlk_old bg (blk_apart bg bTL (by decide)) #[.slice (some ⟨g, 0, none⟩) (nt + 1) (nt + 1), .slice (some ⟨h, 0, none⟩) (nt + 1) (nt + 1)])
    have HH := Lib.hid (putBlk_old bh (blk_apart bh bTL (by decide)) #[.slice (some ⟨g, 0, none⟩) (nt + 1) (nt + 1), .slice (some ⟨h, 0, none⟩) (nt + 1) (nt + 1)])
    have HTL := Lib.hid (putBlk_blk (w := w6) #[.slice (some ⟨g, 0, none⟩) (nt + 1) (nt + 1), .slice (some ⟨h, 0, none⟩) (nt + 1) (nt + 1)] 39 lt)
    have HC := Lib.hid (putBlk_belows hC lTL #[.slice (some ⟨g, 0, none⟩) (nt + 1) (nt + 1), .slice (some ⟨h, 0, none⟩) (nt + 1) (nt + 1)])
    have HLH := Lib.hid (show lo ≤ g ∧ lo ≤ h ∧ lo ≤ TL from ⟨lg, lh, lTL⟩)
    clear hS hRB hC bg bh bTL lTL lg lh hRT
    intro K1 hK1
    rw [if_pos (by rfl)]; simp only [overlay, upd, cond_true, cond_false, Nat.reduceEqDiff, reduceIte]
    go_simp
    refine hK1.out _ _ ?_
    go_upto_region 2 with fail
    clear pc1 pf1 pS1 lt
    generalize putBlk w6 TL #[.slice (some ⟨g, 0, none⟩) (nt + 1) (nt + 1), .slice (some ⟨h, 0, none⟩) (nt + 1) (nt + 1)] 39 = W2 at HS HRB HG HH HTL HC ⊢
    have s0 := HS.out.cell 0
    have lS := HS.out.lt
    have hlw : lo ≤ W2.heap.size := Nat.le_trans HLS2.out.1 (Nat.le_of_lt lS)
    simp only [List.getElem?_toArray, List.getElem?_cons_zero] at s0
    go_wp2_with fail
    refine (HTP.out _ (by rw [← HLO.out]; exact HC.out)).mono ?_
    rintro r w3 ⟨TB, cs, rfl, _, hTB, hcs, hall, hb⟩
    have HTT : Hid (∃ cs, Blk w3 TB cs 9 ∧ cs.size = nt + 1 ∧ ∀ i, i ≤ nt → cs[i]? = some (.string (topAt ts i))) := ⟨cs, hTB, by rw [HNT.out]; exact hcs, fun i hi => hall i (by rw [← HNT.out]; exact hi)⟩
    rw [← HNT.out]
    have HS := Lib.hid (HS.out.ext hb)
    have HRB := Lib.hid (HRB.out.ext hb)
    have HG := Lib.hid (HG.out.ext hb)
    have HH := Lib.hid (HH.out.ext hb)
    have HTL := Lib.hid (HTL.out.ext hb)
    have HC := Lib.hid (HC.out.trans (hb.mono hlw))
    have HLW : Hid (lo ≤ w3.heap.size) := Nat.le_trans hlw hb.size
    clear hb hTB hcs hall HTP s0 lS hlw
    have s0 := HS.out.cell 0
    have lS := HS.out.lt
    simp only [List.getElem?_toArray, List.getElem?_cons_zero] at s0
    go_upto_region 4 with fail
    have hA : Below w3.heap.size w3 ((w3.alloc (.cells (Array.replicate nt (Value.int .u64 0)) 29)).alloc (.cells #[.int .u64 0, .slice (some ⟨w3.heap.size, 0, none⟩) nt nt] 32)) := (by repeat (first | exact Below.refl _ _ | assumption | refine Below.drew ?_ | refine below_drewN ?_ _ | refine Below.alloc ?_ (by simp <;> omega) _))
    have HS := Lib.hid (HS.out.ext hA)
    have HRB := Lib.hid (HRB.out.ext hA)
    have HG := Lib.hid (HG.out.ext hA)
    have HH := Lib.hid (HH.out.ext hA)
    have HTL := Lib.hid (HTL.out.ext hA)
    have HTT : Hid (∃ cs, Blk ((w3.alloc (.cells (Array.replicate nt (Value.int .u64 0)) 29)).alloc (.cells #[.int .u64 0, .slice (some ⟨w3.heap.size, 0, none⟩) nt nt] 32)) TB cs 9 ∧ cs.size = nt + 1 ∧ ∀ i, i ≤ nt → cs[i]? = some (.string (topAt ts i))) := by obtain ⟨cs, t1, t2⟩ := HTT.out; exact ⟨cs, t1.ext hA, t2⟩
    have HP0 : Hid (Blk ((w3.alloc (.cells (Array.replicate nt (Value.int .u64 0)) 29)).alloc (.cells #[.int .u64 0, .slice (some ⟨w3.heap.size, 0, none⟩) nt nt] 32)) (w3.heap.size + 1) #[.int .u64 0, .slice (some ⟨w3.heap.size, 0, none⟩) nt nt] 32) := (by repeat (first | exact Blk.at (by simp) | assumption | refine Blk.drew ?_ | refine Blk.old ?_ _))
    have HGZ : Hid (Blk ((w3.alloc (.cells (Array.replicate nt (Value.int .u64 0)) 29)).alloc (.cells #[.int .u64 0, .slice (some ⟨w3.heap.size, 0, none⟩) nt nt] 32)) w3.heap.size (Array.replicate nt (Value.int .u64 0)) 29) := (Blk.new w3 _ _).old _
    have HC := Lib.hid (HC.out.trans (hA.mono HLW.out))
    have HPL : Hid (lo ≤ w3.heap.size + 1) := Nat.le_succ_of_le HLW.out
    clear hA s0 lS hm3
    generalize (w3.alloc (.cells (Array.replicate nt (Value.int .u64 0)) 29)).alloc (.cells #[.int .u64 0, .slice (some ⟨w3.heap.size, 0, none⟩) nt nt] 32) = W4 at HS HRB HG HH HTL HTT HP0 HGZ HC ⊢
    generalize w3.heap.size = G0 at HP0 HGZ HPL ⊢
    generalize G0 + 1 = P at HP0 HPL ⊢
    have HI : Hid (OutI ts A c nt lo S RB TL g h TB P first ls w 0 W4) := by
      refine ⟨⟨HS.out, HRB.out, HTL.out, HH.out, HTT.out, HC.out⟩, ⟨G0, List.replicate nt 0, by simpa using HP0.out, ?_, ⟨by simp, ?_⟩, ?_⟩, ⟨List.replicate (nt + 1) (Value.slice none 0 0), fun _ => [], TopR.start (by simpa using HG.out) HLH.out.1, MadeR.start nt first ls⟩, fun l hl => by simp at hl⟩
      · simpa using HGZ.out
      · intro v hv
        have := List.eq_of_mem_replicate hv
        omega
      · intro v hv
        have := List.eq_of_mem_replicate hv
        omega
    clear HS HRB HG HH HTL HTT HP0 HGZ HC
    go_wp2_with fail
    go_loopw [12, 13] (fun m i wr => ∃ j : Nat, j ≤ ls.length ∧ m = .int .i64 (mostN (ls.take j)) ∧ i = .int .i64 j ∧ Hid (OutI ts A c nt lo S RB TL g h TB P first ls w j wr)) (fun _ i _ => ls.length - (intOf i).toNat)
    case atStart => exact ⟨0, by omega, rfl, rfl, HI⟩
    case round =>
      clear HI
      obtain ⟨i, hi, rfl, rfl, HI⟩ := hrel
      by_cases hlt : i < ls.length
      · obtain ⟨b, off, l, rfl, hbl, hli, A1, c1, e0, hch⟩ := (HLS.out.ext (by have := HI.out.s.b; rwa [HLO.out] at this)).at_ hlt
        obtain ⟨G, sq, hp, hg, hsq, hsm⟩ := HI.out.p
        have HWB : Hid (Below w.heap.size w wr) := by have := HI.out.s.b; rwa [HLO.out] at this
        obtain ⟨mk, hmk⟩ : ∃ q : Int, q = 2 * (i : Int) := ⟨_, rfl⟩
        obtain ⟨M, hM⟩ : ∃ q : Int, q = 200 * (i : Int) := ⟨_, rfl⟩
        rw [← hmk] at hp
        rw [← hM] at hsm
        have HOF := Lib.hid (fun (W : World) (hW : Below wr.heap.size wr W) => of_any ts A (some ⟨G, 0, none⟩) A1 c nt c1 nt (first + (i : Int)) mk M sq l W (HT.out.ext (bt HWB.out hW)) HS13.out HNT.out h1 h12 (NRow.of_blk (hg.ext hW) (by have := hsq.1; omega)) hsq hsm (by omega) (by omega) (by omega) (hch.ext hW) (HTB.out W (bt HWB.out hW)))
        have HLI := Lib.hid hli
        have HMK := Lib.hid (And.intro hmk hM)
        have HPB := Lib.hid hp
        have HE0 := Lib.hid e0
        have hlw : lo ≤ wr.heap.size := Nat.le_of_lt (Nat.lt_of_le_of_lt HLS2.out.1 HI.out.s.s.lt)
        have HLW8 := Lib.hid hlw
        clear hp hg hsq hsm hli hch hmk hM e0 hlw
        have hw4 : IntKind.u64.wrap (i : Int) = i := IntWalk.u64_in _ (by omega)
        have hw5 : IntKind.u64.wrap (first + (i : Int)) = first + (i : Int) := IntWalk.u64_in _ (by omega)
        have i0 : (0 : Int) ≤ (i : Int) := by omega
        have i1 : (i : Int) < ls.length := by omega
        go_upto_region 8 with fail
        refine region_ghost 17 (TP wr.heap.size) (TP wr.heap.size wr) (0, undef, undef, 0) (fun γ => [.val (.agg #[.slice A nt c]), .val (.agg #[.int .u64 mk, .slice (some ⟨G, 0, none⟩) nt nt]), .val (.int .u64 first), .val (.int .i64 i), .val (.int .u64 i), .val (.int .u64 (first + (i : Int))), .val (.slice (some ⟨b, off, none⟩) ls.length lc), .val (.int .i64 i), .val (.pointer (some ⟨b, off + i, none⟩)), .val (.slice A1 l.length c1), kOf ts nt wr.heap.size (first + (i : Int)) mk M l γ, .val (.tuple #[γ.2.1, γ.2.2.1, .int .i64 γ.2.2.2]), .val (γ.2.1), .val (γ.2.2.1), .val (.int .i64 γ.2.2.2), kBox wr.heap.size γ, .val (γ.2.1), kPut γ, .val (.int .i64 γ.2.2.2)]) R8 [[], [], [], [], [], [], [], [], [], [], [11, 12, 13, 14, 16, 17, 18], [], [], [], [], [17], [], [], []] [false, false, false, false, false, false, false, false, false, false, false, false, false, false, true, true, true, false, false, false, false, false, false, false, false, false, false, false, false, false, false, false, false, false, false, false, false, false, false, false, false, false, false, true, true, true, true, true, true, true, true, true, true, true, true, true, true, true, false, false, false, false, false, false, false, false, false, false, false, false, false, false, false, false, false, false, false, false, false, false, false, false, false, false, false, false, false, false, false, false, false, false, false, false, false, false, false, false, false, false, false, false, false, false, false, false, false, false, false, false, false, false, false, false, false, false] [44, 45, 46, 47, 48, 49, 50, 51, 52, 53, 54, 43, 55, 56, 57, 15, 14, 0, 16] [10, 15, 17, 16, 18] ?t0 ?tb ?ts ?tk ?gr (by kernel_rfl) (by kernel_rfl) (by kernel_rfl) (by kernel_rfl) (by kernel_rfl) (by kernel_rfl) ⟨?_, ?_, ?_, ?_, ?_, ?_, ?_, ?_, ?_, ?_, ?_, ?_, ?_, ?_, ?_, ?_, ?_, ?_, ?_, trivial⟩ ?done
        case t0 => exact TP.of_below (Below.refl _ _).drew (Nat.le_refl _)
        case tb => exact fun w1 w2 h1 h2 => h1.trans (TP.of_below h2 h1.1.size)
        case ts => exact fun w1 w2 h1 h2 => h1.trans h2
        case tk =>
          intro γ j hj v w1 w2 h1 h2 hh
          iterate 19 (rcases j with _ | j; · first | exact hh | exact absurd rfl hj | exact ⟨hh.1, hh.2.tp h2⟩ | (obtain ⟨g1, g2, cs, g3, g4⟩ := hh; obtain ⟨cs', g5, g6⟩ := h2.2.2 _ cs g4 g3; exact ⟨g1, g2, cs', g5, g6⟩))
          exact hh
        case gr =>
          rintro k ⟨b1, sv1, pv1, e1⟩ ⟨b2, sv2, pv2, e2⟩ hR j hc hj
          rcases hR with ⟨rfl, h⟩ | ⟨rfl, h⟩ | h
          all_goals
            cases h
            iterate 19 (rcases j with _ | j; · first | rfl | exact absurd hc (by decide) | exact absurd rfl hj)
            rfl
        case done =>
          rintro ⟨bx, sv, pv, e⟩ x w5 hb5
          simp only [StepGoal, List.getD_cons_zero, List.getD_cons_succ]
          rintro _ ⟨rfl, hq⟩ _ ⟨rfl, hbx, _⟩ v9 ⟨p0, p1, hpv, hB⟩
          dsimp only at hq hbx hpv hB ⊢
          subst hpv
          simp only [overlay, upd, cond_true, cond_false, Nat.reduceEqDiff, reduceIte]
          have hs5 := HI.out.s.ext hb5.1 HLW8.out
          have hp5 := HPB.out.below hb5.1 HPB.out.lt
          obtain ⟨vs, R, hr, hm⟩ := HI.out.t
          have hr5 := hr.ext hb5.1
          have hok := HI.out.ok
          have HSEP : Hid (∀ (i : Nat) v, vs[i]? = some v → ∀ b, v.ownBlock = some b → b < wr.heap.size) := fun i v hv b hb => by
            obtain ⟨ol, _, h2⟩ := hr.r i v hv
            exact (h2.lt b hb).2
          clear HI HPB HE0 hr HOF
          rcases hq.2 with ⟨he, hno⟩ | ⟨rfl, hokc, h200, G2, s1, s2, ol, hpv2, hsv, hol, hs1, hs2, hG2, hsm2⟩
          · have t0 := hs5.tl.cell 0
            have t1 := hs5.tl.cell 1
            have lT := hs5.tl.lt
            simp only [List.getElem?_toArray, List.getElem?_cons_zero, List.getElem?_cons_succ] at t0 t1
            have HB5 := Lib.hid hs5.b
            have hrb := hs5.rb
            clear hs5 hp5 hr5 hm hq hok hB HSEP
            obtain ⟨w6, hew, lt⟩ := blk_put hrb
            obtain ⟨pc1, pf1, pS1⟩ := putBlk_facts (w := w6) 39 lt
            subst hew
            go_wp2_with fail
            refine bodyPost_ret (v := .tuple #[.agg #[.slice (some ⟨g, 0, none⟩) (nt + 1) (nt + 1), .slice (some ⟨h, 0, none⟩) (nt + 1) (nt + 1)], .int .i64 0, .bool false]) (by simp [results, Tryd.results7, go_sem, pc1]) rfl ⟨?_, Or.inl ⟨_, _, _, _, _, _, rfl⟩⟩
            rw [← HLO.out]
            have hb6 := putBlk_belows HB5.out HLS2.out.2.1 #[.slice (some ⟨g, 0, none⟩) (nt + 1) (nt + 1), .slice (some ⟨h, 0, none⟩) (nt + 1) (nt + 1)]
            exact hb6
          · simp only [Value.agg.injEq, Array.mk.injEq, List.cons.injEq, and_true] at hpv2
            obtain ⟨rfl, rfl⟩ := hpv2
            obtain ⟨O, oc, rfl⟩ : ∃ O oc, sv = .slice (some ⟨O, 0, none⟩) ol.length oc := by
              rcases hsv.2 with ⟨_, h0⟩ | ⟨O, oc, cur, e, _⟩
              · exfalso
                have h1 := congrArg List.length hol
                rw [olR_length, h0] at h1
                simp [outOf] at h1
              · exact ⟨O, oc, e⟩
            have hpC : ∀ c ∈ l, 0 ≤ c.tb ∧ c.tb < nt := fun c hc => by
              obtain ⟨i, hi⟩ := List.mem_iff_getElem?.1 hc
              have := hokc i c hi
              exact ⟨this.1, this.2.1⟩
            have HOL : Hid (ol.length = l.length + 2) := by
              have h1 := congrArg List.length hol
              rw [olR_length] at h1
              simp [outOf, evsTo_length] at h1
              exact h1
            have HQL : Hid (∀ (j : Nat) q, ol[j]? = some q → q.1 < nt + 1) := fun j q hq => by
              have h1 : (olR ol)[j]? = some (q.1, q.2.1) := by unfold olR; rw [List.getElem?_map, hq]; rfl
              rw [hol] at h1
              exact outOf_lt hpC (List.mem_of_getElem? h1)
            have HIN : Hid (InR lo nt g (.slice (some ⟨O, 0, none⟩) ol.length oc) ol.length (outsC ts ol) (addR R ((olR ol).take 0)) w w5 w5) := by
              refine ⟨Kp.refl _ _ _, hs5.b, own_mono hsv HLW8.out, vs, by rw [List.take_zero, addR_nil]; exact hr5, fun i v hv b hb hb2 => ?_⟩
              have h1 := HSEP.out i v hv b hb
              have h2 := (hsv.lt b hb2).1
              omega
            have HS5 := Lib.hid hs5
            have HP5 := Lib.hid hp5
            have HB5 := Lib.hid hB
            have HG5 := Lib.hid hr5.b
            have HOLR := Lib.hid hol
            have HS12 := Lib.hid (And.intro hs1 hs2)
            have HG2 := Lib.hid hG2
            have HSM2 := Lib.hid hsm2
            have HM := Lib.hid hm
            have HOKC := Lib.hid (And.intro hokc h200)
            have HOK := Lib.hid hok
            have HOLL : Hid (ol.length ≤ 202) := by have := HOL.out; show _ ≤ _; omega
            have t0 := hs5.tl.cell 0
            have lT := hs5.tl.lt
            simp only [List.getElem?_toArray, List.getElem?_cons_zero, List.getElem?_cons_succ] at t0
            clear hq hs1 hs2 hol hG2 hsm2 hB hs5 hp5 hr5 hm hok hsv hokc h200 HSEP hpC
            clear hbx hb5 hw4 hw5 i0 i1 hbl
            go_wp2_with fail
            go_loopw [17] (fun kk wx => ∃ j : Nat, j ≤ ol.length ∧ kk = .int .i64 j ∧ Hid (InR lo nt g (.slice (some ⟨O, 0, none⟩) ol.length oc) ol.length (outsC ts ol) (addR R ((olR ol).take j)) w w5 wx)) (fun kk _ => ol.length - (intOf kk).toNat)
            case atStart => exact ⟨0, by omega, rfl, HIN⟩
            case round =>
              clear HIN
              obtain ⟨j, hj, rfl, HJ⟩ := hrel
              have HJL : Hid (ol.length ≤ 202) := HOLL.out
              by_cases hjl : j < ol.length
              · obtain ⟨q, hq⟩ : ∃ q, ol[j]? = some q := ⟨_, List.getElem?_eq_getElem hjl⟩
                have HQ := Lib.hid hq
                have hqn := HQL.out j q hq
                have j1 : (j : Int) < ol.length := by omega
                have hj202 : ol.length ≤ 202 := HOLL.out
                clear hq
                go_wp2_with fail
                go_loopw [18] (fun nn wy => ∃ m : Nat, m ≤ nt + 1 ∧ nn = .int .i64 m ∧ Hid (InR lo nt g (.slice (some ⟨O, 0, none⟩) ol.length oc) ol.length (outsC ts ol) (fun z => if z < m then addR R ((olR ol).take (j + 1)) z else addR R ((olR ol).take j) z) w w5 wy)) (fun nn _ => nt + 1 - (intOf nn).toNat)
                case atStart => exact ⟨0, by omega, rfl, HJ.out.congr (fun z _ => by simp)⟩
                case round =>
                  clear HJ
                  obtain ⟨m, hm, rfl, HM3⟩ := hrel
                  by_cases hml : m < nt + 1
                  · have HMS := Lib.hid (HS5.out.kp HM3.out.k HG5.out HM3.out.b)
                    have m1 : (m : Int) < (nt : Int) + 1 := by omega
                    go_upto_region 17 with fail
                    obtain ⟨tcs, ht1, ht2, ht3⟩ := HMS.out.t
                    have htm : tcs[m]? = some (.string (topAt ts m)) := ht3 m (by omega)
                    have HT1 := Lib.hid ht1
                    have hstr : ((topAt ts m).toList == (topAt ts q.1).toList) = decide (m = q.1) := by
                      by_cases h : m = q.1
                      · rw [h]; simp
                      · have h2 : topAt ts m ≠ topAt ts q.1 := fun e => h (topAt_inj HS13.out (by rw [← HNT.out]; omega) (by rw [← HNT.out]; omega) e)
                        rw [decide_eq_false h, beq_str h2]
                    have m0 : (0 : Int) ≤ (m : Int) := by omega
                    have j0 : (0 : Int) ≤ (j : Int) := by omega
                    clear ht1 ht3
                    refine region_grow [false, false, false, false, false, false, false, false, false, false, false, false, false, false, false, false, false, false, false, false, false, false, false, false, false, false, false, false, false, false, false, false, false, false, false, false, false, false, false, false, false, false, false, false, false, false, false, false, false, false, false, false, false, false, false, false, false, false, false, false, false, false, false, false, false, false, false, false, false, false, false, false, false, false, false, false, false, false, false, false, false, true, true, true, true, true, true, true, true, true, true, false, false, false, false, false, false, false, false, false, false, false, false, false, false, false, false, false, false, false, false, false, false, false, false, false] [81, 82, 83, 84, 85, 86, 87, 88, 89, 90] [.val (.slice (some ⟨TB, 0, none⟩) (nt + 1) (nt + 1)), .val (.int .i64 m), .val (.pointer (some ⟨TB, m, none⟩)), .val (.string (topAt ts m)), .val (.slice (some ⟨O, 0, none⟩) ol.length oc), .val (.int .i64 j), .val (.pointer (some ⟨O, j * 3, none⟩)), .val (.pointer (some ⟨O, j * 3, none⟩)), .val (.string (topAt ts q.1)), .val (.bool (decide (m = q.1)))] [9] (by kernel_rfl) (by kernel_rfl) (by kernel_rfl) (by kernel_rfl) (by kernel_rfl) ⟨?_, ?_, ?_, ?_, ?_, ?_, ?_, ?_, ?_, ?_, trivial⟩ ?done
                    case done =>
                      intro x w6 hb6
                      simp only [StepGoal, List.getD_cons_zero, List.getD_cons_succ]
                      simp only [overlay, upd, cond_true, cond_false, Nat.reduceEqDiff, reduceIte]
                      have hlw : lo ≤ wr.heap.size := Nat.le_trans HLS2.out.1 (Nat.le_of_lt HMS.out.s.lt)
                      have HB6 := Lib.hid hb6
                      generalize hd : decide (m = q.1) = d
                      cases d with
                      | true =>
                        have hmq : m = q.1 := of_decide_eq_true hd
                        clear hd hstr
                        obtain ⟨vs2, hr2, hsep2⟩ := HM3.out.t
                        have hr6 := hr2.ext hb6
                        obtain ⟨v, hv⟩ : ∃ v, vs2[m]? = some v := ⟨_, List.getElem?_eq_getElem (by rw [hr2.l]; exact hml)⟩
                        obtain ⟨pl, hpl, hown⟩ := hr6.r m v hv
                        have hm6 := HM3.out.ext hb6 hlw
                        have HADD := Lib.hid (fun (W2 w2 : World) (v' : Value) (hb2 : Below w6.heap.size w6 W2) (ho' : w2.ownsRow lo 82 3 v' (pl.length + 1) (txC pl ++ outC (topAt ts q.1) q.2.1 q.2.2)) (hg : W2.grownBy w2 v.ownBlock) (hap : v'.ownBlock = v.ownBlock ∨ v'.ownBlock = some W2.heap.size) => InR.add (p := (topAt ts q.1, q.2.2, q.2.1)) hm6.k hm6.b hm6.s hr6 hsep2 (Nat.le_trans hlw hb6.size) hv hpl hown hb2 ho' hg hap)
                        have hplb : pl.length ≤ 8500 := by
                          have e := congrArg List.length hpl
                          rw [List.length_map] at e
                          simp only [Nat.lt_irrefl, if_false] at e
                          have e1 := addR_len R ((olR ol).take j) m
                          have e2 := HM.out.bound (fun l hl => (HOK.out l hl).2) (by omega) m hml
                          have e3 := List.length_take_le j (olR ol)
                          omega
                        have HTL := Lib.hid (HMS.out.tl.ext hb6)
                        have HOWN := Lib.hid hown
                        have HGB := Lib.hid hr6.b
                        have HSV := Lib.hid hm6.s
                        have HV := Lib.hid hv
                        have HLW := Lib.hid (Nat.le_trans hlw hb6.size)
                        have HB6 := Lib.hid hb6
                        have HMQ := Lib.hid hmq
                        clear hr2 hsep2 hr6 hv hpl hown hm6 HM3 HMS hlw hb6 HT1 hmq
                        go_upto_region 18 with fail
                        obtain ⟨i3, hi3, hy0, hy1, hy2⟩ := info_parts info_Out
                        refine region_app 15 13 _ [false, false, false, false, false, false, false, false, false, false, false, false, false, false, false, false, false, false, false, false, false, false, false, false, false, false, false, false, false, false, false, false, false, false, false, false, false, false, false, false, false, false, false, false, false, false, false, false, false, false, false, false, false, false, false, false, false, false, false, false, false, false, false, false, false, false, false, false, false, false, false, false, false, false, false, false, false, false, false, false, false, false, false, false, false, false, false, false, false, false, false, true, true, true, true, true, true, true, true, true, true, true, true, true, true, true, false, false, false, false, false, false, false, false, false, false] [91, 92, 93, 94, 95, 96, 97, 98, 99, 100, 101, 102, 103, 104, 105] [.val (.pointer (some ⟨TL, 0, none⟩)), .val (.slice (some ⟨g, 0, none⟩) (nt + 1) (nt + 1)), .val (.int .i64 m), .val (.pointer (some ⟨TL, 0, none⟩)), .val (.slice (some ⟨g, 0, none⟩) (nt + 1) (nt + 1)), .val (.int .i64 m), .val (.pointer (some ⟨g, m, none⟩)), .val (v), .val (.slice (some ⟨O, 0, none⟩) ol.length oc), .val (.int .i64 j), .val (.pointer (some ⟨O, j * 3, none⟩)), .val (.agg #[.string (topAt ts q.1), .int .u64 q.2.2, .string q.2.1]), .new (fun g => .slice (some ⟨g, 0, none⟩) 1 1) #[.string (topAt ts q.1), .int .u64 q.2.2, .string q.2.1] 82, kAny, .val (.pointer (some ⟨g, m, none⟩))] [0, 1, 2, 14] (fun W => Blk W TL #[.slice (some ⟨g, 0, none⟩) (nt + 1) (nt + 1), .slice (some ⟨h, 0, none⟩) (nt + 1) (nt + 1)] 39) (MdM lo TL g h nt v (pl.length + 1) (txC pl ++ outC (topAt ts q.1) q.2.1 q.2.2) w6) [7, 12] [14] ?hj1 ?hj2 (by kernel_rfl) (by kernel_rfl) rfl (by decide) (by kernel_rfl) (by kernel_rfl) (by kernel_rfl) (by kernel_rfl) rfl (by kernel_rfl) (by kernel_rfl) (by kernel_rfl) (by kernel_rfl) (by kernel_rfl) ⟨?_, ?_, ?_, ?_, ?_, ?_, ?_, ?_, ?_, ?_, ?_, ?_, ?_, ?app, ?_, trivial⟩ ?done
                        case hj1 => intro W hW; exact HTL.out.ext hW
                        case hj2 => rintro v' W ⟨W2, _, _, _, _, h⟩; exact h
                        case app =>
                          intro x W2 hb2
                          simp only [StepGoal, List.getD_cons_zero, List.getD_cons_succ]
                          intro bq hq K hK
                          rw [if_pos (by rfl)]
                          simp only [overlay, upd, cond_true, cond_false, Nat.reduceEqDiff, reduceIte]
                          have ho2 := own_below HOWN.out hb2
                          refine wp_append_apart W2 (.tmp 98) (.tmp 103) 78 rfl lo 82 i3 _ 3 40 Tryd.underlying78 hi3 hy0 hy1 hy2 rfl (by decide) v pl.length (txC pl) rfl ho2 ⟨bq, 0, none⟩ 1 1 (outC (topAt ts q.1) q.2.1 q.2.2) rfl rfl (cells_blkL hq) (by simp [outC, Value.oneCell']) (by simp only [maxLen]; omega) (by omega) (Nat.le_trans HLW.out hb2.size) (by decide) ?_
                          intro v' w' ho' hg' hap
                          exact hK.out _ _ ⟨W2, hb2, ho', hg', hap, (HTL.out.ext hb2).grown ho2 (by decide) hg'⟩
                        case done =>
                          rintro x w2 v2 ⟨W2, hb2, ho', hg', hap, hTL'⟩
                          simp only [StepGoal, List.getD_cons_zero, List.getD_cons_succ]
                          intro K hK
                          have HF0 := HADD.out W2 w2 v2 hb2 ho' hg' hap
                          have hgb := (HGB.out.ext hb2).grown (own_below HOWN.out hb2) (by decide) hg'
                          obtain ⟨A', c', rfl⟩ := own_form ho'
                          obtain ⟨w3, rfl, lt⟩ := blk_put hgb
                          obtain ⟨pc1, pf1, pS1⟩ := putBlk_facts (w := w3) 78 lt
                          rw [put_put7] at HF0
                          have HF : Hid (InR lo nt g (.slice (some ⟨O, 0, none⟩) ol.length oc) ol.length (outsC ts ol) (fun z => if z < m + 1 then addR R ((olR ol).take (j + 1)) z else addR R ((olR ol).take j) z) w w5 (putBlk w3 g (vs2.set m (.slice A' (pl.length + 1) c')).toArray 78)) := by
                            refine HF0.congr (fun z _ => ?_)
                            by_cases hz : z = m
                            · subst hz
                              rw [if_pos rfl, if_neg (Nat.lt_irrefl _), if_pos (Nat.lt_succ_self _), addR_take1 (olR_at HQ.out), if_pos HMQ.out.symm]
                            · rw [if_neg hz]
                              by_cases hz2 : z < m
                              · rw [if_pos hz2, if_pos (by omega)]
                              · rw [if_neg hz2, if_neg (by omega)]
                          have hv := HV.out
                          clear hgb ho' hg' hTL' HF0 HADD hb2
                          rw [if_pos (by rfl)]; simp only [overlay, upd, cond_true, cond_false, Nat.reduceEqDiff, reduceIte]
                          go_simp
                          refine hK.out _ _ ?_
                          clear hv pc1 pf1 pS1 lt
                          generalize putBlk w3 g (vs2.set m (.slice A' (pl.length + 1) c')).toArray 78 = w7 at HF ⊢
                          go_wp2_with fail
                          go_roundw
                          case rel => exact ⟨m + 1, by omega, by go_num, HF⟩
                          case measure => simp [intOf]; omega
                        all_goals first
                          | (intro x w2 hb2
                             have hTL := HTL.out.ext hb2
                             have t0 := hTL.cell 0
                             have lT := hTL.lt
                             have hGB := HGB.out.ext hb2
                             have hv := HV.out
                             have g0 := hGB.cell m
                             rw [List.getElem?_toArray, hv] at g0
                             have lG := hGB.lt
                             have hsv := own_below HSV.out hb2
                             have hc0 := hsv.cells (g := O) rfl _ _ (outsC_at ts ol j q HQ.out).1
                             have hc1 := hsv.cells (g := O) rfl _ _ (outsC_at ts ol j q HQ.out).2.1
                             have hc2 := hsv.cells (g := O) rfl _ _ (outsC_at ts ol j q HQ.out).2.2
                             rw [addr_add, Nat.zero_add] at hc0 hc1 hc2
                             have lO := (hsv.lt O rfl).2
                             simp only [List.getElem?_toArray, List.getElem?_cons_zero, List.getElem?_cons_succ] at t0
                             clear hTL hGB hsv hv
                             intro K hK
                             rw [if_pos (by rfl)]; simp only [overlay, upd, cond_true, cond_false, Nat.reduceEqDiff, reduceIte]
                             go_simp
                             first
                               | exact hK.out _ _ (Below.refl _ _) rfl
                               | exact hK.out _ rfl
                               | exact hK.out _ _ (by repeat (first | exact Below.refl _ _ | assumption | refine Below.drew ?_ | refine below_drewN ?_ _ | refine Below.alloc ?_ (by simp <;> omega) _)) ⟨_, rfl, Blk.new _ _ _⟩)
                          | (intro x w2 hTL
                             have t0 := hTL.cell 0
                             have lT := hTL.lt
                             simp only [List.getElem?_toArray, List.getElem?_cons_zero, List.getElem?_cons_succ] at t0
                             intro K hK
                             rw [if_pos (by rfl)]; simp only [overlay, upd, cond_true, cond_false, Nat.reduceEqDiff, reduceIte]
                             go_simp
                             first
                               | exact hK.out _ _ (Below.refl _ _) rfl
                               | exact hK.out _ rfl)
                      | false =>
                        have hmq : m ≠ q.1 := of_decide_eq_false hd
                        have HF : Hid (InR lo nt g (.slice (some ⟨O, 0, none⟩) ol.length oc) ol.length (outsC ts ol) (fun z => if z < m + 1 then addR R ((olR ol).take (j + 1)) z else addR R ((olR ol).take j) z) w w5 w6) := by
                          refine (HM3.out.ext hb6 hlw).congr (fun z _ => ?_)
                          by_cases hz : z = m
                          · subst hz
                            rw [if_neg (Nat.lt_irrefl _), if_pos (Nat.lt_succ_self _), addR_take1 (olR_at HQ.out), if_neg (fun e => hmq e.symm), List.append_nil]
                          · by_cases hz2 : z < m
                            · rw [if_pos hz2, if_pos (by omega)]
                            · rw [if_neg hz2, if_neg (by omega)]
                        clear hd hstr HM3 HMS HT1
                        go_wp2_with fail
                        go_roundw
                        case rel => exact ⟨m + 1, by omega, by go_num, HF⟩
                        case measure => simp [intOf]; omega
                    all_goals
                      intro x w6 hb6
                      have hT := HT1.out.ext hb6
                      have tm := hT.cell m
                      rw [htm] at tm
                      have lTB := hT.lt
                      have hsv := own_below HM3.out.s hb6
                      have hc0 := hsv.cells (g := O) rfl _ _ (outsC_at ts ol j q HQ.out).1
                      rw [addr_add, Nat.zero_add] at hc0
                      have lO := (hsv.lt O rfl).2
                      clear hT hsv
                      intro K hK
                      rw [if_pos (by rfl)]; simp only [overlay, upd, cond_true, cond_false, Nat.reduceEqDiff, reduceIte]
                      go_simp
                      exact hK.out _ _ (Below.refl _ _) rfl
                  · have HJ2 : Hid (InR lo nt g (.slice (some ⟨O, 0, none⟩) ol.length oc) ol.length (outsC ts ol) (addR R ((olR ol).take (j + 1))) w w5 wr) := HM3.out.congr (fun z hz => by rw [if_pos (by omega)])
                    have hmn : m = nt + 1 := by omega
                    clear HM3 hml hm
                    subst hmn
                    go_wp2_with fail
                    go_roundw
                    case rel => exact ⟨j + 1, by omega, by go_num, HJ2⟩
                    case measure => simp [intOf]; omega
              · have hjn : j = ol.length := by omega
                have hk := HJ.out.k
                have hbj := HJ.out.b
                obtain ⟨vs3, hr3, _⟩ := HJ.out.t
                have htk : (olR ol).take j = olR ol := List.take_of_length_le (by rw [olR_length]; omega)
                rw [htk] at hr3
                have hms := HS5.out.kp hk HG5.out hbj
                have key : ∀ {x : Nat} {cs : Array Value} {u : TypeId}, Blk w5 x cs u → u ≠ 78 → u ≠ 82 → Blk wr x cs u := fun {x cs u} h1 h2 h3 => hk.blk h1 (fun hm => by obtain rfl := List.mem_singleton.1 hm; exact blk_apart h1 HG5.out h2 rfl) h3
                have hP := key HP5.out (by decide) (by decide)
                have hB := key HB5.out (by decide) (by decide)
                have hG := key HG2.out (by decide) (by decide)
                obtain ⟨b', off', l', e', hbw, hli', A1', c1', e0w, _⟩ := HLS.out.at_ hlt
                have e1' : b = b' ∧ off = off' := by simpa using e'
                obtain ⟨rfl, rfl⟩ := e1'
                have hli := HLI.out
                rw [hli] at hli'
                obtain rfl := Option.some.inj hli'
                have b0 := hB.cell 0
                have b1 := hB.cell 1
                have lB := hB.lt
                simp only [List.getElem?_toArray, List.getElem?_cons_zero, List.getElem?_cons_succ] at b0 b1
                obtain ⟨w6, rfl, lt⟩ := blk_put hP
                obtain ⟨pc1, pf1, pS1⟩ := putBlk_facts (w := w6) 32 lt
                have hk0 := Kp.put_same (ds := #[.int .u64 (mk + 2), .slice (some ⟨G2, 0, none⟩) nt nt]) hP
                rw [put_put7] at hk0
                have hbn : Below lo w (putBlk w6 P #[.int .u64 (mk + 2), .slice (some ⟨G2, 0, none⟩) nt nt] 32) := putBlk_belows hbj HPL.out _
                have hbw' : b < lo := by rw [HLO.out]; exact hbw
                have e0n := (hbn.cell (p := ⟨b, off + i, none⟩) hbw').trans e0w
                have lbn := Nat.lt_of_lt_of_le hbw hbn.size
                have hmk := HMK.out
                have HF : Hid (OutI ts A c nt lo S RB TL g h TB P first ls w (i + 1) (putBlk w6 P #[.int .u64 (mk + 2), .slice (some ⟨G2, 0, none⟩) nt nt] 32)) := by
                  refine ⟨hms.kp0 hk0 hbn, ⟨G2, s2, ?_, hk0.blk hG (by simp) (by decide), HS12.out.2, fun v hv => ?_⟩, ⟨vs3, addR R (olR ol), hr3.kp0 hk0, ?_⟩, fun l2 hl2 => ?_⟩
                  · have e : (2 : Int) * ((i + 1 : Nat) : Int) = mk + 2 := by omega
                    rw [e]
                    exact putBlk_blk _ _ lt
                  · have h1 := HSM2.out v hv
                    have h2 := HOKC.out.2
                    omega
                  · rw [HOLR.out]
                    exact HM.out.next hli (fun c hc => by obtain ⟨x, hx⟩ := List.mem_iff_getElem?.1 hc; have := HOKC.out.1 x c hx; exact ⟨this.1, this.2.1⟩) HS12.out.1 HS12.out.2
                  · rw [take_snoc1 hli] at hl2
                    rcases List.mem_append.1 hl2 with h | h
                    · exact HOK.out l2 h
                    · obtain rfl := List.mem_singleton.1 h
                      exact HOKC.out
                have HMO : Hid (mostN (ls.take (i + 1)) = max (mostN (ls.take i)) l.length) := by
                  show _ = _
                  rw [take_snoc1 hli, mostN_snoc]
                have hge : ¬ (j : Int) < ol.length := by omega
                clear hk hbj hr3 htk hms hP hB hG e' hbw e0w hli hk0 hbn hbw' hmk HJ HM HOK HOKC HS12 HG2 HB5 HP5 HSM2
                go_wp2_with fail
                refine ⟨⟨i + 1, by omega, ?_, by go_num, HF⟩, ?_⟩
                · have e := HMO.out
                  congr 1
                  omega
                · simp [intOf]; omega
        case refine_11 =>
          rintro ⟨bx, sv, pv, e⟩ x w5 hb5
          intro K hK
          rw [if_pos (by rfl)]; simp only [overlay, upd, cond_true, cond_false, Nat.reduceEqDiff, reduceIte]
          go_simp
          refine (HOF.out _ hb5.1).mono ?_
          rintro r wb hr
          obtain ⟨sv2, pv2, e2, rfl, hq, hbb⟩ := hr.q
          go_wp2_with fail
          exact hK.out _ _ (bx, sv2, pv2, e2) (SR.low (by decide) hbb) (Or.inl ⟨rfl, rfl⟩) ⟨rfl, hq.mono hb5.1.size⟩
        case refine_12 =>
          rintro ⟨bx, sv, pv, e⟩ x w5 hb5
          rintro _ ⟨rfl, hq⟩ K hK
          rw [if_pos (by rfl)]; simp only [overlay, upd, cond_true, cond_false, Nat.reduceEqDiff, reduceIte]
          go_simp
          exact hK.out _ _ _ (SR.low (by decide) (Below.refl _ _)) (Or.inr (Or.inr rfl)) rfl
        case refine_16 =>
          rintro ⟨bx, sv, pv, e⟩ x w5 hb5
          intro K hK
          rw [if_pos (by rfl)]; simp only [overlay, upd, cond_true, cond_false, Nat.reduceEqDiff, reduceIte]
          go_simp
          exact hK.out _ _ (w5.heap.size, sv, pv, e) (SR.low (by decide) (by repeat (first | exact Below.refl _ _ | assumption | refine Below.drew ?_ | refine below_drewN ?_ _ | refine Below.alloc ?_ (by simp <;> omega) _))) (Or.inr (Or.inl ⟨rfl, rfl⟩)) ⟨rfl, hb5.1.size, _, rfl, Blk.new _ _ _⟩
        case refine_17 =>
          rintro ⟨bx, sv, pv, e⟩ x w5 hb5
          rintro _ ⟨rfl, hq⟩ _ ⟨rfl, _⟩ _ ⟨rfl, _, _, _, _⟩ K hK
          rw [if_pos (by rfl)]; simp only [overlay, upd, cond_true, cond_false, Nat.reduceEqDiff, reduceIte]
          go_simp
          exact hK.out _ _ _ (SR.low (by decide) (Below.refl _ _)) (Or.inr (Or.inr rfl)) rfl
        case refine_18 =>
          rintro ⟨bx, sv, pv, e⟩ x w5 hb5
          rintro _ ⟨rfl, lb, cs, hcs, hB⟩ _ ⟨rfl, hq⟩ _ ⟨rfl, _, _, _, _⟩ K hK
          obtain ⟨⟨pa, pD, pn, pc0, hpv⟩, _⟩ := hq
          dsimp only at lb hB hpv
          subst hpv
          obtain ⟨a0, a1, rfl⟩ := arr2 hcs
          have hTE := TP.put (B := wr.heap.size) (ds := #[.int .u64 pa, .slice pD pn pc0]) hB lb rfl
          obtain ⟨w6, rfl, lt⟩ := blk_put hB
          rw [put_put7] at hTE
          obtain ⟨pc, pf, pS⟩ := putBlk_facts (w := w6) 32 lt
          clear hB
          rw [if_pos (by rfl)]; simp only [overlay, upd, cond_true, cond_false, List.getD_cons_zero, List.getD_cons_succ, Nat.reduceEqDiff, reduceIte]
          go_simp
          exact hK.out undef _ _ (SR.put hTE) (Or.inr (Or.inr rfl)) ⟨_, _, rfl, putBlk_blk _ _ lt⟩
        case refine_19 =>
          rintro ⟨bx, sv, pv, e⟩ x w5 hb5
          rintro v9 _ _ ⟨rfl, hq⟩ _ ⟨rfl, _⟩ v8 _ K hK
          rw [if_pos (by rfl)]; simp only [overlay, upd, cond_true, cond_false, Nat.reduceEqDiff, reduceIte]
          go_simp
          exact hK.out _ _ _ (SR.low (by decide) (Below.refl _ _)) (Or.inr (Or.inr rfl)) rfl
        all_goals
          rintro ⟨bx, sv, pv, e⟩ x w5 hb5
          have hS := HI.out.s.s.below hb5.1 HI.out.s.s.lt
          have hP := HPB.out.below hb5.1 HPB.out.lt
          have s0 := hS.cell 0
          have lS := hS.lt
          have p0 := hP.cell 0
          have p1 := hP.cell 1
          have lP := hP.lt
          have e0 := (hb5.1.cell (p := ⟨b, off + i, none⟩) hbl).trans HE0.out
          have lb := Nat.lt_of_lt_of_le hbl hb5.1.size
          simp only [List.getElem?_toArray, List.getElem?_cons_zero, List.getElem?_cons_succ] at s0 p0 p1
          clear hS hP
          intro K hK
          rw [if_pos (by rfl)]; simp only [overlay, upd, cond_true, cond_false, Nat.reduceEqDiff, reduceIte]
          go_simp
          exact hK.out _ _ _ (SR.low (by decide) (Below.refl _ _)) (Or.inr (Or.inr rfl)) rfl
      · have hin : i = ls.length := by omega
        subst hin
        have HMS := Lib.hid HI.out.s
        obtain ⟨vs, R, hr, hm⟩ := HI.out.t
        have hok := HI.out.ok
        rw [List.take_length] at hok ⊢
        have t0 := HMS.out.tl.cell 0
        have t1 := HMS.out.tl.cell 1
        have lT := HMS.out.tl.lt
        simp only [List.getElem?_toArray, List.getElem?_cons_zero, List.getElem?_cons_succ] at t0 t1
        have hrb := HMS.out.rb
        have hrt : Kp [] 39 wr wr := Kp.refl _ _ _
        have hkp := Kp.put_same (ds := #[.slice (some ⟨g, 0, none⟩) (nt + 1) (nt + 1), .slice (some ⟨h, 0, none⟩) (nt + 1) (nt + 1)]) hrb
        have HR := Lib.hid hr
        have HM := Lib.hid hm
        have HOK := Lib.hid hok
        have hbl := HMS.out.b
        clear hr hm hok HI hrt
        obtain ⟨w6, rfl, lt⟩ := blk_put hrb
        obtain ⟨pc1, pf1, pS1⟩ := putBlk_facts (w := w6) 39 lt
        rw [put_put7] at hkp
        have HFIN : Hid (MadeP nt first ls w (.returned (.tuple #[.agg #[.slice (some ⟨g, 0, none⟩) (nt + 1) (nt + 1), .slice (some ⟨h, 0, none⟩) (nt + 1) (nt + 1)], .int .i64 (mostN ls), .bool true])) (putBlk w6 RB #[.slice (some ⟨g, 0, none⟩) (nt + 1) (nt + 1), .slice (some ⟨h, 0, none⟩) (nt + 1) (nt + 1)] 39)) := by
          refine ⟨?_, Or.inr ⟨HOK.out, g, h, vs, R, rfl, ?_, HM.out, ?_, ?_⟩⟩
          · rw [← HLO.out]
            exact putBlk_belows hbl HLS2.out.2.1 _
          · rw [← HLO.out]
            exact HR.out.kpT hkp
          · rw [← HLO.out]
            exact HLH.out.2.1
          · exact hkp.blk HMS.out.h (by simp) (by decide)
        clear hkp hbl hrb
        go_wp2_with fail
        exact bodyPost_ret (v := .tuple #[.agg #[.slice (some ⟨g, 0, none⟩) (nt + 1) (nt + 1), .slice (some ⟨h, 0, none⟩) (nt + 1) (nt + 1)], .int .i64 (mostN ls), .bool true]) (by simp [results, Tryd.results7, go_sem, pc1]) rfl HFIN.out
  all_goals
    intro x w5 hb5
    have hS := HS.out.ext hb5
    have s0 := hS.cell 0
    have lS := hS.lt
    simp only [List.getElem?_toArray, List.getElem?_cons_zero] at s0
    have HL5 : Hid (lo ≤ w5.heap.size) := Nat.le_trans HLS2.out.2.2.1 hb5.size
    clear hS
    simp only [StepGoal, List.getD_cons_zero, List.getD_cons_succ]
    first
      | (intro K hK
         rw [if_pos (by rfl)]; simp only [overlay, upd, cond_true, cond_false, Nat.reduceEqDiff, reduceIte]
         go_simp
         first
           | exact hK.out _ _ (Below.refl _ _) rfl
           | exact hK.out _ _ (by repeat (first | exact Below.refl _ _ | assumption | refine Below.drew ?_ | refine below_drewN ?_ _ | refine Below.alloc ?_ (by simp <;> omega) _)) ⟨_, rfl, HL5.out, Blk.new _ _ _⟩
           | exact hK.out _ _ (by repeat (first | exact Below.refl _ _ | assumption | refine Below.drew ?_ | refine below_drewN ?_ _ | refine Below.alloc ?_ (by simp <;> omega) _)) ⟨_, rfl, hb5.size, Blk.new _ _ _⟩)
      | (rintro _ ⟨g0, rfl, lg0, bg0⟩ _ ⟨h0, rfl, lh0, bh0⟩
         intro K hK
         rw [if_pos (by rfl)]; simp only [overlay, upd, cond_true, cond_false, Nat.reduceEqDiff, reduceIte]
         go_simp
         exact hK.out _ _ (Below.refl _ _) ⟨_, _, rfl, ⟨lg0, lh0⟩, bg0, bh0⟩)
end Go.Proofs.YtkfhfegogmlchaaDoor
