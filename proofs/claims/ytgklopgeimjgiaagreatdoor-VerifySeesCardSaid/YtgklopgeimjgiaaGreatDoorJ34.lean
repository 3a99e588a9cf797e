/- Several texts in one: see each part's head. -/
import Derived.Test.YtgklopgeimjgiaaGreatDoorJ33
import Derived.BigQuiet
/- VerifySees: verify.Docs$1: a gap told. -/
namespace Go.Proofs.YtgklopgeimjgiaaGreatDoor
open Go.RowKit

/-- A gap: its kind, its root. -/
def gapC (x : Int × (Int × V)) : List Value := [.int .u8 x.1, .int .i64 x.2.1, .int .u8 x.2.2.k, .int .i64 x.2.2.n, .int .u64 x.2.2.r, .string x.2.2.t]
def gcells (l : List (Int × (Int × V))) : List Value := l.flatMap gapC
theorem info_Gap : (Tryz.prog.info? 51).map (fun i => (i.zero, i.size, i.bytes)) = some (some (.agg #[.int .u8 0, .int .i64 0, .int .u8 0, .int .i64 0, .int .u64 0, .string ⟨#[]⟩]), 6, 56) := by kernel_rfl
/-- Gaps so far. -/
structure GapS (base b1 : Nat) (gs : List (Int × (Int × V))) (A : Option Addr) (c : Nat) (w : World) : Prop where
  b : Blk w b1 #[.slice A gs.length c] 38
  o : w.ownsRow base 51 6 (.slice A gs.length c) gs.length (gcells gs)
def Doc1Q (base b1 : Nat) (gs : List (Int × (Int × V))) (A : Option Addr) (w : World) (q : Ending) (w' : World) : Prop :=
  q = .returned (.tuple #[]) ∧ ∃ A' c', GapS base b1 gs A' c' w' ∧ Chg (b1 :: gS A) w w' ∧ ∀ i ∈ gS A', i ∈ gS A ∨ w.heap.size ≤ i
set_option maxRecDepth 100000 in
set_option maxHeartbeats 800000 in
theorem docs1_any {base b1 b2 c : Nat} {gs : List (Int × (Int × V))} {A : Option Addr} {w : World} (kd : Int) (p : Int × V) (h : GapS base b1 gs A c w) (hp : Blk w b2 #[.int .i64 p.1, .int .u8 p.2.k, .int .i64 p.2.n, .int .u64 p.2.r, .string p.2.t] 78) (hl : gs.length ≤ 100000000) (hb : base ≤ w.heap.size) :
    Calls Tryz.prog 34 #[.int .u8 kd, .pointer (some ⟨b1, 0, none⟩), .pointer (some ⟨b2, 0, none⟩)] w (Doc1Q base b1 (gs ++ [(kd, p)]) A w) := by
  obtain ⟨j0, hj0, hz0, hz1, hz2⟩ := info_parts info_Gap
  obtain ⟨RP, hRP⟩ : ∃ RP, RP = Doc1Q base b1 (gs ++ [(kd, p)]) A w := ⟨_, rfl⟩
  rw [← hRP]
  have HRP : Hid (∀ q w', Doc1Q base b1 (gs ++ [(kd, p)]) A w q w' → RP q w') := fun q w' h => hRP ▸ h
  obtain ⟨pt, pk, pn, pr, ps⟩ := p
  simp only at hp HRP
  have o0 := h.b.cell 0
  have lo' := h.b.lt
  have r0 := hp.cell 0
  have r1 := hp.cell 1
  have r2 := hp.cell 2
  have r3 := hp.cell 3
  have r4 := hp.cell 4
  have lr := hp.lt
  simp only [List.getElem?_toArray, List.getElem?_cons_zero, List.getElem?_cons_succ] at o0 r0 r1 r2 r3 r4
  have HG := Lib.hid h
  have HB := Lib.hid hb
  clear h hp hRP hb
  go_enter Tryz.func34, Tryz.ntmps34
  go_wp2_with (at_builtin; refine wpList_append_lies _ rfl _ _ 38 rfl base 51 j0 _ 6 56 Tryz.underlying38 hj0 hz0 hz1 hz2 rfl (by decide) (.slice A gs.length c) gs.length (gcells gs) (by simp [go_sem]) (HG.out.o.alloc _) ⟨w.heap.size, 0, none⟩ 1 1 (gcells [(kd, (pt, ⟨pk, pn, pr, ps⟩))]) (by simp [go_sem]) rfl (World.news_of_block (Blk.new w #[.int .u8 kd, .int .i64 pt, .int .u8 pk, .int .i64 pn, .int .u64 pr, .string ps] 51)) (by simp [gcells, gapC, Value.oneCell']) (by decide) (by simp only [maxLen]; omega) (by omega) (by have := HB.out; simp; omega) _ rfl ?_)
  intro g6 c6 w6 hown6 hg6 hat6 _
  have hba : Below w.heap.size w (w.alloc (.cells #[.int .u8 kd, .int .i64 pt, .int .u8 pk, .int .i64 pn, .int .u64 pr, .string ps] 51)) := (by repeat (first | exact Below.refl _ _ | assumption | refine Below.drew ?_ | refine below_drewN ?_ _ | refine Below.alloc ?_ (by simp <;> omega) _))
  have hc6 : Chg (gS A) w w6 := ((Chg.of_below (S := gS A) hba).trans (Chg.of_grownV hg6) (fun i hi => Or.inl hi))
  have hnb : b1 ∉ gS A := fun hm => own_vne HG.out.o HG.out.b (by decide) (gS_own.2 hm)
  have hb6 : Blk w6 b1 #[.slice A gs.length c] 38 := HG.out.b.chg hc6 hnb
  have e1 : gcells gs ++ gcells [(kd, (pt, ⟨pk, pn, pr, ps⟩))] = gcells (gs ++ [(kd, (pt, ⟨pk, pn, pr, ps⟩))]) := by simp [gcells]
  rw [e1] at hown6
  have hgs : ∀ i ∈ gS (some ⟨g6, 0, none⟩), i ∈ gS A ∨ w.heap.size ≤ i := by
    intro i hi
    simp only [gS, List.mem_singleton] at hi
    subst hi
    rcases hat6 with h1 | h1
    · exact Or.inl (gS_own.1 h1)
    · right; rw [h1]; simp
  obtain ⟨w7, rfl, lt⟩ := blk_put hb6
  obtain ⟨pc, pf, pS⟩ := putBlk_facts (w := w7) 38 lt
  have hcp := putx_chg w7 b1 #[.slice A gs.length c] #[.slice (some ⟨g6, 0, none⟩) (gs.length + 1) c6] 38
  have HF : Hid (RP (.returned (.tuple #[])) (putBlk w7 b1 #[.slice (some ⟨g6, 0, none⟩) (gs.length + 1) c6] 38)) := by
    refine HRP.out _ _ ⟨rfl, some ⟨g6, 0, none⟩, c6, ⟨?_, ?_⟩, ?_, hgs⟩
    · rw [List.length_append]; exact putBlk_blk _ _ lt
    · rw [List.length_append]
      refine own_chg hown6 hcp (fun i hi e => ?_)
      rw [List.mem_singleton] at hi
      subst hi
      exact own_vne hown6 hb6 (by decide) e
    · exact (hc6.weak (fun i hi => Or.inl (List.mem_cons_of_mem _ hi))).trans hcp (fun i hi => by rw [List.mem_singleton] at hi; subst hi; exact Or.inl (by simp))
  clear hown6 hg6 hat6 hba hc6 hnb hb6 e1 hgs hcp o0 r0 r1 r2 r3 r4
  go_wp2_with fail
  go_end0
  exact HF.out
end Go.Proofs.YtgklopgeimjgiaaGreatDoor

/- VerifySees: fascicleref35.Same of one gap and itself; verify.sorted of nothing. -/
namespace Go.Proofs.YtgklopgeimjgiaaGreatDoor
open Go.RowKit

/-- A gap's cells lie at a place. -/
def GapAt (w : World) (g : Nat) (x : Int × (Int × V)) : Prop := g < w.heap.size ∧ w.cell? ⟨g, 0, none⟩ = some (.int .u8 x.1) ∧ w.cell? ⟨g, 1, none⟩ = some (.int .i64 x.2.1) ∧ w.cell? ⟨g, 2, none⟩ = some (.int .u8 x.2.2.k) ∧ w.cell? ⟨g, 3, none⟩ = some (.int .i64 x.2.2.n) ∧ w.cell? ⟨g, 4, none⟩ = some (.int .u64 x.2.2.r) ∧ w.cell? ⟨g, 5, none⟩ = some (.string x.2.2.t)
theorem gapAt_own {w : World} {base g c : Nat} {x : Int × (Int × V)} (h : w.ownsRow base 51 6 (.slice (some ⟨g, 0, none⟩) 1 c) 1 (gcells [x])) : GapAt w g x := by
  have hc := h.cells (g := g) rfl
  have key : ∀ q v, (gapC x)[q]? = some v → w.cell? ⟨g, q, none⟩ = some v := by
    intro q v hv
    have := hc q v (by unfold gcells; rw [List.flatMap_cons, List.flatMap_nil, List.append_nil]; exact hv)
    rwa [addr_add, Nat.zero_add] at this
  exact ⟨(h.lt g rfl).2, key 0 _ rfl, key 1 _ rfl, key 2 _ rfl, key 3 _ rfl, key 4 _ rfl, key 5 _ rfl⟩
set_option maxRecDepth 100000 in
set_option maxHeartbeats 800000 in
theorem same35_one {ga gb c1 c2 : Nat} {x : Int × (Int × V)} {w : World} (ha : GapAt w ga x) (hb : GapAt w gb x) :
    Calls Tryz.prog 13 #[.slice (some ⟨ga, 0, none⟩) 1 c1, .slice (some ⟨gb, 0, none⟩) 1 c2] w fun q w' => q = .returned (.bool true) ∧ Below w.heap.size w w' := by
  obtain ⟨k, t, vk, vn, vr, vt⟩ := x
  have HA := Lib.hid ha
  have HB := Lib.hid hb
  clear ha hb
  go_enter Tryz.func13, Tryz.ntmps13
  go_wp2_with fail
  go_loopw [5] (fun v wr => ∃ j : Nat, j ≤ 1 ∧ v = .int .i64 j ∧ Hid (Below w.heap.size w wr)) (fun v _ => 1 - (intOf v).toNat)
  case atStart => exact ⟨0, by omega, rfl, Below.refl _ _⟩
  case round =>
    obtain ⟨j, hj, rfl, HW⟩ := hrel
    by_cases hlt : j < 1
    · obtain rfl : j = 0 := by omega
      clear hj hlt
      obtain ⟨la, a0, a1, a2, a3, a4, a5⟩ := HA.out
      obtain ⟨lb, b0, b1, b2, b3, b4, b5⟩ := HB.out
      have hw := HW.out
      have a0 := (hw.cell (p := ⟨ga, 0, none⟩) la).trans a0
      have a1 := (hw.cell (p := ⟨ga, 1, none⟩) la).trans a1
      have a2 := (hw.cell (p := ⟨ga, 2, none⟩) la).trans a2
      have a3 := (hw.cell (p := ⟨ga, 3, none⟩) la).trans a3
      have a4 := (hw.cell (p := ⟨ga, 4, none⟩) la).trans a4
      have a5 := (hw.cell (p := ⟨ga, 5, none⟩) la).trans a5
      have b0 := (hw.cell (p := ⟨gb, 0, none⟩) lb).trans b0
      have b1 := (hw.cell (p := ⟨gb, 1, none⟩) lb).trans b1
      have b2 := (hw.cell (p := ⟨gb, 2, none⟩) lb).trans b2
      have b3 := (hw.cell (p := ⟨gb, 3, none⟩) lb).trans b3
      have b4 := (hw.cell (p := ⟨gb, 4, none⟩) lb).trans b4
      have b5 := (hw.cell (p := ⟨gb, 5, none⟩) lb).trans b5
      have la' := Nat.lt_of_lt_of_le la hw.size
      have lb' := Nat.lt_of_lt_of_le lb hw.size
      clear hw
      simp only at a0 a1 a2 a3 a4 a5 b0 b1 b2 b3 b4 b5
      go_upto_region 6 with fail
      go_quiet (fail)
      go_wp2_with fail
      exact ⟨⟨1, Nat.le_refl _, rfl, below_drewN HW.out _⟩, by simp [intOf]⟩
    · obtain rfl : j = 1 := by omega
      clear hj hlt
      go_wp2_with fail
      go_ret
      exact ⟨rfl, HW.out⟩
set_option maxRecDepth 100000 in
/-- Nothing, sorted. -/
theorem sorted_nil (w : World) : Calls Tryz.prog 32 #[.slice none 0 0, .func (.func 33) #[] #[]] w fun q w' => q = .returned (.slice none 0 0) ∧ Below w.heap.size w w' := by
  have HSN := Lib.hid (fun (W : World) => (AnyF.slices_SortFunc_none Tryz.sortR none 0 (.func (.func 33) #[] #[]) W))
  change Hid (∀ W, Calls Tryz.prog 55 _ _ _) at HSN
  have HCN : Hid (∀ (W : World) (F : Value), Calls Tryz.prog 56 #[.slice none 0 0, F] W fun q W' => q = .returned (.slice none 0 0) ∧ W' = W) := by
    intro W F
    go_enter Tryz.func56, Tryz.ntmps56
    go_wp2
    go_ret
    exact ⟨rfl, rfl⟩
  go_enter Tryz.func32, Tryz.ntmps32
  go_wp2_with fail
  refine (HSN.out _).mono ?_
  rintro q w2 ⟨rfl, rfl⟩
  go_wp2_with fail
  refine (HCN.out _ _).mono ?_
  rintro q w3 ⟨rfl, rfl⟩
  go_wp2_with fail
  go_ret
  exact ⟨rfl, (by repeat (first | exact Below.refl _ _ | assumption | refine Below.drew ?_ | refine below_drewN ?_ _ | refine Below.alloc ?_ (by simp <;> omega) _))⟩
end Go.Proofs.YtgklopgeimjgiaaGreatDoor

/- VerifySees, plain: the roots that verify.sorted leaves are those that there are, each once. -/
namespace Go.Proofs.YtgklopgeimjgiaaGreatDoor
open Go.RowKit

def embR (p : Nat × V) : Int × V := ((p.1 : Int), p.2)
theorem embR_less (a b : Nat × V) : pLI (embR a) (embR b) = pLess a b := rfl
theorem embR_eq (a b : Nat × V) : eqR (embR a) (embR b) = (!pLess a b && !pLess b a) := by
  unfold eqR
  rw [ordF_zero, embR_less, embR_less]
theorem adjF_map {α β : Type} (f : α → β) (eq : β → β → Bool) : ∀ (p : α) (l : List α), adjF eq (f p) (l.map f) = (adjF (fun a b => eq (f a) (f b)) p l).map f
  | p, [] => rfl
  | p, a :: r => by
    rw [List.map_cons, adjF, adjF, adjF_map f eq a r]
    cases h : eq (f a) (f p) <;> simp
theorem adjL_map {α β : Type} (f : α → β) (eq : β → β → Bool) (l : List α) : adjL eq (l.map f) = (adjL (fun a b => eq (f a) (f b)) l).map f := by
  cases l with
  | nil => rfl
  | cons a r => rw [List.map_cons, adjL, adjL, adjF_map, List.map_cons]
theorem adj_comp {α : Type} {eq : α → α → Bool} : ∀ (n : Nat) (l : List α), l.length ≤ n → (∀ a ∈ l, ∀ b ∈ l, eq a b = true ↔ a = b) → adjL eq l = compP eq l
  | _, [], _, _ => by rw [compP]; rfl
  | _, [a], _, _ => by rw [compP]; rfl
  | 0, a :: b :: r, h, _ => by simp at h
  | n + 1, a :: b :: r, h, he => by
    rw [compP]
    have hl : r.length + 1 ≤ n := by simp only [List.length_cons] at h; omega
    by_cases e : eq a b = true
    · have e2 := (he a (by simp) b (by simp)).1 e
      subst e2
      rw [if_pos e, ← adj_comp n (a :: r) hl (fun x hx y hy => he x (List.mem_cons_of_mem _ hx) y (List.mem_cons_of_mem _ hy))]
      show a :: adjF eq a (a :: r) = a :: adjF eq a r
      rw [adjF, if_pos e]
    · have e3 : ¬ eq b a = true := fun h' => e ((he a (by simp) b (by simp)).2 ((he b (by simp) a (by simp)).1 h').symm)
      rw [if_neg e, ← adj_comp n (b :: r) hl (fun x hx y hy => he x (List.mem_cons_of_mem _ hx) y (List.mem_cons_of_mem _ hy))]
      show a :: adjF eq a (b :: r) = a :: (b :: adjF eq b r)
      rw [adjF, if_neg e3]
theorem sorted_roots {l : List (Nat × V)} {ss : List (Int × V)} (hk : ∀ x ∈ l, okK x.2) (hp : ss.Perm (l.map embR)) (hs : ss.Pairwise fun a b => pLI b a = false) : ∃ ys : List (Nat × V), adjL eqR ss = ys.map embR ∧ ys.Nodup ∧ ∀ x, x ∈ ys ↔ x ∈ l := by
  obtain ⟨m, rfl, hm⟩ : ∃ m : List (Nat × V), ss = m.map embR ∧ m.Perm l := by
    refine ⟨ss.map fun p => (p.1.toNat, p.2), ?_, ?_⟩
    · rw [List.map_map]
      have : ∀ x ∈ ss, (embR ∘ fun p : Int × V => (p.1.toNat, p.2)) x = x := fun x hx => by
        obtain ⟨y, _, rfl⟩ := List.mem_map.1 (hp.mem_iff.1 hx)
        rfl
      rw [List.map_congr_left this, List.map_id']
    · have h2 := hp.map (fun p : Int × V => (p.1.toNat, p.2))
      rw [List.map_map] at h2
      have e : l.map ((fun p : Int × V => (p.1.toNat, p.2)) ∘ embR) = l := by
        exact (List.map_congr_left (g := id) fun x _ => rfl).trans (List.map_id l)
      rwa [e] at h2
  have hs' : m.Pairwise fun a b => pLess b a = false := by
    rw [List.pairwise_map] at hs
    exact hs.imp fun {a b} h => h
  have hmk : ∀ x ∈ m, okK x.2 := fun x hx => hk x (hm.mem_iff.1 hx)
  have he : ∀ a ∈ m, ∀ b ∈ m, (!pLess a b && !pLess b a) = true ↔ a = b := by
    intro a ha b hb
    constructor
    · intro h
      simp only [Bool.and_eq_true, Bool.not_eq_true'] at h
      exact pLess_eq h.1 h.2 (hmk a ha) (hmk b hb)
    · rintro rfl
      rw [pLess_swo.irrefl]
      rfl
  obtain ⟨h1, h2⟩ := roots_ok hk hm hs'
  refine ⟨compP (fun a b => !pLess a b && !pLess b a) m, ?_, h1, h2⟩
  rw [adjL_map, ← adj_comp m.length m (Nat.le_refl _) he]
  congr 1
  have e : (fun a b => eqR (embR a) (embR b)) = fun a b => !pLess a b && !pLess b a := by funext a b; exact embR_eq a b
  rw [e]
end Go.Proofs.YtgklopgeimjgiaaGreatDoor

/- VerifySees: what agg.doer's closure lives on (DoE); a document under way (DocL). -/
namespace Go.Proofs.YtgklopgeimjgiaaGreatDoor
open Go.RowKit

/-- What the closure reads. -/
structure DoE (us : List Ta) (r M : Nat) (A : Option Addr) (c : Nat) (tn : Int) (l : List Rw) (bl b1 b3 b6 : Nat) (w : World) : Prop where
  rel : RelR us r M A c tn l w
  bx : Blk w b1 #[.pointer (some ⟨r, 0, none⟩)] 30
  sc : ∃ vs A2 c2, Blk w b3 #[.slice A2 (List.length vs) c2] 24 ∧ TRow w A2 c2 vs ∧ vs.map Ta.d = us.map Ta.d
  be : ∃ q qc, Blk w bl #[.slice (some ⟨q, 0, none⟩) us.length qc] 110 ∧ q < w.heap.size ∧ ∀ t, t < us.length → ∃ K kc, w.cell? ⟨q, t, none⟩ = some (.slice K (kidsR us t).length kc) ∧ NRow .i64 w K (kidsR us t)
  fn : Blk w b6 #[.func (.func 48) #[] #[.pointer (some ⟨bl, 0, none⟩), .pointer (some ⟨b1, 0, none⟩), .pointer (some ⟨b3, 0, none⟩), .pointer (some ⟨b6, 0, none⟩)]] 69
variable {us : List Ta} {r M : Nat} {A : Option Addr} {c : Nat} {tn : Int} {l : List Rw} {bl b1 b3 b6 : Nat} {w w' : World}
theorem DoE.ext (h : DoE us r M A c tn l bl b1 b3 b6 w) (hb : Below w.heap.size w w') : DoE us r M A c tn l bl b1 b3 b6 w' := by
  obtain ⟨vs, A2, c2, s1, s2, s3⟩ := h.sc
  obtain ⟨q, qc, e1, e2, e3⟩ := h.be
  refine ⟨h.rel.ext hb, h.bx.ext hb, ⟨vs, A2, c2, s1.ext hb, s2.ext hb, s3⟩, ⟨q, qc, e1.ext hb, Nat.lt_of_lt_of_le e2 hb.size, fun t ht => ?_⟩, h.fn.ext hb⟩
  obtain ⟨K, kc, k1, k2⟩ := e3 t ht
  exact ⟨K, kc, (hb.cell (p := ⟨q, t, none⟩) e2).trans k1, k2.ext hb⟩
/-- The rows below one, table by table. -/
theorem docF_succ (kids : Nat → List Nat) (key ref : Nat → List V → V) (st : List Rw) (f : Nat) (x : Rw) : docF kids key ref st (f + 1) x = .mk x.1 x.2 ((belowS kids key ref st x).map (docF kids key ref st f)) := rfl
/-- At the depth's end there are no tables below. -/
theorem kds_end (hp : preB us us.length = true) {t : Nat} (hf : 8 ≤ dpN us t) : kdsN us t = [] := by
  rw [List.eq_nil_iff_forall_not_mem]
  intro x hx
  have h1 := (stok_of (l := []) hp List.Pairwise.nil).kid t x hx
  obtain ⟨u, h2, _⟩ := mem_kdsN.1 hx
  have hl := (List.getElem?_eq_some_iff.1 h2).1
  have h3 := dep_range hp (x + 1) x (by omega) hl (Nat.le_refl _)
  have e : dpN us x = (depA us x).toNat := by unfold dpN; rw [if_pos hl]
  omega
end Go.Proofs.YtgklopgeimjgiaaGreatDoor

/- VerifySees: a document under way (DocL). -/
namespace Go.Proofs.YtgklopgeimjgiaaGreatDoor
open Go.RowKit

/-- A document under way: its block, its kids so far. -/
structure DocL (n : Nat) (w : World) (B9 : Nat) (t : Int) (RV : Value) (K : Option Addr) (kc : Nat) (ks : List De) (W : World) : Prop where
  b : Below w.heap.size w W
  o : Blk W B9 #[.int .i64 t, RV, .slice K ks.length kc] 42
  k : ∃ xs, W.ownsRow (B9 + 1) 42 3 (.slice K ks.length kc) ks.length xs ∧ KCells (DRp (fun b => B9 < b ∧ b ∉ gS K) n W) xs ks
  ne : B9 ∉ gS K ∧ w.heap.size ≤ B9
variable {n : Nat} {w W W' : World} {B9 : Nat} {t : Int} {RV : Value} {K : Option Addr} {kc : Nat} {ks : List De}
theorem DocL.ext (h : DocL n w B9 t RV K kc ks W) (hb : Below W.heap.size W W') : DocL n w B9 t RV K kc ks W' := by
  obtain ⟨xs, k1, k2⟩ := h.k
  exact ⟨bt h.b hb, h.o.ext hb, ⟨xs, own_below k1 hb, k2.mono fun v k hv => hv.ext hb⟩, h.ne⟩
theorem DocL.start (hb : Below w.heap.size w W) (ho : Blk W B9 #[.int .i64 t, RV, .slice none 0 0] 42) (hB : w.heap.size ≤ B9) : DocL n w B9 t RV none 0 [] W :=
  ⟨hb, ho, ⟨[], World.ownsRow_nil _ _ _ _, KCells.nil _⟩, by simp [gS], hB⟩
/-- A kid more. -/
theorem DocL.add (h : DocL n w B9 t RV K kc ks W) {W1 W2 : World} (hb : Below W.heap.size W W1) {c0 c1 c2 : Value} {d : De} (hd : DRp (fun b => B9 < b ∧ b ∉ gS K) n W1 (.agg #[c0, c1, c2]) d) {g c' : Nat} {xs : List Value}
    (hx : W.ownsRow (B9 + 1) 42 3 (.slice K ks.length kc) ks.length xs ∧ KCells (DRp (fun b => B9 < b ∧ b ∉ gS K) n W) xs ks)
    (ho : W2.ownsRow (B9 + 1) 42 3 (.slice (some ⟨g, 0, none⟩) (ks.length + 1) c') (ks.length + 1) (xs ++ [c0, c1, c2])) (hg : W1.grownBy W2 (Value.slice K ks.length kc).ownBlock) (hat : (Value.slice K ks.length kc).ownBlock = some g ∨ g = W1.heap.size) :
    DocL n w B9 t RV (some ⟨g, 0, none⟩) c' (ks ++ [d]) (putBlk W2 B9 #[.int .i64 t, RV, .slice (some ⟨g, 0, none⟩) (ks.length + 1) c'] 42) := by
  obtain ⟨hx1, hx2⟩ := hx
  have hltB : B9 < W.heap.size := h.o.lt
  have hlt1 : B9 < W1.heap.size := Nat.lt_of_lt_of_le hltB hb.size
  have hc := Chg.of_grownV hg
  have hcp := (Chg.refl [B9] W2).put (b := B9) (Or.inl (by simp)) #[.int .i64 t, RV, .slice (some ⟨g, 0, none⟩) (ks.length + 1) c'] 42
  have hge : ∀ i ∈ gS K, w.heap.size ≤ i := fun i hi => by have := (hx1.lt i (gS_own.2 hi)).1; have := h.ne.2; omega
  have hgB : g ≠ B9 := by
    rcases hat with h1 | h1
    · intro e; subst e; exact h.ne.1 (gS_own.1 h1)
    · omega
  have hkeep : ∀ v k, DRp (fun b => B9 < b ∧ b ∉ gS K) n W1 v k → DRp (fun b => B9 < b ∧ b ∉ gS (some ⟨g, 0, none⟩)) n (putBlk W2 B9 #[.int .i64 t, RV, .slice (some ⟨g, 0, none⟩) (ks.length + 1) c'] 42) v k := by
    intro v k hv
    have h1 := hv.weak (Q := fun b => B9 < b ∧ b ∉ gS K ∧ b ≠ g) (fun b hP hlt => ⟨hP.1, hP.2, fun e => by
      rcases hat with h2 | h2
      · exact hP.2 (e ▸ gS_own.1 h2)
      · omega⟩)
    have h2 := h1.keep (w' := putBlk W2 B9 #[.int .i64 t, RV, .slice (some ⟨g, 0, none⟩) (ks.length + 1) c'] 42) (by rw [putBlk_size]; exact hg.size) (fun b hP hlt => (hcp.block b (Nat.lt_of_lt_of_le hlt hg.size) (by simp; have := hP.1; omega)).trans (hc.block b hlt hP.2.1))
    exact h2.weak (fun b hP _ => ⟨hP.1, by simpa [gS] using hP.2.2⟩)
  refine ⟨?_, ?_, ⟨xs ++ [c0, c1, c2], ?_, ?_⟩, ⟨by simp [gS]; exact fun e => hgB e.symm, h.ne.2⟩⟩
  · refine putBlk_below _ _ ((bt h.b hb).trans (hc.below (bt h.b hb).size hge)) h.ne.2
  · rw [List.length_append]
    exact putBlk_blk _ _ (Nat.lt_of_lt_of_le hlt1 hg.size)
  · rw [List.length_append]
    exact own_chg ho hcp (fun i hi e => by rw [List.mem_singleton] at hi; subst hi; cases e; exact hgB rfl)
  · exact (hx2.mono fun v k hv => hkeep v k (hv.ext hb)).app (KCells.one (hkeep _ _ hd))
theorem flat_le {α β : Type} (f : α → List β) (m : Nat) : ∀ (l : List α), (∀ x ∈ l, (f x).length ≤ m) → (l.flatMap f).length ≤ l.length * m
  | [], _ => by simp
  | a :: l, h => by
    rw [List.flatMap_cons, List.length_append, List.length_cons, Nat.succ_mul]
    have h1 := h a (by simp)
    have h2 := flat_le f m l (fun x hx => h x (List.mem_cons_of_mem _ hx))
    omega
/-- The document whole. -/
theorem DocL.done {row : List V} {B : Option Addr} {rc B8 : Nat} {t : Nat} (h : DocL n w B9 t (.slice B row.length rc) K kc ks W) (hv : VRow w B row) (h8 : w.heap.size ≤ B8) (h89 : B8 < B9) (cs : Array Value) (ht : t < 9223372036854775808) (hk : ks.length ≤ 100000) (hw : W' = putBlk W B8 cs 42) :
    Below w.heap.size w W' ∧ DRp (fun b => w.heap.size ≤ b ∨ ∃ p, B = some p ∧ p.block = b) (n + 1) W' (.agg #[.int .i64 t, .slice B row.length rc, .slice K ks.length kc]) (.mk t row ks) := by
  subst hw
  have hb := putBlk_below (b := B8) cs 42 h.b h8
  obtain ⟨xs, k1, k2⟩ := h.k
  have hcp := (Chg.refl [B8] W).put (b := B8) (Or.inl (by simp)) cs 42
  have k1' : (putBlk W B8 cs 42).ownsRow (B9 + 1) 42 3 (.slice K ks.length kc) ks.length xs := own_chg k1 hcp (fun i hi e => by
    rw [List.mem_singleton] at hi
    subst hi
    have := (k1.lt i e).1
    omega)
  have k2' : KCells (DRp (fun b => w.heap.size ≤ b ∨ ∃ p, B = some p ∧ p.block = b) n (putBlk W B8 cs 42)) xs ks := k2.mono fun v k hv => (hv.keep (by rw [putBlk_size]; exact Nat.le_refl _) (fun b hP hlt => hcp.block b hlt (by simp; have := hP.1; omega))).weak (fun b hP _ => Or.inl (by have := hP.1; have := h.ne.2; omega))
  refine ⟨hb, B, rc, K, kc, rfl, ⟨by show _ ≤ (t : Int); omega, by show (t : Int) ≤ _; omega⟩, ⟨hv.ext hb, fun b off e _ => Or.inr ⟨_, e, rfl⟩⟩, (KRow.of_own k1' k2' (by show ks.length ≤ _; omega)).1.1, fun b off e hne => Or.inl ?_⟩
  have := (k1.lt b (by rw [e]; rfl)).1
  have := h.ne.2
  omega
/-- Rows of a state, at a place. -/
def SomeI (lo : Nat) (its : List It) (A : Option Addr) (m : Nat) (W : World) : Prop := W.ownsRow lo 26 1 (.slice A its.length m) its.length (its.map itV) ∧ ∀ i ∈ its, RowF lo W i.A i.c i.x.2
theorem SomeI.ext {lo : Nat} {its : List It} {A : Option Addr} {m : Nat} {W W' : World} (h : SomeI lo its A m W) (hb : Below W.heap.size W W') : SomeI lo its A m W' := ⟨own_below h.1 hb, fun i hi => (h.2 i hi).ext hb⟩
theorem SomeI.chg {lo : Nat} {its : List It} {A : Option Addr} {m : Nat} {S : List Nat} {W W' : World} (h : SomeI lo its A m W) (hc : Chg S W W') (ho : ∀ i ∈ S, ∃ cs, W.heap[i]? = some (.cells cs 42 (0, 0))) : SomeI lo its A m W' := by
  refine ⟨own_chg h.1 hc (fun i hi e => ?_), fun i hi => (h.2 i hi).chg hc (fun i hi cs t ht => ?_)⟩
  · obtain ⟨c1, h1⟩ := ho i hi
    obtain ⟨c2, h2⟩ := own_typ h.1 e
    rw [h1] at h2
    cases h2
  · obtain ⟨c1, h1⟩ := ho i hi
    rw [h1] at ht
    cases ht
    decide
/-- A row of a state's block is no block of documents. -/
theorem RowF.no_doc {lo : Nat} {W : World} {A : Option Addr} {c : Nat} {l : List V} (h : RowF lo W A c l) {p : Addr} (hp : A = some p) {b : Nat} (hb : ∃ cs, W.heap[b]? = some (.cells cs 42 (0, 0))) : p.block ≠ b := by
  subst hp
  obtain ⟨⟨base, h1⟩, _⟩ := h.1
  obtain ⟨c2, h2⟩ := own_typ h1 (i := p.block) rfl
  obtain ⟨c1, h3⟩ := hb
  intro e
  rw [← e, h2] at h3
  cases h3
/-- A kid's document. -/
def kDoc (P : Nat → Prop) (n : Nat) (d : De) : Known := .mem (fun v w => ∃ c0 c1 c2, v = .agg #[c0, c1, c2] ∧ DRp P n w v d) (fun _ _ _ ⟨c0, c1, c2, h1, h2⟩ hb => ⟨c0, c1, c2, h1, h2.ext hb⟩)
/-- A slice of it alone. -/
def kDocS (P : Nat → Prop) (n : Nat) (d : De) : Known := .mem (fun v w => ∃ g c0 c1 c2, v = .slice (some ⟨g, 0, none⟩) 1 1 ∧ Blk w g #[c0, c1, c2] 42 ∧ DRp P n w (.agg #[c0, c1, c2]) d) (fun _ _ _ ⟨g, c0, c1, c2, h1, h0, h2⟩ hb => ⟨g, c0, c1, c2, h1, h0.ext hb, h2.ext hb⟩)
/-- What the append of a kid leaves. -/
def KidM (P : Nat → Prop) (n B9 : Nat) (d : De) (K : Option Addr) (k kc : Nat) (xs : List Value) (W : World) (v : Value) (w2 : World) : Prop :=
  ∃ g c' W1 c0 c1 c2, v = .slice (some ⟨g, 0, none⟩) (k + 1) c' ∧ Below W.heap.size W W1 ∧ DRp P n W1 (.agg #[c0, c1, c2]) d ∧ w2.ownsRow (B9 + 1) 42 3 (.slice (some ⟨g, 0, none⟩) (k + 1) c') (k + 1) (xs ++ [c0, c1, c2]) ∧ W1.grownBy w2 (Value.slice K k kc).ownBlock ∧ ((Value.slice K k kc).ownBlock = some g ∨ g = W1.heap.size)
theorem DRp.one_ {P : Nat → Prop} {n : Nat} {w : World} {c0 c1 c2 : Value} {d : De} (h : DRp P n w (.agg #[c0, c1, c2]) d) : ∀ v ∈ [c0, c1, c2], v.oneCell' = true := by
  obtain ⟨A, ca, K, ck, e⟩ := h.cells
  simp only [Value.agg.injEq, Array.mk.injEq, List.cons.injEq, and_true] at e
  obtain ⟨rfl, rfl, rfl⟩ := e
  intro v hv
  simp only [List.mem_cons, List.not_mem_nil, or_false] at hv
  rcases hv with rfl | rfl | rfl <;> rfl
theorem DRp.form_ {P : Nat → Prop} {n : Nat} {w : World} {v : Value} {d : De} (h : DRp P n w v d) : ∃ c0 c1 c2, v = .agg #[c0, c1, c2] := by
  obtain ⟨A, ca, K, ck, e⟩ := h.cells
  exact ⟨_, _, _, e⟩
/-- What else lies there stays, where a kid is added. -/
theorem DocL.side (h : DocL n w B9 t RV K kc ks W) {W1 W2 : World} (hb : Below W.heap.size W W1) {xs : List Value}
    (hx : W.ownsRow (B9 + 1) 42 3 (.slice K ks.length kc) ks.length xs) (hg : W1.grownBy W2 (Value.slice K ks.length kc).ownBlock) (cs : Array Value) {B8 : Nat} {z : Array Value} (h8 : Blk W B8 z 42) (h89 : B8 < B9)
    {lo : Nat} {its : List It} {A : Option Addr} {m : Nat} (hs : SomeI lo its A m W) :
    Blk (putBlk W2 B9 cs 42) B8 z 42 ∧ SomeI lo its A m (putBlk W2 B9 cs 42) := by
  have hc : Chg (B9 :: gS K) W1 W2 := (Chg.of_grownV hg).weak (fun i hi => Or.inl (List.mem_cons_of_mem _ hi))
  have hcp : Chg (B9 :: gS K) W1 (putBlk W2 B9 cs 42) := hc.put (b := B9) (Or.inl (by simp)) cs 42
  have hx1 := own_below hx hb
  have h91 := h.o.ext hb
  have hty : ∀ i ∈ (B9 :: gS K), ∃ cs, W1.heap[i]? = some (.cells cs 42 (0, 0)) := by
    intro i hi
    rcases List.mem_cons.1 hi with rfl | hi
    · exact ⟨_, h91⟩
    · exact own_typ hx1 (gS_own.2 hi)
  refine ⟨(h8.ext hb).chg hcp (fun hm => ?_), (hs.ext hb).chg hcp hty⟩
  rcases List.mem_cons.1 hm with h1 | h1
  · omega
  · have := (hx1.lt B8 (gS_own.2 h1)).1
    omega
/-- A kid's blocks. -/
theorem DRp.kid {row : List V} {A : Option Addr} {c lo : Nat} {W W1 : World} {xs : List Value} {v : Value} {d : De} {m : Nat} (hd : DRp (fun b => W.heap.size ≤ b ∨ ∃ p, A = some p ∧ p.block = b) n W1 v d) (hr : RowF lo W A c row) (hlo : B9 < lo) (h9 : B9 < W.heap.size)
    (hx : W.ownsRow (B9 + 1) 42 3 (.slice K m kc) m xs) : DRp (fun b => B9 < b ∧ b ∉ gS K) n W1 v d := by
  refine hd.weak (fun b hP _ => ?_)
  rcases hP with h1 | ⟨p, hp, rfl⟩
  · exact ⟨by omega, fun hm => by have := (hx.lt b (gS_own.2 hm)).2; omega⟩
  · exact ⟨Nat.lt_of_lt_of_le hlo (hr.2 p hp), fun hm => hr.no_doc hp (own_typ hx (gS_own.2 hm)) rfl⟩
def SomeV (lo : Nat) (L : List Rw) (v : Value) (W : World) : Prop := ∃ A m its, v = .slice A (List.length its) m ∧ its.map It.x = L ∧ SomeI lo its A m W
def kSome (lo : Nat) (L : List Rw) : Known := .mem (SomeV lo L) (fun _ _ _ ⟨A, m, its, h1, h2, h3⟩ hb => ⟨A, m, its, h1, h2, h3.ext hb⟩)
end Go.Proofs.YtgklopgeimjgiaaGreatDoor
