/- Several texts in one: see each part's head. -/
import Derived.Test.YtkfhfegogmlchaaDoorJ12
import Derived.Test.YtkfhfegogmlchaaDoorJ13
import Derived.Test.YtkfhfegogmlchaaDoorJ14
import Derived.Test.YtkfhfegogmlchaaDoorJ11
import Derived.Test.YtkfhfegogmlchaaDoorJ10
import Derived.Test.YtkfhfegogmlchaaDoorJ27
import Derived.Test.YtkfhfegogmlchaaDoorJ28
import Derived.Test.YtkfhfegogmlchaaDoorJ29
import Derived.Test.YtkfhfegogmlchaaDoorJ31
import Derived.Test.YtkfhfegogmlchaaDoorJ37
import Derived.Test.YtkfhfegogmlchaaDoorJ38
/- The statements' alive of events; the walk of EventPuts: whatever event comes in, it answers true. -/
namespace Go.Proofs.YtkfhfegogmlchaaDoor
open Go.RowKit

theorem evL_length {e : Ev} (h : evB e = true) : (evL e).length ≤ 1664 := by
  have hg : evG e = true := by unfold evB at h; exact (Bool.and_eq_true_iff.1 h).1
  have hr : evR e = true := by unfold evB at h; exact (Bool.and_eq_true_iff.1 h).2
  rw [evR_has e hg] at hr
  obtain ⟨hr1, hr2⟩ := Bool.and_eq_true_iff.1 hr
  have h1 : (evH e).length = 14 := by simp [evH, numL_length]
  obtain ⟨c1, c2, _⟩ := of_decide_eq_true hg
  unfold evL evRows
  have hk : e.k = 1 ∨ e.k = 2 ∨ e.k = 3 ∨ e.k = 4 := by omega
  have p1 : rowB e.bf = true → (putRowL e.bf).length ≤ 825 := putRowL_length
  have p2 : rowB e.af = true → (putRowL e.af).length ≤ 825 := putRowL_length
  rcases hk with hk | hk | hk | hk <;> rw [hk] at hr1 hr2 ⊢ <;> simp [hasB, hasA, rowM] at hr1 hr2 ⊢ <;> simp [hr1, hr2] at p1 p2 <;> omega
end Go.Proofs.YtkfhfegogmlchaaDoor

/- A mark, an event comes to the buffer: what its state is behind. -/
namespace Go.Proofs.YtkfhfegogmlchaaDoor
open Go.RowKit

/-- The ends' counts lie behind B. -/
def GcB (B : Nat) (l : List Tb) : Prop := ∀ t ∈ l, ∀ f, t.fin = some f → B ≤ f.gc
/-- The buffer in B holds what state s tells. -/
def BufS (B nt n : Nat) (first : Int) (ls : List (List Ch)) (s : Bs) (w : World) : Prop :=
  ∃ (l : List Tb) (nx : Int) (has : Bool), BuR B nt n nx has 0 l w ∧ Dis l ∧ BW nt n first ls s l nx has ∧ GcB B l
theorem BufS.ext {B nt n : Nat} {first : Int} {ls : List (List Ch)} {s : Bs} {w w' : World} (h : BufS B nt n first ls s w) (hb : Below w.heap.size w w') : BufS B nt n first ls s w' := by
  obtain ⟨l, nx, has, h1, h2⟩ := h
  exact ⟨l, nx, has, h1.ext hb, h2⟩
theorem BuR.lt {B nt : Nat} {bd nx : Int} {has : Bool} {fa : Int} {l : List Tb} {w : World} (h : BuR B nt bd nx has fa l w) : B < w.heap.size := by
  obtain ⟨v, hb, _⟩ := h.b
  exact hb.lt
/-- What a record that comes does. -/
def ComeP (B nt n top : Nat) (first : Int) (ls : List (List Ch)) (s : Bs) (w : World) (is : Bool) (w' : World) : Prop :=
  ∃ s1, (s1 = s ∧ is = false ∨ is = true ∧ s1 = (match top with | 0 => { s with a0 := s.a0 + 1 } | k + 1 => s.takeK k)) ∧ comeB nt n (tabsOf ls) s top s1 ∧ BufS B nt n first ls s1 w' ∧ BelF B w w'
theorem ComeP.ahead {B nt n top : Nat} {first : Int} {ls : List (List Ch)} {s : Bs} {w w1 : World} {is : Bool} {w' : World} (h : ComeP B nt n top first ls s w1 is w') (hb : BelF B w w1) : ComeP B nt n top first ls s w is w' := by
  obtain ⟨s1, h1, h2, h3, h4⟩ := h
  exact ⟨s1, h1, h2, h3, hb.trans h4⟩
theorem mk_texts {m : Mk} {w : World} (hw : m.wf) (hb : mkB m = true) : Calls Tryd.prog 29 #[.string ⟨(mkL m).toArray⟩] w (MkPost w (some m)) := by
  have hp := mkB_parts hb
  have hL : (mkL m).length ≤ 3100 := by rw [mkL_eq]; simp [num8L_len, num2L_len, numL_length]; omega
  have h := getmark_any ⟨(mkL m).toArray⟩ w (by simp [ByteArray.size]; omega)
  have hg : mkGet (mkL m) = some m := mkget_put m hw hb
  simp only [hg] at h
  exact h
set_option maxRecDepth 100000 in
/-- A mark comes. -/
theorem mark_st {B nt n q : Nat} {first : Int} {ls : List (List Ch)} {s : Bs} {lc : List Ch} {sq : List Int} {C S : Option Addr} {c1 c2 : Nat} {w : World} (h : BufS B nt n first ls s w) (hP : PlanR nt n first ls) (hq : s.a0 / 2 = q) (hl : ls[q]? = some lc) (hsq : sqOk nt sq)
    (hc : NRow .i64 w C (mkAt nt (first + (q : Nat)) lc (s.a0 % 2 == 1) sq).cs) (hs : NRow .u64 w S sq) :
    Calls Tryd.prog 20 #[.pointer (some ⟨B, 0, none⟩), .agg (mkCells (mkAt nt (first + (q : Nat)) lc (s.a0 % 2 == 1) sq) (.slice C (mkAt nt (first + (q : Nat)) lc (s.a0 % 2 == 1) sq).cs.length c1) (.slice S (mkAt nt (first + (q : Nat)) lc (s.a0 % 2 == 1) sq).sq.length c2))] w (OkA (ComeP B nt n 0 first ls s w)) := by
  obtain ⟨l, nx, has, hB, hD, hW, hG⟩ := h
  have hlt := (List.getElem?_eq_some_iff.1 hl).1
  have hf := hP.f
  have hl40 := hP.len
  have hpl := hP.hp lc (List.mem_of_getElem? hl)
  have h200 := hP.l200 lc (List.mem_of_getElem? hl)
  have htx : (0 : Int) ≤ first + (q : Nat) ∧ first + (q : Nat) ≤ 18446744073709551615 := by omega
  have hBl := hB.lt
  by_cases hm : s.a0 % 2 = 1
  · have e : (s.a0 % 2 == 1) = true := by simp [hm]
    rw [e] at hc ⊢
    obtain ⟨hw, hb⟩ := sqOk_mk2 (tx := first + (q : Nat)) hsq hP.n1 hP.n12 hpl h200 htx
    have ha : s.a0 = 2 * q + 1 := by omega
    obtain ⟨l', t, rfl, ht1, ht2, ht3, ht4⟩ := hW.finOk hP ha hl
    have hck := fun (W : World) (hW' : Below w.heap.size w W) => ckmark_any (mkAt nt (first + (q : Nat)) lc true sq) C S c1 c2 W hw (hc.ext hW') (by have := hsq.1; have := hP.n12; show sq.length ≤ _; omega)
    rw [hb, okE_t] at hck
    have ecs : (mkAt nt (first + (q : Nat)) lc true sq).cs = cntsOf nt lc := rfl
    have esq : (mkAt nt (first + (q : Nat)) lc true sq).sq = sq := rfl
    have ek : (mkAt nt (first + (q : Nat)) lc true sq).k = 2 := rfl
    have et : (mkAt nt (first + (q : Nat)) lc true sq).tx = first + (q : Nat) := rfl
    unfold mkCells at hck ⊢
    rw [ecs, esq, ek, et, cntsOf_length, hsq.1] at hck ⊢
    rw [ecs] at hc
    refine mark_gen B nt nt c1 c2 2 (first + (q : Nat)) n nx has (l' ++ [t]) C S (ComeP B nt n 0 first ls s w) w hB hck (Or.inr ⟨rfl, fun W hW' => ?_⟩)
    have hfin := finish_genz B nt n nx 0 has l' t (cntsOf nt lc) sq C S c1 c2 W (hB.ext hW') hD ht3 ht1 ⟨hc.ext hW', hs.ext hW', ?_, ?_, ?_, ?_, ?_⟩ (fun _ => ht4)
    · rw [ht2, cntsOf_length, hsq.1] at hfin
      refine hfin.mono (fun r w' hr => ?_)
      obtain ⟨h1, h2, f, h3, h4, h5, h6, h7⟩ := hr
      obtain ⟨g1, g2⟩ := hW.fin ha hl f h3 (by rw [h4]; exact hsq.1)
      refine ⟨true, h2, _, Or.inr ⟨rfl, rfl⟩, g2, ⟨_, nx, has, h5, h6, g1, fun u hu f' hf' => ?_⟩, (BelF.of hW' (Nat.le_of_lt hBl)).trans h1⟩
      rcases List.mem_append.1 hu with hu | hu
      · exact hG u (by simp [hu]) f' hf'
      · obtain rfl := List.mem_singleton.1 hu
        obtain rfl := Option.some.inj hf'
        exact h7
    · intro e
      have h1 := congrArg List.length e
      rw [cntsOf_length] at h1
      have h2 := hP.n1
      simp at h1
      omega
    · intro e
      have h1 := hsq.1
      rw [e] at h1
      have h2 := hP.n1
      simp at h1
      omega
    · rw [cntsOf_length]; have := hP.n12; omega
    · rw [hsq.1]; have := hP.n12; omega
    · intro v hv
      obtain ⟨k, _, rfl⟩ := List.mem_map.1 hv
      have : cntT lc (k : Int) ≤ lc.length := List.countP_le_length
      omega
  · have e : (s.a0 % 2 == 1) = false := by simp [hm]
    rw [e] at hc ⊢
    obtain ⟨hw, hb⟩ := sqOk_mk (tx := first + (q : Nat)) (l := lc) hsq hP.n1 hP.n12 htx
    have ha : s.a0 = 2 * q := by omega
    have hck := fun (W : World) (hW' : Below w.heap.size w W) => ckmark_any (mkAt nt (first + (q : Nat)) lc false sq) C S c1 c2 W hw (hc.ext hW') (by have := hsq.1; have := hP.n12; show sq.length ≤ _; omega)
    rw [hb, okE_t] at hck
    have ecs : (mkAt nt (first + (q : Nat)) lc false sq).cs = [] := rfl
    have esq : (mkAt nt (first + (q : Nat)) lc false sq).sq = sq := rfl
    have ek : (mkAt nt (first + (q : Nat)) lc false sq).k = 1 := rfl
    have et : (mkAt nt (first + (q : Nat)) lc false sq).tx = first + (q : Nat) := rfl
    unfold mkCells at hck ⊢
    rw [ecs, esq, ek, et, hsq.1] at hck ⊢
    have hbg := hW.begOk hP ha hlt
    have hlen := hW.len
    refine mark_gen B nt ([] : List Int).length c1 c2 1 (first + (q : Nat)) n nx has l C S (ComeP B nt n 0 first ls s w) w hB hck (Or.inl ⟨rfl, fun W hW' => ?_⟩)
    refine (begin_genz B nt n nx 0 (first + (q : Nat)) 1 has l C S ([] : List Int).length c1 nt c2 W (hB.ext hW') hD (by have := hlen.2; omega) (by have := hP.n12; omega) hbg).mono (fun r w' hr => ?_)
    obtain ⟨h1, ⟨h2, h3, h4⟩ | ⟨h2, h3, X, N, M, h4, h5⟩⟩ := hr
    · exact ⟨false, h3, s, Or.inl ⟨rfl, rfl⟩, hW.begNo ha h2, ⟨l, nx, has, h4, hD, hW, hG⟩, (BelF.of hW' (Nat.le_of_lt hBl)).trans h1⟩
    · obtain ⟨g1, g2⟩ := hW.beg ha hlt h2 X N M
      refine ⟨true, h3, _, Or.inr ⟨rfl, rfl⟩, g2, ⟨_, _, true, h4, h5, g1, fun u hu f' hf' => ?_⟩, (BelF.of hW' (Nat.le_of_lt hBl)).trans h1⟩
      rcases List.mem_append.1 hu with hu | hu
      · exact hG u hu f' hf'
      · obtain rfl := List.mem_singleton.1 hu
        cases hf'
theorem evR_rows {e : Ev} (h : evB e = true) : e.bf.length ≤ 1000 ∧ e.af.length ≤ 1000 := by
  have hr : evR e = true := by unfold evB at h; exact (Bool.and_eq_true_iff.1 h).2
  unfold evR at hr
  split at hr
  · obtain ⟨h1, h2⟩ := Bool.and_eq_true_iff.1 hr
    have h3 := (row_may h1).2.1
    have h4 := of_decide_eq_true h2
    omega
  · split at hr
    · obtain ⟨h1, h2⟩ := Bool.and_eq_true_iff.1 hr
      have h3 := (row_may h1).2.1
      have h4 := of_decide_eq_true h2
      omega
    · obtain ⟨h1, h2⟩ := Bool.and_eq_true_iff.1 hr
      have h3 := (row_may h1).2.1
      have h4 := (row_may h2).2.1
      omega
/-- An event comes. -/
theorem event_st {B nt n k i j : Nat} {first : Int} {ls : List (List Ch)} {s : Bs} {lc : List Ch} {ch : Ch} {A A2 : Option Addr} {c c2 : Nat} {w : World} (h : BufS B nt n first ls s w) (hP : PlanR nt n first ls) (hT : Tabs w) (hr : RecAt ls s k i j lc ch) (hk : k < nt) (hev : evB (evAt (first + (i : Nat)) lc j ch) = true)
    (h1 : VRow w A ch.bf) (h2 : VRow w A2 ch.af) (hz1 : A = none → c = 0) (hz2 : A2 = none → c2 = 0) :
    Calls Tryd.prog 18 #[.pointer (some ⟨B, 0, none⟩), .agg (evCells (evAt (first + (i : Nat)) lc j ch) (.slice A ch.bf.length c) (.slice A2 ch.af.length c2))] w (OkA (ComeP B nt n (k + 1) first ls s w)) := by
  obtain ⟨l, nx, has, hB, hD, hW, hG⟩ := h
  have hBl := hB.lt
  have hrows := evR_rows hev
  obtain ⟨ck, ctb, cbf, caf⟩ := ch
  obtain rfl : ctb = (k : Int) := hr.rk
  have hE : EvOk k nt n nx (first + (i : Nat)) j (cntT (lc.take j) (k : Int)) ck has cbf caf A A2 c c2 l w := ⟨hT, hk, hev, h1, h2, hrows.1, hrows.2, hz1, hz2, hW.evNx hP hr hk, hW.takeOk hP hr hk⟩
  refine (event_genz B nt k c c2 (first + (i : Nat)) j (cntT (lc.take j) (k : Int)) ck n nx has l cbf caf A A2 w hB hD (by have := hW.len.2; omega) hE).mono (fun r w' hq => ?_)
  obtain ⟨is, hr1, hb, hp⟩ := hq
  rcases hp with ⟨hn, hr2, hb2⟩ | ⟨l1, t, l2, v, hn, e, hr2, hb2, hB2, hD2⟩
  · exact ⟨false, hr2, s, Or.inl ⟨rfl, rfl⟩, hW.evNo hP hr hk hn, ⟨l, nx, has, hB.ext hb2, hD, hW, hG⟩, hb⟩
  · subst e
    obtain ⟨g1, g2⟩ := hW.ev hD hP hr hk hn v
    refine ⟨true, hr2, _, Or.inr ⟨rfl, rfl⟩, g2, ⟨_, nx, has, hB2, hD2, g1, fun u hu f' hf' => ?_⟩, hb⟩
    rcases List.mem_append.1 hu with hu | hu
    · exact hG u (by simp [hu]) f' hf'
    · rcases List.mem_cons.1 hu with rfl | hu
      · exact hG t (by simp) f' hf'
      · exact hG u (by simp [hu]) f' hf'
theorem ev_texts {e : Ev} {w : World} (hw : e.wf) (hb : evB e = true) (h1 : ∀ v ∈ e.bf, v.wf) (h2 : ∀ v ∈ e.af, v.wf) (hT : Tabs w) : Calls Tryd.prog 30 #[.string ⟨(evL e).toArray⟩] w (GetPostZ w (some e)) := by
  have hL := evL_length hb
  have hg : evGet (evL e) = some e := evget_put e hw hb h1 h2
  have h14 : 14 ≤ (evL e).length := by
    rcases Nat.lt_or_ge (evL e).length 14 with h | h
    · unfold evGet at hg
      rw [if_pos h] at hg
      cases hg
    · exact h
  have h := evgetz_long ⟨(evL e).toArray⟩ w (by simp [ByteArray.size]; omega) (by simp [ByteArray.size]; omega) hT
  simp only [hg] at h
  exact h
end Go.Proofs.YtkfhfegogmlchaaDoor
