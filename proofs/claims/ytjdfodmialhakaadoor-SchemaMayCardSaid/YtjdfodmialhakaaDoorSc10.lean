/- schema.Get's two closures: the next byte, the next name. -/
import Derived.Test.YtjdfodmialhakaaDoorSc9
namespace Go.Proofs.YtjdfodmialhakaaDoor
open Go.RowKit

/-- What a reading step does to memory: the rest and the mark 'bad' turn, all else stays. -/
structure Rds (rb bb : Nat) (w w' : World) (s : ByteArray) (bd : Bool) : Prop where
  os : w'.os = w.os
  tape : w'.tape = w.tape
  output : w'.output = w.output
  size : w.heap.size ≤ w'.heap.size
  block : ∀ c, c < w.heap.size → c ≠ rb → c ≠ bb → w'.heap[c]? = w.heap[c]?
  r : Blk w' rb #[.string s] 9
  b : Blk w' bb #[.bool bd] 4
theorem Rds.blk {rb bb : Nat} {w w' : World} {s : ByteArray} {bd : Bool} (h : Rds rb bb w w' s bd) {x : Nat} {cs : Array Value} {t : TypeId} (hx : Blk w x cs t) (h1 : x ≠ rb) (h2 : x ≠ bb) : Blk w' x cs t := (h.block x hx.lt h1 h2).trans hx
theorem Rds.own {rb bb : Nat} {w w' : World} {s s0 : ByteArray} {bd bd0 : Bool} (h : Rds rb bb w w' s bd) (hr : Blk w rb #[.string s0] 9) (hb : Blk w bb #[.bool bd0] 4) {base : Nat} {e : TypeId} {size n : Nat} {v : Value} {xs : List Value}
    (ho : w.ownsRow base e size v n xs) (h1 : e ≠ 9) (h2 : e ≠ 4) : w'.ownsRow base e size v n xs := by
  have n1 := own_ne ho hr h1
  have n2 := own_ne ho hb h2
  refine ⟨ho.1, ?_⟩
  rcases ho.2 with h0 | ⟨g, cap, cur, hv, hbg, hh, h4⟩
  · exact .inl h0
  · subst hv
    have hlt : g < w.heap.size := by
      rcases Nat.lt_or_ge g w.heap.size with h' | h'
      · exact h'
      · rw [Array.getElem?_eq_none h'] at hh; cases hh
    refine .inr ⟨g, cap, cur, rfl, hbg, (h.block g hlt ?_ ?_).trans hh, h4⟩
    · intro e; apply n1; rw [e]; rfl
    · intro e; apply n2; rw [e]; rfl
theorem Rds.below {rb bb : Nat} {w w' : World} {s : ByteArray} {bd : Bool} (h : Rds rb bb w w' s bd) {B : Nat} (h0 : B ≤ w.heap.size) (h1 : B ≤ rb) (h2 : B ≤ bb) : Below B w w' :=
  ⟨h.os, h.tape, h.output, h.size, fun c hc => h.block c (by omega) (by omega) (by omega)⟩
theorem Rds.of_below {rb bb : Nat} {w w' : World} {s : ByteArray} {bd : Bool} (hb : Below w.heap.size w w') (h1 : Blk w rb #[.string s] 9) (h2 : Blk w bb #[.bool bd] 4) : Rds rb bb w w' s bd :=
  ⟨hb.os, hb.tape, hb.output, hb.size, fun c hc _ _ => hb.block c hc, h1.ext hb, h2.ext hb⟩
theorem putBlk_heap_ne {w : World} {b c : Nat} {cs : Array Value} {t : TypeId} (h : c ≠ b) : (putBlk w b cs t).heap[c]? = w.heap[c]? := by
  unfold putBlk
  simp only
  rw [Array.getElem?_setIfInBounds_ne (Ne.symm h)]
theorem Rds.put_b {rb bb : Nat} {w w' : World} {s : ByteArray} {bd bd' : Bool} (h : Rds rb bb w w' s bd) (hne : rb ≠ bb) : Rds rb bb w (putBlk w' bb #[.bool bd'] 4) s bd' :=
  ⟨h.os, h.tape, h.output, by rw [putBlk_size]; exact h.size, fun c hc h1 h2 => (putBlk_heap_ne h2).trans (h.block c hc h1 h2), putBlk_ne h.r hne, putBlk_blk _ _ h.b.lt⟩
theorem Rds.put_r {rb bb : Nat} {w w' : World} {s s' : ByteArray} {bd : Bool} (h : Rds rb bb w w' s bd) (hne : rb ≠ bb) : Rds rb bb w (putBlk w' rb #[.string s'] 9) s' bd :=
  ⟨h.os, h.tape, h.output, by rw [putBlk_size]; exact h.size, fun c hc h1 h2 => (putBlk_heap_ne h1).trans (h.block c hc h1 h2), putBlk_blk _ _ h.r.lt, putBlk_ne h.b (Ne.symm hne)⟩
theorem Rds.trans {rb bb : Nat} {w w1 w2 : World} {s1 s2 : ByteArray} {b1 b2 : Bool} (h : Rds rb bb w w1 s1 b1) (k : Rds rb bb w1 w2 s2 b2) : Rds rb bb w w2 s2 b2 :=
  ⟨k.os.trans h.os, k.tape.trans h.tape, k.output.trans h.output, Nat.le_trans h.size k.size, fun c hc h1 h2 => (k.block c (Nat.lt_of_lt_of_le hc h.size) h1 h2).trans (h.block c hc h1 h2), k.r, k.b⟩
def OnePost (rb bb : Nat) (s : ByteArray) (bd : Bool) (w : World) (r : Ending) (w' : World) : Prop :=
  ∃ (v : Int) (s' : ByteArray) (bd' : Bool), r = .returned (.int .i64 v) ∧ Rds rb bb w w' s' bd' ∧ 0 ≤ v ∧ v ≤ 255 ∧ s'.size ≤ s.size ∧ Hid (∀ c tail, s.data.toList = c :: tail → v = (c.toNat : Int) ∧ s'.data.toList = tail ∧ bd' = bd)
set_option maxRecDepth 100000 in
theorem one_any (rb bb : Nat) (s : ByteArray) (bd : Bool) (w : World) (hr : Blk w rb #[.string s] 9) (hb : Blk w bb #[.bool bd] 4) (hs : s.size ≤ 140737488355328) :
    Calls Tryd.prog 144 #[.pointer (some ⟨rb, 0, none⟩), .pointer (some ⟨bb, 0, none⟩)] w (OnePost rb bb s bd w) := by
  have hne : rb ≠ bb := by
    intro e
    subst e
    unfold Blk at hr hb
    rw [hr] at hb
    simp at hb
  have HR := Lib.hid (Rds.of_below (Below.refl _ _) hr hb)
  by_cases hz : s.size = 0
  · obtain rfl := str_empty hz
    have c0 := hr.cell 0
    simp only [List.getElem?_toArray, List.getElem?_cons_zero] at c0
    have HC0 := Lib.hid c0
    clear hr hz c0
    obtain ⟨w3, rfl, lt⟩ := blk_put hb
    obtain ⟨pc, pf, pS⟩ := putBlk_facts (w := w3) 4 lt
    have c0 := HC0.out
    clear hb
    go_enter Tryd.func144, Tryd.ntmps144
    go_wp2_with fail
    go_ret
    refine ⟨0, _, true, rfl, ?_, by omega, by omega, Nat.le_refl _, fun c tail h => by cases h⟩
    have h := HR.out.put_b (bd' := true) hne
    have e : putBlk (putBlk w3 bb #[.bool bd] 4) bb #[.bool true] 4 = putBlk w3 bb #[.bool true] 4 := by unfold putBlk; simp
    rwa [e] at h
  · obtain ⟨hne0, hnl⟩ := ne_empty hz
    have hne' : (!s.toList.isEmpty) = true := by rw [hne0]; rfl
    obtain ⟨v, hv⟩ : ∃ v : Int, v = ((s.data.toList.getD 0 0).toNat : Int) := ⟨_, rfl⟩
    have e0 : ∀ hh, ((s[0]'hh).toNat : Int) = v := fun hh => by rw [hv, byte_at s 0 hh]
    have hv1 : 0 ≤ v ∧ v ≤ 255 := by have := (s.data.toList.getD 0 0).toNat_lt; omega
    have i0 : 0 < s.size := by omega
    have i1 : (1 : Int) ≤ s.size := by omega
    have HV := Lib.hid hv
    clear hv hnl hb hz
    obtain ⟨w3, rfl, lt⟩ := blk_put hr
    obtain ⟨pc, pf, pS⟩ := putBlk_facts (w := w3) 9 lt
    clear hr
    go_enter Tryd.func144, Tryd.ntmps144
    go_wp2_with fail
    go_ret
    refine ⟨v, s.extract 1 s.size, bd, rfl, ?_, hv1.1, hv1.2, by rw [extract_rest]; omega, fun c tail h => ?_⟩
    · have h := HR.out.put_r (s' := s.extract 1 s.size) hne
      have e : putBlk (putBlk w3 rb #[.string s] 9) rb #[.string (s.extract 1 s.size)] 9 = putBlk w3 rb #[.string (s.extract 1 s.size)] 9 := by unfold putBlk; simp
      rwa [e] at h
    · refine ⟨?_, ?_, rfl⟩
      · rw [HV.out, h]; rfl
      · rw [drop_str, h]; rfl
def WordPost (rb bb : Nat) (s : ByteArray) (bd : Bool) (w : World) (r : Ending) (w' : World) : Prop :=
  ∃ (t s' : ByteArray) (bd' : Bool), r = .returned (.string t) ∧ Rds rb bb w w' s' bd' ∧ t.size ≤ 100 ∧ s'.size ≤ s.size ∧ Hid (∀ nm tail, nameB nm = true → s.data.toList = txL nm ++ tail → t = nm ∧ s'.data.toList = tail ∧ bd' = bd)
theorem may_text_size {v : V} (h : mayB v = true) : v.t.size ≤ 100 := may_size h
set_option maxRecDepth 100000 in
theorem word_any (rb bb : Nat) (s : ByteArray) (bd : Bool) (w : World) (hT : Tabs w) (hr : Blk w rb #[.string s] 9) (hb : Blk w bb #[.bool bd] 4) (hs : s.size ≤ 140737488355328) :
    Calls Tryd.prog 145 #[.pointer (some ⟨rb, 0, none⟩), .pointer (some ⟨bb, 0, none⟩)] w (WordPost rb bb s bd w) := by
  have hne : rb ≠ bb := by
    intro e
    subst e
    unfold Blk at hr hb
    rw [hr] at hb
    simp at hb
  have HG := Lib.hid (getrow_any s w hs hT)
  have HR0 := Lib.hid hr
  have HB0 := Lib.hid hb
  have c0 := hr.cell 0
  simp only [List.getElem?_toArray, List.getElem?_cons_zero] at c0
  have hlr := hr.lt
  unfold RowPost at HG
  clear hT hr hb
  go_enter Tryd.func145, Tryd.ntmps145
  go_wp2_with fail
  refine HG.out.mono ?_
  rintro r w1 ⟨hb1, hor⟩
  have HR := Lib.hid (Rds.of_below hb1 HR0.out HB0.out)
  rcases hor with ⟨h0, A, c, rfl, hown⟩ | ⟨h0, rfl⟩
  · obtain ⟨g1, _, _, g4, g5⟩ := getRow_back h0
    obtain ⟨m1, m2, m3⟩ := row_may g1
    have HTX : Hid (∀ nm tail, nameB nm = true → s.data.toList = txL nm ++ tail → (getRow s.data.toList).2.1 = [⟨5, 0, 0, nm⟩] ∧ s.data.toList.drop (getRow s.data.toList).2.2 = tail) := fun nm tail hn he => by
      have := putRow_getRow [⟨5, 0, 0, nm⟩] (by simpa using name_wf hn) (name_row hn) tail
      rw [he]
      unfold txL
      rw [this]
      exact ⟨rfl, List.drop_left⟩
    obtain ⟨row, hrow⟩ : ∃ q, q = (getRow s.data.toList).2.1 := ⟨_, rfl⟩
    obtain ⟨n, hn⟩ : ∃ q, q = (getRow s.data.toList).2.2 := ⟨_, rfl⟩
    rw [← hrow] at m1 m2 m3 hown HTX
    rw [← hn] at g5 HTX
    simp only [← hrow, ← hn]
    have g5' : n ≤ s.size := by simpa using g5
    cases row with
    | nil => simp at m1
    | cons v0 row =>
      have ht := may_size (m3 v0 (by simp))
      have hrl : row.length ≤ 8 := by rw [List.length_cons] at m2; omega
      obtain ⟨g, cap, hv, _, hlg⟩ := hown.form (by simp)
      have hA : A = some ⟨g, 0, none⟩ := by injection hv
      subst hA
      have hgr : g ≠ rb := own_blk_far hown (HR.out.r) (by decide)
      have hcell := hown.cells (g := g) rfl 3 (.string v0.t) rfl
      have e3 : (⟨g, 0, none⟩ : Addr).add 3 = ⟨g, 3, none⟩ := rfl
      rw [e3] at hcell
      have HCL := Lib.hid hcell
      obtain ⟨vk, vn, vr, t⟩ := v0
      simp only at ht HCL
      have hrr := HR.out.r
      have hlen1 : 0 < (row.length + 1 : Int) := by omega
      clear h0 c0 HR0 HB0 hb1 g1 g4 g5 m1 m2 m3 hrow hn hown hv hcell
      obtain ⟨w3, rfl, lt⟩ := blk_put hrr
      obtain ⟨pc, pf, pS⟩ := putBlk_facts (w := w3) 9 lt
      have hcc : ∀ cs, (putBlk w3 rb cs 9).cell? ⟨g, 3, none⟩ = some (.string t) := fun cs => (putBlk_cell_ne hgr _ _ _ _).trans HCL.out
      clear hrr
      simp only [List.length_cons]
      go_wp2_with fail
      go_ret
      refine ⟨t, s.extract n s.size, bd, rfl, ?_, ht, by rw [extract_rest]; omega, fun nm tail hn he => ?_⟩
      · have h := HR.out.put_r (s' := s.extract n s.size) hne
        have e : putBlk (putBlk w3 rb #[.string s] 9) rb #[.string (s.extract n s.size)] 9 = putBlk w3 rb #[.string (s.extract n s.size)] 9 := by unfold putBlk; simp
        rwa [e] at h
      · obtain ⟨q1, q2⟩ := HTX.out nm tail hn he
        refine ⟨?_, by rw [drop_str]; exact q2, rfl⟩
        injection q1 with q1 _
        injection q1
  · have h0' : ((getRow s.data.toList).1 == 0) = false := by rw [beq_eq_false_iff_ne]; exact h0
    have h0'' : ((getRow s.data.toList).1 != 0) = true := by rw [bne_iff_ne]; exact h0
    have HN : Hid (∀ nm tail, nameB nm = true → s.data.toList = txL nm ++ tail → False) := fun nm tail hn he => by
      apply h0
      rw [he]
      have := putRow_getRow [⟨5, 0, 0, nm⟩] (by simpa using name_wf hn) (name_row hn) tail
      unfold txL
      rw [this]
    generalize (getRow s.data.toList).1 = E at h0' h0''
    have hbb := HR.out.b
    clear h0 c0 HR0 HB0 hb1
    obtain ⟨w3, rfl, lt⟩ := blk_put hbb
    obtain ⟨pc, pf, pS⟩ := putBlk_facts (w := w3) 4 lt
    clear hbb
    go_wp2_with fail
    go_ret
    refine ⟨ByteArray.empty, s, true, rfl, ?_, by decide, Nat.le_refl _, fun nm tail hn he => (HN.out nm tail hn he).elim⟩
    have h := HR.out.put_b (bd' := true) hne
    have e : putBlk (putBlk w3 bb #[.bool bd] 4) bb #[.bool true] 4 = putBlk w3 bb #[.bool true] 4 := by unfold putBlk; simp
    rwa [e] at h
end Go.Proofs.YtjdfodmialhakaaDoor
