/- Several texts in one: see each part's head. -/
import Derived.Test.YtjdfodmialhakaaDoorSc12
import Derived.Test.YtjdfodmialhakaaDoorGets
import Derived.Test.YtjdfodmialhakaaDoorSc24
import Derived.Deep.CutBlock
import Derived.Test.YtjdfodmialhakaaDoorSc20
/- The reference's reader: the next byte, the next name; a name's bytes. -/
namespace Go.Proofs.YtjdfodmialhakaaDoor
open Go.RowKit

/-- What a reading step does to memory: the reader's block turns, all else stays. -/
structure Rdr (rb : Nat) (w w' : World) (s : ByteArray) (bd : Bool) : Prop where
  os : w'.os = w.os
  tape : w'.tape = w.tape
  output : w'.output = w.output
  size : w.heap.size ≤ w'.heap.size
  block : ∀ c, c < w.heap.size → c ≠ rb → w'.heap[c]? = w.heap[c]?
  r : Blk w' rb #[.string s, .bool bd] 188
theorem Rdr.blk {rb : Nat} {w w' : World} {s : ByteArray} {bd : Bool} (h : Rdr rb w w' s bd) {x : Nat} {cs : Array Value} {t : TypeId} (hx : Blk w x cs t) (h1 : x ≠ rb) : Blk w' x cs t := (h.block x hx.lt h1).trans hx
theorem Rdr.own {rb : Nat} {w w' : World} {s s0 : ByteArray} {bd bd0 : Bool} (h : Rdr rb w w' s bd) (hr : Blk w rb #[.string s0, .bool bd0] 188) {base : Nat} {e : TypeId} {size n : Nat} {v : Value} {xs : List Value}
    (ho : w.ownsRow base e size v n xs) (h1 : e ≠ 188) : w'.ownsRow base e size v n xs := by
  have n1 := own_ne ho hr h1
  refine ⟨ho.1, ?_⟩
  rcases ho.2 with h0 | ⟨g, cap, cur, hv, hbg, hh, h4⟩
  · exact .inl h0
  · subst hv
    have hlt : g < w.heap.size := by
      rcases Nat.lt_or_ge g w.heap.size with h' | h'
      · exact h'
      · rw [Array.getElem?_eq_none h'] at hh; cases hh
    refine .inr ⟨g, cap, cur, rfl, hbg, (h.block g hlt ?_).trans hh, h4⟩
    intro e; apply n1; rw [e]; rfl
theorem Rdr.below {rb : Nat} {w w' : World} {s : ByteArray} {bd : Bool} (h : Rdr rb w w' s bd) {B : Nat} (h0 : B ≤ w.heap.size) (h1 : B ≤ rb) : Below B w w' :=
  ⟨h.os, h.tape, h.output, h.size, fun c hc => h.block c (by omega) (by omega)⟩
theorem Rdr.of_below {rb : Nat} {w w' : World} {s : ByteArray} {bd : Bool} (hb : Below w.heap.size w w') (h1 : Blk w rb #[.string s, .bool bd] 188) : Rdr rb w w' s bd :=
  ⟨hb.os, hb.tape, hb.output, hb.size, fun c hc _ => hb.block c hc, h1.ext hb⟩
theorem Rdr.put {rb : Nat} {w w' : World} {s s' : ByteArray} {bd bd' : Bool} (h : Rdr rb w w' s bd) : Rdr rb w (putBlk w' rb #[.string s', .bool bd'] 188) s' bd' :=
  ⟨h.os, h.tape, h.output, by rw [putBlk_size]; exact h.size, fun c hc h1 => (putBlk_heap_ne h1).trans (h.block c hc h1), putBlk_blk _ _ h.r.lt⟩
theorem Rdr.trans {rb : Nat} {w w1 w2 : World} {s1 s2 : ByteArray} {b1 b2 : Bool} (h : Rdr rb w w1 s1 b1) (k : Rdr rb w1 w2 s2 b2) : Rdr rb w w2 s2 b2 :=
  ⟨k.os.trans h.os, k.tape.trans h.tape, k.output.trans h.output, Nat.le_trans h.size k.size, fun c hc h1 => (k.block c (Nat.lt_of_lt_of_le hc h.size) h1).trans (h.block c hc h1), k.r⟩
theorem GI.rdr {w0 : World} {r0 sb B rb : Nat} {A : Option Addr} {c : Nat} {T : List Ta} {w w' : World} {s s0 : ByteArray} {bd bd0 : Bool} (h : GI w0 r0 sb B A c T w) (k : Rdr rb w w' s bd) (hr : Blk w rb #[.string s0, .bool bd0] 188)
    (hr0 : w0.heap.size ≤ rb) : GI w0 r0 sb B A c T w' := by
  obtain ⟨h0, h1, h2, h3, h4, h5, h6⟩ := h
  refine ⟨h0, k.blk h1 (blk_ne h1 hr (by decide)), k.blk h2 (blk_ne h2 hr (by decide)), k.own hr h3 (by decide), h4, fun t ht => ?_, h6.trans (k.below h6.size hr0)⟩
  obtain ⟨p1, p2, p3, p4, base, p5⟩ := h5 t ht
  exact ⟨p1, p2, p3, p4, base, k.own hr p5 (by decide)⟩
theorem put_put (w : World) (b : Nat) (cs ds : Array Value) (t u : TypeId) : putBlk (putBlk w b cs t) b ds u = putBlk w b ds u := by unfold putBlk; simp
def ROne (rb : Nat) (s : ByteArray) (bd : Bool) (w : World) (r : Ending) (w' : World) : Prop :=
  ∃ (v : Int) (s' : ByteArray) (bd' : Bool), r = .returned (.int .i64 v) ∧ Rdr rb w w' s' bd' ∧ 0 ≤ v ∧ v ≤ 255 ∧ s'.size ≤ s.size ∧ Hid (OneF s bd v s' bd')
set_option maxRecDepth 100000 in
theorem rone_any (rb : Nat) (s : ByteArray) (bd : Bool) (w : World) (hr : Blk w rb #[.string s, .bool bd] 188) (hs : s.size ≤ 140737488355328) :
    Calls Tryd.prog 146 #[.pointer (some ⟨rb, 0, none⟩)] w (ROne rb s bd w) := by
  have HR := Lib.hid (Rdr.of_below (Below.refl _ _) hr)
  by_cases hz : s.size = 0
  · obtain rfl := str_empty hz
    obtain ⟨w3, rfl, lt⟩ := blk_put hr
    obtain ⟨pc, pf, pS⟩ := putBlk_facts (w := w3) 188 lt
    clear hr hz
    go_enter Tryd.func146, Tryd.ntmps146
    go_wp2_with fail
    go_ret
    refine ⟨0, _, true, rfl, ?_, by omega, by omega, Nat.le_refl _, fun c tail h => by cases h⟩
    have h := HR.out.put (s' := ByteArray.empty) (bd' := true)
    rwa [put_put] at h
  · obtain ⟨hne0, hnl⟩ := ne_empty hz
    obtain ⟨v, hv⟩ : ∃ v : Int, v = ((s.data.toList.getD 0 0).toNat : Int) := ⟨_, rfl⟩
    have e0 : ∀ hh, ((s[0]'hh).toNat : Int) = v := fun hh => by rw [hv, byte_at s 0 hh]
    have hv1 : 0 ≤ v ∧ v ≤ 255 := by have := (s.data.toList.getD 0 0).toNat_lt; omega
    have i0 : 0 < s.size := by omega
    have i1 : (1 : Int) ≤ s.size := by omega
    have i2 : ¬ (s.size : Int) = 0 := by omega
    have HV := Lib.hid hv
    clear hv hnl
    obtain ⟨w3, rfl, lt⟩ := blk_put hr
    obtain ⟨pc, pf, pS⟩ := putBlk_facts (w := w3) 188 lt
    clear hr
    go_enter Tryd.func146, Tryd.ntmps146
    go_wp2_with fail
    go_ret
    refine ⟨v, s.extract 1 s.size, bd, rfl, ?_, hv1.1, hv1.2, by rw [extract_rest]; omega, fun c tail h => ?_⟩
    · have h := HR.out.put (s' := s.extract 1 s.size) (bd' := bd)
      rwa [put_put] at h
    · refine ⟨?_, ?_, rfl⟩
      · rw [HV.out, h]; rfl
      · rw [drop_str, h]; rfl
def RWord (rb : Nat) (s : ByteArray) (bd : Bool) (w : World) (r : Ending) (w' : World) : Prop :=
  ∃ (t s' : ByteArray) (bd' : Bool), r = .returned (.string t) ∧ Rdr rb w w' s' bd' ∧ t.size ≤ 100 ∧ s'.size ≤ s.size ∧ Hid (WordF s bd t s' bd')
set_option maxRecDepth 100000 in
theorem rword_any (rb : Nat) (s : ByteArray) (bd : Bool) (w : World) (hT : Tabs w) (hr : Blk w rb #[.string s, .bool bd] 188) (hs : s.size ≤ 140737488355328) :
    Calls Tryd.prog 147 #[.pointer (some ⟨rb, 0, none⟩)] w (RWord rb s bd w) := by
  have HG := Lib.hid (refgetrow_any s w hs hT)
  have HR0 := Lib.hid hr
  have c0 := hr.cell 0
  simp only [List.getElem?_toArray, List.getElem?_cons_zero] at c0
  have hlr := hr.lt
  unfold RowPost at HG
  clear hT hr
  go_enter Tryd.func147, Tryd.ntmps147
  go_wp2_with fail
  refine HG.out.mono ?_
  rintro r w1 ⟨hb1, hor⟩
  have HR := Lib.hid (Rdr.of_below hb1 HR0.out)
  rcases hor with ⟨h0, A, c, rfl, hown⟩ | ⟨h0, rfl⟩
  · obtain ⟨g1, _, _, g4, g5⟩ := getRow_back h0
    obtain ⟨m1, m2, m3⟩ := row_may g1
    have HTX : Hid (∀ nm tail, nameB nm = true → s.data.toList = txL nm ++ tail → (getRow s.data.toList).2.1 = [⟨5, 0, 0, nm⟩] ∧ s.data.toList.drop (getRow s.data.toList).2.2 = tail) := fun nm tail hn he => by
      have := putRow_getRow [⟨5, 0, 0, nm⟩] (by simpa using name_wf hn) (name_row hn) tail
      rw [he]
      unfold txL
      rw [this]
      exact ⟨rfl, List.drop_left⟩
    obtain ⟨row, hrow⟩ : ∃ q, q = (getRow s.data.toList).2.1 := ⟨_, rfl⟩
    obtain ⟨n, hn⟩ : ∃ q, q = (getRow s.data.toList).2.2 := ⟨_, rfl⟩
    rw [← hrow] at m1 m2 m3 hown HTX
    rw [← hn] at g5 HTX
    simp only [← hrow, ← hn]
    have g5' : n ≤ s.size := by simpa using g5
    cases row with
    | nil => simp at m1
    | cons v0 row =>
      have ht := may_size (m3 v0 (by simp))
      have hrl : row.length ≤ 8 := by rw [List.length_cons] at m2; omega
      have hrr := HR.out.r
      simp only [List.length_cons]
      by_cases hr1 : row.length = 0
      · obtain rfl : row = [] := List.eq_nil_of_length_eq_zero hr1
        obtain ⟨g, cap, hv, _, hlg⟩ := hown.form (by simp)
        have hA : A = some ⟨g, 0, none⟩ := by injection hv
        subst hA
        have hgr : g ≠ rb := own_blk_far hown (HR.out.r) (by decide)
        have hcell := hown.cells (g := g) rfl 3 (.string v0.t) rfl
        have e3 : (⟨g, 0, none⟩ : Addr).add 3 = ⟨g, 3, none⟩ := rfl
        rw [e3] at hcell
        have HCL := Lib.hid hcell
        obtain ⟨vk, vn, vr, t⟩ := v0
        simp only at ht HCL
        clear h0 c0 HR0 hb1 g1 g4 g5 m1 m2 m3 hrow hn hown hv hcell hr1 hrl
        obtain ⟨w3, rfl, lt⟩ := blk_put hrr
        obtain ⟨pc, pf, pS⟩ := putBlk_facts (w := w3) 188 lt
        have hcc : ∀ cs, (putBlk w3 rb cs 188).cell? ⟨g, 3, none⟩ = some (.string t) := fun cs => (putBlk_cell_ne hgr _ _ _ _).trans HCL.out
        clear hrr
        simp only [List.length_nil]
        go_wp2_with fail
        go_ret
        refine ⟨t, s.extract n s.size, bd, rfl, ?_, ht, by rw [extract_rest]; omega, fun nm tail hn he => ?_⟩
        · have h := HR.out.put (s' := s.extract n s.size) (bd' := bd)
          rwa [put_put] at h
        · obtain ⟨q1, q2⟩ := HTX.out nm tail hn he
          refine ⟨?_, by rw [drop_str]; exact q2, rfl⟩
          injection q1 with q1 _
          injection q1
      · have HN : Hid (∀ nm tail, nameB nm = true → s.data.toList = txL nm ++ tail → False) := fun nm tail hn he => by
          have := (HTX.out nm tail hn he).1
          injection this with _ this
          exact hr1 (by rw [this]; rfl)
        have q1 : ¬ (row.length : Int) + 1 = 1 := by omega
        generalize row.length = m at hown hr1 hrl q1 ⊢
        clear h0 c0 HR0 hb1 g1 g4 g5 m1 m2 m3 hrow hn hown HTX hr1
        obtain ⟨w3, rfl, lt⟩ := blk_put hrr
        obtain ⟨pc, pf, pS⟩ := putBlk_facts (w := w3) 188 lt
        clear hrr
        go_wp2_with fail
        go_ret
        refine ⟨ByteArray.empty, s, true, rfl, ?_, by decide, Nat.le_refl _, fun nm tail hn he => (HN.out nm tail hn he).elim⟩
        have h := HR.out.put (s' := s) (bd' := true)
        rwa [put_put] at h
  · have h0' : ((getRow s.data.toList).1 == 0) = false := by rw [beq_eq_false_iff_ne]; exact h0
    have h0'' : ((getRow s.data.toList).1 != 0) = true := by rw [bne_iff_ne]; exact h0
    have HN : Hid (∀ nm tail, nameB nm = true → s.data.toList = txL nm ++ tail → False) := fun nm tail hn he => by
      apply h0
      rw [he]
      have := putRow_getRow [⟨5, 0, 0, nm⟩] (by simpa using name_wf hn) (name_row hn) tail
      unfold txL
      rw [this]
    generalize (getRow s.data.toList).1 = E at h0' h0''
    have hrr := HR.out.r
    clear h0 c0 HR0 hb1
    obtain ⟨w3, rfl, lt⟩ := blk_put hrr
    obtain ⟨pc, pf, pS⟩ := putBlk_facts (w := w3) 188 lt
    clear hrr
    go_wp2_with fail
    go_ret
    refine ⟨ByteArray.empty, s, true, rfl, ?_, by decide, Nat.le_refl _, fun nm tail hn he => (HN.out nm tail hn he).elim⟩
    have h := HR.out.put (s' := s) (bd' := true)
    rwa [put_put] at h
set_option maxRecDepth 100000 in
theorem rname_any (s : ByteArray) (w : World) (hn : nameB s = true) :
    Calls Tryd.prog 143 #[.string s] w fun r w' => r = .returned (.string ⟨(txL s).toArray⟩) ∧ Below w.heap.size w w' := by
  have HP := Lib.hid (fun (W : World) (A : Option Addr) (c : Nat) (hr : VRow W A [⟨5, 0, 0, s⟩]) => refputrow_any [⟨5, 0, 0, s⟩] A c W hr (name_row hn))
  have HW := Lib.hid (name_wf hn)
  obtain ⟨X, hX⟩ : ∃ q : ByteArray, q = ⟨(txL s).toArray⟩ := ⟨_, rfl⟩
  unfold txL at hX ⊢
  rw [← hX] at HP ⊢
  clear hX hn
  go_enter Tryd.func143, Tryd.ntmps143
  go_wp2_with fail
  refine (HP.out _ _ _ ?h2).mono ?_
  case h2 => exact vrow_one (v := ⟨5, 0, 0, s⟩) (t := 24) HW.out (by repeat (first | exact Blk.at (by simp) | assumption | refine Blk.drew ?_ | refine Blk.old ?_ _))
  rintro r w1 ⟨rfl, hb1⟩
  have hbw : Below w.heap.size w w1 := bt (by repeat (first | exact Below.refl _ _ | assumption | refine Below.drew ?_ | refine below_drewN ?_ _ | refine Below.alloc ?_ (by simp <;> omega) _)) hb1
  clear hb1 HP
  go_wp2_with fail
  go_ret
  exact ⟨rfl, hbw⟩
end Go.Proofs.YtjdfodmialhakaaDoor

/- The reference's Put: the bytes of a schema that may be. -/
namespace Go.Proofs.YtjdfodmialhakaaDoor
open Go.RowKit

theorem u8_small {v : Int} (h0 : 0 ≤ v) (h1 : v < 256) : IntKind.u8.wrap v = v := by simp [IntKind.wrap, IntKind.bits, IntKind.signed]; omega
theorem conv3_at (a c d : Int) (W : World) (b k : Nat) (h0 : W.cell? ⟨b, 0, none⟩ = some (.int .u8 a)) (h1 : W.cell? ⟨b, 1, none⟩ = some (.int .u8 c)) (h2 : W.cell? ⟨b, 2, none⟩ = some (.int .u8 d)) :
    (convert 125 9 (.slice (some ⟨b, 0, none⟩) 3 k)).run Tryd.prog W = .ok (.string (strOfNums [a, c, d])) W :=
  conv_at [a, c, d] W b 3 k rfl (fun i hi => by
    match i, hi with
    | 0, _ => exact h0
    | 1, _ => exact h1
    | 2, _ => exact h2)
theorem conv3 (w : World) (a c d : Int) (k : Nat) :
    (convert 125 9 (.slice (some ⟨w.heap.size, 0, none⟩) 3 k)).run Tryd.prog (w.alloc (.cells #[.int .u8 a, .int .u8 c, .int .u8 d] 5)) = .ok (.string (strOfNums [a, c, d])) (w.alloc (.cells #[.int .u8 a, .int .u8 c, .int .u8 d] 5)) :=
  conv_new w [a, c, d] 3 k rfl
theorem cat_data (a b : ByteArray) : (a ++ b).data.toList = a.data.toList ++ b.data.toList := by simp [ByteArray.data_append]
theorem sz_data (a : ByteArray) : a.size = a.data.toList.length := by simp
theorem colL_in {t : Ta} (hc : colsB t = true) {j : Nat} {c : Co} (h : t.cs[j]? = some c) : nameB c.nm = true ∧ (1 ≤ c.k ∧ c.k ≤ 5) := by
  obtain ⟨_, h1, h2, _, _⟩ := cols_parts hc
  have hm := List.mem_of_getElem? h
  unfold namedB at h2
  exact ⟨List.all_eq_true.1 (Bool.and_eq_true_iff.1 h2).1 c.nm (List.mem_map.2 ⟨c, hm, rfl⟩), of_decide_eq_true (List.all_eq_true.1 h1 c hm)⟩
set_option maxRecDepth 100000 in
set_option maxHeartbeats 3200000 in
theorem refputsch_any (ts : List Ta) (A : Option Addr) (c : Nat) (w : World) (ht : TRow w A c ts) (hs : schB ts = true) :
    Calls Tryd.prog 78 #[.agg #[.slice A ts.length c]] w fun r w' => r = .returned (.string ⟨(putS ts).toArray⟩) ∧ Below w.heap.size w w' := by
  obtain ⟨M, hM⟩ : ∃ q : ByteArray, q = ⟨(putS ts).toArray⟩ := ⟨_, rfl⟩
  rw [← hM]
  have HM := Lib.hid hM
  have HS := Lib.hid hs
  have HT := Lib.hid ht
  have h12 := (sch_parts hs).1
  have HNM := Lib.hid (fun (s : ByteArray) (W : World) (hn : nameB s = true) => rname_any s W hn)
  have HTA := Lib.hid (fun (k : Nat) (t : Ta) (hk : ts[k]? = some t) => sch_tab hs hk)
  have HSN := Lib.hid (fun (k : Nat) (t : Ta) (hk : ts[k]? = some t) => hdS_snoc hk)
  have HLEN := Lib.hid (fun (k : Nat) => hdS_len hs k)
  have hl0 : IntKind.u8.wrap (ts.length : Int) = (ts.length : Int) := u8_small (by omega) (by omega)
  clear hM hs ht
  go_enter Tryd.func78, Tryd.ntmps78
  have h0 : Blk (w.alloc (.cells #[.slice A ts.length c] 103)) w.heap.size #[.slice A ts.length c] 103 := Blk.new w #[.slice A ts.length c] 103
  have hC : Below w.heap.size w (w.alloc (.cells #[.slice A ts.length c] 103)) := (by repeat (first | exact Below.refl _ _ | assumption | refine Below.drew ?_ | refine below_drewN ?_ _ | refine Below.alloc ?_ (by simp <;> omega) _))
  have HA := Lib.hid h0
  have HC := Lib.hid hC
  clear h0 hC
  go_upto_region 1 with fail
  generalize w.alloc (.cells #[.slice A ts.length c] 103) = W0 at HA HC ⊢
  have s0 := HA.out.cell 0
  simp only [List.getElem?_toArray, List.getElem?_cons_zero] at s0
  have l0 := HA.out.lt
  have hcv := conv1 W0 (ts.length : Int)
  go_wp2_with fail
  clear hcv s0 l0
  have HC1 : Hid (Below w.heap.size w (W0.alloc (.cells #[.int .u8 (ts.length : Int)] 5))) := bt HC.out (by repeat (first | exact Below.refl _ _ | assumption | refine Below.drew ?_ | refine below_drewN ?_ _ | refine Below.alloc ?_ (by simp <;> omega) _))
  have HA1 := Lib.hid (HA.out.old (.cells #[.int .u8 (ts.length : Int)] 5))
  have HX0 : Hid ((strOfNums [(ts.length : Int)]).data.toList = hdS ts 0) := by
    show _ = _
    rw [strOfNums_data]
    simp [hdS]
  generalize strOfNums [(ts.length : Int)] = X0 at HX0 ⊢
  generalize W0.alloc (.cells #[.int .u8 (ts.length : Int)] 5) = W1 at HC1 HA1 ⊢
  clear HA HC hl0
  go_loopw [3, 4] (fun b i wr => ∃ (k : Nat) (X : ByteArray), k ≤ ts.length ∧ b = .string X ∧ i = .int .i64 k ∧ Hid (X.data.toList = hdS ts k) ∧ Hid (Below W1.heap.size W1 wr)) (fun _ i _ => ts.length - (intOf i).toNat)
  case atStart => exact ⟨0, X0, by omega, rfl, rfl, HX0, Below.refl _ _⟩
  case round =>
    clear HX0
    obtain ⟨k, X, hk1, rfl, rfl, HX, HBW⟩ := hrel
    have s0 := (HA1.out.ext HBW.out).cell 0
    simp only [List.getElem?_toArray, List.getElem?_cons_zero] at s0
    have l0 := (HA1.out.ext HBW.out).lt
    have hXs : X.size ≤ 2500 := by rw [sz_data, HX.out]; exact HLEN.out k
    by_cases hlt : k < ts.length
    · obtain ⟨bb, off, t, rfl, hbb, hu, _, hwf, hcr, d0, d1, d2, d3, d4⟩ := (HT.out.ext (bt HC1.out HBW.out)).at_ hlt
      obtain ⟨hnm, hcB, href, hpar, hkey⟩ := HTA.out k t hu
      have hns := (name_parts hnm).2.2
      have hc8 := (cols_parts hcB).1
      have HCR := Lib.hid hcr
      have HSK := Lib.hid (HSN.out k t hu)
      have HCI := Lib.hid (fun (j : Nat) (v : Co) (h : t.cs[j]? = some v) => colL_in hcB h)
      have HTS := Lib.hid (fun (j : Nat) (v : Co) (h : t.cs[j]? = some v) => tbS_snoc h)
      have HTE := Lib.hid (tbS_end t)
      have HTL := Lib.hid (fun j => tbS_len hnm hcB j)
      have HT0 := Lib.hid (show tbS t 0 = txL t.nm ++ [UInt8.ofNat t.cs.length] by simp [tbS])
      have HNX := Lib.hid (fun (W : World) => HNM.out t.nm W hnm)
      have hTXL : (txL t.nm).length ≤ 19 := by rw [txL_len]; omega
      generalize tabL t = tL at HSK HTE
      generalize htb : tbS t = tS at HTS HTE HTL HT0
      have hcw := hcr.2.1
      obtain ⟨nm, cs, key, ref, par, TA, tc⟩ := t
      simp only at d0 d1 d2 d3 d4 HCR HCI HTS HTE HT0 HNX hns hc8 href hpar hkey hTXL
      obtain ⟨NX, hNX⟩ : ∃ q : ByteArray, q = ⟨(txL nm).toArray⟩ := ⟨_, rfl⟩
      rw [← hNX] at HNX
      have HNXD : Hid (NX.data.toList = txL nm) := by show _ = _; rw [hNX]
      have hNXs : NX.size ≤ 19 := by rw [sz_data, HNXD.out]; exact hTXL
      have hl8 : IntKind.u8.wrap (cs.length : Int) = (cs.length : Int) := u8_small (by omega) (by omega)
      clear hu hwf hcr hnm hcB hNX hTXL htb
      go_upto_region 6 with fail
      have HV := Lib.hid (Blk.new wr #[.string nm, .slice TA cs.length tc, .int .i64 key, .int .i64 ref, .int .i64 par] 116)
      have HBV : Hid (Below W1.heap.size W1 (wr.alloc (.cells #[.string nm, .slice TA cs.length tc, .int .i64 key, .int .i64 ref, .int .i64 par] 116))) := bt HBW.out (by repeat (first | exact Below.refl _ _ | assumption | refine Below.drew ?_ | refine below_drewN ?_ _ | refine Below.alloc ?_ (by simp <;> omega) _))
      have HCR5 := Lib.hid (HCR.out.ext (show Below wr.heap.size wr (wr.alloc (.cells #[.string nm, .slice TA cs.length tc, .int .i64 key, .int .i64 ref, .int .i64 par] 116)) from (by repeat (first | exact Below.refl _ _ | assumption | refine Below.drew ?_ | refine below_drewN ?_ _ | refine Below.alloc ?_ (by simp <;> omega) _))))
      generalize wr.alloc (.cells #[.string nm, .slice TA cs.length tc, .int .i64 key, .int .i64 ref, .int .i64 par] 116) = w5 at HV HBV HCR5 ⊢
      generalize wr.heap.size = B at HV ⊢
      clear s0 l0 d0 d1 d2 d3 d4 HBW HCR hbb
      have hcv := conv1_at (cs.length : Int)
      have hk1 := run_cat X NX (by omega)
      have hk2 := run_cat (X ++ NX) (strOfNums [(cs.length : Int)]) (by rw [ByteArray.size_append, strOfNums_size]; simp only [List.length_cons, List.length_nil]; omega)
      go_cut [3] (fun s wx => s = .string (X ++ NX ++ strOfNums [(cs.length : Int)]) ∧ Hid (Below w5.heap.size w5 wx))
      case first =>
        refine region_last 12 _ [false, false, false, false, false, false, false, false, false, false, false, false, false, false, false, false, false, false, false, false, false, false, false, false, false, false, true, true, true, true, true, true, true, true, true, true, true, true, false, false, false, false, false, false, false, false, false, false, false, false, false, false, false, false, false, false, false, false, false, false, false, false, false, false, false, false, false, false, false, false, false, false, false, false, false, false, false, false, false, false, false, false, false, false, false, false] [26, 27, 28, 29, 30, 31, 32, 33, 34, 35, 36, 37] [.val (.string X), .val (.pointer (some ⟨B, 0, none⟩)), .val (.string nm), .val (.string NX), .val (.string (X ++ NX)), .val (.pointer (some ⟨B, 1, none⟩)), .val (.slice TA cs.length tc), .val (.int .i64 cs.length), .val (.int .u8 (cs.length : Int)), .new (fun g => .slice (some ⟨g, 0, none⟩) 1 1) #[.int .u8 (cs.length : Int)] 5, .val (.string (strOfNums [(cs.length : Int)])), .val (.string (X ++ NX ++ strOfNums [(cs.length : Int)]))] [11] (by kernel_rfl) (by kernel_rfl) rfl (by kernel_rfl) (by kernel_rfl) (by kernel_rfl) (by kernel_rfl) (by kernel_rfl) ⟨?_, ?_, ?_, ?_, ?_, ?_, ?_, ?_, ?_, ?_, ?_, ?_, trivial⟩ ?done
        case done =>
          intro x w6 hb6
          simp only [StepGoal, List.getD_cons_zero, List.getD_cons_succ]
          intro K hK
          rw [if_pos (by rfl)]; simp only [overlay, upd, cond_true, cond_false, Nat.reduceEqDiff, reduceIte]
          go_simp
          refine hK.out _ _ ?_
          go_wp2_with fail
          go_meet
          exact ⟨rfl, hb6⟩
        all_goals
          intro x w6 hb6
          (try (intro bq hq; have q0 := hq.cell 0; simp at q0))
          intro K hK
          obtain ⟨y0, y1, y2, y3, y4⟩ := blk5 (HV.out.ext hb6)
          have lv := (HV.out.ext hb6).lt
          rw [if_pos (by rfl)]; simp only [overlay, upd, cond_true, cond_false, List.getD_cons_zero, List.getD_cons_succ, Nat.reduceEqDiff, reduceIte]
          go_simp
          first
            | exact hK.out _ _ (Below.refl _ _) rfl
            | exact hK.out _ _ (by repeat (first | exact Below.refl _ _ | assumption | refine Below.drew ?_ | refine below_drewN ?_ _ | refine Below.alloc ?_ (by simp <;> omega) _)) ⟨_, rfl, Blk.new _ _ _⟩
            | ((with_reducible refine (HNX.out _).mono ?_); rintro e wa ⟨rfl, hba⟩; go_wp2_with fail; exact hK.out _ _ hba rfl)
      case rest =>
        obtain ⟨rfl, HB6⟩ := hcut
        rename World => w6
        have HY0 : Hid ((X ++ NX ++ strOfNums [(cs.length : Int)]).data.toList = hdS ts k ++ tS 0) := by
          show _ = _
          rw [HT0.out, cat_data, cat_data, HX.out, HNXD.out, strOfNums_data]
          simp
        generalize X ++ NX ++ strOfNums [(cs.length : Int)] = Y0 at HY0 ⊢
        clear hcv hk1 hk2 HX hXs HNXD hNXs hl8 HT0 HNX
        have hV6 := HV.out.ext HB6.out
        have HBV6 := Lib.hid (bt HBV.out HB6.out)
        have HCR6 := Lib.hid (HCR5.out.ext HB6.out)
        have HV6 := Lib.hid hV6
        clear HV HBV HCR5 HB6 hV6
        go_wp2_with fail
        go_loopw [3, 6] (fun b i wp => ∃ (j : Nat) (Y : ByteArray), j ≤ cs.length ∧ b = .string Y ∧ i = .int .i64 j ∧ Hid (Y.data.toList = hdS ts k ++ tS j) ∧ Hid (Below w6.heap.size w6 wp)) (fun _ i _ => cs.length - (intOf i).toNat)
        case atStart => exact ⟨0, Y0, by omega, rfl, rfl, HY0, Below.refl _ _⟩
        case round =>
          clear HY0
          obtain ⟨j, Y, hj1, rfl, rfl, HY, HBP⟩ := hrel
          obtain ⟨y0, y1, y2, y3, y4⟩ := blk5 (HV6.out.ext HBP.out)
          have lv := (HV6.out.ext HBP.out).lt
          have hYs : Y.size ≤ 2700 := by
            rw [sz_data, HY.out, List.length_append]
            have := HLEN.out k
            have := HTL.out j
            omega
          by_cases hjl : j < cs.length
          · obtain ⟨cb, coff, v, rfl, hcb, hlk, _, _, e0, e1, e2⟩ := (HCR6.out.ext HBP.out).at_ hjl
            obtain ⟨hvn, hvk⟩ := HCI.out j v hlk
            have hns := (name_parts hvn).2.2
            have HTJ := Lib.hid (HTS.out j v hlk)
            have HNX := Lib.hid (fun (W : World) => HNM.out v.nm W hvn)
            have hTXL : (txL v.nm).length ≤ 19 := by rw [txL_len]; omega
            obtain ⟨vn, vk, vl⟩ := v
            simp only at e0 e1 e2 hvk hns HTJ HNX hTXL
            obtain ⟨NX, hNX⟩ : ∃ q : ByteArray, q = ⟨(txL vn).toArray⟩ := ⟨_, rfl⟩
            rw [← hNX] at HNX
            have HNXD : Hid (NX.data.toList = txL vn) := by show _ = _; rw [hNX]
            have hNXs : NX.size ≤ 19 := by rw [sz_data, HNXD.out]; exact hTXL
            have i0 : (0 : Int) ≤ j := by omega
            have i1 : (j : Int) < cs.length := by omega
            have HE0 := Lib.hid e0
            have HE1 := Lib.hid e1
            clear hlk hvn hNX hTXL
            cases vl
            · have hcv := conv2_at vk 0
              have hk1 := run_cat Y NX (by omega)
              have hk2 := run_cat (Y ++ NX) (strOfNums [vk, 0]) (by rw [ByteArray.size_append, strOfNums_size]; simp only [List.length_cons, List.length_nil]; omega)
              go_upto_region 13 with fail
              have HYN : Hid ((Y ++ NX ++ strOfNums [vk, 0]).data.toList = hdS ts k ++ tS (j + 1)) := by
                show _ = _
                rw [HTJ.out, cat_data, cat_data, HY.out, HNXD.out, strOfNums_data]
                simp
              refine region_last 19 _ [false, false, false, false, false, false, false, false, false, false, false, false, false, false, false, false, false, false, false, false, false, false, false, false, false, false, false, false, false, false, false, false, false, false, false, false, false, false, false, false, false, false, false, false, false, false, false, false, false, false, false, true, true, true, true, true, true, true, true, true, true, true, true, true, true, true, true, true, true, true, false, false, false, false, false, false, false, false, false, false, false, false, false, false, false, false] [51, 52, 53, 54, 55, 56, 57, 58, 59, 60, 61, 62, 63, 64, 65, 66, 67, 68, 69] [.val (.string Y), .val (.pointer (some ⟨B, 1, none⟩)), .val (.slice (some ⟨cb, coff, none⟩) cs.length tc), .val (.int .i64 j), .val (.pointer (some ⟨cb, coff + j * 3, none⟩)), .val (.pointer (some ⟨cb, coff + j * 3, none⟩)), .val (.string vn), .val (.string NX), .val (.string (Y ++ NX)), .val (.pointer (some ⟨B, 1, none⟩)), .val (.slice (some ⟨cb, coff, none⟩) cs.length tc), .val (.int .i64 j), .val (.pointer (some ⟨cb, coff + j * 3, none⟩)), .val (.pointer (some ⟨cb, coff + j * 3 + 1, none⟩)), .val (.int .u8 vk), .val (.int .u8 0), .new (fun g => .slice (some ⟨g, 0, none⟩) 2 2) #[.int .u8 vk, .int .u8 0] 5, .val (.string (strOfNums [vk, 0])), .val (.string (Y ++ NX ++ strOfNums [vk, 0]))] [18] (by kernel_rfl) (by kernel_rfl) rfl (by kernel_rfl) (by kernel_rfl) (by kernel_rfl) (by kernel_rfl) (by kernel_rfl) ⟨?_, ?_, ?_, ?_, ?_, ?_, ?_, ?_, ?_, ?_, ?_, ?_, ?_, ?_, ?_, ?_, ?_, ?_, ?_, trivial⟩ ?done
              case done =>
                intro x w7 hb7
                clear y0 y1 y2 y3 y4 e0 e1 e2
                simp only [StepGoal, List.getD_cons_zero, List.getD_cons_succ]
                intro K hK
                rw [if_pos (by rfl)]; simp only [overlay, upd, cond_true, cond_false, Nat.reduceEqDiff, reduceIte]
                go_simp
                refine hK.out _ _ ?_
                go_wp2_with fail
                go_roundw
                case rel => exact ⟨j + 1, _, by omega, rfl, by go_num, HYN, bt HBP.out hb7⟩
                case measure => simp [intOf]; omega
              all_goals
                intro x w7 hb7
                (try (intro bq hq; have q0 := hq.cell 0; have q1 := hq.cell 1; simp at q0 q1))
                intro K hK
                obtain ⟨y0, y1, y2, y3, y4⟩ := blk5 ((HV6.out.ext HBP.out).ext hb7)
                have lv := ((HV6.out.ext HBP.out).ext hb7).lt
                have e0 := (hb7.cell (p := ⟨cb, coff + j * 3, none⟩) hcb).trans HE0.out
                have e1 := (hb7.cell (p := ⟨cb, coff + j * 3 + 1, none⟩) hcb).trans HE1.out
                rw [if_pos (by rfl)]; simp only [overlay, upd, cond_true, cond_false, List.getD_cons_zero, List.getD_cons_succ, Nat.reduceEqDiff, reduceIte]
                go_simp
                first
                  | exact hK.out _ _ (Below.refl _ _) rfl
                  | exact hK.out _ _ (by repeat (first | exact Below.refl _ _ | assumption | refine Below.drew ?_ | refine below_drewN ?_ _ | refine Below.alloc ?_ (by simp <;> omega) _)) ⟨_, rfl, Blk.new _ _ _⟩
                  | ((with_reducible refine (HNX.out _).mono ?_); rintro e wa ⟨rfl, hba⟩; go_wp2_with fail; exact hK.out _ _ hba rfl)
            · have hcv := conv2_at vk 1
              have hk1 := run_cat Y NX (by omega)
              have hk2 := run_cat (Y ++ NX) (strOfNums [vk, 1]) (by rw [ByteArray.size_append, strOfNums_size]; simp only [List.length_cons, List.length_nil]; omega)
              go_upto_region 13 with fail
              have HYN : Hid ((Y ++ NX ++ strOfNums [vk, 1]).data.toList = hdS ts k ++ tS (j + 1)) := by
                show _ = _
                rw [HTJ.out, cat_data, cat_data, HY.out, HNXD.out, strOfNums_data]
                simp
              refine region_last 19 _ [false, false, false, false, false, false, false, false, false, false, false, false, false, false, false, false, false, false, false, false, false, false, false, false, false, false, false, false, false, false, false, false, false, false, false, false, false, false, false, false, false, false, false, false, false, false, false, false, false, false, false, true, true, true, true, true, true, true, true, true, true, true, true, true, true, true, true, true, true, true, false, false, false, false, false, false, false, false, false, false, false, false, false, false, false, false] [51, 52, 53, 54, 55, 56, 57, 58, 59, 60, 61, 62, 63, 64, 65, 66, 67, 68, 69] [.val (.string Y), .val (.pointer (some ⟨B, 1, none⟩)), .val (.slice (some ⟨cb, coff, none⟩) cs.length tc), .val (.int .i64 j), .val (.pointer (some ⟨cb, coff + j * 3, none⟩)), .val (.pointer (some ⟨cb, coff + j * 3, none⟩)), .val (.string vn), .val (.string NX), .val (.string (Y ++ NX)), .val (.pointer (some ⟨B, 1, none⟩)), .val (.slice (some ⟨cb, coff, none⟩) cs.length tc), .val (.int .i64 j), .val (.pointer (some ⟨cb, coff + j * 3, none⟩)), .val (.pointer (some ⟨cb, coff + j * 3 + 1, none⟩)), .val (.int .u8 vk), .val (.int .u8 1), .new (fun g => .slice (some ⟨g, 0, none⟩) 2 2) #[.int .u8 vk, .int .u8 1] 5, .val (.string (strOfNums [vk, 1])), .val (.string (Y ++ NX ++ strOfNums [vk, 1]))] [18] (by kernel_rfl) (by kernel_rfl) rfl (by kernel_rfl) (by kernel_rfl) (by kernel_rfl) (by kernel_rfl) (by kernel_rfl) ⟨?_, ?_, ?_, ?_, ?_, ?_, ?_, ?_, ?_, ?_, ?_, ?_, ?_, ?_, ?_, ?_, ?_, ?_, ?_, trivial⟩ ?done
              case done =>
                intro x w7 hb7
                clear y0 y1 y2 y3 y4 e0 e1 e2
                simp only [StepGoal, List.getD_cons_zero, List.getD_cons_succ]
                intro K hK
                rw [if_pos (by rfl)]; simp only [overlay, upd, cond_true, cond_false, Nat.reduceEqDiff, reduceIte]
                go_simp
                refine hK.out _ _ ?_
                go_wp2_with fail
                go_roundw
                case rel => exact ⟨j + 1, _, by omega, rfl, by go_num, HYN, bt HBP.out hb7⟩
                case measure => simp [intOf]; omega
              all_goals
                intro x w7 hb7
                (try (intro bq hq; have q0 := hq.cell 0; have q1 := hq.cell 1; simp at q0 q1))
                intro K hK
                obtain ⟨y0, y1, y2, y3, y4⟩ := blk5 ((HV6.out.ext HBP.out).ext hb7)
                have lv := ((HV6.out.ext HBP.out).ext hb7).lt
                have e0 := (hb7.cell (p := ⟨cb, coff + j * 3, none⟩) hcb).trans HE0.out
                have e1 := (hb7.cell (p := ⟨cb, coff + j * 3 + 1, none⟩) hcb).trans HE1.out
                rw [if_pos (by rfl)]; simp only [overlay, upd, cond_true, cond_false, List.getD_cons_zero, List.getD_cons_succ, Nat.reduceEqDiff, reduceIte]
                go_simp
                first
                  | exact hK.out _ _ (Below.refl _ _) rfl
                  | exact hK.out _ _ (by repeat (first | exact Below.refl _ _ | assumption | refine Below.drew ?_ | refine below_drewN ?_ _ | refine Below.alloc ?_ (by simp <;> omega) _)) ⟨_, rfl, Blk.new _ _ _⟩
                  | ((with_reducible refine (HNX.out _).mono ?_); rintro e wa ⟨rfl, hba⟩; go_wp2_with fail; exact hK.out _ _ hba rfl)
          · have hje : j = cs.length := by omega
            subst hje
            have hcv := conv3
            have hw1 : IntKind.i64.wrap (ref + 1) = ref + 1 := by rw [IntKind.wrap_i64]; omega
            have hw2 : IntKind.i64.wrap (par + 1) = par + 1 := by rw [IntKind.wrap_i64]; omega
            have hk3 := run_cat Y (strOfNums [key, ref + 1, par + 1]) (by rw [strOfNums_size]; simp only [List.length_cons, List.length_nil]; omega)
            have HYE : Hid ((Y ++ strOfNums [key, ref + 1, par + 1]).data.toList = hdS ts (k + 1)) := by
              show _ = _
              rw [HSK.out, HTE.out, cat_data, HY.out, strOfNums_data]
              simp
            have HBE := Lib.hid (bt HBV6.out HBP.out)
            go_wp2_with fail
            go_roundw
            case rel => exact ⟨k + 1, _, by omega, rfl, by go_num, HYE, bt HBE.out (by repeat (first | exact Below.refl _ _ | assumption | refine Below.drew ?_ | refine below_drewN ?_ _ | refine Below.alloc ?_ (by simp <;> omega) _))⟩
            case measure => simp [intOf]; omega
    · have hke : k = ts.length := by omega
      have HE : Hid (X = M) := by
        show _ = _
        rw [HM.out]
        refine ba_of ?_
        rw [HX.out, hke]
        unfold hdS putS
        rw [List.take_length]
      clear hke
      go_wp2_with fail
      go_ret
      exact ⟨ret_str HE.out, bt HC1.out HBW.out⟩
end Go.Proofs.YtjdfodmialhakaaDoor

/- The reference's Get: which schema bytes are. -/
namespace Go.Proofs.YtjdfodmialhakaaDoor
open Go.RowKit

/-- What lies in memory while a table is read: its block B, its columns so far. -/
structure TI (w0 : World) (r0 sb rb B : Nat) (A : Option Addr) (c : Nat) (T : List Ta) (s : ByteArray) (bd : Bool) (tc : Array Value) (CA : Option Addr) (cc : Nat) (Cs : List Co) (w : World) : Prop where
  gi : GI w0 r0 sb B A c T w
  rd : Blk w rb #[.string s, .bool bd] 188
  tb : Blk w B tc 116
  co : w.ownsRow B 180 3 (.slice CA Cs.length cc) Cs.length (ccells Cs)
  lo : w0.heap.size ≤ rb
  rl : rb < B
section
variable {w0 : World} {r0 sb rb B : Nat} {A : Option Addr} {c : Nat} {T : List Ta} {s : ByteArray} {bd : Bool} {tc : Array Value} {CA : Option Addr} {cc : Nat} {Cs : List Co} {w w' : World}
theorem TI.le (h : TI w0 r0 sb rb B A c T s bd tc CA cc Cs w) : B ≤ w.heap.size := Nat.le_of_lt h.tb.lt
theorem TI.step {s' : ByteArray} {bd' : Bool} (h : TI w0 r0 sb rb B A c T s bd tc CA cc Cs w) (k : Rdr rb w w' s' bd') : TI w0 r0 sb rb B A c T s' bd' tc CA cc Cs w' :=
  ⟨h.gi.rdr k h.rd h.lo, k.r, k.blk h.tb (by have := h.rl; omega), k.own h.rd h.co (by decide), h.lo, h.rl⟩
theorem TI.ext (h : TI w0 r0 sb rb B A c T s bd tc CA cc Cs w) (hb : Below w.heap.size w w') : TI w0 r0 sb rb B A c T s bd tc CA cc Cs w' :=
  ⟨h.gi.low (hb.mono h.le), h.rd.ext hb, h.tb.ext hb, own_below h.co hb, h.lo, h.rl⟩
theorem TI.putT (h : TI w0 r0 sb rb B A c T s bd tc CA cc Cs w) (tc' : Array Value) : TI w0 r0 sb rb B A c T s bd tc' CA cc Cs (putBlk w B tc' 116) :=
  ⟨h.gi.low (putBlk_below _ _ (Below.mono (Below.refl w.heap.size w) h.le) (Nat.le_refl B)), putBlk_ne h.rd (by have := h.rl; omega), putBlk_blk _ _ h.tb.lt, own_below_put h.co h.tb (by decide) _, h.lo, h.rl⟩
theorem TI.putC {cb : Nat} (h : TI w0 r0 sb rb B A c T s bd tc CA cc Cs w) (cs : Array Value) (hl : cb < w.heap.size) (hB : B < cb) (ho : ∀ g, (Value.slice CA Cs.length cc).ownBlock = some g → g < cb) : TI w0 r0 sb rb B A c T s bd tc CA cc Cs (putBlk w cb cs 180) :=
  ⟨h.gi.low (putBlk_below _ _ (Below.mono (Below.refl w.heap.size w) h.le) (Nat.le_of_lt hB)), putBlk_ne h.rd (by have := h.rl; omega), putBlk_ne h.tb (by omega),
    own_low h.co (putBlk_below (w := w) (b := cb) cs 180 (Below.mono (Below.refl w.heap.size w) (Nat.le_of_lt hl)) (Nat.le_refl cb)) ho, h.lo, h.rl⟩
theorem TI.obl (h : TI w0 r0 sb rb B A c T s bd tc CA cc Cs w) : ∀ g, (Value.slice CA Cs.length cc).ownBlock = some g → g < w.heap.size := obl_own h.co
end
set_option maxRecDepth 100000 in
set_option maxHeartbeats 6400000 in
theorem refgetsch_any (b : ByteArray) (w : World) (hT : Tabs w) (hb : b.size ≤ 140737488355328) :
    Calls Tryd.prog 80 #[.string b] w (SGet b w) := by
  have HT := Lib.hid hT
  clear hT
  obtain ⟨i1, hi1, hx0, hx1, hx2⟩ := info_parts info_col
  obtain ⟨i2, hi2, hy0, hy1, hy2⟩ := info_parts info_tab
  go_enter Tryd.func80, Tryd.ntmps80
  go_wp2_with fail
  have h0 : Blk (((w.alloc (.cells #[.slice none 0 0] 103)).alloc (.cells #[.string b, .bool false] 188)).alloc (.cells #[.slice none 0 0] 103)) w.heap.size #[.slice none 0 0] 103 := ((Blk.new w _ _).old _).old _
  have h1 : Blk (((w.alloc (.cells #[.slice none 0 0] 103)).alloc (.cells #[.string b, .bool false] 188)).alloc (.cells #[.slice none 0 0] 103)) (w.heap.size + 1) #[.string b, .bool false] 188 := (by repeat (first | exact Blk.at (by simp) | assumption | refine Blk.drew ?_ | refine Blk.old ?_ _))
  have h3 : Blk (((w.alloc (.cells #[.slice none 0 0] 103)).alloc (.cells #[.string b, .bool false] 188)).alloc (.cells #[.slice none 0 0] 103)) (w.heap.size + 1 + 1) #[.slice none 0 0] 103 := (by repeat (first | exact Blk.at (by simp) | assumption | refine Blk.drew ?_ | refine Blk.old ?_ _))
  have hC : Below w.heap.size w (((w.alloc (.cells #[.slice none 0 0] 103)).alloc (.cells #[.string b, .bool false] 188)).alloc (.cells #[.slice none 0 0] 103)) := (by repeat (first | exact Below.refl _ _ | assumption | refine Below.drew ?_ | refine below_drewN ?_ _ | refine Below.alloc ?_ (by simp <;> omega) _))
  generalize ((w.alloc (.cells #[.slice none 0 0] 103)).alloc (.cells #[.string b, .bool false] 188)).alloc (.cells #[.slice none 0 0] 103) = W0 at h0 h1 h3 hC ⊢
  have q1 : w.heap.size ≤ w.heap.size + 1 + 1 := by omega
  have q2 : w.heap.size ≠ w.heap.size + 1 + 1 := by omega
  have q3 : w.heap.size ≤ w.heap.size + 1 := by omega
  generalize w.heap.size + 1 + 1 = sb at h3 q1 q2 ⊢
  generalize w.heap.size + 1 = rb at h1 q3 ⊢
  have HGI0 : Hid (GI w w.heap.size sb W0.heap.size none 0 [] W0) := ⟨⟨Nat.le_refl _, q1, h0.lt, h3.lt, q2, by simp⟩, h0, h3, World.ownsRow_nil _ _ _ _, (fun g h => by cases h), (fun t h => by cases h), hC⟩
  refine (rone_any rb b false W0 h1 hb).mono ?_
  rintro r w1 ⟨v, s1, bd1, rfl, hrd, v0, v1, hz1, HF⟩
  have HR1 := Lib.hid hrd.r
  have HGI1 := Lib.hid ((HGI0.out.rdr hrd h1 q3).mono hrd.size)
  have HGO1 : Hid (GO b s1 bd1 [] (v - (0 : Nat))) := by show GO _ _ _ _ _; rw [show v - ((0 : Nat) : Int) = v by omega]; exact go_start HF.out
  clear HGI0 HF hrd h0 h1 h3 hC
  go_upto_block 0 with fail
  go_cut [] (fun wx => ∃ (p : Nat) (s : ByteArray) (bd : Bool) (A : Option Addr) (c : Nat) (T : List Ta), Hid (Blk wx rb #[.string s, .bool bd] 188) ∧ Hid (GI w w.heap.size sb wx.heap.size A c T wx) ∧ Hid (GO b s bd T (v - p)) ∧ Hid (v - (p : Int) ≤ 0 ∨ bd = true))
  case first =>
    go_wp2_with fail
    go_loopw [7] (fun n wr => ∃ (p : Nat) (s : ByteArray) (bd : Bool) (A : Option Addr) (c : Nat) (T : List Ta), n = .int .i64 p ∧ (p : Int) ≤ v ∧ T.length = p ∧ s.size ≤ b.size ∧ Hid (Blk wr rb #[.string s, .bool bd] 188) ∧ Hid (GI w w.heap.size sb wr.heap.size A c T wr) ∧ Hid (GO b s bd T (v - p))) (fun n _ => (v - intOf n).toNat)
    case atStart => exact ⟨0, s1, bd1, none, 0, [], rfl, v0, rfl, hz1, HR1, HGI1, HGO1⟩
    case round =>
      clear HR1 HGI1 HGO1
      obtain ⟨p, s, bd, A, c, T, rfl, hpv, hTp, hsz, HRB, HGI, HGO⟩ := hrel
      have hbd := HRB.out.cell 1
      simp only [List.getElem?_toArray, List.getElem?_cons_zero, List.getElem?_cons_succ] at hbd
      have hlr := HRB.out.lt
      by_cases hm : (p : Int) < v
      · cases bd
        · have HWD := Lib.hid (fun (s : ByteArray) (bd : Bool) (W : World) (hW : Below w.heap.size w W) => rword_any rb s bd W (HT.out.ext hW))
          have HON := Lib.hid (fun (s : ByteArray) (bd : Bool) (W : World) => rone_any rb s bd W)
          have hmm : 0 < v - (p : Int) := by omega
          go_wp2_with fail
          refine (HWD.out s false wr HGI.out.2.2.2.2.2.2 HRB.out (by omega)).mono ?_
          rintro r w2 ⟨nm, s1, bd1, rfl, hrd, hnz, hz1, HF1⟩
          have HR1 := Lib.hid hrd.r
          have HGI1 := Lib.hid ((HGI.out.rdr hrd HRB.out q3).mono hrd.size)
          clear hrd HRB HGI hbd hlr
          go_wp2_with fail
          have hlow : Below w2.heap.size w2 (w2.alloc (.cells #[.string nm, .slice none 0 0, .int .i64 0, .int .i64 0, .int .i64 0] 116)) := (by repeat (first | exact Below.refl _ _ | assumption | refine Below.drew ?_ | refine below_drewN ?_ _ | refine Below.alloc ?_ (by simp <;> omega) _))
          have HTI2 : Hid (TI w w.heap.size sb rb w2.heap.size A c T s1 bd1 #[.string nm, .slice none ([] : List Co).length 0, .int .i64 0, .int .i64 0, .int .i64 0] none 0 [] (w2.alloc (.cells #[.string nm, .slice none 0 0, .int .i64 0, .int .i64 0, .int .i64 0] 116))) :=
            ⟨HGI1.out.low hlow, HR1.out.ext hlow, Blk.new w2 _ _, World.ownsRow_nil _ _ _ _, q3, HR1.out.lt⟩
          generalize w2.alloc (.cells #[.string nm, .slice none 0 0, .int .i64 0, .int .i64 0, .int .i64 0] 116) = w3 at HTI2 ⊢
          generalize w2.heap.size = B at HTI2 ⊢
          clear HR1 HGI1 hlow
          refine (HON.out s1 bd1 w3 HTI2.out.rd (by omega)).mono ?_
          rintro r w4 ⟨n1, s2, bd2, rfl, hrd, n0, n255, hz2, HF2⟩
          have HTI4 := Lib.hid (HTI2.out.step hrd)
          have HGN4 : Hid (GN b s2 bd2 T (v - p) nm [] (n1 - (0 : Nat))) := by show GN _ _ _ _ _ _ _ _; rw [show n1 - ((0 : Nat) : Int) = n1 by omega]; exact go_enter_tab HGO.out hmm HF1.out HF2.out
          clear hrd HTI2 HGO HF1 HF2
          go_upto_block 2 with fail
          go_cut [] (fun wx => ∃ (q : Nat) (s : ByteArray) (bd : Bool) (Cs : List Co) (CA : Option Addr) (cc : Nat), ((q : Int) ≤ n1 ∧ Cs.length = q ∧ s.size ≤ b.size) ∧ Hid (TI w w.heap.size sb rb B A c T s bd #[.string nm, .slice CA q cc, .int .i64 0, .int .i64 0, .int .i64 0] CA cc Cs wx) ∧ Hid (∀ c ∈ Cs, c.wf) ∧ Hid (GN b s bd T (v - p) nm Cs (n1 - q)) ∧ Hid (n1 - (q : Int) ≤ 0 ∨ bd = true))
          case first =>
            go_wp2_with fail
            go_loopw [10] (fun n wr => ∃ (q : Nat) (s : ByteArray) (bd : Bool) (Cs : List Co) (CA : Option Addr) (cc : Nat), n = .int .i64 q ∧ (q : Int) ≤ n1 ∧ Cs.length = q ∧ s.size ≤ b.size ∧ Hid (TI w w.heap.size sb rb B A c T s bd #[.string nm, .slice CA q cc, .int .i64 0, .int .i64 0, .int .i64 0] CA cc Cs wr) ∧ Hid (∀ c ∈ Cs, c.wf) ∧ Hid (GN b s bd T (v - p) nm Cs (n1 - q))) (fun n _ => (n1 - intOf n).toNat)
            case atStart => exact ⟨0, s2, bd2, [], none, 0, rfl, n0, rfl, by omega, HTI4, (fun c h => by cases h), HGN4⟩
            case round =>
              clear HTI4 HGN4
              obtain ⟨q, s, bd, Cs, CA, cc, rfl, hqn, hCq, hsz, HTI, HCW, HGN⟩ := hrel
              have hbd := HTI.out.rd.cell 1
              simp only [List.getElem?_toArray, List.getElem?_cons_zero, List.getElem?_cons_succ] at hbd
              have hlr := HTI.out.rd.lt
              by_cases hq : (q : Int) < n1
              · cases bd
                · have hqq : 0 < n1 - (q : Int) := by omega
                  go_wp2_with fail
                  refine (HWD.out s false wr HTI.out.gi.2.2.2.2.2.2 HTI.out.rd (by omega)).mono ?_
                  rintro r w5 ⟨cn, s3, bd3, rfl, hrd, hcz, hz3, HF3⟩
                  have HTI5 := Lib.hid (HTI.out.step hrd)
                  clear hrd HTI hbd hlr
                  go_wp2_with fail
                  have hlow : Below w5.heap.size w5 (w5.alloc (.cells #[.string cn, .int .u8 0, .bool false] 180)) := (by repeat (first | exact Below.refl _ _ | assumption | refine Below.drew ?_ | refine below_drewN ?_ _ | refine Below.alloc ?_ (by simp <;> omega) _))
                  have HCB := Lib.hid (Blk.new w5 #[.string cn, .int .u8 0, .bool false] 180)
                  have HTI6 := Lib.hid (HTI5.out.ext hlow)
                  have HOB := Lib.hid HTI5.out.obl
                  have hcb := HTI5.out.tb.lt
                  generalize w5.alloc (.cells #[.string cn, .int .u8 0, .bool false] 180) = w6 at HCB HTI6 ⊢
                  generalize w5.heap.size = cb at HCB HOB hcb ⊢
                  clear HTI5 hlow
                  refine (HON.out s3 bd3 w6 HTI6.out.rd (by omega)).mono ?_
                  rintro r w7 ⟨cv, s4, bd4, rfl, hrd, cv0, cv1, hz4, HF4⟩
                  have HTI7 := Lib.hid (HTI6.out.step hrd)
                  have hCB7 := hrd.blk HCB.out (by have := HTI6.out.rl; omega)
                  have hwv : IntKind.u8.wrap cv = cv := by simp [IntKind.wrap, IntKind.bits, IntKind.signed]; omega
                  have HTI8 := Lib.hid (HTI7.out.putC #[.string cn, .int .u8 cv, .bool false] hCB7.lt hcb HOB.out)
                  have HCB8 := Lib.hid (putBlk_blk (w := w7) #[.string cn, .int .u8 cv, .bool false] 180 hCB7.lt)
                  clear hrd HTI6 HTI7 HCB
                  obtain ⟨w20, rfl, lt⟩ := blk_put hCB7
                  rw [put_put] at HTI8 HCB8
                  obtain ⟨pc, pf, pS⟩ := putBlk_facts (w := w20) 180 lt
                  clear hCB7
                  go_upto_region 14 with fail
                  generalize putBlk w20 cb #[.string cn, .int .u8 cv, .bool false] 180 = w8 at HTI8 HCB8 ⊢
                  clear pc pf pS lt hwv
                  go_wp2_with fail
                  refine (HON.out s4 bd4 w8 HTI8.out.rd (by omega)).mono ?_
                  rintro r w9 ⟨cu, s5, bd5, rfl, hrd, cu0, cu1, hz5, HF5⟩
                  have HTI9 := Lib.hid (HTI8.out.step hrd)
                  have hCB9 := hrd.blk HCB8.out (by have := HTI8.out.rl; omega)
                  obtain ⟨ub, hub⟩ : ∃ ub : Bool, (cu == 1) = ub := ⟨_, rfl⟩
                  have hub2 : decide (cu = 1) = ub := by rw [← hub]; exact (Bool.eq_iff_iff.2 (by simp))
                  have HGN8 := Lib.hid (go_col HGN.out hqq HF3.out HF4.out HF5.out)
                  rw [hub2] at HGN8
                  have HTI10 := Lib.hid (HTI9.out.putC #[.string cn, .int .u8 cv, .bool ub] hCB9.lt hcb HOB.out)
                  have HCB10 := Lib.hid (putBlk_blk (w := w9) #[.string cn, .int .u8 cv, .bool ub] 180 hCB9.lt)
                  clear hrd HTI8 HTI9 HCB8 HF3 HF4 HF5 HGN hub2 hqq
                  obtain ⟨w21, rfl, lt⟩ := blk_put hCB9
                  rw [put_put] at HTI10 HCB10
                  obtain ⟨pc, pf, pS⟩ := putBlk_facts (w := w21) 180 lt
                  clear hCB9
                  go_upto_region 15 with fail
                  generalize putBlk w21 cb #[.string cn, .int .u8 cv, .bool ub] 180 = w10 at HTI10 HCB10 ⊢
                  clear pc pf pS lt hub
                  have y0 := HCB10.out.cell 0
                  have y1 := HCB10.out.cell 1
                  have y2 := HCB10.out.cell 2
                  have z1 := HTI10.out.tb.cell 1
                  simp only [List.getElem?_toArray, List.getElem?_cons_zero, List.getElem?_cons_succ] at y0 y1 y2 z1
                  have hco := HTI10.out.co
                  have hlt1 := HCB10.out.lt
                  have hlt2 := HTI10.out.tb.lt
                  rw [hCq] at hco
                  have HJ := Lib.hid hCq
                  have hq8 : q ≤ 255 := by omega
                  clear hCq
                  go_wp2_with (at_builtin; refine wpList_append_own _ rfl _ _ 114 rfl B 180 i1 _ 3 24 Tryd.underlying114 hi1 hx0 hx1 hx2 rfl (by decide) _ q _ rfl (hco.alloc _) ⟨w10.heap.size, 0, none⟩ 1 1 [.string cn, .int .u8 cv, .bool ub] rfl rfl (cells_blk3 (Blk.new _ _ _)) ?c2 ?c3 ?c4 ?c5 ?_)
                  case c2 => simp [Value.oneCell']
                  case c3 => simp only [maxLen]; omega
                  case c4 => omega
                  case c5 => simp; omega
                  intro v' w11 hown3 hg3 _
                  obtain ⟨CA2, cc2, rfl⟩ := own_form hown3
                  have hoL := hco.alloc (.cells #[.string cn, .int .u8 cv, .bool ub] 180)
                  have hlow2 : Below B w10 w11 := (Below.alloc (Below.mono (Below.refl w10.heap.size w10) (Nat.le_of_lt hlt2)) (Nat.le_of_lt hlt2) _).grown hg3 (by simp; omega) (own_ge hco)
                  have HLN : Hid ((Cs ++ [(⟨cn, cv, ub⟩ : Co)]).length = q + 1) := by show _ = _; rw [List.length_append, HJ.out]; rfl
                  have hTB11 := (HTI10.out.tb.old (.cells #[.string cn, .int .u8 cv, .bool ub] 180)).grown hoL (by decide) hg3
                  have HTI11 : Hid (TI w w.heap.size sb rb B A c T s5 bd5 #[.string nm, .slice CA q cc, .int .i64 0, .int .i64 0, .int .i64 0] CA2 cc2 (Cs ++ [(⟨cn, cv, ub⟩ : Co)]) w11) := by
                    refine ⟨HTI10.out.gi.low hlow2, (HTI10.out.rd.old _).grown hoL (by decide) hg3, hTB11, ?_, q3, HTI10.out.rl⟩
                    rw [HLN.out]
                    unfold ccells
                    rw [List.flatMap_append]
                    exact hown3
                  have HCW2 : Hid (∀ c ∈ Cs ++ [(⟨cn, cv, ub⟩ : Co)], c.wf) := fun c hc => by
                    rcases List.mem_append.1 hc with h | h
                    · exact HCW.out c h
                    · obtain rfl : c = _ := by simpa using h
                      exact ⟨by simp only; omega, cv0, cv1⟩
                  have HTI12 := Lib.hid (HTI11.out.putT #[.string nm, .slice CA2 (q + 1) cc2, .int .i64 0, .int .i64 0, .int .i64 0])
                  clear hown3 hg3 hoL hlow2 HTI10 HTI11 HCB10 hco y0 y1 y2 z1 hlt1 hlt2 HCW
                  obtain ⟨w22, rfl, lt⟩ := blk_put hTB11
                  rw [put_put] at HTI12
                  obtain ⟨pc, pf, pS⟩ := putBlk_facts (w := w22) 116 lt
                  clear hTB11
                  go_wp2_with fail
                  go_roundw
                  case rel => exact ⟨q + 1, s5, bd5, Cs ++ [⟨cn, cv, ub⟩], CA2, cc2, by go_num, by omega, HLN.out, by omega, HTI12, HCW2, (by show GN _ _ _ _ _ _ _ _; rw [show n1 - ((q + 1 : Nat) : Int) = n1 - (q : Int) - 1 by omega]; exact HGN8.out)⟩
                  case measure => simp [intOf]; omega
                · go_wp2_with fail
                  go_meet
                  exact ⟨q, s, true, Cs, CA, cc, ⟨hqn, hCq, hsz⟩, HTI, HCW, HGN, Lib.hid (Or.inr rfl)⟩
              · go_wp2_with fail
                go_meet
                exact ⟨q, s, bd, Cs, CA, cc, ⟨hqn, hCq, hsz⟩, HTI, HCW, HGN, Lib.hid (Or.inl (by omega))⟩
          case rest =>
            clear HTI4 HGN4
            obtain ⟨q, s, bd, Cs, CA, cc, ⟨hqn, hCq, hsz⟩, HTI, HCW, HGN, HX⟩ := hcut
            rename World => wr
            go_wp2_with fail
            refine (HON.out s bd wr HTI.out.rd (by omega)).mono ?_
            rintro r w5 ⟨g1, s3, bd3, rfl, hrd, ga1, gb1, hz3, HF3⟩
            have hI5 := HTI.out.step hrd
            have HTI6 := Lib.hid (hI5.putT #[.string nm, .slice CA q cc, .int .i64 g1, .int .i64 0, .int .i64 0])
            have hTB5 := hI5.tb
            clear hrd HTI hI5
            obtain ⟨w20, rfl, lt⟩ := blk_put hTB5
            rw [put_put] at HTI6
            obtain ⟨pc, pf, pS⟩ := putBlk_facts (w := w20) 116 lt
            clear hTB5
            go_upto_region 17 with fail
            generalize putBlk w20 B #[.string nm, .slice CA q cc, .int .i64 g1, .int .i64 0, .int .i64 0] 116 = w6 at HTI6 ⊢
            clear pc pf pS lt
            go_wp2_with fail
            refine (HON.out s3 bd3 w6 HTI6.out.rd (by omega)).mono ?_
            rintro r w7 ⟨g2, s4, bd4, rfl, hrd, ga2, gb2, hz4, HF4⟩
            have hI7 := HTI6.out.step hrd
            have HTI8 := Lib.hid (hI7.putT #[.string nm, .slice CA q cc, .int .i64 g1, .int .i64 (g2 - 1), .int .i64 0])
            have hTB7 := hI7.tb
            clear hrd HTI6 hI7
            obtain ⟨w21, rfl, lt⟩ := blk_put hTB7
            rw [put_put] at HTI8
            obtain ⟨pc, pf, pS⟩ := putBlk_facts (w := w21) 116 lt
            clear hTB7
            go_upto_region 18 with fail
            generalize putBlk w21 B #[.string nm, .slice CA q cc, .int .i64 g1, .int .i64 (g2 - 1), .int .i64 0] 116 = w8 at HTI8 ⊢
            clear pc pf pS lt
            go_wp2_with fail
            refine (HON.out s4 bd4 w8 HTI8.out.rd (by omega)).mono ?_
            rintro r w9 ⟨g3, s5, bd5, rfl, hrd, ga3, gb3, hz5, HF5⟩
            have hI9 := HTI8.out.step hrd
            have HTI10 := Lib.hid (hI9.putT #[.string nm, .slice CA q cc, .int .i64 g1, .int .i64 (g2 - 1), .int .i64 (g3 - 1)])
            have hTB9 := hI9.tb
            have HGO7 := Lib.hid (go_leave_tab HGN.out HX.out HF3.out HF4.out HF5.out CA cc)
            clear hrd HTI8 hI9 HF3 HF4 HF5 HGN HX
            obtain ⟨w22, rfl, lt⟩ := blk_put hTB9
            rw [put_put] at HTI10
            obtain ⟨pc, pf, pS⟩ := putBlk_facts (w := w22) 116 lt
            clear hTB9
            go_upto_region 19 with fail
            generalize putBlk w22 B #[.string nm, .slice CA q cc, .int .i64 g1, .int .i64 (g2 - 1), .int .i64 (g3 - 1)] 116 = wt at HTI10 ⊢
            clear pc pf pS lt
            have hrl := HTI10.out.rl
            obtain ⟨hgi, hrd, htb, hco, _, _⟩ := HTI10.out
            have hsw : B ≤ wt.heap.size := HTI10.out.le
            obtain ⟨⟨o1, o2, o3, o4, o5, o6⟩, hr0, hsb, hTo, hTl, hTk, hbw⟩ := hgi
            obtain ⟨y0, y1, y2, y3, y4⟩ := blk5 htb
            have z0 := hsb.cell 0
            simp only [List.getElem?_toArray, List.getElem?_cons_zero] at z0
            have hltS := hsb.lt
            have hltB := htb.lt
            have HRD := Lib.hid hrd
            have HR0 := Lib.hid hr0
            have HSB := Lib.hid hsb
            have HTK := Lib.hid hTk
            have HCO := Lib.hid hco
            have hszw := hbw.size
            have HJ := Lib.hid hCq
            rw [hTp] at z0 hTo
            have HTP := Lib.hid hTp
            have hp255 : p ≤ 255 := by omega
            have hq255 : q ≤ 255 := by omega
            clear hr0 hsb hTk HTI10 hTl hrd htb hco hCq hTp o6
            go_wp2_with (at_builtin; refine wpList_append_own _ rfl _ _ 101 rfl w.heap.size 116 i2 _ 5 64 Tryd.underlying101 hi2 hy0 hy1 hy2 rfl (by decide) _ p _ rfl (hTo.alloc _) ⟨wt.heap.size, 0, none⟩ 1 1 [.string nm, .slice CA q cc, .int .i64 g1, .int .i64 (g2 - 1), .int .i64 (g3 - 1)] rfl rfl (cells_blk5 (Blk.new _ _ _)) ?c2 ?c3 ?c4 ?c5 ?_)
            case c2 => simp [Value.oneCell']
            case c3 => simp only [maxLen]; omega
            case c4 => omega
            case c5 => simp; omega
            intro v' wu hown3 hg3 _
            obtain ⟨A2, c2, rfl⟩ := own_form hown3
            have hoL := hTo.alloc (.cells #[.string nm, .slice CA q cc, .int .i64 g1, .int .i64 (g2 - 1), .int .i64 (g3 - 1)] 116)
            have hbw9 : Below w.heap.size w wu := (hbw.alloc hszw _).grown hg3 (by simp; omega) (own_ge hTo)
            have HR9 := Lib.hid ((HRD.out.old _).grown hoL (by decide) hg3)
            have HR09 := Lib.hid ((HR0.out.old _).grown hoL (by decide) hg3)
            have hSB9 := (HSB.out.old (.cells #[.string nm, .slice CA q cc, .int .i64 g1, .int .i64 (g2 - 1), .int .i64 (g3 - 1)] 116)).grown hoL (by decide) hg3
            have HCO9 := Lib.hid (own_grown (HCO.out.alloc (.cells #[.string nm, .slice CA q cc, .int .i64 g1, .int .i64 (g2 - 1), .int .i64 (g3 - 1)] 116)) hg3 (own_far (HCO.out.alloc _) hoL (by decide)))
            have hs89 : wt.heap.size ≤ wu.heap.size := by have := hg3.size; simp at this; omega
            have HTK9 : Hid (∀ t ∈ T, TOk wu.heap.size t wu) := fun t ht => by
              obtain ⟨p1, p2, p3, p4, base, p5⟩ := HTK.out t ht
              exact ⟨p1, p2, p3, fun g hg => by have := p4 g hg; omega, base, own_grown (p5.alloc _) hg3 (own_far (p5.alloc _) hoL (by decide))⟩
            have HTN9 : Hid (TOk wu.heap.size ⟨nm, Cs, g1, g2 - 1, g3 - 1, CA, cc⟩ wu) :=
              ⟨⟨by simp only; omega, by simp only; omega, by simp only; omega, by simp only; omega⟩, HCW.out, by simp only; rw [HJ.out]; omega, obl_own HCO9.out, B, HCO9.out⟩
            have HLN : Hid ((T ++ [(⟨nm, Cs, g1, g2 - 1, g3 - 1, CA, cc⟩ : Ta)]).length = p + 1) := by show _ = _; rw [List.length_append, HTP.out]; rfl
            have HTO9 : Hid (wu.ownsRow w.heap.size 116 5 (.slice A2 (p + 1) c2) (p + 1) (tcells (T ++ [(⟨nm, Cs, g1, g2 - 1, g3 - 1, CA, cc⟩ : Ta)]))) := by
              show World.ownsRow _ _ _ _ _ _ _
              unfold tcells
              rw [List.flatMap_append]
              simp only [List.flatMap_cons, List.flatMap_nil, List.append_nil, HJ.out]
              exact hown3
            have HOB9 := Lib.hid (obl_own HTO9.out)
            clear hown3 hg3 hoL HRD HR0 HSB HTK HCO HCO9 hTo hbw y0 y1 y2 y3 y4 z0 hltS hltB HCW hs89
            have HR10 := Lib.hid (putBlk_ne (t := 103) (cs := #[.slice A2 (p + 1) c2]) HR9.out (blk_ne HR9.out hSB9 (by decide)))
            have HGI10 : Hid (GI w w.heap.size sb (putBlk wu sb #[.slice A2 (p + 1) c2] 103).heap.size A2 c2 (T ++ [(⟨nm, Cs, g1, g2 - 1, g3 - 1, CA, cc⟩ : Ta)]) (putBlk wu sb #[.slice A2 (p + 1) c2] 103)) := by
              have hl := hSB9.lt
              have hl0 := HR09.out.lt
              refine ⟨⟨o1, o2, by rw [putBlk_size]; exact hl0, by rw [putBlk_size]; exact hl, o5, by rw [HLN.out]; omega⟩, putBlk_ne HR09.out o5, ?_, ?_, ?_, ?_, putBlk_below _ _ hbw9 o2⟩
              · rw [HLN.out]
                exact putBlk_blk _ _ hl
              · rw [HLN.out]
                exact own_below_put HTO9.out hSB9 (by decide) _
              · rw [HLN.out, putBlk_size]
                exact HOB9.out
              · rw [putBlk_size]
                intro t ht
                have key : ∀ u, TOk wu.heap.size u wu → TOk wu.heap.size u (putBlk wu sb #[.slice A2 (p + 1) c2] 103) := fun u hu => by
                  obtain ⟨p1, p2, p3, p4, base, p5⟩ := hu
                  exact ⟨p1, p2, p3, p4, base, own_below_put p5 hSB9 (by decide) _⟩
                rcases List.mem_append.1 ht with h | h
                · exact key t (HTK9.out t h)
                · obtain rfl : t = _ := by simpa using h
                  exact key _ HTN9.out
            clear HR9 HR09 HTK9 HTN9 HTO9 HOB9 hbw9
            obtain ⟨w23, rfl, lt⟩ := blk_put hSB9
            rw [put_put] at HR10 HGI10
            obtain ⟨pc, pf, pS⟩ := putBlk_facts (w := w23) 103 lt
            clear hSB9
            go_wp2_with fail
            go_roundw
            case rel => exact ⟨p + 1, s5, bd5, A2, c2, T ++ [⟨nm, Cs, g1, g2 - 1, g3 - 1, CA, cc⟩], by go_num, by omega, HLN.out, by omega, HR10, HGI10, (by show GO _ _ _ _ _; rw [show v - ((p + 1 : Nat) : Int) = v - (p : Int) - 1 by omega]; exact HGO7.out)⟩
            case measure => simp [intOf]; omega
        · go_wp2_with fail
          go_meet
          exact ⟨p, s, true, A, c, T, HRB, HGI, HGO, Lib.hid (Or.inr rfl)⟩
      · go_wp2_with fail
        go_meet
        exact ⟨p, s, bd, A, c, T, HRB, HGI, HGO, Lib.hid (Or.inl (by omega))⟩
  case rest =>
    clear HR1 HGI1 HGO1
    obtain ⟨p, s, bd, A, c, T, HRB, HGI, HGO, HX⟩ := hcut
    rename World => wr
    have HEND := Lib.hid (fun (s0 : List Ta) (hv : schB s0 = true) (hp : putS s0 = b.data.toList) => go_end HGO.out HX.out hv hp)
    have c0 := HRB.out.cell 0
    have c1 := HRB.out.cell 1
    simp only [List.getElem?_toArray, List.getElem?_cons_zero, List.getElem?_cons_succ] at c0 c1
    have hlr := HRB.out.lt
    clear HX HGO
    cases bd
    · by_cases hz : s.size = 0
      · obtain rfl := str_empty hz
        have h8 := (HGI.out.2.2.1).cell 0
        simp only [List.getElem?_toArray, List.getElem?_cons_zero] at h8
        have hl8 := (HGI.out.2.2.1).lt
        have HMY := Lib.hid (refmay_any T A c wr HGI.out.trow)
        cases hsT : schB T
        · rw [hsT] at HMY
          have HNO : Hid (∀ s0, schB s0 = true → putS s0 ≠ b.data.toList) := fun s0 hv hp => by
            have := schB_d (HEND.out s0 hv hp).2.1
            rw [hv, hsT] at this
            cases this
          clear HEND hsT hz
          go_wp2_with fail
          refine HMY.out.mono ?_
          rintro r w2 ⟨rfl, hb2⟩
          have HGI2 := Lib.hid (HGI.out.low hb2)
          clear HGI h8 hl8 HMY hb2 c0 c1 hlr HRB
          have HGI := HGI2
          clear HGI2
          go_upto_region 21 with fail
          have hGr := HGI.out.2.1
          have hGb := HGI.out.2.2.2.2.2.2
          clear HGI
          obtain ⟨w20, rfl, lt⟩ := blk_put hGr
          obtain ⟨pc, pf, pS⟩ := putBlk_facts (w := w20) 103 lt
          clear hGr
          go_wp2_with fail
          refine bodyPost_ret (v := .tuple #[.agg #[.slice none 0 0], .int .i64 7]) (by simp [results, Tryd.results80, go_sem, pc]) rfl ?_
          exact ⟨putBlk_belows hGb (by omega) _, Or.inr ⟨rfl, HNO.out⟩⟩
        · rw [hsT] at HMY
          have HST := Lib.hid hsT
          have HPT := Lib.hid (fun (W : World) (hW : Below wr.heap.size wr W) => refputsch_any T A c W (HGI.out.trow.ext hW) hsT)
          obtain ⟨PS, hPS⟩ : ∃ q : ByteArray, q = ⟨(putS T).toArray⟩ := ⟨_, rfl⟩
          rw [← hPS] at HPT
          have HPSL : Hid (PS.data.toList = putS T) := by show _ = _; rw [hPS]
          clear hPS hsT hz
          go_wp2_with fail
          refine HMY.out.mono ?_
          rintro r w2 ⟨rfl, hb2⟩
          have HGI2 := Lib.hid (HGI.out.low hb2)
          have HP2 := Lib.hid (HPT.out w2 hb2)
          have h82 := (HGI2.out.2.2.1).cell 0
          simp only [List.getElem?_toArray, List.getElem?_cons_zero] at h82
          have hl82 := (HGI2.out.2.2.1).lt
          clear HGI h8 hl8 HMY c0 c1 hlr HRB HPT
          go_wp2_with fail
          refine HP2.out.mono ?_
          rintro r w3 ⟨rfl, hb3⟩
          have HGI := Lib.hid (HGI2.out.low (hb3.mono hb2.size))
          clear HGI2 h82 hl82 HP2 hb2 hb3
          by_cases hpb : PS = b
          · subst hpb
            have HUN : Hid (∀ s0, schB s0 = true → putS s0 = PS.data.toList → s0.map Ta.d = T.map Ta.d) := fun s0 hv hp => (HEND.out s0 hv hp).2.1
            clear HEND
            go_upto_region 22 with fail
            have hGr := HGI.out.2.1
            have h8 := (HGI.out.2.2.1).cell 0
            simp only [List.getElem?_toArray, List.getElem?_cons_zero] at h8
            have hl8 := (HGI.out.2.2.1).lt
            have hne := HGI.out.1.2.2.2.2.1
            have HGB := Lib.hid (HGI.out.2.2.2.2.2.2)
            have HROW := Lib.hid (fun cs => HGI.out.trow_put hGr cs)
            have h8' : ∀ cs, (putBlk w3 w.heap.size cs 103).cell? ⟨sb, 0, none⟩ = some (.slice A T.length c) := fun cs => by
              have e : putBlk w3 w.heap.size #[.slice none 0 0] 103 = w3 := putBlk_self hGr
              have := putBlk_cell_ne (w := w3) (Ne.symm hne) #[.slice none 0 0] cs 103 0
              rw [this, e]
              exact h8
            clear h8 HGI
            obtain ⟨w20, rfl, lt⟩ := blk_put hGr
            obtain ⟨pc, pf, pS⟩ := putBlk_facts (w := w20) 103 lt
            have h9 := h8' #[.slice none 0 0]
            rw [put_put] at h9
            have HROW2 := Lib.hid (HROW.out #[.slice A T.length c])
            rw [put_put] at HROW2
            clear hGr h8' HROW
            go_wp2_with fail
            refine bodyPost_ret (v := .tuple #[.agg #[.slice A T.length c], .int .i64 0]) (by simp [results, Tryd.results80, go_sem, pc]) rfl ?_
            exact ⟨putBlk_belows HGB.out (by omega) _, Or.inl ⟨T, A, c, rfl, HROW2.out, HST.out, HPSL.out.symm, HUN.out⟩⟩
          · have HNO : Hid (∀ s0, schB s0 = true → putS s0 ≠ b.data.toList) := fun s0 hv hp => by
              apply hpb
              apply str_inj
              rw [HPSL.out, ← hp]
              exact (putS_d (HEND.out s0 hv hp).2.1).symm
            obtain ⟨n1, n2⟩ := str_neq hpb
            clear HEND hpb
            go_upto_region 21 with fail
            have hGr := HGI.out.2.1
            have hGb := HGI.out.2.2.2.2.2.2
            clear HGI
            obtain ⟨w20, rfl, lt⟩ := blk_put hGr
            obtain ⟨pc, pf, pS⟩ := putBlk_facts (w := w20) 103 lt
            clear hGr
            go_wp2_with fail
            refine bodyPost_ret (v := .tuple #[.agg #[.slice none 0 0], .int .i64 7]) (by simp [results, Tryd.results80, go_sem, pc]) rfl ?_
            exact ⟨putBlk_belows hGb (by omega) _, Or.inr ⟨rfl, HNO.out⟩⟩
      · obtain ⟨n1, n2⟩ := ne_empty hz
        have n3 : (!s.toList.isEmpty) = true := by rw [n1]; rfl
        have HNO : Hid (∀ s0, schB s0 = true → putS s0 ≠ b.data.toList) := fun s0 hv hp => n2 (HEND.out s0 hv hp).2.2
        clear HEND hz n2
        go_upto_region 21 with fail
        clear c0 c1 hlr HRB
        have hGr := HGI.out.2.1
        have hGb := HGI.out.2.2.2.2.2.2
        clear HGI
        obtain ⟨w20, rfl, lt⟩ := blk_put hGr
        obtain ⟨pc, pf, pS⟩ := putBlk_facts (w := w20) 103 lt
        clear hGr
        go_wp2_with fail
        refine bodyPost_ret (v := .tuple #[.agg #[.slice none 0 0], .int .i64 7]) (by simp [results, Tryd.results80, go_sem, pc]) rfl ?_
        exact ⟨putBlk_belows hGb (by omega) _, Or.inr ⟨rfl, HNO.out⟩⟩
    · have HNO : Hid (∀ s0, schB s0 = true → putS s0 ≠ b.data.toList) := fun s0 hv hp => by
        have := (HEND.out s0 hv hp).1
        cases this
      clear HEND
      go_upto_region 21 with fail
      clear c0 c1 hlr HRB
      have hGr := HGI.out.2.1
      have hGb := HGI.out.2.2.2.2.2.2
      clear HGI
      obtain ⟨w20, rfl, lt⟩ := blk_put hGr
      obtain ⟨pc, pf, pS⟩ := putBlk_facts (w := w20) 103 lt
      clear hGr
      go_wp2_with fail
      refine bodyPost_ret (v := .tuple #[.agg #[.slice none 0 0], .int .i64 7]) (by simp [results, Tryd.results80, go_sem, pc]) rfl ?_
      exact ⟨putBlk_belows hGb (by omega) _, Or.inr ⟨rfl, HNO.out⟩⟩
end Go.Proofs.YtjdfodmialhakaaDoor

/- SchemaCodes' walk: which bytes any schema has, and which schema any bytes are. -/
namespace Go.Proofs.YtjdfodmialhakaaDoor
open Go.RowKit

theorem TRow.nil (w : World) : TRow w none 0 [] := ⟨(fun _ h => by cases h), by simp, by simp, fun h => absurd rfl h⟩
set_option maxRecDepth 100000 in
set_option maxHeartbeats 2000000 in
theorem schcodes_walk (ts : List Ta) (A : Option Addr) (c : Nat) (s : ByteArray) (w : World) (hT : Tabs w) (ht : TRow w A c ts) (hz : s.size ≤ 140737488355328) :
    Calls Tryd.prog 13 #[.agg #[.slice A ts.length c], .string s] w fun r w' => r = .returned (.bool true) ∧ Below w.heap.size w w' := by
  have hlen := ht.2.1
  have HLG := Lib.hid (fun (W : World) (hW : Below w.heap.size w W) => large13_le ts A c W (ht.ext hW))
  have HAL := Lib.hid (fun (W : World) (hW : Below w.heap.size w W) => alive13_any W (hT.ext hW))
  have HCP := Lib.hid (fun (W : World) (hW : Below w.heap.size w W) (hs : smallS ts) => copy13_any ts A c W (ht.ext hW) hs)
  have HPT := Lib.hid (fun (us : List Ta) (B : Option Addr) (d : Nat) (W : World) (hW : Below w.heap.size w W) (hu : TRow W B d us) => putsch_any us B d W (hT.ext hW) hu)
  have HMY := Lib.hid (fun (W : World) (hW : Below w.heap.size w W) => refmay_any ts A c W (ht.ext hW))
  have HRP := Lib.hid (fun (W : World) (hW : Below w.heap.size w W) (hs : schB ts = true) => refputsch_any ts A c W (ht.ext hW) hs)
  have HGT := Lib.hid (fun (b : ByteArray) (W : World) (hW : Below w.heap.size w W) (hb : b.size ≤ 140737488355328) => getsch_any b W (hT.ext hW) hb)
  have HRG := Lib.hid (fun (b : ByteArray) (W : World) (hW : Below w.heap.size w W) (hb : b.size ≤ 140737488355328) => refgetsch_any b W (hT.ext hW) hb)
  have HSM := Lib.hid (fun (us vs : List Ta) (B D : Option Addr) (d e : Nat) (W : World) (hu : TRow W B d us) (hv : TRow W D e vs) => sameS_any us vs B D d e W hu hv)
  clear ht hT
  go_enter Tryd.func13, Tryd.ntmps13
  have h0 : Blk (w.alloc (.cells #[.slice A ts.length c] 103)) w.heap.size #[.slice A ts.length c] 103 := Blk.new w #[.slice A ts.length c] 103
  have hC : Below w.heap.size w (w.alloc (.cells #[.slice A ts.length c] 103)) := (by repeat (first | exact Below.refl _ _ | assumption | refine Below.drew ?_ | refine below_drewN ?_ _ | refine Below.alloc ?_ (by simp <;> omega) _))
  have HA := Lib.hid h0
  have HC := Lib.hid hC
  clear h0 hC
  go_upto_region 1 with fail
  generalize w.alloc (.cells #[.slice A ts.length c] 103) = W0 at HA HC ⊢
  have s0 := HA.out.cell 0
  simp only [List.getElem?_toArray, List.getElem?_cons_zero] at s0
  have hl0 := HA.out.lt
  go_wp2_with fail
  refine (HLG.out _ HC.out).mono ?_
  rintro r w1 ⟨⟨v, rfl, hv⟩, hb⟩
  have HA := Lib.hid (HA.out.ext hb)
  have HC := Lib.hid (bt HC.out hb)
  have HV := Lib.hid hv
  clear s0 hl0 hb HLG hv
  by_cases hbig : v = true ∨ 16384 < s.size
  · rcases hbig with rfl | hbig
    · go_wp2_with fail
      refine (HAL.out _ HC.out).mono ?_
      rintro r w2 ⟨rfl, hb⟩
      have HC := Lib.hid (bt HC.out hb)
      clear hb
      go_wp2_with fail
      go_ret
      exact ⟨rfl, HC.out⟩
    · cases v
      all_goals
        go_wp2_with fail
        refine (HAL.out _ HC.out).mono ?_
        rintro r w2 ⟨rfl, hb⟩
        have HC := Lib.hid (bt HC.out hb)
        clear hb
        go_wp2_with fail
        go_ret
        exact ⟨rfl, HC.out⟩
  · obtain ⟨hv, hs16⟩ : v = false ∧ s.size ≤ 16384 := by
      simp only [not_or, Bool.not_eq_true] at hbig
      exact ⟨hbig.1, by omega⟩
    subst hv
    have HSMALL := Lib.hid (HV.out rfl)
    clear HV hbig
    have s0 := HA.out.cell 0
    simp only [List.getElem?_toArray, List.getElem?_cons_zero] at s0
    have hl0 := HA.out.lt
    go_wp2_with fail
    refine (HCP.out _ HC.out HSMALL.out).mono ?_
    rintro r w2 ⟨hb, us, B, d, rfl, hur, hud⟩
    have HA := Lib.hid (HA.out.ext hb)
    have HC := Lib.hid (bt HC.out hb)
    have hS : schB us = schB ts := schB_d hud
    have hP : putS us = putS ts := putS_d hud
    have HPU := Lib.hid (HPT.out us B d w2 HC.out hur)
    unfold putSR at HPU
    rw [hS, hP] at HPU
    clear s0 hl0 hb hur hud hS hP HCP HSMALL HPT
    cases hs : schB ts
    · rw [hs, okE_f' rfl, if_neg (by decide)] at HPU
      rw [hs] at HMY
      clear hs HRP
      go_wp2_with fail
      refine HPU.out.mono ?_
      rintro r w3 ⟨rfl, hb⟩
      have HA := Lib.hid (HA.out.ext hb)
      have HC := Lib.hid (bt HC.out hb)
      have s0 := HA.out.cell 0
      simp only [List.getElem?_toArray, List.getElem?_cons_zero] at s0
      have hl0 := HA.out.lt
      clear hb HPU
      go_wp2_with fail
      refine (HMY.out _ HC.out).mono ?_
      rintro r w4 ⟨rfl, hb⟩
      have HA := Lib.hid (HA.out.ext hb)
      have HC := Lib.hid (bt HC.out hb)
      clear hb s0 hl0
      have s0 := HA.out.cell 0
      simp only [List.getElem?_toArray, List.getElem?_cons_zero] at s0
      have hl0 := HA.out.lt
      go_wp2_with fail
      refine (HMY.out _ HC.out).mono ?_
      rintro r w5 ⟨rfl, hb⟩
      have HC := Lib.hid (bt HC.out hb)
      clear hb s0 hl0 HA HMY
      go_wp2_with fail
      refine (HGT.out s _ HC.out hz).mono ?_
      rintro r w7 ⟨hb, h⟩
      rcases h with ⟨T, B, d, rfl, htr, hsT, hpT, huq⟩ | ⟨rfl, hno⟩
      · have HC1 : Hid (Below w.heap.size w (w7.alloc (.cells #[.slice B T.length d] 103))) := bt (bt HC.out hb) (by repeat (first | exact Below.refl _ _ | assumption | refine Below.drew ?_ | refine below_drewN ?_ _ | refine Below.alloc ?_ (by simp <;> omega) _))
        have HB1 := Lib.hid (Blk.new w7 #[.slice B T.length d] 103)
        have HT1 := Lib.hid (htr.ext (show Below w7.heap.size w7 (w7.alloc (.cells #[.slice B T.length d] 103)) from (by repeat (first | exact Below.refl _ _ | assumption | refine Below.drew ?_ | refine below_drewN ?_ _ | refine Below.alloc ?_ (by simp <;> omega) _))))
        have HST := Lib.hid hsT
        have HPT := Lib.hid hpT
        clear hb htr hsT hpT huq HC
        go_upto_region 7 with fail
        generalize w7.alloc (.cells #[.slice B T.length d] 103) = w8 at HC1 HB1 HT1 ⊢
        generalize w7.heap.size = B7 at HB1 ⊢
        go_wp2_with fail
        refine (HRG.out s _ HC1.out hz).mono ?_
        rintro r w9 ⟨hb, h⟩
        rcases h with ⟨U, D, e, rfl, htu, hsU, hpU, huq⟩ | ⟨rfl, hno⟩
        · have HC2 : Hid (Below w.heap.size w (w9.alloc (.cells #[.slice D U.length e] 103))) := bt (bt HC1.out hb) (by repeat (first | exact Below.refl _ _ | assumption | refine Below.drew ?_ | refine below_drewN ?_ _ | refine Below.alloc ?_ (by simp <;> omega) _))
          have HB2 := Lib.hid (Blk.new w9 #[.slice D U.length e] 103)
          have HB1 := Lib.hid ((HB1.out.ext hb).old (.cells #[.slice D U.length e] 103))
          have HSS := Lib.hid (HSM.out T U B D d e (w9.alloc (.cells #[.slice D U.length e] 103)) ((HT1.out.ext hb).ext (by repeat (first | exact Below.refl _ _ | assumption | refine Below.drew ?_ | refine below_drewN ?_ _ | refine Below.alloc ?_ (by simp <;> omega) _))) (htu.ext (by repeat (first | exact Below.refl _ _ | assumption | refine Below.drew ?_ | refine below_drewN ?_ _ | refine Below.alloc ?_ (by simp <;> omega) _))))
          rw [sameS_t (huq T HST.out HPT.out)] at HSS
          clear hb htu hsU hpU huq HC1 HT1 HST HPT
          go_upto_region 8 with fail
          generalize w9.alloc (.cells #[.slice D U.length e] 103) = w10 at HC2 HB1 HB2 HSS ⊢
          generalize w9.heap.size = B9 at HB2 ⊢
          have s0 := HB1.out.cell 0
          have s1 := HB2.out.cell 0
          simp only [List.getElem?_toArray, List.getElem?_cons_zero] at s0 s1
          have hl0 := HB1.out.lt
          have hl1 := HB2.out.lt
          go_wp2_with fail
          refine HSS.out.mono ?_
          rintro r w11 ⟨rfl, hb⟩
          have HC := Lib.hid (bt HC2.out hb)
          clear hb HB1 HB2 HC2 HSS s0 s1 hl0 hl1
          go_wp2_with fail
          refine (HAL.out _ HC.out).mono ?_
          rintro r w12 ⟨rfl, hb⟩
          have HC := Lib.hid (bt HC.out hb)
          clear hb
          go_wp2_with fail
          go_ret
          exact ⟨rfl, HC.out⟩
        · exact absurd HPT.out (hno T HST.out)
      · have HC1 : Hid (Below w.heap.size w (w7.alloc (.cells #[.slice none 0 0] 103))) := bt (bt HC.out hb) (by repeat (first | exact Below.refl _ _ | assumption | refine Below.drew ?_ | refine below_drewN ?_ _ | refine Below.alloc ?_ (by simp <;> omega) _))
        have HB1 := Lib.hid (Blk.new w7 #[.slice none 0 0] 103)
        have HNO := Lib.hid hno
        clear hb hno HC
        go_upto_region 7 with fail
        generalize w7.alloc (.cells #[.slice none 0 0] 103) = w8 at HC1 HB1 ⊢
        generalize w7.heap.size = B7 at HB1 ⊢
        go_wp2_with fail
        refine (HRG.out s _ HC1.out hz).mono ?_
        rintro r w9 ⟨hb, h⟩
        rcases h with ⟨U, D, e, rfl, htu, hsU, hpU, huq⟩ | ⟨rfl, hno⟩
        · exact absurd hpU (HNO.out U hsU)
        · have HC2 : Hid (Below w.heap.size w (w9.alloc (.cells #[.slice none 0 0] 103))) := bt (bt HC1.out hb) (by repeat (first | exact Below.refl _ _ | assumption | refine Below.drew ?_ | refine below_drewN ?_ _ | refine Below.alloc ?_ (by simp <;> omega) _))
          have HB2 := Lib.hid (Blk.new w9 #[.slice none 0 0] 103)
          have HB1 := Lib.hid ((HB1.out.ext hb).old (.cells #[.slice none 0 0] 103))
          have HSS : Hid (Calls Tryd.prog 81 #[.agg #[.slice none 0 0], .agg #[.slice none 0 0]] (w9.alloc (.cells #[.slice none 0 0] 103)) fun r w' => r = .returned (.bool (sameS [] [])) ∧ Below (w9.alloc (.cells #[.slice none 0 0] 103)).heap.size (w9.alloc (.cells #[.slice none 0 0] 103)) w') :=
            HSM.out [] [] none none 0 0 (w9.alloc (.cells #[.slice none 0 0] 103)) (TRow.nil _) (TRow.nil _)
          rw [sameS_t rfl] at HSS
          clear hb hno HC1 HNO
          go_upto_region 8 with fail
          generalize w9.alloc (.cells #[.slice none 0 0] 103) = w10 at HC2 HB1 HB2 HSS ⊢
          generalize w9.heap.size = B9 at HB2 ⊢
          have s0 := HB1.out.cell 0
          have s1 := HB2.out.cell 0
          simp only [List.getElem?_toArray, List.getElem?_cons_zero] at s0 s1
          have hl0 := HB1.out.lt
          have hl1 := HB2.out.lt
          go_wp2_with fail
          refine HSS.out.mono ?_
          rintro r w11 ⟨rfl, hb⟩
          have HC := Lib.hid (bt HC2.out hb)
          clear hb HB1 HB2 HC2 HSS s0 s1 hl0 hl1
          go_wp2_with fail
          refine (HAL.out _ HC.out).mono ?_
          rintro r w12 ⟨rfl, hb⟩
          have HC := Lib.hid (bt HC.out hb)
          clear hb
          go_wp2_with fail
          go_ret
          exact ⟨rfl, HC.out⟩
    · rw [hs, okE_t' rfl, if_pos rfl] at HPU
      rw [hs] at HMY
      have HRP := Lib.hid (fun (W : World) (hW : Below w.heap.size w W) => HRP.out W hW hs)
      obtain ⟨PS, hPS⟩ : ∃ q : ByteArray, q = ⟨(putS ts).toArray⟩ := ⟨_, rfl⟩
      rw [← hPS] at HPU HRP
      clear hs hPS
      go_wp2_with fail
      refine HPU.out.mono ?_
      rintro r w3 ⟨rfl, hb⟩
      have HA := Lib.hid (HA.out.ext hb)
      have HC := Lib.hid (bt HC.out hb)
      have s0 := HA.out.cell 0
      simp only [List.getElem?_toArray, List.getElem?_cons_zero] at s0
      have hl0 := HA.out.lt
      clear hb HPU
      go_wp2_with fail
      refine (HMY.out _ HC.out).mono ?_
      rintro r w4 ⟨rfl, hb⟩
      have HA := Lib.hid (HA.out.ext hb)
      have HC := Lib.hid (bt HC.out hb)
      clear hb s0 hl0
      have s0 := HA.out.cell 0
      simp only [List.getElem?_toArray, List.getElem?_cons_zero] at s0
      have hl0 := HA.out.lt
      go_wp2_with fail
      refine (HRP.out _ HC.out).mono ?_
      rintro r w5 ⟨rfl, hb⟩
      have HA := Lib.hid (HA.out.ext hb)
      have HC := Lib.hid (bt HC.out hb)
      clear hb s0 hl0
      have s0 := HA.out.cell 0
      simp only [List.getElem?_toArray, List.getElem?_cons_zero] at s0
      have hl0 := HA.out.lt
      go_wp2_with fail
      refine (HMY.out _ HC.out).mono ?_
      rintro r w6 ⟨rfl, hb⟩
      have HC := Lib.hid (bt HC.out hb)
      clear hb s0 hl0 HA HMY HRP
      go_wp2_with fail
      refine (HGT.out s _ HC.out hz).mono ?_
      rintro r w7 ⟨hb, h⟩
      rcases h with ⟨T, B, d, rfl, htr, hsT, hpT, huq⟩ | ⟨rfl, hno⟩
      · have HC1 : Hid (Below w.heap.size w (w7.alloc (.cells #[.slice B T.length d] 103))) := bt (bt HC.out hb) (by repeat (first | exact Below.refl _ _ | assumption | refine Below.drew ?_ | refine below_drewN ?_ _ | refine Below.alloc ?_ (by simp <;> omega) _))
        have HB1 := Lib.hid (Blk.new w7 #[.slice B T.length d] 103)
        have HT1 := Lib.hid (htr.ext (show Below w7.heap.size w7 (w7.alloc (.cells #[.slice B T.length d] 103)) from (by repeat (first | exact Below.refl _ _ | assumption | refine Below.drew ?_ | refine below_drewN ?_ _ | refine Below.alloc ?_ (by simp <;> omega) _))))
        have HST := Lib.hid hsT
        have HPT := Lib.hid hpT
        clear hb htr hsT hpT huq HC
        go_upto_region 7 with fail
        generalize w7.alloc (.cells #[.slice B T.length d] 103) = w8 at HC1 HB1 HT1 ⊢
        generalize w7.heap.size = B7 at HB1 ⊢
        go_wp2_with fail
        refine (HRG.out s _ HC1.out hz).mono ?_
        rintro r w9 ⟨hb, h⟩
        rcases h with ⟨U, D, e, rfl, htu, hsU, hpU, huq⟩ | ⟨rfl, hno⟩
        · have HC2 : Hid (Below w.heap.size w (w9.alloc (.cells #[.slice D U.length e] 103))) := bt (bt HC1.out hb) (by repeat (first | exact Below.refl _ _ | assumption | refine Below.drew ?_ | refine below_drewN ?_ _ | refine Below.alloc ?_ (by simp <;> omega) _))
          have HB2 := Lib.hid (Blk.new w9 #[.slice D U.length e] 103)
          have HB1 := Lib.hid ((HB1.out.ext hb).old (.cells #[.slice D U.length e] 103))
          have HSS := Lib.hid (HSM.out T U B D d e (w9.alloc (.cells #[.slice D U.length e] 103)) ((HT1.out.ext hb).ext (by repeat (first | exact Below.refl _ _ | assumption | refine Below.drew ?_ | refine below_drewN ?_ _ | refine Below.alloc ?_ (by simp <;> omega) _))) (htu.ext (by repeat (first | exact Below.refl _ _ | assumption | refine Below.drew ?_ | refine below_drewN ?_ _ | refine Below.alloc ?_ (by simp <;> omega) _))))
          rw [sameS_t (huq T HST.out HPT.out)] at HSS
          clear hb htu hsU hpU huq HC1 HT1 HST HPT
          go_upto_region 8 with fail
          generalize w9.alloc (.cells #[.slice D U.length e] 103) = w10 at HC2 HB1 HB2 HSS ⊢
          generalize w9.heap.size = B9 at HB2 ⊢
          have s0 := HB1.out.cell 0
          have s1 := HB2.out.cell 0
          simp only [List.getElem?_toArray, List.getElem?_cons_zero] at s0 s1
          have hl0 := HB1.out.lt
          have hl1 := HB2.out.lt
          go_wp2_with fail
          refine HSS.out.mono ?_
          rintro r w11 ⟨rfl, hb⟩
          have HC := Lib.hid (bt HC2.out hb)
          clear hb HB1 HB2 HC2 HSS s0 s1 hl0 hl1
          go_wp2_with fail
          refine (HAL.out _ HC.out).mono ?_
          rintro r w12 ⟨rfl, hb⟩
          have HC := Lib.hid (bt HC.out hb)
          clear hb
          go_wp2_with fail
          go_ret
          exact ⟨rfl, HC.out⟩
        · exact absurd HPT.out (hno T HST.out)
      · have HC1 : Hid (Below w.heap.size w (w7.alloc (.cells #[.slice none 0 0] 103))) := bt (bt HC.out hb) (by repeat (first | exact Below.refl _ _ | assumption | refine Below.drew ?_ | refine below_drewN ?_ _ | refine Below.alloc ?_ (by simp <;> omega) _))
        have HB1 := Lib.hid (Blk.new w7 #[.slice none 0 0] 103)
        have HNO := Lib.hid hno
        clear hb hno HC
        go_upto_region 7 with fail
        generalize w7.alloc (.cells #[.slice none 0 0] 103) = w8 at HC1 HB1 ⊢
        generalize w7.heap.size = B7 at HB1 ⊢
        go_wp2_with fail
        refine (HRG.out s _ HC1.out hz).mono ?_
        rintro r w9 ⟨hb, h⟩
        rcases h with ⟨U, D, e, rfl, htu, hsU, hpU, huq⟩ | ⟨rfl, hno⟩
        · exact absurd hpU (HNO.out U hsU)
        · have HC2 : Hid (Below w.heap.size w (w9.alloc (.cells #[.slice none 0 0] 103))) := bt (bt HC1.out hb) (by repeat (first | exact Below.refl _ _ | assumption | refine Below.drew ?_ | refine below_drewN ?_ _ | refine Below.alloc ?_ (by simp <;> omega) _))
          have HB2 := Lib.hid (Blk.new w9 #[.slice none 0 0] 103)
          have HB1 := Lib.hid ((HB1.out.ext hb).old (.cells #[.slice none 0 0] 103))
          have HSS : Hid (Calls Tryd.prog 81 #[.agg #[.slice none 0 0], .agg #[.slice none 0 0]] (w9.alloc (.cells #[.slice none 0 0] 103)) fun r w' => r = .returned (.bool (sameS [] [])) ∧ Below (w9.alloc (.cells #[.slice none 0 0] 103)).heap.size (w9.alloc (.cells #[.slice none 0 0] 103)) w') :=
            HSM.out [] [] none none 0 0 (w9.alloc (.cells #[.slice none 0 0] 103)) (TRow.nil _) (TRow.nil _)
          rw [sameS_t rfl] at HSS
          clear hb hno HC1 HNO
          go_upto_region 8 with fail
          generalize w9.alloc (.cells #[.slice none 0 0] 103) = w10 at HC2 HB1 HB2 HSS ⊢
          generalize w9.heap.size = B9 at HB2 ⊢
          have s0 := HB1.out.cell 0
          have s1 := HB2.out.cell 0
          simp only [List.getElem?_toArray, List.getElem?_cons_zero] at s0 s1
          have hl0 := HB1.out.lt
          have hl1 := HB2.out.lt
          go_wp2_with fail
          refine HSS.out.mono ?_
          rintro r w11 ⟨rfl, hb⟩
          have HC := Lib.hid (bt HC2.out hb)
          clear hb HB1 HB2 HC2 HSS s0 s1 hl0 hl1
          go_wp2_with fail
          refine (HAL.out _ HC.out).mono ?_
          rintro r w12 ⟨rfl, hb⟩
          have HC := Lib.hid (bt HC.out hb)
          clear hb
          go_wp2_with fail
          go_ret
          exact ⟨rfl, HC.out⟩
end Go.Proofs.YtjdfodmialhakaaDoor
