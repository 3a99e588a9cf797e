/- Several texts in one: see each part's head. -/
import Derived.Test.YtgklopgeimjgiaaGreatDoorJ27
/- VerifySees: the reference's state in memory (RefR); New, key, may. -/
namespace Go.Proofs.YtgklopgeimjgiaaGreatDoor
open Go.RowKit

/-- A row of the reference's state: where its values lie. -/
structure It where
  x : Rw
  A : Option Addr
  c : Nat
def itC (i : It) : List Value := [.int .i64 i.x.1, .slice i.A i.x.2.length i.c]
def itcells (l : List It) : List Value := l.flatMap itC
structure RefR (us : List Ta) (x : Nat) (A : Option Addr) (c : Nat) (G : Option Addr) (gc : Nat) (tn : Int) (its : List It) (lo : Nat) (w : World) : Prop where
  b : Blk w x #[.slice A us.length c, .slice G its.length gc, .int .u64 tn] 95
  s : OwS w A c us
  g : w.ownsRow lo 109 2 (.slice G its.length gc) its.length (itcells its)
  lx : lo ≤ x
  e : ∀ i ∈ its, RowO w i.A i.c i.x.2
  i : StI us (its.map It.x)
  h : schB us = true
variable {us : List Ta} {x : Nat} {A G : Option Addr} {c gc : Nat} {tn : Int} {its : List It} {lo : Nat} {w w' : World}
theorem RefR.chg {S : List Nat} (h : RefR us x A c G gc tn its lo w) (k : Chg S w w') (hx : x ∉ S) (hg : ∀ a, G = some a → a.block ∉ S) (ho : Oth w S) : RefR us x A c G gc tn its lo w' := by
  have h1 := h.g
  exact ⟨h.b.chg k hx, h.s.chg k ho, own_chg h1 k (fun i hi => by cases G with
    | none => simp [Value.ownBlock]
    | some a => simp only [Value.ownBlock, ne_eq, Option.some.injEq]; exact fun e => hg a rfl (e ▸ hi)), h.lx, fun i hi => (h.e i hi).chg k ho, h.i, h.h⟩
theorem RefR.ext (h : RefR us x A c G gc tn its lo w) (hb : Below w.heap.size w w') : RefR us x A c G gc tn its lo w' := h.chg (Chg.of_below (S := []) hb) (by simp) (by simp) (oth_nil w)
theorem itcells_at (l : List It) (k q : Nat) (i : It) (hk : l[k]? = some i) (hq : q < 2) : (itcells l)[k * 2 + q]? = (itC i)[q]? := flat_get itC 2 (fun _ => rfl) l k q i hk hq
theorem itcells_len (l : List It) : (itcells l).length = l.length * 2 := flat_length itC 2 (fun _ => rfl) l
/-- A row's cells. -/
theorem RefR.at_ (h : RefR us x A c G gc tn its lo w) {k : Nat} {i : It} (hk : its[k]? = some i) : ∃ g, G = some ⟨g, 0, none⟩ ∧ g < w.heap.size ∧ w.cell? ⟨g, k * 2, none⟩ = some (.int .i64 i.x.1) ∧ w.cell? ⟨g, k * 2 + 1, none⟩ = some (.slice i.A i.x.2.length i.c) := by
  have h1 := h.g
  have hlt := (List.getElem?_eq_some_iff.1 hk).1
  obtain ⟨g, cap, hv, _, hg⟩ := h1.form (by omega)
  simp only [Value.slice.injEq, true_and] at hv
  obtain ⟨rfl, rfl⟩ := hv
  have hc := h1.cells (g := g) rfl
  have key : ∀ q v, q < 2 → (itC i)[q]? = some v → w.cell? ⟨g, k * 2 + q, none⟩ = some v := by
    intro q v hq hv
    have := hc (k * 2 + q) v (by rw [itcells_at its k q i hk hq]; exact hv)
    rw [show (⟨g, 0, none⟩ : Addr).add (k * 2 + q) = ⟨g, k * 2 + q, none⟩ by
      unfold Addr.add; split
      · next h0 => rw [h0]
      · simp] at this
    exact this
  exact ⟨g, rfl, hg, key 0 _ (by omega) rfl, key 1 _ (by omega) rfl⟩
def RNewP (ts : List Ta) (w : World) (q : Ending) (w' : World) : Prop :=
  Below w.heap.size w w' ∧ ∃ us x A c, q = .returned (.pointer (some ⟨x, 0, none⟩)) ∧ RefR us x A c none 0 0 [] w.heap.size w' ∧ us.map Ta.d = ts.map Ta.d
set_option maxRecDepth 100000 in
theorem refnew_any (ts : List Ta) (A : Option Addr) (c : Nat) (w : World) (ht : TRow w A c ts) (hs : schB ts = true) :
    Calls Tryz.prog 23 #[.agg #[.slice A ts.length c]] w (RNewP ts w) := by
  have hsm : smallS ts := ⟨by have := schN hs; omega, fun t ht => by
    obtain ⟨j, hj, rfl⟩ := List.getElem_of_mem ht
    have := schT hs (List.getElem?_eq_getElem hj)
    omega⟩
  have HCP := Lib.hid (fun (W : World) (hW : Below w.heap.size w W) => copy13_own ts A c W (ht.ext hW) hsm)
  have HS := Lib.hid hs
  clear hs ht hsm
  go_enter Tryz.func23, Tryz.ntmps23
  have h1 : Blk (w.alloc (.cells #[.slice A ts.length c] 24)) w.heap.size #[.slice A ts.length c] 24 := Blk.new w _ _
  have hC : Below w.heap.size w (w.alloc (.cells #[.slice A ts.length c] 24)) := (by repeat (first | exact Below.refl _ _ | assumption | refine Below.drew ?_ | refine below_drewN ?_ _ | refine Below.alloc ?_ (by simp <;> omega) _))
  have HC := Lib.hid hC
  have s0 := h1.cell 0
  have l1 := h1.lt
  simp only [List.getElem?_toArray, List.getElem?_cons_zero] at s0
  clear h1 hC
  go_upto_region 1 with fail
  generalize w.alloc (.cells #[.slice A ts.length c] 24) = W0 at HC s0 l1 ⊢
  go_wp2_with fail
  refine (HCP.out _ HC.out).mono ?_
  rintro q w1 ⟨hb, us, A', c', rfl, htr, hd, hot⟩
  have HC1 := Lib.hid (bt HC.out hb)
  have hsu : schB us = true := by rw [schB_d hd]; exact HS.out
  have hos : OwS w1 A' c' us := ⟨by have := schN hsu; omega, hot.1, fun t ht => by
    obtain ⟨a1, a2, a3⟩ := hot.2 t ht
    obtain ⟨j, hj, rfl⟩ := List.getElem_of_mem ht
    have := schT hsu (List.getElem?_eq_getElem hj)
    exact ⟨a1, a2, by omega, a3⟩⟩
  have hb4 : Below w1.heap.size w1 (w1.alloc (.cells #[.slice A' us.length c', .slice none 0 0, .int .u64 0] 95)) := (by repeat (first | exact Below.refl _ _ | assumption | refine Below.drew ?_ | refine below_drewN ?_ _ | refine Below.alloc ?_ (by simp <;> omega) _))
  have HF : Hid (RNewP ts w (.returned (.pointer (some ⟨w1.heap.size, 0, none⟩))) (w1.alloc (.cells #[.slice A' us.length c', .slice none 0 0, .int .u64 0] 95))) :=
    ⟨bt HC1.out hb4, us, w1.heap.size, A', c', rfl, ⟨Blk.new _ _ _, hos.ext hb4, World.ownsRow_nil _ _ _ _, HC1.out.size, by simp, StI.nil us, hsu⟩, hd⟩
  clear hb htr hd hot hos hsu hb4 s0 l1 HCP
  go_wp2_with fail
  go_ret
  exact HF.out
/-- A row that fits: its table, its key. -/
theorem rowS_key {us : List Ta} {t : Nat} {row : List V} (h : rowS us t row = true) : ∃ (u : Ta) (kj : Nat) (v : V), us[t]? = some u ∧ t < us.length ∧ u.key = kj ∧ kj < row.length ∧ row[kj]? = some v ∧ keyN us t row = v := by
  have h' := h
  unfold rowS at h'
  rw [Bool.and_eq_true] at h'
  obtain ⟨j, u, e, hj, hju, hcb, _⟩ := has_at h'.1
  obtain rfl : t = j := by omega
  have hrf := h'.2
  rw [Int.toNat_natCast, hju] at hrf
  simp only at hrf
  unfold rowF at hrf
  rw [Bool.and_eq_true, decide_eq_true_eq] at hrf
  obtain ⟨_, _, _, ⟨k0, k1⟩, _⟩ := cols_parts hcb
  have hkl : u.key.toNat < row.length := by have := hrf.1; omega
  refine ⟨u, u.key.toNat, row[u.key.toNat], hju, hj, by omega, hkl, List.getElem?_eq_getElem hkl, ?_⟩
  unfold keyN
  rw [hju]
  simp only
  rw [List.getD_eq_getElem?_getD, List.getElem?_eq_getElem hkl]
  rfl
set_option maxRecDepth 100000 in
set_option maxHeartbeats 1600000 in
theorem refkey_any (h : RefR us x A c G gc tn its lo w) (t : Nat) (B : Option Addr) (rc : Nat) (row : List V) (hv : VRow w B row) (hf : rowS us t row = true) :
    Calls Tryz.prog 73 #[.pointer (some ⟨x, 0, none⟩), .agg #[.int .i64 t, .slice B row.length rc]] w fun q w' => q = .returned (keyN us t row).agg ∧ Below w.heap.size w w' := by
  obtain ⟨u, kj, v, hju, hj, hkj, hkl, hvk, hkey⟩ := rowS_key hf
  rw [hkey]
  obtain ⟨bb, off, v', rfl, hbb, hvk', _, _, d0, d1, d2, d3⟩ := hv.at_ hkl
  rw [hvk, Option.some.injEq] at hvk'
  subst hvk'
  obtain ⟨ab, ao, u', rfl, hab, hju', _, _, _, e0, e1, e2, e3, e4⟩ := h.s.trow.at_ hj
  rw [hju, Option.some.injEq] at hju'
  subst hju'
  rw [hkj] at e2
  have HD := Lib.hid (And.intro hbb (And.intro d0 (And.intro d1 (And.intro d2 d3))))
  have HEE := Lib.hid (And.intro hab e2)
  have HB := Lib.hid h.b
  obtain ⟨kk, kn, kr, kt⟩ := v
  unfold V.agg
  simp only at HD ⊢
  have i0 : (t : Int) < us.length := by omega
  have i1 : (kj : Int) < row.length := by omega
  clear h hv hf hju hkj hvk hkey hbb d0 d1 d2 d3 hab e0 e1 e2 e3 e4 hj hkl
  generalize row.length = n at *
  go_enter Tryz.func73, Tryz.ntmps73
  go_upto_region 1 with fail
  have h3 : Blk ((w.alloc (.cells #[.int .i64 t, .slice (some ⟨bb, off, none⟩) n rc] 109)).alloc (.cells #[.int .u8 0, .int .i64 0, .int .u64 0, .string ⟨#[]⟩] 49)) w.heap.size #[.int .i64 t, .slice (some ⟨bb, off, none⟩) n rc] 109 := (Blk.new w _ _).old _
  have h4 : Blk ((w.alloc (.cells #[.int .i64 t, .slice (some ⟨bb, off, none⟩) n rc] 109)).alloc (.cells #[.int .u8 0, .int .i64 0, .int .u64 0, .string ⟨#[]⟩] 49)) (w.heap.size + 1) #[.int .u8 0, .int .i64 0, .int .u64 0, .string ⟨#[]⟩] 49 := (by repeat (first | exact Blk.at (by simp) | assumption | refine Blk.drew ?_ | refine Blk.old ?_ _))
  have hC : Below w.heap.size w ((w.alloc (.cells #[.int .i64 t, .slice (some ⟨bb, off, none⟩) n rc] 109)).alloc (.cells #[.int .u8 0, .int .i64 0, .int .u64 0, .string ⟨#[]⟩] 49)) := (by repeat (first | exact Below.refl _ _ | assumption | refine Below.drew ?_ | refine below_drewN ?_ _ | refine Below.alloc ?_ (by simp <;> omega) _))
  have H3 := Lib.hid h3
  have H4 := Lib.hid h4
  have HC := Lib.hid hC
  have HX4 : Hid (w.heap.size ≤ w.heap.size + 1) := Nat.le_succ _
  clear h3 h4 hC
  generalize (w.alloc (.cells #[.int .i64 t, .slice (some ⟨bb, off, none⟩) n rc] 109)).alloc (.cells #[.int .u8 0, .int .i64 0, .int .u64 0, .string ⟨#[]⟩] 49) = W0 at H3 H4 HC ⊢
  generalize w.heap.size + 1 = B4 at H4 HX4 ⊢
  generalize hB3 : w.heap.size = B3 at H3 ⊢
  clear hB3
  generalize ht : t = j at *
  clear ht
  refine region_last 14 _ [false, false, false, false, false, true, true, true, true, true, true, true, true, true, true, true, true, true, true] [5, 6, 7, 8, 9, 10, 11, 12, 13, 14, 15, 16, 17, 18] [.val (.pointer (some ⟨B3, 1, none⟩)), .val (.slice (some ⟨bb, off, none⟩) n rc), .val (.pointer (some ⟨x, 0, none⟩)), .val (.pointer (some ⟨x, 0, none⟩)), .val (.pointer (some ⟨x, 0, none⟩)), .val (.pointer (some ⟨x, 0, none⟩)), .val (.slice (some ⟨ab, ao, none⟩) us.length c), .val (.pointer (some ⟨B3, 0, none⟩)), .val (.int .i64 j), .val (.pointer (some ⟨ab, ao + j * 5, none⟩)), .val (.pointer (some ⟨ab, ao + j * 5 + 2, none⟩)), .val (.int .i64 kj), .val (.pointer (some ⟨bb, off + kj * 4, none⟩)), .val (.agg #[.int .u8 kk, .int .i64 kn, .int .u64 kr, .string kt])] [13] (by kernel_rfl) (by kernel_rfl) rfl (by kernel_rfl) (by kernel_rfl) (by kernel_rfl) (by kernel_rfl) (by kernel_rfl) ⟨?_, ?_, ?_, ?_, ?_, ?_, ?_, ?_, ?_, ?_, ?_, ?_, ?_, ?_, trivial⟩ ?done
  case done =>
    intro x9 w5 hb5
    simp only [StepGoal, List.getD_cons_zero, List.getD_cons_succ]
    intro K hK
    have hg5 := H4.out.ext hb5
    have HB5 := Lib.hid (putBlk_below (b := B4) #[.int .u8 kk, .int .i64 kn, .int .u64 kr, .string kt] 49 (bt HC.out hb5) HX4.out)
    obtain ⟨w3, rfl, lt⟩ := blk_put hg5
    obtain ⟨pc, pf, pS⟩ := putBlk_facts (w := w3) 49 lt
    rw [put_put'] at HB5
    clear hg5 hb5
    rw [if_pos (by rfl)]; simp only [overlay, upd, cond_true, cond_false, Nat.reduceEqDiff, reduceIte]
    go_simp
    refine hK.out _ _ ?_
    go_wp2_with fail
    refine bodyPost_ret (v := .agg #[.int .u8 kk, .int .i64 kn, .int .u64 kr, .string kt]) (by simp [results, Tryz.results73, go_sem, pc]) rfl ?_
    exact ⟨rfl, HB5.out⟩
  all_goals
    intro x9 w8 hT8
    intro K hK
    have hb8 := bt HC.out hT8
    have h38 := H3.out.ext hT8
    have hr8 := HB.out.ext hb8
    have o0 := h38.cell 0
    have o1 := h38.cell 1
    have l3 := h38.lt
    have r0 := hr8.cell 0
    have lr := hr8.lt
    have d0 := (hb8.cell (p := ⟨bb, off + kj * 4, none⟩) HD.out.1).trans HD.out.2.1
    have d1 := (hb8.cell (p := ⟨bb, off + kj * 4 + 1, none⟩) HD.out.1).trans HD.out.2.2.1
    have d2 := (hb8.cell (p := ⟨bb, off + kj * 4 + 2, none⟩) HD.out.1).trans HD.out.2.2.2.1
    have d3 := (hb8.cell (p := ⟨bb, off + kj * 4 + 3, none⟩) HD.out.1).trans HD.out.2.2.2.2
    have a2 := (hb8.cell (p := ⟨ab, ao + j * 5 + 2, none⟩) HEE.out.1).trans HEE.out.2
    simp only [List.getElem?_toArray, List.getElem?_cons_zero, List.getElem?_cons_succ] at o0 o1 r0
    clear h38 hr8
    rw [if_pos (by rfl)]; simp only [overlay, upd, cond_true, cond_false, List.getD_cons_zero, List.getD_cons_succ, Nat.reduceEqDiff, reduceIte]
    go_simp
    exact hK.out _ _ (Below.refl _ _) rfl
/-- May an op be? -/
def mayF (us : List Ta) (kd t : Int) (row : List V) : Bool :=
  if kd = 3 then (match row with
    | [k] => keyS us t k
    | _ => false) else decide (kd = 1 ∨ kd = 2) && rowS us t row
set_option maxRecDepth 100000 in
set_option maxHeartbeats 1600000 in
theorem refmay14_any (h : RefR us x A c G gc tn its lo w) (hT : Tabs w) (kd t : Int) (B : Option Addr) (rc : Nat) (row : List V) (hv : VRow w B row) :
    Calls Tryz.prog 44 #[.pointer (some ⟨x, 0, none⟩), .agg #[.int .u8 kd, .int .i64 t, .slice B row.length rc]] w fun q w' => q = .returned (.bool (mayF us kd t row)) ∧ Below w.heap.size w w' := by
  have HKY := Lib.hid (fun (k : V) (W : World) (hW : Below w.heap.size w W) (hk : k.wf) => refkey13_any us A c t k W (h.s.trow.ext hW) hk (hT.ext hW))
  have HRW := Lib.hid (fun (W : World) (hW : Below w.heap.size w W) => refrow13_any us A B c rc t row W (h.s.trow.ext hW) (hv.ext hW) (hT.ext hW))
  have HB := Lib.hid h.b
  have HV := Lib.hid hv
  obtain ⟨F, hF⟩ : ∃ q, q = mayF us kd t row := ⟨_, rfl⟩
  rw [← hF]
  have HF := Lib.hid hF
  clear h hT hv hF
  obtain ⟨n, hn⟩ : ∃ q, q = row.length := ⟨_, rfl⟩
  rw [← hn] at HRW ⊢
  have HN := Lib.hid hn
  clear hn
  go_enter Tryz.func44, Tryz.ntmps44
  go_upto_region 1 with fail
  have h3 := Blk.new w #[.int .u8 kd, .int .i64 t, .slice B n rc] 58
  have hC : Below w.heap.size w (w.alloc (.cells #[.int .u8 kd, .int .i64 t, .slice B n rc] 58)) := (by repeat (first | exact Below.refl _ _ | assumption | refine Below.drew ?_ | refine below_drewN ?_ _ | refine Below.alloc ?_ (by simp <;> omega) _))
  have H3 := Lib.hid h3
  have HC := Lib.hid hC
  clear h3 hC
  generalize w.alloc (.cells #[.int .u8 kd, .int .i64 t, .slice B n rc] 58) = W0 at H3 HC ⊢
  generalize hB3 : w.heap.size = B3 at H3 ⊢
  clear hB3
  have o0 := H3.out.cell 0
  have l3 := H3.out.lt
  simp only [List.getElem?_toArray, List.getElem?_cons_zero] at o0
  by_cases hk3 : kd = 3
  · have q3 : (kd == 3) = true := by simp [hk3]
    by_cases h1 : n = 1
    · obtain ⟨k, hrow⟩ : ∃ k, row = [k] := by
        rcases hr : row with _ | ⟨k, _ | ⟨k2, l2⟩⟩
        · have := HN.out; rw [hr] at this; simp at this; omega
        · exact ⟨k, rfl⟩
        · have := HN.out; rw [hr] at this; simp at this; omega
      subst hrow
      subst h1
      have HKK := Lib.hid (fun (W : World) (hW : Below w.heap.size w W) => HKY.out k W hW (HV.out.1 k (by simp)))
      have HFK : Hid (F = keyS us t k) := by
        show _ = _
        rw [HF.out]; unfold mayF; rw [if_pos hk3]
      obtain ⟨bb, off, v, rfl, hbb, hvk, _, hvw, d0, d1, d2, d3⟩ := (HV.out).at_ (k := 0) (by simp)
      simp only [List.getElem?_cons_zero, Option.some.injEq] at hvk
      subst hvk
      simp only [Nat.zero_mul, Nat.add_zero] at d0 d1 d2 d3
      have HD := Lib.hid (And.intro hbb (And.intro d0 (And.intro d1 (And.intro d2 d3))))
      clear d0 d1 d2 d3 hbb hvw hk3 HRW HF
      obtain ⟨kk, kn, kr, kt⟩ := k
      unfold V.agg at HKK
      simp only at HKK HD
      generalize keyS us t ⟨kk, kn, kr, kt⟩ = KS at HKK HFK
      go_upto_region 2 with fail
      clear o0 l3
      refine region_grow [false, false, false, false, true, false, false, false, true, true, true, true, true, true, true, true, true, true, true, true, true, true, true, true, true, false, false, false, false, false, false, false, false, false, false, false, false, false, false, false, false, false, false, false] [8, 9, 10, 11, 12, 13, 14, 15, 16, 17, 18, 19, 20, 21, 22, 23, 24, 4] [.val (.pointer (some ⟨B3, 2, none⟩)), .val (.slice (some ⟨bb, off, none⟩) 1 rc), .val (.int .i64 1), .val (.bool true), .val (.bool true), .val (.pointer (some ⟨x, 0, none⟩)), .val (.pointer (some ⟨x, 0, none⟩)), .val (.pointer (some ⟨x, 0, none⟩)), .val (.agg #[.slice A us.length c]), .val (.pointer (some ⟨B3, 1, none⟩)), .val (.int .i64 t), .val (.pointer (some ⟨B3, 2, none⟩)), .val (.slice (some ⟨bb, off, none⟩) 1 rc), .val (.pointer (some ⟨bb, off, none⟩)), .val (.agg #[.int .u8 kk, .int .i64 kn, .int .u64 kr, .string kt]), .val (.bool KS), .val (.bool KS), .val (.bool KS)] [17] (by kernel_rfl) (by kernel_rfl) (by kernel_rfl) (by kernel_rfl) (by kernel_rfl) ⟨?_, ?_, ?_, ?_, ?_, ?_, ?_, ?_, ?_, ?_, ?_, ?_, ?_, ?_, ?_, ?_, ?_, ?_, trivial⟩ ?done
      case done =>
        intro x9 w5 hb5
        simp only [StepGoal, overlay, upd, cond_true, cond_false, List.getD_cons_zero, List.getD_cons_succ, Nat.zero_add, Nat.reduceAdd, Nat.reduceEqDiff, reduceIte]
        go_wp2_with fail
        go_ret
        exact ⟨ret_bool HFK.out.symm, bt HC.out hb5⟩
      all_goals
        intro x9 w8 hT8
        intro K hK
        have hb8 := bt HC.out hT8
        have h38 := H3.out.ext hT8
        have hr8 := HB.out.ext hb8
        have o0 := h38.cell 0
        have o1 := h38.cell 1
        have o2 := h38.cell 2
        have l3 := h38.lt
        have r0 := hr8.cell 0
        have lr := hr8.lt
        have d0 := (hb8.cell (p := ⟨bb, off, none⟩) HD.out.1).trans HD.out.2.1; have d1 := (hb8.cell (p := ⟨bb, off + 1, none⟩) HD.out.1).trans HD.out.2.2.1; have d2 := (hb8.cell (p := ⟨bb, off + 2, none⟩) HD.out.1).trans HD.out.2.2.2.1; have d3 := (hb8.cell (p := ⟨bb, off + 3, none⟩) HD.out.1).trans HD.out.2.2.2.2
        simp only [List.getElem?_toArray, List.getElem?_cons_zero, List.getElem?_cons_succ] at o0 o1 o2 r0
        clear h38 hr8
        first
          | (rw [if_neg (by exact Bool.false_ne_true)]; exact hK.out _ _ (Below.refl _ _) rfl)
          | (rw [if_pos (by rfl)]; simp only [overlay, upd, cond_true, cond_false, List.getD_cons_zero, List.getD_cons_succ, Nat.reduceEqDiff, reduceIte]
             go_simp
             first
               | exact hK.out _ _ (Below.refl _ _) rfl
               | ((with_reducible refine (HKK.out _ hb8).mono ?_); rintro e wa ⟨rfl, hba⟩; go_wp2_with fail; exact hK.out _ _ hba rfl))
    · have HFN : Hid (F = false) := by
        show _ = _
        rw [HF.out]; unfold mayF; rw [if_pos hk3]
        rcases hr : row with _ | ⟨k, _ | ⟨k2, l2⟩⟩
        · rfl
        · exfalso; apply h1; rw [HN.out, hr]; rfl
        · rfl
      have q1 : ((n : Int) == 1) = false := by rw [beq_eq_false_iff_ne]; omega
      clear h1 hk3 HRW HKY HF
      go_upto_region 2 with fail
      clear o0 l3
      refine region_grow [false, false, false, false, true, false, false, false, true, true, true, true, true, true, true, true, true, true, true, true, true, true, true, true, true, false, false, false, false, false, false, false, false, false, false, false, false, false, false, false, false, false, false, false] [8, 9, 10, 11, 12, 13, 14, 15, 16, 17, 18, 19, 20, 21, 22, 23, 24, 4] [.val (.pointer (some ⟨B3, 2, none⟩)), .val (.slice B n rc), .val (.int .i64 n), .val (.bool false), .val (.bool false), .val undef, .val undef, .val undef, .val undef, .val undef, .val undef, .val undef, .val undef, .val undef, .val undef, .val undef, .val (.bool false), .val (.bool false)] [17] (by kernel_rfl) (by kernel_rfl) (by kernel_rfl) (by kernel_rfl) (by kernel_rfl) ⟨?_, ?_, ?_, ?_, ?_, ?_, ?_, ?_, ?_, ?_, ?_, ?_, ?_, ?_, ?_, ?_, ?_, ?_, trivial⟩ ?done
      case done =>
        intro x9 w5 hb5
        simp only [StepGoal, overlay, upd, cond_true, cond_false, List.getD_cons_zero, List.getD_cons_succ, Nat.zero_add, Nat.reduceAdd, Nat.reduceEqDiff, reduceIte]
        go_wp2_with fail
        go_ret
        exact ⟨ret_bool HFN.out.symm, bt HC.out hb5⟩
      all_goals
        intro x9 w8 hT8
        intro K hK
        have hb8 := bt HC.out hT8
        have h38 := H3.out.ext hT8
        have hr8 := HB.out.ext hb8
        have o0 := h38.cell 0
        have o1 := h38.cell 1
        have o2 := h38.cell 2
        have l3 := h38.lt
        have r0 := hr8.cell 0
        have lr := hr8.lt
        skip
        simp only [List.getElem?_toArray, List.getElem?_cons_zero, List.getElem?_cons_succ] at o0 o1 o2 r0
        clear h38 hr8
        first
          | (rw [if_neg (by exact Bool.false_ne_true)]; exact hK.out _ _ (Below.refl _ _) rfl)
          | (rw [if_pos (by rfl)]; simp only [overlay, upd, cond_true, cond_false, List.getD_cons_zero, List.getD_cons_succ, Nat.reduceEqDiff, reduceIte]
             go_simp
             first
               | exact hK.out _ _ (Below.refl _ _) rfl
               | ((with_reducible refine (null_any _).mono ?_); rintro e wa ⟨rfl, hba⟩; go_wp2_with fail; exact hK.out _ _ hba rfl))
  · have q3 : (kd == 3) = false := by simpa using hk3
    have HFR : Hid (F = (decide (kd = 1 ∨ kd = 2) && rowS us t row)) := by
      show _ = _
      rw [HF.out]; unfold mayF; rw [if_neg hk3]
    clear hk3 HKY HF
    generalize rowS us t row = RS at HRW HFR
    by_cases h1 : kd = 1
    · have q1 : (kd == 1) = true := by simp [h1]
      have HFN : Hid (F = RS) := by show _ = _; rw [HFR.out, h1]; simp
      clear h1 HFR
      go_upto_region 3 with fail
      clear o0 l3
      refine region_grow [false, false, false, false, true, false, false, false, false, false, false, false, false, false, false, false, false, false, false, false, false, false, false, false, false, true, true, true, true, true, true, true, true, true, true, true, true, true, true, true, true, true, true, true] [25, 26, 27, 28, 29, 30, 31, 32, 33, 34, 35, 36, 37, 38, 39, 40, 41, 42, 43, 4] [.val (.pointer (some ⟨B3, 0, none⟩)), .val (.int .u8 kd), .val (.bool true), .val (.bool true), .val undef, .val undef, .val undef, .val (.bool true), .val (.bool true), .val (.pointer (some ⟨x, 0, none⟩)), .val (.pointer (some ⟨x, 0, none⟩)), .val (.pointer (some ⟨x, 0, none⟩)), .val (.agg #[.slice A us.length c]), .val (.pointer (some ⟨B3, 1, none⟩)), .val (.int .i64 t), .val (.pointer (some ⟨B3, 2, none⟩)), .val (.slice B n rc), .val (.bool RS), .val (.bool RS), .val (.bool RS)] [19] (by kernel_rfl) (by kernel_rfl) (by kernel_rfl) (by kernel_rfl) (by kernel_rfl) ⟨?_, ?_, ?_, ?_, ?_, ?_, ?_, ?_, ?_, ?_, ?_, ?_, ?_, ?_, ?_, ?_, ?_, ?_, ?_, ?_, trivial⟩ ?done
      case done =>
        intro x9 w5 hb5
        simp only [StepGoal, overlay, upd, cond_true, cond_false, List.getD_cons_zero, List.getD_cons_succ, Nat.zero_add, Nat.reduceAdd, Nat.reduceEqDiff, reduceIte]
        go_wp2_with fail
        go_ret
        exact ⟨ret_bool HFN.out.symm, bt HC.out hb5⟩
      all_goals
        intro x9 w8 hT8
        intro K hK
        have hb8 := bt HC.out hT8
        have h38 := H3.out.ext hT8
        have hr8 := HB.out.ext hb8
        have o0 := h38.cell 0
        have o1 := h38.cell 1
        have o2 := h38.cell 2
        have l3 := h38.lt
        have r0 := hr8.cell 0
        have lr := hr8.lt
        skip
        simp only [List.getElem?_toArray, List.getElem?_cons_zero, List.getElem?_cons_succ] at o0 o1 o2 r0
        clear h38 hr8
        first
          | (rw [if_neg (by exact Bool.false_ne_true)]; exact hK.out _ _ (Below.refl _ _) rfl)
          | (rw [if_pos (by rfl)]; simp only [overlay, upd, cond_true, cond_false, List.getD_cons_zero, List.getD_cons_succ, Nat.reduceEqDiff, reduceIte]
             go_simp
             first
               | exact hK.out _ _ (Below.refl _ _) rfl
               | ((with_reducible refine (HRW.out _ hb8).mono ?_); rintro e wa ⟨rfl, hba⟩; go_wp2_with fail; exact hK.out _ _ hba rfl))
    · have q1 : (kd == 1) = false := by simpa using h1
      by_cases h2 : kd = 2
      · have q2 : (kd == 2) = true := by simp [h2]
        have HFN : Hid (F = RS) := by show _ = _; rw [HFR.out, h2]; simp
        clear h1 h2 HFR
        go_upto_region 3 with fail
        clear o0 l3
        refine region_grow [false, false, false, false, true, false, false, false, false, false, false, false, false, false, false, false, false, false, false, false, false, false, false, false, false, true, true, true, true, true, true, true, true, true, true, true, true, true, true, true, true, true, true, true] [25, 26, 27, 28, 29, 30, 31, 32, 33, 34, 35, 36, 37, 38, 39, 40, 41, 42, 43, 4] [.val (.pointer (some ⟨B3, 0, none⟩)), .val (.int .u8 kd), .val (.bool false), .val (.bool false), .val (.pointer (some ⟨B3, 0, none⟩)), .val (.int .u8 kd), .val (.bool true), .val (.bool true), .val (.bool true), .val (.pointer (some ⟨x, 0, none⟩)), .val (.pointer (some ⟨x, 0, none⟩)), .val (.pointer (some ⟨x, 0, none⟩)), .val (.agg #[.slice A us.length c]), .val (.pointer (some ⟨B3, 1, none⟩)), .val (.int .i64 t), .val (.pointer (some ⟨B3, 2, none⟩)), .val (.slice B n rc), .val (.bool RS), .val (.bool RS), .val (.bool RS)] [19] (by kernel_rfl) (by kernel_rfl) (by kernel_rfl) (by kernel_rfl) (by kernel_rfl) ⟨?_, ?_, ?_, ?_, ?_, ?_, ?_, ?_, ?_, ?_, ?_, ?_, ?_, ?_, ?_, ?_, ?_, ?_, ?_, ?_, trivial⟩ ?done
        case done =>
          intro x9 w5 hb5
          simp only [StepGoal, overlay, upd, cond_true, cond_false, List.getD_cons_zero, List.getD_cons_succ, Nat.zero_add, Nat.reduceAdd, Nat.reduceEqDiff, reduceIte]
          go_wp2_with fail
          go_ret
          exact ⟨ret_bool HFN.out.symm, bt HC.out hb5⟩
        all_goals
          intro x9 w8 hT8
          intro K hK
          have hb8 := bt HC.out hT8
          have h38 := H3.out.ext hT8
          have hr8 := HB.out.ext hb8
          have o0 := h38.cell 0
          have o1 := h38.cell 1
          have o2 := h38.cell 2
          have l3 := h38.lt
          have r0 := hr8.cell 0
          have lr := hr8.lt
          skip
          simp only [List.getElem?_toArray, List.getElem?_cons_zero, List.getElem?_cons_succ] at o0 o1 o2 r0
          clear h38 hr8
          first
            | (rw [if_neg (by exact Bool.false_ne_true)]; exact hK.out _ _ (Below.refl _ _) rfl)
            | (rw [if_pos (by rfl)]; simp only [overlay, upd, cond_true, cond_false, List.getD_cons_zero, List.getD_cons_succ, Nat.reduceEqDiff, reduceIte]
               go_simp
               first
                 | exact hK.out _ _ (Below.refl _ _) rfl
                 | ((with_reducible refine (HRW.out _ hb8).mono ?_); rintro e wa ⟨rfl, hba⟩; go_wp2_with fail; exact hK.out _ _ hba rfl))
      · have q2 : (kd == 2) = false := by simpa using h2
        have HFN : Hid (F = false) := by show _ = _; rw [HFR.out]; simp [h1, h2]
        clear h1 h2 HFR HRW
        go_upto_region 3 with fail
        clear o0 l3
        refine region_grow [false, false, false, false, true, false, false, false, false, false, false, false, false, false, false, false, false, false, false, false, false, false, false, false, false, true, true, true, true, true, true, true, true, true, true, true, true, true, true, true, true, true, true, true] [25, 26, 27, 28, 29, 30, 31, 32, 33, 34, 35, 36, 37, 38, 39, 40, 41, 42, 43, 4] [.val (.pointer (some ⟨B3, 0, none⟩)), .val (.int .u8 kd), .val (.bool false), .val (.bool false), .val (.pointer (some ⟨B3, 0, none⟩)), .val (.int .u8 kd), .val (.bool false), .val (.bool false), .val (.bool false), .val undef, .val undef, .val undef, .val undef, .val undef, .val undef, .val undef, .val undef, .val undef, .val (.bool false), .val (.bool false)] [19] (by kernel_rfl) (by kernel_rfl) (by kernel_rfl) (by kernel_rfl) (by kernel_rfl) ⟨?_, ?_, ?_, ?_, ?_, ?_, ?_, ?_, ?_, ?_, ?_, ?_, ?_, ?_, ?_, ?_, ?_, ?_, ?_, ?_, trivial⟩ ?done
        case done =>
          intro x9 w5 hb5
          simp only [StepGoal, overlay, upd, cond_true, cond_false, List.getD_cons_zero, List.getD_cons_succ, Nat.zero_add, Nat.reduceAdd, Nat.reduceEqDiff, reduceIte]
          go_wp2_with fail
          go_ret
          exact ⟨ret_bool HFN.out.symm, bt HC.out hb5⟩
        all_goals
          intro x9 w8 hT8
          intro K hK
          have hb8 := bt HC.out hT8
          have h38 := H3.out.ext hT8
          have hr8 := HB.out.ext hb8
          have o0 := h38.cell 0
          have o1 := h38.cell 1
          have o2 := h38.cell 2
          have l3 := h38.lt
          have r0 := hr8.cell 0
          have lr := hr8.lt
          skip
          simp only [List.getElem?_toArray, List.getElem?_cons_zero, List.getElem?_cons_succ] at o0 o1 o2 r0
          clear h38 hr8
          first
            | (rw [if_neg (by exact Bool.false_ne_true)]; exact hK.out _ _ (Below.refl _ _) rfl)
            | (rw [if_pos (by rfl)]; simp only [overlay, upd, cond_true, cond_false, List.getD_cons_zero, List.getD_cons_succ, Nat.reduceEqDiff, reduceIte]
               go_simp
               first
                 | exact hK.out _ _ (Below.refl _ _) rfl
                 | ((with_reducible refine (null_any _).mono ?_); rintro e wa ⟨rfl, hba⟩; go_wp2_with fail; exact hK.out _ _ hba rfl))
end Go.Proofs.YtgklopgeimjgiaaGreatDoor
