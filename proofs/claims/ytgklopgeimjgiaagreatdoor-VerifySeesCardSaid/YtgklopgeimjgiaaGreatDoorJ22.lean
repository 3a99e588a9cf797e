/- Several texts in one: see each part's head. -/
import Derived.Carry
import Derived.Test.YtgklopgeimjgiaaGreatDoorJ21
/- VerifySees: a state in memory (RelR); rel.New, Schema. -/
namespace Go.Proofs.YtgklopgeimjgiaaGreatDoor
open Go.RowKit

def plI (us : List Ta) (x : Rw) : Int × V := ((x.1 : Int), keyN us x.1 x.2)
def ElR (us : List Ta) (w : World) (l : List Rw) (p : Int × V) (v : Value) : Prop := ∃ x ∈ l, plI us x = p ∧ ∃ A c, v = .slice A x.2.length c ∧ RowO w A c x.2
/-- A state. -/
structure RelR (us : List Ta) (r M : Nat) (A : Option Addr) (c : Nat) (tn : Int) (l : List Rw) (w : World) : Prop where
  b : Blk w r #[.slice A us.length c, .map (some M), .int .u64 tn] 92
  s : OwS w A c us
  m : MapG 101 w M (l.map (plI us)) (ElR us w l)
  i : StI us l
  h : schB us = true
theorem plI_plN {us : List Ta} {x y : Rw} : plI us x = plI us y ↔ plN us x = plN us y := by
  unfold plI plN
  rw [Prod.mk.injEq, Prod.mk.injEq]
  constructor
  · rintro ⟨h1, h2⟩; exact ⟨by omega, h2⟩
  · rintro ⟨h1, h2⟩; exact ⟨by rw [h1], h2⟩
theorem rowS_lt {us : List Ta} {t : Int} {row : List V} (h : rowS us t row = true) : 0 ≤ t ∧ t < us.length := by
  unfold rowS at h
  rw [Bool.and_eq_true] at h
  obtain ⟨j, u, h1, h2, _⟩ := has_at h.1
  omega
theorem plI_ok {us : List Ta} (h : schB us = true) {t : Nat} {row : List V} (hr : rowS us t row = true) (hw : ∀ v ∈ row, v.wf) : okP (plI us (t, row)) := by
  have h1 := rowS_lt hr
  have h2 := schN h
  exact ⟨⟨by simp only [plI]; omega, by simp only [plI]; omega⟩, (rowS_ok hr hw).1⟩
theorem StI.nd {us : List Ta} {l : List Rw} (h : StI us l) : (l.map (plI us)).Nodup := by
  rw [List.Nodup, List.pairwise_map]
  refine h.ris.imp fun {a b} hab e => ?_
  rw [plI_plN.1 e, pLess_swo.irrefl] at hab
  cases hab
theorem pl_mem {us : List Ta} {l : List Rw} {p : Int × V} (x : Rw) (hx : plI us x = p) : p ∈ l.map (plI us) ↔ HasP (plN us) l (plN us x) := by
  rw [List.mem_map]
  constructor
  · rintro ⟨y, hy, e⟩; exact ⟨y, hy, plI_plN.1 (e.trans hx.symm)⟩
  · rintro ⟨y, hy, e⟩; exact ⟨y, hy, (plI_plN.2 e).trans hx⟩
theorem ElR.chg {us : List Ta} {S : List Nat} {w w' : World} {l : List Rw} {p : Int × V} {v : Value} (h : ElR us w l p v) (k : Chg S w w') (ho : Oth w S) : ElR us w' l p v := by
  obtain ⟨x, h1, h2, A, c, h3, h4⟩ := h
  exact ⟨x, h1, h2, A, c, h3, h4.chg k ho⟩
variable {us : List Ta} {r M : Nat} {A : Option Addr} {c : Nat} {tn : Int} {l : List Rw} {w w' : World}
theorem RelR.chg {S : List Nat} (h : RelR us r M A c tn l w) (k : Chg S w w') (hr : r ∉ S) (hM : M ∉ S) (ho : Oth w S) : RelR us r M A c tn l w' :=
  ⟨h.b.chg k hr, h.s.chg k ho, h.m.chg k hM (fun _ _ _ hv => hv.chg k ho), h.i, h.h⟩
theorem oth_nil (w : World) : Oth w [] := fun i hi => by simp at hi
theorem RelR.ext (h : RelR us r M A c tn l w) (hb : Below w.heap.size w w') : RelR us r M A c tn l w' := h.chg (Chg.of_below (S := []) hb) (by simp) (by simp) (oth_nil w)
/-- What a state itself turns. -/
theorem RelR.oth (h : RelR us r M A c tn l w) : Oth w [r, M] := by
  intro i hi cs t e
  rcases List.mem_cons.1 hi with rfl | hi
  · have := h.b.symm.trans e
    simp only [Option.some.injEq, Obj.cells.injEq] at this
    rw [← this.2.1]
    decide
  · rw [List.mem_singleton] at hi
    subst hi
    exact absurd e (h.m.no_cells _ _ _)
theorem RelR.ne (h : RelR us r M A c tn l w) : r ≠ M := by
  intro e
  have := h.b
  rw [e] at this
  exact h.m.no_cells _ _ _ this
def NewP (ts : List Ta) (w : World) (q : Ending) (w' : World) : Prop :=
  Below w.heap.size w w' ∧ ∃ us r M A c, q = .returned (.tuple #[.pointer (some ⟨r, 0, none⟩), .int .i64 0]) ∧ RelR us r M A c 0 [] w' ∧ us.map Ta.d = ts.map Ta.d ∧ w.heap.size ≤ r ∧ w.heap.size ≤ M
set_option maxRecDepth 100000 in
theorem relnew_any (ts : List Ta) (A : Option Addr) (c : Nat) (w : World) (ht : TRow w A c ts) (hs : schB ts = true) :
    Calls Tryz.prog 22 #[.agg #[.slice A ts.length c]] w (NewP ts w) := by
  have HCK := Lib.hid (fun (W : World) (hW : Below w.heap.size w W) => check13_any ts A c W (ht.ext hW))
  have HCL := Lib.hid (fun (W : World) (hW : Below w.heap.size w W) => clone_any ts A c W (ht.ext hW) hs)
  rw [hs] at HCK
  have HS := Lib.hid hs
  rw [okE_t' rfl] at HCK
  clear hs ht
  go_enter Tryz.func22, Tryz.ntmps22
  have h1 : Blk (w.alloc (.cells #[.slice A ts.length c] 24)) w.heap.size #[.slice A ts.length c] 24 := Blk.new w _ _
  have hC : Below w.heap.size w (w.alloc (.cells #[.slice A ts.length c] 24)) := (by repeat (first | exact Below.refl _ _ | assumption | refine Below.drew ?_ | refine below_drewN ?_ _ | refine Below.alloc ?_ (by simp <;> omega) _))
  have H1 := Lib.hid h1
  have HC := Lib.hid hC
  have s0 := h1.cell 0
  have l1 := h1.lt
  simp only [List.getElem?_toArray, List.getElem?_cons_zero] at s0
  clear h1 hC
  go_upto_region 1 with fail
  generalize w.alloc (.cells #[.slice A ts.length c] 24) = W0 at H1 HC s0 l1 ⊢
  go_wp2_with fail
  refine (HCK.out _ HC.out).mono ?_
  rintro q w1 ⟨rfl, hb⟩
  have HC := Lib.hid (bt HC.out hb)
  have H1 := Lib.hid (H1.out.ext hb)
  have s0 := H1.out.cell 0
  have l1 := H1.out.lt
  simp only [List.getElem?_toArray, List.getElem?_cons_zero] at s0
  clear hb
  go_wp2_with fail
  refine (HCL.out _ HC.out).mono ?_
  rintro q w2 ⟨hb, A', c', us, rfl, hos, hd⟩
  have HC := Lib.hid (bt HC.out hb)
  have HOS := Lib.hid hos
  have HD := Lib.hid hd
  clear hb hos hd s0 l1 HCL HCK
  have hmm := @run_makeMap Tryz.prog
  go_wp2_with fail
  have hb4 : Below w2.heap.size w2 ((w2.alloc (.map #[] 0)).alloc (.cells #[.slice A' us.length c', .map (some w2.heap.size), .int .u64 0] 92)) := (by repeat (first | exact Below.refl _ _ | assumption | refine Below.drew ?_ | refine below_drewN ?_ _ | refine Below.alloc ?_ (by simp <;> omega) _))
  have HF : Hid (NewP ts w (.returned (.tuple #[.pointer (some ⟨w2.heap.size + 1, 0, none⟩), .int .i64 0])) ((w2.alloc (.map #[] 0)).alloc (.cells #[.slice A' us.length c', .map (some w2.heap.size), .int .u64 0] 92))) :=
    ⟨bt HC.out hb4, us, w2.heap.size + 1, w2.heap.size, A', c', rfl, ⟨(by repeat (first | exact Blk.at (by simp) | assumption | refine Blk.drew ?_ | refine Blk.old ?_ _)), HOS.out.ext hb4, (MapG.made w2 _ (fun _ _ => True)).chg (S := []) (Chg.of_below ((Below.refl _ _).alloc (Nat.le_refl _) _)) (by simp) (by simp), StI.nil us, by rw [schB_d HD.out]; exact HS.out⟩, HD.out, by have := HC.out.size; omega, HC.out.size⟩
  clear hb4
  go_ret2
  exact HF.out
set_option maxRecDepth 100000 in
theorem relschema_any (h : RelR us r M A c tn l w) : Calls Tryz.prog 27 #[.pointer (some ⟨r, 0, none⟩)] w (CloneS us w) := by
  have HCL := Lib.hid (fun (W : World) (hW : Below w.heap.size w W) => clone_any us A c W (h.s.trow.ext hW) h.h)
  have HB := Lib.hid h.b
  clear h
  go_enter Tryz.func27, Tryz.ntmps27
  have h1 : Blk (w.alloc (.cells #[.slice none 0 0] 24)) w.heap.size #[.slice none 0 0] 24 := Blk.new w _ _
  have hC : Below w.heap.size w (w.alloc (.cells #[.slice none 0 0] 24)) := (by repeat (first | exact Below.refl _ _ | assumption | refine Below.drew ?_ | refine below_drewN ?_ _ | refine Below.alloc ?_ (by simp <;> omega) _))
  have H1 := Lib.hid h1
  have HC := Lib.hid hC
  have HB1 := HB.out.ext hC
  have r0 := HB1.cell 0
  have lr := HB1.lt
  simp only [List.getElem?_toArray, List.getElem?_cons_zero] at r0
  clear h1 hC HB1
  go_upto_region 1 with fail
  have HX : Hid (w.heap.size ≤ w.heap.size) := Nat.le_refl _
  generalize w.alloc (.cells #[.slice none 0 0] 24) = W0 at H1 HC r0 lr ⊢
  generalize hX : w.heap.size = X at H1 HX ⊢
  have HX := Lib.hid (show w.heap.size ≤ X by omega)
  clear hX
  go_wp2_with fail
  refine (HCL.out _ HC.out).mono ?_
  rintro q w1 ⟨hb, A', c', vs, rfl, hos, hd⟩
  have hg := H1.out.ext hb
  have HC1 := Lib.hid (bt HC.out hb)
  have HF : Hid (CloneS us w (.returned (.agg #[.slice A' vs.length c'])) (putBlk w1 X #[.slice A' vs.length c'] 24)) :=
    ⟨putBlk_below _ _ HC1.out HX.out, A', c', vs, rfl, hos.chg (S := [X]) ((Chg.refl [X] w1).put (Or.inl (by simp)) _ _) (fun i hi cs t e => by
      rw [List.mem_singleton] at hi
      subst hi
      have := hg.symm.trans e
      simp only [Option.some.injEq, Obj.cells.injEq] at this
      rw [← this.2.1]
      decide), hd⟩
  clear hb hos hd r0 lr HCL
  obtain ⟨w20, rfl, lt⟩ := blk_put hg
  obtain ⟨pc, pf, pS⟩ := putBlk_facts (w := w20) 24 lt
  rw [put_put'] at HF
  clear hg
  go_wp2_with fail
  refine bodyPost_ret (v := .agg #[.slice A' vs.length c']) (by simp [results, Tryz.results27, go_sem, pc]) rfl ?_
  exact HF.out
end Go.Proofs.YtgklopgeimjgiaaGreatDoor
