/- Several texts in one: see each part's head. -/
import Derived.Laws.MakeOwn
import Derived.Laws.EntriesVeiled
import Derived.Test.YtgklopgeimjgiaaGreatDoorJ35
/- VerifySees: agg.doer. -/
namespace Go.Proofs.YtgklopgeimjgiaaGreatDoor
open Go.RowKit

theorem info_Is : (Tryz.prog.info? 111).map (fun i => (i.zero, i.size, i.bytes)) = some (some (.slice none 0 0), 1, 24) := by kernel_rfl
theorem made_c1 (v : Value) (hv : v.cells = #[v]) (n : Nat) : madeCells v.cells (n * 1) = Array.replicate n v := by
  rw [hv]
  apply Array.ext
  · simp [madeCells]
  · intro i h1 h2
    simp [madeCells, Nat.mod_one]
theorem madeI_run (n : Nat) (hn : n ≤ 1000) (W : World) : (Instr.makeSlice 110 (.int .i64 n) (.int .i64 n)).run Tryz.prog W = .ok (.slice (some ⟨W.heap.size, 0, none⟩) n n) (W.alloc (.cells (Array.replicate n (Value.slice none 0 0)) 111)) := by
  obtain ⟨i3, hi3, hy0, hy1, hy2⟩ := info_parts info_Is
  refine (run_makeSlice W 110 111 i3 _ Tryz.underlying110 hi3 hy0 .i64 .i64 n n (by omega) (by omega) (by rw [hy1]; omega) (by rw [hy2]; omega) (by omega)).trans ?_
  rw [hy1, show (n : Int).toNat = n by omega, made_c1 _ rfl]
/-- A row of numbers stays, where a block of slices turns. -/
theorem NRow.keepS {k : IntKind} {w : World} {A : Option Addr} {l : List Int} {q : Nat} {cs : Array Value} {t : TypeId} (h : NRow k w A l) (hq : Blk w q cs t) (hs : ∀ (j : Nat) (v : Value), cs[j]? = some v → ∃ A m c, v = Value.slice A m c) (ds : Array Value) : NRow k (putBlk w q ds t) A l := by
  refine ⟨h.1, fun hl => ?_⟩
  obtain ⟨b, off, rfl, hlt, hc⟩ := h.2 hl
  refine ⟨b, off, rfl, by rw [putBlk_size]; exact hlt, fun i v hi => ?_⟩
  have hne : b ≠ q := by
    intro e
    subst e
    have h1 := hc i v hi
    rw [hq.cell] at h1
    obtain ⟨A, m, c, e⟩ := hs _ _ h1
    cases e
  have e := hc i v hi
  rw [← e]
  have hh : (putBlk w q ds t).heap[b]? = w.heap[b]? := by
    unfold putBlk
    simp only
    rw [Array.getElem?_setIfInBounds_ne (Ne.symm hne)]
  simp only [World.cell?, hh]
/-- The kids of the first k tables are laid. -/
structure KdI (us : List Ta) (w : World) (q n k : Nat) (cs : Array Value) (wr : World) : Prop where
  f : Below w.heap.size w wr
  lo : w.heap.size ≤ q
  o : Blk wr q cs 111
  sz : cs.size = n
  s : ∀ (j : Nat) (v : Value), cs[j]? = some v → ∃ A m c, v = Value.slice A m c
  d : ∀ j, j < k → ∃ K kc, cs[j]? = some (.slice K (kidsR us j).length kc) ∧ NRow .i64 wr K (kidsR us j)
theorem KdI.ext {us : List Ta} {w wr w5 : World} {q n k : Nat} {cs : Array Value} (h : KdI us w q n k cs wr) (hb : Below wr.heap.size wr w5) : KdI us w q n k cs w5 :=
  ⟨bt h.f hb, h.lo, h.o.ext hb, h.sz, h.s, fun j hj => by obtain ⟨K, kc, h1, h2⟩ := h.d j hj; exact ⟨K, kc, h1, h2.ext hb⟩⟩
theorem KdI.step {us : List Ta} {w w5 : World} {q n k : Nat} {cs : Array Value} (h : KdI us w q n k cs w5) (hk : k < n) {K : Option Addr} {kc : Nat} (hn : NRow .i64 w5 K (kidsR us k)) :
    KdI us w q n (k + 1) (cs.setIfInBounds k (.slice K (kidsR us k).length kc)) (putBlk w5 q (cs.setIfInBounds k (.slice K (kidsR us k).length kc)) 111) := by
  refine ⟨putBlk_below _ _ h.f h.lo, h.lo, putBlk_blk _ _ h.o.lt, by rw [Array.size_setIfInBounds]; exact h.sz, fun j v hj => ?_, fun j hj => ?_⟩
  · rw [Array.getElem?_setIfInBounds] at hj
    split at hj
    · split at hj
      · cases hj; exact ⟨_, _, _, rfl⟩
      · cases hj
    · exact h.s j v hj
  · by_cases e : j = k
    · subst e
      refine ⟨K, kc, ?_, hn.keepS h.o h.s _⟩
      rw [Array.getElem?_setIfInBounds_self, if_pos (by rw [h.sz]; exact hk)]
    · obtain ⟨K2, kc2, h1, h2⟩ := h.d j (by omega)
      refine ⟨K2, kc2, ?_, h2.keepS h.o h.s _⟩
      rw [Array.getElem?_setIfInBounds_ne (Ne.symm e)]
      exact h1
def kKids (l : List Int) : Known := .mem (fun v w => ∃ A c, v = .slice A l.length c ∧ NRow .i64 w A l) (fun _ _ _ ⟨A, c, h1, h2⟩ hb => ⟨A, c, h1, h2.ext hb⟩)
def DoerQ (us : List Ta) (r M : Nat) (A : Option Addr) (c : Nat) (tn : Int) (l : List Rw) (w : World) (q : Ending) (w' : World) : Prop :=
  Below w.heap.size w w' ∧ ∃ bl b1 b3 b6, q = .returned (.func (.func 48) #[] #[.pointer (some ⟨bl, 0, none⟩), .pointer (some ⟨b1, 0, none⟩), .pointer (some ⟨b3, 0, none⟩), .pointer (some ⟨b6, 0, none⟩)]) ∧ DoE us r M A c tn l bl b1 b3 b6 w'
variable {us : List Ta} {r M : Nat} {A : Option Addr} {c : Nat} {tn : Int} {l : List Rw} {w : World}
set_option maxRecDepth 100000 in
set_option maxHeartbeats 3200000 in
theorem doer_any (h : RelR us r M A c tn l w) : Calls Tryz.prog 26 #[.pointer (some ⟨r, 0, none⟩)] w (DoerQ us r M A c tn l w) := by
  have HR := Lib.hid h
  have hlen := schN h.h
  have hbl : Below w.heap.size w (w.alloc (.cells #[.pointer (some ⟨r, 0, none⟩)] 30)) := (by repeat (first | exact Below.refl _ _ | assumption | refine Below.drew ?_ | refine below_drewN ?_ _ | refine Below.alloc ?_ (by simp <;> omega) _))
  have HSC := Lib.hid (relschema_any (h.ext hbl))
  have HB := Lib.hid hbl
  have HX1 : Hid (Blk (w.alloc (.cells #[.pointer (some ⟨r, 0, none⟩)] 30)) w.heap.size #[.pointer (some ⟨r, 0, none⟩)] 30) := Blk.new _ _ _
  clear h hbl
  go_enter Tryz.func26, Tryz.ntmps26
  go_upto_region 1 with fail
  generalize w.alloc (.cells #[.pointer (some ⟨r, 0, none⟩)] 30) = w1 at HSC HB HX1 ⊢
  generalize hb1 : w.heap.size = b1 at HX1 ⊢
  have HB1 := Lib.hid hb1
  clear hb1
  have x0 := HX1.out.cell 0
  have lx := HX1.out.lt
  simp only [List.getElem?_toArray, List.getElem?_cons_zero] at x0
  have hmk := fun (n : Nat) (hn : n ≤ 1000) (W : World) => madeI_run n hn W
  go_wp2_with fail
  refine HSC.out.mono ?_
  rintro q w2 ⟨hb2, A2, c2, vs, rfl, hos, hd⟩
  have HBB := Lib.hid (bt HB.out hb2)
  have HR2 := Lib.hid ((HR.out.ext HB.out).ext hb2)
  have HX2 := Lib.hid (HX1.out.ext hb2)
  have HOS := Lib.hid hos
  have HD := Lib.hid hd
  clear hb2 hos hd x0 lx HSC HX1
  obtain ⟨n, hn⟩ : ∃ n, n = vs.length := ⟨_, rfl⟩
  rw [← hn]
  have HN := Lib.hid hn
  have hn12 : n ≤ 12 := by
    have e := congrArg List.length HD.out
    rw [List.length_map, List.length_map] at e
    omega
  have hm1 := fun (W : World) => madeI_run n (by omega) W
  have HN12 := Lib.hid hn12
  clear hn hlen hmk hn12
  go_upto_region 3 with fail
  have hb3 : Below w2.heap.size w2 (((w2.alloc (.cells #[.slice A2 n c2] 24)).alloc (.cells (Array.replicate n (.slice none 0 0)) 111)).alloc (.cells #[.slice (some ⟨w2.heap.size + 1, 0, none⟩) n n] 110)) := (by repeat (first | exact Below.refl _ _ | assumption | refine Below.drew ?_ | refine below_drewN ?_ _ | refine Below.alloc ?_ (by simp <;> omega) _))
  have h3 : Blk (((w2.alloc (.cells #[.slice A2 n c2] 24)).alloc (.cells (Array.replicate n (.slice none 0 0)) 111)).alloc (.cells #[.slice (some ⟨w2.heap.size + 1, 0, none⟩) n n] 110)) w2.heap.size #[.slice A2 n c2] 24 := (by repeat (first | exact Blk.at (by simp) | assumption | refine Blk.drew ?_ | refine Blk.old ?_ _))
  have h4 : Blk (((w2.alloc (.cells #[.slice A2 n c2] 24)).alloc (.cells (Array.replicate n (.slice none 0 0)) 111)).alloc (.cells #[.slice (some ⟨w2.heap.size + 1, 0, none⟩) n n] 110)) (w2.heap.size + 1) (Array.replicate n (.slice none 0 0)) 111 := (by repeat (first | exact Blk.at (by simp) | assumption | refine Blk.drew ?_ | refine Blk.old ?_ _))
  have h5 : Blk (((w2.alloc (.cells #[.slice A2 n c2] 24)).alloc (.cells (Array.replicate n (.slice none 0 0)) 111)).alloc (.cells #[.slice (some ⟨w2.heap.size + 1, 0, none⟩) n n] 110)) (w2.heap.size + 1 + 1) #[.slice (some ⟨w2.heap.size + 1, 0, none⟩) n n] 110 := (by repeat (first | exact Blk.at (by simp) | assumption | refine Blk.drew ?_ | refine Blk.old ?_ _))
  have HQ2 : Hid (w.heap.size ≤ w2.heap.size + 1) := by show _ ≤ _; have := HBB.out.size; omega
  have HQ3 : Hid (w2.heap.size ≤ w2.heap.size + 1) := Nat.le_succ _
  generalize (((w2.alloc (.cells #[.slice A2 n c2] 24)).alloc (.cells (Array.replicate n (.slice none 0 0)) 111)).alloc (.cells #[.slice (some ⟨w2.heap.size + 1, 0, none⟩) n n] 110)) = w3 at hb3 h3 h4 h5 ⊢
  generalize w2.heap.size + 1 + 1 = bl at h5 ⊢
  generalize w2.heap.size + 1 = q at h4 h5 HQ2 HQ3 ⊢
  generalize hb3e : w2.heap.size = b3 at h3 ⊢
  have HB3E := Lib.hid hb3e
  clear hb3e
  have HKI : Hid (KdI us w2 q n 0 (Array.replicate n (.slice none 0 0)) w3) := by
    refine ⟨hb3, HQ3.out, h4, by simp, fun j v hj => ?_, fun j hj => by omega⟩
    rw [Array.getElem?_replicate] at hj
    split at hj
    · cases hj; exact ⟨_, _, _, rfl⟩
    · cases hj
  have H3 := Lib.hid h3
  have H5 := Lib.hid h5
  have HBL : Hid (w.heap.size ≤ b3 ∧ b1 ≠ q) := ⟨by have := HBB.out.size; have := HB3E.out; omega, by have := HX2.out.lt; have := HQ2.out; have := HB1.out; exact blk_nt (HX2.out.ext hb3) h4 (by decide)⟩
  have HKK : Hid (∀ (W : World) (k : Nat), Below w2.heap.size w2 W → Calls Tryz.prog 47 #[.agg #[.slice A2 n c2], .int .i64 k] W (RowPost1 (kidsR us k) W)) := fun W k hW => by
    have h := kids_any vs A2 c2 k W (HOS.out.trow.ext hW)
    rw [kidsR_d HD.out, ← HN.out] at h
    exact h
  have s0 := h3.cell 0
  have ls := h3.lt
  simp only [List.getElem?_toArray, List.getElem?_cons_zero] at s0
  clear hb3 h3 h4 h5 hm1
  go_wp2_with fail
  go_loopw [16] (fun v wr => ∃ k : Nat, k ≤ n ∧ v = .int .i64 k ∧ Hid (Blk wr b3 #[.slice A2 n c2] 24) ∧ Hid (Blk wr bl #[.slice (some ⟨q, 0, none⟩) n n] 110) ∧ ∃ cs, Hid (KdI us w2 q n k cs wr)) (fun v _ => n - (intOf v).toNat)
  case atStart => exact ⟨0, by omega, rfl, H3.out, H5.out, _, HKI.out⟩
  case round =>
    obtain ⟨k, hk, rfl, H3r, H5r, cs, HK⟩ := hrel
    clear s0 ls H3 H5 HKI
    by_cases hlt : k < n
    · have w1' : IntKind.i64.wrap ((k : Int) + 1) = (k : Int) + 1 := IntWalk.i64_in _ (by have := HN12.out; omega)
      have i0 : (k : Int) < n := by omega
      go_upto_region 6 with fail
      refine region_last 6 _ [false, false, false, false, false, false, false, false, false, false, false, false, false, false, false, false, false, false, false, true, true, true, true, true, true, false, false, false] [19, 20, 21, 22, 23, 24] [.val (.slice (some ⟨q, 0, none⟩) n n), .val (.int .i64 k), .val (.agg #[.slice A2 n c2]), .val (.int .i64 k), kKids (kidsR us k), .val (.pointer (some ⟨q, k, none⟩))] [5, 4] (by kernel_rfl) (by kernel_rfl) rfl (by kernel_rfl) (by kernel_rfl) (by kernel_rfl) (by kernel_rfl) (by kernel_rfl) ⟨?_, ?_, ?_, ?_, ?_, ?_, trivial⟩ ?done
      case done =>
        intro x9 w5 hb5
        simp only [StepGoal, List.getD_cons_zero, List.getD_cons_succ]
        rintro v ⟨A5, c5, rfl, hrow⟩ K hK
        have HK5 := Lib.hid ((HK.out.ext hb5).step (kc := c5) hlt hrow)
        have hq5 := HK.out.o.ext hb5
        have H35 := Lib.hid (H3r.out.ext hb5)
        have H55 := Lib.hid (H5r.out.ext hb5)
        have hkq : k < cs.size := by rw [HK.out.sz]; exact hlt
        obtain ⟨v0, hv0⟩ : ∃ v0, cs[k]? = some v0 := ⟨_, Array.getElem?_eq_getElem hkq⟩
        obtain ⟨z0, z1, z2, rfl⟩ := HK.out.s _ _ hv0
        have HV0 := Lib.hid hv0
        clear hb5 hrow hkq hv0
        obtain ⟨w6, rfl, lt⟩ := blk_put hq5
        have pc : (putBlk w6 q cs 111).cell? ⟨q, k, none⟩ = some (.slice z0 z1 z2) := ((putBlk_blk cs 111 lt).cell _).trans HV0.out
        have pf : (putBlk w6 q cs 111).frozen? ⟨q, k, none⟩ = false := (putBlk_blk cs 111 lt).frozen _
        have pS : ∀ v, (putBlk w6 q cs 111).setCell ⟨q, k, none⟩ v = putBlk w6 q (cs.setIfInBounds k v) 111 := fun v => putBlk_set cs 111 lt _ v
        have HQ := Lib.hid hq5
        rw [put_put'] at HK5
        clear hq5
        rw [if_pos (by rfl)]; simp only [overlay, upd, cond_true, cond_false, Nat.reduceEqDiff, reduceIte]
        go_simp
        refine hK.out _ _ ?_
        have H36 := Lib.hid (putBlk_old H35.out (blk_nt H35.out HQ.out (by decide)) (cs.setIfInBounds k (.slice A5 (kidsR us k).length c5)))
        have H56 := Lib.hid (putBlk_old H55.out (blk_nt H55.out HQ.out (by decide)) (cs.setIfInBounds k (.slice A5 (kidsR us k).length c5)))
        clear pc pf pS
        go_wp2_with fail
        go_roundw
        case rel => exact ⟨k + 1, by omega, by simp, H36.out, H56.out, _, HK5.out⟩
        case measure =>
          show n - ((k : Int) + 1).toNat < n - (k : Int).toNat
          omega
      all_goals
        intro x9 w8 hT8
        have h38 := H3r.out.ext hT8
        have s0 := h38.cell 0
        have ls := h38.lt
        have h58 := H5r.out.ext hT8
        have o0 := h58.cell 0
        have lo' := h58.lt
        have lq := (HK.out.o.ext hT8).lt
        simp only [List.getElem?_toArray, List.getElem?_cons_zero] at s0 o0
        clear h38 h58
        first
          | (intro K hK
             rw [if_pos (by rfl)]; simp only [overlay, upd, cond_true, cond_false, List.getD_cons_zero, List.getD_cons_succ, Nat.reduceEqDiff, reduceIte]
             go_simp
             first
               | exact hK.out _ _ (Below.refl _ _) rfl
               | (refine (HKK.out _ k (bt HK.out.f hT8)).mono ?_
                  rintro q w9 ⟨hb9, A9, c9, rfl, hrow⟩
                  go_wp2_with fail
                  exact hK.out _ _ hb9 ⟨A9, c9, rfl, hrow⟩))
          | (rintro _ ⟨A9, c9, rfl, hrow⟩ K hK
             rw [if_pos (by rfl)]; simp only [overlay, upd, cond_true, cond_false, List.getD_cons_zero, List.getD_cons_succ, Nat.reduceEqDiff, reduceIte]
             go_simp
             first
               | exact hK.out _ _ (Below.refl _ _) rfl)
    · have hke : n = k := by omega
      subst hke
      have i0 : ¬ (n : Int) < n := by omega
      go_upto_region 9 with fail
      have h6 := Blk.new wr #[.nilFunc] 69
      have hb6 : Below wr.heap.size wr (wr.alloc (.cells #[.nilFunc] 69)) := (by repeat (first | exact Below.refl _ _ | assumption | refine Below.drew ?_ | refine below_drewN ?_ _ | refine Below.alloc ?_ (by simp <;> omega) _))
      generalize wr.alloc (.cells #[.nilFunc] 69) = w6 at h6 hb6 ⊢
      generalize hb6e : wr.heap.size = b6 at h6 ⊢
      obtain ⟨w7, rfl, lt⟩ := blk_put h6
      obtain ⟨pc, pf, pS⟩ := putBlk_facts (w := w7) 69 lt
      have hbW := putBlk_belows hb6 (Nat.le_of_eq hb6e) #[.func (.func 48) #[] #[.pointer (some ⟨bl, 0, none⟩), .pointer (some ⟨b1, 0, none⟩), .pointer (some ⟨b3, 0, none⟩), .pointer (some ⟨b6, 0, none⟩)]]
      have hlu : n = us.length := by
        have e := congrArg List.length HD.out
        rw [List.length_map, List.length_map] at e
        rw [HN.out, e]
      have HF : Hid (DoerQ us r M A c tn l w (.returned (.func (.func 48) #[] #[.pointer (some ⟨bl, 0, none⟩), .pointer (some ⟨b1, 0, none⟩), .pointer (some ⟨b3, 0, none⟩), .pointer (some ⟨b6, 0, none⟩)])) (putBlk w7 b6 #[.func (.func 48) #[] #[.pointer (some ⟨bl, 0, none⟩), .pointer (some ⟨b1, 0, none⟩), .pointer (some ⟨b3, 0, none⟩), .pointer (some ⟨b6, 0, none⟩)]] 69)) := by
        have h2 := bt HK.out.f hbW
        have hk := HK.out.ext hbW
        refine ⟨bt HBB.out h2, bl, b1, b3, b6, rfl, HR2.out.ext h2, HX2.out.ext h2, ⟨vs, A2, c2, ?_, HOS.out.trow.ext h2, HD.out⟩, ⟨q, n, ?_, hk.o.lt, fun t ht => ?_⟩, putBlk_blk _ _ lt⟩
        · rw [← HN.out]; exact H3r.out.ext hbW
        · rw [← hlu]; exact H5r.out.ext hbW
        · obtain ⟨K, kc, k1, k2⟩ := hk.d t (by omega)
          exact ⟨K, kc, (hk.o.cell t).trans k1, k2⟩
      clear h6 hb6 hbW hlu hb6e
      go_wp2_with fail
      go_ret
      exact HF.out
end Go.Proofs.YtgklopgeimjgiaaGreatDoor
