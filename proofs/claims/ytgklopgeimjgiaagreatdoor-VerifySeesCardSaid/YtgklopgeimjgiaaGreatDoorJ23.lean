/- Several texts in one: see each part's head. -/
import Derived.Test.YtgklopgeimjgiaaGreatDoorJ22
/- VerifySees: rel.insert, update, remove. -/
namespace Go.Proofs.YtgklopgeimjgiaaGreatDoor
open Go.RowKit

variable {us : List Ta} {r M : Nat} {A : Option Addr} {c : Nat} {tn : Int} {l : List Rw} {w w' : World}
open Classical in
noncomputable def insF (us : List Ta) (l : List Rw) (x : Rw) : Int × List Rw :=
  if HasP (plN us) l (plN us x) then (9, l) else if 200 ≤ l.length then (4, l) else (0, l.take (atI (plN us) l (plN us x)) ++ x :: l.drop (atI (plN us) l (plN us x)))
open Classical in
noncomputable def updF (us : List Ta) (l : List Rw) (x : Rw) : Int × List Rw :=
  if HasP (plN us) l (plN us x) then (0, l.set (atI (plN us) l (plN us x)) x) else (3, l)
open Classical in
noncomputable def delF (us : List Ta) (l : List Rw) (p : Nat × V) : Int × List Rw :=
  if HasP (plN us) l p then (0, l.eraseIdx (atI (plN us) l p)) else (3, l)
theorem doS_ins {t : Int} {row : List V} (h : rowS us t row = true) : doS us l 1 t row = insF us l (t.toNat, row) := by
  unfold doS insF
  rw [if_neg (by omega), if_pos ⟨Or.inl rfl, h⟩]
  simp only [if_true]
theorem doS_upd {t : Int} {row : List V} (h : rowS us t row = true) : doS us l 2 t row = updF us l (t.toNat, row) := by
  unfold doS updF
  rw [if_neg (by omega), if_pos ⟨Or.inr rfl, h⟩]
  simp only [show ¬ (2 : Int) = 1 by omega, if_false]
theorem doS_del {t : Int} {k : V} (h : keyS us t k = true) : doS us l 3 t [k] = delF us l (t.toNat, k) := by
  unfold doS delF
  rw [if_pos rfl]
  simp only []
  rw [if_pos h]
theorem nd_idx {α : Type} {l : List α} (h : l.Nodup) {i j : Nat} {x : α} (hi : l[i]? = some x) (hj : l[j]? = some x) : i = j := by
  obtain ⟨h1, e1⟩ := List.getElem?_eq_some_iff.1 hi
  obtain ⟨h2, e2⟩ := List.getElem?_eq_some_iff.1 hj
  have hp := List.pairwise_iff_getElem.1 h
  rcases Nat.lt_trichotomy i j with h' | h' | h'
  · exact absurd (e1.trans e2.symm) (hp i j h1 h2 h')
  · exact h'
  · exact absurd (e2.trans e1.symm) (hp j i h2 h1 h')
theorem set_mem (hs : Ris (plN us) l) {x y0 : Rw} {i : Nat} (hi : l[i]? = some y0) (he : plN us x = plN us y0) (y : Rw) : y ∈ l.set i x ↔ y = x ∨ (y ∈ l ∧ plN us y ≠ plN us x) := by
  have hlt := (List.getElem?_eq_some_iff.1 hi).1
  constructor
  · intro h
    obtain ⟨j, hj⟩ := List.getElem?_of_mem h
    rw [List.getElem?_set] at hj
    by_cases e : i = j
    · rw [if_pos e, if_pos hlt, Option.some.injEq] at hj
      exact Or.inl hj.symm
    · rw [if_neg e] at hj
      right
      refine ⟨List.mem_of_getElem? hj, fun e2 => ?_⟩
      have e3 := ris_one hs (List.mem_of_getElem? hj) (List.mem_of_getElem? hi) (e2.trans he)
      subst e3
      exact e (nd_idx (ris_nodup hs) hi hj)
  · rintro (rfl | ⟨h1, h2⟩)
    · exact List.mem_of_getElem? (List.getElem?_set_self hlt)
    · obtain ⟨j, hj⟩ := List.getElem?_of_mem h1
      refine List.mem_of_getElem? (i := j) ?_
      rw [List.getElem?_set_ne (fun e => ?_)]
      · exact hj
      · subst e
        rw [hi, Option.some.injEq] at hj
        subst hj
        exact h2 he.symm
theorem del_mem (hs : Ris (plN us) l) {y0 : Rw} {i : Nat} (hi : l[i]? = some y0) (y : Rw) : y ∈ l.eraseIdx i ↔ y ∈ l ∧ plN us y ≠ plN us y0 := by
  rw [List.mem_eraseIdx_iff_getElem?]
  constructor
  · rintro ⟨j, hj, hy⟩
    refine ⟨List.mem_of_getElem? hy, fun e => ?_⟩
    have e3 := ris_one hs (List.mem_of_getElem? hy) (List.mem_of_getElem? hi) e
    subst e3
    exact hj (nd_idx (ris_nodup hs) hy hi)
  · rintro ⟨h1, h2⟩
    obtain ⟨j, hj⟩ := List.getElem?_of_mem h1
    refine ⟨j, fun e => ?_, hj⟩
    subst e
    rw [hi, Option.some.injEq] at hj
    subst hj
    exact h2 rfl
theorem row_in {t : Nat} {row : List V} (h : rowS us t row = true) (hs : schB us = true) : row ≠ [] ∧ row.length ≤ 8 := by
  unfold rowS at h
  rw [Bool.and_eq_true] at h
  obtain ⟨j, u, h1, h2, h3, _⟩ := has_at h.1
  have h4 := h.2
  have e : ((t : Int).toNat) = j := by omega
  rw [e, h3] at h4
  have h5 := schT hs h3
  simp only at h4
  unfold rowF at h4
  rw [Bool.and_eq_true, decide_eq_true_eq] at h4
  exact ⟨fun e => by rw [e] at h4; simp at h4; rw [h4.1] at h5; simp at h5, by omega⟩
theorem zero_row (W : World) : (zeroValue 26).run Tryz.prog W = .ok (.slice none 0 0) W := by kernel_rfl
/-- What an op at a place does. -/
def OpQ (us : List Ta) (r M : Nat) (A : Option Addr) (c : Nat) (tn : Int) (F : Int × List Rw) (w : World) (q : Ending) (w' : World) : Prop :=
  q = .returned (.int .i64 F.1) ∧ Chg [M] w w' ∧ RelR us r M A c tn F.2 w'
theorem opq_same (h : RelR us r M A c tn l w) (hb : Below w.heap.size w w') {e : Int} : OpQ us r M A c tn (e, l) w (.returned (.int .i64 e)) w' := ⟨rfl, Chg.of_below hb, h.ext hb⟩
/-- A row laid: the state behind the store. -/
theorem RelR.laid {x : Rw} {w1 w2 : World} {l' : List Rw} {B : Option Addr} {bc : Nat} (h : RelR us r M A c tn l w) (hf : rowS us x.1 x.2 = true) (hb : Below w.heap.size w w1) (hro : RowO w1 B bc x.2)
    (hi : StI us l') (hm : ∀ y, y ∈ l' ↔ y = x ∨ (y ∈ l ∧ plN us y ≠ plN us x)) (hl1 : HasP (plN us) l (plN us x) → l'.length = l.length) (hl2 : ¬ HasP (plN us) l (plN us x) → l'.length = l.length + 1)
    (hrun : ∀ ks' E', ks'.Nodup → (∀ q, q ∈ ks' ↔ q = plI us x ∨ q ∈ l.map (plI us)) → (plI us x ∈ l.map (plI us) → ks'.length = (l.map (plI us)).length) → (plI us x ∉ l.map (plI us) → ks'.length = (l.map (plI us)).length + 1) → E' (plI us x) (.slice B x.2.length bc) → (∀ q ∈ l.map (plI us), q ≠ plI us x → ∀ u, ElR us w1 l q u → E' q u) → MapG 101 w2 M ks' E') (ht : w1.mapTurned w2 M) :
    Chg [M] w w2 ∧ RelR us r M A c tn l' w2 := by
  have h1 := h.ext hb
  have hc := turned_chg ht
  have ho : Oth w1 [M] := fun i hi => h1.oth i (List.mem_cons_of_mem _ hi)
  refine ⟨(Chg.of_below hb).trans hc (by simp), h1.b.chg hc (by rw [List.mem_singleton]; exact h1.ne), h1.s.chg hc ho, ?_, hi, h.h⟩
  refine hrun (l'.map (plI us)) (ElR us w2 l') hi.nd ?_ ?_ ?_ ?_ ?_
  · intro q
    rw [List.mem_map, List.mem_map]
    constructor
    · rintro ⟨y, hy, rfl⟩
      rcases (hm y).1 hy with rfl | ⟨hy, _⟩
      · exact Or.inl rfl
      · exact Or.inr ⟨y, hy, rfl⟩
    · rintro (rfl | ⟨y, hy, rfl⟩)
      · exact ⟨x, (hm x).2 (Or.inl rfl), rfl⟩
      · by_cases e : plN us y = plN us x
        · exact ⟨x, (hm x).2 (Or.inl rfl), plI_plN.2 e.symm⟩
        · exact ⟨y, (hm y).2 (Or.inr ⟨hy, e⟩), rfl⟩
  · intro hp
    rw [List.length_map, List.length_map]
    exact hl1 ((pl_mem x rfl).1 hp)
  · intro hp
    rw [List.length_map, List.length_map]
    exact hl2 (fun hh => hp ((pl_mem x rfl).2 hh))
  · exact ⟨x, (hm x).2 (Or.inl rfl), rfl, B, bc, rfl, hro.chg hc ho⟩
  · rintro q hq hne u ⟨y, hy, rfl, B', bc', rfl, hro'⟩
    exact ⟨y, (hm y).2 (Or.inr ⟨hy, fun e => hne (plI_plN.2 e)⟩), rfl, B', bc', rfl, hro'.chg hc ho⟩
theorem ins_put {x : Rw} {w1 : World} {B : Option Addr} {bc : Nat} (h : RelR us r M A c tn l w) (hf : rowS us x.1 x.2 = true) (hw : ∀ v ∈ x.2, v.wf) (hn : ¬ HasP (plN us) l (plN us x)) (hl : ¬ 200 ≤ l.length) (hb : Below w.heap.size w w1) (hro : RowO w1 B bc x.2) :
    ∃ w2, (Instr.mapUpdate 90 (.map (some M)) (plc x.1 (keyN us x.1 x.2)) (.slice B x.2.length bc)).run Tryz.prog w1 = .ok () w2 ∧ OpQ us r M A c tn (insF us l x) w (.returned (.int .i64 0)) w2 := by
  have hok := plI_ok h.h hf hw
  obtain ⟨w2, hrun, ht, hm⟩ := (h.ext hb).m.put keyT_place Tryz.underlying90 hok (by rw [List.length_map]; have := h.i.few; omega) (.slice B x.2.length bc)
  have hi := doS_ok h.i 1 x.1 hw
  rw [doS_ins hf] at hi
  have e : insF us l x = (0, l.take (atI (plN us) l (plN us x)) ++ x :: l.drop (atI (plN us) l (plN us x))) := by unfold insF; rw [if_neg hn, if_neg hl]
  have e0 : (((x.1 : Int).toNat, x.2) : Rw) = x := by cases x; simp
  rw [e0, e] at hi
  refine ⟨w2, hrun, ?_⟩
  have := RelR.laid h hf hb hro hi (fun y => ?_) (fun hh => absurd hh hn) (fun _ => ?_) hm ht
  · rw [e]; exact ⟨rfl, this⟩
  · rw [ins_mem]
    exact ⟨fun h' => h'.elim Or.inl fun h' => Or.inr ⟨h', fun e => hn ⟨y, h', e⟩⟩, fun h' => h'.elim Or.inl fun h' => Or.inr h'.1⟩
  · rw [List.length_append, List.length_cons, List.length_take, List.length_drop]
    have := atI_le (pl := plN us) (p := plN us x) l
    omega
theorem upd_put {x : Rw} {w1 : World} {B : Option Addr} {bc : Nat} (h : RelR us r M A c tn l w) (hf : rowS us x.1 x.2 = true) (hw : ∀ v ∈ x.2, v.wf) (hn : HasP (plN us) l (plN us x)) (hb : Below w.heap.size w w1) (hro : RowO w1 B bc x.2) :
    ∃ w2, (Instr.mapUpdate 90 (.map (some M)) (plc x.1 (keyN us x.1 x.2)) (.slice B x.2.length bc)).run Tryz.prog w1 = .ok () w2 ∧ OpQ us r M A c tn (updF us l x) w (.returned (.int .i64 0)) w2 := by
  have hok := plI_ok h.h hf hw
  obtain ⟨w2, hrun, ht, hm⟩ := (h.ext hb).m.put keyT_place Tryz.underlying90 hok (by rw [List.length_map]; have := h.i.few; omega) (.slice B x.2.length bc)
  have hi := doS_ok h.i 2 x.1 hw
  rw [doS_upd hf] at hi
  have e : updF us l x = (0, l.set (atI (plN us) l (plN us x)) x) := by unfold updF; rw [if_pos hn]
  have e0 : (((x.1 : Int).toNat, x.2) : Rw) = x := by cases x; simp
  rw [e0, e] at hi
  obtain ⟨y0, h1, h2⟩ := (at_has h.i.ris).1 hn
  refine ⟨w2, hrun, ?_⟩
  have := RelR.laid h hf hb hro hi (set_mem h.i.ris h1 h2.symm) (fun _ => by rw [List.length_set]) (fun hh => absurd hn hh) hm ht
  rw [e]; exact ⟨rfl, this⟩
theorem del_put {p : Nat × V} {w1 : World} (h : RelR us r M A c tn l w) (hp : okP ((p.1 : Int), p.2)) (hn : HasP (plN us) l p) (hb : Below w.heap.size w w1) (ty : TypeId) (hi : StI us (delF us l p).2) :
    ∃ w2, (Builtin.delete_ #[90, 101] ty #[.map (some M), plc p.1 p.2]).run Tryz.prog w1 = .ok (.tuple #[]) w2 ∧ OpQ us r M A c tn (delF us l p) w (.returned (.int .i64 0)) w2 := by
  obtain ⟨y0, h1, h2⟩ := (at_has h.i.ris).1 hn
  have hpy : plI us y0 = ((p.1 : Int), p.2) := by unfold plI; unfold plN at h2; rw [← h2]
  have hin : ((p.1 : Int), p.2) ∈ l.map (plI us) := List.mem_map.2 ⟨y0, List.mem_of_getElem? h1, hpy⟩
  have h1e := h.ext hb
  obtain ⟨w2, hrun, ht, hm⟩ := h1e.m.del keyT_place Tryz.underlying90 hp hin ty
  have e : delF us l p = (0, l.eraseIdx (atI (plN us) l p)) := by unfold delF; rw [if_pos hn]
  rw [e] at hi ⊢
  have hc := turned_chg ht
  have ho : Oth w1 [M] := fun i hi => h1e.oth i (List.mem_cons_of_mem _ hi)
  refine ⟨w2, hrun, rfl, (Chg.of_below hb).trans hc (by simp), h1e.b.chg hc (by rw [List.mem_singleton]; exact h1e.ne), h1e.s.chg hc ho, ?_, hi, h.h⟩
  refine hm _ _ hi.nd (fun q => ?_) ?_ ?_
  · rw [List.mem_map, List.mem_map]
    constructor
    · rintro ⟨y, hy, rfl⟩
      obtain ⟨h3, h4⟩ := (del_mem h.i.ris h1 y).1 hy
      exact ⟨⟨y, h3, rfl⟩, fun e => h4 (plI_plN.1 (e.trans hpy.symm))⟩
    · rintro ⟨⟨y, hy, rfl⟩, hne⟩
      exact ⟨y, (del_mem h.i.ris h1 y).2 ⟨hy, fun e => hne ((plI_plN.2 e).trans hpy)⟩, rfl⟩
  · rw [List.length_map, List.length_map, List.length_eraseIdx_of_lt (List.getElem?_eq_some_iff.1 h1).1]
    have := (List.getElem?_eq_some_iff.1 h1).1
    omega
  · rintro q hq hne u ⟨y, hy, rfl, B', bc', rfl, hro'⟩
    exact ⟨y, (del_mem h.i.ris h1 y).2 ⟨hy, fun e => hne ((plI_plN.2 e).trans hpy)⟩, rfl, B', bc', rfl, hro'.chg hc ho⟩
/-- What stands at a place, in whatever world has the map as it is. -/
theorem RelR.look {p : Int × V} (h : RelR us r M A c tn l w) (hp : okP p) :
    (p ∈ l.map (plI us) ∧ ∃ v, ElR us w l p v ∧ ∀ W : World, Below w.heap.size w W → (Instr.lookup 90 (.map (some M)) (plc p.1 p.2) true).run Tryz.prog W = .ok (.tuple #[v, .bool true]) W ∧ (Instr.lookup 90 (.map (some M)) (plc p.1 p.2) false).run Tryz.prog W = .ok v W)
    ∨ (p ∉ l.map (plI us) ∧ ∀ W : World, Below w.heap.size w W → (Instr.lookup 90 (.map (some M)) (plc p.1 p.2) true).run Tryz.prog W = .ok (.tuple #[.slice none 0 0, .bool false]) W ∧ (Instr.lookup 90 (.map (some M)) (plc p.1 p.2) false).run Tryz.prog W = .ok (.slice none 0 0) W) := by
  rcases h.m.look keyT_place Tryz.underlying90 zero_row hp with ⟨h1, v, h2, h3⟩ | ⟨h1, h3⟩
  · exact Or.inl ⟨h1, v, h2, fun W hW => h3 W (hW.block M h.m.lt)⟩
  · exact Or.inr ⟨h1, fun W hW => h3 W (hW.block M h.m.lt)⟩
theorem RelR.mlen (h : RelR us r M A c tn l w) (ty : TypeId) {W : World} (hW : Below w.heap.size w W) : (Builtin.len_ #[90] ty #[.map (some M)]).run Tryz.prog W = .ok (.int .i64 l.length) W := by
  have := (h.ext hW).m.len (mt := 90) Tryz.underlying90 ty
  rwa [List.length_map] at this
set_option maxRecDepth 100000 in
set_option maxHeartbeats 1600000 in
theorem insert_any {x : Rw} (h : RelR us r M A c tn l w) (hf : rowS us x.1 x.2 = true) (B : Option Addr) (rc : Nat) (hv : VRow w B x.2) :
    Calls Tryz.prog 67 #[.pointer (some ⟨r, 0, none⟩), plc x.1 (keyN us x.1 x.2), .slice B x.2.length rc] w (OpQ us r M A c tn (insF us l x) w) := by
  have hok := plI_ok h.h hf hv.1
  have hri := row_in hf h.h
  have HLK := h.look hok
  have HPM : plI us x ∈ l.map (plI us) ↔ HasP (plN us) l (plN us x) := pl_mem x rfl
  have HCL := Lib.hid (fun (W : World) (hW : Below w.heap.size w W) => clone_row x.2 B rc W (hv.ext hW) hri.1 (by omega))
  have HPUT := Lib.hid (fun (hn : ¬ HasP (plN us) l (plN us x)) (hl : ¬ 200 ≤ l.length) (w1 : World) (hb : Below w.heap.size w w1) (B : Option Addr) (bc : Nat) (hro : RowO w1 B bc x.2) => ins_put h hf hv.1 hn hl hb hro)
  have HSAME := Lib.hid (fun (w' : World) (hb : Below w.heap.size w w') (e : Int) => opq_same h hb (e := e))
  have HLEN := Lib.hid (fun (W : World) (hW : Below w.heap.size w W) (ty : TypeId) => h.mlen ty hW)
  have HB := Lib.hid h.b
  have hlf := h.i.few
  obtain ⟨V0, IS, HIS, HLK⟩ : ∃ (V0 : Value) (IS : Bool), (IS = true ↔ HasP (plN us) l (plN us x)) ∧ ∀ W : World, Below w.heap.size w W → (Instr.lookup 90 (.map (some M)) (plc (plI us x).1 (plI us x).2) true).run Tryz.prog W = .ok (.tuple #[V0, .bool IS]) W := by
    rcases HLK with ⟨h1, v, _, h2⟩ | ⟨h1, h2⟩
    · exact ⟨v, true, ⟨fun _ => HPM.1 h1, fun _ => rfl⟩, fun W hW => (h2 W hW).1⟩
    · exact ⟨_, false, ⟨(fun h => by cases h), fun h => absurd (HPM.2 h) h1⟩, fun W hW => (h2 W hW).1⟩
  unfold plI at HLK
  simp only at HLK
  obtain ⟨F, hF⟩ : ∃ q, q = insF us l x := ⟨_, rfl⟩
  have HF9 : Hid (HasP (plN us) l (plN us x) → F = (9, l)) := fun hh => by rw [hF]; unfold insF; rw [if_pos hh]
  have HF4 : Hid (¬ HasP (plN us) l (plN us x) → 200 ≤ l.length → F = (4, l)) := fun hh h2 => by rw [hF]; unfold insF; rw [if_neg hh, if_pos h2]
  rw [← hF] at HPUT ⊢
  obtain ⟨t, row⟩ := x
  simp only at HLK HCL HPUT ⊢
  generalize keyN us t row = key at HLK HPUT ⊢
  obtain ⟨kk, kn, kr, kt⟩ := key
  unfold plc at HLK HPUT ⊢
  simp only at HLK HPUT ⊢
  clear h hF hok hv hf hri
  have HLK := Lib.hid HLK
  have HIS := Lib.hid HIS
  clear HPM
  generalize (t : Int) = x1 at HLK HPUT ⊢
  go_enter Tryz.func67, Tryz.ntmps67
  have hC : Below w.heap.size w (w.alloc (.cells #[.int .i64 x1, .int .u8 kk, .int .i64 kn, .int .u64 kr, .string kt] 101)) := (by repeat (first | exact Below.refl _ _ | assumption | refine Below.drew ?_ | refine below_drewN ?_ _ | refine Below.alloc ?_ (by simp <;> omega) _))
  have hb0 := Blk.new w #[.int .i64 x1, .int .u8 kk, .int .i64 kn, .int .u64 kr, .string kt] 101
  have HC := Lib.hid hC
  have HB0 := Lib.hid hb0
  clear hC hb0
  go_upto_region 1 with fail
  generalize w.alloc (.cells #[.int .i64 x1, .int .u8 kk, .int .i64 kn, .int .u64 kr, .string kt] 101) = W0 at HC HB0 ⊢
  generalize hB0 : w.heap.size = B0 at HB0 ⊢
  clear hB0
  go_cut [7, 8] (fun p q wx => p = V0 ∧ q = .bool IS ∧ Hid (Below w.heap.size w wx) ∧ Hid (Blk wx B0 #[.int .i64 x1, .int .u8 kk, .int .i64 kn, .int .u64 kr, .string kt] 101))
  case first =>
    refine region_grow [false, false, false, false, false, false, false, true, true, true, true, true, true, true, true, true, true, true, false, false, false, false, false, false, false, false, false, false, false, false, false, false, false, false] [10, 11, 12, 13, 14, 15, 9, 16, 17, 7, 8] [.val (.pointer (some ⟨r, 0, none⟩)), .val (.pointer (some ⟨r, 0, none⟩)), .val (.pointer (some ⟨r, 1, none⟩)), .val (.map (some M)), .val (.agg #[.int .i64 x1, .int .u8 kk, .int .i64 kn, .int .u64 kr, .string kt]), .val (.tuple #[V0, .bool IS]), .val (.tuple #[V0, .bool IS]), .val (V0), .val (.bool IS), .val (V0), .val (.bool IS)] [9, 10] (by kernel_rfl) (by kernel_rfl) (by kernel_rfl) (by kernel_rfl) (by kernel_rfl) ⟨?_, ?_, ?_, ?_, ?_, ?_, ?_, ?_, ?_, ?_, ?_, trivial⟩ ?done
    case done =>
      intro x w5 hb5
      simp only [StepGoal, overlay, upd, cond_true, cond_false, List.getD_cons_zero, List.getD_cons_succ, Nat.zero_add, Nat.reduceAdd, Nat.reduceEqDiff, reduceIte]
      go_wp2_with fail
      go_meet
      exact ⟨rfl, rfl, bt HC.out hb5, HB0.out.ext hb5⟩
    all_goals
      intro x w5 hb5
      intro K hK
      have hB := HB.out.ext (bt HC.out hb5)
      have hB0 := HB0.out.ext hb5
      have y1 := hB.cell 1
      have x0 := hB0.cell 0
      have x1' := hB0.cell 1
      have x2 := hB0.cell 2
      have x3 := hB0.cell 3
      have x4 := hB0.cell 4
      have ly := hB.lt
      have lx := hB0.lt
      have hlk := HLK.out w5 (bt HC.out hb5)
      simp only [List.getElem?_toArray, List.getElem?_cons_zero, List.getElem?_cons_succ] at y1 x0 x1' x2 x3 x4
      rw [if_pos (by rfl)]; simp only [overlay, upd, cond_true, cond_false, List.getD_cons_zero, List.getD_cons_succ, Nat.reduceEqDiff, reduceIte]
      go_simp
      exact hK.out _ _ (Below.refl _ _) rfl
  case rest =>
    obtain ⟨rfl, rfl, HC1, HB0⟩ := hcut
    rename World => w1
    have hB := HB.out.ext HC1.out
    have y1 := hB.cell 1
    have ly := hB.lt
    simp only [List.getElem?_toArray, List.getElem?_cons_zero, List.getElem?_cons_succ] at y1
    clear hB HLK
    cases IS
    · have hn : ¬ HasP (plN us) l (plN us (t, row)) := fun hh => by have := HIS.out.2 hh; cases this
      have hlen := HLEN.out w1 HC1.out
      by_cases h200 : 200 ≤ l.length
      · have HE := Lib.hid (HF4.out hn h200)
        have h2 : (200 : Int) ≤ l.length := by omega
        clear hn
        go_wp2_with fail
        go_ret
        rw [HE.out]
        exact HSAME.out _ HC1.out _
      · have HPT := Lib.hid (HPUT.out hn h200)
        have h2 : ¬ (200 : Int) ≤ l.length := by omega
        clear hn HPUT
        go_upto_region 6 with fail
        clear hlen y1 ly
        refine region_last 7 _ [false, false, false, false, false, false, false, false, false, false, false, false, false, false, false, false, false, false, false, false, false, false, false, false, false, false, false, true, true, true, true, true, true, true] [27, 28, 29, 30, 31, 32, 33] [.val (.pointer (some ⟨r, 0, none⟩)), .val (.pointer (some ⟨r, 0, none⟩)), .val (.pointer (some ⟨r, 1, none⟩)), .val (.map (some M)), .val (.agg #[.int .i64 x1, .int .u8 kk, .int .i64 kn, .int .u64 kr, .string kt]), .val (.slice B row.length rc), .mem (fun v w2 => ∃ A c, v = .slice A row.length c ∧ RowO w2 A c row) (fun v w2 w3 ⟨A, c, h1, h2⟩ hb => ⟨A, c, h1, h2.ext hb⟩)] [3, 4, 6] (by kernel_rfl) (by kernel_rfl) rfl (by kernel_rfl) (by kernel_rfl) (by kernel_rfl) (by kernel_rfl) (by kernel_rfl) ⟨?_, ?_, ?_, ?_, ?_, ?_, ?_, trivial⟩ ?done
        case done =>
          intro x w5 hb5
          simp only [StepGoal, List.getD_cons_zero, List.getD_cons_succ]
          rintro v ⟨B2, c2, rfl, hro⟩ K hK
          obtain ⟨w6, hrun, hq⟩ := HPT.out w5 (bt HC1.out hb5) B2 c2 hro
          have HQ := Lib.hid hq
          clear hq hro
          rw [if_pos (by rfl)]; simp only [overlay, upd, cond_true, cond_false, Nat.reduceEqDiff, reduceIte]
          go_simp
          refine hK.out _ _ ?_
          clear hrun
          go_wp2_with fail
          go_ret
          exact HQ.out
        all_goals
          intro x w5 hb5
          intro K hK
          have hB := HB.out.ext (bt HC1.out hb5)
          have hB0 := HB0.out.ext hb5
          have y1 := hB.cell 1
          have x0 := hB0.cell 0
          have x1' := hB0.cell 1
          have x2 := hB0.cell 2
          have x3 := hB0.cell 3
          have x4 := hB0.cell 4
          have ly := hB.lt
          have lx := hB0.lt
          simp only [List.getElem?_toArray, List.getElem?_cons_zero, List.getElem?_cons_succ] at y1 x0 x1' x2 x3 x4
          rw [if_pos (by rfl)]; simp only [overlay, upd, cond_true, cond_false, List.getD_cons_zero, List.getD_cons_succ, Nat.reduceEqDiff, reduceIte]
          go_simp
          first
            | exact hK.out _ _ (Below.refl _ _) rfl
            | ((with_reducible refine (HCL.out _ (bt HC1.out hb5)).mono ?_); rintro e wa ⟨hba, A2, c2, rfl, ho2⟩; go_wp2_with fail; exact hK.out _ _ hba ⟨A2, c2, rfl, ho2⟩)
    · have HE := Lib.hid (HF9.out (HIS.out.1 rfl))
      go_wp2_with fail
      go_ret
      rw [HE.out]
      exact HSAME.out _ HC1.out _
end Go.Proofs.YtgklopgeimjgiaaGreatDoor
