/- Texts joined by a tool: contracts and walks of this claim. -/
import Derived.Test.YtfekohonidggjaaGreatDoorB16
import Derived.Maps.RangeWalk
namespace Go.Proofs.YtfekohonidggjaaGreatDoor
open Go.RowKit
def MS (w : World) (M n : Nat) (f : List UInt8 → Option Value) : Prop :=
 ∃ D : DataW Value, w.ownsMap Tryz.prog 9 RW M n D ∧ Maps.IsMap D ∧ ∀ (k : List UInt8) z, D.atKey (.string k) z = ((f k).map DataW.held).getD z
theorem MS.ext {w w' : World} {M n : Nat} {f : List UInt8 → Option Value} (h : MS w M n f) (hb : Below w.heap.size w w') : MS w' M n f := by
 obtain ⟨D, h1, h2, h3⟩ := h
 exact ⟨D, own_map_below h1 hb, h2, h3⟩
theorem MS.new (w : World) : MS (w.alloc (.map #[] 0)) w.heap.size 0 (fun _ => none) := ⟨.map [], World.ownsMap_made _ _ _ _, Maps.isMap_empty, fun _ _ => rfl⟩
def putF (f : List UInt8 → Option Value) (s : List UInt8) (v : Value) : List UInt8 → Option Value := fun k => if k = s then some v else f k
theorem MS.put {w : World} {M n : Nat} {f : List UInt8 → Option Value} (h : MS w M n f) (hn : n < 1000) (s : List UInt8) (hs : s.length ≤ 1000) (v : Value) :
 ∃ w', (Instr.mapUpdate 149 (.map (some M)) (.string (bsO s)) v).run Tryz.prog w = .ok () w' ∧ MS w' M (n + 1) (putF f s v) ∧ w.grownBy w' (some M) := by
 obtain ⟨D, h1, h2, h3⟩ := h
 obtain ⟨w', e, h4, h5⟩ := World.ownsMap.update h1 (Maps.string_keyed Tryz.underlying9) Tryz.underlying149 (by unfold maxLen; omega) (key_str (bsO s) (by rw [bsO_size]; omega)) (show RW v = some (.held v, []) from rfl)
 refine ⟨w', e, ⟨_, h4, h2.put _ _, fun k z => ?_⟩, h5⟩
 rw [bsO_data]
 by_cases hj : k = s
 · subst hj
   rw [Maps.atKey_put_same h2 (show WideAt.IsKeyLit (.string k) from trivial)]
   simp [putF]
 · rw [Maps.atKey_put_other (fun e => hj (by injection e))]
   rw [h3]
   simp [putF, hj]
theorem zero_reads (w : World) : (zeroValue 147).run Tryz.prog w = .ok (.agg #[.nilFunc]) w := by kernel_rfl
theorem MS.look {w : World} {M n : Nat} {f : List UInt8 → Option Value} (h : MS w M n f) (s : ByteArray) (hs : s.size ≤ 140737488355328) : (Instr.lookup 149 (.map (some M)) (.string s) true).run Tryz.prog w = .ok (match f s.data.toList with | some v => .tuple #[v, .bool true] | none => .tuple #[.agg #[.nilFunc], .bool false]) w := by
 obtain ⟨D, ⟨es, clock, hh, F, hsz, hD⟩, h2, h3⟩ := h
 subst hD
 rcases Maps.fit_look true (Maps.string_keyed Tryz.underlying9) Tryz.underlying149 (zero_reads w) hh F (key_str s hs) with ⟨hrun, _, hat⟩ | ⟨e0, y, _, _, hrun, hRv, hat, _⟩
 · have hn : f s.data.toList = none := by
    cases hl : f s.data.toList with
    | none => rfl
    | some v =>
     have e1 := h3 s.data.toList (.lit (.bool true))
     rw [hl, hat] at e1
     cases e1
   rw [hn]
   simpa using hrun
 · have hy : y.1 = .held e0.val := by
    unfold RW at hRv
    simp only [Option.some.injEq] at hRv
    rw [← hRv]
   have hn : f s.data.toList = some e0.val := by
    cases hl : f s.data.toList with
    | none =>
     have e1 := h3 s.data.toList (.lit (.bool true))
     rw [hl, hat, hy] at e1
     cases e1
    | some v =>
     have e1 := h3 s.data.toList (.lit (.bool true))
     rw [hl, hat, hy] at e1
     simp only [Option.map_some, Option.getD_some, DataW.held.injEq] at e1
     rw [e1]
   rw [hn]
   simpa using hrun
theorem MS.putne {w : World} {M n : Nat} {f : List UInt8 → Option Value} (h : MS w M n f) {g : Nat} {Z : Array Value} {t : TypeId} (hg : Blk w g Z t) (F : Array Value) : MS (putBlk w g F t) M n f := by
 obtain ⟨D, ⟨es, clock, hh, rest⟩, h2⟩ := h
 refine ⟨D, ⟨es, clock, ?_, rest⟩, h2⟩
 have hne : g ≠ M := by
  intro e
  unfold Blk at hg
  rw [e, hh] at hg
  cases hg
 unfold putBlk
 simp only
 rw [Array.getElem?_setIfInBounds_ne hne]
 exact hh
theorem MS.kept {w w' : World} {M n : Nat} {f : List UInt8 → Option Value} {row : Option Nat} (h : MS w M n f) (hg : w.grownBy w' row) (hne : row ≠ some M) : MS w' M n f := by
 obtain ⟨D, ⟨es, clock, hh, rest⟩, h2⟩ := h
 have hlt := (Array.getElem?_eq_some_iff.1 hh).1
 exact ⟨D, ⟨es, clock, (hg.block M hlt (fun e => hne e.symm)).trans hh, rest⟩, h2⟩
def rdF (a b : Nat) : Value := .agg #[.func (Fn.func 130) #[] #[.pointer (some ⟨a, 0, none⟩), .pointer (some ⟨b, 0, none⟩)]]
def rdO (a : Nat) : Value := .agg #[.func (Fn.func 133) #[] #[.pointer (some ⟨a, 0, none⟩)]]
structure RdM (w : World) (B : Nat) (P : Int → Prop) (f : List UInt8 → Option Value) : Prop where
 yes : ∀ d wd c fl, formOf d = some (wd, c, fl) → P d → ∃ a b, f wd = some (rdF a b) ∧ B ≤ a ∧ B ≤ b ∧ Blk w a #[.int .u8 d] 5 ∧ Blk w b #[.string (bsO wd), .int .i64 c, .bool fl] 129
 no : ∀ wd, (∀ d c fl, formOf d = some (wd, c, fl) → ¬ P d) → f wd = none
theorem RdM.start (w : World) (B : Nat) (P : Int → Prop) (h : ∀ d wd c fl, formOf d = some (wd, c, fl) → ¬ P d) : RdM w B P (fun _ => none) :=
 ⟨fun d wd c fl hf hp => absurd hp (h d wd c fl hf), fun _ _ => rfl⟩
theorem RdM.ext {w w' : World} {B : Nat} {P : Int → Prop} {f : List UInt8 → Option Value} (h : RdM w B P f) (hb : ∀ b cs t, Blk w b cs t → Blk w' b cs t) : RdM w' B P f := by
 refine ⟨fun d wd c fl hf hp => ?_, h.no⟩
 obtain ⟨a, b, h1, h2, h3, h4, h5⟩ := h.yes d wd c fl hf hp
 exact ⟨a, b, h1, h2, h3, hb _ _ _ h4, hb _ _ _ h5⟩
theorem form_inj {d e : Int} {wd : List UInt8} {c c' : Nat} {f f' : Bool} (h : formOf d = some (wd, c, f)) (k : formOf e = some (wd, c', f')) : d = e := by
 have h1 := (formAt_of h).1
 have h2 := (formAt_of k).1
 rw [h1] at h2
 simp only [Option.some.injEq, Prod.mk.injEq] at h2
 exact h2.1
theorem RdM.step {w : World} {B : Nat} {P P' : Int → Prop} {f : List UInt8 → Option Value} (h : RdM w B P f) {d : Int} {wd : List UInt8} {c : Nat} {fl : Bool} (hf : formOf d = some (wd, c, fl)) (hP : ∀ e, P' e ↔ (P e ∨ e = d)) {a b : Nat} (ha : B ≤ a) (hb : B ≤ b)
 (h1 : Blk w a #[.int .u8 d] 5) (h2 : Blk w b #[.string (bsO wd), .int .i64 c, .bool fl] 129) : RdM w B P' (putF f wd (rdF a b)) := by
 constructor
 · intro e we ce fe hfe hpe
   unfold putF
   by_cases hw : we = wd
   · subst hw
     obtain rfl := form_inj hf hfe
     rw [hf] at hfe
     simp only [Option.some.injEq, Prod.mk.injEq, true_and] at hfe
     obtain ⟨rfl, rfl⟩ := hfe
     exact ⟨a, b, by rw [if_pos rfl], ha, hb, h1, h2⟩
   · rw [if_neg hw]
     refine h.yes e we ce fe hfe (((hP e).1 hpe).resolve_right ?_)
     intro ee
     subst ee
     rw [hf] at hfe
     simp only [Option.some.injEq, Prod.mk.injEq] at hfe
     exact hw hfe.1.symm
 · intro we hn
   unfold putF
   by_cases hw : we = wd
   · subst hw
     exact absurd ((hP d).2 (Or.inr rfl)) (hn d c fl hf)
   · rw [if_neg hw]
     exact h.no we fun e ce fe hfe hpe => hn e ce fe hfe ((hP e).2 (Or.inl hpe))
end Go.Proofs.YtfekohonidggjaaGreatDoor
