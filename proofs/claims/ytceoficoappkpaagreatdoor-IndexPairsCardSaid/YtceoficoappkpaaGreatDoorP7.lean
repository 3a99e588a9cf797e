/- Texts joined by a tool: contracts and walks of this claim. -/
import Derived.Test.YtceoficoappkpaaGreatDoorP6
namespace Go.Proofs.YtceoficoappkpaaGreatDoor
open Go.RowKit Go.Shelf
attribute [local go_sem] Oper.semAt_some

def nulV : V := ⟨0, 0, 0, ⟨#[]⟩⟩
def refV (ta : Ta) (l : List V) : V := if l.length = 0 ∨ ta.ref < 0 then nulV else (l[ta.ref.toNat]?).getD nulV
def kyV (ta : Ta) (l : List V) : V := (l[ta.key.toNat]?).getD nulV
set_option maxRecDepth 100000 in
theorem of_nil (b6 : Nat) (C : Option Addr) (d : Nat) (w : World) :
  Calls Tryz.prog 40 #[.slice C 0 d, .pointer (some ⟨b6, 0, none⟩)] w fun r w' => r = .returned (.tuple #[.agg #[.int .u8 0, .int .i64 0, .int .u64 0, .string ⟨#[]⟩], .agg #[.int .u8 0, .int .i64 0, .int .u64 0, .string ⟨#[]⟩]]) ∧ Below w.heap.size w w' := by
 go_enter Tryz.func40, Tryz.ntmps40
 go_wp2_with fail
 refine bodyPost_ret (v := .tuple #[.agg #[.int .u8 0, .int .i64 0, .int .u64 0, .string ⟨#[]⟩], .agg #[.int .u8 0, .int .i64 0, .int .u64 0, .string ⟨#[]⟩]]) (by simp [results, Tryz.results40, go_sem]) rfl ?_
 exact ⟨rfl, (by repeat (first | exact Below.refl _ _ | assumption | refine Below.drew ?_ | refine below_drewN ?_ _ | refine Below.alloc ?_ (by simp <;> omega) _))⟩
set_option maxRecDepth 100000 in
set_option maxHeartbeats 1600000 in
theorem of_no (ta : Ta) (b6 : Nat) (B0 o0 d : Nat) (l : List V) (ke : Nat) (x : V) (w : World) (h6 : Blk w b6 #[.string ta.nm, .slice ta.A ta.cs.length ta.c, .int .i64 ta.key, .int .i64 ta.ref, .int .i64 ta.par] 73) (hr : VRow w (some ⟨B0, o0, none⟩) l)
  (hke : ta.key = ke) (hre : ta.ref < 0) (hx : l[ke]? = some x) :
  Calls Tryz.prog 40 #[.slice (some ⟨B0, o0, none⟩) l.length d, .pointer (some ⟨b6, 0, none⟩)] w fun r w' => r = .returned (.tuple #[.agg #[.int .u8 x.k, .int .i64 x.n, .int .u64 x.r, .string x.t], .agg #[.int .u8 0, .int .i64 0, .int .u64 0, .string ⟨#[]⟩]]) ∧ Below w.heap.size w w' := by
 obtain ⟨l6, t0, t1, t2, t3, t4, tf⟩ := blk5f h6
 rw [hke] at t2
 have hk0 : ke < l.length := (List.getElem?_eq_some_iff.1 hx).1
 have hn0 := hr.2.1
 obtain ⟨g0, p0, hg0, hl0, hc0⟩ := hr.2.2 (by intro e; rw [e] at hk0; simp at hk0)
 simp only [Option.some.injEq, Addr.mk.injEq, and_true] at hg0
 obtain ⟨rfl, rfl⟩ := hg0
 obtain ⟨x0, x1, x2, x3⟩ := hc0 ke x hx
 have hk0I : (ke : Int) < l.length := by omega
 have hnz : ((l.length : Int) == 0) = false := beq_eq_false_iff_ne.2 (by omega)
 have hrn : ¬ (0 : Int) ≤ ta.ref := by omega
 clear h6 hr hke hx hc0
 go_enter Tryz.func40, Tryz.ntmps40
 go_upto_region 4 with fail
 clear hrn hre
 have k3 : Blk ((w.alloc (.cells #[.int .u8 0, .int .i64 0, .int .u64 0, .string ⟨#[]⟩] 47)).alloc (.cells #[.int .u8 0, .int .i64 0, .int .u64 0, .string ⟨#[]⟩] 47)) w.heap.size #[.int .u8 0, .int .i64 0, .int .u64 0, .string ⟨#[]⟩] 47 := Blk.old (Blk.new _ _ _) _
 have k4 : Blk ((w.alloc (.cells #[.int .u8 0, .int .i64 0, .int .u64 0, .string ⟨#[]⟩] 47)).alloc (.cells #[.int .u8 0, .int .i64 0, .int .u64 0, .string ⟨#[]⟩] 47)) (w.heap.size + 1) #[.int .u8 0, .int .i64 0, .int .u64 0, .string ⟨#[]⟩] 47 := Blk.at (by simp)
 have hb : Below w.heap.size w ((w.alloc (.cells #[.int .u8 0, .int .i64 0, .int .u64 0, .string ⟨#[]⟩] 47)).alloc (.cells #[.int .u8 0, .int .i64 0, .int .u64 0, .string ⟨#[]⟩] 47)) := (by repeat (first | exact Below.refl _ _ | assumption | refine Below.drew ?_ | refine below_drewN ?_ _ | refine Below.alloc ?_ (by simp <;> omega) _))
 generalize ((w.alloc (.cells #[.int .u8 0, .int .i64 0, .int .u64 0, .string ⟨#[]⟩] 47)).alloc (.cells #[.int .u8 0, .int .i64 0, .int .u64 0, .string ⟨#[]⟩] 47)) = W at k3 k4 hb ⊢
 obtain ⟨b3, hb3⟩ : ∃ b, b = w.heap.size := ⟨_, rfl⟩
 obtain ⟨b4, hb4⟩ : ∃ b, b = w.heap.size + 1 := ⟨_, rfl⟩
 rw [← hb4] at k4 ⊢
 rw [← hb3] at k3 ⊢
 have hne : b4 ≠ b3 := by omega
 have hlo3 : w.heap.size ≤ b3 := by omega
 have hlo4 : w.heap.size ≤ b4 := by omega
 clear hb3 hb4
 have HL := hd_ (And.intro hne (And.intro hlo3 hlo4))
 have HB := hd_ hb
 obtain ⟨w5, rfl, l5⟩ := blk_put k3
 obtain ⟨pc, pf, pS⟩ := putBlk_facts (w := w5) 47 l5
 have k4' : ∀ cs, Blk (putBlk w5 b3 cs 47) b4 #[.int .u8 0, .int .i64 0, .int .u64 0, .string ⟨#[]⟩] 47 := fun cs => putBlk_old k4 hne cs
 have hs5 := hb.size
 rw [putBlk_size] at hs5
 have hcl : ∀ cs p v, p.block < w.heap.size → w.cell? p = some v → (putBlk w5 b3 cs 47).cell? p = some v := fun cs p v hp h => by
  have h1 := putBlk_below cs 47 hb hlo3
  rw [put_put'] at h1
  exact (h1.cell hp).trans h
 have l6' : ∀ cs, b6 < (putBlk w5 b3 cs 47).heap.size := fun cs => by rw [putBlk_size]; omega
 have l0' : ∀ cs, B0 < (putBlk w5 b3 cs 47).heap.size := fun cs => by rw [putBlk_size]; omega
 have l4' : ∀ cs, b4 < (putBlk w5 b3 cs 47).heap.size := fun cs => (k4' cs).lt
 have t2' : ∀ cs, (putBlk w5 b3 cs 47).cell? ⟨b6, 2, none⟩ = some (.int .i64 ke) := fun cs => hcl cs _ _ l6 t2
 have x0' : ∀ cs, (putBlk w5 b3 cs 47).cell? ⟨B0, o0 + ke * 4, none⟩ = some (.int .u8 x.k) := fun cs => hcl cs _ _ hl0 x0
 have x1' : ∀ cs, (putBlk w5 b3 cs 47).cell? ⟨B0, o0 + ke * 4 + 1, none⟩ = some (.int .i64 x.n) := fun cs => hcl cs _ _ hl0 x1
 have x2' : ∀ cs, (putBlk w5 b3 cs 47).cell? ⟨B0, o0 + ke * 4 + 2, none⟩ = some (.int .u64 x.r) := fun cs => hcl cs _ _ hl0 x2
 have x3' : ∀ cs, (putBlk w5 b3 cs 47).cell? ⟨B0, o0 + ke * 4 + 3, none⟩ = some (.string x.t) := fun cs => hcl cs _ _ hl0 x3
 have v0' : ∀ cs, (putBlk w5 b3 cs 47).cell? ⟨b4, 0, none⟩ = some (.int .u8 0) := fun cs => (k4' cs).cell 0
 have v1' : ∀ cs, (putBlk w5 b3 cs 47).cell? ⟨b4, 1, none⟩ = some (.int .i64 0) := fun cs => (k4' cs).cell 1
 have v2' : ∀ cs, (putBlk w5 b3 cs 47).cell? ⟨b4, 2, none⟩ = some (.int .u64 0) := fun cs => (k4' cs).cell 2
 have v3' : ∀ cs, (putBlk w5 b3 cs 47).cell? ⟨b4, 3, none⟩ = some (.string ⟨#[]⟩) := fun cs => (k4' cs).cell 3
 have vf' : ∀ cs i, (putBlk w5 b3 cs 47).frozen? ⟨b4, i, none⟩ = false := fun cs i => (k4' cs).frozen i
 have vs : ∀ cs (i : Nat) (u : Value), #[.int .u8 0, .int .i64 0, .int .u64 0, .string ⟨#[]⟩][i]? = some u → (putBlk w5 b3 cs 47).setCell ⟨b4, i, none⟩ u = putBlk w5 b3 cs 47 := fun cs i u hu => by
  obtain ⟨w6, hw6, l6⟩ := blk_put (k4' cs)
  rw [hw6, putBlk_set _ _ l6]
  congr 1
  apply Array.ext_getElem?
  intro j
  rw [Array.getElem?_setIfInBounds]
  by_cases e : i = j
  · subst e; rw [if_pos rfl, hu, if_pos (Array.getElem?_eq_some_iff.1 hu).1]
  · rw [if_neg e]
 have s0' : ∀ cs, (putBlk w5 b3 cs 47).setCell ⟨b4, 0, none⟩ (.int .u8 0) = putBlk w5 b3 cs 47 := fun cs => vs cs 0 _ rfl
 have s1' : ∀ cs, (putBlk w5 b3 cs 47).setCell ⟨b4, 1, none⟩ (.int .i64 0) = putBlk w5 b3 cs 47 := fun cs => vs cs 1 _ rfl
 have s2' : ∀ cs, (putBlk w5 b3 cs 47).setCell ⟨b4, 2, none⟩ (.int .u64 0) = putBlk w5 b3 cs 47 := fun cs => vs cs 2 _ rfl
 have s3' : ∀ cs, (putBlk w5 b3 cs 47).setCell ⟨b4, 3, none⟩ (.string ⟨#[]⟩) = putBlk w5 b3 cs 47 := fun cs => vs cs 3 _ rfl
 have HBX : Hid (Below w.heap.size w (putBlk w5 b3 #[.int .u8 x.k, .int .i64 x.n, .int .u64 x.r, .string x.t] 47)) := by
  have h1 := putBlk_below #[.int .u8 x.k, .int .i64 x.n, .int .u64 x.r, .string x.t] 47 hb hlo3
  rwa [put_put'] at h1
 clear hb k4 k4' k3 hcl vs l6 t0 t1 t2 t3 t4 tf x0 x1 x2 x3 hl0 hne hlo3 hlo4 hnz hs5 HB
 go_region
 go_wp2_with fail
 refine bodyPost_ret (v := .tuple #[.agg #[.int .u8 x.k, .int .i64 x.n, .int .u64 x.r, .string x.t], .agg #[.int .u8 0, .int .i64 0, .int .u64 0, .string ⟨#[]⟩]]) (by simp [results, Tryz.results40, go_sem, pc, v0', v1', v2', v3']) rfl ?_
 exact ⟨rfl, HBX.out.drew⟩
theorem of_any (ta : Ta) (b6 : Nat) (A0 : Option Addr) (d : Nat) (l : List V) (w : World) (h6 : Blk w b6 #[.string ta.nm, .slice ta.A ta.cs.length ta.c, .int .i64 ta.key, .int .i64 ta.ref, .int .i64 ta.par] 73) (hr : VRow w A0 l)
  (hlen : l.length = 0 ∨ ta.cs.length = l.length) (hk : 0 ≤ ta.key ∧ ta.key < ta.cs.length) (hre : ta.ref < 0 ∨ ta.ref < ta.cs.length) :
  Calls Tryz.prog 40 #[.slice A0 l.length d, .pointer (some ⟨b6, 0, none⟩)] w fun r w' => r = .returned (.tuple #[(kyV ta l).agg, (refV ta l).agg]) ∧ Below w.heap.size w w' := by
 by_cases hz : l.length = 0
 · have hl : l = [] := List.eq_nil_of_length_eq_zero hz
   have e1 : kyV ta l = nulV := by rw [hl]; rfl
   have e2 : refV ta l = nulV := by unfold refV; rw [if_pos (Or.inl hz)]
   rw [e1, e2, hz]
   exact of_nil b6 A0 d w
 · have hlen : ta.cs.length = l.length := by omega
   obtain ⟨B0, o0, rfl, _⟩ := hr.2.2 (by intro e; exact hz (by rw [e]; rfl))
   obtain ⟨ke, hke⟩ : ∃ ke : Nat, ta.key = ke := ⟨ta.key.toNat, by omega⟩
   have hx : l[ke]? = some (kyV ta l) := by
    unfold kyV
    rw [hke, Int.toNat_natCast, List.getElem?_eq_getElem (by omega)]; rfl
   by_cases hn : ta.ref < 0
   · have e2 : refV ta l = nulV := by unfold refV; rw [if_pos (Or.inr hn)]
     rw [e2]
     exact of_no ta b6 B0 o0 d l ke (kyV ta l) w h6 hr hke hn hx
   · obtain ⟨re, hre'⟩ : ∃ re : Nat, ta.ref = re := ⟨ta.ref.toNat, by omega⟩
     have hy : l[re]? = some (refV ta l) := by
      unfold refV
      rw [if_neg (by omega), hre', Int.toNat_natCast, List.getElem?_eq_getElem (by omega)]; rfl
     exact of_ref ta b6 B0 o0 d l ke re (kyV ta l) (refV ta l) w h6 hr hke hre' hx hy
end Go.Proofs.YtceoficoappkpaaGreatDoor
