/- Texts joined by a tool: contracts and walks of this claim. -/
import Derived.Test.YtceoficoappkpaaGreatDoorF4
import Derived.Test.YtceoficoappkpaaGreatDoorB37
namespace Go.Proofs.YtceoficoappkpaaGreatDoor
open Go.RowKit
theorem lkey_2 (c k : Int) (u v : V) (hu : u.wf) (hv : v.wf) (b cp : Nat) (w : World) (hr : Blk w b #[.int .u8 u.k, .int .i64 u.n, .int .u64 u.r, .string u.t, .int .u8 v.k, .int .i64 v.n, .int .u64 v.r, .string v.t] 47) (hL : LayX w) :
 Calls Tryz.prog 41 #[.int .u8 c, .int .i64 k, .slice (some ⟨b, 0, none⟩) 2 cp] w fun e w' => e = .returned (.tuple #[.string (if lkOk k [u, v] then lkB c k [u, v] else ⟨#[]⟩), .int .i64 (okE (lkOk k [u, v]))]) ∧ Below w.heap.size w w' := lkey_any c k [u, v] _ cp w (vrow_b2 u v hu hv hr) hL
set_option maxRecDepth 100000 in
theorem ixref_any (k : Int) (u v : V) (hu : u.wf) (hv : v.wf) (w : World) (hL : LayX w) : Calls Tryz.prog 27 #[.int .i64 k, u.agg, v.agg] w fun e w' => e = .returned (lkR 102 k [u, v]) ∧ Below w.heap.size w w' := by
 have HK := hd_ (fun (W : World) (b cp : Nat) (hr : Blk W b #[.int .u8 u.k, .int .i64 u.n, .int .u64 u.r, .string u.t, .int .u8 v.k, .int .i64 v.n, .int .u64 v.r, .string v.t] 47) (hW : Below w.heap.size w W) => lkey_2 102 k u v hu hv b cp W hr (hL.ext hW))
 clear hL hv hu
 unfold lkR V.agg
 obtain ⟨vk, vn, vr, vt⟩ := v
 obtain ⟨uk, un, ur, ut⟩ := u
 simp only at HK ⊢
 generalize (if lkOk k [(⟨uk, un, ur, ut⟩ : V), ⟨vk, vn, vr, vt⟩] then lkB 102 k [⟨uk, un, ur, ut⟩, ⟨vk, vn, vr, vt⟩] else ⟨#[]⟩ : ByteArray) = R1 at HK ⊢
 generalize okE (lkOk k [(⟨uk, un, ur, ut⟩ : V), ⟨vk, vn, vr, vt⟩]) = R2 at HK ⊢
 go_enter Tryz.func27, Tryz.ntmps27
 go_wp2_with (go_at_call 41; ((with_reducible refine (HK.out _ _ _ (by repeat (first | exact Blk.at (by simp) | assumption | refine Blk.drew ?_ | refine Blk.old ?_ _)) (by repeat (first | exact Below.refl _ _ | assumption | refine Below.drew ?_ | refine below_drewN ?_ _ | refine Below.alloc ?_ (by simp <;> omega) _))).mono ?_); rintro e w1 ⟨rfl, hb1⟩))
 go_ret2
 exact ⟨rfl, bt ((by repeat (first | exact Below.refl _ _ | assumption | refine Below.drew ?_ | refine below_drewN ?_ _ | refine Below.alloc ?_ (by simp <;> omega) _))) hb1⟩
end Go.Proofs.YtceoficoappkpaaGreatDoor
namespace Go.Proofs.YtceoficoappkpaaGreatDoor
open Go.RowKit Go.Shelf
attribute [local go_sem] Oper.semAt_some

set_option maxRecDepth 100000 in
theorem row_gone (B v kk m : Nat) (t : Tr) (ts : List Ta) (A : Option Addr) (c : Nat) (tb : Int) (k : V) (p : Pr) (w : World) (h : VwR w B v kk m t) (ht : TRow w A c ts) (hk : k.wf) (hL : LayX w) (hyes : keyS ts tb k = true) (hlk : lkOk tb [k] = true) (hf : findP (lkB 114 tb [k]) t.toL = some p) (hg : p.g = true) :
  Calls Tryz.prog 19 #[.pointer (some ⟨v, 0, none⟩), .agg #[.slice A ts.length c], .int .i64 tb, k.agg] w fun r w' => r = .returned (.tuple #[.slice none 0 0, .bool false, .int .i64 0]) ∧ Below w.heap.size w w' := by
 have HS := hd_ (fun (W : World) (hW : Below w.heap.size w W) => schkey_any ts A c tb k W (ht.ext hW) hk (hL.ext hW).1)
 have HR := hd_ (fun (W : World) (hW : Below w.heap.size w W) => ixrow_any tb k hk W (hL.ext hW))
 have HG := hd_ (fun (W : World) (hW : Below w.heap.size w W) => vget_any B v kk m t (lkB 114 tb [k]) p W (h.ext hW) hf)
 rw [hyes] at HS
 unfold lkR at HR
 rw [hlk] at HR
 rw [hg] at HG
 unfold V.agg okE at *
 simp only [if_true, Bool.not_true] at HS HR HG
 generalize lkB 114 tb [k] = ky at HR HG
 clear hyes hlk hf hg ht hL h
 go_enter Tryz.func19, Tryz.ntmps19
 go_wp2_with fail
 have h7 : Blk ((w.alloc (.cells #[.slice A ts.length c] 24)).alloc (.cells #[.int .u8 k.k, .int .i64 k.n, .int .u64 k.r, .string k.t] 47)) (w.heap.size + 1) #[.int .u8 k.k, .int .i64 k.n, .int .u64 k.r, .string k.t] 47 := (by repeat (first | exact Blk.at (by simp) | assumption | refine Blk.drew ?_ | refine Blk.old ?_ _))
 refine (HS.out _ (by repeat (first | exact Below.refl _ _ | assumption | refine Below.drew ?_ | refine below_drewN ?_ _ | refine Below.alloc ?_ (by simp <;> omega) _))).mono ?_
 rintro r w1 ⟨rfl, hb⟩
 have hW1 : Below w.heap.size w w1 := bt ((by repeat (first | exact Below.refl _ _ | assumption | refine Below.drew ?_ | refine below_drewN ?_ _ | refine Below.alloc ?_ (by simp <;> omega) _))) hb
 have h71 := h7.ext hb
 obtain ⟨l7, a0, a1, a2, a3, _⟩ := blk4f h71
 clear hb h7 h71
 go_wp2_with fail
 refine (HR.out _ hW1).mono ?_
 rintro r w2 ⟨rfl, hb⟩
 have hW2 : Below w.heap.size w w2 := bt hW1 hb
 clear hb hW1 l7 a0 a1 a2 a3
 go_wp2_with fail
 refine (HG.out _ hW2).mono ?_
 rintro r w3 ⟨rfl, hb⟩
 have HB : Hid (Below w.heap.size w w3) := bt hW2 hb
 clear hb hW2
 go_wp2_with fail
 refine bodyPost_ret (v := .tuple #[.slice none 0 0, .bool false, .int .i64 0]) (by simp [results, Tryz.results19, go_sem]) rfl ?_
 exact ⟨rfl, HB.out⟩
end Go.Proofs.YtceoficoappkpaaGreatDoor
namespace Go.Proofs.YtceoficoappkpaaGreatDoor
open Go.RowKit
theorem index_cons {b : UInt8} {l s : List UInt8} (h : s.isPrefixOf (b :: l) = false) {i : Nat} (hi : Lib.index l s = i) : Lib.index (b :: l) s = ((i + 1 : Nat) : Int) := by
 rw [Lib.index, h, hi, if_neg (by simp), if_neg (by simp <;> omega)]
 omega
theorem pfx_ne {b c : UInt8} (hb : b ≠ 0) (s : List UInt8) : List.isPrefixOf [0, c] (b :: s) = false := by
 have : (0 == b) = false := by simp [Ne.symm hb]
 simp [List.isPrefixOf, this]
theorem pfx_255 (c : UInt8) (s : List UInt8) : List.isPrefixOf [0, c] (255 :: s) = false := pfx_ne (by decide) s
theorem pfx_01 (s : List UInt8) : List.isPrefixOf [0, 1] (0 :: 255 :: s) = false := rfl
theorem keyT_end (r : List UInt8) : ∀ l : List UInt8, Lib.index (keyT l ++ 0 :: 1 :: r) [0, 1] = ((keyT l).length : Nat)
 | [] => by
  show Lib.index (0 :: 1 :: r) [0, 1] = _
  rw [Lib.index, if_pos (by simp)]; rfl
 | b :: l => by
  have ih := keyT_end r l
  by_cases hb : b = 0
  · subst hb
    rw [keyT, if_pos rfl]
    have h1 : Lib.index (255 :: (keyT l ++ 0 :: 1 :: r)) [0, 1] = (((keyT l).length + 1 : Nat) : Int) := index_cons (pfx_255 1 _) ih
    exact index_cons (pfx_01 _) h1
  · rw [keyT, if_neg hb]
    exact index_cons (pfx_ne hb _) ih
theorem keyT_undoK : ∀ l : List UInt8, Lib.replaceK [0, 255] [0] (Lib.count (keyT l) [0, 255]) (keyT l) = l
 | [] => by
  rw [keyT, Lib.count_miss (by simp [Lib.index])]; rfl
 | b :: l => by
  have ih := keyT_undoK l
  by_cases hb : b = 0
  · subst hb
    have h0 : Lib.index (0 :: 255 :: keyT l) [0, 255] = ((0 : Nat) : Int) := by rw [Lib.index, if_pos (by simp)]; rfl
    rw [keyT, if_pos rfl, Lib.count_hit (by simp) h0, Nat.add_comm, Lib.replaceK_hit _ _ _ _ 0 h0]
    simpa using ih
  · rw [keyT, if_neg hb]
    rcases Lib.index_spec (keyT l) [0, 255] with ⟨hm, _⟩ | ⟨i, hi, _⟩
    · have h1 : Lib.index (b :: keyT l) [0, 255] = -1 := by rw [Lib.index, pfx_ne hb, hm]; rfl
      rw [Lib.count_miss hm] at ih
      rw [Lib.count_miss h1]
      simpa [Lib.replaceK] using ih
    · have h1 : Lib.index (b :: keyT l) [0, 255] = ((i + 1 : Nat) : Int) := index_cons (pfx_ne hb _) hi
      rw [Lib.count_hit (by simp) hi, Nat.add_comm, Lib.replaceK_hit _ _ _ _ i hi] at ih
      rw [Lib.count_hit (by simp) h1, Nat.add_comm, Lib.replaceK_hit _ _ _ _ _ h1]
      have e : (i + 1 + [(0 : UInt8), 255].length) = (i + [(0 : UInt8), 255].length) + 1 := by show i + 1 + 2 = i + 2 + 1; omega
      rw [e, List.drop_succ_cons, List.take_succ_cons, List.cons_append, List.cons_append]
      exact congrArg (b :: ·) ih
theorem keyT_undo (l : List UInt8) : Lib.replaceAll (keyT l) [0, 255] [0] = l := by
 unfold Lib.replaceAll Lib.replace
 rw [if_neg (by decide)]
 have : Lib.replaceNum (keyT l) [0, 255] (-1) = Lib.count (keyT l) [0, 255] := by unfold Lib.replaceNum; rw [if_pos (Or.inl (by decide))]
 rw [this, keyT_undoK]
theorem keyLs_len {l : List V} (h : ∀ x ∈ l, mayB x = true) : (keyLs l).length ≤ 203 * l.length := by
 induction l with
 | nil => simp [keyLs]
 | cons x m ih =>
  have i1 := ih fun y hy => h y (by simp [hy])
  have i2 := key1_length (h x (by simp))
  simp only [keyLs, List.flatMap_cons, List.length_append, List.length_cons] at i1 ⊢
  omega
theorem lkL_len {c k : Int} {l : List V} (h : lkOk k l = true) : (lkL c k l).length ≤ 2 + 203 * l.length := by
 unfold lkOk keyOk at h
 unfold lkL
 have : ∀ x ∈ l, mayB x = true := by
  cases l with
  | nil => intro v hv; simp at hv
  | cons v l => exact (row_may (by simpa using (Bool.and_eq_true_iff.1 h).2)).2.2
 have := keyLs_len this
 simp only [List.length_append, List.length_cons, List.length_nil]
 omega
end Go.Proofs.YtceoficoappkpaaGreatDoor
namespace Go.Proofs.YtceoficoappkpaaGreatDoor
open Go.ChangeShapes Go.WideShapes Go.ChangeAt Go.RowKit Go.Deep




section
variable {H : Type} {enc : TypeId × Value → H}

theorem weights_all {P : Program} {e : TypeId} : ∀ {l : List (DataW H)} {d : DataW H}, d ∈ l → ∀ n ∈ d.weights P e, n ∈ DataW.weightsAll P e l
 | x :: l, d, h, n, hn => by
  simp only [DataW.weightsAll, List.mem_append]
  rcases List.mem_cons.1 h with rfl | h
  · exact Or.inl hn
  · exact Or.inr (weights_all h n hn)

theorem addr_plain {W : World} {a : Addr} {v : Value} (h : W.cell? a = some v) : a = ⟨a.block, a.off, none⟩ := by
 obtain ⟨b, o, sp⟩ := a
 rw [cell_spot h]
end
end Go.Proofs.YtceoficoappkpaaGreatDoor
