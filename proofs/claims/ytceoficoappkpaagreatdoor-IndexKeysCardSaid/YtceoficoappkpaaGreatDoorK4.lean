/- Texts joined by a tool: contracts and walks of this claim. -/
import Derived.Test.YtceoficoappkpaaGreatDoorK3
import Derived.Test.YtceoficoappkpaaGreatDoorB37
namespace Go.Proofs.YtceoficoappkpaaGreatDoor
open Go.RowKit
theorem rK_1 (c k : Int) (v : V) (hv : v.wf) (b cp : Nat) (w : World) (hr : Blk w b #[.int .u8 v.k, .int .i64 v.n, .int .u64 v.r, .string v.t] 47) (hL : LayX w) :
 Calls Tryz.prog 31 #[.int .u8 c, .int .i64 k, .slice (some ⟨b, 0, none⟩) 1 cp] w fun e w' => e = .returned (rkR c k [v]) ∧ Below w.heap.size w w' := rK_any c k [v] (by simp) _ cp w (vrow_b1 v hv hr) hL
theorem rK_2 (c k : Int) (u v : V) (hu : u.wf) (hv : v.wf) (b cp : Nat) (w : World) (hr : Blk w b #[.int .u8 u.k, .int .i64 u.n, .int .u64 u.r, .string u.t, .int .u8 v.k, .int .i64 v.n, .int .u64 v.r, .string v.t] 47) (hL : LayX w) :
 Calls Tryz.prog 31 #[.int .u8 c, .int .i64 k, .slice (some ⟨b, 0, none⟩) 2 cp] w fun e w' => e = .returned (rkR c k [u, v]) ∧ Below w.heap.size w w' := rK_any c k [u, v] (by simp) _ cp w (vrow_b2 u v hu hv hr) hL
def SameP (K : ByteArray) (e : Int) (is : Bool) (K' : ByteArray) : Prop := (is = true ∧ e = 0 ∧ K' = K) ∨ (is = false ∧ e = 2 ∧ K = ⟨#[]⟩)
set_option maxRecDepth 100000 in
theorem same26_any (K : ByteArray) (e : Int) (is : Bool) (K' : ByteArray) (h : SameP K e is K') (w : World) :
  Calls Tryz.prog 32 #[.string K, .int .i64 e, .string K', .bool is] w fun q w' => q = .returned (.bool true) ∧ w = w' := by
 rcases h with ⟨rfl, rfl, rfl⟩ | ⟨rfl, rfl, rfl⟩
 · go_enter Tryz.func32, Tryz.ntmps32
   go_wp2
   go_ret
   exact ⟨rfl, rfl⟩
 · go_enter Tryz.func32, Tryz.ntmps32
   go_wp2
   go_ret
   exact ⟨rfl, rfl⟩
theorem keyLs_len {l : List V} (h : ∀ x ∈ l, mayB x = true) : (keyLs l).length ≤ 203 * l.length := by
 induction l with
 | nil => simp [keyLs]
 | cons x m ih =>
  have i1 := ih fun y hy => h y (by simp [hy])
  have i2 := key1_length (h x (by simp))
  simp only [keyLs, List.flatMap_cons, List.length_append, List.length_cons] at i1 ⊢
  omega
theorem lkL_len {c k : Int} {l : List V} (h : lkOk k l = true) : (lkL c k l).length ≤ 2 + 203 * l.length := by
 unfold lkOk keyOk at h
 unfold lkL
 have : ∀ x ∈ l, mayB x = true := by
  cases l with
  | nil => intro v hv; simp at hv
  | cons v l => exact (row_may (by simpa using (Bool.and_eq_true_iff.1 h).2)).2.2
 have := keyLs_len this
 simp only [List.length_append, List.length_cons, List.length_nil]
 omega
theorem lk_parts (c k : Int) (l : List V) (h2 : l.length ≤ 2) : ∃ K e is, K.size ≤ 408 ∧ SameP K e is K ∧ lkR c k l = .tuple #[.string K, .int .i64 e] ∧ rkR c k l = .tuple #[.string K, .bool is] := by
 unfold lkR rkR
 cases h : lkOk k l
 · exact ⟨⟨#[]⟩, 2, false, by decide, Or.inr ⟨rfl, rfl, rfl⟩, rfl, rfl⟩
 · refine ⟨lkB c k l, 0, true, ?_, Or.inl ⟨rfl, rfl, rfl⟩, rfl, rfl⟩
   have := lkL_len (c := c) h
   show (lkL c k l).length ≤ 408
   omega
theorem one_parts (k : Int) (v : V) (tx : Int) : ∃ e is KA KD KV Z, KA.size ≤ 408 ∧ KV.size ≤ 408 ∧ Z.size ≤ 408 ∧ SameP KA e is KA ∧ SameP KD e is KD ∧ SameP KV e is (Z ++ ⟨(hiN 8 tx.toNat).toArray⟩) ∧
  lkR 114 k [v] = .tuple #[.string KA, .int .i64 e] ∧ lkR 100 k [v] = .tuple #[.string KD, .int .i64 e] ∧ verR k v tx = .tuple #[.string KV, .int .i64 e] ∧ rkR 114 k [v] = .tuple #[.string KA, .bool is] ∧ rkR 100 k [v] = .tuple #[.string KD, .bool is] ∧ rkR 118 k [v] = .tuple #[.string Z, .bool is] := by
 unfold verR rkR lkR
 cases h : lkOk k [v]
 · exact ⟨2, false, ⟨#[]⟩, ⟨#[]⟩, ⟨#[]⟩, ⟨#[]⟩, by decide, by decide, by decide, Or.inr ⟨rfl, rfl, rfl⟩, Or.inr ⟨rfl, rfl, rfl⟩, Or.inr ⟨rfl, rfl, rfl⟩, rfl, rfl, rfl, rfl, rfl, rfl⟩
 · have hl := fun c => lkL_len (c := c) h
   simp only [List.length_cons, List.length_nil] at hl
   refine ⟨0, true, lkB 114 k [v], lkB 100 k [v], ⟨(lkL 118 k [v] ++ hiN 8 tx.toNat).toArray⟩, lkB 118 k [v], ?_, ?_, ?_, Or.inl ⟨rfl, rfl, rfl⟩, Or.inl ⟨rfl, rfl, rfl⟩, Or.inl ⟨rfl, rfl, ?_⟩, rfl, rfl, rfl, rfl, rfl, rfl⟩
   · have := hl 114
     show (lkL 114 k [v]).length ≤ 408
     omega
   · have := hl 118
     show (lkL 118 k [v] ++ hiN 8 tx.toNat).length ≤ 408
     rw [List.length_append, hiN_length]; omega
   · have := hl 118
     show (lkL 118 k [v]).length ≤ 408
     omega
   · exact ba_of (by rw [ByteArray.data_append, Array.toList_append]; rfl)
set_option maxRecDepth 100000 in
set_option maxHeartbeats 3200000 in
theorem keys_walk (k : Int) (v u : V) (hv : v.wf) (hu : u.wf) (tx : Int) (h0 : 0 ≤ tx) (h1 : tx ≤ 18446744073709551615) (nm : ByteArray) (hnm : nm.size ≤ 140737488355328) (w : World) (hL : LayX w)
  (hA : ∀ W, Below w.heap.size w W → Calls Tryz.prog 8 #[] W fun q w' => q = .returned (.bool true) ∧ Below W.heap.size W w') :
  Calls Tryz.prog 6 #[.int .i64 k, v.agg, u.agg, .int .u64 tx, .string nm] w fun q w' => q = .returned (.bool true) ∧ Below w.heap.size w w' := by
 have HA := hd_ hA
 have HL := hd_ (fun W (hW : Below w.heap.size w W) => hL.ext hW)
 have hvt : v.t.size ≤ 140737488355328 := hv.2.2.2.2.2.2
 have hut : u.t.size ≤ 140737488355328 := hu.2.2.2.2.2.2
 obtain ⟨e, is, KA, KD, KV, Z, hsA, hsV, hsZ, hpA, hpD, hpV, e1, e2, e3, e4, e5, e6⟩ := one_parts k v tx
 obtain ⟨KF, ef, isf, hsF, hpF, e7, e8⟩ := lk_parts 102 k [u, v] (by simp)
 have HR := hd_ (fun W (hW : Below w.heap.size w W) => ixrow_any k v hv W (HL.out W hW))
 have HF := hd_ (fun W (hW : Below w.heap.size w W) => ixref_any k u v hu hv W (HL.out W hW))
 have HD := hd_ (fun W (hW : Below w.heap.size w W) => ixdoc_any k v hv W (HL.out W hW))
 have HV := hd_ (fun W (hW : Below w.heap.size w W) => ixver_any k v hv tx h0 W (HL.out W hW))
 have HK1 := hd_ (fun W b cp (hr : Blk W b #[.int .u8 v.k, .int .i64 v.n, .int .u64 v.r, .string v.t] 47) (hW : Below w.heap.size w W) => rK_1 114 k v hv b cp W hr (HL.out W hW))
 have HK3 := hd_ (fun W b cp (hr : Blk W b #[.int .u8 v.k, .int .i64 v.n, .int .u64 v.r, .string v.t] 47) (hW : Below w.heap.size w W) => rK_1 100 k v hv b cp W hr (HL.out W hW))
 have HK4 := hd_ (fun W b cp (hr : Blk W b #[.int .u8 v.k, .int .i64 v.n, .int .u64 v.r, .string v.t] 47) (hW : Below w.heap.size w W) => rK_1 118 k v hv b cp W hr (HL.out W hW))
 have HK2 := hd_ (fun W b cp (hr : Blk W b #[.int .u8 u.k, .int .i64 u.n, .int .u64 u.r, .string u.t, .int .u8 v.k, .int .i64 v.n, .int .u64 v.r, .string v.t] 47) (hW : Below w.heap.size w W) => rK_2 102 k u v hu hv b cp W hr (HL.out W hW))
 have HH := hd_ (rhigh26_any tx h0 h1)
 rw [e1] at HR; rw [e7] at HF; rw [e2] at HD; rw [e3] at HV; rw [e4] at HK1; rw [e8] at HK2; rw [e5] at HK3; rw [e6] at HK4
 have hhs : (ByteArray.mk (hiN 8 tx.toNat).toArray).size = 8 := by simp [ByteArray.size, hiN_length]
 generalize (ByteArray.mk (hiN 8 tx.toNat).toArray) = HI at HH hpV hhs
 have HS1 := hd_ (same26_any KA e is KA hpA)
 have HS2 := hd_ (same26_any KF ef isf KF hpF)
 have HS3 := hd_ (same26_any KD e is KD hpD)
 have HS4 := hd_ (same26_any KV e is (Z ++ HI) hpV)
 clear hA hL e1 e2 e3 e4 e5 e6 e7 e8 hpA hpD hpV hpF hv hu
 obtain ⟨vk, vn, vr, vt⟩ := v
 obtain ⟨uk, un, ur, ut⟩ := u
 unfold V.agg at *
 simp only at *
 by_cases hbig : 4096 < vt.size + ut.size + nm.size
 · go_enter Tryz.func6, Tryz.ntmps6
   go_wp2_with (go_at_call 8; ((with_reducible refine (HA.out _ (by repeat (first | exact Below.refl _ _ | assumption | refine Below.drew ?_ | refine below_drewN ?_ _ | refine Below.alloc ?_ (by simp <;> omega) _))).mono ?_); rintro q W2 ⟨rfl, hbb2⟩))
   go_ret
   exact ⟨rfl, bt ((by repeat (first | exact Below.refl _ _ | assumption | refine Below.drew ?_ | refine below_drewN ?_ _ | refine Below.alloc ?_ (by simp <;> omega) _))) hbb2⟩
 · go_enter Tryz.func6, Tryz.ntmps6
   go_upto_region 1 with fail
   have h6 : Blk ((w.alloc (.cells #[.int .u8 vk, .int .i64 vn, .int .u64 vr, .string vt] 47)).alloc (.cells #[.int .u8 uk, .int .i64 un, .int .u64 ur, .string ut] 47)) w.heap.size #[.int .u8 vk, .int .i64 vn, .int .u64 vr, .string vt] 47 := (by repeat (first | exact Blk.at (by simp) | assumption | refine Blk.drew ?_ | refine Blk.old ?_ _))
   have h7 : Blk ((w.alloc (.cells #[.int .u8 vk, .int .i64 vn, .int .u64 vr, .string vt] 47)).alloc (.cells #[.int .u8 uk, .int .i64 un, .int .u64 ur, .string ut] 47)) (w.heap.size + 1) #[.int .u8 uk, .int .i64 un, .int .u64 ur, .string ut] 47 := (by repeat (first | exact Blk.at (by simp) | assumption | refine Blk.drew ?_ | refine Blk.old ?_ _))
   have hC : Below w.heap.size w ((w.alloc (.cells #[.int .u8 vk, .int .i64 vn, .int .u64 vr, .string vt] 47)).alloc (.cells #[.int .u8 uk, .int .i64 un, .int .u64 ur, .string ut] 47)) := (by repeat (first | exact Below.refl _ _ | assumption | refine Below.drew ?_ | refine below_drewN ?_ _ | refine Below.alloc ?_ (by simp <;> omega) _))
   have H6 := hd_ h6
   have H7 := hd_ h7
   have HC := hd_ hC
   clear h6 h7 hC
   generalize ((w.alloc (.cells #[.int .u8 vk, .int .i64 vn, .int .u64 vr, .string vt] 47)).alloc (.cells #[.int .u8 uk, .int .i64 un, .int .u64 ur, .string ut] 47)) = W0 at H6 H7 HC ⊢
   generalize w.heap.size + 1 = B7 at H7 ⊢
   obtain ⟨lx, x0, x1, x2, x3⟩ := blk4' H6.out
   obtain ⟨ly, y0, y1, y2, y3⟩ := blk4' H7.out
   go_wp2_with fail
   refine (HR.out _ HC.out).mono ?_
   rintro q W1 ⟨rfl, hbb⟩
   have hbb2 : Below W0.heap.size W0 W1 := bt ((by repeat (first | exact Below.refl _ _ | assumption | refine Below.drew ?_ | refine below_drewN ?_ _ | refine Below.alloc ?_ (by simp <;> omega) _))) hbb
   have HC := hd_ (bt HC.out hbb2)
   have H6 := hd_ (H6.out.ext hbb2)
   have H7 := hd_ (H7.out.ext hbb2)
   clear hbb hbb2 lx x0 x1 x2 x3 ly y0 y1 y2 y3
   obtain ⟨lx, x0, x1, x2, x3⟩ := blk4' H6.out
   obtain ⟨ly, y0, y1, y2, y3⟩ := blk4' H7.out
   go_wp2_with fail
   refine (HF.out _ HC.out).mono ?_
   rintro q W2 ⟨rfl, hbb⟩
   have hbb2 : Below W1.heap.size W1 W2 := bt ((by repeat (first | exact Below.refl _ _ | assumption | refine Below.drew ?_ | refine below_drewN ?_ _ | refine Below.alloc ?_ (by simp <;> omega) _))) hbb
   have HC := hd_ (bt HC.out hbb2)
   have H6 := hd_ (H6.out.ext hbb2)
   have H7 := hd_ (H7.out.ext hbb2)
   clear hbb hbb2 lx x0 x1 x2 x3 ly y0 y1 y2 y3
   obtain ⟨lx, x0, x1, x2, x3⟩ := blk4' H6.out
   obtain ⟨ly, y0, y1, y2, y3⟩ := blk4' H7.out
   go_wp2_with fail
   refine (HD.out _ HC.out).mono ?_
   rintro q W3 ⟨rfl, hbb⟩
   have hbb2 : Below W2.heap.size W2 W3 := bt ((by repeat (first | exact Below.refl _ _ | assumption | refine Below.drew ?_ | refine below_drewN ?_ _ | refine Below.alloc ?_ (by simp <;> omega) _))) hbb
   have HC := hd_ (bt HC.out hbb2)
   have H6 := hd_ (H6.out.ext hbb2)
   have H7 := hd_ (H7.out.ext hbb2)
   clear hbb hbb2 lx x0 x1 x2 x3 ly y0 y1 y2 y3
   obtain ⟨lx, x0, x1, x2, x3⟩ := blk4' H6.out
   obtain ⟨ly, y0, y1, y2, y3⟩ := blk4' H7.out
   go_wp2_with fail
   refine (HV.out _ HC.out).mono ?_
   rintro q W4 ⟨rfl, hbb⟩
   have hbb2 : Below W3.heap.size W3 W4 := bt ((by repeat (first | exact Below.refl _ _ | assumption | refine Below.drew ?_ | refine below_drewN ?_ _ | refine Below.alloc ?_ (by simp <;> omega) _))) hbb
   have HC := hd_ (bt HC.out hbb2)
   have H6 := hd_ (H6.out.ext hbb2)
   have H7 := hd_ (H7.out.ext hbb2)
   clear hbb hbb2 lx x0 x1 x2 x3 ly y0 y1 y2 y3
   obtain ⟨lx, x0, x1, x2, x3⟩ := blk4' H6.out
   obtain ⟨ly, y0, y1, y2, y3⟩ := blk4' H7.out
   go_wp2_with fail
   refine (HK1.out _ _ _ (by repeat (first | exact Blk.at (by simp) | assumption | refine Blk.drew ?_ | refine Blk.old ?_ _)) (bt HC.out (by repeat (first | exact Below.refl _ _ | assumption | refine Below.drew ?_ | refine below_drewN ?_ _ | refine Below.alloc ?_ (by simp <;> omega) _)))).mono ?_
   rintro q W5 ⟨rfl, hbb⟩
   have hbb2 : Below W4.heap.size W4 W5 := bt ((by repeat (first | exact Below.refl _ _ | assumption | refine Below.drew ?_ | refine below_drewN ?_ _ | refine Below.alloc ?_ (by simp <;> omega) _))) hbb
   have HC := hd_ (bt HC.out hbb2)
   have H6 := hd_ (H6.out.ext hbb2)
   have H7 := hd_ (H7.out.ext hbb2)
   clear hbb hbb2 lx x0 x1 x2 x3 ly y0 y1 y2 y3
   obtain ⟨lx, x0, x1, x2, x3⟩ := blk4' H6.out
   obtain ⟨ly, y0, y1, y2, y3⟩ := blk4' H7.out
   go_wp2_with fail
   refine (HK2.out _ _ _ (by repeat (first | exact Blk.at (by simp) | assumption | refine Blk.drew ?_ | refine Blk.old ?_ _)) (bt HC.out (by repeat (first | exact Below.refl _ _ | assumption | refine Below.drew ?_ | refine below_drewN ?_ _ | refine Below.alloc ?_ (by simp <;> omega) _)))).mono ?_
   rintro q W6 ⟨rfl, hbb⟩
   have hbb2 : Below W5.heap.size W5 W6 := bt ((by repeat (first | exact Below.refl _ _ | assumption | refine Below.drew ?_ | refine below_drewN ?_ _ | refine Below.alloc ?_ (by simp <;> omega) _))) hbb
   have HC := hd_ (bt HC.out hbb2)
   have H6 := hd_ (H6.out.ext hbb2)
   have H7 := hd_ (H7.out.ext hbb2)
   clear hbb hbb2 lx x0 x1 x2 x3 ly y0 y1 y2 y3
   obtain ⟨lx, x0, x1, x2, x3⟩ := blk4' H6.out
   obtain ⟨ly, y0, y1, y2, y3⟩ := blk4' H7.out
   go_wp2_with fail
   refine (HK3.out _ _ _ (by repeat (first | exact Blk.at (by simp) | assumption | refine Blk.drew ?_ | refine Blk.old ?_ _)) (bt HC.out (by repeat (first | exact Below.refl _ _ | assumption | refine Below.drew ?_ | refine below_drewN ?_ _ | refine Below.alloc ?_ (by simp <;> omega) _)))).mono ?_
   rintro q W7 ⟨rfl, hbb⟩
   have hbb2 : Below W6.heap.size W6 W7 := bt ((by repeat (first | exact Below.refl _ _ | assumption | refine Below.drew ?_ | refine below_drewN ?_ _ | refine Below.alloc ?_ (by simp <;> omega) _))) hbb
   have HC := hd_ (bt HC.out hbb2)
   have H6 := hd_ (H6.out.ext hbb2)
   have H7 := hd_ (H7.out.ext hbb2)
   clear hbb hbb2 lx x0 x1 x2 x3 ly y0 y1 y2 y3
   obtain ⟨lx, x0, x1, x2, x3⟩ := blk4' H6.out
   obtain ⟨ly, y0, y1, y2, y3⟩ := blk4' H7.out
   go_wp2_with fail
   refine (HK4.out _ _ _ (by repeat (first | exact Blk.at (by simp) | assumption | refine Blk.drew ?_ | refine Blk.old ?_ _)) (bt HC.out (by repeat (first | exact Below.refl _ _ | assumption | refine Below.drew ?_ | refine below_drewN ?_ _ | refine Below.alloc ?_ (by simp <;> omega) _)))).mono ?_
   rintro q W8 ⟨rfl, hbb⟩
   have hbb2 : Below W7.heap.size W7 W8 := bt ((by repeat (first | exact Below.refl _ _ | assumption | refine Below.drew ?_ | refine below_drewN ?_ _ | refine Below.alloc ?_ (by simp <;> omega) _))) hbb
   have HC := hd_ (bt HC.out hbb2)
   have H6 := hd_ (H6.out.ext hbb2)
   have H7 := hd_ (H7.out.ext hbb2)
   clear hbb hbb2 lx x0 x1 x2 x3 ly y0 y1 y2 y3
   obtain ⟨lx, x0, x1, x2, x3⟩ := blk4' H6.out
   obtain ⟨ly, y0, y1, y2, y3⟩ := blk4' H7.out
   clear lx x0 x1 x2 x3 ly y0 y1 y2 y3 H6 H7
   have HM := hd_ (ixmeta_any nm (by omega))
   have hn1 : (ByteArray.mk #[109]).size = 1 := rfl
   have hms : nm.size ≤ 4096 := by omega
   go_wp2_with fail
   refine (HS1.out _).mono ?_
   rintro q W9 ⟨rfl, rfl⟩
   go_wp2_with fail
   refine (HS2.out _).mono ?_
   rintro q W9 ⟨rfl, rfl⟩
   go_wp2_with fail
   refine (HS3.out _).mono ?_
   rintro q W9 ⟨rfl, rfl⟩
   go_wp2_with fail
   refine (HH.out _).mono ?_
   rintro q W9 ⟨rfl, hbb⟩
   have HC9 := hd_ (bt HC.out hbb)
   clear hbb
   go_wp2_with fail
   refine (HS4.out _).mono ?_
   rintro q Wa ⟨rfl, rfl⟩
   go_wp2_with fail
   refine (HM.out _).mono ?_
   rintro q Wa ⟨rfl, rfl⟩
   go_wp2_with fail
   refine (HA.out _ HC9.out).mono ?_
   rintro q Wa ⟨rfl, hbb⟩
   go_wp2_with fail
   go_ret
   exact ⟨rfl, bt HC9.out hbb⟩
theorem ixkeys_walk (k : Int) (v u : V) (hv : v.wf) (hu : u.wf) (tx : Int) (h0 : 0 ≤ tx) (h1 : tx ≤ 18446744073709551615) (nm : ByteArray) (hnm : nm.size ≤ 140737488355328) (w : World) (hL : LayX w) :
  Calls Tryz.prog 6 #[.int .i64 k, v.agg, u.agg, .int .u64 tx, .string nm] w fun q w' => q = .returned (.bool true) ∧ Below w.heap.size w w' :=
 keys_walk k v u hv hu tx h0 h1 nm hnm w hL (fun W hW => alive26_any W (hL.ext hW))
end Go.Proofs.YtceoficoappkpaaGreatDoor
namespace Go.Proofs.YtceoficoappkpaaGreatDoor.cardIndexKeys
open Go.ChangeShapes Go.WideShapes Go.ChangeAt Go.RowKit Go.Deep

set_option maxRecDepth 100000 in
theorem contract (H : Type) (enc : TypeId × Value → H) (W : World) (base : Nat) (args : Array Value) (ds gs : List (DataW H)) (before : List MemPlace)
  (hval : ∀ (j : Nat) t v, Tryz.f6.params[j]? = some t → args[j]? = some v → Value.okWide Tryz.prog W .any base t v)
  (hW : DataW.Whole enc Tryz.prog Tryz.f6.params.toList Rows.indexKeysSpec.vars false W args.toList ds gs before)
  (hsz : (DataW.weightsEach Tryz.prog (Tryz.f6.params.toList ++ (OpenSpec.ofChange Rows.indexKeysSpec).bare.plain.varTypes Tryz.prog) (ds ++ gs)).all (· ≤ reachBytes) = true)
  (hsh : W.ShapedOpen Tryz.prog)
  (hL : laidMetH Tryz.prog Rows.indexKeysRow.laid W) :
  Calls Tryz.prog 6 args W fun e W' => ∃ v, e = .returned v ∧ Rows.indexKeysSpec.post enc Tryz.prog Tryz.f6 false true false false W args v W' := by
 have hT : LayX W := layx_of_list hL hsh
 have hW' := hW
 obtain ⟨p, q, hA0, hV, rfl, hfz, hnd⟩ := hW
 have hA : DataW.TrodAll enc Tryz.prog W 0 (fun _ => true) true Tryz.f6.params.toList args.toList ds p := hA0
 clear hA0
 obtain ⟨rfl, rfl⟩ := trodVars_none hV
 have hwt : ∀ (j : Nat) (t : TypeId) (d : DataW H), Tryz.f6.params.toList[j]? = some t → ds[j]? = some d → ∀ n ∈ d.weights Tryz.prog t, n ≤ reachBytes := by
  intro j t d ht hd n hn
  have hj : (Tryz.f6.params.toList ++ (OpenSpec.ofChange Rows.indexKeysSpec).bare.plain.varTypes Tryz.prog)[j]? = some t := by
   rw [List.getElem?_append_left (List.getElem?_eq_some_iff.1 ht).1]; exact ht
  have hd' : (ds ++ [])[j]? = some d := by rw [List.append_nil]; exact hd
  have := List.all_eq_true.1 hsz n (DataW.weights_mem_each hj hd' n hn)
  simpa using this
 rw [Tryz.params6] at hA hval hwt
 obtain ⟨v0, vs0, d0, ds0, p0, q0, hargs, rfl, rfl, h0, r0⟩ := trodAll_cons hA
 obtain ⟨v1, vs1, d1, ds1, p1, q1, rfl, rfl, rfl, h1, r1⟩ := trodAll_cons r0
 obtain ⟨v2, vs2, d2, ds2, p2, q2, rfl, rfl, rfl, h2, r2⟩ := trodAll_cons r1
 obtain ⟨v3, vs3, d3, ds3, p3, q3, rfl, rfl, rfl, h3, r3⟩ := trodAll_cons r2
 obtain ⟨v4, vs4, d4, ds4, p4, q4, rfl, rfl, rfl, h4, r4⟩ := trodAll_cons r3
 obtain ⟨rfl, rfl, rfl⟩ := trodAll_nil r4
 obtain rfl : args = #[v0, v1, v2, v3, v4] := by cases args; simp_all
 obtain ⟨x0, rfl, rfl, rfl, wx0⟩ := open_int Tryz.underlying3 (hval 0 3 v0 rfl rfl) h0
 obtain ⟨cs1, rfl, _⟩ := okWide_struct Tryz.underlying47 (hval 1 47 v1 rfl rfl)
 obtain ⟨fuel1, hf1⟩ := h1
 obtain ⟨x1, hwf1, e1, _⟩ := open_V (cs := cs1.toList) hf1 (hwt 1 47 d1 rfl rfl)
 have e1' : cs1 = #[.int .u8 x1.k, .int .i64 x1.n, .int .u64 x1.r, .string x1.t] := by rw [← Array.toArray_toList (xs := cs1), e1]
 subst e1'
 obtain ⟨cs2, rfl, _⟩ := okWide_struct Tryz.underlying47 (hval 2 47 v2 rfl rfl)
 obtain ⟨fuel2, hf2⟩ := h2
 obtain ⟨x2, hwf2, e2, _⟩ := open_V (cs := cs2.toList) hf2 (hwt 2 47 d2 rfl rfl)
 have e2' : cs2 = #[.int .u8 x2.k, .int .i64 x2.n, .int .u64 x2.r, .string x2.t] := by rw [← Array.toArray_toList (xs := cs2), e2]
 subst e2'
 obtain ⟨x3, rfl, rfl, rfl, wx3⟩ := open_int Tryz.underlying29 (hval 3 29 v3 rfl rfl) h3
 have bx3 := bounds_u64 wx3
 obtain ⟨s4, rfl, rfl, rfl, hs4⟩ := ChangeMaps.open_string Tryz.underlying9 (hval 4 9 v4 rfl rfl) h4
 have hz4 : s4.size ≤ 140737488355328 := by
  have h1 := hwt 4 9 _ rfl rfl s4.data.toList.length (by simp [DataW.weights])
  have h2 : s4.data.toList.length = s4.size := by simp
  have h3 : reachBytes ≤ 140737488355328 := by decide
  omega
 refine (ixkeys_walk x0 x1 x2 hwf1 hwf2 x3 bx3.1 bx3.2 s4 hz4 W hT).mono fun e W' ⟨he, hb⟩ => ?_
 subst he
 refine ⟨_, rfl, post_law hW' rfl rfl ?_ rfl rfl rfl hb⟩
 rw [Tryz.params6]
 intro t ht
 simp only [List.mem_cons, List.not_mem_nil, or_false] at ht
 rcases ht with rfl | rfl | rfl | rfl | rfl <;> exact ⟨by kernel_rfl, of_decide_eq_true (by kernel_rfl)⟩

theorem laid_met (os : Os) : laidMet Tryz.prog Rows.indexKeysRow.laid ((laidWorld os).forCall (fun _ _ => 0) ⟨#[], #[.int .i64 0, (.agg #[.int .u8 0, .int .i64 0, .int .u64 0, .string ⟨#[]⟩]), (.agg #[.int .u8 0, .int .i64 0, .int .u64 0, .string ⟨#[]⟩]), .int .u64 0, .string ⟨#[]⟩], []⟩).memory :=
 laidMet_of_run' 8 (by kernel_rfl) (by kernel_rfl)
theorem reads (os : Os) {H : Type} (enc : TypeId × Value → H) : ∃ places, DataW.whole enc Tryz.prog ((laidWorld os).forCall (fun _ _ => 0) ⟨#[], #[.int .i64 0, (.agg #[.int .u8 0, .int .i64 0, .int .u64 0, .string ⟨#[]⟩]), (.agg #[.int .u8 0, .int .i64 0, .int .u64 0, .string ⟨#[]⟩]), .int .u64 0, .string ⟨#[]⟩], []⟩).memory Tryz.f6.params.toList Rows.indexKeysSpec.vars false (#[.int .i64 0, (.agg #[.int .u8 0, .int .i64 0, .int .u64 0, .string ⟨#[]⟩]), (.agg #[.int .u8 0, .int .i64 0, .int .u64 0, .string ⟨#[]⟩]), .int .u64 0, .string ⟨#[]⟩] : Array Value).toList 8 = some ([.lit (.int .i64 0), (.agg [.lit (.int .u8 0), .lit (.int .i64 0), .lit (.int .u64 0), .lit (.string [])]), (.agg [.lit (.int .u8 0), .lit (.int .i64 0), .lit (.int .u64 0), .lit (.string [])]), .lit (.int .u64 0), .lit (.string [])], [], places) :=
 ⟨[], by kernel_rfl⟩

set_option maxRecDepth 100000 in
theorem lifted (os : Os) (started : os.Started) (H : Type) (enc : TypeId × Value → H) (F : Stop.Interp) :
  ReturnsInHanded {} Tryz.checked os 6 .any ((OpenSpec.ofChange Rows.indexKeysSpec).preRow enc Tryz.prog Tryz.f6 Rows.indexKeysRow.domain false Rows.indexKeysRow.laid) (((OpenSpec.ofChange Rows.indexKeysSpec).at F).post enc Tryz.prog Tryz.f6 false true false false) := by
 obtain ⟨places, hx⟩ := reads os enc
 refine returnsInHanded_of_row (C := Tryz.checked) (s := OpenSpec.ofChange Rows.indexKeysSpec) own started (by kernel_rfl) Tryz.func6
  (witness_row_at (enc := enc) (C := Tryz.checked) false (laidWorld os) #[.int .i64 0, (.agg #[.int .u8 0, .int .i64 0, .int .u64 0, .string ⟨#[]⟩]), (.agg #[.int .u8 0, .int .i64 0, .int .u64 0, .string ⟨#[]⟩]), .int .u64 0, .string ⟨#[]⟩] rfl (by kernel_rfl) (by kernel_rfl) (by kernel_rfl)
    (OpenSpec.preRow_of_cond 8 hx (by kernel_rfl) (fun k hk => by cases hk) (by kernel_rfl) (laid_met os))) ?_
 intro W base args ds gs before hval hW _ _ hsz hL hsh _
 exact contract H enc W base args ds gs before hval hW hsz hsh hL

end Go.Proofs.YtceoficoappkpaaGreatDoor.cardIndexKeys
