/- Texts joined by a tool: contracts and walks of this claim. -/
import Derived.WalkKit
import Derived.WalkMore
import Derived.WalkLawsBesides
import Derived.WalkSpells
import Derived.Lib.Hide
import Derived.Laws.BitsAllLaws
import Derived.Laws.Externs
import Derived.Below
import Derived.Test.YtfekohonidggjaaGreatDoorProg
import Derived.Test.YtfekohonidggjaaGreatDoorShelf
import Derived.Lib.ParseIntB
import Derived.Lib.ItoaNum
namespace Go.Proofs.YtfekohonidggjaaGreatDoor
open Go.RowKit
theorem bel1 (w : World) (o : Obj) : Below w.heap.size w (w.alloc o) := Below.alloc (Below.refl _ _) (Nat.le_refl _) _
theorem hd_ {p : Prop} (h : p) : Hid p := h
def nanB (b : Int) : Bool := decide (b / 4503599627370496 % 2048 = 2047) && decide (b % 4503599627370496 ≠ 0)
def canonZ (b : Int) : Int := if nanB b then 9221120237041090561 else b
theorem none_any (b : Int) (h0 : 0 ≤ b) (h1 : b ≤ 18446744073709551615) (w : World) :
 Calls Tryz.prog 119 #[.int .u64 b] w fun e w' => e = .returned (.bool (nanB b)) ∧ w = w' := by
 go_enter Tryz.func119, Tryz.ntmps119
 go_wp2
 all_goals go_ret
 · rename_i h
   refine ⟨?_, rfl⟩
   by_cases hz : b % 4503599627370496 = 0 <;> simp [nanB, h, bne, hz]
 · rename_i h
   exact ⟨by simp [nanB, h], rfl⟩
theorem order_self (d : Ieee.Datum) : (d.order d != some .eq) = d.isNaN := by
 cases d with
 | number s m i => simp [Ieee.Datum.order, Ieee.Datum.isNaN]
 | infinity s => simp [Ieee.Datum.order, Ieee.Datum.isNaN]
 | nan s t => simp [Ieee.Datum.order, Ieee.Datum.isNaN]
theorem isNaN_read (x : Nat) (_hx : x ≤ 18446744073709551615) : (Ieee.double.read x).isNaN = nanB (x : Int) := by
 have hs : Ieee.double.signWeight = 9223372036854775808 := by decide
 have hb : Ieee.double.binade = 4503599627370496 := by decide
 have hi : Ieee.double.infRung = 9218868437227405312 := by decide
 unfold Ieee.Format.read
 simp only [hs, hb, hi]
 unfold nanB
 by_cases c1 : x % 9223372036854775808 < 4503599627370496
 · rw [if_pos c1]
   have : ¬ ((x : Int) / 4503599627370496 % 2048 = 2047) := by omega
   simp [Ieee.Datum.isNaN, this]
 · rw [if_neg c1]
   by_cases c2 : x % 9223372036854775808 < 9218868437227405312
   · rw [if_pos c2]
     have : ¬ ((x : Int) / 4503599627370496 % 2048 = 2047) := by omega
     simp [Ieee.Datum.isNaN, this]
   · rw [if_neg c2]
     have h1 : (x : Int) / 4503599627370496 % 2048 = 2047 := by omega
     by_cases c3 : x % 9223372036854775808 = 9218868437227405312
     · rw [if_pos c3]
       have h2 : (x : Int) % 4503599627370496 = 0 := by omega
       simp [Ieee.Datum.isNaN, h1, h2]
     · rw [if_neg c3]
       have h2 : ¬ (x : Int) % 4503599627370496 = 0 := by omega
       simp [Ieee.Datum.isNaN, h1, h2]
theorem frombits_run (b : Int) (w : World) : (callFunc 137 #[.int .u64 b]).run Tryz.prog w = .ok (.value (.float .f64 b.toNat)) w := by
 rw [run_callFunc_extern Tryz.func137 (by kernel_rfl) (by kernel_rfl) (by kernel_rfl) (e := Extern.MathFloatBits.float64frombits) (by kernel_rfl)]
 rfl
theorem nan_neq (b : Int) (h0 : 0 ≤ b) (h1 : b ≤ 18446744073709551615) : (FloatKind.f64.format.order b.toNat b.toNat != some .eq) = nanB b := by
 obtain ⟨n, rfl⟩ := Int.eq_ofNat_of_zero_le h0
 rw [← isNaN_read n (by omega), ← order_self]
 rfl
set_option maxRecDepth 100000 in
theorem canon_any (b : Int) (h0 : 0 ≤ b) (h1 : b ≤ 18446744073709551615) (w : World) :
 Calls Tryz.prog 101 #[.int .u64 b] w fun e w' => e = .returned (.int .u64 (canonZ b)) ∧ w = w' := by
 have hfb := frombits_run b
 have hn := nan_neq b h0 h1
 have HN := hd_ hn
 cases hc : nanB b
 · have HC := hd_ hc
   rw [hc] at hn
   clear hc
   go_enter Tryz.func101, Tryz.ntmps101
   go_wp2
   go_ret
   exact ⟨by simp [canonZ, HC.out], rfl⟩
 · have HC := hd_ hc
   rw [hc] at hn
   clear hc
   go_enter Tryz.func101, Tryz.ntmps101
   go_wp2
   go_ret
   exact ⟨by simp [canonZ, HC.out], rfl⟩
theorem canonR_any (b : Int) (h0 : 0 ≤ b) (h1 : b ≤ 18446744073709551615) (w : World) :
 Calls Tryz.prog 85 #[.int .u64 b] w fun e w' => e = .returned (.int .u64 (canonZ b)) ∧ w = w' := by
 cases hc : nanB b
 all_goals
  have hn := none_any b h0 h1
  rw [hc] at hn
  have HN := hd_ hn
  clear hn
  have HC := hd_ hc
  clear hc
  go_enter Tryz.func85, Tryz.ntmps85
  go_wp2_with (go_at_call 119; refine (HN.out _).mono ?_; rintro e w' ⟨rfl, rfl⟩)
  go_ret
  exact ⟨by simp [canonZ, HC.out], rfl⟩
structure V where
 k : Int
 n : Int
 r : Int
 t : ByteArray
def V.wf (v : V) : Prop := 0 ≤ v.k ∧ v.k ≤ 255 ∧ -9223372036854775808 ≤ v.n ∧ v.n ≤ 9223372036854775807 ∧ 0 ≤ v.r ∧ v.r ≤ 18446744073709551615 ∧ v.t.size ≤ 140737488355328
def V.agg (v : V) : Value := .agg #[.int .u8 v.k, .int .i64 v.n, .int .u64 v.r, .string v.t]
def mayB (v : V) : Bool :=
 if v.k = 0 then decide (v.n = 0) && decide (v.r = 0) && decide (v.t.size = 0)
 else if v.k = 1 then (decide (v.n = 0) || decide (v.n = 1)) && decide (v.r = 0) && decide (v.t.size = 0)
 else if v.k = 2 then decide (v.r = 0) && decide (v.t.size = 0)
 else if v.k = 3 then decide (v.n = 0) && decide (v.r = canonZ v.r) && decide (v.t.size = 0)
 else if v.k = 4 then decide (v.n = 0) && decide (v.r = 0) && decide (v.t.size ≤ 100)
 else if v.k = 5 then Lib.validD v.t.data.toList && (decide (v.n = 0) && decide (v.r = 0) && decide (v.t.size ≤ 100))
 else false
def okE (b : Bool) : Int := if b then 0 else 2
theorem ret_int {k : IntKind} {a b : Int} (h : a = b) : Ending.returned (.int k a) = .returned (.int k b) := by rw [h]
theorem ret_bool {a b : Bool} (h : a = b) : Ending.returned (.bool a) = .returned (.bool b) := by rw [h]
theorem empty_of_size {t : ByteArray} (h : t.size = 0) : t = ByteArray.empty := by
 obtain ⟨d⟩ := t
 have : d = #[] := Array.eq_empty_of_size_eq_zero h
 rw [this]; rfl
theorem toList_ne {t : ByteArray} (h : ¬ t.size = 0) : ¬ t.toList = [] := by
 intro e
 apply h
 rw [Lib.toList_data] at e
 have : t.data.toList.length = 0 := by rw [e]; rfl
 simpa using this
theorem bt {W a b : World} (h : Below W.heap.size W a) (k : Below a.heap.size a b) : Below W.heap.size W b := h.trans (k.mono h.size)
theorem bcell {W w1 : World} (hb : Below W.heap.size W w1) : (∀ b o, b < W.heap.size → w1.cell? ⟨b, o, none⟩ = W.cell? ⟨b, o, none⟩) ∧ (∀ b o, b < W.heap.size → w1.frozen? ⟨b, o, none⟩ = W.frozen? ⟨b, o, none⟩) :=
 ⟨fun b o h => hb.cell (p := ⟨b, o, none⟩) h, fun b o h => hb.frozen (p := ⟨b, o, none⟩) h⟩
def Tabs (w : World) : Prop := Lib.Utf8Tabs 0 1 w
theorem Tabs.ext {w w' : World} (h : Tabs w) (hb : Below w.heap.size w w') : Tabs w' := Utf8Tabs_below h hb
theorem wrap_le1 {n : Int} (h1 : -9223372036854775808 ≤ n) (h2 : n ≤ 9223372036854775807) (h : IntKind.u64.wrap n ≤ 1) : n = 0 ∨ n = 1 := by
 rw [IntKind.wrap_u64] at h; omega
theorem wrap_gt1 {n : Int} (h : 1 < IntKind.u64.wrap n) : ¬ n = 0 ∧ ¬ n = 1 := by
 rw [IntKind.wrap_u64] at h; omega
theorem valid_any (s : ByteArray) (w : World) (hs : s.size ≤ 9223372036854775807) (hT : Tabs w) :
 Calls Tryz.prog 86 #[.string s] w fun e w' => e = .returned (.bool (Lib.validD s.data.toList)) ∧ Below w.heap.size w w' :=
 Tryz.utf8_ValidString s w hs hT
set_option maxRecDepth 100000 in
theorem check_plain (v : V) (hv : v.wf) (hk : v.k ≤ 2) (w : World) :
 Calls Tryz.prog 61 #[v.agg] w fun e w' => e = .returned (.int .i64 (okE (mayB v))) ∧ Below w.heap.size w w' := by
 obtain ⟨k, n, r, t⟩ := v
 obtain ⟨hk0, _, h1, h2, h3, h4, h5⟩ := hv
 simp only at h1 h2 h3 h4 h5 hk hk0
 unfold V.agg
 have hkk : k = 0 ∨ k = 1 ∨ k = 2 := by omega
 by_cases ht : t.size = 0
 · obtain rfl := empty_of_size ht
   clear ht
   rcases hkk with rfl | rfl | rfl
   all_goals
    generalize hM : okE (mayB _) = M
    have HM := hd_ hM
    clear hM
    go_enter Tryz.func61, Tryz.ntmps61
    go_wp2
    all_goals
     go_ret
     refine ⟨ret_int ?_, by repeat (first | exact Below.refl _ _ | refine Below.alloc ?_ (by simp) _)⟩
     rw [← HM.out]
     first
      | (have hw := wrap_le1 h1 h2 (by assumption); simp [okE, mayB, *]; done)
      | (have hw := wrap_gt1 (by assumption); simp [okE, mayB, hw.1, hw.2]; done)
      | (simp [okE, mayB, *]; done)
 · have ht' := toList_ne ht
   have htp : 0 < t.size := by omega
   rcases hkk with rfl | rfl | rfl
   all_goals
    generalize hM : okE (mayB _) = M
    have HM := hd_ hM
    clear hM
    go_enter Tryz.func61, Tryz.ntmps61
    go_wp2
    all_goals
     go_ret
     refine ⟨ret_int ?_, by repeat (first | exact Below.refl _ _ | refine Below.alloc ?_ (by simp) _)⟩
     rw [← HM.out]
     simp [okE, mayB, ht]
set_option maxRecDepth 100000 in
theorem check_bytes (v : V) (hv : v.wf) (hk : v.k = 4) (w : World) :
 Calls Tryz.prog 61 #[v.agg] w fun e w' => e = .returned (.int .i64 (okE (mayB v))) ∧ Below w.heap.size w w' := by
 obtain ⟨k, n, r, t⟩ := v
 obtain ⟨_, _, h1, h2, h3, h4, h5⟩ := hv
 simp only at h1 h2 h3 h4 h5 hk
 subst hk
 unfold V.agg
 generalize hM : okE (mayB _) = M
 have HM := hd_ hM
 clear hM
 go_enter Tryz.func61, Tryz.ntmps61
 go_wp2
 all_goals
  go_ret
  refine ⟨ret_int ?_, by repeat (first | exact Below.refl _ _ | refine Below.alloc ?_ (by simp) _)⟩
  rw [← HM.out]
  first
   | (have hl : ¬ t.size ≤ 100 := by omega
      simp [okE, mayB, hl]; done)
   | (have hl : t.size ≤ 100 := by omega
      simp [okE, mayB, *]; done)
   | (simp [okE, mayB, *]; done)
set_option maxRecDepth 100000 in
theorem check_real (v : V) (hv : v.wf) (hk : v.k = 3) (w : World) :
 Calls Tryz.prog 61 #[v.agg] w fun e w' => e = .returned (.int .i64 (okE (mayB v))) ∧ Below w.heap.size w w' := by
 obtain ⟨k, n, r, t⟩ := v
 obtain ⟨_, _, h1, h2, h3, h4, h5⟩ := hv
 simp only at h1 h2 h3 h4 h5 hk
 subst hk
 unfold V.agg
 generalize hM : okE (mayB _) = M
 have HM := hd_ hM
 clear hM
 have HC := hd_ (canon_any r h3 h4)
 generalize hc : canonZ r = c at HC
 have Hc := hd_ hc
 clear hc
 by_cases ht : t.size = 0
 · obtain rfl := empty_of_size ht
   clear ht
   go_enter Tryz.func61, Tryz.ntmps61
   go_wp2_with (go_at_call 101; refine (HC.out _).mono ?_; rintro e w' ⟨rfl, rfl⟩)
   all_goals
    go_ret
    refine ⟨ret_int ?_, by repeat (first | exact Below.refl _ _ | refine Below.alloc ?_ (by simp) _)⟩
    rw [← HM.out]
    first
     | (have e : canonZ r = r := by rw [Hc.out]; symm; assumption
        have hn : n = 0 := by assumption
        simp only [okE, mayB, e, hn]; rfl)
     | (have e : ¬ r = canonZ r := by rw [Hc.out]; assumption
        simp [okE, mayB, e]; done)
     | (have hn : ¬ n = 0 := by assumption
        simp [okE, mayB, hn]; done)
 · have ht' := toList_ne ht
   have htp : 0 < t.size := by omega
   go_enter Tryz.func61, Tryz.ntmps61
   go_wp2_with (go_at_call 101; refine (HC.out _).mono ?_; rintro e w' ⟨rfl, rfl⟩)
   all_goals
    go_ret
    refine ⟨ret_int ?_, by repeat (first | exact Below.refl _ _ | refine Below.alloc ?_ (by simp) _)⟩
    rw [← HM.out]
    simp [okE, mayB, ht]
set_option maxRecDepth 100000 in
theorem check_other (v : V) (hv : v.wf) (hk : 5 < v.k) (w : World) :
 Calls Tryz.prog 61 #[v.agg] w fun e w' => e = .returned (.int .i64 (okE (mayB v))) ∧ Below w.heap.size w w' := by
 obtain ⟨k, n, r, t⟩ := v
 obtain ⟨_, _, h1, h2, h3, h4, h5⟩ := hv
 simp only at h1 h2 h3 h4 h5 hk
 unfold V.agg
 have hM : okE (mayB ⟨k, n, r, t⟩) = 2 := by
  have e0 : ¬ k = 0 := by omega
  have e1 : ¬ k = 1 := by omega
  have e2 : ¬ k = 2 := by omega
  have e3 : ¬ k = 3 := by omega
  have e4 : ¬ k = 4 := by omega
  have e5 : ¬ k = 5 := by omega
  simp [mayB, okE, e0, e1, e2, e3, e4, e5]
 rw [hM]
 clear hM
 go_enter Tryz.func61, Tryz.ntmps61
 go_wp2
 all_goals
  go_ret
  exact ⟨rfl, by repeat (first | exact Below.refl _ _ | refine Below.alloc ?_ (by simp) _)⟩
set_option maxRecDepth 100000 in
theorem check_text (v : V) (hv : v.wf) (hk : v.k = 5) (w : World) (hT : Tabs w) :
 Calls Tryz.prog 61 #[v.agg] w fun e w' => e = .returned (.int .i64 (okE (mayB v))) ∧ Below w.heap.size w w' := by
 obtain ⟨k, n, r, t⟩ := v
 obtain ⟨_, _, h1, h2, h3, h4, h5⟩ := hv
 simp only at h1 h2 h3 h4 h5 hk
 subst hk
 unfold V.agg
 generalize hM : okE (mayB _) = M
 have HM := hd_ hM
 clear hM
 have HV := hd_ (fun W hW => valid_any t W (by omega) hW)
 generalize hc : Lib.validD t.data.toList = c at HV
 have Hc := hd_ hc
 clear hc
 have HT := hd_ hT
 clear hT
 cases c
 all_goals
  go_enter Tryz.func61, Tryz.ntmps61
  go_wp2_with (go_at_call 86; refine (HV.out _ (HT.out.ext (by repeat (first | exact Below.refl _ _ | refine Below.alloc ?_ (by simp) _)))).mono ?_; rintro e w' ⟨rfl, hb⟩; obtain ⟨hcl, hfr⟩ := bcell hb; have HB := hd_ hb; clear hb)
  all_goals
   go_ret
   refine ⟨ret_int ?_, ?_⟩
   · rw [← HM.out]
     first
      | (have hc := Hc.out
         have hl : ¬ t.size ≤ 100 := by omega
         simp [okE, mayB, hl]; done)
      | (have hc := Hc.out
         have hl : t.size ≤ 100 := by omega
         simp [okE, mayB, *]; done)
      | (have hc := Hc.out
         simp [okE, mayB, *]; done)
   · have hb := HB.out
     repeat (refine Below.setCell ?_ (by simp) _)
     refine Below.trans ?_ (hb.mono (by simp; omega))
     repeat (first | exact Below.refl _ _ | refine Below.alloc ?_ (by simp) _)
theorem check_any (v : V) (hv : v.wf) (w : World) (hT : Tabs w) :
 Calls Tryz.prog 61 #[v.agg] w fun e w' => e = .returned (.int .i64 (okE (mayB v))) ∧ Below w.heap.size w w' := by
 have h0 := hv.1
 by_cases h2 : v.k ≤ 2
 · exact check_plain v hv h2 w
 · by_cases h3 : v.k = 3
   · exact check_real v hv h3 w
   · by_cases h4 : v.k = 4
     · exact check_bytes v hv h4 w
     · by_cases h5 : v.k = 5
       · exact check_text v hv h5 w hT
       · exact check_other v hv (by omega) w
def bsO (l : List UInt8) : ByteArray := ⟨l.toArray⟩
theorem bsO_data (l : List UInt8) : (bsO l).data.toList = l := rfl
theorem bsO_of (s : ByteArray) : bsO s.data.toList = s := by cases s; rfl
theorem bsO_inj {a b : List UInt8} (h : bsO a = bsO b) : a = b := by rw [← bsO_data a, h, bsO_data]
theorem bsO_size (l : List UInt8) : (bsO l).size = l.length := by show l.toArray.size = _; simp
theorem dec_digit : ∀ (u : Nat), ∀ c ∈ Lib.decDigits u, 48 ≤ c.toNat ∧ c.toNat ≤ 57 := by
 intro u
 induction u using Nat.strongRecOn with
 | _ u ih =>
  intro c hc
  rw [Lib.decDigits] at hc
  split at hc
  · next h =>
    simp only [List.mem_singleton] at hc
    subst hc
    simp only [UInt8.toNat_ofNat']
    omega
  · next h =>
    rcases List.mem_append.1 hc with h1 | h1
    · exact ih (u / 10) (by omega) c h1
    · simp only [List.mem_singleton] at h1
      subst h1
      simp only [UInt8.toNat_ofNat']
      omega
theorem dec_ne (u : Nat) : Lib.decDigits u ≠ [] := by
 rw [Lib.decDigits]
 split <;> simp
theorem pum_snoc (M : Nat) (hM : M ≤ 18446744073709551615) (c : UInt8) (hc : 48 ≤ c.toNat ∧ c.toNat ≤ 57) : ∀ (l : List UInt8) (acc v : Nat), Lib.parseUintM M acc l = .ok v → v * 10 + (c.toNat - 48) ≤ M → Lib.parseUintM M acc (l ++ [c]) = .ok (v * 10 + (c.toNat - 48))
 | [], acc, v, h, hv => by
  simp only [Lib.parseUintM, Lib.NumEnd.ok.injEq] at h
  subst h
  simp only [List.nil_append, Lib.parseUintM]
  rw [if_pos hc, if_neg (by omega), if_neg (by omega)]
 | d :: l, acc, v, h, hv => by
  simp only [List.cons_append, Lib.parseUintM] at h ⊢
  by_cases h1 : 48 ≤ d.toNat ∧ d.toNat ≤ 57
  · rw [if_pos h1] at h ⊢
    by_cases h2 : 1844674407370955162 ≤ acc
    · rw [if_pos h2] at h; cases h
    · rw [if_neg h2] at h ⊢
      by_cases h3 : M < acc * 10 + (d.toNat - 48)
      · rw [if_pos h3] at h; cases h
      · rw [if_neg h3] at h ⊢
        exact pum_snoc M hM c hc l _ v h hv
  · rw [if_neg h1] at h; cases h
theorem pum_dec (M : Nat) (hM : M ≤ 18446744073709551615) (u : Nat) : u ≤ M → Lib.parseUintM M 0 (Lib.decDigits u) = .ok u := by
 induction u using Nat.strongRecOn with
 | _ u ih =>
  intro hu
  rw [Lib.decDigits]
  split
  · next h =>
    have hc : (UInt8.ofNat (48 + u)).toNat = 48 + u := by simp only [UInt8.toNat_ofNat']; omega
    simp only [Lib.parseUintM]
    rw [hc, if_pos (by omega), if_neg (by omega), if_neg (by omega)]
    congr 1
    omega
  · next h =>
    have hc : (UInt8.ofNat (48 + u % 10)).toNat = 48 + u % 10 := by simp only [UInt8.toNat_ofNat']; omega
    have := pum_snoc M hM (UInt8.ofNat (48 + u % 10)) (by rw [hc]; omega) _ 0 (u / 10) (ih (u / 10) (by omega) (by omega)) (by rw [hc]; omega)
    rw [this, hc]
    congr 1
    omega
theorem dec_head (u : Nat) : ∃ c r, Lib.decDigits u = c :: r ∧ 48 ≤ c.toNat ∧ c.toNat ≤ 57 := by
 cases h : Lib.decDigits u with
 | nil => exact absurd h (dec_ne u)
 | cons c r => exact ⟨c, r, rfl, dec_digit u c (by rw [h]; simp)⟩
theorem parse_itoa (v : Int) (h0 : -9223372036854775808 ≤ v) (h1 : v ≤ 9223372036854775807) : Lib.parseIntB 64 (Lib.itoa v) = .ok v := by
 have e64 : (2 : Nat) ^ 64 - 1 = 18446744073709551615 := by decide
 have e63 : (2 : Nat) ^ (64 - 1) = 9223372036854775808 := by decide
 unfold Lib.itoa
 by_cases hn : v < 0
 · rw [if_pos hn]
   simp only [Lib.parseIntB]
   have h45 : (45 : UInt8).toNat = 45 := rfl
   rw [h45, if_pos (by omega)]
   unfold Lib.parseUintB
   rw [if_neg (dec_ne _), e64, pum_dec _ (Nat.le_refl _) _ (by omega)]
   have h9 : ¬ 9223372036854775808 < v.natAbs := by omega
   simp [h9]
   omega
 · rw [if_neg hn]
   obtain ⟨c, r, e, hc⟩ := dec_head v.toNat
   have hu : Lib.parseUintB 64 (Lib.decDigits v.toNat) = .ok v.toNat := by
    unfold Lib.parseUintB
    rw [if_neg (dec_ne _), e64, pum_dec _ (Nat.le_refl _) _ (by omega)]
   rw [e] at hu ⊢
   simp only [Lib.parseIntB]
   rw [if_neg (by omega), hu]
   simp only [e63]
   rw [if_neg (by omega), if_neg (by omega), if_neg (by omega)]
   congr 1
   omega
theorem itoa_ne (v : Int) : Lib.itoa v ≠ [] := by
 unfold Lib.itoa
 split
 · simp
 · exact dec_ne _
theorem itoa_mem (v : Int) : ∀ c ∈ Lib.itoa v, c.toNat = 45 ∨ (48 ≤ c.toNat ∧ c.toNat ≤ 57) := by
 intro c hc
 unfold Lib.itoa at hc
 split at hc
 · rcases List.mem_cons.1 hc with rfl | h
   · exact Or.inl rfl
   · exact Or.inr (dec_digit _ c h)
 · exact Or.inr (dec_digit _ c hc)
def longZ (w : List UInt8) : Option Int := match Lib.parseIntB 64 w with
 | .ok v => if Lib.itoa v = w then some v else none
 | _ => none
theorem parse_range {w : List UInt8} {v : Int} (h : Lib.parseIntB 64 w = .ok v) : -9223372036854775808 ≤ v ∧ v ≤ 9223372036854775807 := by
 have e63 : (2 : Nat) ^ (64 - 1) = 9223372036854775808 := by decide
 cases w with
 | nil => simp [Lib.parseIntB] at h
 | cons c r =>
  simp only [Lib.parseIntB, e63] at h
  split at h
  · cases h
  · cases h
  · next u hu =>
    split at h
    · cases h
    · split at h
      · cases h
      · next h1 h2 =>
        simp only [Lib.NumEnd.ok.injEq] at h
        subst h
        split <;> omega
theorem longZ_some {w : List UInt8} {v : Int} : longZ w = some v ↔ ((-9223372036854775808 ≤ v ∧ v ≤ 9223372036854775807) ∧ Lib.itoa v = w) := by
 unfold longZ
 constructor
 · intro h
   split at h
   · next u hu =>
     split at h
     · next e =>
       injection h with h
       subst h
       exact ⟨parse_range hu, e⟩
     · cases h
   · cases h
 · rintro ⟨⟨h0, h1⟩, rfl⟩
   rw [parse_itoa v h0 h1]
   simp
theorem longZ_itoa {v : Int} (h : -9223372036854775808 ≤ v ∧ v ≤ 9223372036854775807) : longZ (Lib.itoa v) = some v := longZ_some.2 ⟨h, rfl⟩
def hexD (n : Nat) : UInt8 := if n ≤ 9 then UInt8.ofNat (48 + n) else UInt8.ofNat (87 + n)
def hexN : Nat → Nat → List UInt8
 | 0, _ => []
 | k + 1, v => hexN k (v / 16) ++ [hexD (v % 16)]
def unD (c : UInt8) : Option Nat := if 48 ≤ c.toNat ∧ c.toNat ≤ 57 then some (c.toNat - 48) else if 97 ≤ c.toNat ∧ c.toNat ≤ 102 then some (c.toNat - 87) else none
def unxA : Nat → List UInt8 → Option Nat
 | a, [] => some a
 | a, c :: r => match unD c with
  | some d => unxA (a * 16 + d) r
  | none => none
theorem hexN_length : ∀ k v, (hexN k v).length = k
 | 0, _ => rfl
 | k + 1, v => by simp [hexN, hexN_length k]
theorem hexD_toNat {n : Nat} (h : n < 16) : (hexD n).toNat = if n ≤ 9 then 48 + n else 87 + n := by
 unfold hexD
 split <;> (simp only [UInt8.toNat_ofNat']; omega)
theorem unD_hexD {n : Nat} (h : n < 16) : unD (hexD n) = some n := by
 unfold unD
 rw [hexD_toNat h]
 by_cases h9 : n ≤ 9
 · rw [if_pos h9, if_pos (by omega)]; congr 1; omega
 · rw [if_neg h9, if_neg (by omega), if_pos (by omega)]; congr 1; omega
theorem unD_some {c : UInt8} {d : Nat} (h : unD c = some d) : d < 16 ∧ hexD d = c := by
 unfold unD at h
 have hc := c.toNat_lt
 split at h
 · injection h with h
   refine ⟨by omega, ?_⟩
   apply UInt8.toNat_inj.1
   rw [hexD_toNat (by omega), if_pos (by omega)]
   omega
 · split at h
   · injection h with h
     refine ⟨by omega, ?_⟩
     apply UInt8.toNat_inj.1
     rw [hexD_toNat (by omega), if_neg (by omega)]
     omega
   · cases h
theorem unxA_snoc : ∀ (l : List UInt8) (a v : Nat) (c : UInt8) (d : Nat), unxA a l = some v → unD c = some d → unxA a (l ++ [c]) = some (v * 16 + d)
 | [], a, v, c, d, h, hc => by
  simp only [unxA, Option.some.injEq] at h
  subst h
  simp [unxA, hc]
 | e :: l, a, v, c, d, h, hc => by
  simp only [List.cons_append, unxA] at h ⊢
  split at h
  · exact unxA_snoc l _ v c d h hc
  · cases h
theorem unxA_hexN : ∀ (k v : Nat), v < 16 ^ k → unxA 0 (hexN k v) = some v
 | 0, v, h => by
  have : v = 0 := by simpa using h
  subst this; rfl
 | k + 1, v, h => by
  have h1 := unxA_hexN k (v / 16) (by rw [Nat.pow_succ] at h; omega)
  rw [hexN, unxA_snoc _ _ _ _ _ h1 (unD_hexD (show v % 16 < 16 by omega))]
  congr 1
  omega
theorem hexN_cons : ∀ (k v : Nat), hexN (k + 1) v = hexD (v / 16 ^ k % 16) :: hexN k v
 | 0, v => by simp [hexN]
 | k + 1, v => by
  rw [hexN, hexN_cons k (v / 16), hexN, Nat.div_div_eq_div_mul, Nat.pow_succ, Nat.mul_comm 16]
  rfl
theorem unxA_inv : ∀ (l : List UInt8) (a v : Nat), unxA a l = some v → v / 16 ^ l.length = a ∧ hexN l.length v = l
 | [], a, v, h => by
  simp only [unxA, Option.some.injEq] at h
  subst h
  simp [hexN]
 | c :: r, a, v, h => by
  simp only [unxA] at h
  split at h
  · next d hd =>
    obtain ⟨h1, h2⟩ := unxA_inv r _ v h
    obtain ⟨hd, hc⟩ := unD_some hd
    rw [List.length_cons]
    refine ⟨?_, ?_⟩
    · rw [Nat.pow_succ, ← Nat.div_div_eq_div_mul, h1]; omega
    · rw [hexN_cons, h1, h2, show (a * 16 + d) % 16 = d by omega, hc]
  · cases h
def hexL (l : List UInt8) : List UInt8 := l.flatMap fun b => hexN 2 b.toNat
def unhexL : List UInt8 → Option (List UInt8)
 | [] => some []
 | [_] => none
 | a :: b :: r => match unxA 0 [a, b] with
  | some v => (unhexL r).map (UInt8.ofNat v :: ·)
  | none => none
theorem hexL_cons (b : UInt8) (l : List UInt8) : hexL (b :: l) = hexN 2 b.toNat ++ hexL l := rfl
theorem hexL_length (l : List UInt8) : (hexL l).length = 2 * l.length := by
 induction l with
 | nil => rfl
 | cons b l ih => rw [hexL_cons, List.length_append, hexN_length, ih]; simp; omega
theorem unhex_hex : ∀ l, unhexL (hexL l) = some l
 | [] => rfl
 | b :: l => by
  have h := unxA_hexN 2 b.toNat (by have := b.toNat_lt; omega)
  rw [hexL_cons]
  obtain ⟨x, y, e⟩ : ∃ x y, hexN 2 b.toNat = [x, y] := ⟨_, _, rfl⟩
  rw [e] at h ⊢
  simp only [List.cons_append, List.nil_append, unhexL, h, unhex_hex l, Option.map_some]
  rw [UInt8.ofNat_toNat]
theorem hex_unhex : ∀ (w l : List UInt8), unhexL w = some l → hexL l = w
 | [], l, h => by simp only [unhexL, Option.some.injEq] at h; subst h; rfl
 | [_], l, h => by simp [unhexL] at h
 | a :: b :: r, l, h => by
  simp only [unhexL] at h
  split at h
  · next v hv =>
    obtain ⟨m, hm, rfl⟩ := Option.map_eq_some_iff.1 h
    obtain ⟨h1, h2⟩ := unxA_inv _ _ _ hv
    have hlt : v < 256 := by
     have : v / 16 ^ 2 = 0 := h1
     omega
    rw [hexL_cons, hex_unhex r m hm]
    have : (UInt8.ofNat v).toNat = v := by simp only [UInt8.toNat_ofNat']; omega
    rw [this]
    have h2' : hexN 2 v = [a, b] := h2
    rw [h2']
    rfl
  · cases h
theorem unhexL_some {w l : List UInt8} : unhexL w = some l ↔ hexL l = w := ⟨hex_unhex w l, fun h => by rw [← h, unhex_hex]⟩
theorem hexD_ne (n : Nat) (h : n < 16) : (48 ≤ (hexD n).toNat ∧ (hexD n).toNat ≤ 57) ∨ (97 ≤ (hexD n).toNat ∧ (hexD n).toNat ≤ 102) := by
 rw [hexD_toNat h]; split <;> omega
theorem hexN_mem : ∀ (k v : Nat), ∀ c ∈ hexN k v, (48 ≤ c.toNat ∧ c.toNat ≤ 57) ∨ (97 ≤ c.toNat ∧ c.toNat ≤ 102)
 | 0, _, c, h => by cases h
 | k + 1, v, c, h => by
  rcases List.mem_append.1 h with h | h
  · exact hexN_mem k _ c h
  · simp only [List.mem_singleton] at h
    subst h
    exact hexD_ne _ (by omega)
theorem hexL_mem (l : List UInt8) : ∀ c ∈ hexL l, (48 ≤ c.toNat ∧ c.toNat ≤ 57) ∨ (97 ≤ c.toNat ∧ c.toNat ≤ 102) := by
 intro c hc
 obtain ⟨b, _, h⟩ := List.mem_flatMap.1 hc
 exact hexN_mem _ _ c h
def tNull : List UInt8 := [110, 117, 108, 108]
def tTrue : List UInt8 := [116, 114, 117, 101]
def tFalse : List UInt8 := [102, 97, 108, 115, 101]
def valW (v : V) : List UInt8 :=
 if v.k = 0 then tNull else if v.k = 1 then (if v.n = 1 then tTrue else tFalse) else if v.k = 2 then Lib.itoa v.n
 else if v.k = 3 then 114 :: hexN 16 v.r.toNat else if v.k = 4 then 120 :: hexL v.t.data.toList else 115 :: hexL v.t.data.toList
def valT (v : V) : List UInt8 := if mayB v then valW v else []
def realR (w : List UInt8) : Option Int := if w.length = 16 then match unxA 0 w with
 | some u => if canonZ u = u then some (u : Int) else none
 | none => none
 else none
def readV0 (w : List UInt8) : Option V :=
 if w = tNull then some ⟨0, 0, 0, bsO []⟩ else if w = tTrue then some ⟨1, 1, 0, bsO []⟩ else if w = tFalse then some ⟨1, 0, 0, bsO []⟩
 else match w with
  | [] => none
  | c :: r => if c = 114 then (realR r).map fun x => ⟨3, 0, x, bsO []⟩ else if c = 120 then (unhexL r).map fun t => ⟨4, 0, 0, bsO t⟩ else if c = 115 then (unhexL r).map fun t => ⟨5, 0, 0, bsO t⟩
   else (longZ w).map fun n => ⟨2, n, 0, bsO []⟩
def readV (w : List UInt8) : Option V := (readV0 w).filter mayB
theorem mayA_kind {v : V} (_hw : v.wf) (h : mayB v = true) : v.k = 0 ∨ v.k = 1 ∨ v.k = 2 ∨ v.k = 3 ∨ v.k = 4 ∨ v.k = 5 := by
 unfold mayB at h
 repeat' split at h
 all_goals first | omega | simp at h
theorem mk_t {t : ByteArray} (h : t.size = 0) : t = bsO [] := empty_of_size h
theorem readV_of {v : V} (hw : v.wf) (h : mayB v = true) : readV (valW v) = some v := by
 have hf : readV0 (valW v) = some v → readV (valW v) = some v := fun e => by unfold readV; rw [e]; simp [h]
 apply hf
 obtain ⟨w0, w1, w2, w3, w4, w5, w6⟩ := hw
 obtain ⟨k, n, r, t⟩ := v
 simp only at w0 w1 w2 w3 w4 w5 w6
 have hk := mayA_kind (v := ⟨k, n, r, t⟩) ⟨w0, w1, w2, w3, w4, w5, w6⟩ h
 simp only at hk
 rcases hk with rfl | rfl | rfl | rfl | rfl | rfl
 · simp [mayB] at h
   obtain ⟨⟨rfl, rfl⟩, ht⟩ := h
   obtain rfl : t = bsO [] := ht
   simp [valW, readV0]
 · simp [mayB] at h
   obtain ⟨⟨hn, rfl⟩, ht⟩ := h
   obtain rfl : t = bsO [] := ht
   rcases hn with rfl | rfl
   · simp [valW, readV0, tNull, tTrue, tFalse]
   · simp [valW, readV0, tNull, tTrue]
 · simp [mayB] at h
   obtain ⟨rfl, ht⟩ := h
   obtain rfl : t = bsO [] := ht
   simp only [valW]
   have h1 : Lib.itoa n ≠ [] := itoa_ne n
   have h2 := itoa_mem n
   have h3 := longZ_itoa ⟨w2, w3⟩
   cases e : Lib.itoa n with
   | nil => exact absurd e h1
   | cons c l =>
    have hc := h2 c (by rw [e]; simp)
    have k1 : c ≠ 110 := by rintro rfl; revert hc; decide
    have k2 : c ≠ 116 := by rintro rfl; revert hc; decide
    have k3 : c ≠ 102 := by rintro rfl; revert hc; decide
    have k4 : c ≠ 114 := by rintro rfl; revert hc; decide
    have k5 : c ≠ 120 := by rintro rfl; revert hc; decide
    have k6 : c ≠ 115 := by rintro rfl; revert hc; decide
    rw [e] at h3
    simp [readV0, tNull, tTrue, tFalse, k1, k2, k3, k4, k5, k6, h3]
 · simp [mayB] at h
   obtain ⟨⟨rfl, hr⟩, ht⟩ := h
   obtain rfl : t = bsO [] := ht
   have hu := unxA_hexN 16 r.toNat (by omega)
   have hr' : canonZ (r.toNat : Int) = (r.toNat : Int) := by rw [show (r.toNat : Int) = r by omega]; exact hr.symm
   have : realR (hexN 16 r.toNat) = some r := by
    unfold realR
    rw [hexN_length, if_pos rfl, hu]
    simp only [hr', if_true]
    congr 1
    omega
   simp [valW, readV0, tNull, tTrue, tFalse, this]
 · simp [mayB] at h
   obtain ⟨⟨rfl, rfl⟩, ht⟩ := h
   simp [valW, readV0, tNull, tTrue, tFalse, unhex_hex, bsO_of]
 · simp [mayB] at h
   obtain ⟨hv, ⟨rfl, rfl⟩, ht⟩ := h
   simp [valW, readV0, tNull, tTrue, tFalse, unhex_hex, bsO_of]
theorem readV_may {w : List UInt8} {v : V} (h : readV w = some v) : mayB v = true := by
 unfold readV at h
 exact (Option.filter_eq_some_iff.1 h).2
theorem readV0_wf {w : List UInt8} {v : V} (hw : w.length ≤ 140737488355328) (h : readV0 w = some v) : v.wf ∧ valW v = w := by
 have hz : (bsO []).size = 0 := rfl
 unfold readV0 at h
 repeat' split at h
 · next e => injection h with h; subst h; exact ⟨by simp [V.wf, hz], by simp [valW, e]⟩
 · next e => injection h with h; subst h; exact ⟨by simp [V.wf, hz], by simp [valW, e]⟩
 · next e => injection h with h; subst h; exact ⟨by simp [V.wf, hz], by simp [valW, e]⟩
 · cases h
 · next c l _ _ _ e =>
   obtain ⟨x, hx, rfl⟩ := Option.map_eq_some_iff.1 h
   unfold realR at hx
   split at hx
   · next hl =>
     split at hx
     · next u hu =>
       split at hx
       · next hc =>
         injection hx with hx
         subst hx
         obtain ⟨h1, h2⟩ := unxA_inv _ _ _ hu
         rw [hl] at h1 h2
         have hlt : u < 16 ^ 16 := by
          rcases Nat.lt_or_ge u (16 ^ 16) with h | h
          · exact h
          · have := Nat.div_le_div_right (c := 16 ^ 16) h
            rw [h1] at this
            simp at this
         refine ⟨by simp [V.wf, hz]; omega, ?_⟩
         simp [valW, h2, e]
       · cases hx
     · cases hx
   · cases hx
 · next c l _ _ _ _ e =>
   obtain ⟨x, hx, rfl⟩ := Option.map_eq_some_iff.1 h
   have hl := unhexL_some.1 hx
   have : 2 * x.length = l.length := by rw [← hl, hexL_length]
   refine ⟨by simp [V.wf, bsO_size]; simp at hw; omega, ?_⟩
   simp [valW, bsO_data, hl, e]
 · next c l _ _ _ _ _ e =>
   obtain ⟨x, hx, rfl⟩ := Option.map_eq_some_iff.1 h
   have hl := unhexL_some.1 hx
   have : 2 * x.length = l.length := by rw [← hl, hexL_length]
   refine ⟨by simp [V.wf, bsO_size]; simp at hw; omega, ?_⟩
   simp [valW, bsO_data, hl, e]
 · next c l _ _ _ _ _ _ =>
   obtain ⟨x, hx, rfl⟩ := Option.map_eq_some_iff.1 h
   obtain ⟨h1, h2⟩ := longZ_some.1 hx
   exact ⟨by simp [V.wf, hz]; omega, by simp [valW, h2]⟩
theorem readV_some {w : List UInt8} (hw : w.length ≤ 140737488355328) {v : V} : readV w = some v ↔ (v.wf ∧ mayB v = true ∧ valW v = w) := by
 constructor
 · intro h
   have h0 := readV_may h
   unfold readV at h
   have h1 := (Option.filter_eq_some_iff.1 h).1
   obtain ⟨h2, h3⟩ := readV0_wf hw h1
   exact ⟨h2, h0, h3⟩
 · rintro ⟨h1, h2, rfl⟩
   exact readV_of h1 h2
end Go.Proofs.YtfekohonidggjaaGreatDoor
