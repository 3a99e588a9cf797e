/- Texts joined by a tool: contracts and walks of this claim. -/
import Derived.Test.YtfekohonidggjaaGreatDoorB4
import Derived.Laws.Cover4
import Derived.Maps.OwnOps
import Derived.Maps.Views
namespace Go.Proofs.YtfekohonidggjaaGreatDoor
open Go.RowKit
theorem fits2 (v : Int) (h0 : 0 ≤ v) (h1 : v < 256) (w : World) :
 Calls Tryz.prog 142 #[.int .u64 v, .int .i64 2, .int .i64 4] w fun r w' => r = .returned (.bool true) ∧ w' = w := by
 have e : (v / 256 == 0) = true := by rw [show v / 256 = 0 by omega]; rfl
 go_enter Tryz.func142, Tryz.ntmps142
 go_wp2_with fail
 go_ret
 exact ⟨rfl, rfl⟩
theorem fits16 (v : Int) (w : World) :
 Calls Tryz.prog 142 #[.int .u64 v, .int .i64 16, .int .i64 4] w fun r w' => r = .returned (.bool true) ∧ w' = w := by
 go_enter Tryz.func142, Tryz.ntmps142
 go_wp2_with fail
 go_ret
 exact ⟨rfl, rfl⟩
theorem room2 (v : Int) (h1 : v < 256) (w : World) :
 Calls Tryz.prog 143 #[.int .u64 v, .int .i64 2, .int .u64 4] w fun r w' => r = .returned (.bool true) ∧ w' = w := by
 go_enter Tryz.func143, Tryz.ntmps143
 go_wp2_with fail
 go_ret
 exact ⟨rfl, rfl⟩
theorem room16 (v : Int) (w : World) :
 Calls Tryz.prog 143 #[.int .u64 v, .int .i64 16, .int .u64 4] w fun r w' => r = .returned (.bool true) ∧ w' = w := by
 go_enter Tryz.func143, Tryz.ntmps143
 go_wp2_with fail
 go_ret
 exact ⟨rfl, rfl⟩
def runeC (c : UInt8) : Value := .int .i32 c.toNat
theorem info_i32 : (Tryz.prog.info? 21).map (fun i => (i.zero, i.size, i.bytes)) = some (some (.int .i32 0), 1, 4) := by kernel_rfl
theorem and15 (x : Int) (h0 : 0 ≤ x) (h1 : x ≤ 18446744073709551615) : bits .and .u64 x 15 = x % 16 := by
 rw [u64_and x 15 h0 (by omega) (by decide) (by decide)]
 have : x.toNat &&& (15 : Int).toNat = x.toNat % 16 := Nat.and_two_pow_sub_one_eq_mod x.toNat 4
 rw [this]
 omega
theorem nib_eq (v : Int) (h0 : 0 ≤ v) (m : Nat) : v / 2 ^ (4 * m) = ((v.toNat / 16 ^ m : Nat) : Int) := by
 obtain ⟨u, rfl⟩ := Int.eq_ofNat_of_zero_le h0
 have e : (2 : Nat) ^ (4 * m) = 16 ^ m := Nat.pow_mul 2 4 m
 have e2 : (2 : Int) ^ (4 * m) = ((2 ^ (4 * m) : Nat) : Int) := by push_cast; rfl
 rw [Int.toNat_natCast, e2, e]
 rfl
theorem utf8_ascii (c : UInt8) (h : c.toNat < 128) : Utf8.encode (c.toNat : Int) = ⟨#[c]⟩ := by
 have hv : Utf8.valid (c.toNat : Int) = true := by
  unfold Utf8.valid
  simp
  omega
 unfold Utf8.encode
 simp [hv, h]
theorem runes_bytes : ∀ (l : List UInt8) (a : ByteArray), (∀ c ∈ l, c.toNat < 128) → (l.map fun c => (c.toNat : Int)).foldl (fun r n => r ++ Utf8.encode n) a = a ++ bsO l
 | [], a, _ => by
  show a = a ++ ByteArray.empty
  rw [ByteArray.append_empty]
 | c :: l, a, h => by
  rw [List.map_cons, List.foldl_cons, runes_bytes l _ (fun x hx => h x (by simp [hx])), utf8_ascii c (h c (by simp)), ByteArray.append_assoc]
  rfl
set_option maxRecDepth 100000 in
/-- 'string(r)' of a row of runes of the call's own, each of one byte. -/
theorem conv_runes {w : World} {base n : Nat} {v : Value} (l : List UInt8) (hl : ∀ c ∈ l, c.toNat < 128) (h : w.ownsRow base 21 1 v n (l.map runeC)) :
 (convert 200 9 v).run Tryz.prog w = .ok (.string (bsO l)) w := by
 have hlen : n = l.length := by have := h.1; simpa using this.symm
 rcases h.2 with ⟨rfl, h0⟩ | ⟨g, cap, cur, rfl, _⟩
 · have : l = [] := List.eq_nil_of_length_eq_zero (by omega)
   subst this
   exact run_convert_runes_nil w 200 9 21 0 0 Tryz.underlying200 Tryz.underlying21 Tryz.underlying9
 · have hc := h.cells (g := g) rfl
   have e := run_convert_runes (P := Tryz.prog) w 200 9 21 ⟨g, 0, none⟩ n cap (l.map fun c => (c.toNat : Int)) (by simp [hlen]) Tryz.underlying200 Tryz.underlying21 Tryz.underlying9 (fun j hj => by
    rw [List.length_map] at hj
    refine hc j _ ?_
    rw [List.getElem?_map, List.getElem?_eq_getElem hj, List.getD_eq_getElem?_getD, List.getElem?_map, List.getElem?_eq_getElem hj]
    rfl)
   rw [e, List.take_of_length_le (by simp [hlen])]
   unfold runesBytes
   rw [runes_bytes l _ hl]
   rw [ByteArray.empty_append]
theorem hexN_step {n j V : Nat} (hj : j < n) : hexN (j + 1) (V / 16 ^ (n - (j + 1))) = hexN j (V / 16 ^ (n - j)) ++ [hexD (V / 16 ^ (n - 1 - j) % 16)] := by
 have e1 : n - (j + 1) = n - 1 - j := by omega
 have e2 : n - j = (n - 1 - j) + 1 := by omega
 rw [hexN, e1, e2, Nat.pow_succ, ← Nat.div_div_eq_div_mul]
theorem runeC_hexD {x : Nat} (h : x < 16) : runeC (hexD x) = .int .i32 (if x ≤ 9 then 48 + (x : Int) else 87 + x) := by
 unfold runeC
 rw [hexD_toNat h]
 split <;> simp
theorem hexN_ascii (k v : Nat) : ∀ c ∈ hexN k v, c.toNat < 128 := fun c h => by have := hexN_mem k v c h; omega
set_option maxRecDepth 100000 in
set_option maxHeartbeats 800000 in
theorem hex_gen (n : Nat) (hn : 1 ≤ n) (hn16 : n ≤ 16) (v : Int) (h0 : 0 ≤ v) (h1 : v ≤ 18446744073709551615) (hfit : ∀ W, Calls Tryz.prog 142 #[.int .u64 v, .int .i64 n, .int .i64 4] W fun r w' => r = .returned (.bool true) ∧ w' = W) (w0 : World) :
 Calls Tryz.prog 104 #[.int .u64 v, .int .i64 n] w0 fun r w' => r = .returned (.tuple #[.string (bsO (hexN n v.toNat)), .int .i64 0]) ∧ Below w0.heap.size w0 w' := by
 obtain ⟨i0, hi0, hz0, hz1, hz2⟩ := info_parts info_i32
 have HF := hd_ hfit
 clear hfit
 go_enter Tryz.func104, Tryz.ntmps104
 go_wp2_with fail
 refine (HF.out w0).mono ?_
 rintro r w ⟨rfl, rfl⟩
 go_wp2_with fail
 go_loopw [6, 7] (fun b k wr => ∃ (j : Nat), j ≤ n ∧ k = .int .i64 ((n : Int) - 1 - j) ∧ wr.ownsRow w.heap.size 21 1 b j ((hexN j (v.toNat / 16 ^ (n - j))).map runeC) ∧ Below w.heap.size w wr) (fun _ k _ => (intOf k + 1).toNat)
 case atStart => exact ⟨0, by omega, by go_num, ⟨by simp [hexN], .inl ⟨rfl, rfl⟩⟩, Below.refl _ _⟩
 case round =>
  obtain ⟨j, hj, rfl, hown, hbw⟩ := hrel
  by_cases hlt : j < n
  · have hk : (0 : Int) ≤ (n : Int) - 1 - j := by omega
    have hstep := hexN_step (V := v.toNat) hlt
    obtain ⟨x, hx⟩ : ∃ x, x = v.toNat / 16 ^ (n - 1 - j) % 16 := ⟨_, rfl⟩
    have hx16 : x < 16 := by omega
    rw [← hx] at hstep
    have hb : wrap32 (bits BinOp.and IntKind.u64 (v / 2 ^ (4 * (n - 1 - j))) 15) = x := by
     have hq : v.toNat / 16 ^ (n - 1 - j) ≤ v.toNat := Nat.div_le_self _ _
     rw [nib_eq v h0]
     generalize v.toNat / 16 ^ (n - 1 - j) = q at hq hx
     rw [and15 _ (by omega) (by omega)]
     have : (q : Int) % 16 = (x : Int) := by omega
     rw [this]
     exact IntWalk.wrap32_in _ (by omega)
    have HST := hd_ hstep
    clear hstep hx
    go_upto_region 10 with fail
    rw [hb]
    clear hb
    have hr := runeC_hexD hx16
    by_cases h9 : x ≤ 9
    · rw [if_pos h9] at hr
      have h9' : (x : Int) ≤ 9 := by omega
      have HRC := hd_ hr
      clear hr
      go_wp2_with (at_builtin; refine wpList_append_own _ rfl _ _ 200 rfl w.heap.size 21 i0 (.int .i32 0) 1 4 Tryz.underlying200 hi0 hz0 hz1 hz2 rfl (by decide) _ j ((hexN j (v.toNat / 16 ^ (n - j))).map runeC) rfl (hown.alloc _) ⟨wr.heap.size, 0, none⟩ 1 1 [.int .i32 (48 + (x : Int))] rfl rfl ?c1 ?c2 ?c3 ?c4 ?c5 ?_)
      case c1 => exact cell_one_new _ _ _
      case c2 => simp [Value.oneCell']
      case c3 => simp only [maxLen]; omega
      case c4 => omega
      case c5 => have := hbw.size; simp; omega
      intro v' w1 hown1 hg1 _
      have hown2 : w1.ownsRow w.heap.size 21 1 v' (j + 1) ((hexN (j + 1) (v.toNat / 16 ^ (n - (j + 1)))).map runeC) := by
       rw [HST.out, List.map_append, List.map_singleton, HRC.out]; exact hown1
      have hbw1 : Below w.heap.size w w1 := (hbw.alloc hbw.size _).grown hg1 (by have := hbw.size; simp; omega) (own_ge hown)
      clear hown1 hg1 hbw hown
      go_wp2_with fail
      go_roundw
      case rel => exact ⟨j + 1, by omega, by go_num, hown2, hbw1⟩
      case measure => simp [intOf]; omega
    · rw [if_neg h9] at hr
      have h9' : ¬ (x : Int) ≤ 9 := by omega
      have HRC := hd_ hr
      clear hr
      have e1 : (48 : Int) + (x + 39) = 87 + x := by omega
      have HE1 := hd_ e1
      clear e1
      go_wp2_with (at_builtin; refine wpList_append_own _ rfl _ _ 200 rfl w.heap.size 21 i0 (.int .i32 0) 1 4 Tryz.underlying200 hi0 hz0 hz1 hz2 rfl (by decide) _ j ((hexN j (v.toNat / 16 ^ (n - j))).map runeC) rfl (hown.alloc _) ⟨wr.heap.size, 0, none⟩ 1 1 [.int .i32 (48 + ((x : Int) + 39))] rfl rfl ?d1 ?d2 ?d3 ?d4 ?d5 ?_)
      case d2 => simp [Value.oneCell']
      case d3 => simp only [maxLen]; omega
      case d4 => omega
      case d5 => have := hbw.size; simp; omega
      intro v' w1 hown1 hg1 _
      have hown2 : w1.ownsRow w.heap.size 21 1 v' (j + 1) ((hexN (j + 1) (v.toNat / 16 ^ (n - (j + 1)))).map runeC) := by
       rw [HST.out, List.map_append, List.map_singleton, HRC.out, ← HE1.out]; exact hown1
      have hbw1 : Below w.heap.size w w1 := (hbw.alloc hbw.size _).grown hg1 (by have := hbw.size; simp; omega) (own_ge hown)
      clear hown1 hg1 hbw hown
      go_wp2_with fail
      go_roundw
      case rel => exact ⟨j + 1, by omega, by go_num, hown2, hbw1⟩
      case measure => simp [intOf]; omega
  · have hjn : j = n := by omega
    subst hjn
    have hcv := conv_runes _ (hexN_ascii _ _) hown
    rw [Nat.sub_self, Nat.pow_zero, Nat.div_one] at hcv
    clear hown
    go_wp2_with fail
    go_ret2
    exact ⟨rfl, hbw⟩
theorem hex2 (c : UInt8) (w : World) : Calls Tryz.prog 104 #[.int .u64 c.toNat, .int .i64 2] w fun r w' => r = .returned (.tuple #[.string (bsO (hexN 2 c.toNat)), .int .i64 0]) ∧ Below w.heap.size w w' := by
 have hc := c.toNat_lt
 exact hex_gen 2 (by omega) (by omega) c.toNat (by omega) (by omega) (fun W => fits2 _ (by omega) (by omega) W) w
theorem hex16 (v : Int) (h0 : 0 ≤ v) (h1 : v ≤ 18446744073709551615) (w : World) : Calls Tryz.prog 104 #[.int .u64 v, .int .i64 16] w fun r w' => r = .returned (.tuple #[.string (bsO (hexN 16 v.toNat)), .int .i64 0]) ∧ Below w.heap.size w w' :=
 hex_gen 16 (by omega) (by omega) v h0 h1 (fun W => fits16 _ W) w
def digs : ByteArray := ⟨#[48, 49, 50, 51, 52, 53, 54, 55, 56, 57, 97, 98, 99, 100, 101, 102]⟩
theorem digs_at : ∀ x : Fin 16, digs.extract x (x + 1) = bsO [hexD x] := by decide
theorem bsO_app (a b : List UInt8) : bsO a ++ bsO b = bsO (a ++ b) := by
 rw [← bsO_of (bsO a ++ bsO b)]
 simp [bsO]
set_option maxRecDepth 100000 in
set_option maxHeartbeats 800000 in
theorem refhex_gen (n : Nat) (hn : 1 ≤ n) (hn16 : n ≤ 16) (v : Int) (h0 : 0 ≤ v) (h1 : v ≤ 18446744073709551615) (hfit : ∀ W, Calls Tryz.prog 143 #[.int .u64 v, .int .i64 n, .int .u64 4] W fun r w' => r = .returned (.bool true) ∧ w' = W) (w0 : World) :
 Calls Tryz.prog 105 #[.int .u64 v, .int .i64 n] w0 fun r w' => r = .returned (.tuple #[.string (bsO (hexN n v.toNat)), .int .i64 0]) ∧ Below w0.heap.size w0 w' := by
 have HF := hd_ hfit
 clear hfit
 go_enter Tryz.func105, Tryz.ntmps105
 go_wp2_with fail
 refine (HF.out w0).mono ?_
 rintro r w ⟨rfl, rfl⟩
 go_wp2_with fail
 go_loopw [0, 6, 7] (fun u s k wr => ∃ (j : Nat) (q : Int), j ≤ n ∧ k = .int .i64 j ∧ u = .int .u64 q ∧ 0 ≤ q ∧ q ≤ 18446744073709551615 ∧ Hid (q.toNat = v.toNat / 16 ^ j) ∧ s = .string (bsO (hexN j v.toNat)) ∧ Below w.heap.size w wr) (fun _ _ k _ => n - (intOf k).toNat)
 case atStart => exact ⟨0, v, by omega, rfl, rfl, h0, h1, (by rw [Nat.pow_zero, Nat.div_one] : _ = _), rfl, Below.refl _ _⟩
 case round =>
  obtain ⟨j, q, hj, rfl, rfl, hq0, hq1, HQ, rfl, hbw⟩ := hrel
  by_cases hlt : j < n
  · obtain ⟨x, hx⟩ : ∃ x, x = q.toNat % 16 := ⟨_, rfl⟩
    have hx16 : x < 16 := by omega
    have hxq : q % 16 = (x : Int) := by omega
    have hd : digs.extract x (x + 1) = bsO [hexD x] := digs_at ⟨x, hx16⟩
    have hstep : hexN (j + 1) v.toNat = hexD x :: hexN j v.toNat := by rw [hexN_cons, ← HQ.out, ← hx]
    have hq' : (q / 16).toNat = v.toNat / 16 ^ (j + 1) := by rw [Nat.pow_succ, ← Nat.div_div_eq_div_mul, ← HQ.out]; omega
    have HST := hd_ hstep
    have HQ' := hd_ hq'
    have HD := hd_ hd
    clear hstep hq' hd hx
    have hw : IntKind.u64.wrap ((x : Int) + 1) = (x : Int) + 1 := IntWalk.u64_in _ (by omega)
    have hcat : ((⟨#[48, 49, 50, 51, 52, 53, 54, 55, 56, 57, 97, 98, 99, 100, 101, 102]⟩ : ByteArray).extract x (x + 1)).size + (bsO (hexN j v.toNat)).size ≤ 9223372036854775807 := by
     show (digs.extract x (x + 1)).size + _ ≤ _
     rw [HD.out, bsO_size, bsO_size, hexN_length]
     simp only [List.length_singleton]
     omega
    go_upto_region 11 with fail
    rw [hxq]
    go_wp2_with fail
    go_roundw
    case rel => exact ⟨j + 1, q / 16, by omega, by go_num, rfl, by omega, by omega, HQ', by
     show Value.string (digs.extract x (x + 1) ++ bsO (hexN j v.toNat)) = _
     rw [HD.out, bsO_app, HST.out]; rfl, hbw⟩
    case measure => simp [intOf]; omega
  · have hjn : j = n := by omega
    subst hjn
    go_wp2_with fail
    go_ret2
    exact ⟨rfl, hbw⟩
theorem refhex2 (c : UInt8) (w : World) : Calls Tryz.prog 105 #[.int .u64 c.toNat, .int .i64 2] w fun r w' => r = .returned (.tuple #[.string (bsO (hexN 2 c.toNat)), .int .i64 0]) ∧ Below w.heap.size w w' := by
 have hc := c.toNat_lt
 exact refhex_gen 2 (by omega) (by omega) c.toNat (by omega) (by omega) (fun W => room2 _ (by omega) W) w
theorem refhex16 (v : Int) (h0 : 0 ≤ v) (h1 : v ≤ 18446744073709551615) (w : World) : Calls Tryz.prog 105 #[.int .u64 v, .int .i64 16] w fun r w' => r = .returned (.tuple #[.string (bsO (hexN 16 v.toNat)), .int .i64 0]) ∧ Below w.heap.size w w' :=
 refhex_gen 16 (by omega) (by omega) v h0 h1 (fun W => room16 _ W) w
def unxR (l : List UInt8) : Option Nat := if 1 ≤ l.length ∧ l.length ≤ 16 then unxA 0 l else none
def unxV (l : List UInt8) : Value := match unxR l with
 | some u => .tuple #[.int .u64 u, .int .i64 0]
 | none => .tuple #[.int .u64 0, .int .i64 2]
theorem unxA_lt : ∀ (l : List UInt8) (a v : Nat), unxA a l = some v → v < (a + 1) * 16 ^ l.length
 | [], a, v, h => by simp only [unxA, Option.some.injEq] at h; subst h; simp
 | c :: r, a, v, h => by
  simp only [unxA] at h
  split at h
  · next d hd =>
    have h1 := unxA_lt r _ v h
    have h2 := (unD_some hd).1
    rw [List.length_cons, Nat.pow_succ, Nat.mul_comm (16 ^ r.length), ← Nat.mul_assoc]
    exact Nat.lt_of_lt_of_le h1 (Nat.mul_le_mul_right _ (by omega))
  · cases h
theorem unxA_take_lt {l : List UInt8} {k a : Nat} (h : unxA 0 (l.take k) = some a) (hk : k ≤ 15) : a ≤ 1152921504606846975 := by
 have h1 := unxA_lt _ _ _ h
 have h2 : (l.take k).length ≤ 15 := by simp; omega
 have h3 : 16 ^ (l.take k).length ≤ 16 ^ 15 := Nat.pow_le_pow_right (by decide) h2
 have h4 : (16 : Nat) ^ 15 = 1152921504606846976 := by decide
 omega
theorem unxA_app : ∀ (l m : List UInt8) (a : Nat), unxA a (l ++ m) = (unxA a l).bind fun b => unxA b m
 | [], m, a => rfl
 | c :: l, m, a => by
  simp only [List.cons_append, unxA]
  split
  · exact unxA_app l m _
  · rfl
theorem shl4 (a : Nat) (ha : a ≤ 1152921504606846975) : IntKind.u64.wrap ((a : Int) * 16) = (a : Int) * 16 := IntWalk.u64_in _ (by omega)
theorem or4 (a d : Nat) (ha : a ≤ 1152921504606846975) (hd : d < 16) : bits .or .u64 ((a : Int) * 16) (d : Int) = ((a * 16 + d : Nat) : Int) := by
 rw [u64_or _ _ (by omega) (by omega) (by omega) (by omega)]
 have e1 : ((a : Int) * 16).toNat = a * 16 := by omega
 have e2 : ((d : Nat) : Int).toNat = d := by omega
 rw [e1, e2, nat_join 4 (a * 16) d (by omega) (by omega)]
set_option maxRecDepth 100000 in
set_option maxHeartbeats 1600000 in
theorem unhex_any (s : ByteArray) (w : World) :
 Calls Tryz.prog 134 #[.string s] w fun r w' => r = .returned (unxV s.data.toList) ∧ Below w.heap.size w w' := by
 have hlen : s.data.toList.length = s.size := by simp
 have HLEN := hd_ hlen
 clear hlen
 generalize hR : unxV s.data.toList = R
 have HR := hd_ hR
 clear hR
 by_cases h1 : s.size < 1
 · have h1' : (s.size : Int) < 1 := by omega
   go_enter Tryz.func134, Tryz.ntmps134
   go_wp2_with fail
   go_ret2
   exact ⟨by rw [← HR.out]; unfold unxV unxR; rw [HLEN.out, if_neg (by omega)]; rfl, Below.refl _ _⟩
 · by_cases h2 : 16 < s.size
   · have h1' : ¬ (s.size : Int) < 1 := by omega
     have h2' : (16 : Int) < s.size := by omega
     go_enter Tryz.func134, Tryz.ntmps134
     go_wp2_with fail
     go_ret2
     exact ⟨by rw [← HR.out]; unfold unxV unxR; rw [HLEN.out, if_neg (by omega)]; rfl, Below.refl _ _⟩
   · have h1' : ¬ (s.size : Int) < 1 := by omega
     have h2' : ¬ (16 : Int) < s.size := by omega
     have hcv := Lib.run_convert_string_bytes (P := Tryz.prog) w 9 114 5 s Tryz.underlying9 Tryz.underlying114 Tryz.underlying5
     have hcell := Lib.bytesWorld_cell w 5 s
     have hbl := below_bytes w 5 s
     have hsz := Lib.bytesWorld_size w 5 s
     generalize Lib.bytesWorld w 5 s = W at hcv hcell hbl hsz
     have HBL := hd_ hbl
     have HCELL := hd_ hcell
     have HSZ := hd_ hsz
     clear hcell hsz hbl
     go_enter Tryz.func134, Tryz.ntmps134
     go_wp2_with fail
     clear hcv
     go_loop [2, 17] (fun u k => ∃ (j a : Nat), j ≤ s.size ∧ k = .int .i64 j ∧ u = .int .u64 a ∧ Hid (unxA 0 (s.data.toList.take j) = some a)) (fun _ k => s.size - (intOf k).toNat)
     case atStart => exact ⟨0, 0, by omega, rfl, rfl, (rfl : _ = _)⟩
     case round =>
      obtain ⟨j, a, hj, rfl, rfl, HU⟩ := hrel
      by_cases hlt : j < s.size
      · obtain ⟨c, hc⟩ : ∃ c, c = s.data.toList[j]'(by rw [HLEN.out]; exact hlt) := ⟨_, rfl⟩
        have hsp : s.data.toList = s.data.toList.take j ++ c :: s.data.toList.drop (j + 1) := by
         rw [hc, List.getElem_cons_drop, List.take_append_drop]
        have htk : s.data.toList.take (j + 1) = s.data.toList.take j ++ [c] := by rw [List.take_succ_eq_append_getElem (by rw [HLEN.out]; exact hlt), ← hc]
        have c0 := HCELL.out j hlt
        have hgd : s.data.toList.getD j 0 = c := by rw [List.getD_eq_getElem?_getD, List.getElem?_eq_getElem (by rw [HLEN.out]; exact hlt), ← hc]; rfl
        rw [hgd] at c0
        have c1 : W.cell? ⟨w.heap.size, 0 + j, none⟩ = some (.int .u8 c.toNat) := by rw [Nat.zero_add]; exact c0
        have ha := unxA_take_lt HU.out (by omega)
        have HSP := hd_ hsp
        have HTK := hd_ htk
        have hltI : (j : Int) < s.size := by omega
        have hc8 := c.toNat_lt
        clear hsp htk hc hgd
        cases hu : unD c with
        | none =>
         have HM : Hid (unxA 0 s.data.toList = none) := by
          show _ = _
          rw [HSP.out, unxA_app, HU.out]
          simp [unxA, hu]
         unfold unD at hu
         split at hu
         · cases hu
         · next k1 =>
           split at hu
           · cases hu
           · next k2 =>
             clear hu
             generalize c.toNat = n at *
             by_cases a48 : (n : Int) < 48
             · have a97 : (n : Int) < 97 := by omega
               clear k1 k2
               go_wp2_with fail
               go_ret2
               exact ⟨by rw [← HR.out]; unfold unxV unxR; rw [HLEN.out, if_pos (by omega), HM.out]; rfl, HBL.out⟩
             · have a57 : (57 : Int) < n := by omega
               by_cases a97 : (n : Int) < 97
               · clear k1 k2
                 go_wp2_with fail
                 go_ret2
                 exact ⟨by rw [← HR.out]; unfold unxV unxR; rw [HLEN.out, if_pos (by omega), HM.out]; rfl, HBL.out⟩
               · have a102 : (102 : Int) < n := by omega
                 clear k1 k2
                 go_wp2_with fail
                 go_ret2
                 exact ⟨by rw [← HR.out]; unfold unxV unxR; rw [HLEN.out, if_pos (by omega), HM.out]; rfl, HBL.out⟩
        | some d =>
         have hd := (unD_some hu).1
         have HM : Hid (unxA 0 (s.data.toList.take (j + 1)) = some (a * 16 + d)) := by
          show _ = _
          rw [HTK.out, unxA_app, HU.out]
          simp [unxA, hu]
         have ho := or4 a d ha hd
         have hs4 := shl4 a ha
         unfold unD at hu
         split at hu
         · next k1 =>
           injection hu with hu
           have e : (c.toNat : Int) - 48 = d := by omega
           clear hu
           generalize c.toNat = n at *
           have a48 : (48 : Int) ≤ n := by omega
           have a57 : (n : Int) ≤ 57 := by omega
           clear k1
           go_wp2_with fail
           go_round
           case rel => exact ⟨j + 1, a * 16 + d, by omega, by go_num, by go_num, HM⟩
           case measure => simp [intOf]; omega
         · next k1 =>
           split at hu
           · next k2 =>
             injection hu with hu
             have e : (c.toNat : Int) - 97 + 10 = d := by omega
             clear hu
             generalize c.toNat = n at *
             have a57 : (57 : Int) < n := by omega
             have a97 : (97 : Int) ≤ n := by omega
             have a102 : (n : Int) ≤ 102 := by omega
             clear k1 k2
             go_wp2_with fail
             go_round
             case rel => exact ⟨j + 1, a * 16 + d, by omega, by go_num, by go_num, HM⟩
             case measure => simp [intOf]; omega
           · cases hu
      · have hjn : j = s.size := by omega
        subst hjn
        have hu := HU.out
        rw [List.take_of_length_le (by rw [HLEN.out]; exact Nat.le_refl _)] at hu
        have HU := hd_ hu
        clear hu
        go_wp2_with fail
        go_ret2
        exact ⟨by rw [← HR.out]; unfold unxV unxR; rw [HLEN.out, if_pos (by omega), HU.out]; rfl, HBL.out⟩
def SRow (w : World) (A : Option Addr) (l : List ByteArray) : Prop :=
 l.length ≤ 8796093022208 ∧ (l ≠ [] → ∃ b off, A = some ⟨b, off, none⟩ ∧ b < w.heap.size ∧ ∀ i v, l[i]? = some v → w.cell? ⟨b, off + i, none⟩ = some (.string v))
theorem SRow.ext {w w' : World} {A : Option Addr} {l : List ByteArray} (h : SRow w A l) (hb : Below w.heap.size w w') : SRow w' A l := by
 refine ⟨h.1, fun hl => ?_⟩
 obtain ⟨b, off, rfl, hlt, hc⟩ := h.2 hl
 exact ⟨b, off, rfl, Nat.lt_of_lt_of_le hlt hb.size, fun i v hi => (hb.cell (p := ⟨b, _, none⟩) hlt).trans (hc i v hi)⟩
theorem SRow.at_ {w : World} {A : Option Addr} {l : List ByteArray} (h : SRow w A l) {k : Nat} (hk : k < l.length) :
 ∃ (b off : Nat) (v : ByteArray), A = some ⟨b, off, none⟩ ∧ b < w.heap.size ∧ l[k]? = some v ∧ v ∈ l ∧ w.cell? ⟨b, off + k, none⟩ = some (.string v) := by
 obtain ⟨b, off, rfl, hlt, hc⟩ := h.2 (by intro e; simp [e] at hk)
 have hv := List.getElem?_eq_getElem hk
 exact ⟨b, off, l[k], rfl, hlt, hv, List.getElem_mem hk, hc k _ hv⟩
theorem SRow.of_own {w : World} {base n c : Nat} {e : TypeId} {A : Option Addr} {l : List ByteArray} (hlen : l.length ≤ 8796093022208)
 (h : w.ownsRow base e 1 (.slice A n c) n (l.map Value.string)) : SRow w A l ∧ n = l.length := by
 have hn : n = l.length := by have := h.1; simp at this; omega
 refine ⟨⟨hlen, fun hl => ?_⟩, hn⟩
 have hpos : 0 < n := by rw [hn]; exact List.length_pos_iff.2 hl
 obtain ⟨g, cap, hv, _, hlt⟩ := h.form hpos
 have hA : A = some ⟨g, 0, none⟩ := by injection hv
 subst hA
 refine ⟨g, 0, rfl, hlt, fun i v hi => ?_⟩
 have hc := h.cells (g := g) rfl i (.string v) (by rw [List.getElem?_map, hi]; rfl)
 have e : (⟨g, 0, none⟩ : Addr).add i = ⟨g, 0 + i, none⟩ := by
  unfold Addr.add; split
  · next h0 => subst h0; rfl
  · simp
 rwa [e] at hc
def namedB (l : List ByteArray) : Bool := l.all nameB && decide l.Nodup
def lks (D : DataW Unit) (l : List ByteArray) : Prop := Maps.IsMap D ∧ ∀ s : ByteArray, (s ∈ l → D.atKey (.string s.data.toList) (.lit (.int .i64 0)) = .lit (.int .i64 1)) ∧ (s ∉ l → D.atKey (.string s.data.toList) (.lit (.int .i64 0)) = .lit (.int .i64 0))
theorem str_inj {s t : ByteArray} (h : s.data.toList = t.data.toList) : s = t := by
 obtain ⟨⟨a⟩⟩ := s
 obtain ⟨⟨b⟩⟩ := t
 simp only at h
 rw [h]
theorem lks_nil : lks (.map []) [] := ⟨Maps.isMap_empty, fun s => ⟨(fun h => by cases h), fun _ => rfl⟩⟩
theorem lks_put {D : DataW Unit} {l : List ByteArray} (h : lks D l) (s : ByteArray) : lks (D.put (.string s.data.toList) (.lit (.int .i64 1))) (l ++ [s]) := by
 refine ⟨h.1.put _ _, fun t => ?_⟩
 by_cases hts : t = s
 · subst hts
   rw [Maps.atKey_put_same h.1 (show WideAt.IsKeyLit (.string t.data.toList) from trivial)]
   exact ⟨fun _ => rfl, fun hn => absurd (by simp) hn⟩
 · rw [Maps.atKey_put_other (fun e => hts (str_inj (by injection e)))]
   have : t ∈ l ++ [s] ↔ t ∈ l := by simp [hts]
   exact ⟨fun hm => (h.2 t).1 (this.1 hm), fun hm => (h.2 t).2 (fun x => hm (this.2 x))⟩
theorem named_step {l : List ByteArray} {k : Nat} {s : ByteArray} (hk : l[k]? = some s) (h : (l.take k).all nameB = true ∧ (l.take k).Nodup) (hn : nameB s = true) (hm : s ∉ l.take k) : Hid ((l.take (k + 1)).all nameB = true ∧ (l.take (k + 1)).Nodup) := by
 obtain ⟨hlt, e⟩ := List.getElem?_eq_some_iff.1 hk
 show _ ∧ _
 rw [List.take_succ_eq_append_getElem hlt, e]
 refine ⟨by rw [List.all_append, h.1]; simp [hn], ?_⟩
 rw [List.nodup_append]
 exact ⟨h.2, by simp, fun a ha b hb => by rintro rfl; simp at hb; subst hb; exact hm ha⟩
theorem take_snoc {α : Type} {l : List α} {k : Nat} {s : α} (hk : l[k]? = some s) : l.take (k + 1) = l.take k ++ [s] := by
 obtain ⟨hlt, e⟩ := List.getElem?_eq_some_iff.1 hk
 rw [List.take_succ_eq_append_getElem hlt, e]
theorem named_not1 {l : List ByteArray} {k : Nat} {s : ByteArray} (hk : l[k]? = some s) (hn : nameB s = false) : namedB l = false := by
 have : l.all nameB = false := by
  rw [List.all_eq_false]
  exact ⟨s, List.mem_of_getElem? hk, by simp [hn]⟩
 unfold namedB
 rw [this]
 rfl
theorem named_not2 {l : List ByteArray} {k : Nat} {s : ByteArray} (hk : l[k]? = some s) (hm : s ∈ l.take k) : namedB l = false := by
 unfold namedB
 rw [decide_eq_false, Bool.and_false]
 intro h
 have h2 : (l.take (k + 1)).Nodup := h.sublist (List.take_sublist _ _)
 rw [take_snoc hk, List.nodup_append] at h2
 exact h2.2.2 s hm s (by simp) rfl
theorem own_map_below {H : Type} {w w' : World} {P : Program} {k : TypeId} {R : Value → Option (DataW H × List MemPlace)} {b n : Nat} {D : DataW H} (h : w.ownsMap P k R b n D) (hb : Below w.heap.size w w') : w'.ownsMap P k R b n D := by
 have hlt := h.lt
 obtain ⟨es, clock, hh, F, hs, hD⟩ := h
 exact ⟨es, clock, (hb.block b hlt).trans hh, F, hs, hD⟩
set_option maxRecDepth 100000 in
set_option maxHeartbeats 400000 in
theorem named_any (l : List ByteArray) (A : Option Addr) (c : Nat) (w : World) (hl : SRow w A l) (hz : ∀ s ∈ l, s.size ≤ 140737488355328) :
 Calls Tryz.prog 147 #[.slice A l.length c] w fun r w' => r = .returned (.bool (namedB l)) ∧ Below w.heap.size w w' := by
 have law := Maps.string_keyed (P := Tryz.prog) Tryz.underlying9
 have hmm := @run_makeMap Tryz.prog
 have hz0 : ∀ W : World, (zeroValue 3).run Tryz.prog W = .ok (.int .i64 0) W := fun W => by kernel_rfl
 have Hz0 := hd_ hz0
 have HZ := hd_ hz
 have HN := hd_ (fun (s : ByteArray) (W : World) (h : s.size ≤ 140737488355328) => name_any s W h)
 have hlen := hl.1
 have HL := hd_ hl
 generalize hM : namedB l = M
 have HM := hd_ hM
 clear hM hl hz0 hz
 go_enter Tryz.func147, Tryz.ntmps147
 go_wp2
 clear hmm
 go_loopw [9] (fun i wr => ∃ (k : Nat) (D : DataW Unit), k ≤ l.length ∧ i = .int .i64 k ∧ Hid ((l.take k).all nameB = true ∧ (l.take k).Nodup) ∧ Hid (lks D (l.take k)) ∧ wr.ownsMap Tryz.prog 9 (plainElem Tryz.prog 3) w.heap.size k D ∧ Below w.heap.size w wr) (fun i _ => l.length - (intOf i).toNat)
 case atStart => exact ⟨0, .map [], by omega, rfl, ⟨by simp, by simp⟩, lks_nil, World.ownsMap_made _ _ _ _, (Below.refl _ _).alloc (Nat.le_refl _) _⟩
 case round =>
  obtain ⟨k, D, hk, rfl, HS, HD, hown, hbw⟩ := hrel
  by_cases hlt : k < l.length
  · obtain ⟨b, off, s, rfl, hb, hlk, hmem, c0⟩ := (HL.out.ext hbw).at_ hlt
    have hsz := HZ.out s hmem
    have HC := hd_ (HN.out s wr hsz)
    have HK := hd_ hlk
    have hkey : keyOf Tryz.prog 9 (.string s) = some (.string s.data.toList) := WideMaps.keyOf_string_mk Tryz.underlying9 (by unfold maxLen; omega)
    have HKEY := hd_ hkey
    clear hkey hmem hlk
    cases hn : nameB s
    · rw [hn] at HC
      have hMf : Hid (M = false) := by show _ = _; rw [← HM.out]; exact named_not1 HK.out hn
      clear hn
      go_wp2_with fail
      refine HC.out.mono ?_
      rintro r w1 ⟨rfl, hb1⟩
      have hbw1 := bt hbw hb1
      clear hb1
      go_wp2_with fail
      go_ret
      exact ⟨ret_bool hMf.out.symm, hbw1⟩
    · rw [hn] at HC
      have HNM := hd_ hn
      clear hn
      go_wp2_with fail
      refine HC.out.mono ?_
      rintro r w1 ⟨rfl, hb1⟩
      have hbw1 := bt hbw hb1
      have hown1 : w1.ownsMap Tryz.prog 9 (plainElem Tryz.prog 3) w.heap.size k D := own_map_below hown hb1
      clear hb1 hown hbw
      obtain ⟨c, hrun, hat, _⟩ := hown1.lookup_int law Tryz.underlying229 Tryz.underlying3 (Hz0.out _) HKEY.out
      by_cases hm : s ∈ l.take k
      · have hc1 := hat.symm.trans ((HD.out.2 s).1 hm)
        obtain rfl : c = 1 := by injection hc1 with e; injection e
        have hMf : Hid (M = false) := by show _ = _; rw [← HM.out]; exact named_not2 HK.out hm
        clear hat hm hc1
        go_wp2_with fail
        go_ret
        exact ⟨ret_bool hMf.out.symm, hbw1⟩
      · have hc1 := hat.symm.trans ((HD.out.2 s).2 hm)
        obtain rfl : c = 0 := by injection hc1 with e; injection e
        have HS' := named_step HK.out HS.out HNM.out hm
        have HTK := hd_ (take_snoc HK.out)
        clear hat hm hc1
        go_wp2_with (at_mapUpdate; refine wpList_mapUpdate_own _ rfl _ _ _ 229 rfl 9 3 law Tryz.underlying229 _ w.heap.size k _ rfl hown1 (by unfold maxLen; omega) _ _ _ rfl rfl HKEY.out _ [] (plainElem_int Tryz.underlying3 (by decide)) ?_)
        intro w2 hown2 hg2
        have hbw2 := hbw1.grown hg2 hbw1.size (fun j hj => by cases hj; exact Nat.le_refl _)
        clear hown1 hg2 hbw1 hrun
        go_wp2_with fail
        go_roundw
        case rel => exact ⟨k + 1, _, by omega, by go_num, HS', (by show lks _ _; rw [HTK.out]; exact lks_put HD.out s), hown2, hbw2⟩
        case measure => simp [intOf]; omega
  · obtain rfl : k = l.length := by omega
    have hs := HS.out
    rw [List.take_length] at hs
    have hMt : Hid (M = true) := by show _ = _; rw [← HM.out]; unfold namedB; rw [hs.1, decide_eq_true hs.2]; rfl
    clear hs hown
    go_wp2_with fail
    go_ret
    exact ⟨ret_bool hMt.out.symm, hbw⟩
end Go.Proofs.YtfekohonidggjaaGreatDoor
