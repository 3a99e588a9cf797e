/- Texts joined by a tool: contracts and walks of this claim. -/
import Derived.Test.YtfekohonidggjaaGreatDoorB7
namespace Go.Proofs.YtfekohonidggjaaGreatDoor
open Go.RowKit
def gaveW : Ending := .panicked [{ v := .iface 126 (.agg #[]), recovered := false }]
theorem need_yes (w : World) : Calls Tryz.prog 78 #[.bool true] w fun r w' => r = .returned (.tuple #[]) ∧ w' = w := by
 go_enter Tryz.func78, Tryz.ntmps78
 go_wp2_with fail
 go_end0
 exact ⟨rfl, rfl⟩
set_option maxRecDepth 100000 in
theorem need_no (w : World) : Calls Tryz.prog 78 #[.bool false] w fun r w' => r = gaveW ∧ w' = w := by
 go_enter Tryz.func78, Tryz.ntmps78
 go_wp2_with fail
 exact ⟨rfl, rfl, rfl⟩
theorem canonZ_range (b : Int) (h0 : 0 ≤ b) (h1 : b ≤ 18446744073709551615) : 0 ≤ canonZ b ∧ canonZ b ≤ 18446744073709551615 := by
 unfold canonZ
 split <;> omega
theorem realtext_any (b : Int) (h0 : 0 ≤ b) (h1 : b ≤ 18446744073709551615) (w : World) :
 Calls Tryz.prog 64 #[.int .u64 b] w fun r w' => r = .returned (.string (bsO (hexN 16 (canonZ b).toNat))) ∧ Below w.heap.size w w' := by
 obtain ⟨c0, c1⟩ := canonZ_range b h0 h1
 have HC := hd_ (canon_any b h0 h1)
 have HX := hd_ (hex16 (canonZ b) c0 c1)
 generalize canonZ b = c at *
 go_enter Tryz.func64, Tryz.ntmps64
 go_wp2_with fail
 refine (HC.out w).mono ?_
 rintro r w1 ⟨rfl, rfl⟩
 go_wp2_with fail
 refine (HX.out w).mono ?_
 rintro r w1 ⟨rfl, hb⟩
 go_wp2_with fail
 go_ret
 exact ⟨rfl, hb⟩
theorem reftext_any (b : Int) (h0 : 0 ≤ b) (h1 : b ≤ 18446744073709551615) (w : World) :
 Calls Tryz.prog 66 #[.int .u64 b] w fun r w' => r = .returned (.string (bsO (hexN 16 (canonZ b).toNat))) ∧ Below w.heap.size w w' := by
 obtain ⟨c0, c1⟩ := canonZ_range b h0 h1
 have HC := hd_ (canonR_any b h0 h1)
 have HX := hd_ (refhex16 (canonZ b) c0 c1)
 generalize canonZ b = c at *
 go_enter Tryz.func66, Tryz.ntmps66
 go_wp2_with fail
 refine (HC.out w).mono ?_
 rintro r w1 ⟨rfl, rfl⟩
 go_wp2_with fail
 refine (HX.out w).mono ?_
 rintro r w1 ⟨rfl, hb⟩
 go_wp2_with fail
 go_ret
 exact ⟨rfl, hb⟩
def realV (l : List UInt8) : Value := match realR l with
 | some x => .tuple #[.int .u64 x, .int .i64 0]
 | none => .tuple #[.int .u64 0, .int .i64 2]
theorem unxR_lt {l : List UInt8} {u : Nat} (h : unxR l = some u) : u < 18446744073709551616 := by
 unfold unxR at h
 split at h
 · next hl =>
   have h1 := unxA_lt _ _ _ h
   have h3 : 16 ^ l.length ≤ 16 ^ 16 := Nat.pow_le_pow_right (by decide) hl.2
   have h4 : (16 : Nat) ^ 16 = 18446744073709551616 := by decide
   omega
 · cases h
set_option maxRecDepth 100000 in
set_option maxHeartbeats 800000 in
theorem realread_any (s : ByteArray) (w : World) :
 Calls Tryz.prog 96 #[.string s] w fun r w' => r = .returned (realV s.data.toList) ∧ Below w.heap.size w w' := by
 have hlen : s.data.toList.length = s.size := by simp
 have HLEN := hd_ hlen
 clear hlen
 generalize hR : realV s.data.toList = R
 have HR := hd_ hR
 clear hR
 have HU := hd_ (unhex_any s)
 cases hu : unxR s.data.toList with
 | none =>
  have hn : realR s.data.toList = none := by
   unfold realR
   split
   · next h16 =>
     have : unxA 0 s.data.toList = none := by
      unfold unxR at hu
      rw [if_pos (by omega)] at hu
      exact hu
     rw [this]
   · rfl
  have HN := hd_ hn
  have e : unxV s.data.toList = .tuple #[.int .u64 0, .int .i64 2] := by unfold unxV; rw [hu]
  rw [e] at HU
  clear hu hn e
  go_enter Tryz.func96, Tryz.ntmps96
  go_wp2_with fail
  refine (HU.out w).mono ?_
  rintro r w1 ⟨rfl, hb⟩
  go_wp2_with fail
  go_ret2
  exact ⟨by rw [← HR.out]; unfold realV; rw [HN.out]; rfl, hb⟩
 | some u =>
  have hlt := unxR_lt hu
  have e : unxV s.data.toList = .tuple #[.int .u64 u, .int .i64 0] := by unfold unxV; rw [hu]
  rw [e] at HU
  have hA : Hid (unxA 0 s.data.toList = some u) := by
   show _ = _
   unfold unxR at hu
   split at hu
   · exact hu
   · cases hu
  have HC := hd_ (canon_any u (by omega) (by omega))
  clear e hu
  by_cases h16 : s.size = 16
  · have h16' : (s.size : Int) = 16 := by omega
    by_cases hc : canonZ u = u
    · have HCC := hd_ hc
      rw [hc] at HC
      clear hc
      go_enter Tryz.func96, Tryz.ntmps96
      go_wp2_with fail
      refine (HU.out w).mono ?_
      rintro r w1 ⟨rfl, hb⟩
      go_wp2_with fail
      refine (HC.out w1).mono ?_
      rintro r w2 ⟨rfl, rfl⟩
      go_wp2_with fail
      go_ret2
      exact ⟨by rw [← HR.out]; unfold realV realR; rw [HLEN.out, if_pos h16, hA.out]; simp only [HCC.out, if_true]; rfl, hb⟩
    · have HCC := hd_ hc
      generalize hz : canonZ u = z at *
      have HZ := hd_ hz
      clear hz
      go_enter Tryz.func96, Tryz.ntmps96
      go_wp2_with fail
      refine (HU.out w).mono ?_
      rintro r w1 ⟨rfl, hb⟩
      go_wp2_with fail
      refine (HC.out w1).mono ?_
      rintro r w2 ⟨rfl, rfl⟩
      go_wp2_with fail
      go_ret2
      exact ⟨by rw [← HR.out]; unfold realV realR; rw [HLEN.out, if_pos h16, hA.out]; simp only [HZ.out, if_neg HCC.out]; rfl, hb⟩
  · have h16' : ¬ (s.size : Int) = 16 := by omega
    go_enter Tryz.func96, Tryz.ntmps96
    go_wp2_with fail
    refine (HU.out w).mono ?_
    rintro r w1 ⟨rfl, hb⟩
    go_wp2_with fail
    go_ret2
    exact ⟨by rw [← HR.out]; unfold realV realR; rw [HLEN.out, if_neg h16]; rfl, hb⟩
theorem hexL_snoc (l : List UInt8) (c : UInt8) : hexL (l ++ [c]) = hexL l ++ hexN 2 c.toNat := by simp [hexL, List.flatMap_append]
theorem byteA {s : ByteArray} {j : Nat} (h : j < s.size) : ∃ c, s[j]'h = c ∧ s.data.toList.take (j + 1) = s.data.toList.take j ++ [c] ∧ s.data.toList = s.data.toList.take j ++ c :: s.data.toList.drop (j + 1) ∧ s.data.toList[j]? = some c := by
 have hl : j < s.data.toList.length := by simpa using h
 refine ⟨s[j]'h, rfl, ?_, ?_, ?_⟩
 · rw [List.take_succ_eq_append_getElem hl]; rfl
 · show s.data.toList = s.data.toList.take j ++ s.data.toList[j] :: s.data.toList.drop (j + 1)
   rw [List.getElem_cons_drop, List.take_append_drop]
 · rw [List.getElem?_eq_getElem hl]; rfl
set_option maxRecDepth 100000 in
set_option maxHeartbeats 800000 in
theorem refhexT_any (s : ByteArray) (hs : s.size ≤ 35184372088832) (w : World) :
 Calls Tryz.prog 67 #[.string s] w fun r w' => r = .returned (.string (bsO (hexL s.data.toList))) ∧ Below w.heap.size w w' := by
 go_enter Tryz.func67, Tryz.ntmps67
 go_wp2_with fail
 go_loopw [3, 4] (fun o k wr => ∃ (j : Nat), j ≤ s.size ∧ k = .int .i64 j ∧ o = .string (bsO (hexL (s.data.toList.take j))) ∧ Below w.heap.size w wr) (fun _ k _ => s.size - (intOf k).toNat)
 case atStart => exact ⟨0, by omega, rfl, rfl, Below.refl _ _⟩
 case round =>
  obtain ⟨j, hj, rfl, rfl, hbw⟩ := hrel
  by_cases hlt : j < s.size
  · obtain ⟨c, hidx, htk, -, -⟩ := byteA hlt
    have HX := hd_ (refhex2 c wr)
    have hcat : (bsO (hexL (s.data.toList.take j))).size + (bsO (hexN 2 c.toNat)).size ≤ 9223372036854775807 := by
     rw [bsO_size, bsO_size, hexN_length, hexL_length]
     simp only [List.length_take]
     omega
    have hnew : bsO (hexL (s.data.toList.take j)) ++ bsO (hexN 2 c.toNat) = bsO (hexL (s.data.toList.take (j + 1))) := by rw [bsO_app, htk, hexL_snoc]
    have HN := hd_ hnew
    have hltI : (j : Int) < s.size := by omega
    clear hnew htk
    generalize bsO (hexL (s.data.toList.take j)) = acc at *
    generalize bsO (hexN 2 c.toNat) = piece at *
    obtain ⟨nxt, hnx⟩ : ∃ z, z = bsO (hexL (s.data.toList.take (j + 1))) := ⟨_, rfl⟩
    rw [← hnx] at HN
    have HNX := hd_ hnx
    have hc8 := c.toNat_lt
    obtain ⟨m, hm⟩ : ∃ m : Int, (c.toNat : Int) = m := ⟨_, rfl⟩
    have hm0 : 0 ≤ m ∧ m ≤ 255 := by omega
    rw [hm] at HX
    clear hnx hc8
    go_wp2_with fail
    refine HX.out.mono ?_
    rintro r w1 ⟨rfl, hb⟩
    have hbw1 := bt hbw hb
    clear hb hbw
    go_wp2_with fail
    rw [HN.out]
    go_roundw
    case rel => exact ⟨j + 1, by omega, by go_num, by rw [HNX.out], hbw1⟩
    case measure => simp [intOf]; omega
  · have hjn : j = s.size := by omega
    subst hjn
    rw [List.take_of_length_le (by simp)]
    go_wp2_with fail
    go_ret
    exact ⟨rfl, hbw⟩
theorem unhexL_len {l t : List UInt8} (h : unhexL l = some t) : l.length = 2 * t.length := by rw [← unhexL_some.1 h, hexL_length]
theorem unhexL_step {l : List UInt8} {a b : UInt8} {r : List UInt8} (h : l = a :: b :: r) : unhexL l = match unxR [a, b] with
 | some v => (unhexL r).map (UInt8.ofNat v :: ·)
 | none => none := by
 subst h
 rfl
theorem pairA {s : ByteArray} {j : Nat} (h : j + 2 ≤ s.size) : ∃ a b, s.data.toList.drop j = a :: b :: s.data.toList.drop (j + 2) ∧ (s.extract j (j + 2)).data.toList = [a, b] := by
 have hl : s.data.toList.length = s.size := by simp
 refine ⟨s.data.toList[j]'(by omega), s.data.toList[j + 1]'(by omega), ?_, ?_⟩
 · rw [List.drop_eq_getElem_cons (by omega : j < s.data.toList.length), List.drop_eq_getElem_cons (by omega : j + 1 < s.data.toList.length)]
 · have e : (s.extract j (j + 2)).data.toList = (s.data.toList.drop j).take 2 := by
    have := Lib.extract_toList s j (j + 2)
    rw [Lib.toList_data, show j + 2 - j = 2 by omega] at this
    exact this
   rw [e, List.drop_eq_getElem_cons (by omega : j < s.data.toList.length), List.drop_eq_getElem_cons (by omega : j + 1 < s.data.toList.length)]
   rfl
theorem own_ext {w w' : World} {base n size : Nat} {e : TypeId} {v : Value} {xs : List Value} (h : w.ownsRow base e size v n xs) (hb : Below w.heap.size w w') : w'.ownsRow base e size v n xs := own_low h hb (fun g hg => (h.lt g hg).2)
theorem u8_nat {v : Nat} : ((UInt8.ofNat v).toNat : Int) = (v : Int) % 256 := by
 rw [UInt8.toNat_ofNat']; omega
def orGave (o : Option Value) : Ending := match o with
 | some v => .returned v
 | none => gaveW
def txOf : Value → ByteArray
 | .string t => t
 | _ => ⟨#[]⟩
theorem txt_empty {t : ByteArray} : t.toList.isEmpty = decide (t.size = 0) := by
 rw [ByteArray.toList_eq]
 have : t.data.toList.length = t.size := by simp
 cases h : t.data.toList with
 | nil => rw [h] at this; simp at this; simp [← this]
 | cons c r => rw [h] at this; simp at this; simp [← this]
set_option maxRecDepth 100000 in
set_option maxHeartbeats 1600000 in
theorem unhexT_any (s : ByteArray) (hs : s.size ≤ 35184372088832) (w : World) :
 Calls Tryz.prog 97 #[.string s] w fun r w' => r = orGave ((unhexL s.data.toList).map fun t => .string (bsO t)) ∧ Below w.heap.size w w' := by
 obtain ⟨i0, hi0, hz0, hz1, hz2⟩ := info_parts info_u8
 generalize hR : orGave ((unhexL s.data.toList).map fun t => .string (bsO t)) = R
 have HR := hd_ hR
 clear hR
 by_cases hodd : s.size % 2 = 0
 · have hoddI : (s.size : Int) % 2 = 0 := by omega
   have HODD := hd_ hodd
   clear hodd
   go_enter Tryz.func97, Tryz.ntmps97
   go_wp2_with fail
   refine (need_yes w).mono ?_
   rintro r w1 ⟨rfl, rfl⟩
   go_wp2_with fail
   clear hoddI
   go_loopw [0, 3] (fun u b wr => ∃ (k : Nat) (done : List UInt8) (t : ByteArray), u = .string t ∧ t.size + 2 * k = s.size ∧ Hid (unhexL s.data.toList = (unhexL t.data.toList).map (done ++ ·)) ∧ wr.ownsRow w1.heap.size 5 1 b k (done.map byteCell) ∧ Below w1.heap.size w1 wr) (fun u _ _ => (txOf u).size)
   case atStart => exact ⟨0, [], s, rfl, by omega, (by simp : _ = _), ⟨by simp, .inl ⟨rfl, rfl⟩⟩, Below.refl _ _⟩
   case round =>
    obtain ⟨k, done, t, rfl, hsz, HU, hown, hbw⟩ := hrel
    have hem := txt_empty (t := t)
    by_cases ht : t.size = 0
    · rw [decide_eq_true ht] at hem
      have hcv := conv_own done hown
      have hD : unhexL s.data.toList = some done := by
       rw [HU.out, show t.data.toList = [] from List.eq_nil_of_length_eq_zero (by simpa using ht)]
       simp [unhexL]
      have HD := hd_ hD
      clear hD
      go_wp2_with fail
      go_ret
      exact ⟨by rw [← HR.out, HD.out]; rfl, hbw⟩
    · rw [decide_eq_false ht] at hem
      have hodd := HODD.out
      obtain ⟨a, b, hd, he⟩ := pairA (s := t) (j := 0) (by omega)
      rw [List.drop_zero, Nat.zero_add] at hd
      rw [Nat.zero_add] at he
      have hrest : (t.extract 2 t.size).data.toList = t.data.toList.drop 2 := by
       have := Lib.extract_toList t 2 t.size
       rw [Lib.toList_data] at this
       rw [this]
       exact List.take_of_length_le (by simp)
      have hrsz : (t.extract 2 t.size).size = t.size - 2 := by rw [ByteArray.size_extract]; omega
      have HRS := hd_ hrsz
      have HUX := hd_ (unhex_any (t.extract 0 2) wr)
      rw [he] at HUX
      have hst := unhexL_step hd
      rw [← hrest] at hst
      have h2I : (2 : Int) ≤ t.size := by omega
      unfold unxV at HUX
      clear hodd hd he hrest hrsz
      cases hu : unxR [a, b] with
      | none =>
       rw [hu] at hst HUX
       have HM : Hid (unhexL s.data.toList = none) := by show _ = _; rw [HU.out, hst]; rfl
       clear hst hu
       go_wp2_with fail
       refine HUX.out.mono ?_
       rintro r w2 ⟨rfl, hb⟩
       have hbw1 := bt hbw hb
       clear hb
       go_wp2_with fail
       refine (need_no w2).mono ?_
       rintro r w3 ⟨rfl, rfl⟩
       unfold gaveW
       go_wp2_with fail
       exact ⟨rfl, by rw [← HR.out, HM.out]; rfl, hbw1⟩
      | some v =>
       rw [hu] at hst HUX
       have hlt2 := unxR_lt hu
       have hst' : unhexL s.data.toList = (unhexL (t.extract 2 t.size).data.toList).map ((done ++ [UInt8.ofNat v]) ++ ·) := by
        rw [HU.out, hst]
        simp only [Option.map_map]
        congr 1
        funext x
        simp
       have HM := hd_ hst'
       have HB : Hid (byteCell (UInt8.ofNat v) = .int .u8 ((v : Int) % 256)) := by
        show _ = _
        unfold byteCell
        rw [u8_nat]
       clear hst hst' hu
       go_wp2_with fail
       refine HUX.out.mono ?_
       rintro r w2 ⟨rfl, hb⟩
       have hbw1 := bt hbw hb
       have hown1 := own_ext hown hb
       clear hown hbw
       go_wp2_with fail
       refine (need_yes w2).mono ?_
       rintro r w3 ⟨rfl, rfl⟩
       go_wp2_with (at_builtin; refine wpList_append_own _ rfl _ _ 114 rfl w1.heap.size 5 i0 (.int .u8 0) 1 1 Tryz.underlying114 hi0 hz0 hz1 hz2 rfl (by decide) _ k (done.map byteCell) rfl (hown1.alloc _) ⟨w3.heap.size, 0, none⟩ 1 1 [.int .u8 ((v : Int) % 256)] rfl rfl ?c1 ?c2 ?c3 ?c4 ?c5 ?_)
       case c1 => exact cell_one_new _ _ _
       case c2 => simp [Value.oneCell']
       case c3 => simp only [maxLen]; omega
       case c4 => omega
       case c5 => have := hbw1.size; simp; omega
       intro v' w4 hown2 hg1 _
       have hown3 : w4.ownsRow w1.heap.size 5 1 v' (k + 1) ((done ++ [UInt8.ofNat v]).map byteCell) := by
        rw [List.map_append, List.map_singleton, HB.out]; exact hown2
       have hbw2 : Below w1.heap.size w1 w4 := (hbw1.alloc hbw1.size _).grown hg1 (by have := hbw1.size; simp; omega) (own_ge hown1)
       clear hown1 hg1 hbw1 hown2 hb
       go_wp2_with fail
       go_roundw
       case rel => exact ⟨k + 1, done ++ [UInt8.ofNat v], _, rfl, by rw [HRS.out]; omega, HM, hown3, hbw2⟩
       case measure => simp only [txOf]; simp; omega
 · have hoddI : ¬ (s.size : Int) % 2 = 0 := by omega
   have hbq : ((s.size : Int) % 2 == 0) = false := by simpa using hoddI
   have hn : unhexL s.data.toList = none := by
    cases h : unhexL s.data.toList with
    | none => rfl
    | some t => have := unhexL_len h; simp at this; omega
   have HN := hd_ hn
   clear hn
   go_enter Tryz.func97, Tryz.ntmps97
   go_wp2_with fail
   refine (need_no w).mono ?_
   rintro r w1 ⟨rfl, rfl⟩
   unfold gaveW
   go_wp2_with fail
   exact ⟨rfl, by rw [← HR.out, HN.out]; rfl, Below.refl _ _⟩
theorem bsizeB : (Tryz.prog.info? 116).map (·.size) = some 2 := by kernel_rfl
theorem bliesB : liesAt Tryz.prog Tryz.prog.depth 116 (2 / Tryz.prog.cellsOf 116) 0 116 1 = true := by kernel_rfl
set_option maxRecDepth 100000 in
set_option maxHeartbeats 1000000 in
theorem bcheck_used (b : Nat) (w : World) (h0 : w.cell? ⟨b, 0, none⟩ = some (.pointer (some ⟨b, 0, none⟩))) :
 Calls Tryz.prog 107 #[.pointer (some ⟨b, 0, none⟩)] w fun e w' => e = .returned (.tuple #[]) ∧ w' = w := by
 obtain ⟨j, hj, _⟩ := Option.map_eq_some_iff.1 bsizeB
 go_enter Tryz.func107, Tryz.ntmps107
 go_wp2
 rw [Lib.run_neq_ptr_same w _ Tryz.underlying113 hj]
 go_wp2
 go_end0
 exact ⟨rfl, rfl⟩
set_option maxRecDepth 100000 in
set_option maxHeartbeats 1000000 in
theorem bcheck_fresh (b : Nat) (w : World) (h0 : w.cell? ⟨b, 0, none⟩ = some (.pointer none)) (hsh : w.shape? b = some (116, 2)) (hfz : w.frozen? ⟨b, 0, none⟩ = false) :
 Calls Tryz.prog 107 #[.pointer (some ⟨b, 0, none⟩)] w fun e w' => e = .returned (.tuple #[]) ∧ w' = w.setCell ⟨b, 0, none⟩ (.pointer (some ⟨b, 0, none⟩)) := by
 obtain ⟨j, hj, hjs⟩ := Option.map_eq_some_iff.1 bsizeB
 go_enter Tryz.func107, Tryz.ntmps107
 go_wp2
 rw [Lib.run_to_unsafe w ⟨b, 0, none⟩ Tryz.underlying113 Tryz.underlying202 hj (by rw [hjs]; decide) hsh (Nat.zero_lt_succ 1)]
 simp only [Result.andThen]
 rw [Oper.upon_value]
 go_wp2
 rw [run_callFunc_extern Tryz.func144 (by kernel_rfl) (by kernel_rfl) (by kernel_rfl) (e := Extern.AbiNoEscape.same) (by kernel_rfl)]
 rw [Lib.run_noEscape]
 simp only [Result.andThen]
 rw [Oper.upon_value]
 go_wp2
 rw [Lib.run_from_unsafe w ⟨b, 0, none⟩ Tryz.underlying202 Tryz.underlying113 hj hsh bliesB]
 simp only [Result.andThen]
 rw [Oper.upon_value]
 go_wp2
 go_end0
 exact ⟨rfl, rfl⟩
theorem own_wk {w : World} {base base' e size n : Nat} {v : Value} {xs : List Value} (h : w.ownsRow base e size v n xs) (hb : base' ≤ base) : w.ownsRow base' e size v n xs :=
 ⟨h.1, h.2.elim Or.inl fun ⟨g, cap, cur, e1, e2, r⟩ => Or.inr ⟨g, cap, cur, e1, Nat.le_trans hb e2, r⟩⟩
def BX (B b : Nat) (p : Value) (bs : List Value) (w : World) : Prop :=
 ∃ v, w.heap[b]? = some (.cells #[p, v] 116 (0, 0)) ∧ w.ownsRow B 5 1 v bs.length bs ∧ v.ownBlock ≠ some b
structure KX (B b : Nat) (w w' : World) : Prop where
 low : Below b w w'
 mid : ∀ k, b < k → k < B → w'.heap[k]? = w.heap[k]?
theorem KX.refl (B b : Nat) (w : World) : KX B b w w := ⟨Below.refl _ _, fun _ _ _ => rfl⟩
theorem KX.trans {B b : Nat} {w w1 w2 : World} (h : KX B b w w1) (k : KX B b w1 w2) : KX B b w w2 := ⟨h.low.trans k.low, fun i h1 h2 => (k.mid i h1 h2).trans (h.mid i h1 h2)⟩
theorem KX.of_below {B b : Nat} {w w' : World} (h : Below w.heap.size w w') (hB : B ≤ w.heap.size) (hb : b ≤ B) : KX B b w w' :=
 ⟨h.mono (by omega), fun k _ h2 => h.block k (by omega)⟩
theorem setCell_other {w : World} {b o k : Nat} {v : Value} (h : k ≠ b) : (w.setCell ⟨b, o, none⟩ v).heap[k]? = w.heap[k]? := Below.heap_setCell _ _ _ _ (fun e => h (by simpa using e))
theorem bxcheck (B b : Nat) (p : Value) (bs : List Value) (w : World) (h : BX B b p bs w) (hp : p = .pointer none ∨ p = .pointer (some ⟨b, 0, none⟩)) :
 Calls Tryz.prog 107 #[.pointer (some ⟨b, 0, none⟩)] w fun e w' => e = .returned (.tuple #[]) ∧ (BX B b (.pointer (some ⟨b, 0, none⟩)) bs w' ∧ KX B b w w' ∧ w'.heap.size = w.heap.size) := by
 obtain ⟨v, hb, hown, hne⟩ := h
 have hc0 : w.cell? ⟨b, 0, none⟩ = some p := by rw [Lib.cell_of_heap hb]; rfl
 rcases hp with rfl | rfl
 · refine (bcheck_fresh b w hc0 (by simp [World.shape?, hb]) (Lib.frozen_of_heap hb 0)).mono ?_
   rintro e w' ⟨rfl, rfl⟩
   refine ⟨rfl, ⟨v, ?_, ?_, hne⟩, ⟨(Below.refl b w).setCell (p := ⟨b, 0, none⟩) (Nat.le_refl _) _, fun k h1 _ => setCell_other (by omega)⟩, by simp [World.setCell]⟩
   · simp [World.setCell, Array.getElem?_modify, hb]
   · exact hown.kept (row := some b) ⟨rfl, rfl, rfl, by simp [World.setCell], fun k _ hk => setCell_other (fun e => hk (by simp [e]))⟩ (Or.inr hne)
 · refine (bcheck_used b w hc0).mono ?_
   rintro e w' ⟨rfl, rfl⟩
   exact ⟨rfl, ⟨v, hb, hown, hne⟩, KX.refl _ _ _, rfl⟩
set_option maxRecDepth 100000 in
set_option maxHeartbeats 1000000 in
theorem bxwrite (B b : Nat) (p : Value) (bs : List Value) (s : ByteArray) (w : World) (h : BX B b p bs w) (hp : p = .pointer none ∨ p = .pointer (some ⟨b, 0, none⟩)) (hlen : bs.length + s.size ≤ 140737488355328) (hbB : b < B) (hBw : B ≤ w.heap.size) :
 Calls Tryz.prog 71 #[.pointer (some ⟨b, 0, none⟩), .string s] w fun e w' => e = .returned (.tuple #[.int .i64 s.size, .nilIface]) ∧ (BX B b (.pointer (some ⟨b, 0, none⟩)) (bs ++ Lib.strCells s) w' ∧ KX B b w w' ∧ w.heap.size ≤ w'.heap.size) := by
 obtain ⟨i0, hi, hz0, hz1, hz2⟩ := info_parts info_u8
 have HCK := hd_ (bxcheck B b p bs w h hp)
 clear h hp
 go_enter Tryz.func71, Tryz.ntmps71
 go_wp2_with fail
 refine HCK.out.mono ?_
 rintro e w1 ⟨rfl, h1, hb1, hs1⟩
 obtain ⟨v, hbk, hown, hne⟩ := h1
 have c0 : w1.cell? ⟨b, 0, none⟩ = some (.pointer (some ⟨b, 0, none⟩)) := by rw [Lib.cell_of_heap hbk]; rfl
 have c1 : w1.cell? ⟨b, 1, none⟩ = some v := by rw [Lib.cell_of_heap hbk]; rfl
 have HS1 := hd_ hs1
 clear hs1
 go_wp2_with (at_builtin; refine Lib.wpList_append_own_string _ rfl _ _ 114 9 rfl B 5 i0 Tryz.underlying114 Tryz.underlying9 hi hz0 hz1 hz2 _ _ _ rfl hown s rfl ?c3 ?c4 ?c5 ?_)
 case c3 => unfold maxLen; omega
 case c4 => omega
 case c5 => rw [HS1.out]; exact hBw
 intro v' w2 hown' hgrow _
 have hlt : b < w1.heap.size := by rw [HS1.out]; omega
 have hb2 : w2.heap[b]? = some (.cells #[.pointer (some ⟨b, 0, none⟩), v] 116 (0, 0)) := by
  rw [hgrow.block b hlt (fun e => hne e.symm)]
  exact hbk
 have d0 : w2.cell? ⟨b, 0, none⟩ = some (.pointer (some ⟨b, 0, none⟩)) := by rw [Lib.cell_of_heap hb2]; rfl
 have d1 : w2.cell? ⟨b, 1, none⟩ = some v := by rw [Lib.cell_of_heap hb2]; rfl
 have f1 : w2.frozen? ⟨b, 1, none⟩ = false := Lib.frozen_of_heap hb2 1
 obtain ⟨ao, n', cap, rfl⟩ : ∃ ao n' cap, v' = .slice ao n' cap := by
  rcases hown'.2 with ⟨hv, _⟩ | ⟨g, cap, cur, hv, _⟩
  · exact ⟨_, _, _, hv⟩
  · exact ⟨_, _, _, hv⟩
 go_wp2
 go_ret2
 have hne' : (Value.slice ao n' cap).ownBlock ≠ some b := fun e => by
  have := own_ge hown' _ e
  omega
 have hk2 : KX B b w1 (w2.setCell ⟨b, 1, none⟩ (.slice ao n' cap)) := by
  refine ⟨((Below.refl b w1).grown hgrow (by omega) (fun g hg => by have := own_ge hown g hg; omega)).setCell (p := ⟨b, 1, none⟩) (Nat.le_refl _) _, fun k h1 h2 => ?_⟩
  rw [setCell_other (by omega)]
  exact hgrow.block k (by rw [HS1.out]; omega) (fun e => by have := own_ge hown k e.symm; omega)
 refine ⟨rfl, ⟨_, ?_, ?_, hne'⟩, hb1.trans hk2, ?_⟩
 · simp [World.setCell, Array.getElem?_modify, hb2]
 · have : (w2.setCell ⟨b, 1, none⟩ (.slice ao n' cap)).ownsRow B 5 1 (.slice ao n' cap) (bs.length + s.size) (bs ++ Lib.strCells s) :=
    hown'.kept (row := some b) ⟨rfl, rfl, rfl, by simp [World.setCell], fun k _ hk => setCell_other (fun e => hk (by simp [e]))⟩ (Or.inr hne')
   simpa [Lib.strCells_length] using this
 · have h3 := hgrow.size
   rw [HS1.out] at h3
   simpa [World.setCell] using h3
theorem bxstring (B b : Nat) (p : Value) (l : List UInt8) (w : World) (h : BX B b p (Lib.byteCells l) w) (hp : p = .pointer none ∨ p = .pointer (some ⟨b, 0, none⟩)) (hbB : b < B) (hBw : B ≤ w.heap.size) :
 Calls Tryz.prog 72 #[.pointer (some ⟨b, 0, none⟩)] w fun e w' => e = .returned (.string (bsO l)) ∧ Below b w w' := by
 obtain ⟨v, hb, hown, hne⟩ := h
 refine Tryz.Builder_String_any b b l w ?_ (by omega)
 rcases hp with rfl | rfl
 · exact Or.inl ⟨Nat.le_refl _, v, hb, own_wk hown (by omega), hne⟩
 · exact Or.inr ⟨Nat.le_refl _, v, hb, own_wk hown (by omega), hne⟩
theorem byteCells_app (a b : List UInt8) : Lib.byteCells (a ++ b) = Lib.byteCells a ++ Lib.byteCells b := by simp [Lib.byteCells]
theorem strCells_bs (l : List UInt8) : Lib.strCells (bsO l) = Lib.byteCells l := rfl
set_option maxRecDepth 100000 in
set_option maxHeartbeats 1600000 in
theorem hexT_any (s : ByteArray) (hs : s.size ≤ 35184372088832) (w : World) :
 Calls Tryz.prog 65 #[.string s] w fun r w' => r = .returned (.string (bsO (hexL s.data.toList))) ∧ Below w.heap.size w w' := by
 have hcv := Lib.run_convert_string_bytes (P := Tryz.prog) (w.alloc (.cells #[.pointer none, .slice none 0 0] 116)) 9 114 5 s Tryz.underlying9 Tryz.underlying114 Tryz.underlying5
 have hcell := Lib.bytesWorld_cell (w.alloc (.cells #[.pointer none, .slice none 0 0] 116)) 5 s
 have hbl := below_bytes (w.alloc (.cells #[.pointer none, .slice none 0 0] 116)) 5 s
 have hsz := Lib.bytesWorld_size (w.alloc (.cells #[.pointer none, .slice none 0 0] 116)) 5 s
 have hasz : (w.alloc (.cells #[.pointer none, .slice none 0 0] 116)).heap.size = w.heap.size + 1 := by simp
 rw [hasz] at hcell hsz hcv
 have hbb : (w.alloc (.cells #[.pointer none, .slice none 0 0] 116)).heap[w.heap.size]? = some (.cells #[.pointer none, .slice none 0 0] 116 (0, 0)) := heap_alloc_new w _
 have hwa : Below w.heap.size w (w.alloc (.cells #[.pointer none, .slice none 0 0] 116)) := (Below.refl _ _).alloc (Nat.le_refl _) _
 generalize hW1 : w.alloc (.cells #[.pointer none, .slice none 0 0] 116) = W1 at hcv hcell hbl hsz hasz hbb hwa
 generalize Lib.bytesWorld W1 5 s = W at hcv hcell hbl hsz
 have hb0 : BX (w.heap.size + 2) w.heap.size (.pointer none) (Lib.byteCells (hexL (s.data.toList.take 0))) W := ⟨.slice none 0 0, by rw [hbl.block _ (by omega)]; exact hbb, World.ownsRow_nil _ _ _ _, by simp [Value.ownBlock]⟩
 have HB0 := hd_ hb0
 have HBL := hd_ (bt hwa hbl)
 have HCELL := hd_ hcell
 have HSZ := hd_ hsz
 have HW1 := hd_ hW1
 clear hcell hsz hbl hasz hbb hwa hb0
 go_enter Tryz.func65, Tryz.ntmps65
 go_wp2_with fail
 clear hcv hW1
 go_loopw [11] (fun i wr => ∃ (j : Nat) (p : Value), j ≤ s.size ∧ i = .int .i64 j ∧ (p = .pointer none ∨ p = .pointer (some ⟨w.heap.size, 0, none⟩)) ∧ Hid (BX (w.heap.size + 2) w.heap.size p (Lib.byteCells (hexL (s.data.toList.take j))) wr) ∧ Hid (KX (w.heap.size + 2) w.heap.size W wr) ∧ w.heap.size + 2 ≤ wr.heap.size) (fun i _ => s.size - (intOf i).toNat)
 case atStart => exact ⟨0, .pointer none, by omega, rfl, Or.inl rfl, HB0, KX.refl _ _ _, by rw [HSZ.out]; omega⟩
 case round =>
  obtain ⟨j, p, hj, rfl, hp, HB, HK, hsz⟩ := hrel
  by_cases hlt : j < s.size
  · obtain ⟨c, hidx, htk, -, hget⟩ := byteA hlt
    have c0 : wr.cell? ⟨w.heap.size + 1, j, none⟩ = some (.int .u8 c.toNat) := by
     have h1 := HCELL.out j hlt
     rw [List.getD_eq_getElem?_getD, hget] at h1
     refine Eq.trans ?_ h1
     exact World.cell?_of_block (HK.out.mid (w.heap.size + 1) (by omega) (by omega))
    have c1 : wr.cell? ⟨w.heap.size + 1, 0 + j, none⟩ = some (.int .u8 c.toNat) := by rw [Nat.zero_add]; exact c0
    have HX := hd_ (hex2 c wr)
    have hcat : (Lib.byteCells (hexL (s.data.toList.take j))).length + (bsO (hexN 2 c.toNat)).size ≤ 140737488355328 := by
     rw [bsO_size, hexN_length, Lib.byteCells_length, hexL_length]
     simp only [List.length_take]
     omega
    have hnew : Lib.byteCells (hexL (s.data.toList.take j)) ++ Lib.strCells (bsO (hexN 2 c.toNat)) = Lib.byteCells (hexL (s.data.toList.take (j + 1))) := by
     rw [strCells_bs, htk, hexL_snoc, byteCells_app]
    have HWR := hd_ (fun (w1 : World) (hb : Below wr.heap.size wr w1) => by
     obtain ⟨v, k1, k2, k3⟩ := HB.out
     exact bxwrite (w.heap.size + 2) w.heap.size p _ (bsO (hexN 2 c.toNat)) w1 ⟨v, (by rw [hb.block _ (by omega)]; exact k1), own_ext k2 hb, k3⟩ hp hcat (by omega) (Nat.le_trans hsz hb.size))
    rw [hnew] at HWR
    have HC1 := hd_ c1
    have hltI : (j : Int) < s.size := by omega
    have hc8 := c.toNat_lt
    obtain ⟨m, hm⟩ : ∃ m : Int, (c.toNat : Int) = m := ⟨_, rfl⟩
    have hm0 : 0 ≤ m ∧ m ≤ 255 := by omega
    rw [hm] at HX c0 c1
    have lW : w.heap.size + 1 < wr.heap.size := by omega
    clear hnew htk hget hidx hcat hm hc8 HC1
    generalize bsO (hexN 2 c.toNat) = piece at *
    go_wp2_with fail
    refine HX.out.mono ?_
    rintro r w1 ⟨rfl, hb⟩
    have HWR1 := hd_ (HWR.out w1 hb)
    have HBW := hd_ hb
    have HHP := hd_ hp
    clear hb c0 c1 lW hp
    go_wp2_with fail
    refine HWR1.out.mono ?_
    rintro r w2 ⟨rfl, hB2, hK2, hs2⟩
    have HB2 := hd_ hB2
    have HK2 := hd_ ((HK.out.trans (KX.of_below HBW.out hsz (by omega))).trans hK2)
    have hsz2 : w.heap.size + 2 ≤ w2.heap.size := Nat.le_trans (Nat.le_trans hsz HBW.out.size) hs2
    clear hB2 hK2 hs2
    go_wp2_with fail
    go_roundw
    case rel => exact ⟨j + 1, _, by omega, by go_num, Or.inr rfl, HB2, HK2, hsz2⟩
    case measure => simp [intOf]; omega
  · have hjn : j = s.size := by omega
    subst hjn
    have hB := HB.out
    rw [List.take_of_length_le (by simp)] at hB
    have HST := hd_ (bxstring _ _ p _ wr hB hp (by omega) hsz)
    have HHP := hd_ hp
    clear hB hp
    go_wp2_with fail
    refine HST.out.mono ?_
    rintro r w2 ⟨rfl, hb⟩
    go_wp2_with fail
    go_ret
    exact ⟨rfl, (HBL.out.trans HK.out.low).trans hb⟩
end Go.Proofs.YtfekohonidggjaaGreatDoor
