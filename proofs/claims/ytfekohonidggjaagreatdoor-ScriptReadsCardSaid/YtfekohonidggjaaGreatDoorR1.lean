/- Joined texts. -/
import Derived.Test.YtfekohonidggjaaGreatDoorB13
namespace Go.Proofs.YtfekohonidggjaaGreatDoor
open Go.RowKit
set_option maxRecDepth 100000
set_option maxHeartbeats 6400000
theorem k_1 {α : Type _} (a b : α) : cond true a b = a := rfl
theorem k_2 {α : Type _} (a b : α) : cond false a b = b := rfl
theorem k_3 {α : Type _} {x : α} {l : List α} {d : α} : List.getD (x :: l) 0 d = x := rfl
abbrev kU : Known := .val undef
theorem k_4 {α : Type _} {x : α} {l : List α} {n : Nat} {d : α} : List.getD (x :: l) (n + 1) d = List.getD l n d := rfl
theorem VRow.nil_ (w : World) : VRow w none [] := ⟨(fun _ h => by cases h), by simp, (fun h => absurd rfl h)⟩
theorem slice_at (s : ByteArray) (i j : Nat) : (s.extract i j).data.toList = (s.data.toList.drop i).take (j - i) := by
 simp [ByteArray.data_extract]
theorem byte_at (s : ByteArray) (i : Nat) (h : i < s.size) : s[i] = s.data.toList.getD i 0 := by
 rw [List.getD_eq_getElem?_getD, Array.getElem?_toList, Array.getElem?_eq_getElem h]
 rfl
theorem NRow.none_ {k : IntKind} {w : World} {l : List Int} (h : NRow k w none l) : l.length = 0 := by
 rcases l with _ | ⟨v, l⟩
 · rfl
 · obtain ⟨b, off, h, _⟩ := h.2 (by simp)
   cases h
theorem digit_any (c : UInt8) (w : World) :
  Calls Tryz.prog 136 #[.int .u8 c.toNat] w fun r w' => (r = match unD c with
   | some d => .returned (.tuple #[.int .u64 d, .bool true])
   | none => .returned (.tuple #[.int .u64 0, .bool false])) ∧ w' = w := by
 unfold unD
 have hc := c.toNat_lt
 by_cases h1 : 48 ≤ c.toNat ∧ c.toNat ≤ 57
 · rw [if_pos h1]
   have e : ((c.toNat - 48 : Nat) : Int) = (c.toNat : Int) - 48 := by omega
   obtain ⟨h1, h2⟩ := h1
   generalize c.toNat = n at *
   have HE := hd_ e
   clear e
   go_enter Tryz.func136, Tryz.ntmps136
   go_wp2_with fail
   go_ret2
   exact ⟨by rw [HE.out]; rfl, rfl⟩
 · rw [if_neg h1]
   by_cases h2 : 97 ≤ c.toNat ∧ c.toNat ≤ 102
   · rw [if_pos h2]
     have e : ((c.toNat - 87 : Nat) : Int) = (c.toNat : Int) - 87 := by omega
     obtain ⟨h2, h3⟩ := h2
     generalize c.toNat = n at *
     have h57 : (57 : Int) < n := by omega
     have HE := hd_ e
     clear e h1
     go_enter Tryz.func136, Tryz.ntmps136
     go_wp2_with fail
     go_ret2
     refine ⟨?_, rfl⟩
     rw [HE.out]
     go_num
   · rw [if_neg h2]
     generalize c.toNat = n at *
     by_cases k1 : (n : Int) < 48
     · have k2 : (n : Int) < 97 := by omega
       clear h1 h2
       go_enter Tryz.func136, Tryz.ntmps136
       go_wp2_with fail
       go_ret2
       exact ⟨rfl, rfl⟩
     · have k2 : (57 : Int) < n := by omega
       by_cases k3 : (n : Int) < 97
       · clear h1 h2
         go_enter Tryz.func136, Tryz.ntmps136
         go_wp2_with fail
         go_ret2
         exact ⟨rfl, rfl⟩
       · have k4 : (102 : Int) < n := by omega
         clear h1 h2
         go_enter Tryz.func136, Tryz.ntmps136
         go_wp2_with fail
         go_ret2
         exact ⟨rfl, rfl⟩
theorem refunhex_any (s : ByteArray) (w : World) :
  Calls Tryz.prog 100 #[.string s] w fun r w' => r = .returned (unxV s.data.toList) ∧ Below w.heap.size w w' := by
 have hlen : s.data.toList.length = s.size := by simp
 have HLEN := hd_ hlen
 clear hlen
 generalize hR : unxV s.data.toList = R
 have HR := hd_ hR
 clear hR
 by_cases h1 : s.size < 1
 · have h1' : (s.size : Int) < 1 := by omega
   go_enter Tryz.func100, Tryz.ntmps100
   go_wp2_with fail
   go_ret2
   exact ⟨by rw [← HR.out]; unfold unxV unxR; rw [HLEN.out, if_neg (by omega)]; rfl, Below.refl _ _⟩
 · by_cases h2 : 16 < s.size
   · have h1' : ¬ (s.size : Int) < 1 := by omega
     have h2' : (16 : Int) < s.size := by omega
     go_enter Tryz.func100, Tryz.ntmps100
     go_wp2_with fail
     go_ret2
     exact ⟨by rw [← HR.out]; unfold unxV unxR; rw [HLEN.out, if_neg (by omega)]; rfl, Below.refl _ _⟩
   · have h1' : ¬ (s.size : Int) < 1 := by omega
     have h2' : ¬ (16 : Int) < s.size := by omega
     go_enter Tryz.func100, Tryz.ntmps100
     go_wp2_with fail
     go_loopw [4, 5] (fun u k wr => ∃ (j a : Nat), j ≤ s.size ∧ k = .int .i64 j ∧ u = .int .u64 a ∧ Hid (unxA 0 (s.data.toList.take j) = some a) ∧ Below w.heap.size w wr) (fun _ k _ => s.size - (intOf k).toNat)
     case atStart => exact ⟨0, 0, by omega, rfl, rfl, (rfl : _ = _), Below.refl _ _⟩
     case round =>
      obtain ⟨j, a, hj, rfl, rfl, HU, hbw⟩ := hrel
      by_cases hlt : j < s.size
      · obtain ⟨c, hc⟩ : ∃ c, c = s.data.toList[j]'(by rw [HLEN.out]; exact hlt) := ⟨_, rfl⟩
        have hsp : s.data.toList = s.data.toList.take j ++ c :: s.data.toList.drop (j + 1) := by
         rw [hc, List.getElem_cons_drop, List.take_append_drop]
        have htk : s.data.toList.take (j + 1) = s.data.toList.take j ++ [c] := by rw [List.take_succ_eq_append_getElem (by rw [HLEN.out]; exact hlt), ← hc]
        have hidx : s[j]'hlt = c := by rw [hc]; rfl
        have ha := unxA_take_lt HU.out (by omega)
        have HSP := hd_ hsp
        have HTK := hd_ htk
        have hltI : (j : Int) < s.size := by omega
        clear hsp htk hc
        go_upto_region 7 with fail
        go_wp2_with fail
        refine (digit_any c wr).mono ?_
        rintro r w1 ⟨rfl, rfl⟩
        cases hu : unD c with
        | none =>
         have HM : Hid (unxA 0 s.data.toList = none) := by
          show _ = _
          rw [HSP.out, unxA_app, HU.out]
          simp [unxA, hu]
         clear hu
         go_wp2_with fail
         go_ret2
         exact ⟨by rw [← HR.out]; unfold unxV unxR; rw [HLEN.out, if_pos (by omega), HM.out]; rfl, hbw⟩
        | some d =>
         have hd := (unD_some hu).1
         have HM : Hid (unxA 0 (s.data.toList.take (j + 1)) = some (a * 16 + d)) := by
          show _ = _
          rw [HTK.out, unxA_app, HU.out]
          simp [unxA, hu]
         have hw1 : IntKind.u64.wrap (16 * (a : Int)) = 16 * a := IntWalk.u64_in _ (by omega)
         have hw2 : IntKind.u64.wrap (16 * (a : Int) + d) = 16 * a + d := IntWalk.u64_in _ (by omega)
         clear hu
         go_wp2_with fail
         go_roundw
         case rel => exact ⟨j + 1, a * 16 + d, by omega, by go_num, by go_num, HM, hbw⟩
         case measure => simp [intOf]; omega
      · have hjn : j = s.size := by omega
        subst hjn
        have hu := HU.out
        rw [List.take_of_length_le (by rw [HLEN.out]; exact Nat.le_refl _)] at hu
        have HU := hd_ hu
        clear hu
        go_wp2_with fail
        go_ret2
        exact ⟨by rw [← HR.out]; unfold unxV unxR; rw [HLEN.out, if_pos (by omega), HU.out]; rfl, hbw⟩
theorem refname_any (s : ByteArray) (w : World) (hs : s.size ≤ 140737488355328) :
  Calls Tryz.prog 110 #[.string s] w fun r w' => r = .returned (.bool (nameB s)) ∧ w = w' := by
 generalize hM : nameB s = M
 have HM := hd_ hM
 clear hM
 go_enter Tryz.func110, Tryz.ntmps110
 go_wp2
 go_loop [3] (fun i => ∃ k : Nat, k ≤ s.size ∧ i = .int .i64 k ∧ Hid ((s.data.toList.take k).all (fun c => chB c.toNat) = true)) (fun i => s.size - (intOf i).toNat)
 case atStart => exact ⟨0, by omega, rfl, (by simp : _ = _)⟩
 case round =>
  obtain ⟨k, hk, rfl, HS⟩ := hrel
  by_cases hlt : k < s.size
  · obtain ⟨v, hv⟩ : ∃ v : Int, v = ((s.data.toList.getD k 0).toNat : Int) := ⟨_, rfl⟩
    have c1 : ∀ hh, ((s[k]'hh).toNat : Int) = v := fun hh => by rw [hv, byte_at s k hh]
    have HV := hd_ hv
    have hlt' : (k : Int) < s.size := by omega
    clear hv
    cases hc : chB v
    · have hf := chars_not hlt (by rw [← HV.out]; exact hc)
      have hMf : Hid (M = false) := by show _ = _; rw [← HM.out]; unfold nameB; rw [hf]; rfl
      have hc' := of_decide_eq_false hc
      clear hf hc HM
      by_cases h97 : v < 97
      · have g97 : ¬ 97 ≤ v := by omega
        by_cases h48 : v < 48
        · have g48 : ¬ 48 ≤ v := by omega
          clear hc'
          go_wp2
          go_ret
          exact ⟨ret_bool hMf.out.symm, rfl⟩
        · have h57 : 57 < v := by omega
          have g57 : ¬ v ≤ 57 := by omega
          have g48 : 48 ≤ v := by omega
          clear hc'
          go_wp2
          go_ret
          exact ⟨ret_bool hMf.out.symm, rfl⟩
      · have h122 : 122 < v := by omega
        have h57 : 57 < v := by omega
        have g122 : ¬ v ≤ 122 := by omega
        have g57 : ¬ v ≤ 57 := by omega
        have g97 : 97 ≤ v := by omega
        have g48 : 48 ≤ v := by omega
        clear hc'
        go_wp2
        go_ret
        exact ⟨ret_bool hMf.out.symm, rfl⟩
    · have hS' := chars_step hlt HS.out (by rw [← HV.out]; exact hc)
      have hc' := of_decide_eq_true hc
      clear hc
      by_cases h97 : v < 97
      · have h48 : 48 ≤ v := by omega
        have h57 : v ≤ 57 := by omega
        have g97 : ¬ 97 ≤ v := by omega
        clear hc'
        go_wp2
        go_round
        case rel => exact ⟨k + 1, by omega, by go_num, hS'⟩
        case measure => simp [intOf]; omega
      · have h122 : v ≤ 122 := by omega
        have g97 : 97 ≤ v := by omega
        clear hc'
        go_wp2
        go_round
        case rel => exact ⟨k + 1, by omega, by go_num, hS'⟩
        case measure => simp [intOf]; omega
  · obtain rfl : k = s.size := by omega
    have hf := chars_end HS.out
    have hMf : Hid (M = (decide (1 ≤ s.size) && decide (s.size ≤ 16))) := by show _ = _; rw [← HM.out]; unfold nameB; rw [hf]; rfl
    clear hf HM HS
    by_cases h1 : 1 ≤ s.size
    · go_wp2
      go_ret
      exact ⟨ret_bool (by rw [hMf.out, decide_eq_true h1, Bool.true_and]; exact decide_eq_decide.2 (by omega)), rfl⟩
    · go_wp2
      go_ret
      exact ⟨ret_bool (by rw [hMf.out, decide_eq_false h1]; rfl), rfl⟩
theorem Rds.blk {rb bb : Nat} {w w' : World} {s : ByteArray} {bd : Bool} (h : Rds rb bb w w' s bd) {x : Nat} {cs : Array Value} {t : TypeId} (hx : Blk w x cs t) (h1 : x ≠ rb) (h2 : x ≠ bb) : Blk w' x cs t := (h.block x hx.lt h1 h2).trans hx
theorem refread_any (s : ByteArray) (w : World) :
  Calls Tryz.prog 58 #[.string s] w fun r w' => r = .returned (realV s.data.toList) ∧ Below w.heap.size w w' := by
 have hlen : s.data.toList.length = s.size := by simp
 have HLEN := hd_ hlen
 clear hlen
 generalize hR : realV s.data.toList = R
 have HR := hd_ hR
 clear hR
 have HU := hd_ (refunhex_any s)
 cases hu : unxR s.data.toList with
 | none =>
  have hn : realR s.data.toList = none := by
   unfold realR
   split
   · next h16 =>
     have : unxA 0 s.data.toList = none := by
      unfold unxR at hu
      rw [if_pos (by omega)] at hu
      exact hu
     rw [this]
   · rfl
  have HN := hd_ hn
  have e : unxV s.data.toList = .tuple #[.int .u64 0, .int .i64 2] := by unfold unxV; rw [hu]
  rw [e] at HU
  clear hu hn e
  go_enter Tryz.func58, Tryz.ntmps58
  go_wp2_with fail
  refine (HU.out w).mono ?_
  rintro r w1 ⟨rfl, hb⟩
  go_wp2_with fail
  go_ret2
  exact ⟨by rw [← HR.out]; unfold realV; rw [HN.out]; rfl, hb⟩
 | some u =>
  have hlt := unxR_lt hu
  have e : unxV s.data.toList = .tuple #[.int .u64 u, .int .i64 0] := by unfold unxV; rw [hu]
  rw [e] at HU
  have hA : Hid (unxA 0 s.data.toList = some u) := by
   show _ = _
   unfold unxR at hu
   split at hu
   · exact hu
   · cases hu
  have HC := hd_ (canonR_any u (by omega) (by omega))
  clear e hu
  by_cases h16 : s.size = 16
  · have h16' : (s.size : Int) = 16 := by omega
    by_cases hc : canonZ u = u
    · have HCC := hd_ hc
      rw [hc] at HC
      clear hc
      go_enter Tryz.func58, Tryz.ntmps58
      go_wp2_with fail
      refine (HU.out w).mono ?_
      rintro r w1 ⟨rfl, hb⟩
      go_wp2_with fail
      refine (HC.out w1).mono ?_
      rintro r w2 ⟨rfl, rfl⟩
      go_wp2_with fail
      go_ret2
      exact ⟨by rw [← HR.out]; unfold realV realR; rw [HLEN.out, if_pos h16, hA.out]; simp only [HCC.out, if_true]; rfl, hb⟩
    · have HCC := hd_ hc
      generalize hz : canonZ u = z at *
      have HZ := hd_ hz
      clear hz
      go_enter Tryz.func58, Tryz.ntmps58
      go_wp2_with fail
      refine (HU.out w).mono ?_
      rintro r w1 ⟨rfl, hb⟩
      go_wp2_with fail
      refine (HC.out w1).mono ?_
      rintro r w2 ⟨rfl, rfl⟩
      go_wp2_with fail
      go_ret2
      exact ⟨by rw [← HR.out]; unfold realV realR; rw [HLEN.out, if_pos h16, hA.out]; simp only [HZ.out, if_neg HCC.out]; rfl, hb⟩
  · have h16' : ¬ (s.size : Int) = 16 := by omega
    go_enter Tryz.func58, Tryz.ntmps58
    go_wp2_with fail
    refine (HU.out w).mono ?_
    rintro r w1 ⟨rfl, hb⟩
    go_wp2_with fail
    go_ret2
    exact ⟨by rw [← HR.out]; unfold realV realR; rw [HLEN.out, if_neg h16]; rfl, hb⟩
def unhexV (l : List UInt8) : Value := match unhexL l with
 | some t => .tuple #[.string (bsO t), .bool true]
 | none => .tuple #[.string (bsO []), .bool false]
theorem refunhexT_any (s : ByteArray) (hs : s.size ≤ 35184372088832) (w : World) :
  Calls Tryz.prog 59 #[.string s] w fun r w' => r = .returned (unhexV s.data.toList) ∧ Below w.heap.size w w' := by
 obtain ⟨i0, hi0, hz0, hz1, hz2⟩ := info_parts info_u8
 have hlen : s.data.toList.length = s.size := by simp
 have HLEN := hd_ hlen
 clear hlen
 generalize hR : unhexV s.data.toList = R
 have HR := hd_ hR
 clear hR
 by_cases hodd : s.size % 2 = 0
 · have hoddI : (s.size : Int) % 2 = 0 := by omega
   have HODD := hd_ hodd
   go_enter Tryz.func59, Tryz.ntmps59
   go_wp2_with fail
   clear hoddI hodd
   go_loopw [4, 5] (fun b i wr => ∃ (k : Nat) (done : List UInt8), 2 * k ≤ s.size ∧ i = .int .i64 (2 * (k : Int)) ∧ Hid (unhexL s.data.toList = (unhexL (s.data.toList.drop (2 * k))).map (done ++ ·)) ∧ wr.ownsRow w.heap.size 5 1 b k (done.map byteCell) ∧ Below w.heap.size w wr) (fun _ i _ => s.size - (intOf i).toNat)
   case atStart => exact ⟨0, [], by omega, rfl, (by simp : _ = _), ⟨by simp, .inl ⟨rfl, rfl⟩⟩, Below.refl _ _⟩
   case round =>
    obtain ⟨k, done, hk, rfl, HU, hown, hbw⟩ := hrel
    by_cases hlt : 2 * k < s.size
    · have hodd := HODD.out
      obtain ⟨a, b, hd, he⟩ := pairA (s := s) (j := 2 * k) (by omega)
      have HUX := hd_ (refunhex_any (s.extract (2 * k) (2 * k + 2)) wr)
      rw [he] at HUX
      have hst := unhexL_step hd
      have hltI : 2 * (k : Int) < s.size := by omega
      have h2I : 2 * (k : Int) + 2 ≤ s.size := by omega
      have hwr : IntKind.i64.wrap (2 * (k : Int) + 2) = 2 * (k : Int) + 2 := IntWalk.i64_in _ (by omega)
      have hn1 : (2 * (k : Int)).toNat = 2 * k := by omega
      have hn2 : (2 * (k : Int) + 2).toNat = 2 * k + 2 := by omega
      clear hodd
      unfold unxV at HUX
      cases hu : unxR [a, b] with
      | none =>
       rw [hu] at hst HUX
       have HM : Hid (unhexL s.data.toList = none) := by show _ = _; rw [HU.out, hst]; rfl
       clear hst hu hd he
       go_wp2_with fail
       refine HUX.out.mono ?_
       rintro r w1 ⟨rfl, hb⟩
       have hbw1 := bt hbw hb
       clear hb
       go_wp2_with fail
       go_ret2
       exact ⟨by rw [← HR.out]; unfold unhexV; rw [HM.out]; rfl, hbw1⟩
      | some v =>
       rw [hu] at hst HUX
       have hlt2 := unxR_lt hu
       have hst' : unhexL s.data.toList = (unhexL (s.data.toList.drop (2 * (k + 1)))).map ((done ++ [UInt8.ofNat v]) ++ ·) := by
        rw [HU.out, hst, show 2 * (k + 1) = 2 * k + 2 by omega]
        simp only [Option.map_map]
        congr 1
        funext x
        simp
       have HM := hd_ hst'
       have HB : Hid (byteCell (UInt8.ofNat v) = .int .u8 ((v : Int) % 256)) := by
        show _ = _
        unfold byteCell
        rw [u8_nat]
       clear hst hst' hu hd he
       go_wp2_with fail
       refine HUX.out.mono ?_
       rintro r w1 ⟨rfl, hb⟩
       have hbw1 := bt hbw hb
       have hown1 := own_ext hown hb
       clear hown hbw
       go_wp2_with (at_builtin; refine wpList_append_own _ rfl _ _ 114 rfl w.heap.size 5 i0 (.int .u8 0) 1 1 Tryz.underlying114 hi0 hz0 hz1 hz2 rfl (by decide) _ k (done.map byteCell) rfl (hown1.alloc _) ⟨w1.heap.size, 0, none⟩ 1 1 [.int .u8 ((v : Int) % 256)] rfl rfl ?c1 ?c2 ?c3 ?c4 ?c5 ?_)
       case c1 => exact cell_one_new _ _ _
       case c2 => simp [Value.oneCell']
       case c3 => simp only [maxLen]; omega
       case c4 => omega
       case c5 => have := hbw1.size; simp; omega
       intro v' w2 hown2 hg1 _
       have hown3 : w2.ownsRow w.heap.size 5 1 v' (k + 1) ((done ++ [UInt8.ofNat v]).map byteCell) := by
        rw [List.map_append, List.map_singleton, HB.out]; exact hown2
       have hbw2 : Below w.heap.size w w2 := (hbw1.alloc hbw1.size _).grown hg1 (by have := hbw1.size; simp; omega) (own_ge hown1)
       clear hown1 hg1 hbw1 hown2 hb
       go_wp2_with fail
       go_roundw
       case rel => exact ⟨k + 1, done ++ [UInt8.ofNat v], by omega, by go_num, HM, hown3, hbw2⟩
       case measure => simp [intOf]; omega
    · have hkn : 2 * k = s.size := by omega
      have hcv := conv_own done hown
      have hD : unhexL s.data.toList = some done := by
       rw [HU.out, List.drop_eq_nil_of_le (by rw [HLEN.out]; omega)]
       simp [unhexL]
      have HD := hd_ hD
      have hltI : ¬ 2 * (k : Int) < s.size := by omega
      clear hD
      go_wp2_with fail
      go_ret2
      exact ⟨by rw [← HR.out]; unfold unhexV; rw [HD.out]; rfl, hbw⟩
 · have hoddI : ¬ (s.size : Int) % 2 = 0 := by omega
   have hn : unhexL s.data.toList = none := by
    cases h : unhexL s.data.toList with
    | none => rfl
    | some t => have := unhexL_len h; rw [HLEN.out] at this; omega
   have HN := hd_ hn
   clear hn
   go_enter Tryz.func59, Tryz.ntmps59
   go_wp2_with fail
   go_ret2
   exact ⟨by rw [← HR.out]; unfold unhexV; rw [HN.out]; rfl, Below.refl _ _⟩
def valD (a : Nat) (l : List UInt8) : Nat := l.foldl (fun a c => a * 10 + (c.toNat - 48)) a
theorem valD_nil (a : Nat) : valD a [] = a := rfl
theorem valD_cons (a : Nat) (c : UInt8) (l : List UInt8) : valD a (c :: l) = valD (a * 10 + (c.toNat - 48)) l := by unfold valD; rw [List.foldl_cons]
theorem valD_app (l m : List UInt8) (a : Nat) : valD a (l ++ m) = valD (valD a l) m := List.foldl_append
theorem valD_dec (u : Nat) : valD 0 (Lib.decDigits u) = u := by
 induction u using Nat.strongRecOn with
 | _ u ih =>
  by_cases h : u < 10
  · have hc : (UInt8.ofNat (48 + u)).toNat = 48 + u := by rw [UInt8.toNat_ofNat']; omega
    rw [dec_small h, valD_cons, valD_nil, hc]
    omega
  · have hc : (UInt8.ofNat (48 + u % 10)).toNat = 48 + u % 10 := by rw [UInt8.toNat_ofNat']; omega
    rw [dec_snoc h, valD_app, ih (u / 10) (by omega), valD_cons, valD_nil, hc]
    omega
theorem valD_le : ∀ (l : List UInt8) (a : Nat), a ≤ valD a l
 | [], a => Nat.le_refl a
 | c :: l, a => by
  have := valD_le l (a * 10 + (c.toNat - 48))
  rw [valD_cons]
  omega
theorem valD_ten (c : UInt8) (l : List UInt8) (a : Nat) : a * 10 ≤ valD a (c :: l) := by
 have := valD_le l (a * 10 + (c.toNat - 48))
 rw [valD_cons]
 omega
def numOut (l : List UInt8) (r : Ending) : Prop := ∃ x, i64B x ∧ ((longZ l = some x ∧ r = .returned (.tuple #[.int .i64 x, .bool true])) ∨ (longZ l = none ∧ r = .returned (.tuple #[.int .i64 x, .bool false])))
theorem longZ_digits {l : List UInt8} {v : Int} (h : longZ l = some v) :
  (v < 0 ∧ ∃ d, l = 45 :: d ∧ (∀ c ∈ d, 48 ≤ c.toNat ∧ c.toNat ≤ 57) ∧ (valD 0 d : Int) = -v) ∨ (0 ≤ v ∧ (∀ c ∈ l, 48 ≤ c.toNat ∧ c.toNat ≤ 57) ∧ (valD 0 l : Int) = v) := by
 obtain ⟨⟨h0, h1⟩, rfl⟩ := longZ_some.1 h
 unfold Lib.itoa
 by_cases hn : v < 0
 · rw [if_pos hn]
   exact Or.inl ⟨hn, _, rfl, dec_digit _, by rw [valD_dec]; omega⟩
 · rw [if_neg hn]
   exact Or.inr ⟨by omega, dec_digit _, by rw [valD_dec]; omega⟩
theorem numOut_no {l : List UInt8} {x : Int} (hx : i64B x) (h : longZ l = none) : numOut l (.returned (.tuple #[.int .i64 x, .bool false])) := ⟨x, hx, Or.inr ⟨h, rfl⟩⟩
/-- The rounds of the reference's reader, from byte f on; d: the bytes that must be digits. -/
theorem refnumber_any (s : ByteArray) (w : World) :
  Calls Tryz.prog 55 #[.string s] w fun r w' => numOut s.data.toList r ∧ Below w.heap.size w w' := by
 have hlen := len_data s
 have HLEN := hd_ hlen
 have hz0 : i64B 0 := ⟨by decide, by decide⟩
 by_cases he : s.size = 0
 · have hn : longZ s.data.toList = none := by
    cases h : longZ s.data.toList with
    | none => rfl
    | some v => exact absurd (List.eq_nil_of_length_eq_zero (by omega)) (longZ_len h).1
   have he' : ¬ (0 : Int) < s.size := by omega
   have he2 : (s.size : Int) = 0 := by omega
   have HN := hd_ hn
   have HZ0 := hd_ hz0
   clear hn hlen he hz0
   go_enter Tryz.func55, Tryz.ntmps55
   go_wp2_with fail
   go_ret2
   exact ⟨numOut_no HZ0.out HN.out, Below.refl _ _⟩
 · obtain ⟨c0, hidx, -, hsp, -⟩ := byteA (s := s) (j := 0) (Nat.pos_of_ne_zero he)
   rw [List.take_zero, List.nil_append] at hsp
   have HSP := hd_ hsp
   obtain ⟨m, hm⟩ : ∃ m : Int, (c0.toNat : Int) = m := ⟨_, rfl⟩
   have hpos : (0 : Int) < s.size := by omega
   have hne0 : ¬ (s.size : Int) = 0 := by omega
   by_cases h45 : m = 45
   · have hl : s.data.toList = 45 :: s.data.toList.drop 1 := by
      have : c0 = 45 := UInt8.toNat_inj.1 (by show c0.toNat = 45; omega)
      rw [this] at hsp
      exact hsp
     have hdig : ∀ v, longZ s.data.toList = some v → (∀ c ∈ s.data.toList.drop 1, 48 ≤ c.toNat ∧ c.toNat ≤ 57) ∧ (valD 0 (s.data.toList.drop 1) : Int) = -v := by
      intro v h
      rcases longZ_digits h with ⟨_, d, e, h1, h2⟩ | ⟨_, h1, _⟩
      · rw [e]; exact ⟨h1, h2⟩
      · have := h1 45 (by rw [hl]; simp)
        exact absurd this (by decide)
     have hfl : ∀ v, longZ s.data.toList = some v → s.size ≠ 1 ∧ s.size ≤ 20 := by
      intro v h
      obtain ⟨_, h1, h2⟩ := longZ_len h
      refine ⟨fun e => h2 ?_, by omega⟩
      rw [hl, List.drop_eq_nil_of_le (by omega)]
     have HDIG := hd_ hdig
     have HFL := hd_ hfl
     clear hl hdig hfl hsp HSP hlen
     by_cases hs1 : s.size = 1
     · have hs1' : (s.size : Int) = 1 := by omega
       have hn : longZ s.data.toList = none := by
        cases h : longZ s.data.toList with
        | none => rfl
        | some v => exact absurd hs1 (HFL.out v h).1
       have HN := hd_ hn
       have HZ0 := hd_ hz0
       clear hn hz0 hs1
       go_enter Tryz.func55, Tryz.ntmps55
       go_wp2_with fail
       go_ret2
       exact ⟨numOut_no HZ0.out HN.out, Below.refl _ _⟩
     · have hs1' : ¬ (s.size : Int) = 1 := by omega
       by_cases h20 : 20 < s.size
       · have h20' : (20 : Int) < s.size := by omega
         have hn : longZ s.data.toList = none := by
          cases h : longZ s.data.toList with
          | none => rfl
          | some v => have := (HFL.out v h).2; omega
         have HN := hd_ hn
         have HZ0 := hd_ hz0
         clear hn hz0 hs1
         go_enter Tryz.func55, Tryz.ntmps55
         go_wp2_with fail
         go_ret2
         exact ⟨numOut_no HZ0.out HN.out, Below.refl _ _⟩
       · have h20' : ¬ (20 : Int) < s.size := by omega
         have HZ0 := hd_ hz0
         have HS1 := hd_ hs1
         clear hz0 hs1
         go_enter Tryz.func55, Tryz.ntmps55
         go_wp2_with fail
         clear hidx hm
         go_loopw [4, 6] (fun n i wr => ∃ (j a : Nat), 1 ≤ j ∧ j ≤ s.size ∧ i = .int .i64 j ∧ n = .int .u64 a ∧ a ≤ 18446744073709551609 ∧ Hid (a = valD 0 ((s.data.toList.take j).drop 1)) ∧ Below w.heap.size w wr) (fun _ i _ => s.size - (intOf i).toNat)
         case atStart => exact ⟨1, 0, by omega, by omega, rfl, rfl, by omega, (by rw [List.drop_eq_nil_of_le (by simp <;> omega)]; rfl : _ = _), Below.refl _ _⟩
         case round =>
          obtain ⟨j, a, hf, hj, rfl, rfl, ha, HA, hbw⟩ := hrel
          by_cases hlt : j < s.size
          · obtain ⟨c, hidx, htk, hsp, -⟩ := byteA hlt
            have hltI : (j : Int) < s.size := by omega
            have hj0 : (0 : Int) ≤ j := by omega
            have hdr : s.data.toList.drop 1 = (s.data.toList.take j).drop 1 ++ c :: s.data.toList.drop (j + 1) := by
             conv => lhs; rw [hsp]
             exact List.drop_append_of_le_length (by simp <;> omega)
            have hnx : valD 0 ((s.data.toList.take (j + 1)).drop 1) = a * 10 + (c.toNat - 48) := by
             rw [htk, List.drop_append_of_le_length (by simp <;> omega), valD_app, ← HA.out]
             rfl
            have hbad : ¬ (48 ≤ c.toNat ∧ c.toNat ≤ 57) ∨ 1844674407370955160 < a → longZ s.data.toList = none := by
             intro hb
             cases h : longZ s.data.toList with
             | none => rfl
             | some v =>
              obtain ⟨k1, k2⟩ := HDIG.out v h
              rcases hb with hb | hb
              · exact absurd (k1 c (by rw [hdr]; simp)) hb
              · have k3 := (longZ_some.1 h).1
                rw [hdr, valD_app, ← HA.out] at k2
                have k4 := valD_ten c (s.data.toList.drop (j + 1)) a
                omega
            have HBAD := hd_ hbad
            have HNX := hd_ hnx
            have hc8 := c.toNat_lt
            obtain ⟨x, hx⟩ : ∃ x : Int, (c.toNat : Int) = x := ⟨_, rfl⟩
            have HXX := hd_ hx
            have hx0 : 0 ≤ x ∧ x ≤ 255 := by omega
            clear htk hsp hdr hnx hbad hc8
            by_cases x1 : x < 48
            · go_wp2_with fail
              go_ret2
              exact ⟨numOut_no HZ0.out (HBAD.out (Or.inl (by have := HXX.out; omega))), hbw⟩
            · by_cases x2 : 57 < x
              · go_wp2_with fail
                go_ret2
                exact ⟨numOut_no HZ0.out (HBAD.out (Or.inl (by have := HXX.out; omega))), hbw⟩
              · by_cases x3 : 1844674407370955160 < a
                · have x3' : (1844674407370955160 : Int) < a := by omega
                  go_wp2_with fail
                  go_ret2
                  exact ⟨numOut_no HZ0.out (HBAD.out (Or.inr x3)), hbw⟩
                · have x3' : ¬ (1844674407370955160 : Int) < a := by omega
                  have hw1 : IntKind.u64.wrap (10 * (a : Int)) = 10 * a := IntWalk.u64_in _ (by omega)
                  have hw2 : IntKind.u64.wrap (10 * (a : Int) + (x - 48)) = 10 * a + (x - 48) := IntWalk.u64_in _ (by omega)
                  have hw3 : IntKind.u8.wrap (x - 48) = x - 48 := IntWalk.u8_in _ (by omega)
                  have hw4 : IntKind.u64.wrap (x - 48) = x - 48 := IntWalk.u64_in _ (by omega)
                  go_wp2_with fail
                  go_roundw
                  case rel => exact ⟨j + 1, a * 10 + (c.toNat - 48), by omega, by omega, by go_num, congrArg (Value.int .u64) (by have := HXX.out; omega), by have := HXX.out; omega, HNX.out.symm, hbw⟩
                  case measure => simp [intOf]; omega
          · have hjn : j = s.size := by omega
            subst hjn
            have hA := HA.out
            rw [List.take_of_length_le (by rw [HLEN.out]; exact Nat.le_refl _)] at hA
            have HA := hd_ hA
            clear hA
            obtain ⟨y, hy⟩ : ∃ y : Int, y = wrap64 (-(wrap64 (a : Int))) := ⟨_, rfl⟩
            have hyB : i64B y := by rw [hy]; unfold i64B wrap64; omega
            have hv : ∀ v, longZ s.data.toList = some v → v = y := by
             intro v h
             have k2 := (HDIG.out v h).2
             have k3 := (longZ_some.1 h).1
             rw [← HA.out] at k2
             rw [hy]
             unfold wrap64
             omega
            have HV := hd_ hv
            have HYB := hd_ hyB
            have HNB := hd_ (refNumber_any y hyB wr)
            clear hv hyB
            go_upto_region 16 with fail
            rw [← hy]
            clear hy
            by_cases hq : Lib.itoa y = s.data.toList
            · have hq' : bsO (Lib.itoa y) = s := by rw [hq, bsO_of]
              have hz : longZ s.data.toList = some y := longZ_some.2 ⟨HYB.out, hq⟩
              have HZ := hd_ hz
              rw [hq'] at HNB
              clear hq hq' hz
              go_wp2_with fail
              refine HNB.out.mono ?_
              rintro r w1 ⟨rfl, hb⟩
              have hb2 := bt hbw hb
              clear hb
              go_wp2_with fail
              go_ret2
              exact ⟨⟨y, HYB.out, Or.inl ⟨HZ.out, rfl⟩⟩, hb2⟩
            · have hz : longZ s.data.toList = none := by
               cases h : longZ s.data.toList with
               | none => rfl
               | some v =>
                obtain rfl := HV.out v h
                exact absurd (longZ_some.1 h).2 hq
              have HZ := hd_ hz
              have HQ := hd_ hq
              have hne := strne (fun e : bsO (Lib.itoa y) = s => HQ.out (by rw [← e]; rfl))
              generalize bsO (Lib.itoa y) = t at *
              clear hz hq
              go_wp2_with fail
              refine HNB.out.mono ?_
              rintro r w1 ⟨rfl, hb⟩
              have hb2 := bt hbw hb
              clear hb
              go_wp2_with fail
              go_ret2
              exact ⟨⟨y, HYB.out, Or.inr ⟨HZ.out, rfl⟩⟩, hb2⟩
   · have hl : c0.toNat ≠ 45 := by omega
     have hdig : ∀ v, longZ s.data.toList = some v → (∀ c ∈ s.data.toList.drop 0, 48 ≤ c.toNat ∧ c.toNat ≤ 57) ∧ (valD 0 (s.data.toList.drop 0) : Int) = v := by
      intro v h
      rw [List.drop_zero]
      rcases longZ_digits h with ⟨_, d, e, h1, h2⟩ | ⟨_, h1, h2⟩
      · rw [hsp] at e
        injection e with e
        exact absurd (by rw [e]; rfl) hl
      · exact ⟨h1, h2⟩
     have hfl : ∀ v, longZ s.data.toList = some v → s.size ≠ 0 ∧ s.size ≤ 20 := fun v h => ⟨he, by have := (longZ_len h).2.1; omega⟩
     have HDIG := hd_ hdig
     have HFL := hd_ hfl
     clear hl hdig hfl hsp HSP hlen
     by_cases hs1 : s.size = 0
     · exact absurd hs1 he
     · have hs1' : ¬ (s.size : Int) = 0 := by omega
       by_cases h20 : 20 < s.size
       · have h20' : (20 : Int) < s.size := by omega
         have hn : longZ s.data.toList = none := by
          cases h : longZ s.data.toList with
          | none => rfl
          | some v => have := (HFL.out v h).2; omega
         have HN := hd_ hn
         have HZ0 := hd_ hz0
         clear hn hz0 hs1
         go_enter Tryz.func55, Tryz.ntmps55
         go_wp2_with fail
         go_ret2
         exact ⟨numOut_no HZ0.out HN.out, Below.refl _ _⟩
       · have h20' : ¬ (20 : Int) < s.size := by omega
         have HZ0 := hd_ hz0
         have HS1 := hd_ hs1
         clear hz0 hs1
         go_enter Tryz.func55, Tryz.ntmps55
         go_wp2_with fail
         clear hidx hm
         go_loopw [4, 6] (fun n i wr => ∃ (j a : Nat), 0 ≤ j ∧ j ≤ s.size ∧ i = .int .i64 j ∧ n = .int .u64 a ∧ a ≤ 18446744073709551609 ∧ Hid (a = valD 0 ((s.data.toList.take j).drop 0)) ∧ Below w.heap.size w wr) (fun _ i _ => s.size - (intOf i).toNat)
         case atStart => exact ⟨0, 0, by omega, by omega, rfl, rfl, by omega, (by rw [List.drop_eq_nil_of_le (by simp <;> omega)]; rfl : _ = _), Below.refl _ _⟩
         case round =>
          obtain ⟨j, a, hf, hj, rfl, rfl, ha, HA, hbw⟩ := hrel
          by_cases hlt : j < s.size
          · obtain ⟨c, hidx, htk, hsp, -⟩ := byteA hlt
            have hltI : (j : Int) < s.size := by omega
            have hj0 : (0 : Int) ≤ j := by omega
            have hdr : s.data.toList.drop 0 = (s.data.toList.take j).drop 0 ++ c :: s.data.toList.drop (j + 1) := by
             conv => lhs; rw [hsp]
             exact List.drop_append_of_le_length (by simp <;> omega)
            have hnx : valD 0 ((s.data.toList.take (j + 1)).drop 0) = a * 10 + (c.toNat - 48) := by
             rw [htk, List.drop_append_of_le_length (by simp <;> omega), valD_app, ← HA.out]
             rfl
            have hbad : ¬ (48 ≤ c.toNat ∧ c.toNat ≤ 57) ∨ 1844674407370955160 < a → longZ s.data.toList = none := by
             intro hb
             cases h : longZ s.data.toList with
             | none => rfl
             | some v =>
              obtain ⟨k1, k2⟩ := HDIG.out v h
              rcases hb with hb | hb
              · exact absurd (k1 c (by rw [hdr]; simp)) hb
              · have k3 := (longZ_some.1 h).1
                rw [hdr, valD_app, ← HA.out] at k2
                have k4 := valD_ten c (s.data.toList.drop (j + 1)) a
                omega
            have HBAD := hd_ hbad
            have HNX := hd_ hnx
            have hc8 := c.toNat_lt
            obtain ⟨x, hx⟩ : ∃ x : Int, (c.toNat : Int) = x := ⟨_, rfl⟩
            have HXX := hd_ hx
            have hx0 : 0 ≤ x ∧ x ≤ 255 := by omega
            clear htk hsp hdr hnx hbad hc8
            by_cases x1 : x < 48
            · go_wp2_with fail
              go_ret2
              exact ⟨numOut_no HZ0.out (HBAD.out (Or.inl (by have := HXX.out; omega))), hbw⟩
            · by_cases x2 : 57 < x
              · go_wp2_with fail
                go_ret2
                exact ⟨numOut_no HZ0.out (HBAD.out (Or.inl (by have := HXX.out; omega))), hbw⟩
              · by_cases x3 : 1844674407370955160 < a
                · have x3' : (1844674407370955160 : Int) < a := by omega
                  go_wp2_with fail
                  go_ret2
                  exact ⟨numOut_no HZ0.out (HBAD.out (Or.inr x3)), hbw⟩
                · have x3' : ¬ (1844674407370955160 : Int) < a := by omega
                  have hw1 : IntKind.u64.wrap (10 * (a : Int)) = 10 * a := IntWalk.u64_in _ (by omega)
                  have hw2 : IntKind.u64.wrap (10 * (a : Int) + (x - 48)) = 10 * a + (x - 48) := IntWalk.u64_in _ (by omega)
                  have hw3 : IntKind.u8.wrap (x - 48) = x - 48 := IntWalk.u8_in _ (by omega)
                  have hw4 : IntKind.u64.wrap (x - 48) = x - 48 := IntWalk.u64_in _ (by omega)
                  go_wp2_with fail
                  go_roundw
                  case rel => exact ⟨j + 1, a * 10 + (c.toNat - 48), by omega, by omega, by go_num, congrArg (Value.int .u64) (by have := HXX.out; omega), by have := HXX.out; omega, HNX.out.symm, hbw⟩
                  case measure => simp [intOf]; omega
          · have hjn : j = s.size := by omega
            subst hjn
            have hA := HA.out
            rw [List.take_of_length_le (by rw [HLEN.out]; exact Nat.le_refl _)] at hA
            have HA := hd_ hA
            clear hA
            obtain ⟨y, hy⟩ : ∃ y : Int, y = wrap64 (a : Int) := ⟨_, rfl⟩
            have hyB : i64B y := by rw [hy]; unfold i64B wrap64; omega
            have hv : ∀ v, longZ s.data.toList = some v → v = y := by
             intro v h
             have k2 := (HDIG.out v h).2
             have k3 := (longZ_some.1 h).1
             rw [← HA.out] at k2
             rw [hy]
             unfold wrap64
             omega
            have HV := hd_ hv
            have HYB := hd_ hyB
            have HNB := hd_ (refNumber_any y hyB wr)
            clear hv hyB
            go_upto_region 16 with fail
            rw [← hy]
            clear hy
            by_cases hq : Lib.itoa y = s.data.toList
            · have hq' : bsO (Lib.itoa y) = s := by rw [hq, bsO_of]
              have hz : longZ s.data.toList = some y := longZ_some.2 ⟨HYB.out, hq⟩
              have HZ := hd_ hz
              rw [hq'] at HNB
              clear hq hq' hz
              go_wp2_with fail
              refine HNB.out.mono ?_
              rintro r w1 ⟨rfl, hb⟩
              have hb2 := bt hbw hb
              clear hb
              go_wp2_with fail
              go_ret2
              exact ⟨⟨y, HYB.out, Or.inl ⟨HZ.out, rfl⟩⟩, hb2⟩
            · have hz : longZ s.data.toList = none := by
               cases h : longZ s.data.toList with
               | none => rfl
               | some v =>
                obtain rfl := HV.out v h
                exact absurd (longZ_some.1 h).2 hq
              have HZ := hd_ hz
              have HQ := hd_ hq
              have hne := strne (fun e : bsO (Lib.itoa y) = s => HQ.out (by rw [← e]; rfl))
              generalize bsO (Lib.itoa y) = t at *
              clear hz hq
              go_wp2_with fail
              refine HNB.out.mono ?_
              rintro r w1 ⟨rfl, hb⟩
              have hb2 := bt hbw hb
              clear hb
              go_wp2_with fail
              go_ret2
              exact ⟨⟨y, HYB.out, Or.inr ⟨HZ.out, rfl⟩⟩, hb2⟩
def readP (o : Option V) : Value := match o with
 | some v => .tuple #[v.agg, .int .i64 0]
 | none => .tuple #[.agg #[.int .u8 0, .int .i64 0, .int .u64 0, .string ⟨#[]⟩], .int .i64 310]
theorem zero_set {W : World} {n : Nat} (h : Blk W n #[.int .u8 0, .int .i64 0, .int .u64 0, .string ⟨#[]⟩] 48) :
  n < W.heap.size ∧ W.cell? ⟨n, 0, none⟩ = some (.int .u8 0) ∧ W.cell? ⟨n, 1, none⟩ = some (.int .i64 0) ∧ W.cell? ⟨n, 2, none⟩ = some (.int .u64 0) ∧ W.cell? ⟨n, 3, none⟩ = some (.string ⟨#[]⟩) ∧ (∀ i, W.frozen? ⟨n, i, none⟩ = false) ∧
   W.setCell ⟨n, 0, none⟩ (.int .u8 0) = W ∧ W.setCell ⟨n, 1, none⟩ (.int .i64 0) = W ∧ W.setCell ⟨n, 2, none⟩ (.int .u64 0) = W ∧ W.setCell ⟨n, 3, none⟩ (.string ⟨#[]⟩) = W := by
 have hS : ∀ i v, (#[.int .u8 0, .int .i64 0, .int .u64 0, .string ⟨#[]⟩] : Array Value).setIfInBounds i v = #[.int .u8 0, .int .i64 0, .int .u64 0, .string ⟨#[]⟩] → W.setCell ⟨n, i, none⟩ v = W := by
  intro i v e
  obtain ⟨w3, rfl, lt⟩ := blk_put h
  rw [(putBlk_facts (w := w3) 48 lt).2.2, e]
 obtain ⟨_, y0, y1, y2, y3⟩ := mk4 h
 exact ⟨h.lt, y0, y1, y2, y3, h.frozen, hS 0 _ rfl, hS 1 _ rfl, hS 2 _ rfl, hS 3 _ rfl⟩
theorem refReadValue_any (s : ByteArray) (hs : s.size ≤ 35184372088832) (w : World) (hT : Tabs w) :
  Calls Tryz.prog 22 #[.string s] w fun r w' => r = .returned (readP (readV s.data.toList)) ∧ Below w.heap.size w w' := by
 generalize hR : readP (readV s.data.toList) = R
 have HR := hd_ hR
 have HCK := hd_ (fun (v : V) (hv : v.wf) (W : World) (hW : Below w.heap.size w W) => may_any v hv W (hT.ext hW))
 have W : ∀ W2 : World, W2 = (w.alloc (.cells #[.int .u8 0, .int .i64 0, .int .u64 0, .string ⟨#[]⟩] 48)).alloc (.cells #[.int .u8 0, .int .i64 0, .int .u64 0, .string ⟨#[]⟩] 48) → Blk W2 w.heap.size #[.int .u8 0, .int .i64 0, .int .u64 0, .string ⟨#[]⟩] 48 ∧ Blk W2 (w.heap.size + 1) #[.int .u8 0, .int .i64 0, .int .u64 0, .string ⟨#[]⟩] 48 ∧ Below w.heap.size w W2 := by
  rintro W2 rfl
  exact ⟨(Blk.new w _ _).old _, (by repeat (first | exact Blk.at (by simp) | assumption | refine Blk.drew ?_ | refine Blk.old ?_ _)), (by repeat (first | exact Below.refl _ _ | assumption | refine Below.drew ?_ | refine below_drewN ?_ _ | refine Below.alloc ?_ (by simp <;> omega) _))⟩
 clear hR hT
 go_enter Tryz.func22, Tryz.ntmps22
 go_upto_block 0 with fail
 obtain ⟨hz, hk, hb⟩ := W _ rfl
 clear W
 generalize (w.alloc (.cells #[.int .u8 0, .int .i64 0, .int .u64 0, .string ⟨#[]⟩] 48)).alloc (.cells #[.int .u8 0, .int .i64 0, .int .u64 0, .string ⟨#[]⟩] 48) = w1 at hz hk hb ⊢
 have HSA := hd_ hz
 have HSX := hd_ hk
 have HBX := hd_ hb
 clear hz hk hb
 go_cut [5] (fun v wx => ∃ (is : Bool) (u : V), v = .bool is ∧ Hid (is = true → readV0 s.data.toList = some u ∧ u.wf) ∧ Hid (is = false → readV s.data.toList = none) ∧ Hid (Blk wx (w.heap.size + 1) #[.int .u8 u.k, .int .i64 u.n, .int .u64 u.r, .string u.t] 48) ∧ Hid (Blk wx w.heap.size #[.int .u8 0, .int .i64 0, .int .u64 0, .string ⟨#[]⟩] 48) ∧ Hid (Below w.heap.size w wx))
 case first =>
  have hb : Below w1.heap.size w1 w1 := Below.refl _ _
  by_cases hnull : s = bsO tNull
  · have hne1 : (s.toList == [110, 117, 108, 108]) = true := by rw [hnull, ByteArray.toList_eq]; rfl
    have HX : Hid (readV0 s.data.toList = some ⟨0, 0, 0, bsO []⟩) := by show _ = _; rw [hnull]; rfl
    have HVW : Hid (V.wf ⟨0, 0, 0, bsO []⟩) := by refine ⟨?_, ?_, ?_, ?_, ?_, ?_, ?_⟩ <;> decide
    clear hnull
    have hS1 := HSX.out.ext hb
    have hZ1 := HSA.out.ext hb
    have hB1 := bt HBX.out hb
    obtain ⟨w3, rfl, lt⟩ := blk_put hS1
    obtain ⟨pc, pf, pS⟩ := putBlk_facts (w := w3) 48 lt
    have HSX : Hid (Blk (putBlk w3 (w.heap.size + 1) #[.int .u8 0, .int .i64 0, .int .u64 0, .string ⟨#[]⟩] 48) (w.heap.size + 1) #[.int .u8 0, .int .i64 0, .int .u64 0, .string ⟨#[]⟩] 48) := putBlk_blk _ _ lt
    have HSA : Hid (Blk (putBlk w3 (w.heap.size + 1) #[.int .u8 0, .int .i64 0, .int .u64 0, .string ⟨#[]⟩] 48) w.heap.size #[.int .u8 0, .int .i64 0, .int .u64 0, .string ⟨#[]⟩] 48) := putBlk_old hZ1 (by omega) _
    have HBX : Hid (Below w.heap.size w (putBlk w3 (w.heap.size + 1) #[.int .u8 0, .int .i64 0, .int .u64 0, .string ⟨#[]⟩] 48)) := putBlk_belows hB1 (by omega) _
    clear hS1 hZ1 hB1 hb
    go_wp2_with fail
    clear pc pf pS lt
    go_meet
    exact ⟨true, ⟨0, 0, 0, bsO []⟩, rfl, fun _ => ⟨HX.out, HVW.out⟩, (fun e => nomatch e), HSX, HSA, HBX⟩
  · have hne1 : (s.toList == [110, 117, 108, 108]) = false := by
     have h := (strne (show ¬ s = ⟨#[110, 117, 108, 108]⟩ from hnull)).1
     rwa [show (⟨#[110, 117, 108, 108]⟩ : ByteArray).toList = [110, 117, 108, 108] by rw [ByteArray.toList_eq]] at h
    by_cases htTrue : s = bsO tTrue
    · have hne2 : (s.toList == [116, 114, 117, 101]) = true := by rw [htTrue, ByteArray.toList_eq]; rfl
      have HX : Hid (readV0 s.data.toList = some ⟨1, 1, 0, bsO []⟩) := by show _ = _; rw [htTrue]; rfl
      have HVW : Hid (V.wf ⟨1, 1, 0, bsO []⟩) := by refine ⟨?_, ?_, ?_, ?_, ?_, ?_, ?_⟩ <;> decide
      clear hnull htTrue
      have hS1 := HSX.out.ext hb
      have hZ1 := HSA.out.ext hb
      have hB1 := bt HBX.out hb
      obtain ⟨w3, rfl, lt⟩ := blk_put hS1
      obtain ⟨pc, pf, pS⟩ := putBlk_facts (w := w3) 48 lt
      have HSX : Hid (Blk (putBlk w3 (w.heap.size + 1) #[.int .u8 1, .int .i64 1, .int .u64 0, .string ⟨#[]⟩] 48) (w.heap.size + 1) #[.int .u8 1, .int .i64 1, .int .u64 0, .string ⟨#[]⟩] 48) := putBlk_blk _ _ lt
      have HSA : Hid (Blk (putBlk w3 (w.heap.size + 1) #[.int .u8 1, .int .i64 1, .int .u64 0, .string ⟨#[]⟩] 48) w.heap.size #[.int .u8 0, .int .i64 0, .int .u64 0, .string ⟨#[]⟩] 48) := putBlk_old hZ1 (by omega) _
      have HBX : Hid (Below w.heap.size w (putBlk w3 (w.heap.size + 1) #[.int .u8 1, .int .i64 1, .int .u64 0, .string ⟨#[]⟩] 48)) := putBlk_belows hB1 (by omega) _
      clear hS1 hZ1 hB1 hb
      go_wp2_with fail
      clear pc pf pS lt
      go_meet
      exact ⟨true, ⟨1, 1, 0, bsO []⟩, rfl, fun _ => ⟨HX.out, HVW.out⟩, (fun e => nomatch e), HSX, HSA, HBX⟩
    · have hne2 : (s.toList == [116, 114, 117, 101]) = false := by
       have h := (strne (show ¬ s = ⟨#[116, 114, 117, 101]⟩ from htTrue)).1
       rwa [show (⟨#[116, 114, 117, 101]⟩ : ByteArray).toList = [116, 114, 117, 101] by rw [ByteArray.toList_eq]] at h
      by_cases htFalse : s = bsO tFalse
      · have hne3 : (s.toList == [102, 97, 108, 115, 101]) = true := by rw [htFalse, ByteArray.toList_eq]; rfl
        have HX : Hid (readV0 s.data.toList = some ⟨1, 0, 0, bsO []⟩) := by show _ = _; rw [htFalse]; rfl
        have HVW : Hid (V.wf ⟨1, 0, 0, bsO []⟩) := by refine ⟨?_, ?_, ?_, ?_, ?_, ?_, ?_⟩ <;> decide
        clear hnull htTrue htFalse
        have hS1 := HSX.out.ext hb
        have hZ1 := HSA.out.ext hb
        have hB1 := bt HBX.out hb
        obtain ⟨w3, rfl, lt⟩ := blk_put hS1
        obtain ⟨pc, pf, pS⟩ := putBlk_facts (w := w3) 48 lt
        have HSX : Hid (Blk (putBlk w3 (w.heap.size + 1) #[.int .u8 1, .int .i64 0, .int .u64 0, .string ⟨#[]⟩] 48) (w.heap.size + 1) #[.int .u8 1, .int .i64 0, .int .u64 0, .string ⟨#[]⟩] 48) := putBlk_blk _ _ lt
        have HSA : Hid (Blk (putBlk w3 (w.heap.size + 1) #[.int .u8 1, .int .i64 0, .int .u64 0, .string ⟨#[]⟩] 48) w.heap.size #[.int .u8 0, .int .i64 0, .int .u64 0, .string ⟨#[]⟩] 48) := putBlk_old hZ1 (by omega) _
        have HBX : Hid (Below w.heap.size w (putBlk w3 (w.heap.size + 1) #[.int .u8 1, .int .i64 0, .int .u64 0, .string ⟨#[]⟩] 48)) := putBlk_belows hB1 (by omega) _
        clear hS1 hZ1 hB1 hb
        go_wp2_with fail
        clear pc pf pS lt
        go_meet
        exact ⟨true, ⟨1, 0, 0, bsO []⟩, rfl, fun _ => ⟨HX.out, HVW.out⟩, (fun e => nomatch e), HSX, HSA, HBX⟩
      · have hne3 : (s.toList == [102, 97, 108, 115, 101]) = false := by
         have h := (strne (show ¬ s = ⟨#[102, 97, 108, 115, 101]⟩ from htFalse)).1
         rwa [show (⟨#[102, 97, 108, 115, 101]⟩ : ByteArray).toList = [102, 97, 108, 115, 101] by rw [ByteArray.toList_eq]] at h
        have hn1 : s.data.toList ≠ tNull := fun e => hnull (by rw [← e, bsO_of])
        have hn2 : s.data.toList ≠ tTrue := fun e => htTrue (by rw [← e, bsO_of])
        have hn3 : s.data.toList ≠ tFalse := fun e => htFalse (by rw [← e, bsO_of])
        have HN1 := hd_ hn1
        have HN2 := hd_ hn2
        have HN3 := hd_ hn3
        clear hn1 hn2 hn3 hnull htTrue htFalse hb
        have HNUM := hd_ (fun (W : World) => refnumber_any s W)
        have hem := txt_empty (t := s)
        by_cases hz : s.size = 0
        · rw [decide_eq_true hz] at hem
          have hl0 : s.data.toList = [] := List.eq_nil_of_length_eq_zero (by rw [len_data]; exact hz)
          have HNO : Hid (readV s.data.toList = none) := by
           show _ = _
           unfold readV readV0
           rw [if_neg HN1.out, if_neg HN2.out, if_neg HN3.out, hl0]
           rfl
          have HLO : Hid (longZ s.data.toList = none) := by
           show _ = _
           cases h : longZ s.data.toList with
           | none => rfl
           | some v => exact absurd hl0 (longZ_len h).1
          clear hl0
          go_wp2_with fail
          refine (HNUM.out _).mono ?_
          rintro q w1 ⟨⟨x, hx, ⟨hl, rfl⟩ | ⟨hl, rfl⟩⟩, hb⟩
          · rw [HLO.out] at hl; cases hl
          · clear hl
            have hS1 := HSX.out.ext hb
            have hZ1 := HSA.out.ext hb
            have hB1 := bt HBX.out hb
            obtain ⟨w3, rfl, lt⟩ := blk_put hS1
            obtain ⟨pc, pf, pS⟩ := putBlk_facts (w := w3) 48 lt
            have HSX : Hid (Blk (putBlk w3 (w.heap.size + 1) #[.int .u8 2, .int .i64 x, .int .u64 0, .string ⟨#[]⟩] 48) (w.heap.size + 1) #[.int .u8 2, .int .i64 x, .int .u64 0, .string ⟨#[]⟩] 48) := putBlk_blk _ _ lt
            have HSA : Hid (Blk (putBlk w3 (w.heap.size + 1) #[.int .u8 2, .int .i64 x, .int .u64 0, .string ⟨#[]⟩] 48) w.heap.size #[.int .u8 0, .int .i64 0, .int .u64 0, .string ⟨#[]⟩] 48) := putBlk_old hZ1 (by omega) _
            have HBX : Hid (Below w.heap.size w (putBlk w3 (w.heap.size + 1) #[.int .u8 2, .int .i64 x, .int .u64 0, .string ⟨#[]⟩] 48)) := putBlk_belows hB1 (by omega) _
            clear hS1 hZ1 hB1 hb
            go_wp2_with fail
            clear pc pf pS lt
            go_meet
            exact ⟨false, ⟨2, x, 0, bsO []⟩, rfl, (fun e => nomatch e), fun _ => HNO.out, HSX, HSA, HBX⟩
        · rw [decide_eq_false hz] at hem
          obtain ⟨c0, hidx, -, hsp, -⟩ := byteA (s := s) (j := 0) (Nat.pos_of_ne_zero hz)
          rw [List.take_zero, List.nil_append] at hsp
          obtain ⟨r, hr⟩ : ∃ r, r = s.data.toList.drop 1 := ⟨_, rfl⟩
          rw [show (0 : Nat) + 1 = 1 from rfl, ← hr] at hsp
          have HSP := hd_ hsp
          have hex : (s.extract 1 s.size).data.toList = r := by
           have := Lib.extract_toList s 1 s.size
           rw [Lib.toList_data] at this
           rw [this, ← hr]
           exact List.take_of_length_le (by rw [hr]; simp)
          obtain ⟨m, hm⟩ : ∃ m : Int, (c0.toNat : Int) = m := ⟨_, rfl⟩
          have hpos : (0 : Int) < s.size := by omega
          have h1I : (1 : Int) ≤ s.size := by omega
          clear hsp hr
          by_cases h114 : m = 114
          · have hcc : c0 = 114 := UInt8.toNat_inj.1 (by show c0.toNat = 114; omega)
            have HRR := hd_ (fun (W : World) => refread_any (s.extract 1 s.size) W)
            rw [hex] at HRR
            unfold realV at HRR
            cases hu : realR r with
            | none =>
             have HNO : Hid (readV s.data.toList = none) := by
              show _ = _
              unfold readV readV0
              rw [if_neg HN1.out, if_neg HN2.out, if_neg HN3.out, HSP.out]
              simp [hcc, hu]
             rw [hu] at HRR
             clear hu hcc
             go_wp2_with fail
             refine (HRR.out _).mono ?_
             rintro q w1 ⟨rfl, hb⟩
             have hS1 := HSX.out.ext hb
             have hZ1 := HSA.out.ext hb
             have hB1 := bt HBX.out hb
             obtain ⟨w3, rfl, lt⟩ := blk_put hS1
             obtain ⟨pc, pf, pS⟩ := putBlk_facts (w := w3) 48 lt
             have HSX : Hid (Blk (putBlk w3 (w.heap.size + 1) #[.int .u8 3, .int .i64 0, .int .u64 0, .string ⟨#[]⟩] 48) (w.heap.size + 1) #[.int .u8 3, .int .i64 0, .int .u64 0, .string ⟨#[]⟩] 48) := putBlk_blk _ _ lt
             have HSA : Hid (Blk (putBlk w3 (w.heap.size + 1) #[.int .u8 3, .int .i64 0, .int .u64 0, .string ⟨#[]⟩] 48) w.heap.size #[.int .u8 0, .int .i64 0, .int .u64 0, .string ⟨#[]⟩] 48) := putBlk_old hZ1 (by omega) _
             have HBX : Hid (Below w.heap.size w (putBlk w3 (w.heap.size + 1) #[.int .u8 3, .int .i64 0, .int .u64 0, .string ⟨#[]⟩] 48)) := putBlk_belows hB1 (by omega) _
             clear hS1 hZ1 hB1 hb
             go_wp2_with fail
             clear pc pf pS lt
             go_meet
             exact ⟨false, ⟨3, 0, 0, bsO []⟩, rfl, (fun e => nomatch e), fun _ => HNO.out, HSX, HSA, HBX⟩
            | some x =>
             have HX : Hid (readV0 s.data.toList = some ⟨3, 0, x, bsO []⟩) := by
              show _ = _
              unfold readV0
              rw [if_neg HN1.out, if_neg HN2.out, if_neg HN3.out, HSP.out]
              simp [hcc, hu]
             have HVW := hd_ (real_may hu).2
             rw [hu] at HRR
             clear hu hcc
             go_wp2_with fail
             refine (HRR.out _).mono ?_
             rintro q w1 ⟨rfl, hb⟩
             have hS1 := HSX.out.ext hb
             have hZ1 := HSA.out.ext hb
             have hB1 := bt HBX.out hb
             obtain ⟨w3, rfl, lt⟩ := blk_put hS1
             obtain ⟨pc, pf, pS⟩ := putBlk_facts (w := w3) 48 lt
             have HSX : Hid (Blk (putBlk w3 (w.heap.size + 1) #[.int .u8 3, .int .i64 0, .int .u64 x, .string ⟨#[]⟩] 48) (w.heap.size + 1) #[.int .u8 3, .int .i64 0, .int .u64 x, .string ⟨#[]⟩] 48) := putBlk_blk _ _ lt
             have HSA : Hid (Blk (putBlk w3 (w.heap.size + 1) #[.int .u8 3, .int .i64 0, .int .u64 x, .string ⟨#[]⟩] 48) w.heap.size #[.int .u8 0, .int .i64 0, .int .u64 0, .string ⟨#[]⟩] 48) := putBlk_old hZ1 (by omega) _
             have HBX : Hid (Below w.heap.size w (putBlk w3 (w.heap.size + 1) #[.int .u8 3, .int .i64 0, .int .u64 x, .string ⟨#[]⟩] 48)) := putBlk_belows hB1 (by omega) _
             clear hS1 hZ1 hB1 hb
             go_wp2_with fail
             clear pc pf pS lt
             go_meet
             exact ⟨true, ⟨3, 0, x, bsO []⟩, rfl, fun _ => ⟨HX.out, HVW.out⟩, (fun e => nomatch e), HSX, HSA, HBX⟩
          · by_cases h120 : m = 120
            · have hcc : c0 = 120 := UInt8.toNat_inj.1 (by show c0.toNat = 120; omega)
              have HUH := hd_ (fun (W : World) => refunhexT_any (s.extract 1 s.size) (by rw [ByteArray.size_extract]; omega) W)
              rw [hex] at HUH
              unfold unhexV at HUH
              cases hu : unhexL r with
              | none =>
               have HNO : Hid (readV s.data.toList = none) := by
                show _ = _
                unfold readV readV0
                rw [if_neg HN1.out, if_neg HN2.out, if_neg HN3.out, HSP.out]
                simp [hcc, hu]
               rw [hu] at HUH
               clear hu hcc
               go_wp2_with fail
               refine (HUH.out _).mono ?_
               rintro q w1 ⟨rfl, hb⟩
               have hS1 := HSX.out.ext hb
               have hZ1 := HSA.out.ext hb
               have hB1 := bt HBX.out hb
               obtain ⟨w3, rfl, lt⟩ := blk_put hS1
               obtain ⟨pc, pf, pS⟩ := putBlk_facts (w := w3) 48 lt
               have HSX : Hid (Blk (putBlk w3 (w.heap.size + 1) #[.int .u8 4, .int .i64 0, .int .u64 0, .string (bsO [])] 48) (w.heap.size + 1) #[.int .u8 4, .int .i64 0, .int .u64 0, .string (bsO [])] 48) := putBlk_blk _ _ lt
               have HSA : Hid (Blk (putBlk w3 (w.heap.size + 1) #[.int .u8 4, .int .i64 0, .int .u64 0, .string (bsO [])] 48) w.heap.size #[.int .u8 0, .int .i64 0, .int .u64 0, .string ⟨#[]⟩] 48) := putBlk_old hZ1 (by omega) _
               have HBX : Hid (Below w.heap.size w (putBlk w3 (w.heap.size + 1) #[.int .u8 4, .int .i64 0, .int .u64 0, .string (bsO [])] 48)) := putBlk_belows hB1 (by omega) _
               clear hS1 hZ1 hB1 hb
               go_wp2_with fail
               clear pc pf pS lt
               go_meet
               exact ⟨false, ⟨4, 0, 0, bsO []⟩, rfl, (fun e => nomatch e), fun _ => HNO.out, HSX, HSA, HBX⟩
              | some t =>
               have HX : Hid (readV0 s.data.toList = some ⟨4, 0, 0, bsO t⟩) := by
                show _ = _
                unfold readV0
                rw [if_neg HN1.out, if_neg HN2.out, if_neg HN3.out, HSP.out]
                simp [hcc, hu]
               have HVW : Hid (V.wf ⟨4, 0, 0, bsO t⟩) := by
                have h1 := unhexL_len hu
                have h2 : r.length + 1 = s.size := by have := congrArg List.length HSP.out; rw [len_data] at this; simpa using this.symm
                show V.wf _
                simp [V.wf, bsO_size]
                omega
               rw [hu] at HUH
               clear hu hcc
               go_wp2_with fail
               refine (HUH.out _).mono ?_
               rintro q w1 ⟨rfl, hb⟩
               have hS1 := HSX.out.ext hb
               have hZ1 := HSA.out.ext hb
               have hB1 := bt HBX.out hb
               obtain ⟨w3, rfl, lt⟩ := blk_put hS1
               obtain ⟨pc, pf, pS⟩ := putBlk_facts (w := w3) 48 lt
               have HSX : Hid (Blk (putBlk w3 (w.heap.size + 1) #[.int .u8 4, .int .i64 0, .int .u64 0, .string (bsO t)] 48) (w.heap.size + 1) #[.int .u8 4, .int .i64 0, .int .u64 0, .string (bsO t)] 48) := putBlk_blk _ _ lt
               have HSA : Hid (Blk (putBlk w3 (w.heap.size + 1) #[.int .u8 4, .int .i64 0, .int .u64 0, .string (bsO t)] 48) w.heap.size #[.int .u8 0, .int .i64 0, .int .u64 0, .string ⟨#[]⟩] 48) := putBlk_old hZ1 (by omega) _
               have HBX : Hid (Below w.heap.size w (putBlk w3 (w.heap.size + 1) #[.int .u8 4, .int .i64 0, .int .u64 0, .string (bsO t)] 48)) := putBlk_belows hB1 (by omega) _
               clear hS1 hZ1 hB1 hb
               go_wp2_with fail
               clear pc pf pS lt
               go_meet
               exact ⟨true, ⟨4, 0, 0, bsO t⟩, rfl, fun _ => ⟨HX.out, HVW.out⟩, (fun e => nomatch e), HSX, HSA, HBX⟩
            · by_cases h115 : m = 115
              · have hcc : c0 = 115 := UInt8.toNat_inj.1 (by show c0.toNat = 115; omega)
                have HUH := hd_ (fun (W : World) => refunhexT_any (s.extract 1 s.size) (by rw [ByteArray.size_extract]; omega) W)
                rw [hex] at HUH
                unfold unhexV at HUH
                cases hu : unhexL r with
                | none =>
                 have HNO : Hid (readV s.data.toList = none) := by
                  show _ = _
                  unfold readV readV0
                  rw [if_neg HN1.out, if_neg HN2.out, if_neg HN3.out, HSP.out]
                  simp [hcc, hu]
                 rw [hu] at HUH
                 clear hu hcc
                 go_wp2_with fail
                 refine (HUH.out _).mono ?_
                 rintro q w1 ⟨rfl, hb⟩
                 have hS1 := HSX.out.ext hb
                 have hZ1 := HSA.out.ext hb
                 have hB1 := bt HBX.out hb
                 obtain ⟨w3, rfl, lt⟩ := blk_put hS1
                 obtain ⟨pc, pf, pS⟩ := putBlk_facts (w := w3) 48 lt
                 have HSX : Hid (Blk (putBlk w3 (w.heap.size + 1) #[.int .u8 5, .int .i64 0, .int .u64 0, .string (bsO [])] 48) (w.heap.size + 1) #[.int .u8 5, .int .i64 0, .int .u64 0, .string (bsO [])] 48) := putBlk_blk _ _ lt
                 have HSA : Hid (Blk (putBlk w3 (w.heap.size + 1) #[.int .u8 5, .int .i64 0, .int .u64 0, .string (bsO [])] 48) w.heap.size #[.int .u8 0, .int .i64 0, .int .u64 0, .string ⟨#[]⟩] 48) := putBlk_old hZ1 (by omega) _
                 have HBX : Hid (Below w.heap.size w (putBlk w3 (w.heap.size + 1) #[.int .u8 5, .int .i64 0, .int .u64 0, .string (bsO [])] 48)) := putBlk_belows hB1 (by omega) _
                 clear hS1 hZ1 hB1 hb
                 go_wp2_with fail
                 clear pc pf pS lt
                 go_meet
                 exact ⟨false, ⟨5, 0, 0, bsO []⟩, rfl, (fun e => nomatch e), fun _ => HNO.out, HSX, HSA, HBX⟩
                | some t =>
                 have HX : Hid (readV0 s.data.toList = some ⟨5, 0, 0, bsO t⟩) := by
                  show _ = _
                  unfold readV0
                  rw [if_neg HN1.out, if_neg HN2.out, if_neg HN3.out, HSP.out]
                  simp [hcc, hu]
                 have HVW : Hid (V.wf ⟨5, 0, 0, bsO t⟩) := by
                  have h1 := unhexL_len hu
                  have h2 : r.length + 1 = s.size := by have := congrArg List.length HSP.out; rw [len_data] at this; simpa using this.symm
                  show V.wf _
                  simp [V.wf, bsO_size]
                  omega
                 rw [hu] at HUH
                 clear hu hcc
                 go_wp2_with fail
                 refine (HUH.out _).mono ?_
                 rintro q w1 ⟨rfl, hb⟩
                 have hS1 := HSX.out.ext hb
                 have hZ1 := HSA.out.ext hb
                 have hB1 := bt HBX.out hb
                 obtain ⟨w3, rfl, lt⟩ := blk_put hS1
                 obtain ⟨pc, pf, pS⟩ := putBlk_facts (w := w3) 48 lt
                 have HSX : Hid (Blk (putBlk w3 (w.heap.size + 1) #[.int .u8 5, .int .i64 0, .int .u64 0, .string (bsO t)] 48) (w.heap.size + 1) #[.int .u8 5, .int .i64 0, .int .u64 0, .string (bsO t)] 48) := putBlk_blk _ _ lt
                 have HSA : Hid (Blk (putBlk w3 (w.heap.size + 1) #[.int .u8 5, .int .i64 0, .int .u64 0, .string (bsO t)] 48) w.heap.size #[.int .u8 0, .int .i64 0, .int .u64 0, .string ⟨#[]⟩] 48) := putBlk_old hZ1 (by omega) _
                 have HBX : Hid (Below w.heap.size w (putBlk w3 (w.heap.size + 1) #[.int .u8 5, .int .i64 0, .int .u64 0, .string (bsO t)] 48)) := putBlk_belows hB1 (by omega) _
                 clear hS1 hZ1 hB1 hb
                 go_wp2_with fail
                 clear pc pf pS lt
                 go_meet
                 exact ⟨true, ⟨5, 0, 0, bsO t⟩, rfl, fun _ => ⟨HX.out, HVW.out⟩, (fun e => nomatch e), HSX, HSA, HBX⟩
              · have c1 : ¬ c0 = 114 := fun e => h114 (by rw [← hm, e]; rfl)
                have c2 : ¬ c0 = 120 := fun e => h120 (by rw [← hm, e]; rfl)
                have c3 : ¬ c0 = 115 := fun e => h115 (by rw [← hm, e]; rfl)
                have HC := hd_ (And.intro c1 (And.intro c2 c3))
                clear c1 c2 c3
                have b1 : (m == 114) = false := by simpa using h114
                have b2 : (m == 120) = false := by simpa using h120
                have b3 : (m == 115) = false := by simpa using h115
                go_wp2_with fail
                refine (HNUM.out _).mono ?_
                rintro q w1 ⟨⟨x, hx, ⟨hl, rfl⟩ | ⟨hl, rfl⟩⟩, hb⟩
                · have HX : Hid (readV0 s.data.toList = some ⟨2, x, 0, bsO []⟩) := by
                   show _ = _
                   obtain ⟨c1, c2, c3⟩ := HC.out
                   unfold readV0
                   rw [if_neg HN1.out, if_neg HN2.out, if_neg HN3.out, hl, HSP.out]
                   simp [c1, c2, c3]
                  have HVW : Hid (V.wf ⟨2, x, 0, bsO []⟩) := by
                   obtain ⟨hx0, hx1⟩ := hx
                   show V.wf _
                   simp [V.wf, bsO_size]
                   omega
                  clear hl hx
                  have hS1 := HSX.out.ext hb
                  have hZ1 := HSA.out.ext hb
                  have hB1 := bt HBX.out hb
                  obtain ⟨w3, rfl, lt⟩ := blk_put hS1
                  obtain ⟨pc, pf, pS⟩ := putBlk_facts (w := w3) 48 lt
                  have HSX : Hid (Blk (putBlk w3 (w.heap.size + 1) #[.int .u8 2, .int .i64 x, .int .u64 0, .string ⟨#[]⟩] 48) (w.heap.size + 1) #[.int .u8 2, .int .i64 x, .int .u64 0, .string ⟨#[]⟩] 48) := putBlk_blk _ _ lt
                  have HSA : Hid (Blk (putBlk w3 (w.heap.size + 1) #[.int .u8 2, .int .i64 x, .int .u64 0, .string ⟨#[]⟩] 48) w.heap.size #[.int .u8 0, .int .i64 0, .int .u64 0, .string ⟨#[]⟩] 48) := putBlk_old hZ1 (by omega) _
                  have HBX : Hid (Below w.heap.size w (putBlk w3 (w.heap.size + 1) #[.int .u8 2, .int .i64 x, .int .u64 0, .string ⟨#[]⟩] 48)) := putBlk_belows hB1 (by omega) _
                  clear hS1 hZ1 hB1 hb
                  go_wp2_with fail
                  clear pc pf pS lt
                  go_meet
                  exact ⟨true, ⟨2, x, 0, bsO []⟩, rfl, fun _ => ⟨HX.out, HVW.out⟩, (fun e => nomatch e), HSX, HSA, HBX⟩
                · have HNO : Hid (readV s.data.toList = none) := by
                   show _ = _
                   obtain ⟨c1, c2, c3⟩ := HC.out
                   unfold readV readV0
                   rw [if_neg HN1.out, if_neg HN2.out, if_neg HN3.out, hl, HSP.out]
                   simp [c1, c2, c3]
                  clear hl hx
                  have hS1 := HSX.out.ext hb
                  have hZ1 := HSA.out.ext hb
                  have hB1 := bt HBX.out hb
                  obtain ⟨w3, rfl, lt⟩ := blk_put hS1
                  obtain ⟨pc, pf, pS⟩ := putBlk_facts (w := w3) 48 lt
                  have HSX : Hid (Blk (putBlk w3 (w.heap.size + 1) #[.int .u8 2, .int .i64 x, .int .u64 0, .string ⟨#[]⟩] 48) (w.heap.size + 1) #[.int .u8 2, .int .i64 x, .int .u64 0, .string ⟨#[]⟩] 48) := putBlk_blk _ _ lt
                  have HSA : Hid (Blk (putBlk w3 (w.heap.size + 1) #[.int .u8 2, .int .i64 x, .int .u64 0, .string ⟨#[]⟩] 48) w.heap.size #[.int .u8 0, .int .i64 0, .int .u64 0, .string ⟨#[]⟩] 48) := putBlk_old hZ1 (by omega) _
                  have HBX : Hid (Below w.heap.size w (putBlk w3 (w.heap.size + 1) #[.int .u8 2, .int .i64 x, .int .u64 0, .string ⟨#[]⟩] 48)) := putBlk_belows hB1 (by omega) _
                  clear hS1 hZ1 hB1 hb
                  go_wp2_with fail
                  clear pc pf pS lt
                  go_meet
                  exact ⟨false, ⟨2, x, 0, bsO []⟩, rfl, (fun e => nomatch e), fun _ => HNO.out, HSX, HSA, HBX⟩
 case rest =>
  obtain ⟨is, u, rfl, HY, HN, HSX, HSA, HBX⟩ := hcut
  cases is with
  | false =>
   have HNO : Hid (readV s.data.toList = none) := HN.out rfl
   clear HY HN
   have HF : Hid (R = .tuple #[.agg #[.int .u8 0, .int .i64 0, .int .u64 0, .string ⟨#[]⟩], .int .i64 310]) := by
    show _ = _
    rw [← HR.out, HNO.out]
    rfl
   obtain ⟨zl, zc0, zc1, zc2, zc3, zf, zs0, zs1, zs2, zs3⟩ := zero_set HSA.out
   go_wp2_with fail
   refine bodyPost_ret (v := .tuple #[.agg #[.int .u8 0, .int .i64 0, .int .u64 0, .string ⟨#[]⟩], .int .i64 310]) (by simp [results, Tryz.results22, go_sem, zc0, zc1, zc2, zc3]) rfl ?_
   exact ⟨by rw [HF.out], HBX.out⟩
  | true =>
   have HX : Hid (readV0 s.data.toList = some u) := (HY.out rfl).1
   have HVW : Hid u.wf := (HY.out rfl).2
   clear HY HN
   obtain ⟨uk, un, ur, ut⟩ := u
   have hS1 := HSX.out
   obtain ⟨pl, p0, p1, p2, p3⟩ := mk4 hS1
   unfold V.agg at HCK
   go_wp2_with fail
   refine (HCK.out ⟨uk, un, ur, ut⟩ HVW.out _ HBX.out).mono ?_
   rintro q w2 ⟨rfl, hb⟩
   have hS2 := HSX.out.ext hb
   have hZ2 := HSA.out.ext hb
   have HB2 := hd_ (bt HBX.out hb)
   clear hb
   cases hm : mayB ⟨uk, un, ur, ut⟩
   · have HF : Hid (R = .tuple #[.agg #[.int .u8 0, .int .i64 0, .int .u64 0, .string ⟨#[]⟩], .int .i64 310]) := by
      show _ = _
      rw [← HR.out, readV_no HX.out hm]
      rfl
     clear hm
     obtain ⟨w3, rfl, lt⟩ := blk_put hZ2
     obtain ⟨pc, pf, pS⟩ := putBlk_facts (w := w3) 48 lt
     go_wp2_with fail
     refine bodyPost_ret (v := .tuple #[.agg #[.int .u8 0, .int .i64 0, .int .u64 0, .string ⟨#[]⟩], .int .i64 310]) (by simp [results, Tryz.results22, go_sem, pc]) rfl ?_
     exact ⟨by rw [HF.out], HB2.out⟩
   · have HF : Hid (R = .tuple #[V.agg ⟨uk, un, ur, ut⟩, .int .i64 0]) := by
      show _ = _
      rw [← HR.out, readV_yes HX.out hm]
      rfl
     clear hm
     obtain ⟨pl, p0, p1, p2, p3⟩ := mk4 hS2
     obtain ⟨w3, hw3, lt⟩ := blk_put hZ2
     obtain ⟨pc, pf, pS⟩ := putBlk_facts (w := w3) 48 lt
     have hB3 := putBlk_belows (hw3 ▸ HB2.out) (Nat.le_refl _) #[.int .u8 (V.k ⟨uk, un, ur, ut⟩), .int .i64 (V.n ⟨uk, un, ur, ut⟩), .int .u64 (V.r ⟨uk, un, ur, ut⟩), .string (V.t ⟨uk, un, ur, ut⟩)]
     subst hw3
     go_wp2_with fail
     refine bodyPost_ret (v := .tuple #[V.agg ⟨uk, un, ur, ut⟩, .int .i64 0]) (by simp [results, Tryz.results22, go_sem, pc, V.agg] <;> rfl) rfl ?_
     exact ⟨by rw [HF.out], hB3⟩
end Go.Proofs.YtfekohonidggjaaGreatDoor
