/- Joined texts. -/
import Derived.Test.YtfekohonidggjaaGreatDoorR4
import Derived.Test.YtfekohonidggjaaGreatDoorB36
import Derived.Test.YtfekohonidggjaaGreatDoorR3
namespace Go.Proofs.YtfekohonidggjaaGreatDoor
open Go.RowKit
set_option maxRecDepth 100000
set_option maxHeartbeats 6400000
def RTbQ (l : List UInt8) (B : Nat) (r : Ending) (w' : World) : Prop :=
 (∃ t A c, readT l = some t ∧ t.cs.length ≤ 8 ∧ r = .returned (.tuple #[.agg (Ta.cells (t.at_ A c)), .bool true]) ∧ CRow w' A t.cs ∧ ∀ p, A = some p → B ≤ p.block) ∨
 ((∀ t, readT l = some t → 8 < t.cs.length) ∧ ∃ nm A n c k q p, r = .returned (.tuple #[.agg #[.string nm, .slice A n c, .int .i64 k, .int .i64 q, .int .i64 p], .bool false]))
theorem readT_words {l : List UInt8} {ws : List (List UInt8)} (h : wordsF l = some ws) : readT l = tabR ws := by
 unfold readT
 rw [h]
theorem tabR_tab {t : List UInt8} {ws : List (List UInt8)} (h : t ≠ tTable) : tabR (t :: ws) = none := by
 unfold tabR
 split
 · next e =>
   injection e with e1 e2
   rw [if_neg (by rw [← e1]; exact h)]
 · rfl
theorem tabR_long {t nm x y z : List UInt8} {cs : List (List UInt8)} (h : 8 < cs.length) : ∀ u, tabR (t :: nm :: x :: y :: z :: cs) = some u → 8 < u.cs.length := by
 intro u hu
 rw [tabR_five] at hu
 split at hu
 · cases hc : colsR cs with
   | none =>
    rw [hc] at hu
    cases h1 : longZ x <;> cases h2 : longZ y <;> cases h3 : longZ z <;> simp [h1, h2, h3] at hu
   | some l =>
    rw [hc] at hu
    have := colsR_len _ _ hc
    cases h1 : longZ x <;> cases h2 : longZ y <;> cases h3 : longZ z <;> simp [h1, h2, h3] at hu
    subst hu
    show 8 < l.length
    omega
 · cases hu
theorem colsR_app_no : ∀ (a : List (List UInt8)) (x : List UInt8), colsR a = none → colsR (a ++ [x]) = none
 | [], x, h => by unfold colsR at h; cases h
 | y :: a, x, h => by
  unfold colsR at h
  show colsR (y :: (a ++ [x])) = none
  unfold colsR
  cases hy : colR y with
  | none => rfl
  | some u =>
   rw [hy] at h
   cases ha : colsR a with
   | none => rw [colsR_app_no a x ha]
   | some m => rw [ha] at h; cases h
def zCo : Co := ⟨⟨#[]⟩, 0, false⟩
theorem zCo_wf : zCo.wf := by
 unfold zCo Co.wf
 simp only
 exact ⟨by decide, by decide⟩
theorem refreadTable_any (s : ByteArray) (hs : s.size ≤ 1000000) (w : World) :
  Calls Tryz.prog 92 #[.string s] w fun r w' => RTbQ s.data.toList w.heap.size r w' ∧ Below w.heap.size w w' := by
 have hb0 : Below w.heap.size w (w.alloc (.cells #[.string ⟨#[]⟩, .slice none 0 0, .int .i64 0, .int .i64 0, .int .i64 0] 66)) := bel1 _ _
 have HZ0 := hd_ (Blk.new w #[.string ⟨#[]⟩, .slice none 0 0, .int .i64 0, .int .i64 0, .int .i64 0] 66)
 have HB0 := hd_ hb0
 have HWD := hd_ (refwords_any s (by omega) (w.alloc (.cells #[.string ⟨#[]⟩, .slice none 0 0, .int .i64 0, .int .i64 0, .int .i64 0] 66)))
 have hsl : s.data.toList.length = s.size := by simp
 clear hb0
 go_enter Tryz.func92, Tryz.ntmps92
 go_wp2_with fail
 refine HWD.out.mono ?_
 rintro r w1 ⟨hr, hb1⟩
 have HB1 := hd_ (bt HB0.out hb1)
 have HZ1 := hd_ (HZ0.out.ext hb1)
 clear hb1 HB0 HZ0 HWD
 rcases hr with ⟨ws, sv, hws, rfl, hown⟩ | ⟨sv, hws, rfl⟩
 · obtain ⟨hne, _, hjn⟩ := wordsF_some.1 hws
   have hsz : ∀ y ∈ ws, y.length ≤ 1000000 := fun y hy => by
    have := jn_len 32 ws y hy
    rw [hjn] at this
    omega
   have hlw : ws.length ≤ 1000001 := by
    have := jn_ge 32 ws
    rw [hjn] at this
    omega
   obtain ⟨x0, rest, rfl⟩ : ∃ x rest, ws = x :: rest := by
    cases ws with
    | nil => exact absurd rfl hne
    | cons x rest => exact ⟨x, rest, rfl⟩
   obtain ⟨g, cap, rfl, hgb, hglt⟩ := hown.form (by simp)
   have hwr : WRo w1 g (x0 :: rest) := ⟨hglt, fun j y hj => by
    have hc := hown.cells (g := g) rfl j (.string (bsO y)) (by unfold wsC; rw [List.getElem?_map, hj]; rfl)
    rw [addr_addS, Nat.zero_add] at hc
    exact hc⟩
   have hRT := readT_words hws
   have HRT := hd_ hRT
   have HSZ := hd_ hsz
   have HW1 := hd_ hwr
   clear hown hne hjn hws hwr hRT hsz
   simp only [List.length_cons] at hlw ⊢
   by_cases h5 : rest.length < 4
   · have HNO : Hid (∀ t, readT s.data.toList = some t → 8 < t.cs.length) := fun t ht => by
      rw [HRT.out, tabR_few (by simp; omega)] at ht
      cases ht
     have h5I : (rest.length : Int) + 1 < 5 := by omega
     clear h5 HW1
     obtain ⟨wz, rfl, lt⟩ := blk_put HZ1.out
     obtain ⟨pc, pf, pS⟩ := putBlk_facts (w := wz) 66 lt
     have HBF := hd_ (putBlk_belows HB1.out (Nat.le_refl _) #[.string ⟨#[]⟩, .slice none 0 0, .int .i64 0, .int .i64 0, .int .i64 0])
     clear HZ1 HB1
     go_wp2_with fail
     refine bodyPost_ret (v := .tuple #[.agg #[.string ⟨#[]⟩, .slice none 0 0, .int .i64 0, .int .i64 0, .int .i64 0], .bool false]) (by simp [results, Tryz.results92, go_sem, pc]) rfl ?_
     exact ⟨Or.inr ⟨HNO.out, _, _, _, _, _, _, _, rfl⟩, HBF.out⟩
   · have h5I : ¬ (rest.length : Int) + 1 < 5 := by omega
     have e0 := HW1.out.2 0 x0 rfl
     have gl := HW1.out.1
     have h01 : (0 : Int) < (rest.length : Int) + 1 := by omega
     by_cases ht : x0 = tTable
     · have hcmp : ((bsO x0).toList == [116, 97, 98, 108, 101]) = true := by rw [ht, ByteArray.toList_eq]; rfl
       by_cases h13 : 12 < rest.length
       · have HNO : Hid (∀ t, readT s.data.toList = some t → 8 < t.cs.length) := by
          obtain ⟨nm, x, y, z, cs, rfl⟩ : ∃ nm x y z cs, rest = nm :: x :: y :: z :: cs := by
           rcases rest with _ | ⟨b, _ | ⟨c, _ | ⟨d, _ | ⟨e, l⟩⟩⟩⟩
           · simp at h13
           · simp at h13
           · simp at h13
           · simp at h13
           · exact ⟨b, c, d, e, l, rfl⟩
          show ∀ _, _
          rw [HRT.out]
          exact tabR_long (by simp at h13; omega)
         have h13I : (13 : Int) < (rest.length : Int) + 1 := by omega
         clear h5 h13 ht
         obtain ⟨wz, rfl, lt⟩ := blk_put HZ1.out
         obtain ⟨pc, pf, pS⟩ := putBlk_facts (w := wz) 66 lt
         have HBF := hd_ (putBlk_belows HB1.out (Nat.le_refl _) #[.string ⟨#[]⟩, .slice none 0 0, .int .i64 0, .int .i64 0, .int .i64 0])
         clear HZ1 HB1
         go_wp2_with fail
         refine bodyPost_ret (v := .tuple #[.agg #[.string ⟨#[]⟩, .slice none 0 0, .int .i64 0, .int .i64 0, .int .i64 0], .bool false]) (by simp [results, Tryz.results92, go_sem, pc]) rfl ?_
         exact ⟨Or.inr ⟨HNO.out, _, _, _, _, _, _, _, rfl⟩, HBF.out⟩
       · have h13I : ¬ (13 : Int) < (rest.length : Int) + 1 := by omega
         obtain ⟨nm, x, y, z, cs, rfl⟩ : ∃ nm x y z cs, rest = nm :: x :: y :: z :: cs := by
          rcases rest with _ | ⟨b, _ | ⟨c, _ | ⟨d, _ | ⟨e, l⟩⟩⟩⟩
          · simp at h5
          · simp at h5
          · simp at h5
          · simp at h5
          · exact ⟨b, c, d, e, l, rfl⟩
         subst ht
         have hcs : cs.length ≤ 8 := by simp at h13; omega
         simp only [List.length_cons] at h5I h13I h01 hlw ⊢
         have HNB := hd_ (fun (t : List UInt8) (W : World) => refnumber_any (bsO t) W)
         have HRC := hd_ (fun (t : List UInt8) (ht : t.length ≤ 1000000) (W : World) => refreadCol_any (bsO t) (by rw [bsO_size]; omega) W)
         have e2 := HW1.out.2 2 x rfl
         have hi2 : (2 : Int) < (cs.length : Int) + 1 + 1 + 1 + 1 + 1 := by omega
         have hi3 : (3 : Int) < (cs.length : Int) + 1 + 1 + 1 + 1 + 1 := by omega
         have hi4 : (4 : Int) < (cs.length : Int) + 1 + 1 + 1 + 1 + 1 := by omega
         have hi1 : (1 : Int) < (cs.length : Int) + 1 + 1 + 1 + 1 + 1 := by omega
         clear h5 h13
         go_wp2_with fail
         clear e0 gl e2 h5I h13I h01 hi2 hcmp
         refine (HNB.out x _).mono ?_
         rintro r w2 ⟨⟨n1, hxn1, hor⟩, hbn1⟩
         obtain ⟨on1, rfl, hok1, hok0⟩ : ∃ ok, r = .returned (.tuple #[.int .i64 n1, .bool ok]) ∧ (ok = true → longZ x = some n1) ∧ (ok = false → longZ x = none) := by
          have hor : (longZ x = some n1 ∧ _) ∨ (longZ x = none ∧ _) := hor
          rcases hor with ⟨h, rfl⟩ | ⟨h, rfl⟩
          · exact ⟨true, rfl, (fun _ => h), (fun e => nomatch e)⟩
          · exact ⟨false, rfl, (fun e => nomatch e), (fun _ => h)⟩
         have HIn1 := hd_ hxn1
         have HYn1 := hd_ hok1
         have HNn1 := hd_ hok0
         have HZn1 := hd_ (HZ1.out.ext hbn1)
         have HWn1 := hd_ (HW1.out.ext hbn1)
         have HBn1 := hd_ (bt HB1.out hbn1)
         clear hor hok1 hok0 hxn1 hbn1 HZ1 HW1 HB1
         have e3 := HWn1.out.2 3 y rfl
         have gl := HWn1.out.1
         go_wp2_with fail
         clear e3 gl hi3
         refine (HNB.out y _).mono ?_
         rintro r w3 ⟨⟨n2, hxn2, hor⟩, hbn2⟩
         obtain ⟨on2, rfl, hok1, hok0⟩ : ∃ ok, r = .returned (.tuple #[.int .i64 n2, .bool ok]) ∧ (ok = true → longZ y = some n2) ∧ (ok = false → longZ y = none) := by
          have hor : (longZ y = some n2 ∧ _) ∨ (longZ y = none ∧ _) := hor
          rcases hor with ⟨h, rfl⟩ | ⟨h, rfl⟩
          · exact ⟨true, rfl, (fun _ => h), (fun e => nomatch e)⟩
          · exact ⟨false, rfl, (fun e => nomatch e), (fun _ => h)⟩
         have HIn2 := hd_ hxn2
         have HYn2 := hd_ hok1
         have HNn2 := hd_ hok0
         have HZn2 := hd_ (HZn1.out.ext hbn2)
         have HWn2 := hd_ (HWn1.out.ext hbn2)
         have HBn2 := hd_ (bt HBn1.out hbn2)
         clear hor hok1 hok0 hxn2 hbn2 HZn1 HWn1 HBn1
         have e4 := HWn2.out.2 4 z rfl
         have gl := HWn2.out.1
         go_wp2_with fail
         clear e4 gl hi4
         refine (HNB.out z _).mono ?_
         rintro r w4 ⟨⟨n3, hxn3, hor⟩, hbn3⟩
         obtain ⟨on3, rfl, hok1, hok0⟩ : ∃ ok, r = .returned (.tuple #[.int .i64 n3, .bool ok]) ∧ (ok = true → longZ z = some n3) ∧ (ok = false → longZ z = none) := by
          have hor : (longZ z = some n3 ∧ _) ∨ (longZ z = none ∧ _) := hor
          rcases hor with ⟨h, rfl⟩ | ⟨h, rfl⟩
          · exact ⟨true, rfl, (fun _ => h), (fun e => nomatch e)⟩
          · exact ⟨false, rfl, (fun e => nomatch e), (fun _ => h)⟩
         have HIn3 := hd_ hxn3
         have HYn3 := hd_ hok1
         have HNn3 := hd_ hok0
         have HZn3 := hd_ (HZn2.out.ext hbn3)
         have HWn3 := hd_ (HWn2.out.ext hbn3)
         have HBn3 := hd_ (bt HBn2.out hbn3)
         clear hor hok1 hok0 hxn3 hbn3 HZn2 HWn2 HBn2
         have e1 := HWn3.out.2 1 nm rfl
         have gl := HWn3.out.1
         have hbn : Below w4.heap.size w4 (w4.alloc (.cells #[.string (bsO nm), .slice none 0 0, .int .i64 n1, .int .i64 n2, .int .i64 n3] 66)) := bel1 _ _
         have HZ5 := hd_ (HZn3.out.ext hbn)
         have HW5 := hd_ (HWn3.out.ext hbn)
         have HB5 := hd_ (bt HBn3.out hbn)
         have HT5 := hd_ (Blk.new w4 #[.string (bsO nm), .slice none 0 0, .int .i64 n1, .int .i64 n2, .int .i64 n3] 66)
         have hzq : w.heap.size < w4.heap.size := HZn3.out.lt
         have hgq : g < w4.heap.size := gl
         clear hbn HZn3 HWn3 HBn3
         go_upto_region 8 with fail
         clear e1 gl hi1
         generalize w4.alloc (.cells #[.string (bsO nm), .slice none 0 0, .int .i64 n1, .int .i64 n2, .int .i64 n3] 66) = w5 at HZ5 HW5 HB5 HT5 ⊢
         generalize w4.heap.size = qt at hzq hgq HT5 ⊢
         have hq5 : qt < w5.heap.size := HT5.out.lt
         obtain ⟨qn, hqn⟩ : ∃ qn, qn = qt + 1 := ⟨_, rfl⟩
         have hqw : qn ≤ w5.heap.size := by omega
         have hqt : qt < qn := by omega
         have hqn1 : qn ≤ qt + 1 := by omega
         clear hqn
         go_cut [5] (fun v wx => v = .bool (on1 && (on2 && on3)) ∧ wx = w5)
         case first =>
          cases on1 <;> cases on2 <;> cases on3
          all_goals
           go_wp2_with fail
           go_meet
           exact ⟨rfl, rfl⟩
         case rest =>
          obtain ⟨rfl, rfl⟩ := hcut
          obtain ⟨ti, hi0, hz0, hz1, hz2⟩ := info_parts info_colT
          have HOK1 : Hid ((on1 && (on2 && on3)) = true → longZ x = some n1 ∧ longZ y = some n2 ∧ longZ z = some n3) := fun e => by
           simp only [Bool.and_eq_true] at e
           exact ⟨HYn1.out e.1, HYn2.out e.2.1, HYn3.out e.2.2⟩
          have HOK0 : Hid ((on1 && (on2 && on3)) = false → longZ x = none ∨ longZ y = none ∨ longZ z = none) := fun e => by
           cases on1
           · exact Or.inl (HNn1.out rfl)
           · cases on2
             · exact Or.inr (Or.inl (HNn2.out rfl))
             · cases on3
               · exact Or.inr (Or.inr (HNn3.out rfl))
               · cases e
          clear HYn1 HYn2 HYn3 HNn1 HNn2 HNn3 HNB
          generalize (on1 && (on2 && on3)) = ok0 at HOK1 HOK0 ⊢
          go_wp2_with fail
          go_loopw [5, 13] (fun b i wr => ∃ (j : Nat) (dn : List Co) (okb : Bool) (rA : Option Addr) (rc : Nat), j ≤ cs.length ∧ i = .int .i64 (5 + j) ∧ b = .bool okb ∧ Hid (okb = true → (longZ x = some n1 ∧ longZ y = some n2 ∧ longZ z = some n3) ∧ colsR (cs.take j) = some dn) ∧ Hid (okb = false → (longZ x = none ∨ longZ y = none ∨ longZ z = none) ∨ colsR (cs.take j) = none) ∧ dn.length = j ∧ Hid (∀ v ∈ dn, v.wf) ∧ wr.ownsRow qn 111 3 (.slice rA j rc) j (ccells dn) ∧ Hid (Blk wr w.heap.size #[.string ⟨#[]⟩, .slice none 0 0, .int .i64 0, .int .i64 0, .int .i64 0] 66) ∧ Hid (Blk wr qt #[.string (bsO nm), .slice rA j rc, .int .i64 n1, .int .i64 n2, .int .i64 n3] 66) ∧ Hid (WRo wr g (tTable :: nm :: x :: y :: z :: cs)) ∧ Hid (Below w.heap.size w wr)) (fun _ i _ => cs.length + 5 - (intOf i).toNat)
          case atStart => exact ⟨0, [], ok0, none, 0, by omega, rfl, rfl, fun e => ⟨HOK1.out e, rfl⟩, fun e => Or.inl (HOK0.out e), rfl, (fun v hv => by cases hv), World.ownsRow_nil _ _ _ _, HZ5, HT5, HW5, HB5⟩
          case round =>
           obtain ⟨j, dn, okb, rA, rc, hj, rfl, rfl, HTT, HFF, hdl, HWF, hown, HZr, HTr, HWr, HBr⟩ := hrel
           clear HZ5 HT5 HW5 HB5 HOK1 HOK0
           by_cases hlt : j < cs.length
           · obtain ⟨v, hv⟩ : ∃ v, v = cs[j] := ⟨_, rfl⟩
             have hget := List.getElem?_eq_getElem hlt
             rw [← hv] at hget
             have hvl : v.length ≤ 1000000 := HSZ.out v (by rw [hv]; simp)
             have htk : cs.take (j + 1) = cs.take j ++ [v] := by rw [List.take_succ_eq_append_getElem hlt, ← hv]
             have HTK := hd_ htk
             have HMV := hd_ (List.mem_of_getElem? hget)
             have hxc := HWr.out.2 (5 + j) v (by rw [show 5 + j = j + 1 + 1 + 1 + 1 + 1 by omega]; simpa using hget)
             have hgl := HWr.out.1
             have hj2 : (5 + (j : Int)) < (cs.length : Int) + 1 + 1 + 1 + 1 + 1 := by omega
             have hj20 : (0 : Int) ≤ 5 + (j : Int) := by omega
             have hjt : (5 + (j : Int)).toNat = 5 + j := by omega
             obtain ⟨u, e, hrp, huw, he⟩ : ∃ (u : Co) (e : Bool), colP (colR v) = .tuple #[.agg #[.string u.nm, .int .u8 u.k, .bool u.nl], .bool e] ∧ u.wf ∧ ((e = true ∧ colR v = some u) ∨ (e = false ∧ colR v = none)) := by
              cases hv : colR v with
              | some u => exact ⟨u, true, rfl, colR_wf (by omega) hv, Or.inl ⟨rfl, rfl⟩⟩
              | none => exact ⟨zCo, false, rfl, zCo_wf, Or.inr ⟨rfl, rfl⟩⟩
             have HRV := hd_ (HRC.out v hvl wr)
             rw [show (bsO v).data.toList = v from rfl, hrp] at HRV
             have HE := hd_ he
             have HUW := hd_ huw
             obtain ⟨vn, vk, vl⟩ := u
             simp only at HRV
             clear hv hget htk hvl hrp huw he
             go_wp2_with fail
             refine HRV.out.mono ?_
             rintro r w6 ⟨rfl, hb6⟩
             have hbn : Below w6.heap.size w6 (w6.alloc (.cells #[.string vn, .int .u8 vk, .bool vl] 111)) := bel1 _ _
             have hb67 := bt hb6 hbn
             have HV7 := hd_ (Blk.new w6 #[.string vn, .int .u8 vk, .bool vl] 111)
             have HZ7 := hd_ (HZr.out.ext hb67)
             have HT7 := hd_ (HTr.out.ext hb67)
             have HW7 := hd_ (HWr.out.ext hb67)
             have hown7 := own_ext hown hb67
             have HB7 := hd_ (bt HBr.out hb67)
             clear hbn hb67 hb6 hown HBr HZr HTr HWr hxc hgl HRV
             go_upto_region 13 with fail
             generalize w6.alloc (.cells #[.string vn, .int .u8 vk, .bool vl] 111) = w7 at HV7 HZ7 HT7 HW7 hown7 HB7 ⊢
             generalize w6.heap.size = q6 at HV7 ⊢
             go_cut [5] (fun v wx => v = .bool (okb && e) ∧ wx = w7)
             case first =>
              cases okb <;> cases e
              all_goals
               go_wp2_with fail
               go_meet
               exact ⟨rfl, rfl⟩
             case rest =>
              obtain ⟨rfl, hwc⟩ := hcut
              have hwc' := hwc.symm
              subst hwc'
              have HT2 : Hid ((okb && e) = true → (longZ x = some n1 ∧ longZ y = some n2 ∧ longZ z = some n3) ∧ colsR (cs.take (j + 1)) = some (dn ++ [⟨vn, vk, vl⟩])) := fun h => by
               obtain ⟨h1, h2⟩ := Bool.and_eq_true _ _ ▸ h
               rcases HE.out with ⟨_, hv⟩ | ⟨h3, _⟩
               · exact ⟨(HTT.out h1).1, by rw [HTK.out]; exact colsR_app _ _ _ _ (HTT.out h1).2 hv⟩
               · rw [h3] at h2; cases h2
              have HF2 : Hid ((okb && e) = false → (longZ x = none ∨ longZ y = none ∨ longZ z = none) ∨ colsR (cs.take (j + 1)) = none) := fun h => by
               rcases HE.out with ⟨h3, _⟩ | ⟨_, hv⟩
               · rw [h3, Bool.and_true] at h
                 exact (HFF.out h).imp id (fun h => by rw [HTK.out]; exact colsR_app_no _ _ h)
               · exact Or.inr (colsR_no _ v (by rw [HTK.out]; simp) hv)
              clear HE
              generalize (okb && e) = nb at HT2 HF2 ⊢
              have tl7 := HT7.out.lt
              obtain ⟨t0, t1, t2, t3, t4⟩ := blk5 HT7.out
              obtain ⟨v9, v0, v1, v2⟩ := blkC HV7.out
              have hj8 : j ≤ 8 := by omega
              go_wp2_with (at_builtin; refine wpList_append_own _ rfl _ _ 64 rfl qn 111 ti _ 3 24 Tryz.underlying64 hi0 hz0 hz1 hz2 rfl (by decide) (.slice rA j rc) j (ccells dn) rfl (World.ownsRow.alloc hown7 _) ⟨w7.heap.size, 0, none⟩ 1 1 [.string vn, .int .u8 vk, .bool vl] rfl rfl ?aqc1 ?aqc2 ?aqc3 ?aqc4 ?aqc5 ?_)
              case aqc2 => simp [Value.oneCell']
              case aqc3 => simp only [maxLen]; omega
              case aqc4 => omega
              case aqc5 => first | omega | (simp; omega)
              intro v8 w9 hown9 hg9 _
              obtain ⟨g8, c8, rfl, hbg8, _⟩ := hown9.form (by omega)
              have HZ9 := blk_grown (HZ7.out.old (.cells #[.string vn, .int .u8 vk, .bool vl] 111)) hg9 (own_ne hown7 HZ7.out (by decide))
              have hT9 := blk_grown (HT7.out.old (.cells #[.string vn, .int .u8 vk, .bool vl] 111)) hg9 (own_ne hown7 HT7.out (by decide))
              have HW9 : Hid (WRo w9 g (tTable :: nm :: x :: y :: z :: cs)) := by
               have hW := HW7.out
               have ha7 : w7.heap.size ≤ (w7.alloc (.cells #[.string vn, .int .u8 vk, .bool vl] 111)).heap.size := by simp
               refine ⟨Nat.lt_of_lt_of_le hW.1 (Nat.le_trans ha7 hg9.size), fun j y hj => ?_⟩
               have hne : (Value.slice rA _ rc).ownBlock ≠ some g := fun e => by have := own_ge hown7 g e; omega
               refine (World.cell?_of_block (a := ⟨g, j, none⟩) (hg9.block g (Nat.lt_of_lt_of_le hW.1 ha7) (fun e => hne e.symm))).trans ?_
               exact (((by repeat (first | exact Below.refl _ _ | assumption | refine Below.drew ?_ | refine below_drewN ?_ _ | refine Below.alloc ?_ (by simp <;> omega) _)) : Below w7.heap.size w7 (w7.alloc (.cells #[.string vn, .int .u8 vk, .bool vl] 111))).cell (p := ⟨g, j, none⟩) hW.1).trans (hW.2 j y hj)
              have hb9 : Below w.heap.size w w9 := (HB7.out.alloc HB7.out.size (.cells #[.string vn, .int .u8 vk, .bool vl] 111)).grown hg9 (by have := HB7.out.size; simp; omega) (fun b hb => by have := own_ge hown7 b hb; omega)
              have hmp : ccells (dn ++ [⟨vn, vk, vl⟩]) = ccells dn ++ [.string vn, .int .u8 vk, .bool vl] := by simp [ccells]
              rw [← hmp] at hown9
              have HWF2 : Hid (∀ v ∈ dn ++ [(⟨vn, vk, vl⟩ : Co)], v.wf) := fun v hv => by
               rcases List.mem_append.1 hv with h | h
               · exact HWF.out v h
               · simp only [List.mem_singleton] at h; subst h; exact HUW.out
              clear hown7 HZ7 HT7 HV7 HB7 HW7 hmp hg9 t0 t1 t2 t3 t4 tl7 v9 v0 v1 v2
              obtain ⟨wa, rfl, lt⟩ := blk_put hT9
              obtain ⟨pc, pf, pS⟩ := putBlk_facts (w := wa) 66 lt
              have HO9 := hd_ (own_putlt hown9 (by omega) #[.string (bsO nm), .slice (some ⟨g8, 0, none⟩) (j + 1) c8, .int .i64 n1, .int .i64 n2, .int .i64 n3])
              have HT9 := hd_ (putBlk_blk (w := wa) (b := qt) #[.string (bsO nm), .slice (some ⟨g8, 0, none⟩) (j + 1) c8, .int .i64 n1, .int .i64 n2, .int .i64 n3] 66 lt)
              have HZ9 := hd_ (putBlk_old HZ9 (by omega) #[.string (bsO nm), .slice (some ⟨g8, 0, none⟩) (j + 1) c8, .int .i64 n1, .int .i64 n2, .int .i64 n3])
              have HB9 := hd_ (putBlk_belows hb9 (by omega) #[.string (bsO nm), .slice (some ⟨g8, 0, none⟩) (j + 1) c8, .int .i64 n1, .int .i64 n2, .int .i64 n3])
              have HW9 : Hid (WRo (putBlk wa qt #[.string (bsO nm), .slice (some ⟨g8, 0, none⟩) (j + 1) c8, .int .i64 n1, .int .i64 n2, .int .i64 n3] 66) g (tTable :: nm :: x :: y :: z :: cs)) := ⟨by have := HW9.out.1; rw [putBlk_size] at this ⊢; exact this, fun j y hj => (putBlk_cell_ne (by omega) _ _ _ _).trans (HW9.out.2 j y hj)⟩
              clear hown9 hT9 hb9
              go_wp2_with fail
              clear pc pf pS lt
              go_roundw
              case rel => exact ⟨j + 1, _, nb, some ⟨g8, 0, none⟩, c8, by omega, by go_num, rfl, HT2, HF2, by simp [hdl], HWF2, HO9.out, HZ9, HT9, HW9, HB9⟩
              case measure => simp [intOf]; omega
           · obtain rfl : j = cs.length := by omega
             have HTe := HTT.out
             have HFe := HFF.out
             rw [List.take_length] at HTe HFe
             have HP : Hid (RTbQ s.data.toList w.heap.size (.returned (.tuple #[.agg #[.string (bsO nm), .slice rA cs.length rc, .int .i64 n1, .int .i64 n2, .int .i64 n3], .bool okb])) (putBlk wr w.heap.size #[.string (bsO nm), .slice rA cs.length rc, .int .i64 n1, .int .i64 n2, .int .i64 n3] 66)) := by
              cases okb with
              | true =>
               obtain ⟨⟨g1, g2, g3⟩, g4⟩ := HTe rfl
               refine Or.inl ⟨⟨bsO nm, dn, n1, n2, n3, none, 0⟩, rA, rc, ?_, by simp only; omega, ?_, ?_, ?_⟩
               · rw [HRT.out, tabR_five, if_pos rfl, g1, g2, g3, g4]
               · unfold Ta.at_ Ta.cells
                 simp only
                 rw [hdl]
               · obtain ⟨wq, hwq, ltq⟩ := blk_put HZr.out
                 have ho := hown
                 rw [hwq] at ho
                 have := own_putlt ho (by omega) #[.string (bsO nm), .slice rA cs.length rc, .int .i64 n1, .int .i64 n2, .int .i64 n3]
                 rw [show putBlk wr w.heap.size #[.string (bsO nm), .slice rA cs.length rc, .int .i64 n1, .int .i64 n2, .int .i64 n3] 66 = putBlk wq w.heap.size #[.string (bsO nm), .slice rA cs.length rc, .int .i64 n1, .int .i64 n2, .int .i64 n3] 66 by rw [hwq, putputS]]
                 exact CRow.of_own HWF.out (by rw [hdl]; omega) hdl.symm this
               · intro p hp
                 subst hp
                 have := own_ge hown p.block rfl
                 omega
              | false =>
               refine Or.inr ⟨fun t ht => ?_, _, _, _, _, _, _, _, rfl⟩
               rw [HRT.out, tabR_five, if_pos rfl] at ht
               rcases HFe rfl with (h | h | h) | h
               · rw [h] at ht; cases ht
               · rw [h] at ht; cases h1 : longZ x <;> simp [h1] at ht
               · rw [h] at ht; cases h1 : longZ x <;> cases h2 : longZ y <;> simp [h1, h2] at ht
               · rw [h] at ht; cases h1 : longZ x <;> cases h2 : longZ y <;> cases h3 : longZ z <;> simp [h1, h2, h3] at ht
             have tl7 := HTr.out.lt
             obtain ⟨t0, t1, t2, t3, t4⟩ := blk5 HTr.out
             obtain ⟨wz, rfl, lt⟩ := blk_put HZr.out
             obtain ⟨pc, pf, pS⟩ := putBlk_facts (w := wz) 66 lt
             rw [putputS] at HP
             have HBF := hd_ (putBlk_belows HBr.out (Nat.le_refl _) #[.string (bsO nm), .slice rA cs.length rc, .int .i64 n1, .int .i64 n2, .int .i64 n3])
             have hjI : ¬ (5 + (cs.length : Int)) < (cs.length : Int) + 1 + 1 + 1 + 1 + 1 := by omega
             clear hown HBr HZr HTr HWr HTe HFe
             go_wp2_with fail
             refine bodyPost_ret (v := .tuple #[.agg #[.string (bsO nm), .slice rA cs.length rc, .int .i64 n1, .int .i64 n2, .int .i64 n3], .bool okb]) (by simp [results, Tryz.results92, go_sem, pc]) rfl ?_
             exact ⟨HP.out, HBF.out⟩
     · have hcmp : ((bsO x0).toList == [116, 97, 98, 108, 101]) = false := by
        refine Bool.eq_false_iff.2 fun e => ht ?_
        rw [ByteArray.toList_eq] at e
        exact beq_iff_eq.1 e
       have HNO : Hid (∀ t, readT s.data.toList = some t → 8 < t.cs.length) := fun t hu => by
        rw [HRT.out, tabR_tab ht] at hu
        cases hu
       clear h5 ht
       obtain ⟨wz, rfl, lt⟩ := blk_put HZ1.out
       obtain ⟨pc, pf, pS⟩ := putBlk_facts (w := wz) 66 lt
       have HBF := hd_ (putBlk_belows HB1.out (Nat.le_refl _) #[.string ⟨#[]⟩, .slice none 0 0, .int .i64 0, .int .i64 0, .int .i64 0])
       clear HZ1 HB1
       go_wp2_with fail
       refine bodyPost_ret (v := .tuple #[.agg #[.string ⟨#[]⟩, .slice none 0 0, .int .i64 0, .int .i64 0, .int .i64 0], .bool false]) (by simp [results, Tryz.results92, go_sem, pc]) rfl ?_
       exact ⟨Or.inr ⟨HNO.out, _, _, _, _, _, _, _, rfl⟩, HBF.out⟩
 · have HNO : Hid (∀ t, readT s.data.toList = some t → 8 < t.cs.length) := fun t ht => by
    unfold readT at ht
    rw [hws] at ht
    cases ht
   clear hws
   obtain ⟨wz, rfl, lt⟩ := blk_put HZ1.out
   obtain ⟨pc, pf, pS⟩ := putBlk_facts (w := wz) 66 lt
   have HBF := hd_ (putBlk_belows HB1.out (Nat.le_refl _) #[.string ⟨#[]⟩, .slice none 0 0, .int .i64 0, .int .i64 0, .int .i64 0])
   clear HZ1 HB1
   go_wp2_with fail
   refine bodyPost_ret (v := .tuple #[.agg #[.string ⟨#[]⟩, .slice none 0 0, .int .i64 0, .int .i64 0, .int .i64 0], .bool false]) (by simp [results, Tryz.results92, go_sem, pc]) rfl ?_
   exact ⟨Or.inr ⟨HNO.out, _, _, _, _, _, _, _, rfl⟩, HBF.out⟩
abbrev mHd : List Bool := [false, false, false, false, false, false, false, false, false, false, false, false, false, false, false, false, false, false, true, true, true, true, true, true, true, true, true, true, true, true, true, true, true, true, true, true, true, true, true, true, true, true, true, true, true, true, true, true, false, false, false, false, false, false, false, false, false, false, false, false, false, false, false, false, false, false, false, false, false, false, false, false, false, false, false, false, false, false, false, false, false, false, false, false, false, false, false, false, false, false, false, false, false, false]
def HdI (st : Ls) : Prop := (1 ≤ st.n → segB st.seg = true) ∧ (2 ≤ st.n → bdB st.bd = true) ∧ (st.n ≤ 2 → st.r0 = 0 ∧ st.r1 = 0 ∧ st.r2 = 0)
theorem HdI.line {st st' : Ls} {l : List UInt8} (h : lineF st l = some st') (hi : HdI st) : HdI st' := by
 unfold lineF at h
 split at h
 · next hn =>
   obtain ⟨i1, i2, i3⟩ := hi
   rcases headF_some h with ⟨h0, v, hv, _, rfl⟩ | ⟨h0, v, hv, _, rfl⟩ | ⟨h0, u, v, t, hv, _, rfl⟩
   · exact ⟨fun _ => hv, fun e => absurd e (by simp), fun _ => i3 (by omega)⟩
   · exact ⟨fun _ => i1 (by omega), fun _ => hv, fun _ => i3 (by omega)⟩
   · exact ⟨fun _ => i1 (by omega), fun _ => i2 (by omega), fun e => absurd e (by simp)⟩
 · next hn =>
   obtain ⟨i1, i2, i3⟩ := hi
   rcases bodyF_some h with ⟨t, _, _, _, rfl⟩ | ⟨a, _, _, rfl⟩
   · exact ⟨fun _ => i1 (by omega), fun _ => i2 (by omega), fun e => absurd e (by simp only; omega)⟩
   · exact ⟨fun _ => i1 (by omega), fun _ => i2 (by omega), fun e => absurd e (by simp only; omega)⟩
theorem HdI.zero : HdI Ls0 := ⟨fun e => absurd e (by simp [Ls0]), fun e => absurd e (by simp [Ls0]), fun _ => ⟨rfl, rfl, rfl⟩⟩
def Since (N : Nat) (w w' : World) : Prop := w.heap.size ≤ w'.heap.size ∧ ∀ k, N ≤ k → k < w.heap.size → w'.heap[k]? = w.heap[k]?
theorem Since.blk {N b : Nat} {w w' : World} {cs : Array Value} {t : TypeId} (h : Since N w w') (hk : Blk w b cs t) (hb : N ≤ b) : Blk w' b cs t := (h.2 b hb hk.lt).trans hk
theorem Since.put {N b : Nat} {w : World} {cs : Array Value} {t : TypeId} (hb : b < N) (ds : Array Value) : Since N (putBlk w b cs t) (putBlk w b ds t) := by
 refine ⟨by rw [putBlk_size, putBlk_size]; exact Nat.le_refl _, fun k hk _ => ?_⟩
 unfold putBlk
 simp only
 rw [Array.getElem?_setIfInBounds_ne (by omega), Array.getElem?_setIfInBounds_ne (by omega)]
def OneP (w : World) (r : Ending) (w' : World) : Prop := ∃ g t, r = .returned (.agg #[.slice (some ⟨g, 0, none⟩) 1 1]) ∧ (∀ W, Since w.heap.size w' W → TRow W (some ⟨g, 0, none⟩) 1 [t]) ∧ schB [t] = true
def oneC : Co := ⟨bsO [97], 2, false⟩
theorem one_sch (A : Option Addr) (k : Nat) : schB [⟨bsO [97], [oneC], 0, -1, -1, A, k⟩] = true := by
 rw [← sch_z]
 show schB [⟨bsO [97], [oneC], 0, -1, -1, none, 0⟩] = true
 decide +kernel
theorem oneC_wf : oneC.wf := by
 unfold oneC Co.wf
 simp only
 rw [bsO_size]
 decide
theorem one_wf (A : Option Addr) (k : Nat) : Ta.wf ⟨bsO [97], [oneC], 0, -1, -1, A, k⟩ := by
 have h := (ex_wf exT (by simp [exC])).1
 exact h
theorem refone_any (w : World) : Calls Tryz.prog 126 #[] w fun r w' => OneP w r w' ∧ Below w.heap.size w w' := by
 have W : ∀ W6 : World, W6 = (((w.alloc (.cells #[.slice (some ⟨w.heap.size + 1 + 1, 0, none⟩) 1 1] 24)).alloc (.cells #[.string ⟨#[97]⟩, .int .u8 2, .bool false] 111)).alloc (.cells #[.string ⟨#[97]⟩, .slice (some ⟨w.heap.size + 1, 0, none⟩) 1 1, .int .i64 0, .int .i64 (-1), .int .i64 (-1)] 66)) →
   Blk W6 w.heap.size #[.slice (some ⟨w.heap.size + 1 + 1, 0, none⟩) 1 1] 24 ∧ Blk W6 (w.heap.size + 1) #[.string ⟨#[97]⟩, .int .u8 2, .bool false] 111 ∧ Blk W6 (w.heap.size + 1 + 1) #[.string ⟨#[97]⟩, .slice (some ⟨w.heap.size + 1, 0, none⟩) 1 1, .int .i64 0, .int .i64 (-1), .int .i64 (-1)] 66 ∧ Below w.heap.size w W6 := by
  rintro W6 rfl
  exact ⟨(by repeat (first | exact Blk.at (by simp) | assumption | refine Blk.drew ?_ | refine Blk.old ?_ _)), (by repeat (first | exact Blk.at (by simp) | assumption | refine Blk.drew ?_ | refine Blk.old ?_ _)), (by repeat (first | exact Blk.at (by simp) | assumption | refine Blk.drew ?_ | refine Blk.old ?_ _)), (by repeat (first | exact Below.refl _ _ | assumption | refine Below.drew ?_ | refine below_drewN ?_ _ | refine Below.alloc ?_ (by simp <;> omega) _))⟩
 go_enter Tryz.func126, Tryz.ntmps126
 go_wp2_with fail
 obtain ⟨k0, k1, k2, kb⟩ := W _ rfl
 clear W
 generalize (((w.alloc (.cells #[.slice (some ⟨w.heap.size + 1 + 1, 0, none⟩) 1 1] 24)).alloc (.cells #[.string ⟨#[97]⟩, .int .u8 2, .bool false] 111)).alloc (.cells #[.string ⟨#[97]⟩, .slice (some ⟨w.heap.size + 1, 0, none⟩) 1 1, .int .i64 0, .int .i64 (-1), .int .i64 (-1)] 66)) = W6 at k0 k1 k2 kb ⊢
 have d0 := k0.cell 0
 have d9 := k0.lt
 simp only [List.getElem?_toArray, List.getElem?_cons_zero] at d0
 refine bodyPost_ret (v := .agg #[.slice (some ⟨w.heap.size + 1 + 1, 0, none⟩) 1 1]) (by simp [results, Tryz.results126, go_sem, d0]) rfl ?_
 refine ⟨⟨w.heap.size + 1 + 1, ⟨bsO [97], [oneC], 0, -1, -1, some ⟨w.heap.size + 1, 0, none⟩, 1⟩, rfl, fun V hV => ?_, one_sch _ _⟩, kb⟩
 exact trow1 (one_wf _ _) (crow1 oneC_wf (hV.blk k1 (by omega))) (hV.blk k2 (by omega))
def HeadR (st : Ls) (l : List UInt8) (a c : Value) (N b : Nat) (w : World) (r : Ending) (w' : World) : Prop :=
 (∃ st', headF st l = some st' ∧ r = .returned (.bool true) ∧ w.grownBy w' (some b) ∧ Blk w' b (rdArr a c st' N) 91) ∨
 (headF st l = none ∧ r = .returned (.bool false) ∧ w.grownBy w' (some b) ∧ ∃ x, Blk w' b (rdArr a c x N) 91)
theorem refhead_0 (st : Ls) (hn : st.n = 0) (hI : HdI st) (s : ByteArray) (hs : s.size ≤ 1000000) (A : Option Addr) (nT kT : Nat) (c : Value) (N b : Nat) (w : World) (hB : Blk w b (rdArr (.slice A nT kT) c st N) 91) :
  Calls Tryz.prog 91 #[.pointer (some ⟨b, 0, none⟩), .int .i64 0, .string s] w (HeadR st s.data.toList (.slice A nT kT) c N b w) := by
 have HWD := hd_ (refwords_any s (by omega) w)
 have HR0 : Hid (Blk w b #[.slice A nT kT, .int .i64 st.seg, .int .i64 st.bd, .int .i64 st.r0, .int .i64 st.r1, .int .i64 st.r2, c, .int .i64 N, .bool st.acts] 91) := hB
 have hbl := hB.lt
 have HIN := hd_ hI
 clear hB hI
 go_enter Tryz.func91, Tryz.ntmps91
 go_wp2_with fail
 refine HWD.out.mono ?_
 rintro r w1 ⟨hr, hb1⟩
 have HB1 := hd_ hb1
 have HR1 := hd_ (HR0.out.ext hb1)
 clear hb1 HR0 HWD
 rcases hr with ⟨ws, sv, hws, rfl, hown⟩ | ⟨sv, hws, rfl⟩
 · obtain ⟨hne, _, hjn⟩ := wordsF_some.1 hws
   have hsl : s.data.toList.length = s.size := by simp
   have hlw : ws.length ≤ 1000001 := by
    have := jn_ge 32 ws
    rw [hjn] at this
    omega
   obtain ⟨x0, wr, rfl⟩ : ∃ x rest, ws = x :: rest := by
    cases ws with
    | nil => exact absurd rfl hne
    | cons x rest => exact ⟨x, rest, rfl⟩
   obtain ⟨g, cap, rfl, hgb, hglt⟩ := hown.form (by simp)
   have hwr : WRo w1 g (x0 :: wr) := ⟨hglt, fun j y hj => by
    have hc := hown.cells (g := g) rfl j (.string (bsO y)) (by unfold wsC; rw [List.getElem?_map, hj]; rfl)
    rw [addr_addS, Nat.zero_add] at hc
    exact hc⟩
   have HW1 := hd_ hwr
   have HWF := hd_ hws
   have HGB : Hid (g ≠ b) := by show _ ≠ _; omega
   have HHN := hd_ (fun hx => headF_name (st := st) hws (by omega) hx)
   rw [hn] at HHN
   clear hown hne hjn hwr hws hsl
   simp only [List.length_cons] at hlw ⊢
   go_upto_region 2 with fail
   go_cut [47] (fun v wx => ∃ bad : Bool, v = .bool bad ∧ (bad = true → headF st s.data.toList = none) ∧ (bad = false → x0 = hdN 0 ∧ (x0 :: wr).length = hdK 0) ∧ Hid (Blk wx b #[.slice A nT kT, .int .i64 st.seg, .int .i64 st.bd, .int .i64 st.r0, .int .i64 st.r1, .int .i64 st.r2, c, .int .i64 N, .bool st.acts] 91) ∧ Hid (WRo wx g (x0 :: wr)) ∧ Hid (Below w.heap.size w wx))
   case first =>
    by_cases hcn : (x0 :: wr).length = hdK 0
    · have HCN := hd_ hcn
      have hcB : ((wr.length : Int) + 1 != 2) = false := by
       have hcL : wr.length = 1 := by simpa [hdK] using hcn
       rw [hcL]
       decide
      have hcE : ((wr.length : Int) + 1 == 2) = true := by
       have hcL : wr.length = 1 := by simpa [hdK] using hcn
       rw [hcL]
       decide
      clear hcn
      obtain ⟨bn, hbn⟩ : ∃ bn, bn = !decide (x0 = hdN 0) := ⟨_, rfl⟩
      have hcmp : ((bsO x0).toList == (bsO (hdN 0)).toList) = !bn := by rw [str_eqb, hbn]; simp
      have HBT : Hid (bn = true → headF st s.data.toList = none) := fun e => HHN.out (fun h => by rw [hbn, h.1] at e; simp at e)
      have HBF : Hid (bn = false → x0 = hdN 0 ∧ (x0 :: wr).length = hdK 0) := fun e => ⟨by rw [hbn] at e; simpa using e, HCN.out⟩
      clear hbn
      refine region_grow mHd [18, 19, 20, 21, 22, 23, 24, 25, 26, 27, 28, 29, 30, 31, 32, 33, 34, 35, 36, 37, 38, 39, 40, 41, 42, 43, 44, 45, 46, 47] [.val (.bool true), .val (.bool false), .val (.bool false), .val (.int .i64 0), .val (.bool true), .val (.bool true), .val (.slice (some ⟨g, 0, none⟩) (wr.length + 1) cap), .val (.int .i64 ((wr.length + 1 : Nat) : Int)), .val (.bool false), .val (.bool false), .val (.bool false), .val (.bool false), .val (.int .i64 0), .val (.bool false), .val (.bool false), kU, kU, kU, .val (.bool false), .val (.bool false), .val (.bool false), .val (.slice (some ⟨g, 0, none⟩) (wr.length + 1) cap), .val (.pointer (some ⟨g, 0, none⟩)), .val (.string (bsO x0)), .new (fun g => .slice (some ⟨g, 0, none⟩) 3 3) namesC 9, .val (.int .i64 0), kNmAt 0, .val (.string (bsO (hdN 0))), .val (.bool bn), .val (.bool bn)] [29] (by kernel_rfl) (by kernel_rfl) (by kernel_rfl) (by kernel_rfl) (by kernel_rfl) ⟨?_, ?_, ?_, ?_, ?_, ?_, ?_, ?_, ?_, ?_, ?_, ?_, ?_, ?_, ?_, ?_, ?_, ?_, ?_, ?_, ?_, ?_, ?_, ?_, ?_, ?_, ?_, ?_, ?_, ?_, trivial⟩ ?done
      case done =>
       intro z w2 hb2
       simp only [StepGoal, overlay, upd, k_1, k_2, k_3, k_4, Nat.zero_add, Nat.reduceAdd, Nat.reduceEqDiff, reduceIte]
       have HX := hd_ (bt HB1.out hb2)
       have HY := hd_ (HR1.out.ext hb2)
       have HW := hd_ (HW1.out.ext hb2)
       clear hb2
       go_wp2_with fail
       go_meet
       exact ⟨bn, rfl, HBT.out, HBF.out, HY, HW, HX⟩
      all_goals
       intro z w2 hb2
       have e0 := (HW1.out.ext hb2).2 0 x0 rfl
       have gl := (HW1.out.ext hb2).1
       have h01 : (0 : Int) < (wr.length : Int) + 1 := by omega
       first
        | (intro K hK
           rw [if_pos (by rfl)]; simp only [overlay, upd, k_1, k_2, k_3, k_4, Nat.reduceEqDiff, reduceIte]
           go_simp
           first
            | exact hK.out _ _ (Below.refl _ _) rfl
            | exact hK.out _ _ (bel1 _ _) ⟨_, rfl, Blk.new _ _ _⟩)
        | (intro K hK
           rw [if_neg (by intro e; cases e)]
           exact hK.out undef _ (Below.refl _ _) rfl)
        | (intro bq hq K hK
           have hlt := hq.lt
           rw [if_pos (by rfl)]; simp only [overlay, upd, k_1, k_2, k_3, k_4, Nat.reduceEqDiff, reduceIte]
           go_simp
           exact hK.out _ _ (Below.refl _ _) ⟨_, rfl, hq⟩)
        | (rintro v ⟨g2, rfl, hg2⟩ K hK
           have hce := names_cell hg2 (show 0 < 3 by omega)
           have hlt := hg2.lt
           rw [if_pos (by rfl)]; simp only [overlay, upd, k_1, k_2, k_3, k_4, Nat.reduceEqDiff, reduceIte]
           go_simp
           exact hK.out _ _ (Below.refl _ _) rfl)
    · have hcI : ¬ ((wr.length : Int) + 1 = 2) := by simp [hdK] at hcn; omega
      have hcB : ((wr.length : Int) + 1 != 2) = true := by simpa using hcI
      have hcE : ((wr.length : Int) + 1 == 2) = false := by simpa using hcI
      have HN : Hid (headF st s.data.toList = none) := HHN.out (fun e => hcn e.2)
      refine region_grow mHd [18, 19, 20, 21, 22, 23, 24, 25, 26, 27, 28, 29, 30, 31, 32, 33, 34, 35, 36, 37, 38, 39, 40, 41, 42, 43, 44, 45, 46, 47] [.val (.bool true), .val (.bool false), .val (.bool false), .val (.int .i64 0), .val (.bool true), .val (.bool true), .val (.slice (some ⟨g, 0, none⟩) (wr.length + 1) cap), .val (.int .i64 ((wr.length + 1 : Nat) : Int)), .val (.bool true), .val (.bool true), .val (.bool true), .val (.bool true), kU, kU, kU, kU, kU, kU, kU, .val (.bool true), .val (.bool true), kU, kU, kU, kU, kU, kU, kU, kU, .val (.bool true)] [29] (by kernel_rfl) (by kernel_rfl) (by kernel_rfl) (by kernel_rfl) (by kernel_rfl) ⟨?_, ?_, ?_, ?_, ?_, ?_, ?_, ?_, ?_, ?_, ?_, ?_, ?_, ?_, ?_, ?_, ?_, ?_, ?_, ?_, ?_, ?_, ?_, ?_, ?_, ?_, ?_, ?_, ?_, ?_, trivial⟩ ?done
      case done =>
       intro z w2 hb2
       simp only [StepGoal, overlay, upd, k_1, k_2, k_3, k_4, Nat.zero_add, Nat.reduceAdd, Nat.reduceEqDiff, reduceIte]
       have HX := hd_ (bt HB1.out hb2)
       have HY := hd_ (HR1.out.ext hb2)
       have HW := hd_ (HW1.out.ext hb2)
       clear hb2
       go_wp2_with fail
       go_meet
       exact ⟨true, rfl, (fun _ => HN.out), (fun e => nomatch e), HY, HW, HX⟩
      all_goals
       intro z w2 hb2
       have e0 := (HW1.out.ext hb2).2 0 x0 rfl
       have gl := (HW1.out.ext hb2).1
       have h01 : (0 : Int) < (wr.length : Int) + 1 := by omega
       first
        | (intro K hK
           rw [if_pos (by rfl)]; simp only [overlay, upd, k_1, k_2, k_3, k_4, Nat.reduceEqDiff, reduceIte]
           go_simp
           first
            | exact hK.out _ _ (Below.refl _ _) rfl
            | exact hK.out _ _ (bel1 _ _) ⟨_, rfl, Blk.new _ _ _⟩)
        | (intro K hK
           rw [if_neg (by intro e; cases e)]
           exact hK.out undef _ (Below.refl _ _) rfl)
        | (intro bq hq K hK
           have hlt := hq.lt
           rw [if_pos (by rfl)]; simp only [overlay, upd, k_1, k_2, k_3, k_4, Nat.reduceEqDiff, reduceIte]
           go_simp
           exact hK.out _ _ (Below.refl _ _) ⟨_, rfl, hq⟩)
        | (rintro v ⟨g2, rfl, hg2⟩ K hK
           have hce := names_cell hg2 (show 0 < 3 by omega)
           have hlt := hg2.lt
           rw [if_pos (by rfl)]; simp only [overlay, upd, k_1, k_2, k_3, k_4, Nat.reduceEqDiff, reduceIte]
           go_simp
           exact hK.out _ _ (Below.refl _ _) rfl)
   case rest =>
    obtain ⟨bad, rfl, hbad, hgood, HY, HW, HXb⟩ := hcut
    cases bad with
    | true =>
     have HN := hd_ (hbad rfl)
     clear hbad hgood
     go_wp2_with fail
     go_ret
     exact Or.inr ⟨HN.out, rfl, gr_below HXb.out, st, HY.out⟩
    | false =>
     obtain ⟨hx0, hcn⟩ := hgood rfl
     clear hbad hgood
     obtain ⟨x1, rfl⟩ : ∃ x1, wr = [x1] := by
      rcases wr with _ | ⟨x1, _ | ⟨x2, wr⟩⟩
      · simp [hdK] at hcn
      · exact ⟨x1, rfl⟩
      · simp [hdK] at hcn
     have HR := hd_ (headF_seg (x := x1) (by rw [HWF.out, hx0]; rfl) hn)
     clear hcn hx0 HR1 HW1 HB1 HWF HHN
     simp only [List.length_cons, List.length_nil, Nat.zero_add, Nat.reduceAdd]
     have HX : Hid (w.grownBy wc (some b)) := gr_below HXb.out
     clear HXb
     obtain ⟨WS, hWS⟩ : ∃ WS, WS = x0 :: [x1] := ⟨_, rfl⟩
     have HNB := hd_ (fun (t : List UInt8) (W : World) => refnumber_any (bsO t) W)
     rw [← hWS] at HW
     have HWS := hd_ hWS
     go_wp2_with fail
     refine wp_loop_rounds 2 ?_
     rw [rounds_succ]
     have e1 := HW.out.2 1 x1 (by rw [HWS.out]; rfl)
     have gl := HW.out.1
     go_wp2_with fail
     clear e1 gl
     refine (HNB.out x1 _).mono ?_
     rintro r w1a ⟨⟨v, hxv, hor⟩, hb⟩
     have HW1 := hd_ (HW.out.ext hb)
     have HY1 := hd_ (HY.out.ext hb)
     have HX1 := hd_ (gr_trans HX.out (gr_below (row := some b) hb))
     clear hb HW HY HX
     have hor : (longZ x1 = some v ∧ _) ∨ (longZ x1 = none ∧ _) := hor
     rcases hor with ⟨hzv, rfl⟩ | ⟨hzv, rfl⟩
     case inr =>
      have HN : Hid (headF st s.data.toList = none) := by
       show _ = _
       rw [HR.out, hzv]
      clear hzv hxv
      go_wp2_with fail
      go_ret
      exact Or.inr ⟨HN.out, rfl, HX1.out, st, HY1.out⟩
     have HZv := hd_ hzv
     have HIv := hd_ hxv
     clear hzv hxv
     have hy1 : Blk w1a b #[.slice A nT kT, .int .i64 st.seg, .int .i64 st.bd, .int .i64 st.r0, .int .i64 st.r1, .int .i64 st.r2, c, .int .i64 N, .bool st.acts] 91 := HY1.out
     obtain ⟨w1b, rfl, lt⟩ := blk_put hy1
     obtain ⟨pc, pf, pS⟩ := putBlk_facts (w := w1b) 91 lt
     have HY := hd_ (putBlk_blk (w := w1b) (b := b) #[.slice A nT kT, .int .i64 v, .int .i64 st.bd, .int .i64 st.r0, .int .i64 st.r1, .int .i64 st.r2, c, .int .i64 N, .bool st.acts] 91 lt)
     have HX := hd_ (gr_trans HX1.out (gr_put w1b b #[.slice A nT kT, .int .i64 st.seg, .int .i64 st.bd, .int .i64 st.r0, .int .i64 st.r1, .int .i64 st.r2, c, .int .i64 N, .bool st.acts] #[.slice A nT kT, .int .i64 v, .int .i64 st.bd, .int .i64 st.r0, .int .i64 st.r1, .int .i64 st.r2, c, .int .i64 N, .bool st.acts] 91))
     have HW : Hid (WRo (putBlk w1b b #[.slice A nT kT, .int .i64 v, .int .i64 st.bd, .int .i64 st.r0, .int .i64 st.r1, .int .i64 st.r2, c, .int .i64 N, .bool st.acts] 91) g WS) := ⟨by have := HW1.out.1; rw [putBlk_size] at this ⊢; exact this, fun j y hj => (putBlk_cell_ne HGB.out _ _ _ _).trans (HW1.out.2 j y hj)⟩
     clear hy1 HY1 HX1 HW1
     go_wp2_with fail
     clear pc pf pS lt
     generalize putBlk w1b b #[.slice A nT kT, .int .i64 v, .int .i64 st.bd, .int .i64 st.r0, .int .i64 st.r1, .int .i64 st.r2, c, .int .i64 N, .bool st.acts] 91 = w1c at HY HX HW ⊢
     rw [rounds_succ]
     obtain ⟨bl, y0, y1, y2, y3, y4, y5, y6, y7, y8⟩ := blk9 HY.out
     have hbn : Below w1c.heap.size w1c (w1c.alloc (.cells #[.slice A nT kT, .int .i64 v, .int .i64 st.bd, .int .i64 st.r0, .int .i64 st.r1, .int .i64 st.r2] 27)) := bel1 _ _
     have HY4 := hd_ (HY.out.ext hbn)
     have HXL := hd_ HX.out
     have HBL := hd_ hbn
     have HC4 := hd_ (Blk.new w1c #[.slice A nT kT, .int .i64 v, .int .i64 st.bd, .int .i64 st.r0, .int .i64 st.r1, .int .i64 st.r2] 27)
     have hxc : b ≠ w1c.heap.size := by omega
     clear hbn HX HY HW HNB
     go_upto_region 17 with fail
     clear bl y0 y1 y2 y3 y4 y5 y6 y7 y8
     generalize w1c.alloc (.cells #[.slice A nT kT, .int .i64 v, .int .i64 st.bd, .int .i64 st.r0, .int .i64 st.r1, .int .i64 st.r2] 27) = w5 at HY4 HBL HC4 ⊢
     obtain ⟨xc, hxe⟩ : ∃ xc, xc = w1c.heap.size := ⟨_, rfl⟩
     rw [← hxe] at hxc HC4 ⊢
     have hxl : w1c.heap.size ≤ xc := by omega
     clear hxe
     go_wp2_with fail
     refine (refone_any _).mono ?_
     rintro r w6 ⟨⟨g1, t1, rfl, hT1, hs1⟩, hb6⟩
     have hy6 := HY4.out.ext hb6
     have hl5 := HC4.out.lt
     have hc6 := HC4.out.ext hb6
     have hb6' := bt HBL.out hb6
     obtain ⟨w7, rfl, lt⟩ := blk_put hc6
     obtain ⟨pc, pf, pS⟩ := putBlk_facts (w := w7) 27 lt
     have HYF := hd_ (putBlk_old hy6 hxc #[.slice (some ⟨g1, 0, none⟩) 1 1, .int .i64 v, .int .i64 1, .int .i64 st.r0, .int .i64 st.r1, .int .i64 st.r2])
     have HBF := hd_ (putBlk_belows hb6' hxl #[.slice (some ⟨g1, 0, none⟩) 1 1, .int .i64 v, .int .i64 1, .int .i64 st.r0, .int .i64 st.r1, .int .i64 st.r2])
     have HCF := hd_ (putBlk_blk (w := w7) (b := xc) #[.slice (some ⟨g1, 0, none⟩) 1 1, .int .i64 v, .int .i64 1, .int .i64 st.r0, .int .i64 st.r1, .int .i64 st.r2] 27 lt)
     have HTF := hd_ (hT1 (putBlk w7 xc #[.slice (some ⟨g1, 0, none⟩) 1 1, .int .i64 v, .int .i64 1, .int .i64 st.r0, .int .i64 st.r1, .int .i64 st.r2] 27) (Since.put hl5 #[.slice (some ⟨g1, 0, none⟩) 1 1, .int .i64 v, .int .i64 1, .int .i64 st.r0, .int .i64 st.r1, .int .i64 st.r2]))
     have HS1 := hd_ hs1
     clear hy6 hc6 hb6 hb6' hT1 hs1 hl5 HY4 HC4 HBL
     go_upto_region 20 with fail
     clear pc pf pS lt
     generalize putBlk w7 xc #[.slice (some ⟨g1, 0, none⟩) 1 1, .int .i64 v, .int .i64 1, .int .i64 st.r0, .int .i64 st.r1, .int .i64 st.r2] 27 = w8 at HYF HBF HCF HTF ⊢
     obtain ⟨d9, d0, d1, d2, d3, d4, d5⟩ := blk6 HCF.out
     have HMY := hd_ (refconf_any v 1 st.r0 st.r1 st.r2 [t1] (some ⟨g1, 0, none⟩) 1 w8 HTF.out)
     obtain ⟨tst, htst⟩ : ∃ q, q = (segB v) := ⟨_, rfl⟩
     rw [show confB ⟨v, 1, st.r0, st.r1, st.r2, [t1]⟩ = tst by
      obtain ⟨i1, i2, i3⟩ := HIN.out
      rw [htst]
      obtain ⟨j0, j1, j2⟩ := i3 (by omega)
      simp [confB, rmB, bdB, HS1.out, j0, j1, j2]] at HMY
     unfold Cf.agg at HMY
     simp only [List.length_singleton] at HMY
     have HTS := hd_ htst
     clear htst
     go_wp2_with fail
     refine HMY.out.mono ?_
     rintro r w9 ⟨rfl, hb9⟩
     have HXZ := hd_ (gr_trans HXL.out (gr_below (row := some b) (bt HBF.out hb9)))
     have HYZ := hd_ (HYF.out.ext hb9)
     clear hb9 d9 d0 d1 d2 d3 d4 d5 HMY
     go_wp2_with fail
     go_ret
     cases tst with
     | true => exact Or.inl ⟨{ st with seg := v, n := 1 }, by have h := HTS.out; rw [HR.out, HZv.out]; simp only; rw [if_pos h.symm], rfl, HXZ.out, HYZ.out⟩
     | false => exact Or.inr ⟨by have h := HTS.out; rw [HR.out, HZv.out]; simp only; rw [if_neg (by rw [← h]; simp)], rfl, HXZ.out, { st with seg := v }, HYZ.out⟩
 · have HN : Hid (headF st s.data.toList = none) := by show _ = _; unfold headF; rw [hws]
   clear hws
   go_upto_region 2 with fail
   refine region_grow mHd [18, 19, 20, 21, 22, 23, 24, 25, 26, 27, 28, 29, 30, 31, 32, 33, 34, 35, 36, 37, 38, 39, 40, 41, 42, 43, 44, 45, 46, 47] [.val (.bool false), .val (.bool true), .val (.bool true), kU, kU, kU, kU, kU, kU, kU, .val (.bool true), .val (.bool true), kU, kU, kU, kU, kU, kU, kU, .val (.bool true), .val (.bool true), kU, kU, kU, kU, kU, kU, kU, kU, .val (.bool true)] [29] (by kernel_rfl) (by kernel_rfl) (by kernel_rfl) (by kernel_rfl) (by kernel_rfl) ⟨?_, ?_, ?_, ?_, ?_, ?_, ?_, ?_, ?_, ?_, ?_, ?_, ?_, ?_, ?_, ?_, ?_, ?_, ?_, ?_, ?_, ?_, ?_, ?_, ?_, ?_, ?_, ?_, ?_, ?_, trivial⟩ ?done
   case done =>
    intro z w2 hb2
    simp only [StepGoal, overlay, upd, k_1, k_2, k_3, k_4, Nat.zero_add, Nat.reduceAdd, Nat.reduceEqDiff, reduceIte]
    have HX := hd_ (bt HB1.out hb2)
    have HY := hd_ (HR1.out.ext hb2)
    clear hb2 HB1 HR1
    go_wp2_with fail
    go_ret
    exact Or.inr ⟨HN.out, rfl, gr_below HX.out, st, HY.out⟩
   all_goals
    intro z w2 hb2
    first
     | (intro K hK
        rw [if_pos (by rfl)]; simp only [overlay, upd, k_1, k_2, k_3, k_4, Nat.reduceEqDiff, reduceIte]
        go_simp
        exact hK.out _ _ (Below.refl _ _) rfl)
     | (intro K hK
        rw [if_neg (by intro e; cases e)]
        exact hK.out undef _ (Below.refl _ _) rfl)
end Go.Proofs.YtfekohonidggjaaGreatDoor
