/- Texts joined by a tool: contracts and walks of this claim. -/
import Derived.Test.YtceoficoappkpaaGreatDoorF11
namespace Go.Proofs.YtceoficoappkpaaGreatDoor
open Go.RowKit Go.Shelf
attribute [local go_sem] Oper.semAt_some

set_option maxRecDepth 100000 in
theorem neqv_self (k n r : Int) (t : ByteArray) (w : World) : (binOp .neq 47 (.agg #[.int .u8 k, .int .i64 n, .int .u64 r, .string t]) (.agg #[.int .u8 k, .int .i64 n, .int .u64 r, .string t])).run Tryz.prog w = .ok (.bool false) w := by go_simp
theorem lkR_ok {c k : Int} {l : List V} (h : lkOk k l = true) : lkR c k l = .tuple #[.string (lkB c k l), .int .i64 0] := by unfold lkR; rw [h]; rfl
theorem prB_key {c : Int} {j : Nat} {l : List V} (v : ByteArray) (g : Bool) (h : lkOk j l = true) (h2 : l.length ≤ 2) (hv : v.size ≤ 262144) (hg : g = false ∨ v.size = 0) : prB ⟨lkB c j l, v, g⟩ = true := by
 have h1 := lkL_len (c := c) h
 have h0 : 1 ≤ (lkL c j l).length := by unfold lkL; simp
 have e : (lkB c j l).size = (lkL c j l).length := rfl
 unfold prB
 simp only [e]
 rw [decide_eq_true h0, decide_eq_true (by omega : (lkL c j l).length ≤ 512), decide_eq_true hv]
 rcases hg with rfl | hg
 · rfl
 · rw [decide_eq_true hg]; simp
set_option maxRecDepth 100000 in
set_option maxHeartbeats 6400000 in
theorem form_go (ts : List Ta) (tb0 off : Nat) (c : Nat) (j : Nat) (ta : Ta) (ke : Nat) (k : V) (tx : ByteArray) (w : World) (hL : LayX w) (ht : TRow w (some ⟨tb0, off, none⟩) c ts) (hk : k.wf) (hkt : k.t.size + tx.size ≤ 4096) (hyes : keyS ts j k = true)
  (hj : ts[j]? = some ta) (hj12 : j < 12) (hke : ta.key = ke) (hkm : mayB k = true) (hk0 : k.k ≠ 0) (href : ta.ref < 0 ∨ ∃ re : Nat, ta.ref = re) (hs : schB ts = true)
  (HLG : Hid (∀ W : World, Below w.heap.size w W → Calls Tryz.prog 16 #[.agg #[.slice (some ⟨tb0, off, none⟩) ts.length c]] W (BoolP W))) :
  Calls Tryz.prog 5 #[.agg #[.slice (some ⟨tb0, off, none⟩) ts.length c], .int .i64 j, k.agg, .string tx] w fun q w' => q = .returned (.bool true) ∧ Below w.heap.size w w' := by
 have HAL := hd_ (fun (W : World) (hW : Below w.heap.size w W) => alive26_any W (hL.ext hW))
 have HKS := hd_ (fun (W : World) (hW : Below w.heap.size w W) => refkey13_any ts (some ⟨tb0, off, none⟩) c j k W (ht.ext hW) hk (hL.ext hW).1)
 rw [hyes] at HKS
 have hok1 := lk_one hj12 hkm
 have hok2 := lk_two hj12 hkm hkm
 have HROW := hd_ (fun (W : World) (hW : Below w.heap.size w W) => ixrow_any j k hk W (hL.ext hW))
 have HREF := hd_ (fun (W : World) (hW : Below w.heap.size w W) => ixref_any j k k hk hk W (hL.ext hW))
 rw [lkR_ok hok1] at HROW
 rw [lkR_ok hok2] at HREF
 have HT := hd_ (fun (W : World) (hW : Below w.heap.size w W) => ht.ext hW)
 have HLX := hd_ (fun (W : World) (hW : Below w.heap.size w W) => hL.ext hW)
 have HJ := hd_ (And.intro hj hke)
 have HRF := hd_ href
 have HK0 := hd_ hk0
 have hjl : j < ts.length := (List.getElem?_eq_some_iff.1 hj).1
 have hts := ht.2.1
 have HTX : Hid (tx.size ≤ 262144 ∧ tx.size ≤ 140737488355328) := ⟨by omega, by omega⟩
 have HRO := hd_ (fun (B v kk m : Nat) (t : Tr) (W : World) (hW : Below w.heap.size w W) (hv : VwR W B v kk m t) (htl : t.toL = [⟨lkB 114 j [k], tx, false⟩]) => row_out B v kk m t ts tb0 off c j ta k ⟨lkB 114 j [k], tx, false⟩ ke W hv (ht.ext hW) hk (hL.ext hW) hyes hok1 (by rw [htl]; simp [findP]) rfl (by show tx.size ≤ _; omega) hj hke)
 have HRG := hd_ (fun (B v kk m : Nat) (t : Tr) (W : World) (hW : Below w.heap.size w W) (hv : VwR W B v kk m t) (htl : t.toL = [⟨lkB 102 j [k, k], ⟨#[]⟩, false⟩, ⟨lkB 114 j [k], ⟨#[]⟩, true⟩]) => row_gone B v kk m t ts (some ⟨tb0, off, none⟩) c j k ⟨lkB 114 j [k], ⟨#[]⟩, true⟩ W hv (ht.ext hW) hk (hL.ext hW) hyes hok1 (by rw [htl]; exact find_two j [k] [k, k] _ _ _ _) rfl)
 have HRR := hd_ (fun (A2 : Option Addr) (c2 : Nat) (l : List V) (W : World) (hW : Below w.heap.size w W) (hv : VRow W A2 l) => refrow13_any ts (some ⟨tb0, off, none⟩) A2 c c2 j l W (ht.ext hW) hv (hL.ext hW).1)
 have HPA : Hid (prB ⟨lkB 114 j [k], tx, false⟩ = true ∧ prB ⟨lkB 114 j [k], ⟨#[]⟩, true⟩ = true ∧ prB ⟨lkB 102 j [k, k], ⟨#[]⟩, false⟩ = true) := ⟨prB_key tx false hok1 (by simp) (by omega) (Or.inl rfl), prB_key ⟨#[]⟩ true hok1 (by simp) (by decide) (Or.inr rfl), prB_key ⟨#[]⟩ false hok2 (by simp) (by decide) (Or.inl rfl)⟩
 have HKD : Hid (∀ (B v kk km m : Nat) (t : Tr) (W : World), Below w.heap.size w W → VwR W B v kk m t → KvR W kk km → t.toL = [⟨lkB 102 j [k, k], ⟨#[]⟩, false⟩, ⟨lkB 114 j [k], ⟨#[]⟩, true⟩] →
   Calls Tryz.prog 20 #[.pointer (some ⟨v, 0, none⟩), .agg #[.slice (some ⟨tb0, off, none⟩) ts.length c], .int .i64 j, .agg #[.int .u8 k.k, .int .i64 k.n, .int .u64 k.r, .string k.t]] W fun e w' => e = .returned (.tuple #[.slice none 0 0, .int .i64 (if ta.ref < 0 then 2 else 7)]) ∧ Below W.heap.size W w') := by
  intro B v kk km m t W hW hv hkv htl
  rcases href with hr | ⟨re, hr⟩
  · rw [if_pos hr]
    exact kids_noref v ts tb0 off c j ta k W (ht.ext hW) hs hj hr
  · rw [if_neg (by omega)]
    have hsz : 0 < (lkB 102 j [k]).size := by show 0 < (lkL 102 j [k]).length; unfold lkL; simp
    obtain ⟨n, hn, h0, h1⟩ := last_not (lkB 102 j [k]) hsz (show (((UInt8.ofNat (Int.toNat 102)).toNat : Int) == 255) = false from rfl)
    have hfl := from_two j k t ⟨#[]⟩ htl
    refine kids_form B v kk km m t ts tb0 off c j ta re k k ⟨lkB 102 j [k, k], ⟨#[]⟩, false⟩ n (lkB 102 j [k]) rfl W hv hkv (ht.ext hW) (hL.ext hW) hs hj hr hk hkm hk0 hok1 (by rw [hfl]; simp) hn h0 h1 (fun tt htt => ?_) rfl hk hkm (by unfold lkOk at hok2; exact (Bool.and_eq_true_iff.1 hok2).2) (fun X hX => ?_)
    · rw [hfl]
      exact scan_two j k ⟨#[]⟩ n hn h0 tt htt
    · have := row_gone B v kk m t ts (some ⟨tb0, off, none⟩) c j k ⟨lkB 114 j [k], ⟨#[]⟩, true⟩ X (hv.ext hX) ((ht.ext hW).ext hX) hk ((hL.ext hW).ext hX) hyes hok1 (by rw [htl]; exact find_two j [k] [k, k] _ _ _ _) rfl
      exact this
 have HIN : Hid (∀ p : Pr, p.k = lkB 114 j [k] → insAll [⟨lkB 114 j [k], ⟨#[]⟩, true⟩, ⟨lkB 102 j [k, k], ⟨#[]⟩, false⟩] [p] = [⟨lkB 102 j [k, k], ⟨#[]⟩, false⟩, ⟨lkB 114 j [k], ⟨#[]⟩, true⟩]) := fun p hp => ins_two j [k] [k, k] p hp _ _ _ _
 unfold V.agg at *
 have hkt' : ¬ 4096 < k.t.size + tx.size := by omega
 have hbt : k.t.size ≤ 4096 := by omega
 have hbx : tx.size ≤ 4096 := by omega
 clear ht hk hkm hok1 hok2 hyes hj hke href hk0 hL hs hj12 hkt
 generalize hKA : lkB 114 j [k] = KA at *
 generalize hKB : lkB 102 j [k, k] = KB at *
 clear hKA hKB
 go_enter Tryz.func5, Tryz.ntmps5
 go_upto_region 1 with fail
 have b4 : Blk ((w.alloc (.cells #[.slice (some ⟨tb0, off, none⟩) ts.length c] 24)).alloc (.cells #[.int .u8 k.k, .int .i64 k.n, .int .u64 k.r, .string k.t] 47)) w.heap.size #[.slice (some ⟨tb0, off, none⟩) ts.length c] 24 := (by repeat (first | exact Blk.at (by simp) | assumption | refine Blk.drew ?_ | refine Blk.old ?_ _))
 have b6 : Blk ((w.alloc (.cells #[.slice (some ⟨tb0, off, none⟩) ts.length c] 24)).alloc (.cells #[.int .u8 k.k, .int .i64 k.n, .int .u64 k.r, .string k.t] 47)) (w.heap.size + 1) #[.int .u8 k.k, .int .i64 k.n, .int .u64 k.r, .string k.t] 47 := (by repeat (first | exact Blk.at (by simp) | assumption | refine Blk.drew ?_ | refine Blk.old ?_ _))
 have hb : Below w.heap.size w ((w.alloc (.cells #[.slice (some ⟨tb0, off, none⟩) ts.length c] 24)).alloc (.cells #[.int .u8 k.k, .int .i64 k.n, .int .u64 k.r, .string k.t] 47)) := (by repeat (first | exact Below.refl _ _ | assumption | refine Below.drew ?_ | refine below_drewN ?_ _ | refine Below.alloc ?_ (by simp <;> omega) _))
 generalize ((w.alloc (.cells #[.slice (some ⟨tb0, off, none⟩) ts.length c] 24)).alloc (.cells #[.int .u8 k.k, .int .i64 k.n, .int .u64 k.r, .string k.t] 47)) = W at b4 b6 hb ⊢
 obtain ⟨q4, hq4⟩ : ∃ b, b = w.heap.size := ⟨_, rfl⟩
 obtain ⟨q6, hq6⟩ : ∃ b, b = w.heap.size + 1 := ⟨_, rfl⟩
 rw [← hq6] at b6 ⊢
 rw [← hq4] at b4 ⊢
 clear hq4 hq6
 have HB := hd_ hb
 have HC : Hid (∀ X, Below W.heap.size W X → (q4 < X.heap.size ∧ X.cell? ⟨q4, 0, none⟩ = some (.slice (some ⟨tb0, off, none⟩) ts.length c)) ∧ (q6 < X.heap.size ∧ X.cell? ⟨q6, 0, none⟩ = some (.int .u8 k.k) ∧ X.cell? ⟨q6, 1, none⟩ = some (.int .i64 k.n) ∧ X.cell? ⟨q6, 2, none⟩ = some (.int .u64 k.r) ∧ X.cell? ⟨q6, 3, none⟩ = some (.string k.t))) := fun X hX => ⟨⟨(b4.ext hX).lt, (b4.ext hX).cell 0⟩, blk4' (b6.ext hX)⟩
 clear b4 b6 hb
 obtain ⟨⟨l4, s4⟩, ⟨l6, e60, e61, e62, e63⟩⟩ := HC.out W (Below.refl _ _)
 go_wp2_with fail
 refine (HLG.out W HB.out).mono ?_
 rintro r w1 ⟨⟨v1, rfl⟩, hb1⟩
 have HX1 := hd_ hb1
 clear hb1 l4 s4 l6 e60 e61 e62 e63
 cases v1 with
 | true =>
  go_wp2_with fail
  refine (HAL.out _ (bt HB.out HX1.out)).mono ?_
  rintro r w2 ⟨rfl, hb2⟩
  go_wp2_with fail
  go_ret
  exact ⟨rfl, bt (bt HB.out HX1.out) hb2⟩
 | false =>
  obtain ⟨⟨l4, s4⟩, ⟨l6, e60, e61, e62, e63⟩⟩ := HC.out w1 HX1.out
  go_wp2_with fail
  refine (HKS.out _ (bt HB.out HX1.out)).mono ?_
  rintro r w2 ⟨rfl, hb2⟩
  have HX2 := hd_ (bt HX1.out hb2)
  clear hb2 l4 s4 l6 e60 e61 e62 e63 hkt'
  go_wp2_with fail
  refine (store_any w2 (HLX.out w2 (bt HB.out HX2.out))).mono ?_
  rintro r w10 ⟨⟨kk, km, rfl, hkv⟩, hb10⟩
  have HKV := hd_ hkv
  have HX10 := hd_ (bt HX2.out hb10)
  clear hkv hb10
  go_wp2_with fail
  refine (on_any kk w10).mono ?_
  rintro r w11 ⟨v, m, rfl, hv, hlv, hb11⟩
  have HV := hd_ hv
  have HB11 := hd_ hb11
  have HX11 := hd_ (bt HX10.out hb11)
  clear hv hlv hb11
  obtain ⟨⟨l4, s4⟩, ⟨l6, e60, e61, e62, e63⟩⟩ := HC.out w11 HX11.out
  go_wp2_with fail
  refine (HROW.out w11 (bt HB.out HX11.out)).mono ?_
  rintro r wa ⟨rfl, hba⟩
  have HBa := hd_ (bt HB11.out hba)
  have HXa := hd_ (bt HX11.out hba)
  have HVa := hd_ (HV.out.ext hba)
  clear hba HV l4 s4 l6 e60 e61 e62 e63
  obtain ⟨⟨l4, s4⟩, ⟨l6, e60, e61, e62, e63⟩⟩ := HC.out wa HXa.out
  go_wp2_with fail
  refine (HREF.out wa (bt HB.out HXa.out)).mono ?_
  rintro r wb ⟨rfl, hba⟩
  have HBb := hd_ (bt HBa.out hba)
  have HXb := hd_ (bt HXa.out hba)
  have HVb := hd_ (HVa.out.ext hba)
  clear hba HVa l4 s4 l6 e60 e61 e62 e63
  go_wp2_with fail
  have hba : Below wb.heap.size wb (wb.alloc (.cells #[.string KA, .string tx, .bool false] 45)) := bel1 _ _
  have hpr : PrRow (wb.alloc (.cells #[.string KA, .string tx, .bool false] 45)) (some ⟨wb.heap.size, 0, none⟩) [⟨KA, tx, false⟩] := by
   intro _
   have hb0 : Blk (wb.alloc (.cells #[.string KA, .string tx, .bool false] 45)) wb.heap.size #[.string KA, .string tx, .bool false] 45 := Blk.new _ _ _
   refine ⟨wb.heap.size, 0, rfl, hb0.lt, fun i p hi => ?_⟩
   have hi0 : i = 0 := by have := (List.getElem?_eq_some_iff.1 hi).1; simp at this; omega
   subst hi0
   simp at hi
   subst hi
   exact ⟨hb0.cell 0, hb0.cell 1, hb0.cell 2⟩
  have hro : RowOut (m :: (Tr.nil).blks) (some ⟨wb.heap.size, 0, none⟩) := by
   intro a ha hm
   cases ha
   obtain ⟨sz, sd, hMB⟩ := HVb.out.mem.b
   have h1 := hMB.1.lt
   simp [Tr.blks] at hm
   omega
  have HBW := hd_ (bt HBb.out hba)
  have HXW := hd_ (bt HXb.out hba)
  refine (lay_any w10.heap.size v kk m .nil (some ⟨wb.heap.size, 0, none⟩) 1 [⟨KA, tx, false⟩] _ (HVb.out.ext hba) HBW.out.size hpr hro (show 0 + 1 ≤ 1000000000 by decide)).mono ?_
  intro r w12 hq
  obtain ⟨rfl, t', hv', htl, hch⟩ : r = .returned (.int .i64 0) ∧ ∃ t', VwR w12 w10.heap.size v kk m t' ∧ t'.toL = [⟨KA, tx, false⟩] ∧ Chg (m :: (Tr.nil).blks) (wb.alloc (.cells #[.string KA, .string tx, .bool false] 45)) w12 := by
   rcases hq with ⟨_, h2, t', h3, h4, h5, _⟩ | ⟨⟨p, hp, hpb⟩, _⟩
   · exact ⟨h2, t', h3, h4, h5⟩
   · simp at hp
     subst hp
     rw [HPA.out.1] at hpb
     cases hpb
  have HB12 : Hid (Below w10.heap.size w10 w12) := HBW.out.trans (Chg.blw hch HVb.out.lo HBW.out.size)
  have HX12 : Hid (Below W.heap.size W w12) := bt HX10.out HB12.out
  have HV12 := hd_ hv'
  have HTL := hd_ htl
  clear hba hpr hro hq hv' htl hch HBW HXW HBb HXb HVb HBa HXa
  obtain ⟨⟨l4, s4⟩, ⟨l6, e60, e61, e62, e63⟩⟩ := HC.out w12 HX12.out
  go_wp2_with fail
  refine (HRO.out _ v kk m t' w12 (bt HB.out HX12.out) HV12.out HTL.out).mono ?_
  rintro r w13 ⟨⟨ra, rb, re, rfl, hrow⟩, hb13⟩
  have HRW := hd_ hrow
  have HB13 := hd_ (bt HB12.out hb13)
  have HX13 := hd_ (bt HX12.out hb13)
  have HV13 := hd_ (HV12.out.ext hb13)
  clear hrow hb13 l4 s4 l6 e60 e61 e62 e63 HB12 HX12 HV12
  go_upto_region 9 with fail
  go_cut [131] (fun u wx => u = .bool false ∧ Hid (Below w13.heap.size w13 wx))
  case first =>
   let Iv : Nat → Unit → World → Prop := fun q _ W1 => match q with
    | 0 => W1 = w13.drew
    | _ => Below w13.heap.size w13 W1
   rcases HRW.out with ⟨rfl, rfl, rfl⟩ | ⟨g2, c2, l, rfl, rfl, rfl, hown, hrs, hlk, hlw, hl8⟩
   · have HXR : Hid (∀ X, Below w13.heap.size w13 X → True ∧ True ∧ True ∧ True ∧ True) := fun _ _ => ⟨trivial, trivial, trivial, trivial, trivial⟩
     clear HRW
     refine region_phase (Iv) (fun _ _ _ => True) (()) (fun _ => [.int .i64 7, .bool false, .bool false, undef, undef, undef, undef, undef, undef, undef, undef, undef, undef, undef, undef, undef, undef, undef, undef, undef, undef, undef, undef, undef, undef, .bool false, .bool false, .int .i64 7, .bool true, .bool true, .int .i64 7, .bool false, .bool false, .bool false, .bool false, .bool false, .slice none 0 0, .int .i64 0, .bool false, .bool false, .bool false, .bool false]) [9] [(0, 0), (0, 0), (0, 0), (0, 0), (0, 0), (0, 0), (0, 0), (0, 0), (0, 0), (0, 1), (1, 1), (1, 1), (1, 1), (1, 1), (1, 1), (1, 1), (1, 1), (1, 1), (1, 1), (1, 1), (1, 1), (1, 1), (1, 1), (1, 1), (1, 1), (1, 1), (1, 1), (1, 1), (1, 1), (1, 1), (1, 1), (1, 1), (1, 1), (1, 1), (1, 1), (1, 1), (1, 1), (1, 1), (1, 1), (1, 1), (1, 1), (1, 1)] [false, false, false, false, false, false, false, false, false, false, false, false, false, false, false, false, false, false, false, false, false, false, false, false, false, false, false, false, false, false, false, false, false, false, false, false, false, false, false, false, false, false, false, false, false, false, false, false, false, false, false, false, false, false, false, false, false, false, false, false, false, false, false, false, false, false, false, false, false, false, false, false, false, false, false, false, false, false, false, false, false, false, false, false, false, false, false, false, false, false, true, true, true, true, true, true, true, true, true, true, true, true, true, true, true, true, true, true, true, true, true, true, true, true, true, true, true, true, true, true, true, true, true, true, true, true, true, true, true, true, true, true, false, false, false, false, false, false, false, false, false, false, false, false, false, false, false, false, false, false, false, false, false, false, false, false, false, false, false, false, false, false, false, false, false, false, false, false, false, false, false] [90, 91, 92, 93, 94, 95, 96, 97, 98, 99, 100, 101, 102, 103, 104, 105, 106, 107, 108, 109, 110, 111, 112, 113, 114, 115, 116, 117, 118, 119, 120, 121, 122, 123, 124, 125, 126, 127, 128, 129, 130, 131] [41] rfl (fun _ => rfl) (fun _ _ _ _ _ _ _ _ _ => rfl) (by kernel_rfl) (by kernel_rfl) (by kernel_rfl) (by decide) (by kernel_rfl) (by kernel_rfl) (by kernel_rfl) (by kernel_rfl) (by kernel_rfl) ⟨PhStep.pure rfl ?_, PhStep.pure rfl ?_, PhStep.pure rfl ?_, PhStep.pure rfl ?_, PhStep.pure rfl ?_, PhStep.pure rfl ?_, PhStep.pure rfl ?_, PhStep.pure rfl ?_, PhStep.pure rfl ?_, PhStep.chain 0 rfl ?c9_9, PhStep.pure rfl ?_, PhStep.pure rfl ?_, PhStep.pure rfl ?_, PhStep.pure rfl ?_, PhStep.pure rfl ?_, PhStep.pure rfl ?_, PhStep.pure rfl ?_, PhStep.pure rfl ?_, PhStep.pure rfl ?_, PhStep.pure rfl ?_, PhStep.pure rfl ?_, PhStep.pure rfl ?_, PhStep.pure rfl ?_, PhStep.pure rfl ?_, PhStep.pure rfl ?_, PhStep.pure rfl ?_, PhStep.pure rfl ?_, PhStep.pure rfl ?_, PhStep.pure rfl ?_, PhStep.pure rfl ?_, PhStep.pure rfl ?_, PhStep.pure rfl ?_, PhStep.pure rfl ?_, PhStep.pure rfl ?_, PhStep.pure rfl ?_, PhStep.pure rfl ?_, PhStep.pure rfl ?_, PhStep.pure rfl ?_, PhStep.pure rfl ?_, PhStep.pure rfl ?_, PhStep.pure rfl ?_, PhStep.pure rfl ?_, trivial⟩ ?done9
     case done9 =>
      intro gg yy W1 hiv
      have hW : Below w13.heap.size w13 W1 := hiv
      simp only [StepGoal, List.map_cons, List.map_nil, overlay, upd, cond_true, cond_false, List.getD_cons_zero, List.getD_cons_succ, Nat.zero_add, Nat.reduceAdd, Nat.reduceEqDiff, reduceIte]
      clear hiv Iv
      go_wp2_with fail
      go_meet
      exact ⟨rfl, hW⟩
     case c9_9 =>
      intro gg yy W1 hiv
      have hW1 : W1 = w13.drew := hiv
      subst hW1
      intro K hK
      rw [if_neg (by exact Bool.false_ne_true)]
      exact hK.out _ _ () (show Below w13.heap.size w13 w13.drew from (by repeat (first | exact Below.refl _ _ | assumption | refine Below.drew ?_ | refine below_drewN ?_ _ | refine Below.alloc ?_ (by simp <;> omega) _))) trivial rfl
     all_goals
      intro q hk1 hk2 gg yy W1 hiv
      intro K hK
      first
       | (rw [if_neg (by exact Bool.false_ne_true)]
          exact hK.out _ _ _ hiv rfl rfl)
       | (rw [if_pos (by rfl)]; simp only [overlay, upd, cond_true, cond_false, List.getD_cons_zero, List.getD_cons_succ, Nat.reduceEqDiff, reduceIte]
          go_simp
          exact hK.out _ _ _ hiv rfl rfl)
       | (rw [if_pos (by rfl)]; simp only [overlay, cond_true, cond_false]
          go_simp
          exact hK.out _ _ _ hiv rfl rfl)
       | (have hX : Below w13.heap.size w13 W1 := by
           have hq : q = 0 ∨ 0 < q := by omega
           rcases hq with rfl | hq
           · have h : W1 = w13.drew := hiv
             rw [h]; exact (by repeat (first | exact Below.refl _ _ | assumption | refine Below.drew ?_ | refine below_drewN ?_ _ | refine Below.alloc ?_ (by simp <;> omega) _))
           · match q, hq, hiv with
             | q + 1, _, hiv => exact hiv
          obtain ⟨⟨l4, s4⟩, ⟨l6, e60, e61, e62, e63⟩⟩ := HC.out W1 (bt HX13.out hX)
          obtain ⟨tb1, off1, htb, hlt, hcs⟩ := (HT.out W1 (bt HB.out (bt HX13.out hX))).2.2.2 (by intro e; rw [e] at hjl; simp at hjl)
          simp only [Option.some.injEq, Addr.mk.injEq, and_true] at htb
          obtain ⟨rfl, rfl⟩ := htb
          obtain ⟨t0, t1, t2, t3, t4⟩ := hcs j ta HJ.out.1
          rw [HJ.out.2] at t2
          obtain ⟨lbr, x0, x1, x2, x3⟩ := HXR.out W1 hX
          clear hcs
          first
           | (rw [if_pos (by rfl)]; simp only [overlay, upd, cond_true, cond_false, List.getD_cons_zero, List.getD_cons_succ, Nat.reduceEqDiff, reduceIte]
              go_simp
              exact hK.out _ _ _ hiv rfl rfl)
           | (rw [if_pos (by rfl)]; simp only [overlay, cond_true, cond_false]
              go_simp
              exact hK.out _ _ _ hiv rfl rfl))
   · have hkl : ke < l.length := (List.getElem?_eq_some_iff.1 hlk).1
     have hkI : (ke : Int) < l.length := by omega
     have HXR : Hid (∀ X, Below w13.heap.size w13 X → g2 < X.heap.size ∧ X.cell? ⟨g2, ke * 4, none⟩ = some (.int .u8 k.k) ∧ X.cell? ⟨g2, ke * 4 + 1, none⟩ = some (.int .i64 k.n) ∧ X.cell? ⟨g2, ke * 4 + 2, none⟩ = some (.int .u64 k.r) ∧ X.cell? ⟨g2, ke * 4 + 3, none⟩ = some (.string k.t)) := by
      intro X hX
      have hov := own_below hown hX
      exact ⟨(hov.lt g2 rfl).2, (hov.cellAt (ke * 4) (by omega)).trans (rowCells_at l ke k 0 hlk (by omega)), (hov.cellAt (ke * 4 + 1) (by omega)).trans (rowCells_at l ke k 1 hlk (by omega)), (hov.cellAt (ke * 4 + 2) (by omega)).trans (rowCells_at l ke k 2 hlk (by omega)), (hov.cellAt (ke * 4 + 3) (by omega)).trans (rowCells_at l ke k 3 hlk (by omega))⟩
     have hvr := (VRow.of_own hlw (by omega) hown).1
     have HRC := hd_ (HRR.out (some ⟨g2, 0, none⟩) c2 l w13.drew (bt HB.out (HX13.out.drew)) (hvr.ext (by repeat (first | exact Below.refl _ _ | assumption | refine Below.drew ?_ | refine below_drewN ?_ _ | refine Below.alloc ?_ (by simp <;> omega) _))))
     rw [hrs] at HRC
     have hnv := neqv_self k.k k.n k.r k.t
     clear HRW hown hrs hlk hlw hl8 hvr
     refine region_phase (Iv) (fun _ _ _ => True) (()) (fun _ => [.int .i64 0, .bool true, .bool true, .bool true, .bool false, .bool false, .agg #[.slice (some ⟨tb0, off, none⟩) ts.length c], .int .i64 j, .slice (some ⟨g2, 0, none⟩) l.length c2, .bool true, .bool false, .bool false, .bool false, .slice (some ⟨g2, 0, none⟩) l.length c2, .pointer (some ⟨q4, 0, none⟩), .slice (some ⟨tb0, off, none⟩) ts.length c, .int .i64 j, .pointer (some ⟨tb0, off + j * 5, none⟩), .pointer (some ⟨tb0, off + j * 5 + 2, none⟩), .int .i64 ke, .pointer (some ⟨g2, ke * 4, none⟩), .agg #[.int .u8 k.k, .int .i64 k.n, .int .u64 k.r, .string k.t], .agg #[.int .u8 k.k, .int .i64 k.n, .int .u64 k.r, .string k.t], .bool false, .bool false, .bool false, .bool false, .int .i64 0, .bool false, .bool false, undef, undef, undef, undef, undef, undef, undef, undef, undef, undef, .bool false, .bool false]) [9] [(0, 0), (0, 0), (0, 0), (0, 0), (0, 0), (0, 0), (0, 0), (0, 0), (0, 0), (0, 1), (1, 1), (1, 1), (1, 1), (1, 1), (1, 1), (1, 1), (1, 1), (1, 1), (1, 1), (1, 1), (1, 1), (1, 1), (1, 1), (1, 1), (1, 1), (1, 1), (1, 1), (1, 1), (1, 1), (1, 1), (1, 1), (1, 1), (1, 1), (1, 1), (1, 1), (1, 1), (1, 1), (1, 1), (1, 1), (1, 1), (1, 1), (1, 1)] [false, false, false, false, false, false, false, false, false, false, false, false, false, false, false, false, false, false, false, false, false, false, false, false, false, false, false, false, false, false, false, false, false, false, false, false, false, false, false, false, false, false, false, false, false, false, false, false, false, false, false, false, false, false, false, false, false, false, false, false, false, false, false, false, false, false, false, false, false, false, false, false, false, false, false, false, false, false, false, false, false, false, false, false, false, false, false, false, false, false, true, true, true, true, true, true, true, true, true, true, true, true, true, true, true, true, true, true, true, true, true, true, true, true, true, true, true, true, true, true, true, true, true, true, true, true, true, true, true, true, true, true, false, false, false, false, false, false, false, false, false, false, false, false, false, false, false, false, false, false, false, false, false, false, false, false, false, false, false, false, false, false, false, false, false, false, false, false, false, false, false] [90, 91, 92, 93, 94, 95, 96, 97, 98, 99, 100, 101, 102, 103, 104, 105, 106, 107, 108, 109, 110, 111, 112, 113, 114, 115, 116, 117, 118, 119, 120, 121, 122, 123, 124, 125, 126, 127, 128, 129, 130, 131] [41] rfl (fun _ => rfl) (fun _ _ _ _ _ _ _ _ _ => rfl) (by kernel_rfl) (by kernel_rfl) (by kernel_rfl) (by decide) (by kernel_rfl) (by kernel_rfl) (by kernel_rfl) (by kernel_rfl) (by kernel_rfl) ⟨PhStep.pure rfl ?_, PhStep.pure rfl ?_, PhStep.pure rfl ?_, PhStep.pure rfl ?_, PhStep.pure rfl ?_, PhStep.pure rfl ?_, PhStep.pure rfl ?_, PhStep.pure rfl ?_, PhStep.pure rfl ?_, PhStep.chain 0 rfl ?c9_9, PhStep.pure rfl ?_, PhStep.pure rfl ?_, PhStep.pure rfl ?_, PhStep.pure rfl ?_, PhStep.pure rfl ?_, PhStep.pure rfl ?_, PhStep.pure rfl ?_, PhStep.pure rfl ?_, PhStep.pure rfl ?_, PhStep.pure rfl ?_, PhStep.pure rfl ?_, PhStep.pure rfl ?_, PhStep.pure rfl ?_, PhStep.pure rfl ?_, PhStep.pure rfl ?_, PhStep.pure rfl ?_, PhStep.pure rfl ?_, PhStep.pure rfl ?_, PhStep.pure rfl ?_, PhStep.pure rfl ?_, PhStep.pure rfl ?_, PhStep.pure rfl ?_, PhStep.pure rfl ?_, PhStep.pure rfl ?_, PhStep.pure rfl ?_, PhStep.pure rfl ?_, PhStep.pure rfl ?_, PhStep.pure rfl ?_, PhStep.pure rfl ?_, PhStep.pure rfl ?_, PhStep.pure rfl ?_, PhStep.pure rfl ?_, trivial⟩ ?done9
     case done9 =>
      intro gg yy W1 hiv
      have hW : Below w13.heap.size w13 W1 := hiv
      simp only [StepGoal, List.map_cons, List.map_nil, overlay, upd, cond_true, cond_false, List.getD_cons_zero, List.getD_cons_succ, Nat.zero_add, Nat.reduceAdd, Nat.reduceEqDiff, reduceIte]
      clear hiv Iv hnv
      go_wp2_with fail
      go_meet
      exact ⟨rfl, hW⟩
     case c9_9 =>
      intro gg yy W1 hiv
      have hW1 : W1 = w13.drew := hiv
      subst hW1
      intro K hK
      obtain ⟨⟨l4, s4⟩, ⟨l6, e60, e61, e62, e63⟩⟩ := HC.out w13.drew (HX13.out.drew)
      rw [if_pos (by rfl)]; simp only [overlay, upd, cond_true, cond_false, List.getD_cons_zero, List.getD_cons_succ, Nat.reduceEqDiff, reduceIte]
      go_simp
      refine HRC.out.mono ?_
      rintro e W' ⟨rfl, h1⟩
      exact hK.out _ _ () (⟨h1.os, h1.tape, h1.output, h1.size, h1.block⟩ : Below w13.heap.size w13 W') trivial rfl
     all_goals
      intro q hk1 hk2 gg yy W1 hiv
      intro K hK
      first
       | (rw [if_neg (by exact Bool.false_ne_true)]
          exact hK.out _ _ _ hiv rfl rfl)
       | (rw [if_pos (by rfl)]; simp only [overlay, upd, cond_true, cond_false, List.getD_cons_zero, List.getD_cons_succ, Nat.reduceEqDiff, reduceIte]
          go_simp
          exact hK.out _ _ _ hiv rfl rfl)
       | (rw [if_pos (by rfl)]; simp only [overlay, cond_true, cond_false]
          go_simp
          exact hK.out _ _ _ hiv rfl rfl)
       | (have hX : Below w13.heap.size w13 W1 := by
           have hq : q = 0 ∨ 0 < q := by omega
           rcases hq with rfl | hq
           · have h : W1 = w13.drew := hiv
             rw [h]; exact (by repeat (first | exact Below.refl _ _ | assumption | refine Below.drew ?_ | refine below_drewN ?_ _ | refine Below.alloc ?_ (by simp <;> omega) _))
           · match q, hq, hiv with
             | q + 1, _, hiv => exact hiv
          obtain ⟨⟨l4, s4⟩, ⟨l6, e60, e61, e62, e63⟩⟩ := HC.out W1 (bt HX13.out hX)
          obtain ⟨tb1, off1, htb, hlt, hcs⟩ := (HT.out W1 (bt HB.out (bt HX13.out hX))).2.2.2 (by intro e; rw [e] at hjl; simp at hjl)
          simp only [Option.some.injEq, Addr.mk.injEq, and_true] at htb
          obtain ⟨rfl, rfl⟩ := htb
          obtain ⟨t0, t1, t2, t3, t4⟩ := hcs j ta HJ.out.1
          rw [HJ.out.2] at t2
          obtain ⟨lbr, x0, x1, x2, x3⟩ := HXR.out W1 hX
          clear hcs
          first
           | (rw [if_pos (by rfl)]; simp only [overlay, upd, cond_true, cond_false, List.getD_cons_zero, List.getD_cons_succ, Nat.reduceEqDiff, reduceIte]
              go_simp
              exact hK.out _ _ _ hiv rfl rfl)
           | (rw [if_pos (by rfl)]; simp only [overlay, cond_true, cond_false]
              go_simp
              exact hK.out _ _ _ hiv rfl rfl))
  case rest =>
  obtain ⟨rfl, HW⟩ := hcut
  rename World => w14
  have HB14 := hd_ (bt HB13.out HW.out)
  have HX14 := hd_ (bt HX13.out HW.out)
  have HV14 := hd_ (HV13.out.ext HW.out)
  clear HW HB13 HX13 HV13 HRW HRO HRR
  go_wp2_with fail
  have hba : Below w14.heap.size w14 (w14.alloc (.cells #[.string KA, .string ⟨#[]⟩, .bool true, .string KB, .string ⟨#[]⟩, .bool false] 45)) := bel1 _ _
  have hpr : PrRow (w14.alloc (.cells #[.string KA, .string ⟨#[]⟩, .bool true, .string KB, .string ⟨#[]⟩, .bool false] 45)) (some ⟨w14.heap.size, 0, none⟩) [⟨KA, ⟨#[]⟩, true⟩, ⟨KB, ⟨#[]⟩, false⟩] := by
   intro _
   have hb0 : Blk (w14.alloc (.cells #[.string KA, .string ⟨#[]⟩, .bool true, .string KB, .string ⟨#[]⟩, .bool false] 45)) w14.heap.size #[.string KA, .string ⟨#[]⟩, .bool true, .string KB, .string ⟨#[]⟩, .bool false] 45 := Blk.new _ _ _
   refine ⟨w14.heap.size, 0, rfl, hb0.lt, fun i p hi => ?_⟩
   match i, hi with
   | 0, hi =>
    simp at hi
    subst hi
    exact ⟨hb0.cell 0, hb0.cell 1, hb0.cell 2⟩
   | 1, hi =>
    simp at hi
    subst hi
    exact ⟨hb0.cell 3, hb0.cell 4, hb0.cell 5⟩
   | i + 2, hi => simp at hi
  have hro : RowOut (m :: t'.blks) (some ⟨w14.heap.size, 0, none⟩) := by
   intro a ha hm
   cases ha
   obtain ⟨sz, sd, hMB⟩ := HV14.out.mem.b
   have h1 := hMB.1.lt
   rcases List.mem_cons.1 hm with h | h
   · simp only at h; omega
   · have := HV14.out.mem.tr.lt _ h
     simp only at this; omega
  have HBW := hd_ (bt HB14.out hba)
  refine (lay_any w10.heap.size v kk m t' (some ⟨w14.heap.size, 0, none⟩) 2 [⟨KA, ⟨#[]⟩, true⟩, ⟨KB, ⟨#[]⟩, false⟩] _ (HV14.out.ext hba) HBW.out.size hpr hro (by rw [HTL.out]; show 1 + 2 ≤ 1000000000; decide)).mono ?_
  intro r w15 hq
  obtain ⟨rfl, t2, hv', htl, hch⟩ : r = .returned (.int .i64 0) ∧ ∃ t2, VwR w15 w10.heap.size v kk m t2 ∧ t2.toL = [⟨KB, ⟨#[]⟩, false⟩, ⟨KA, ⟨#[]⟩, true⟩] ∧ Chg (m :: t'.blks) (w14.alloc (.cells #[.string KA, .string ⟨#[]⟩, .bool true, .string KB, .string ⟨#[]⟩, .bool false] 45)) w15 := by
   rcases hq with ⟨_, h2, t2, h3, h4, h5, _⟩ | ⟨⟨p, hp, hpb⟩, _⟩
   · exact ⟨h2, t2, h3, h4.trans (by rw [HTL.out]; exact HIN.out ⟨KA, tx, false⟩ rfl), h5⟩
   · simp at hp
     rcases hp with rfl | rfl
     · rw [HPA.out.2.1] at hpb; cases hpb
     · rw [HPA.out.2.2] at hpb; cases hpb
  have HB15 : Hid (Below w10.heap.size w10 w15) := HBW.out.trans (Chg.blw hch HV14.out.lo HBW.out.size)
  have HX15 : Hid (Below W.heap.size W w15) := bt HX10.out HB15.out
  have HKW := hd_ (HKD.out _ v kk km m t2 w15 (bt HB.out HX15.out) hv' (HKV.out.ext HB15.out) htl)
  clear hba hpr hro hq hv' htl hch HBW HB14 HX14 HV14 HIN HPA HKD HTL HRG
  obtain ⟨⟨l4, s4⟩, ⟨l6, e60, e61, e62, e63⟩⟩ := HC.out w15 HX15.out
  go_wp2_with fail
  refine HKW.out.mono ?_
  rintro r w16 ⟨rfl, hb16⟩
  have HX16 := hd_ (bt HX15.out hb16)
  clear hb16 l4 s4 l6 e60 e61 e62 e63 HKW
  obtain ⟨⟨l4, s4⟩, ⟨l6, e60, e61, e62, e63⟩⟩ := HC.out w16 HX16.out
  have hjI : (j : Int) < ts.length := by omega
  obtain ⟨tb1, off1, htb, hlt, hcs⟩ := (HT.out w16 (bt HB.out HX16.out)).2.2.2 (by intro e; rw [e] at hjl; simp at hjl)
  simp only [Option.some.injEq, Addr.mk.injEq, and_true] at htb
  obtain ⟨rfl, rfl⟩ := htb
  obtain ⟨t0, t1, t2', t3, t4⟩ := hcs j ta HJ.out.1
  clear hcs
  by_cases hr : ta.ref < 0
  · rw [if_pos hr]
    go_wp2_with fail
    refine (HAL.out _ (bt HB.out HX16.out)).mono ?_
    rintro r w17 ⟨rfl, hb17⟩
    go_wp2_with fail
    go_ret
    exact ⟨rfl, bt (bt HB.out HX16.out) hb17⟩
  · rw [if_neg hr]
    have hkz : (k.k == 0) = false := beq_eq_false_iff_ne.2 HK0.out
    go_wp2_with fail
    refine (HAL.out _ (bt HB.out HX16.out)).mono ?_
    rintro r w17 ⟨rfl, hb17⟩
    go_wp2_with fail
    go_ret
    exact ⟨rfl, bt (bt HB.out HX16.out) hb17⟩
set_option maxRecDepth 100000 in
set_option maxHeartbeats 1600000 in
theorem form_no (ts : List Ta) (A : Option Addr) (c : Nat) (tb : Int) (k : V) (tx : ByteArray) (w : World) (hL : LayX w) (ht : TRow w A c ts) (hk : k.wf) (htx : tx.size ≤ 140737488355328) (hno : 4096 < k.t.size + tx.size ∨ keyS ts tb k = false) :
  Calls Tryz.prog 5 #[.agg #[.slice A ts.length c], .int .i64 tb, k.agg, .string tx] w fun q w' => q = .returned (.bool true) ∧ Below w.heap.size w w' := by
 have HAL := hd_ (fun (W : World) (hW : Below w.heap.size w W) => alive26_any W (hL.ext hW))
 have HKS := hd_ (fun (W : World) (hW : Below w.heap.size w W) => refkey13_any ts A c tb k W (ht.ext hW) hk (hL.ext hW).1)
 have HLG := hd_ (fun (W : World) (hW : Below w.heap.size w W) => large13_any ts A c W (ht.ext hW))
 have hkt : k.t.size ≤ 140737488355328 := hk.2.2.2.2.2.2
 have hts := ht.2.1
 unfold V.agg at *
 clear hL ht hk
 by_cases hbig : 4096 < k.t.size + tx.size
 · clear hno
   go_enter Tryz.func5, Tryz.ntmps5
   go_upto_region 1 with fail
   have b4 : Blk ((w.alloc (.cells #[.slice A ts.length c] 24)).alloc (.cells #[.int .u8 k.k, .int .i64 k.n, .int .u64 k.r, .string k.t] 47)) w.heap.size #[.slice A ts.length c] 24 := (by repeat (first | exact Blk.at (by simp) | assumption | refine Blk.drew ?_ | refine Blk.old ?_ _))
   have b6 : Blk ((w.alloc (.cells #[.slice A ts.length c] 24)).alloc (.cells #[.int .u8 k.k, .int .i64 k.n, .int .u64 k.r, .string k.t] 47)) (w.heap.size + 1) #[.int .u8 k.k, .int .i64 k.n, .int .u64 k.r, .string k.t] 47 := (by repeat (first | exact Blk.at (by simp) | assumption | refine Blk.drew ?_ | refine Blk.old ?_ _))
   have hb : Below w.heap.size w ((w.alloc (.cells #[.slice A ts.length c] 24)).alloc (.cells #[.int .u8 k.k, .int .i64 k.n, .int .u64 k.r, .string k.t] 47)) := (by repeat (first | exact Below.refl _ _ | assumption | refine Below.drew ?_ | refine below_drewN ?_ _ | refine Below.alloc ?_ (by simp <;> omega) _))
   generalize ((w.alloc (.cells #[.slice A ts.length c] 24)).alloc (.cells #[.int .u8 k.k, .int .i64 k.n, .int .u64 k.r, .string k.t] 47)) = W at b4 b6 hb ⊢
   obtain ⟨q4, hq4⟩ : ∃ b, b = w.heap.size := ⟨_, rfl⟩
   obtain ⟨q6, hq6⟩ : ∃ b, b = w.heap.size + 1 := ⟨_, rfl⟩
   rw [← hq6] at b6 ⊢
   rw [← hq4] at b4 ⊢
   clear hq4 hq6
   have HB := hd_ hb
   have HC : Hid (∀ X, Below W.heap.size W X → (q4 < X.heap.size ∧ X.cell? ⟨q4, 0, none⟩ = some (.slice A ts.length c)) ∧ (q6 < X.heap.size ∧ X.cell? ⟨q6, 0, none⟩ = some (.int .u8 k.k) ∧ X.cell? ⟨q6, 1, none⟩ = some (.int .i64 k.n) ∧ X.cell? ⟨q6, 2, none⟩ = some (.int .u64 k.r) ∧ X.cell? ⟨q6, 3, none⟩ = some (.string k.t))) := fun X hX => ⟨⟨(b4.ext hX).lt, (b4.ext hX).cell 0⟩, blk4' (b6.ext hX)⟩
   clear b4 b6 hb
   obtain ⟨⟨l4, s4⟩, ⟨l6, e60, e61, e62, e63⟩⟩ := HC.out W (Below.refl _ _)
   go_wp2_with fail
   refine (HLG.out W HB.out).mono ?_
   rintro r w1 ⟨⟨v1, rfl⟩, hb1⟩
   have HX1 := hd_ hb1
   clear hb1 l4 s4 l6 e60 e61 e62 e63
   cases v1 with
   | true =>
    go_wp2_with fail
    refine (HAL.out _ (bt HB.out HX1.out)).mono ?_
    rintro r w2 ⟨rfl, hb2⟩
    go_wp2_with fail
    go_ret
    exact ⟨rfl, bt (bt HB.out HX1.out) hb2⟩
   | false =>
    obtain ⟨⟨l4, s4⟩, ⟨l6, e60, e61, e62, e63⟩⟩ := HC.out w1 HX1.out
    go_wp2_with fail
    refine (HAL.out _ (bt HB.out HX1.out)).mono ?_
    rintro r w2 ⟨rfl, hb2⟩
    go_wp2_with fail
    go_ret
    exact ⟨rfl, bt (bt HB.out HX1.out) hb2⟩
 · rw [hno.resolve_left hbig] at HKS
   clear hno
   go_enter Tryz.func5, Tryz.ntmps5
   go_upto_region 1 with fail
   have b4 : Blk ((w.alloc (.cells #[.slice A ts.length c] 24)).alloc (.cells #[.int .u8 k.k, .int .i64 k.n, .int .u64 k.r, .string k.t] 47)) w.heap.size #[.slice A ts.length c] 24 := (by repeat (first | exact Blk.at (by simp) | assumption | refine Blk.drew ?_ | refine Blk.old ?_ _))
   have b6 : Blk ((w.alloc (.cells #[.slice A ts.length c] 24)).alloc (.cells #[.int .u8 k.k, .int .i64 k.n, .int .u64 k.r, .string k.t] 47)) (w.heap.size + 1) #[.int .u8 k.k, .int .i64 k.n, .int .u64 k.r, .string k.t] 47 := (by repeat (first | exact Blk.at (by simp) | assumption | refine Blk.drew ?_ | refine Blk.old ?_ _))
   have hb : Below w.heap.size w ((w.alloc (.cells #[.slice A ts.length c] 24)).alloc (.cells #[.int .u8 k.k, .int .i64 k.n, .int .u64 k.r, .string k.t] 47)) := (by repeat (first | exact Below.refl _ _ | assumption | refine Below.drew ?_ | refine below_drewN ?_ _ | refine Below.alloc ?_ (by simp <;> omega) _))
   generalize ((w.alloc (.cells #[.slice A ts.length c] 24)).alloc (.cells #[.int .u8 k.k, .int .i64 k.n, .int .u64 k.r, .string k.t] 47)) = W at b4 b6 hb ⊢
   obtain ⟨q4, hq4⟩ : ∃ b, b = w.heap.size := ⟨_, rfl⟩
   obtain ⟨q6, hq6⟩ : ∃ b, b = w.heap.size + 1 := ⟨_, rfl⟩
   rw [← hq6] at b6 ⊢
   rw [← hq4] at b4 ⊢
   clear hq4 hq6
   have HB := hd_ hb
   have HC : Hid (∀ X, Below W.heap.size W X → (q4 < X.heap.size ∧ X.cell? ⟨q4, 0, none⟩ = some (.slice A ts.length c)) ∧ (q6 < X.heap.size ∧ X.cell? ⟨q6, 0, none⟩ = some (.int .u8 k.k) ∧ X.cell? ⟨q6, 1, none⟩ = some (.int .i64 k.n) ∧ X.cell? ⟨q6, 2, none⟩ = some (.int .u64 k.r) ∧ X.cell? ⟨q6, 3, none⟩ = some (.string k.t))) := fun X hX => ⟨⟨(b4.ext hX).lt, (b4.ext hX).cell 0⟩, blk4' (b6.ext hX)⟩
   clear b4 b6 hb
   obtain ⟨⟨l4, s4⟩, ⟨l6, e60, e61, e62, e63⟩⟩ := HC.out W (Below.refl _ _)
   go_wp2_with fail
   refine (HLG.out W HB.out).mono ?_
   rintro r w1 ⟨⟨v1, rfl⟩, hb1⟩
   have HX1 := hd_ hb1
   clear hb1 l4 s4 l6 e60 e61 e62 e63
   cases v1 with
   | true =>
    go_wp2_with fail
    refine (HAL.out _ (bt HB.out HX1.out)).mono ?_
    rintro r w2 ⟨rfl, hb2⟩
    go_wp2_with fail
    go_ret
    exact ⟨rfl, bt (bt HB.out HX1.out) hb2⟩
   | false =>
    obtain ⟨⟨l4, s4⟩, ⟨l6, e60, e61, e62, e63⟩⟩ := HC.out w1 HX1.out
    go_wp2_with fail
    refine (HKS.out _ (bt HB.out HX1.out)).mono ?_
    rintro r w2 ⟨rfl, hb2⟩
    have HX2 := hd_ (bt HX1.out hb2)
    clear hb2
    go_wp2_with fail
    refine (HAL.out _ (bt HB.out HX2.out)).mono ?_
    rintro r w3 ⟨rfl, hb3⟩
    go_wp2_with fail
    go_ret
    exact ⟨rfl, bt (bt HB.out HX2.out) hb3⟩
theorem ixform_walk (ts : List Ta) (A : Option Addr) (c : Nat) (tb : Int) (k : V) (tx : ByteArray) (w : World) (hL : LayX w) (ht : TRow w A c ts) (hk : k.wf) (htx : tx.size ≤ 140737488355328) :
  Calls Tryz.prog 5 #[.agg #[.slice A ts.length c], .int .i64 tb, k.agg, .string tx] w fun q w' => q = .returned (.bool true) ∧ Below w.heap.size w w' := by
 by_cases hbig : 4096 < k.t.size + tx.size
 · exact form_no ts A c tb k tx w hL ht hk htx (Or.inl hbig)
 · cases hy : keyS ts tb k with
   | false => exact form_no ts A c tb k tx w hL ht hk htx (Or.inr hy)
   | true =>
    obtain ⟨j, ta, ke, rfl, hj, hj12, hke, hkm, hk0, href, hs⟩ := keyS_parts hy
    obtain ⟨tb0, off, rfl, -⟩ := ht.2.2.2 (by intro e; rw [e] at hj; simp at hj)
    exact form_go ts tb0 off c j ta ke k tx w hL ht hk (by omega) hy hj hj12 hke hkm hk0 href hs (fun W hW => large13_any ts _ c W (ht.ext hW))
end Go.Proofs.YtceoficoappkpaaGreatDoor
