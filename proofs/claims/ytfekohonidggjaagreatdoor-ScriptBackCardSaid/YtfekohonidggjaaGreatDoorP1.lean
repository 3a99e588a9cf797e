/- Texts joined by a tool: contracts and walks of this claim. -/
import Derived.Test.YtfekohonidggjaaGreatDoorB27
namespace Go.Proofs.YtfekohonidggjaaGreatDoor
open Go.RowKit
theorem sum_step {l : List V} {k : Nat} {s a : Int} {v : V} (h : s = a + ((l.take k).map fun v => (v.t.size : Int) / 8).sum) (hk : l[k]? = some v) :
  Hid (s + (v.t.size : Int) / 8 = a + ((l.take (k + 1)).map fun v => (v.t.size : Int) / 8).sum) := by
 show _ = _
 obtain ⟨hlt, hv⟩ := List.getElem?_eq_some_iff.1 hk
 rw [List.take_succ_eq_append_getElem hlt, List.map_append, List.sum_append, hv, h]
 simp
 omega
def longN (l : List V) : Int := (l.length : Int) + ((l.take 100).map fun v => (v.t.size : Int) / 8).sum
theorem long_end {l : List V} {k : Nat} {s : Int} (h : s = (l.length : Int) + ((l.take k).map fun v => (v.t.size : Int) / 8).sum) (hk : k = 100 ∨ (k = l.length ∧ k ≤ 100)) : decide (4000 < s) = decide (4000 < longN l) := by
 have : s = longN l := by
  rw [h]
  unfold longN
  rcases hk with rfl | ⟨rfl, h100⟩
  · rfl
  · rw [List.take_of_length_le (Nat.le_refl _), List.take_of_length_le h100]
 rw [this]
set_option maxRecDepth 100000 in
theorem long_any (l : List V) (A : Option Addr) (c : Nat) (w : World) (hr : VRow w A l) :
  Calls Tryz.prog 27 #[.slice A l.length c] w fun e w' => e = .returned (.bool (decide (4000 < longN l))) ∧ w = w' := by
 have hlen := hr.2.1
 generalize hM : decide (4000 < longN l) = M
 have HM := hd_ hM
 clear hM
 go_enter Tryz.func27, Tryz.ntmps27
 go_wp2
 go_loop [3, 4] (fun n i => ∃ (k : Nat) (s : Int), k ≤ l.length ∧ k ≤ 100 ∧ i = .int .i64 k ∧ n = .int .i64 s ∧ 0 ≤ s ∧ s ≤ 35184372088832 + k * 17592186044416 ∧ Hid (s = (l.length : Int) + ((l.take k).map fun v => (v.t.size : Int) / 8).sum)) (fun _ i => l.length - (intOf i).toNat)
 case atStart => exact ⟨0, l.length, by omega, by omega, rfl, rfl, by omega, by omega, (by simp : _ = _)⟩
 case round =>
  obtain ⟨k, s, hk1, hk2, rfl, rfl, hs0, hs1, HS⟩ := hrel
  by_cases hlt : k < l.length
  · obtain ⟨b, off, v, rfl, hb, hlk, hmem, hwf, c0, c1, c2, c3⟩ := hr.at_ hlt
    obtain ⟨vk, vn, vr, vt⟩ := v
    have hts : vt.size ≤ 140737488355328 := hwf.2.2.2.2.2.2
    have HL := hd_ hlk
    clear hlk hwf hmem
    by_cases h100 : k < 100
    · go_wp2
      go_round
      case rel => exact ⟨k + 1, s + (vt.size : Int) / 8, by omega, by omega, by go_num, rfl, by omega, by omega, sum_step HS.out HL.out⟩
      case measure => simp [intOf]; omega
    · go_wp2
      go_ret
      exact ⟨ret_bool (by rw [← HM.out]; exact long_end HS.out (Or.inl (by omega))), rfl⟩
  · go_wp2
    go_ret
    exact ⟨ret_bool (by rw [← HM.out]; exact long_end HS.out (Or.inr ⟨by omega, by omega⟩)), rfl⟩
theorem rowCells_one (l : List V) : ∀ u ∈ rowCells l, u.oneCell' = true := by
 intro u hu
 simp only [rowCells, List.mem_flatMap] at hu
 obtain ⟨v, _, hu⟩ := hu
 simp only [V.cells, List.mem_cons, List.not_mem_nil, or_false] at hu
 rcases hu with rfl | rfl | rfl | rfl <;> rfl
theorem VRow.cells_ {w : World} {l : List V} {b off : Nat} (h : VRow w (some ⟨b, off, none⟩) l) : ∀ j u, (rowCells l)[j]? = some u → w.cell? ((⟨b, off, none⟩ : Addr).add j) = some u := by
 intro j u hu
 have hj : j < l.length * 4 := by
  have := (List.getElem?_eq_some_iff.1 hu).1
  rwa [rowCells_length] at this
 obtain ⟨b', off', v, hA, _, hlk, _, _, c0, c1, c2, c3⟩ := h.at_ (k := j / 4) (by omega)
 injection hA with hA
 injection hA with e1 e2
 subst e1; subst e2
 have e : j = j / 4 * 4 + j % 4 := by omega
 rw [e, rowCells_at l (j / 4) v (j % 4) hlk (by omega)] at hu
 have ea : (⟨b, off, none⟩ : Addr).add j = ⟨b, off + j / 4 * 4 + j % 4, none⟩ := by
  unfold Addr.add; split
  · next h0 => subst h0; rfl
  · show (⟨b, off + j, none⟩ : Addr) = _
    rw [show off + j = off + j / 4 * 4 + j % 4 by omega]
 rw [ea]
 have hm : j % 4 = 0 ∨ j % 4 = 1 ∨ j % 4 = 2 ∨ j % 4 = 3 := by omega
 rcases hm with hm | hm | hm | hm <;> rw [hm] at hu ⊢ <;> simp only [V.cells, List.getElem?_cons_zero, List.getElem?_cons_succ, Option.some.injEq] at hu <;> subst hu
 · exact c0
 · exact c1
 · exact c2
 · exact c3
set_option maxRecDepth 100000 in
theorem copy_any (l : List V) (A : Option Addr) (c : Nat) (w : World) (hr : VRow w A l) (hl : l.length ≤ 2932031007402) :
  Calls Tryz.prog 29 #[.slice A l.length c] w fun e w' => ∃ A' c', e = .returned (.slice A' l.length c') ∧ w'.ownsRow w.heap.size 48 4 (.slice A' l.length c') l.length (rowCells l) ∧ Below w.heap.size w w' := by
 obtain ⟨i0, hi0, hz0, hz1, hz2⟩ := info_parts info_V
 have h0 : w.ownsRow w.heap.size 48 4 (.slice none 0 0) 0 [] := ⟨rfl, .inl ⟨rfl, rfl⟩⟩
 rcases A with _ | ad
 · obtain rfl : l = [] := by
    rcases l with _ | ⟨v, l⟩
    · rfl
    · obtain ⟨b, off, h, _⟩ := hr.2.2 (by simp)
      cases h
   go_enter Tryz.func29, Tryz.ntmps29
   go_wp2
   go_ret
   exact ⟨none, 0, rfl, h0, Below.refl _ _⟩
 · have hc : ∀ j u, (rowCells l)[j]? = some u → w.cell? (ad.add j) = some u := by
    rcases l with _ | ⟨v, l⟩
    · intro j u h; simp [rowCells] at h
    · obtain ⟨b, off, h, _⟩ := hr.2.2 (by simp)
      injection h with h
      subst h
      exact hr.cells_
   have HC := hd_ hc
   clear hc hr
   go_enter Tryz.func29, Tryz.ntmps29
   go_wp2_with (at_builtin; refine wpList_append_own _ rfl _ _ 38 rfl w.heap.size 48 i0 _ 4 40 Tryz.underlying38 hi0 hz0 hz1 hz2 rfl (by decide) (.slice none 0 0) 0 [] rfl h0 ad l.length c (rowCells l) rfl (rowCells_length l) HC.out (rowCells_one l) ?c3 ?c4 ?c5 ?_)
   case c3 => simp only [maxLen]; omega
   case c4 => omega
   case c5 => exact Nat.le_refl _
   intro v' w1 hown1 hg1 _
   have hbw1 : Below w.heap.size w w1 := (Below.refl _ _).grown hg1 (Nat.le_refl _) (by simp [Value.ownBlock])
   obtain ⟨A', c', rfl⟩ : ∃ A' c', v' = .slice A' l.length c' := by
    rcases hown1.2 with ⟨rfl, h⟩ | ⟨g, cap, cur, rfl, _⟩
    · exact ⟨none, 0, by rw [h]⟩
    · exact ⟨_, _, rfl⟩
   clear hg1
   go_wp2
   go_ret
   exact ⟨A', c', rfl, hown1, hbw1⟩
theorem own_put {w : World} {b : Nat} {cs : Array Value} {t : TypeId} {base : Nat} {e : TypeId} {size n : Nat} {v : Value} {xs : List Value} (h3 : (putBlk w b cs t).ownsRow base e size v n xs) (hb : b < w.heap.size) (hne : e ≠ t) (ds : Array Value) : (putBlk w b ds t).ownsRow base e size v n xs := by
 have hfar := own_ne h3 (putBlk_blk cs t hb) hne
 refine ⟨h3.1, ?_⟩
 rcases h3.2 with h0 | ⟨g, cap, cur, hv, hbg, hh, h4⟩
 · exact .inl h0
 · refine .inr ⟨g, cap, cur, hv, hbg, ?_, h4⟩
   have hgb : b ≠ g := by
    intro e
    apply hfar
    rw [hv, e]
    rfl
   unfold putBlk at hh ⊢
   simp only at hh ⊢
   rw [Array.getElem?_setIfInBounds_ne hgb] at hh ⊢
   exact hh
theorem NRow.none_ {k : IntKind} {w : World} {l : List Int} (h : NRow k w none l) : l.length = 0 := by
 rcases l with _ | ⟨v, l⟩
 · rfl
 · obtain ⟨b, off, h, _⟩ := h.2 (by simp)
   cases h
theorem NRow.cells_ {k : IntKind} {w : World} {A : Option Addr} {l : List Int} (h : NRow k w A l) : ∀ ad, A = some ad → ∀ j u, (l.map (Value.int k))[j]? = some u → w.cell? (ad.add j) = some u := by
 rintro ad rfl j u hu
 rw [List.getElem?_map] at hu
 cases hj : l[j]? with
 | none => rw [hj] at hu; cases hu
 | some v =>
  rw [hj] at hu
  simp only [Option.map_some, Option.some.injEq] at hu
  subst hu
  have hne : l ≠ [] := by rintro rfl; simp at hj
  obtain ⟨b, off, e, _, hc⟩ := h.2 hne
  injection e with e
  subst e
  have ea : (⟨b, off, none⟩ : Addr).add j = ⟨b, off + j, none⟩ := by
   unfold Addr.add; split
   · next h0 => subst h0; rfl
   · rfl
  rw [ea]
  exact hc j v hj
def readP (o : Option V) : Value := match o with
 | some v => .tuple #[v.agg, .int .i64 0]
 | none => .tuple #[.agg #[.int .u8 0, .int .i64 0, .int .u64 0, .string ⟨#[]⟩], .int .i64 310]
theorem zero_set {W : World} {n : Nat} (h : Blk W n #[.int .u8 0, .int .i64 0, .int .u64 0, .string ⟨#[]⟩] 48) :
  n < W.heap.size ∧ W.cell? ⟨n, 0, none⟩ = some (.int .u8 0) ∧ W.cell? ⟨n, 1, none⟩ = some (.int .i64 0) ∧ W.cell? ⟨n, 2, none⟩ = some (.int .u64 0) ∧ W.cell? ⟨n, 3, none⟩ = some (.string ⟨#[]⟩) ∧ (∀ i, W.frozen? ⟨n, i, none⟩ = false) ∧
   W.setCell ⟨n, 0, none⟩ (.int .u8 0) = W ∧ W.setCell ⟨n, 1, none⟩ (.int .i64 0) = W ∧ W.setCell ⟨n, 2, none⟩ (.int .u64 0) = W ∧ W.setCell ⟨n, 3, none⟩ (.string ⟨#[]⟩) = W := by
 have hS : ∀ i v, (#[.int .u8 0, .int .i64 0, .int .u64 0, .string ⟨#[]⟩] : Array Value).setIfInBounds i v = #[.int .u8 0, .int .i64 0, .int .u64 0, .string ⟨#[]⟩] → W.setCell ⟨n, i, none⟩ v = W := by
  intro i v e
  obtain ⟨w3, rfl, lt⟩ := blk_put h
  rw [(putBlk_facts (w := w3) 48 lt).2.2, e]
 obtain ⟨_, y0, y1, y2, y3⟩ := mk4 h
 exact ⟨h.lt, y0, y1, y2, y3, h.frozen, hS 0 _ rfl, hS 1 _ rfl, hS 2 _ rfl, hS 3 _ rfl⟩
set_option maxRecDepth 100000 in
theorem caught_rv (c1 c2 : Value) (w : World) (Q : Ending → World → Prop) (hcall : Calls Tryz.prog 56 #[c1, c2] (w.alloc (.cells #[.bool false] 4)) Q) (hQ : mayEnd w.heap.size Q) :
  Calls Tryz.prog 38 #[.func (Fn.func 56) #[] #[c1, c2]] w (caughtP w.heap.size Q) := by
 have HC := hd_ hcall
 have HQ := hd_ hQ
 clear hcall hQ
 go_enter_defers Tryz.func38, Tryz.ntmps38
 go_wp2_with fail
 refine HC.out.mono ?_
 intro r w1 hq
 obtain ⟨hr, hB⟩ := HQ.out r w1 hq
 obtain ⟨b0, b1, b2⟩ := blk1c hB
 have hsame := cell_same hB
 rcases hr with rfl | rfl
 · have HQQ := hd_ hq
   have HBB := hd_ hB
   clear hq hB
   go_wp2_with fail
   refine leaves_cons (f := 77) (args := #[.pointer (some ⟨w.heap.size, 0, none⟩)]) (by simp) (by simp [go_sem]) ?_
   refine (scaught_idle ⟨w.heap.size, 0, none⟩ _).mono ?_
   rintro e u' w'' ⟨rfl, rfl, rfl⟩
   simp [Leaves, settle, results, Tryz.results38, go_sem, b0]
   exact ⟨_, Or.inl ⟨HQQ.out, rfl, rfl⟩⟩
 · have HQQ := hd_ hq
   have HBB := hd_ hB
   clear hq hB hsame
   unfold gaveW
   refine leaves_cons (f := 77) (args := #[.pointer (some ⟨w.heap.size, 0, none⟩)]) (by simp) (by simp [go_sem]) ?_
   refine (scaught_up ⟨w.heap.size, 0, none⟩ false [] _ b0 b1).mono ?_
   rintro e u' w'' ⟨rfl, rfl, rfl⟩
   rw [cell_put HBB.out]
   have pc := (putBlk_facts (w := w1) 4 b2).1
   simp [Leaves, settle, results, Tryz.results38, go_sem, pc]
   exact ⟨_, Or.inr ⟨HQQ.out, rfl, rfl⟩⟩
set_option maxRecDepth 100000 in
theorem caught_ra (c1 c2 : Value) (w : World) (Q : Ending → World → Prop) (hcall : Calls Tryz.prog 51 #[c1, c2] (w.alloc (.cells #[.bool false] 4)) Q) (hQ : mayEnd w.heap.size Q) :
  Calls Tryz.prog 38 #[.func (Fn.func 51) #[] #[c1, c2]] w (caughtP w.heap.size Q) := by
 have HC := hd_ hcall
 have HQ := hd_ hQ
 clear hcall hQ
 go_enter_defers Tryz.func38, Tryz.ntmps38
 go_wp2_with fail
 refine HC.out.mono ?_
 intro r w1 hq
 obtain ⟨hr, hB⟩ := HQ.out r w1 hq
 obtain ⟨b0, b1, b2⟩ := blk1c hB
 have hsame := cell_same hB
 rcases hr with rfl | rfl
 · have HQQ := hd_ hq
   have HBB := hd_ hB
   clear hq hB
   go_wp2_with fail
   refine leaves_cons (f := 77) (args := #[.pointer (some ⟨w.heap.size, 0, none⟩)]) (by simp) (by simp [go_sem]) ?_
   refine (scaught_idle ⟨w.heap.size, 0, none⟩ _).mono ?_
   rintro e u' w'' ⟨rfl, rfl, rfl⟩
   simp [Leaves, settle, results, Tryz.results38, go_sem, b0]
   exact ⟨_, Or.inl ⟨HQQ.out, rfl, rfl⟩⟩
 · have HQQ := hd_ hq
   have HBB := hd_ hB
   clear hq hB hsame
   unfold gaveW
   refine leaves_cons (f := 77) (args := #[.pointer (some ⟨w.heap.size, 0, none⟩)]) (by simp) (by simp [go_sem]) ?_
   refine (scaught_up ⟨w.heap.size, 0, none⟩ false [] _ b0 b1).mono ?_
   rintro e u' w'' ⟨rfl, rfl, rfl⟩
   rw [cell_put HBB.out]
   have pc := (putBlk_facts (w := w1) 4 b2).1
   simp [Leaves, settle, results, Tryz.results38, go_sem, pc]
   exact ⟨_, Or.inr ⟨HQQ.out, rfl, rfl⟩⟩
def RvQ (l : List UInt8) (b : Nat) (W : World) (r : Ending) (w' : World) : Prop :=
 (∃ v w1, readV l = some v ∧ r = .returned (.tuple #[]) ∧ Below W.heap.size W w1 ∧ w' = putBlk w1 b #[.int .u8 v.k, .int .i64 v.n, .int .u64 v.r, .string v.t] 48) ∨ (readV l = none ∧ r = gaveW ∧ Below W.heap.size W w')
set_option maxRecDepth 100000 in
set_option maxHeartbeats 800000 in
theorem rvdo_any (s : ByteArray) (hs : s.size ≤ 35184372088832) (a b : Nat) (W : World) (hL : LayS W) (ha : Blk W a #[.string s] 9) (hb : Blk W b #[.int .u8 0, .int .i64 0, .int .u64 0, .string ⟨#[]⟩] 48) :
  Calls Tryz.prog 56 #[.pointer (some ⟨a, 0, none⟩), .pointer (some ⟨b, 0, none⟩)] W (RvQ s.data.toList b W) := by
 have HRV := hd_ (readValue_any s hs W hL)
 obtain ⟨y0, y1, y2⟩ := blk1c ha
 have HB := hd_ hb
 clear hL hb
 go_enter Tryz.func56, Tryz.ntmps56
 go_wp2_with fail
 cases hr : readV s.data.toList with
 | none =>
  rw [hr] at HRV
  have HR := hd_ hr
  clear hr
  refine HRV.out.mono ?_
  rintro q w1 ⟨rfl, hb1⟩
  simp only [Option.map_none, orGave, gaveW]
  go_wp2_with fail
  exact ⟨rfl, Or.inr ⟨HR.out, rfl, hb1⟩⟩
 | some v =>
  rw [hr] at HRV
  have HR := hd_ hr
  clear hr
  refine HRV.out.mono ?_
  rintro q w1 ⟨rfl, hb1⟩
  simp only [Option.map_some, orGave, V.agg]
  have hB1 := HB.out.ext hb1
  obtain ⟨w3, rfl, lt⟩ := blk_put hB1
  obtain ⟨pc, pf, pS⟩ := putBlk_facts (w := w3) 48 lt
  have HB1 := hd_ hb1
  clear hb1 hB1
  go_wp2_with fail
  go_end0
  exact Or.inl ⟨v, _, HR.out, rfl, HB1.out, by rw [putputS]⟩
theorem RvQ_end {l : List UInt8} {b n : Nat} {W : World} (hn : Blk W n #[.bool false] 4) (hne : n ≠ b) : mayEnd n (RvQ l b W) := by
 rintro r w' (⟨v, w1, _, rfl, hb, rfl⟩ | ⟨_, rfl, hb⟩)
 · exact ⟨Or.inl rfl, putBlk_ne (hn.ext hb) hne⟩
 · exact ⟨Or.inr rfl, hn.ext hb⟩
set_option maxRecDepth 100000 in
set_option maxHeartbeats 1600000 in
theorem scriptReadValue_any (s : ByteArray) (hs : s.size ≤ 35184372088832) (w : World) (hL : LayS w) :
  Calls Tryz.prog 21 #[.string s] w fun r w' => r = .returned (readP (readV s.data.toList)) ∧ Below w.heap.size w w' := by
 have hA : Below w.heap.size w ((w.alloc (.cells #[.string s] 9)).alloc (.cells #[.int .u8 0, .int .i64 0, .int .u64 0, .string ⟨#[]⟩] 48)) := (by repeat (first | exact Below.refl _ _ | assumption | refine Below.drew ?_ | refine below_drewN ?_ _ | refine Below.alloc ?_ (by simp <;> omega) _))
 have hS : Blk ((w.alloc (.cells #[.string s] 9)).alloc (.cells #[.int .u8 0, .int .i64 0, .int .u64 0, .string ⟨#[]⟩] 48)) w.heap.size #[.string s] 9 := (by repeat (first | exact Blk.at (by simp) | assumption | refine Blk.drew ?_ | refine Blk.old ?_ _))
 have hV : Blk ((w.alloc (.cells #[.string s] 9)).alloc (.cells #[.int .u8 0, .int .i64 0, .int .u64 0, .string ⟨#[]⟩] 48)) (w.heap.size + 1) #[.int .u8 0, .int .i64 0, .int .u64 0, .string ⟨#[]⟩] 48 := (by repeat (first | exact Blk.at (by simp) | assumption | refine Blk.drew ?_ | refine Blk.old ?_ _))
 have hsz : ((w.alloc (.cells #[.string s] 9)).alloc (.cells #[.int .u8 0, .int .i64 0, .int .u64 0, .string ⟨#[]⟩] 48)).heap.size = w.heap.size + 2 := by simp
 generalize hW : (w.alloc (.cells #[.string s] 9)).alloc (.cells #[.int .u8 0, .int .i64 0, .int .u64 0, .string ⟨#[]⟩] 48) = W at hA hS hV hsz
 have hb3 : Below W.heap.size W (W.alloc (.cells #[.bool false] 4)) := bel1 _ _
 have hn3 := Blk.new W #[.bool false] 4
 have HCA := hd_ (caught_rv (.pointer (some ⟨w.heap.size, 0, none⟩)) (.pointer (some ⟨w.heap.size + 1, 0, none⟩)) W _ (rvdo_any s hs w.heap.size (w.heap.size + 1) (W.alloc (.cells #[.bool false] 4)) ((hL.ext hA).ext hb3) (hS.ext hb3) (hV.ext hb3)) (RvQ_end hn3 (by omega)))
 have HV := hd_ (hV.ext hb3)
 have HSZ := hd_ hsz
 have HA := hd_ hA
 have HB3 := hd_ hb3
 have HN3 := hd_ hn3
 clear hA hS hV hsz hL hb3 hn3
 go_enter Tryz.func21, Tryz.ntmps21
 go_wp2_with fail
 clear hW
 refine HCA.out.mono ?_
 rintro r w1 ⟨w4, ⟨hq, rfl, rfl⟩ | ⟨hq, rfl, rfl⟩⟩
 · rcases hq with ⟨v, w5, hr, _, hb, rfl⟩ | ⟨_, h, _⟩
   · have hv5 := HV.out.ext hb
     obtain ⟨pc, pf, pS⟩ := putBlk_facts (w := w5) 48 hv5.lt
     have hBB : Below w.heap.size w (putBlk w5 (w.heap.size + 1) #[.int .u8 v.k, .int .i64 v.n, .int .u64 v.r, .string v.t] 48) := putBlk_below _ _ (bt HA.out (bt HB3.out hb)) (by omega)
     have HR := hd_ hr
     have HBB := hd_ hBB
     have l5 := hv5.lt
     clear hr hBB hb hv5
     go_wp2_with fail
     refine bodyPost_ret (v := .tuple #[V.agg v, .int .i64 0]) (by simp [results, Tryz.results21, go_sem, pc, V.agg]) rfl ?_
     exact ⟨by rw [HR.out]; rfl, HBB.out⟩
   · cases h
 · rcases hq with ⟨v, w5, _, h, _⟩ | ⟨hr, _, hb⟩
   · cases h
   · have hv5 := HV.out.ext hb
     have HR := hd_ hr
     have hz := putBlk_ne (cs := #[.bool true]) (t := 4) (b := W.heap.size) hv5 (by rw [HSZ.out]; omega)
     have hBB : Below w.heap.size w (putBlk w4 W.heap.size #[.bool true] 4) := putBlk_below _ _ (bt HA.out (bt HB3.out hb)) (by rw [HSZ.out]; omega)
     have HBB := hd_ hBB
     obtain ⟨zl, zc0, zc1, zc2, zc3, zf, zs0, zs1, zs2, zs3⟩ := zero_set hz
     clear hr hBB hb hv5 hz
     go_wp2_with fail
     refine bodyPost_ret (v := .tuple #[.agg #[.int .u8 0, .int .i64 0, .int .u64 0, .string ⟨#[]⟩], .int .i64 310]) (by simp [results, Tryz.results21, go_sem, zc0, zc1, zc2, zc3]) rfl ?_
     exact ⟨by rw [HR.out]; rfl, HBB.out⟩
def zAct : Array Value := #[.int .u8 0, .int .u8 0, .int .i64 0, .slice none 0 0, .int .i64 0, .int .i64 0, .int .i64 0, .string ⟨#[]⟩]
def RaQ (l : List UInt8) (b : Nat) (W : World) (r : Ending) (w' : World) : Prop :=
 (∃ x A c w1, readA l = some x ∧ r = .returned (.tuple #[]) ∧ Below W.heap.size W w1 ∧ VRow w1 A x.row ∧ (∀ p, A = some p → W.heap.size ≤ p.block) ∧ w' = putBlk w1 b (Am.arr x A c) 42) ∨ (readA l = none ∧ r = gaveW ∧ Below W.heap.size W w')
set_option maxRecDepth 100000 in
set_option maxHeartbeats 1600000 in
theorem raDo_any (s : ByteArray) (hs : s.size < 4294967281) (a b : Nat) (W : World) (hL : LayS W) (ha : Blk W a #[.string s] 9) (hb : Blk W b zAct 42) :
  Calls Tryz.prog 51 #[.pointer (some ⟨a, 0, none⟩), .pointer (some ⟨b, 0, none⟩)] W (RaQ s.data.toList b W) := by
 have HRA := hd_ (readAct_any s hs W hL)
 obtain ⟨y0, y1, y2⟩ := blk1c ha
 have HB := hd_ hb
 clear hL hb ha
 go_enter Tryz.func51, Tryz.ntmps51
 go_wp2_with fail
 cases ho : readA s.data.toList with
 | none =>
  rw [ho] at HRA
  have HR := hd_ ho
  clear ho
  refine HRA.out.mono ?_
  rintro q w1 ⟨hq, hb1⟩
  obtain rfl : q = gaveW := hq
  unfold gaveW
  go_wp2_with fail
  exact ⟨rfl, Or.inr ⟨HR.out, rfl, hb1⟩⟩
 | some x =>
  rw [ho] at HRA
  have HR := hd_ ho
  clear ho
  refine HRA.out.mono ?_
  rintro q w1 ⟨⟨A, cA, rfl, hvr, hA⟩, hb1⟩
  have hB1 := HB.out.ext hb1
  unfold zAct at hB1
  have HBX := hd_ hb1
  have HVR := hd_ hvr
  have HPA := hd_ hA
  unfold Ac.agg
  obtain ⟨w3, rfl, lt⟩ := blk_put hB1
  obtain ⟨pc, pf, pS⟩ := putBlk_facts (w := w3) 42 lt
  clear hb1 hB1 hvr hA
  go_wp2_with fail
  go_end0
  exact Or.inl ⟨x, A, cA, _, HR.out, rfl, HBX.out, HVR.out, HPA.out, by rw [putputS]; rfl⟩
theorem RaQ_end {l : List UInt8} {b n : Nat} {W : World} (hn : Blk W n #[.bool false] 4) (hne : n ≠ b) : mayEnd n (RaQ l b W) := by
 rintro r w' (⟨x, A, c, w1, _, rfl, hb, _, _, rfl⟩ | ⟨_, rfl, hb⟩)
 · exact ⟨Or.inl rfl, putBlk_ne (hn.ext hb) hne⟩
 · exact ⟨Or.inr rfl, hn.ext hb⟩
def RActP (o : Option Ac) (B : Nat) (r : Ending) (w' : World) : Prop := match o with
 | some a => ∃ A c, r = .returned (.tuple #[a.agg A c, .int .i64 0]) ∧ VRow w' A a.row ∧ ∀ p, A = some p → B ≤ p.block
 | none => r = .returned (.tuple #[.agg zAct, .int .i64 310])
theorem VRow.putAt {w : World} {A : Option Addr} {l : List V} (h : VRow w A l) (b : Nat) (ds : Array Value) (t : TypeId) (hA : ∀ p, A = some p → b < p.block) : VRow (putBlk w b ds t) A l := by
 refine ⟨h.1, h.2.1, fun hl => ?_⟩
 obtain ⟨g, off, rfl, hlt, hc⟩ := h.2.2 hl
 have hg := hA _ rfl
 have hne : g ≠ b := by simp only at hg; omega
 have hcell : ∀ i, (putBlk w b ds t).cell? ⟨g, i, none⟩ = w.cell? ⟨g, i, none⟩ := fun i => by
  unfold World.cell? putBlk
  simp only
  rw [Array.getElem?_setIfInBounds_ne (fun e => hne e.symm)]
 refine ⟨g, off, rfl, by rw [putBlk_size]; exact hlt, fun i v hi => ?_⟩
 obtain ⟨c0, c1, c2, c3⟩ := hc i v hi
 exact ⟨(hcell _).trans c0, (hcell _).trans c1, (hcell _).trans c2, (hcell _).trans c3⟩
set_option maxRecDepth 100000 in
set_option maxHeartbeats 1600000 in
theorem readActE_any (s : ByteArray) (hs : s.size < 4294967281) (w : World) (hL : LayS w) :
  Calls Tryz.prog 19 #[.string s] w fun r w' => RActP (readA s.data.toList) w.heap.size r w' ∧ Below w.heap.size w w' := by
 have hA : Below w.heap.size w ((w.alloc (.cells #[.string s] 9)).alloc (.cells #[.int .u8 0, .int .u8 0, .int .i64 0, .slice none 0 0, .int .i64 0, .int .i64 0, .int .i64 0, .string ⟨#[]⟩] 42)) := (by repeat (first | exact Below.refl _ _ | assumption | refine Below.drew ?_ | refine below_drewN ?_ _ | refine Below.alloc ?_ (by simp <;> omega) _))
 have hS : Blk ((w.alloc (.cells #[.string s] 9)).alloc (.cells #[.int .u8 0, .int .u8 0, .int .i64 0, .slice none 0 0, .int .i64 0, .int .i64 0, .int .i64 0, .string ⟨#[]⟩] 42)) w.heap.size #[.string s] 9 := (Blk.new w _ _).old _
 have hV : Blk ((w.alloc (.cells #[.string s] 9)).alloc (.cells #[.int .u8 0, .int .u8 0, .int .i64 0, .slice none 0 0, .int .i64 0, .int .i64 0, .int .i64 0, .string ⟨#[]⟩] 42)) (w.heap.size + 1) zAct 42 := by
  have := Blk.new (w.alloc (.cells #[.string s] 9)) zAct 42
  simpa [zAct] using this
 have hsz : ((w.alloc (.cells #[.string s] 9)).alloc (.cells #[.int .u8 0, .int .u8 0, .int .i64 0, .slice none 0 0, .int .i64 0, .int .i64 0, .int .i64 0, .string ⟨#[]⟩] 42)).heap.size = w.heap.size + 2 := by simp
 generalize hW : ((w.alloc (.cells #[.string s] 9)).alloc (.cells #[.int .u8 0, .int .u8 0, .int .i64 0, .slice none 0 0, .int .i64 0, .int .i64 0, .int .i64 0, .string ⟨#[]⟩] 42)) = W at hA hS hV hsz
 have hb3 : Below W.heap.size W (W.alloc (.cells #[.bool false] 4)) := bel1 _ _
 have hn3 := Blk.new W #[.bool false] 4
 have HCA := hd_ (caught_ra (.pointer (some ⟨w.heap.size, 0, none⟩)) (.pointer (some ⟨w.heap.size + 1, 0, none⟩)) W _ (raDo_any s hs w.heap.size (w.heap.size + 1) (W.alloc (.cells #[.bool false] 4)) ((hL.ext hA).ext hb3) (hS.ext hb3) (hV.ext hb3)) (RaQ_end hn3 (by omega)))
 have HV := hd_ (hV.ext hb3)
 have HSZ := hd_ hsz
 have HA := hd_ hA
 have HB3 := hd_ hb3
 clear hA hS hV hsz hL hb3 hn3
 go_enter Tryz.func19, Tryz.ntmps19
 go_wp2_with fail
 clear hW
 refine HCA.out.mono ?_
 rintro r w1 ⟨w4, ⟨hq, rfl, rfl⟩ | ⟨hq, rfl, rfl⟩⟩
 · rcases hq with ⟨x, A, cA, w5, hr, _, hb, hvr, hpa, rfl⟩ | ⟨_, h, _⟩
   · have hv5 := HV.out.ext hb
     have hlt := hv5.lt
     have hWs : (W.alloc (.cells #[.bool false] 4)).heap.size = W.heap.size + 1 := by simp
     have hBB : Below w.heap.size w (putBlk w5 (w.heap.size + 1) (Am.arr x A cA) 42) := putBlk_below _ _ (bt HA.out (bt HB3.out hb)) (by omega)
     have HVR := hd_ (hvr.putAt (w.heap.size + 1) (Am.arr x A cA) 42 (fun p hp => by have := hpa p hp; have := HSZ.out; omega))
     have HPA : Hid (∀ p, A = some p → w.heap.size ≤ p.block) := fun p hp => by have := hpa p hp; have := HSZ.out; omega
     obtain ⟨xd, xk, xtb, xrow, xn, xm, xq, xnm⟩ := x
     have HR := hd_ hr
     have HBB := hd_ hBB
     unfold Am.arr at HBB HVR ⊢
     simp only at HBB HVR ⊢
     obtain ⟨pc, pf, pS⟩ := putBlk_facts (w := w5) 42 hlt
     clear hr hBB hb hv5 hvr hpa hWs
     go_wp2_with fail
     refine bodyPost_ret (v := .tuple #[Ac.agg ⟨xd, xk, xtb, xrow, xn, xm, xq, xnm⟩ A cA, .int .i64 0]) (by simp [results, Tryz.results19, go_sem, Ac.agg, pc]) rfl ?_
     refine ⟨?_, HBB.out⟩
     rw [HR.out]
     exact ⟨A, cA, rfl, HVR.out, HPA.out⟩
   · cases h
 · rcases hq with ⟨x, A, cA, w5, _, h, _⟩ | ⟨hr, _, hb⟩
   · cases h
   · have hv5 := HV.out.ext hb
     have HR := hd_ hr
     have hz := putBlk_ne (cs := #[.bool true]) (t := 4) (b := W.heap.size) hv5 (by rw [HSZ.out]; omega)
     have hBB : Below w.heap.size w (putBlk w4 W.heap.size #[.bool true] 4) := putBlk_below _ _ (bt HA.out (bt HB3.out hb)) (by rw [HSZ.out]; omega)
     generalize putBlk w4 W.heap.size #[.bool true] 4 = W6 at hz hBB ⊢
     unfold zAct at hz
     obtain ⟨w7, rfl, lt⟩ := blk_put hz
     obtain ⟨pc, pf, pS⟩ := putBlk_facts (w := w7) 42 lt
     have HBB := hd_ hBB
     clear hr hBB hb hv5 hz
     go_wp2_with fail
     refine bodyPost_ret (v := .tuple #[.agg zAct, .int .i64 310]) (by simp [results, Tryz.results19, go_sem, pc, zAct]) rfl ?_
     exact ⟨by rw [HR.out]; rfl, HBB.out⟩
def BoolP (w : World) (r : Ending) (w' : World) : Prop := (∃ v, r = .returned (.bool v)) ∧ Below w.heap.size w w'
set_option maxRecDepth 100000 in
set_option maxHeartbeats 1000000 in
theorem large13_any (ts : List Ta) (A : Option Addr) (c : Nat) (w : World) (ht : TRow w A c ts) :
  Calls Tryz.prog 26 #[.agg #[.slice A ts.length c]] w (BoolP w) := by
 have hlen := ht.2.1
 have HT := hd_ ht
 clear ht
 go_enter Tryz.func26, Tryz.ntmps26
 go_wp2_with fail
 have h0 : Blk (w.alloc (.cells #[.slice A ts.length c] 24)) w.heap.size #[.slice A ts.length c] 24 := Blk.new w #[.slice A ts.length c] 24
 have hC : Below w.heap.size w (w.alloc (.cells #[.slice A ts.length c] 24)) := bel1 _ _
 have HA := hd_ h0
 have HC := hd_ hC
 clear h0 hC
 generalize w.alloc (.cells #[.slice A ts.length c] 24) = Wq at HA HC ⊢
 go_loopw [3, 4] (fun n i wr => ∃ (k : Nat) (v : Int), k ≤ ts.length ∧ n = .int .i64 v ∧ i = .int .i64 k ∧ Hid (Below Wq.heap.size Wq wr)) (fun _ i _ => ts.length - (intOf i).toNat)
 case atStart => exact ⟨0, 0, by omega, rfl, rfl, Below.refl _ _⟩
 case round =>
  obtain ⟨k, n, hk1, rfl, rfl, HBW⟩ := hrel
  have HBW' := hd_ (bt HC.out HBW.out)
  have g0 := (HA.out.ext HBW.out).cell 0
  simp only [List.getElem?_toArray, List.getElem?_cons_zero] at g0
  have l1 := (HA.out.ext HBW.out).lt
  by_cases hlt : k < ts.length
  · obtain ⟨b, off, t, rfl, hb, hlk, hmem, hwf, hcr, c0, c1, c2, c3, c4⟩ := (HT.out.ext HBW'.out).at_ hlt
    have HCR := hd_ hcr
    have hcl := hcr.2.1
    have hnz := hwf.1
    clear hlk hmem hwf hcr
    have i0 : (0 : Int) ≤ k := by omega
    have i1 : (k : Int) < ts.length := by omega
    by_cases h40 : (k : Int) < 40
    · obtain ⟨nm, cs, key, ref, par, TA, tc⟩ := t
      simp only at c0 c1 c2 c3 c4 HCR hcl hnz
      go_wp2_with fail
      go_quiet (fail)
      go_wp2_with fail
      generalize wrap64 (wrap64 (n + ↑cs.length) + ↑nm.size / 16) = n2
      have HC1 := hd_ c1
      clear c0 c1 c2 c3 c4 g0
      have HBN := hd_ (show Below wr.heap.size wr (wr.drewN nq) by have := Below.refl wr.heap.size wr; repeat (first | assumption | refine Below.drew ?_ | refine below_drewN ?_ _))
      generalize wr.drewN nq = wx at HBN ⊢
      go_loopw [3, 5] (fun n i wy => ∃ (j : Nat) (v : Int), j ≤ cs.length ∧ n = .int .i64 v ∧ i = .int .i64 j ∧ Hid (Below wr.heap.size wr wy)) (fun _ i _ => cs.length - (intOf i).toNat)
      case atStart => exact ⟨0, n2, by omega, rfl, rfl, HBN.out⟩
      case round =>
       obtain ⟨j, n3, hj1, rfl, rfl, HBY⟩ := hrel
       have c1 := (HBY.out.cell (p := ⟨b, off + k * 5 + 1, none⟩) hb).trans HC1.out
       have g0 := ((HA.out.ext HBW.out).ext HBY.out).cell 0
       simp only [List.getElem?_toArray, List.getElem?_cons_zero] at g0
       have l2 := HBY.out.size
       have h40' : k < 40 := by omega
       by_cases hjl : j < cs.length
       · by_cases hj40 : (j : Int) < 40
         · obtain ⟨bb, of, v, rfl, hbb, hv, hm, hvw, d0, d1, d2⟩ := (HCR.out.ext HBY.out).at_ hjl
           have hvz := hvw.1
           have m1 : (j : Int) < cs.length := by omega
           have m0 : (0 : Int) ≤ j := by omega
           clear hv hm hvw
           go_wp2_with fail
           go_roundw
           case rel => exact ⟨j + 1, _, by omega, rfl, by go_num, HBY.out⟩
           case measure => simp [intOf]; omega
         · have m2 : (40 : Int) ≤ j := by omega
           go_wp2_with fail
           go_roundw
           case rel => exact ⟨k + 1, _, by omega, rfl, by go_num, bt HBW.out HBY.out⟩
           case measure => simp [intOf]; omega
       · have m1 : (cs.length : Int) ≤ j := by omega
         go_wp2_with fail
         go_roundw
         case rel => exact ⟨k + 1, _, by omega, rfl, by go_num, bt HBW.out HBY.out⟩
         case measure => simp [intOf]; omega
    · have e1 : (30 : Int) < ts.length := by omega
      go_wp2_with fail
      go_ret
      exact ⟨⟨_, rfl⟩, HBW'.out⟩
  · have hk : ¬ (k : Int) < ts.length := by omega
    by_cases e1 : (30 : Int) < ts.length
    · go_wp2_with fail
      go_ret
      exact ⟨⟨_, rfl⟩, HBW'.out⟩
    · have f1 : (ts.length : Int) ≤ 30 := by omega
      by_cases e2 : (600 : Int) < n
      · go_wp2_with fail
        go_ret
        exact ⟨⟨_, rfl⟩, HBW'.out⟩
      · have f2 : n ≤ 600 := by omega
        go_wp2_with fail
        go_ret
        exact ⟨⟨_, rfl⟩, HBW'.out⟩
end Go.Proofs.YtfekohonidggjaaGreatDoor
