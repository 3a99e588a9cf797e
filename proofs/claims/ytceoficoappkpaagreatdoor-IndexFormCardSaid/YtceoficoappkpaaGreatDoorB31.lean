/- Texts joined by a tool: contracts and walks of this claim. -/
import Derived.Test.YtceoficoappkpaaGreatDoorB30
import Derived.Laws.EntriesVeiled
import Derived.Laws.AppendOwnNone
namespace Go.Proofs.YtceoficoappkpaaGreatDoor
open Go.RowKit Go.Shelf
attribute [local go_sem] Oper.semAt_some

theorem nm_b1 {w : World} {b : Nat} {s : ByteArray} (h : Blk w b #[.string s] 9) : NmRow w (some ⟨b, 0, none⟩) [s] := by
 intro _
 refine ⟨b, rfl, h.lt, fun j t hj => ?_⟩
 match j, hj with
 | 0, hj =>
  obtain rfl : s = t := by simpa using hj
  exact h.cell 0
 | j + 1, hj => simp at hj
theorem nm_b2 {w : World} {b : Nat} {s s' : ByteArray} (h : Blk w b #[.string s, .string s'] 9) : NmRow w (some ⟨b, 0, none⟩) [s, s'] := by
 intro _
 refine ⟨b, rfl, h.lt, fun j t hj => ?_⟩
 match j, hj with
 | 0, hj =>
  obtain rfl : s = t := by simpa using hj
  exact h.cell 0
 | 1, hj =>
  obtain rfl : s' = t := by simpa using hj
  exact h.cell 1
 | j + 2, hj => simp at hj
theorem fld_file (t : ByteArray) (W : World) : (Instr.field 286 (.agg #[.string t]) 0).run Tryz.prog W = .ok (.string t) W := by kernel_rfl
theorem NmOk.ok {s : ByteArray} (h : NmOk s) : okS s := by
 have := h.2.1
 unfold okS; omega
set_option maxRecDepth 100000 in
theorem read_none (d F : Nat) (u lo : Value) (ks : List ByteArray) (sz : ByteArray → Nat) (s : ByteArray) (hs : NmOk s) (hn : s ∉ ks) (w : World) (hd : DkW w d F u lo ks sz) :
  Calls Tryz.prog 164 #[.pointer (some ⟨d, 0, none⟩), .string s, .int .i64 0, .int .i64 16777216] w fun r w' => r = .returned (.tuple #[.string ⟨#[]⟩, .int .i64 3]) ∧ Below w.heap.size w w' := by
 have HL := hd_ (fun (W : World) (A : Option Addr) (c : Nat) (hW : Below w.heap.size w W) (hr : NmRow W A [s]) => dlive_any d F u lo ks sz [s] (by simpa using hs) (by simp) A c W hr (hd.ext hW))
 have HH := hd_ (fun (W : World) (hW : Below w.heap.size w W) => dhas_any d F u lo ks sz s hs.ok W (hd.ext hW))
 rw [decide_eq_false hn] at HH
 have HD := hd_ hd
 have HK : Hid (∀ W : World, W.heap[F]? = w.heap[F]? → (Instr.lookup 181 (.map (some F)) (.string s) false).run Tryz.prog W = .ok (.agg #[.string ⟨#[]⟩]) W) := by
  rcases hd.files.look (p := s) (mt := 181) (et := 286) Tryz.underlying181 zero_file hs.ok with ⟨hm, _⟩ | ⟨_, hW⟩
  · exact absurd hm hn
  · exact fun W h => (hW W h).2
 have hFl := hd.files.lt
 have hfd := fld_file
 clear hd hs hn
 go_enter Tryz.func164, Tryz.ntmps164
 go_wp2_with fail
 refine (HL.out _ _ _ (by repeat (first | exact Below.refl _ _ | assumption | refine Below.drew ?_ | refine below_drewN ?_ _ | refine Below.alloc ?_ (by simp <;> omega) _)) (nm_b1 (Blk.new _ _ _))).mono ?_
 rintro r w1 ⟨rfl, hb⟩
 have hb1 : Below w.heap.size w w1 := bt ((by repeat (first | exact Below.refl _ _ | assumption | refine Below.drew ?_ | refine below_drewN ?_ _ | refine Below.alloc ?_ (by simp <;> omega) _))) hb
 obtain ⟨ld, d0, d1, d2, d3, d4, d5, df⟩ := blk6f (HD.out.ext hb1).b
 have hlk := HK.out w1 (hb1.block F hFl)
 have HB1 := hd_ hb1
 clear hb hb1
 go_wp2_with fail
 refine (HH.out _ HB1.out).mono ?_
 rintro r w2 ⟨rfl, hb⟩
 have hb2 : Below w.heap.size w w2 := bt HB1.out hb
 clear hb ld d0 d1 d2 d3 d4 d5 df hlk
 go_wp2_with fail
 refine bodyPost_ret (v := .tuple #[.string ⟨#[]⟩, .int .i64 3]) (by simp [results, Tryz.results164, go_sem]) rfl ?_
 exact ⟨rfl, hb2⟩
set_option maxRecDepth 100000 in
set_option maxHeartbeats 1600000 in
theorem remove_none (d F : Nat) (u lo : Value) (ks : List ByteArray) (sz : ByteArray → Nat) (s : ByteArray) (hs : NmOk s) (hn : s ∉ ks) (w : World) (hd : DkW w d F u lo ks sz) :
  Calls Tryz.prog 149 #[.pointer (some ⟨d, 0, none⟩), .string s] w fun r w' => r = .returned (.int .i64 3) ∧ Below w.heap.size w w' := by
 have HL := hd_ (fun (W : World) (A : Option Addr) (c : Nat) (hW : Below w.heap.size w W) (hr : NmRow W A [s]) => dlive_any d F u lo ks sz [s] (by simpa using hs) (by simp) A c W hr (hd.ext hW))
 have HH := hd_ (fun (W : World) (hW : Below w.heap.size w W) => dhas_any d F u lo ks sz s hs.ok W (hd.ext hW))
 rw [decide_eq_false hn] at HH
 clear hd hs hn
 go_enter Tryz.func149, Tryz.ntmps149
 go_wp2_with fail
 have h3 : Blk ((w.alloc (.cells #[.string s] 9)).alloc (.cells #[.string s] 9)) w.heap.size #[.string s] 9 := Blk.old (Blk.new _ _ _) _
 have h2 : Blk ((w.alloc (.cells #[.string s] 9)).alloc (.cells #[.string s] 9)) (w.heap.size + 1) #[.string s] 9 := Blk.at (by simp)
 refine (HL.out _ _ _ (by repeat (first | exact Below.refl _ _ | assumption | refine Below.drew ?_ | refine below_drewN ?_ _ | refine Below.alloc ?_ (by simp <;> omega) _)) (nm_b1 h2)).mono ?_
 rintro r w1 ⟨rfl, hb⟩
 have hb1 : Below w.heap.size w w1 := bt ((by repeat (first | exact Below.refl _ _ | assumption | refine Below.drew ?_ | refine below_drewN ?_ _ | refine Below.alloc ?_ (by simp <;> omega) _))) hb
 have h31 := h3.ext hb
 have l3 := h31.lt
 have c3 : w1.cell? ⟨w.heap.size, 0, none⟩ = some (.string s) := h31.cell 0
 have HB1 := hd_ hb1
 clear hb hb1 h3 h31 h2
 go_wp2_with fail
 refine (HH.out _ HB1.out).mono ?_
 rintro r w2 ⟨rfl, hb⟩
 have hb2 : Below w.heap.size w w2 := bt HB1.out hb
 clear hb l3 c3
 go_wp2_with fail
 go_ret
 exact ⟨rfl, hb2⟩
set_option maxRecDepth 100000 in
set_option maxHeartbeats 800000 in
/-- What Append lays into a map that has no such file. -/
theorem app1_any (d F b4 b5 : Nat) (u lo : Value) (ks : List ByteArray) (sz : ByteArray → Nat) (s t : ByteArray) (hs : okS s) (hn : s ∉ ks) (hl : ks.length < 1000) (ht : t.size ≤ 16777216) (w : World) (hd : DkW w d F u lo ks sz)
  (h4 : Blk w b4 #[.string s] 9) (h5 : Blk w b5 #[.string t] 9) :
  Calls Tryz.prog 226 #[.map (some F), .int .i64 t.size, .pointer (some ⟨b4, 0, none⟩), .pointer (some ⟨b5, 0, none⟩)] w fun r w' => r = .returned (.tuple #[]) ∧ Chg [F] w w' ∧ MapS w' F (s :: ks) (FE fun k => if k = s then t.size else sz k) := by
 have HK : Hid ((Instr.lookup 181 (.map (some F)) (.string s) false).run Tryz.prog w.drew = .ok (.agg #[.string ⟨#[]⟩]) w.drew) := by
  rcases hd.files.look (p := s) (mt := 181) (et := 286) Tryz.underlying181 zero_file hs with ⟨hm, _⟩ | ⟨_, hW⟩
  · exact absurd hm hn
  · exact (hW w.drew rfl).2
 obtain ⟨l4, c4⟩ : b4 < w.heap.size ∧ w.cell? ⟨b4, 0, none⟩ = some (.string s) := ⟨h4.lt, h4.cell 0⟩
 obtain ⟨l5, c5⟩ : b5 < w.heap.size ∧ w.cell? ⟨b5, 0, none⟩ = some (.string t) := ⟨h5.lt, h5.cell 0⟩
 have hfd := fld_file
 have HZ3 : Hid (((⟨#[]⟩ : ByteArray) ++ t).size = t.size) := by
  show ((⟨#[]⟩ : ByteArray) ++ t).size = t.size
  rw [ByteArray.size_append]; exact Nat.zero_add _
 have HU : Hid (∃ w', (Instr.mapUpdate 181 (.map (some F)) (.string s) (.agg #[.string (⟨#[]⟩ ++ t)])).run Tryz.prog w.drew = .ok () w' ∧ Chg [F] w w' ∧ MapS w' F (s :: ks) (FE fun k => if k = s then t.size else sz k)) := by
  have hm : MapS w.drew F ks (FE sz) := hd.files.chg (Chg.of_below (S := []) ((by repeat (first | exact Below.refl _ _ | assumption | refine Below.drew ?_ | refine below_drewN ?_ _ | refine Below.alloc ?_ (by simp <;> omega) _)) : Below w.heap.size w w.drew)) (by simp) fun _ _ _ h => h
  obtain ⟨w', hrun, hturn, hres⟩ := hm.put (mt := 181) (et := 286) Tryz.underlying181 hs (by omega) (.agg #[.string (⟨#[]⟩ ++ t)])
  have hk := turned_chg hturn
  refine ⟨w', hrun, ⟨hk.os, hk.tape, hk.output, hk.size, hk.block⟩, hres (s :: ks) _ (List.nodup_cons.2 ⟨hn, hd.files.nd⟩) (by simp) (fun h => absurd h hn) (fun _ => rfl) ⟨⟨#[]⟩ ++ t, rfl, HZ3.out.trans (if_pos rfl).symm⟩ ?_⟩
  rintro q hq hne v ⟨x, rfl, hx⟩
  exact ⟨x, rfl, hx.trans (if_neg hne).symm⟩
 obtain ⟨w9, hrun9, hc9, hm9⟩ := HU.out
 have HF9 := hd_ (And.intro hc9 hm9)
 have hn0 : (ByteArray.mk #[]).size = 0 := rfl
 have hnb : ¬ (9223372036854775807 < t.size) := by omega
 have HK9 := HK.out
 clear HU hc9 hm9 hd h4 h5 HK
 go_enter Tryz.func226, Tryz.ntmps226
 go_upto_region 0 with fail
 let Iv : Nat → Unit → World → Prop := fun k _ W => match k with
  | 0 => W = w.drew
  | _ => W = w9
 refine region_phase (Iv) (fun _ _ _ => True) (()) (fun _ => [.map (some F), .string s, .map (some F), .string s, .agg #[.string ⟨#[]⟩], .string ⟨#[]⟩, .string t, .int .i64 t.size, .string t, .int .i64 t.size, .int .i64 t.size, .string t, .string (⟨#[]⟩ ++ t), .agg #[.string (⟨#[]⟩ ++ t)], undef]) [14] [(0, 0), (0, 0), (0, 0), (0, 0), (0, 0), (0, 0), (0, 0), (0, 0), (0, 0), (0, 0), (0, 0), (0, 0), (0, 0), (0, 0), (0, 1)] [false, false, false, false, false, false, true, true, true, true, true, true, true, true, true, true, true, true, true, true] [6, 7, 8, 9, 10, 11, 12, 13, 14, 15, 16, 17, 18, 19, 0] [] rfl (fun _ => rfl) (fun _ _ _ _ _ _ _ _ _ => rfl) (by kernel_rfl) (by kernel_rfl) (by kernel_rfl) (by decide) (by kernel_rfl) (by kernel_rfl) (by kernel_rfl) (by kernel_rfl) (by kernel_rfl) ⟨PhStep.pure rfl ?_, PhStep.pure rfl ?_, PhStep.pure rfl ?_, PhStep.pure rfl ?_, PhStep.pure rfl ?_, PhStep.pure rfl ?_, PhStep.pure rfl ?_, PhStep.pure rfl ?_, PhStep.pure rfl ?_, PhStep.pure rfl ?_, PhStep.pure rfl ?_, PhStep.pure rfl ?_, PhStep.pure rfl ?_, PhStep.pure rfl ?_, PhStep.chain 0 rfl ?c0_14, trivial⟩ ?done0
 case done0 =>
  intro g x W hiv
  have hW : W = w9 := hiv
  subst hW
  simp only [StepGoal, overlay, cond_true, cond_false]
  clear hiv Iv
  refine bodyPost_end (v := .tuple #[]) (by simp [results, Tryz.results226, go_sem]) rfl ?_
  exact ⟨rfl, HF9.out.1, HF9.out.2⟩
 all_goals
  first
   | (intro g x W1 hiv
      have hW1 : W1 = w.drew := hiv
      subst hW1
      intro K hK
      rw [if_pos (by rfl)]; simp only [overlay, upd, cond_true, cond_false, List.getD_cons_zero, List.getD_cons_succ, Nat.reduceEqDiff, reduceIte]
      go_simp
      exact hK.out _ _ () rfl trivial rfl)
   | (intro q hk1 hk2 g x W1 hiv
      intro K hK
      rw [if_pos (by rfl)]; simp only [overlay, upd, cond_true, cond_false, List.getD_cons_zero, List.getD_cons_succ, Nat.reduceEqDiff, reduceIte]
      go_simp
      exact hK.out _ _ _ hiv rfl rfl)
   | (intro q hk1 hk2 g x W1 hiv
      intro K hK
      obtain rfl : q = 0 := by simp at hk2; omega
      have hW : W1 = w.drew := hiv
      subst hW
      rw [if_pos (by rfl)]; simp only [overlay, upd, cond_true, cond_false, List.getD_cons_zero, List.getD_cons_succ, Nat.reduceEqDiff, reduceIte]
      go_simp
      exact hK.out _ _ _ rfl rfl rfl)
theorem app2_any (d F b4 b5 b8 : Nat) (u lo : Value) (ks : List ByteArray) (sz : ByteArray → Nat) (s t : ByteArray) (hs : okS s) (hn : s ∉ ks) (hl : ks.length < 1000) (ht : t.size ≤ 16777216) (w : World) (hd : DkW w d F u lo ks sz)
  (h4 : Blk w b4 #[.string s] 9) (h5 : Blk w b5 #[.string t] 9) (h8 : Blk w b8 #[.func (.func 226) #[] #[.pointer (some ⟨b4, 0, none⟩), .pointer (some ⟨b5, 0, none⟩)]] 294) :
  Calls Tryz.prog 227 #[.map (some F), .pointer (some ⟨b8, 0, none⟩), .pointer (some ⟨b5, 0, none⟩)] w fun r w' => r = .returned (.tuple #[]) ∧ Chg [F] w w' ∧ MapS w' F (s :: ks) (FE fun k => if k = s then t.size else sz k) := by
 have HA := hd_ (app1_any d F b4 b5 u lo ks sz s t hs hn hl ht w hd h4 h5)
 obtain ⟨l5, c5⟩ : b5 < w.heap.size ∧ w.cell? ⟨b5, 0, none⟩ = some (.string t) := ⟨h5.lt, h5.cell 0⟩
 obtain ⟨l8, c8⟩ : b8 < w.heap.size ∧ w.cell? ⟨b8, 0, none⟩ = some (.func (.func 226) #[] #[.pointer (some ⟨b4, 0, none⟩), .pointer (some ⟨b5, 0, none⟩)]) := ⟨h8.lt, h8.cell 0⟩
 clear hd h4 h5 h8 hn hl
 go_enter Tryz.func227, Tryz.ntmps227
 go_wp2_with fail
 refine HA.out.mono ?_
 rintro r w1 ⟨rfl, h1, h2⟩
 go_wp2_with fail
 refine bodyPost_end (v := .tuple #[]) (by simp [results, Tryz.results227, go_sem]) rfl ?_
 exact ⟨rfl, h1, h2⟩
theorem used_none (d F : Nat) (u lo : Value) (sz : ByteArray → Nat) (w : World) (hd : DkW w d F u lo [] sz) :
  Calls Tryz.prog 225 #[.pointer (some ⟨d, 0, none⟩)] w fun r w' => r = .returned (.int .i64 0) ∧ Below w.heap.size w w' := by
 obtain ⟨ld, d0, d1, d2, d3, d4, d5, df⟩ := blk6f hd.b
 obtain ⟨w', hr, hi, hg, hz⟩ := hd.files.range (mt := 181) (et := 286) Tryz.underlying181
 have hb : Below w.heap.size w w' := (Below.refl _ _).grown hg (Nat.le_refl _) (fun k e => by cases e)
 have hx := fun ty => hi.next ty
 have hnx : ∀ ty, (Instr.next (.pointer (some ⟨w.heap.size, 0, none⟩)) false ty).run Tryz.prog w' = .ok (.tuple #[.bool false]) w' := fun ty => by
  rcases hx ty with ⟨_, h⟩ | ⟨p, _, _, _, h, _⟩
  · exact h
  · simp at h
 have HB := hd_ hb
 clear hd hi hg hz hb hx
 go_enter Tryz.func225, Tryz.ntmps225
 go_wp2_with fail
 refine wp_loop_rounds 1 ?_
 rw [rounds_succ]
 go_wp2_with fail
 go_ret
 exact ⟨rfl, HB.out⟩
set_option maxRecDepth 100000 in
set_option maxHeartbeats 1600000 in
/-- Append to a disk of no files. -/
theorem append_none (d F : Nat) (u : Value) (sz : ByteArray → Nat) (s t : ByteArray) (hs : NmOk s) (ht : t.size ≤ 4194304) (h0 : t.size ≠ 0) (w : World) (hd : DkW w d F u (.slice none 0 0) [] sz) :
  Calls Tryz.prog 186 #[.pointer (some ⟨d, 0, none⟩), .string s, .string t] w fun r w' => r = .returned (.int .i64 0) ∧ (∃ lo, DkW w' d F u lo [s] (fun k => if k = s then t.size else sz k)) ∧ Chg [d, F] w w' := by
 have HL := hd_ (fun (W : World) (A : Option Addr) (c : Nat) (hW : Below w.heap.size w W) (hr : NmRow W A [s]) => dlive_any d F u (.slice none 0 0) [] sz [s] (by simpa using hs) (by simp) A c W hr (hd.ext hW))
 have HU := hd_ (fun (W : World) (hW : Below w.heap.size w W) => used_none d F u (.slice none 0 0) sz W (hd.ext hW))
 have HD := hd_ (fun (W : World) (hW : Below w.heap.size w W) => hd.ext hW)
 have HS := hd_ hs
 have HZ := hd_ h0
 have hte : t.toList.isEmpty = false := by rw [txt_empty]; simp [h0]
 have hwr : IntKind.i64.wrap (t.size : Int) = t.size := by
  simp only [IntKind.wrap, IntKind.bits, IntKind.signed, Bool.true_and]
  rw [if_neg (by simp; omega)]; omega
 have hgt : decide ((8388608 : Int) < (t.size : Int)) = false := by rw [decide_eq_false_iff_not]; omega
 clear hd hs h0
 go_enter Tryz.func186, Tryz.ntmps186
 go_wp2_with fail
 have h6 : Blk (((w.alloc (.cells #[.string s] 9)).alloc (.cells #[.string t] 9)).alloc (.cells #[.string s] 9)) (w.heap.size + 1 + 1) #[.string s] 9 := Blk.at (by simp)
 have h5 : Blk (((w.alloc (.cells #[.string s] 9)).alloc (.cells #[.string t] 9)).alloc (.cells #[.string s] 9)) (w.heap.size + 1) #[.string t] 9 := Blk.old (Blk.at (by simp)) _
 have h4 : Blk (((w.alloc (.cells #[.string s] 9)).alloc (.cells #[.string t] 9)).alloc (.cells #[.string s] 9)) w.heap.size #[.string s] 9 := Blk.old (Blk.old (Blk.new _ _ _) _) _
 refine (HL.out _ _ _ (by repeat (first | exact Below.refl _ _ | assumption | refine Below.drew ?_ | refine below_drewN ?_ _ | refine Below.alloc ?_ (by simp <;> omega) _)) (nm_b1 h6)).mono ?_
 rintro r w1 ⟨rfl, hb⟩
 have hb1 : Below w.heap.size w w1 := bt ((by repeat (first | exact Below.refl _ _ | assumption | refine Below.drew ?_ | refine below_drewN ?_ _ | refine Below.alloc ?_ (by simp <;> omega) _))) hb
 have H4 := hd_ (h4.ext hb)
 have H5 := hd_ (h5.ext hb)
 have HB1 := hd_ hb1
 clear hb hb1 h4 h5 h6
 obtain ⟨b4, hb4⟩ : ∃ b, b = w.heap.size := ⟨_, rfl⟩
 obtain ⟨b5, hb5⟩ : ∃ b, b = w.heap.size + 1 := ⟨_, rfl⟩
 rw [← hb5] at H5 ⊢
 rw [← hb4] at H4 ⊢
 have HB45 := hd_ (And.intro hb4 hb5)
 clear hb4 hb5
 go_upto_region 4 with fail
 have l5 := H5.out.lt
 have c5 : w1.cell? ⟨b5, 0, none⟩ = some (.string t) := H5.out.cell 0
 let Iv : Nat → Unit → World → Prop := fun k _ W => match k with
  | 0 => W = w1.drew
  | _ => Below w1.heap.size w1 W
 refine region_phase (Iv) (fun _ _ _ => True) (()) (fun _ => [.string t, .bool true, .bool true, .pointer (some ⟨d, 0, none⟩), .int .i64 0, .string t, .int .i64 t.size, .int .i64 t.size, .pointer (some ⟨d, 0, none⟩), .pointer (some ⟨d, 0, none⟩), .pointer (some ⟨d, 3, none⟩), .int .i64 8388608, .bool false, .bool false, .bool false]) [4] [(0, 0), (0, 0), (0, 0), (0, 0), (0, 1), (0, 1), (0, 1), (1, 1), (0, 1), (0, 1), (0, 1), (0, 1), (1, 1), (1, 1), (1, 1)] [false, false, false, false, false, false, false, false, false, false, false, false, false, false, false, false, true, true, true, true, true, true, true, true, true, true, true, true, true, true, true, false, false, false, false, false, false] [17, 18, 19, 20, 21, 22, 23, 24, 25, 26, 27, 28, 29, 30, 16] [14] rfl (fun _ => rfl) (fun _ _ _ _ _ _ _ _ _ => rfl) (by kernel_rfl) (by kernel_rfl) (by kernel_rfl) (by decide) (by kernel_rfl) (by kernel_rfl) (by kernel_rfl) (by kernel_rfl) (by kernel_rfl) ⟨PhStep.pure rfl ?_, PhStep.pure rfl ?_, PhStep.pure rfl ?_, PhStep.pure rfl ?_, PhStep.chain 0 rfl ?c4_4, PhStep.pure rfl ?_, PhStep.pure rfl ?_, PhStep.pure rfl ?_, PhStep.pure rfl ?_, PhStep.pure rfl ?_, PhStep.pure rfl ?_, PhStep.pure rfl ?_, PhStep.pure rfl ?_, PhStep.pure rfl ?_, PhStep.pure rfl ?_, trivial⟩ ?done4
 case done4 =>
  intro g x W hiv
  have hW : Below w1.heap.size w1 W := hiv
  simp only [StepGoal, List.map_cons, List.map_nil, overlay, upd, cond_true, cond_false, List.getD_cons_zero, List.getD_cons_succ, Nat.zero_add, Nat.reduceAdd, Nat.reduceEqDiff, reduceIte]
  clear hiv Iv l5 c5
  have HBW : Hid (Below w.heap.size w W) := bt HB1.out hW
  have H4W := hd_ (H4.out.ext hW)
  have H5W := hd_ (H5.out.ext hW)
  have HBS := hd_ hW.size
  clear hW H4 H5 HB1
  go_upto_region 7 with fail
  have h8 : Blk (W.alloc (.cells #[.func (.func 226) #[] #[.pointer (some ⟨b4, 0, none⟩), .pointer (some ⟨b5, 0, none⟩)]] 294)) W.heap.size #[.func (.func 226) #[] #[.pointer (some ⟨b4, 0, none⟩), .pointer (some ⟨b5, 0, none⟩)]] 294 := Blk.new _ _ _
  have hW8 : Below W.heap.size W (W.alloc (.cells #[.func (.func 226) #[] #[.pointer (some ⟨b4, 0, none⟩), .pointer (some ⟨b5, 0, none⟩)]] 294)) := bel1 _ _
  have HB8 : Hid (Below w.heap.size w (W.alloc (.cells #[.func (.func 226) #[] #[.pointer (some ⟨b4, 0, none⟩), .pointer (some ⟨b5, 0, none⟩)]] 294))) := bt HBW.out hW8
  have h48 := H4W.out.ext hW8
  have h58 := H5W.out.ext hW8
  clear hW8 H4W H5W HBW HBS
  generalize (W.alloc (.cells #[.func (.func 226) #[] #[.pointer (some ⟨b4, 0, none⟩), .pointer (some ⟨b5, 0, none⟩)]] 294)) = W8 at h8 HB8 h48 h58 ⊢
  generalize W.heap.size = b8 at h8 ⊢
  have hdk := HD.out W8 HB8.out
  have HDO := hd_ (do_app b4 b5 b8 d F u [] [s] sz (fun k => if k = s then t.size else sz k) W8 hdk (fun X hX => app2_any d F b4 b5 b8 u (.slice none 0 0) [] sz s t HS.out.ok (by simp) (by simp) (by omega) X (hdk.ext hX) (h48.ext hX) (h58.ext hX) (h8.ext hX)))
  have l8 := h8.lt
  have c8 : W8.cell? ⟨b8, 0, none⟩ = some (.func (.func 226) #[] #[.pointer (some ⟨b4, 0, none⟩), .pointer (some ⟨b5, 0, none⟩)]) := h8.cell 0
  clear hdk h8 h48 h58
  go_wp2_with fail
  refine HDO.out.mono ?_
  rintro r W9 ⟨rfl, h1, h2⟩
  go_wp2_with fail
  go_ret
  exact ⟨rfl, h1, below_chg HB8.out h2⟩
 case c4_4 =>
  intro g x W1 hiv
  have hW1 : W1 = w1.drew := hiv
  subst hW1
  intro K hK
  rw [if_pos (by rfl)]; simp only [overlay, upd, cond_true, cond_false, List.getD_cons_zero, List.getD_cons_succ, Nat.reduceEqDiff, reduceIte]
  go_simp
  refine (HU.out _ (HB1.out.drew)).mono ?_
  rintro e W' ⟨rfl, h1⟩
  exact hK.out _ _ () (⟨h1.os, h1.tape, h1.output, h1.size, h1.block⟩ : Below w1.heap.size w1 W') trivial rfl
 all_goals
  intro q hk1 hk2 g x W1 hiv
  intro K hK
  first
   | (rw [if_pos (by rfl)]; simp only [overlay, upd, cond_true, cond_false, List.getD_cons_zero, List.getD_cons_succ, Nat.reduceEqDiff, reduceIte]
      go_simp
      exact hK.out _ _ _ hiv rfl rfl)
   | (have hX : Below w1.heap.size w1 W1 := by
       have hq : q = 0 ∨ q = 1 := by simp at hk1 hk2; omega
       rcases hq with rfl | rfl
       · have h : W1 = w1.drew := hiv
         rw [h]; exact (by repeat (first | exact Below.refl _ _ | assumption | refine Below.drew ?_ | refine below_drewN ?_ _ | refine Below.alloc ?_ (by simp <;> omega) _))
       · exact hiv
      have l6 := (H5.out.ext hX).lt
      have c6 : W1.cell? ⟨b5, 0, none⟩ = some (.string t) := (H5.out.ext hX).cell 0
      obtain ⟨lq, e0, e1, e2, e3, e4, e5, ef⟩ := blk6f (HD.out W1 (bt HB1.out hX)).b
      rw [if_pos (by rfl)]; simp only [overlay, upd, cond_true, cond_false, List.getD_cons_zero, List.getD_cons_succ, Nat.reduceEqDiff, reduceIte]
      go_simp
      exact hK.out _ _ _ hiv rfl rfl)
end Go.Proofs.YtceoficoappkpaaGreatDoor
namespace Go.Proofs.YtceoficoappkpaaGreatDoor
open Go.RowKit Go.Shelf
attribute [local go_sem] Oper.semAt_some

set_option maxRecDepth 100000 in
set_option maxHeartbeats 800000 in
theorem ren1_any (d F b4 b5 : Nat) (u lo : Value) (sz : ByteArray → Nat) (s t : ByteArray) (hs : okS s) (ht : okS t) (hn : t ≠ s) (w : World) (hd : DkW w d F u lo [s] sz)
  (h4 : Blk w b4 #[.string s] 9) (h5 : Blk w b5 #[.string t] 9) :
  Calls Tryz.prog 228 #[.map (some F), .pointer (some ⟨b4, 0, none⟩), .pointer (some ⟨b5, 0, none⟩)] w fun r w' => r = .returned (.tuple #[]) ∧ Chg [F] w w' ∧ MapS w' F [t] (FE fun _ => sz s) := by
 obtain ⟨v, ⟨x, rfl, hx⟩, HK⟩ : ∃ v, FE sz s v ∧ (Instr.lookup 181 (.map (some F)) (.string s) false).run Tryz.prog w = .ok v w := by
  rcases hd.files.look (p := s) (mt := 181) (et := 286) Tryz.underlying181 zero_file hs with ⟨_, v, hv, hW⟩ | ⟨hm, _⟩
  · exact ⟨v, hv, (hW w rfl).2⟩
  · exact absurd (List.mem_singleton.2 rfl) hm
 obtain ⟨w1, hrun1, hturn1, hres1⟩ := hd.files.put (mt := 181) (et := 286) Tryz.underlying181 ht (by simp) (.agg #[.string x])
 have hk1 := turned_chg hturn1
 have hm1 : MapS w1 F [t, s] (FE fun _ => sz s) := hres1 [t, s] _ (by simp [hn]) (by simp) (fun h => absurd (List.mem_singleton.1 h) hn) (fun _ => rfl) ⟨x, rfl, hx⟩ (by
  rintro q hq hne v ⟨y, rfl, hy⟩
  rw [List.mem_singleton] at hq
  subst hq
  exact ⟨y, rfl, hy⟩)
 obtain ⟨w2, hrun2, hturn2, hres2⟩ := hm1.del (mt := 181) (et := 286) Tryz.underlying181 hs (by simp) 0
 have hk2 := turned_chg hturn2
 have hm2 : MapS w2 F [t] (FE fun _ => sz s) := hres2 [t] _ (by simp) (fun q => by
  simp only [List.mem_cons, List.not_mem_nil, or_false]
  constructor
  · rintro rfl; exact ⟨Or.inl rfl, hn⟩
  · rintro ⟨rfl | rfl, h⟩
    · rfl
    · exact absurd rfl h) rfl (fun _ _ _ _ h => h)
 have HF := hd_ (And.intro (chg_tr hk1 hk2) hm2)
 have h41 := h4.chg hk1 (by simp only [List.mem_singleton]; intro e; exact hd.files.no_cells _ _ _ (e ▸ h4))
 obtain ⟨l4, c4⟩ : b4 < w.heap.size ∧ w.cell? ⟨b4, 0, none⟩ = some (.string s) := ⟨h4.lt, h4.cell 0⟩
 obtain ⟨l41, c41⟩ : b4 < w1.heap.size ∧ w1.cell? ⟨b4, 0, none⟩ = some (.string s) := ⟨h41.lt, h41.cell 0⟩
 obtain ⟨l5, c5⟩ : b5 < w.heap.size ∧ w.cell? ⟨b5, 0, none⟩ = some (.string t) := ⟨h5.lt, h5.cell 0⟩
 clear hd h4 h5 h41 hm1 hm2 hk1 hk2 hres1 hres2 hturn1 hturn2
 go_enter Tryz.func228, Tryz.ntmps228
 go_wp2_with fail
 refine bodyPost_end (v := .tuple #[]) (by simp [results, Tryz.results228, go_sem]) rfl ?_
 exact ⟨rfl, HF.out.1, HF.out.2⟩
set_option maxRecDepth 100000 in
set_option maxHeartbeats 1600000 in
theorem rename_one (d F : Nat) (u : Value) (sz : ByteArray → Nat) (s t : ByteArray) (hs : NmOk s) (ht : NmOk t) (hn : t ≠ s) (hq : (s.toList == t.toList) = false) (w : World) (hd : DkW w d F u (.slice none 0 0) [s] sz) :
  Calls Tryz.prog 188 #[.pointer (some ⟨d, 0, none⟩), .string s, .string t] w fun r w' => r = .returned (.int .i64 0) ∧ (∃ lo, DkW w' d F u lo [t] fun _ => sz s) ∧ Chg [d, F] w w' := by
 have HL := hd_ (fun (W : World) (A : Option Addr) (c : Nat) (hW : Below w.heap.size w W) (hr : NmRow W A [s, t]) => dlive_any d F u (.slice none 0 0) [s] sz [s, t] (by intro x hx; rcases List.mem_cons.1 hx with rfl | hx; exact hs; rw [List.mem_singleton] at hx; exact hx ▸ ht) (by simp) A c W hr (hd.ext hW))
 have HH := hd_ (fun (W : World) (hW : Below w.heap.size w W) => dhas_any d F u (.slice none 0 0) [s] sz s hs.ok W (hd.ext hW))
 rw [decide_eq_true (List.mem_singleton.2 rfl)] at HH
 have HD := hd_ (fun (W : World) (hW : Below w.heap.size w W) => hd.ext hW)
 have HS := hd_ (And.intro hs (And.intro ht hn))
 clear hd hs ht hn
 go_enter Tryz.func188, Tryz.ntmps188
 go_wp2_with fail
 have h6 : Blk (((w.alloc (.cells #[.string s] 9)).alloc (.cells #[.string t] 9)).alloc (.cells #[.string s, .string t] 9)) (w.heap.size + 1 + 1) #[.string s, .string t] 9 := Blk.at (by simp)
 have h5 : Blk (((w.alloc (.cells #[.string s] 9)).alloc (.cells #[.string t] 9)).alloc (.cells #[.string s, .string t] 9)) (w.heap.size + 1) #[.string t] 9 := Blk.old (Blk.at (by simp)) _
 have h4 : Blk (((w.alloc (.cells #[.string s] 9)).alloc (.cells #[.string t] 9)).alloc (.cells #[.string s, .string t] 9)) w.heap.size #[.string s] 9 := Blk.old (Blk.old (Blk.new _ _ _) _) _
 refine (HL.out _ _ _ (by repeat (first | exact Below.refl _ _ | assumption | refine Below.drew ?_ | refine below_drewN ?_ _ | refine Below.alloc ?_ (by simp <;> omega) _)) (nm_b2 h6)).mono ?_
 rintro r w1 ⟨rfl, hb⟩
 have hb1 : Below w.heap.size w w1 := bt ((by repeat (first | exact Below.refl _ _ | assumption | refine Below.drew ?_ | refine below_drewN ?_ _ | refine Below.alloc ?_ (by simp <;> omega) _))) hb
 have h41 := h4.ext hb
 have h51 := h5.ext hb
 have HB1 := hd_ hb1
 clear hb hb1 h4 h5 h6
 obtain ⟨b4, hb4⟩ : ∃ b, b = w.heap.size := ⟨_, rfl⟩
 obtain ⟨b5, hb5⟩ : ∃ b, b = w.heap.size + 1 := ⟨_, rfl⟩
 rw [← hb5] at h51 ⊢
 rw [← hb4] at h41 ⊢
 have HB45 := hd_ (And.intro hb4 hb5)
 clear hb4 hb5
 obtain ⟨l4, c4⟩ : b4 < w1.heap.size ∧ w1.cell? ⟨b4, 0, none⟩ = some (.string s) := ⟨h41.lt, h41.cell 0⟩
 obtain ⟨l5, c5⟩ : b5 < w1.heap.size ∧ w1.cell? ⟨b5, 0, none⟩ = some (.string t) := ⟨h51.lt, h51.cell 0⟩
 have H4 := hd_ h41
 have H5 := hd_ h51
 clear h41 h51
 go_wp2_with fail
 refine (HH.out _ HB1.out).mono ?_
 rintro r w2 ⟨rfl, hb⟩
 have h42 := H4.out.ext hb
 have h52 := H5.out.ext hb
 have HB2 : Hid (Below w.heap.size w w2) := bt HB1.out hb
 clear hb l4 c4 l5 c5 H4 H5 HB1
 have hdk := HD.out w2 HB2.out
 have HDO := hd_ (do_ren b4 b5 d F u [s] [t] sz (fun _ => sz s) w2 hdk (fun X hX => ren1_any d F b4 b5 u (.slice none 0 0) sz s t HS.out.1.ok HS.out.2.1.ok HS.out.2.2 X (hdk.ext hX) (h42.ext hX) (h52.ext hX)))
 clear hdk h42 h52
 go_wp2_with fail
 refine HDO.out.mono ?_
 rintro r W9 ⟨rfl, h1, h2⟩
 go_wp2_with fail
 go_ret
 exact ⟨rfl, h1, below_chg HB2.out h2⟩
end Go.Proofs.YtceoficoappkpaaGreatDoor
namespace Go.Proofs.YtceoficoappkpaaGreatDoor
open Go.RowKit Go.Shelf
attribute [local go_sem] Oper.semAt_some

theorem mbad_any (b : Nat) (w : World) (h : Blk w b #[.int .u64 1, .slice none 0 0, .int .u64 2] 141) :
  Calls Tryz.prog 243 #[.int .u64 1, .pointer (some ⟨b, 0, none⟩)] w fun r w' => r = .returned (.bool false) ∧ w' = w := by
 obtain ⟨l, c0, c1, c2⟩ : b < w.heap.size ∧ w.cell? ⟨b, 0, none⟩ = some (.int .u64 1) ∧ w.cell? ⟨b, 1, none⟩ = some (.slice none 0 0) ∧ w.cell? ⟨b, 2, none⟩ = some (.int .u64 2) := ⟨h.lt, h.cell 0, h.cell 1, h.cell 2⟩
 go_enter Tryz.func243, Tryz.ntmps243
 go_wp2_with fail
 go_ret
 exact ⟨rfl, rfl⟩
set_option maxRecDepth 100000 in
theorem mcheck_any (w : World) :
  Calls Tryz.prog 222 #[.agg #[.int .u64 1, .slice none 0 0, .int .u64 2]] w fun r w' => r = .returned (.int .i64 0) ∧ Below w.heap.size w w' := by
 have HM := hd_ (mbad_any w.heap.size (w.alloc (.cells #[.int .u64 1, .slice none 0 0, .int .u64 2] 141)) (Blk.new _ _ _))
 go_enter Tryz.func222, Tryz.ntmps222
 go_wp2_with fail
 refine HM.out.mono ?_
 rintro r w1 ⟨rfl, rfl⟩
 go_wp2_with fail
 refine wp_loop_rounds 1 ?_
 rw [rounds_succ]
 go_wp2_with fail
 go_ret
 exact ⟨rfl, (by repeat (first | exact Below.refl _ _ | assumption | refine Below.drew ?_ | refine below_drewN ?_ _ | refine Below.alloc ?_ (by simp <;> omega) _))⟩
theorem grow3 (w : World) : Calls Tryz.prog 244 #[.slice none 0 0, .int .i64 3] w fun r w' => (∃ c, r = .returned (.slice (some ⟨w.heap.size, 0, none⟩) 0 c) ∧ w'.ownsRow w.heap.size 29 1 (.slice (some ⟨w.heap.size, 0, none⟩) 0 c) 0 []) ∧ Below w.heap.size w w' := by
 obtain ⟨i0, hi0, hz0, hz1, hz2⟩ := info_parts info_u64
 refine (Any8.slices_Grow_grow Tryz.growU i0 (.int .u64 0) hi0 hz0 (by rw [hz1]; decide) none 0 0 3 [] w (Nat.le_refl _) (by omega) (by rw [hz2]; decide) (by omega) (by simp) (fun _ => rfl) (fun a h => by cases h)).mono ?_
 rintro r w' ⟨rfl, rfl⟩
 have h3 : 3 ≤ grownCap w (0 + 3) 0 (Tryz.growU_ren.t 25) := grownCap_ge w _ _ _
 have hm := grownCap_le_maxLen w (0 + 3) 0 (Tryz.growU_ren.t 25) (by unfold maxLen; omega)
 generalize grownCap w (0 + 3) 0 (Tryz.growU_ren.t 25) = c at h3 hm ⊢
 refine ⟨⟨c, rfl, rfl, Or.inr ⟨w.heap.size, c, _, rfl, Nat.le_refl _, heap_alloc_new w.drew _, Nat.zero_le _, hm, ?_, by simp⟩⟩, (by repeat (first | exact Below.refl _ _ | assumption | refine Below.drew ?_ | refine below_drewN ?_ _ | refine Below.alloc ?_ (by simp <;> omega) _))⟩
 simp [Builtin.zeroCells, Value.cells]
 omega
set_option maxRecDepth 100000 in
set_option maxHeartbeats 1600000 in
theorem concat_any (x y : Nat) (w : World) (hx : Blk w x #[.slice (some ⟨y, 0, none⟩) 3 3, .slice none 0 0] 30) (hy : Blk w y #[.int .u64 1, .int .u64 2, .int .u64 0] 29) :
  Calls Tryz.prog 223 #[.slice (some ⟨x, 0, none⟩) 2 2] w fun r w' => (∃ g c, r = .returned (.slice (some ⟨g, 0, none⟩) 3 c) ∧ w.heap.size ≤ g ∧ g < w'.heap.size ∧ w'.cell? ⟨g, 0, none⟩ = some (.int .u64 1) ∧ w'.cell? ⟨g, 1, none⟩ = some (.int .u64 2) ∧ w'.cell? ⟨g, 2, none⟩ = some (.int .u64 0)) ∧ Below w.heap.size w w' := by
 obtain ⟨i0, hi0, hz0, hz1, hz2⟩ := info_parts info_u64
 have HG := hd_ (grow3 w)
 obtain ⟨lx, x0, x1, xf⟩ := blk2f hx
 have HX := hd_ hx
 have HY := hd_ hy
 clear hx hy
 go_enter Tryz.func223, Tryz.ntmps223
 go_wp2_with fail
 refine wp_loop_rounds 3 ?_
 iterate 3 (rw [rounds_succ]; go_wp2_with fail)
 refine HG.out.mono ?_
 rintro r w1 ⟨⟨c, rfl, hown⟩, hb⟩
 have hx1 := HX.out.ext hb
 have hy1 := HY.out.ext hb
 clear lx x0 x1 xf
 obtain ⟨lx, x0, x1, xf⟩ := blk2f hx1
 have HB := hd_ hb
 have HY1 := hd_ hy1
 have HX1 := hd_ hx1
 clear hb hx1 hy1
 go_wp2_with fail
 refine wp_loop_rounds 3 ?_
 rw [rounds_succ]
 go_wp2_with (at_builtin; refine wpList_append_own _ rfl _ _ 30 rfl w.heap.size 29 i0 (.int .u64 0) 1 8 Tryz.underlying30 hi0 hz0 hz1 hz2 rfl (by decide) (.slice (some ⟨w.heap.size, 0, none⟩) 0 c) 0 [] rfl hown ⟨y, 0, none⟩ 3 3 [.int .u64 1, .int .u64 2, .int .u64 0] rfl rfl ?c1 ?c2 ?c3 ?c4 ?c5 ?_)
 case c1 =>
  intro j v hj
  have ha : (⟨y, 0, none⟩ : Addr).add j = ⟨y, j, none⟩ := by unfold Addr.add; split <;> simp_all
  rw [ha]
  exact (HY1.out.cell j).trans (by simpa using hj)
 case c2 => simp [Value.oneCell']
 case c3 => simp only [maxLen]; omega
 case c4 => omega
 case c5 => exact HB.out.size
 intro v' w2 hown2 hg2 _
 obtain ⟨g, c2, rfl, _⟩ := hown2.form (by omega)
 have hb2 : Below w.heap.size w w2 := Below.grown HB.out hg2 HB.out.size (fun k e => by cases e; exact Nat.le_refl _)
 have hx2 := HX.out.ext hb2
 clear lx x0 x1 xf
 obtain ⟨lx, x0, x1, xf⟩ := blk2f hx2
 have HO2 := hd_ hown2
 have HB2 := hd_ hb2
 clear hown2 hg2 hown hb2 hx2
 go_wp2_with fail
 rw [rounds_succ]
 go_wp2_with (at_builtin; refine wpList_append_own_none rfl _ _ 30 rfl w.heap.size 29 i0 1 Tryz.underlying30 hi0 (.slice (some ⟨g, 0, none⟩) 3 c2) 3 _ rfl HO2.out rfl ?_)
 rw [rounds_succ]
 go_wp2_with fail
 go_ret
 have h0 := HO2.out.cellAt 0 (by decide)
 have h1 := HO2.out.cellAt 1 (by decide)
 have h2 := HO2.out.cellAt 2 (by decide)
 exact ⟨⟨g, c2, rfl, (HO2.out.lt g rfl).1, (HO2.out.lt g rfl).2, by simpa using h0, by simpa using h1, by simpa using h2⟩, HB2.out⟩
end Go.Proofs.YtceoficoappkpaaGreatDoor
