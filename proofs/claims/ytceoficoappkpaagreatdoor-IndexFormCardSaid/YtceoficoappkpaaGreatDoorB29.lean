/- Texts joined by a tool: contracts and walks of this claim. -/
import Derived.Test.YtceoficoappkpaaGreatDoorB28
namespace Go.Proofs.YtceoficoappkpaaGreatDoor
open Go.RowKit Go.Shelf
attribute [local go_sem] Oper.semAt_some

theorem zero_file (w : World) : (zeroValue 286).run Tryz.prog w = .ok (.agg #[.string ⟨#[]⟩]) w := by kernel_rfl
def FE (sz : ByteArray → Nat) (k : ByteArray) (v : Value) : Prop := ∃ t : ByteArray, v = .agg #[.string t] ∧ t.size = sz k
structure DkW (w : World) (d F : Nat) (u lo : Value) (ks : List ByteArray) (sz : ByteArray → Nat) : Prop where
 b : Blk w d #[.map (some F), u, lo, .int .i64 8388608, .int .i64 (-1), .bool false] 184
 files : MapS w F ks (FE sz)
theorem DkW.ne {w : World} {d F : Nat} {u lo : Value} {ks : List ByteArray} {sz : ByteArray → Nat} (h : DkW w d F u lo ks sz) : F ≠ d := by
 intro e
 have h1 := h.b
 rw [← e] at h1
 exact h.files.no_cells _ _ _ h1
theorem DkW.chg {w w' : World} {d F : Nat} {u lo : Value} {ks : List ByteArray} {sz : ByteArray → Nat} {S : List Nat} (h : DkW w d F u lo ks sz) (k : Chg S w w') (hd : d ∉ S) (hF : F ∉ S) : DkW w' d F u lo ks sz :=
 ⟨h.b.chg k hd, h.files.chg k hF fun _ _ _ h => h⟩
theorem DkW.ext {w w' : World} {d F : Nat} {u lo : Value} {ks : List ByteArray} {sz : ByteArray → Nat} (h : DkW w d F u lo ks sz) (k : Below w.heap.size w w') : DkW w' d F u lo ks sz := h.chg (Chg.of_below (S := []) k) (by simp) (by simp)
theorem blk6f {w : World} {b : Nat} {a0 a1 a2 a3 a4 a5 : Value} {t : TypeId} (h : Blk w b #[a0, a1, a2, a3, a4, a5] t) : b < w.heap.size ∧ w.cell? ⟨b, 0, none⟩ = some a0 ∧ w.cell? ⟨b, 1, none⟩ = some a1 ∧ w.cell? ⟨b, 2, none⟩ = some a2 ∧ w.cell? ⟨b, 3, none⟩ = some a3 ∧ w.cell? ⟨b, 4, none⟩ = some a4 ∧ w.cell? ⟨b, 5, none⟩ = some a5 ∧ ∀ i, w.frozen? ⟨b, i, none⟩ = false := ⟨h.lt, h.cell 0, h.cell 1, h.cell 2, h.cell 3, h.cell 4, h.cell 5, fun i => h.frozen i⟩
theorem dnew_any (sz : ByteArray → Nat) (w : World) :
  Calls Tryz.prog 68 #[.int .i64 8388608] w fun r w' => (∃ d F u, r = .returned (.tuple #[.pointer (some ⟨d, 0, none⟩), .int .i64 0]) ∧ DkW w' d F u (.slice none 0 0) [] sz ∧ w.heap.size ≤ d ∧ w.heap.size ≤ F) ∧ Below w.heap.size w w' := by
 have hmk : ∀ w : World, (Instr.makeMap 181 none).run Tryz.prog w = .ok (.map (some w.heap.size)) (w.alloc (.map #[] 0)) := fun _ => by kernel_rfl
 go_enter Tryz.func68, Tryz.ntmps68
 go_wp2_with fail
 refine bodyPost_ret (v := .tuple #[.pointer (some ⟨w.heap.size + 2, 0, none⟩), .int .i64 0]) (by simp [results, Tryz.results68, go_sem]) rfl ?_
 refine ⟨⟨w.heap.size + 2, w.heap.size, .map (some (w.heap.size + 1)), rfl, ⟨?_, ?_⟩, by omega, Nat.le_refl _⟩, (by repeat (first | exact Below.refl _ _ | assumption | refine Below.drew ?_ | refine below_drewN ?_ _ | refine Below.alloc ?_ (by simp <;> omega) _))⟩
 · exact (by repeat (first | exact Blk.at (by simp) | assumption | refine Blk.drew ?_ | refine Blk.old ?_ _))
 · have h1 : Below (w.alloc (.map #[] 0)).heap.size (w.alloc (.map #[] 0)) (((w.alloc (.map #[] 0)).alloc (.map #[] 0)).alloc (.cells #[.map (some w.heap.size), .map (some (w.heap.size + 1)), .slice none 0 0, .int .i64 8388608, .int .i64 (-1), .bool false] 184)) := (by repeat (first | exact Below.refl _ _ | assumption | refine Below.drew ?_ | refine below_drewN ?_ _ | refine Below.alloc ?_ (by simp <;> omega) _))
   exact (MapS.made w (FE sz)).chg (Chg.of_below (S := []) h1) (by simp) fun _ _ _ h => h
def okC (n : Nat) : Prop := (97 ≤ n ∧ n ≤ 122) ∨ (48 ≤ n ∧ n ≤ 57) ∨ n = 46 ∨ n = 45
def NmOk (s : ByteArray) : Prop := 1 ≤ s.size ∧ s.size ≤ 64 ∧ ∀ i (hi : i < s.size), okC s[i].toNat
set_option maxRecDepth 100000 in
set_option maxHeartbeats 800000 in
theorem dmay_any (s : ByteArray) (hs : NmOk s) (w : World) :
  Calls Tryz.prog 237 #[.string s] w fun r w' => r = .returned (.bool true) ∧ Below w.heap.size w w' := by
 obtain ⟨h1, h64, hc⟩ := hs
 obtain ⟨cap, W, hcv, hb, hsz, hcl, hf⟩ := conv_in s w
 have HB := hd_ hb
 have HC := hd_ hc
 have HCL := hd_ hcl
 have hlw : w.heap.size < W.heap.size := by omega
 clear hb hsz hcl hf hc
 go_enter Tryz.func237, Tryz.ntmps237
 go_wp2_with fail
 go_loopw [8] (fun i wr => ∃ k : Nat, k ≤ s.size ∧ i = .int .i64 k ∧ wr = W) (fun i _ => s.size - (intOf i).toNat)
 case atStart => exact ⟨0, by omega, rfl, rfl⟩
 case round =>
  obtain ⟨k, hk, rfl, rfl⟩ := hrel
  by_cases hlt : k < s.size
  · have hck := HCL.out k hlt
    have hok := HC.out k hlt
    generalize s[k].toNat = n at hck hok
    rcases hok with ⟨h2, h3⟩ | ⟨h2, h3⟩ | rfl | rfl
    all_goals
     go_wp2_with fail
     go_roundw
     case rel => exact ⟨k + 1, by omega, by go_num, trivial⟩
     case measure => simp [intOf]; omega
  · obtain rfl : k = s.size := by omega
    have h64i : decide ((s.size : Int) ≤ 64) = true := by simp; omega
    go_wp2_with fail
    go_ret
    exact ⟨rfl, HB.out⟩
theorem dlive1_any (s : ByteArray) (hs : NmOk s) (w : World) :
  Calls Tryz.prog 236 #[.string s] w fun r w' => r = .returned (.bool false) ∧ Below w.heap.size w w' := by
 have HM := hd_ (dmay_any s hs w)
 clear hs
 go_enter Tryz.func236, Tryz.ntmps236
 go_wp2_with fail
 refine HM.out.mono ?_
 rintro r w1 ⟨rfl, hb⟩
 go_wp2_with fail
 go_ret
 exact ⟨rfl, hb⟩
def NmRow (w : World) (A : Option Addr) (l : List ByteArray) : Prop := l ≠ [] → ∃ b, A = some ⟨b, 0, none⟩ ∧ b < w.heap.size ∧ ∀ j s, l[j]? = some s → w.cell? ⟨b, j, none⟩ = some (.string s)
theorem NmRow.ext {w w' : World} {A : Option Addr} {l : List ByteArray} (h : NmRow w A l) (hb : Below w.heap.size w w') : NmRow w' A l := by
 intro hl
 obtain ⟨b, h1, h2, h3⟩ := h hl
 exact ⟨b, h1, Nat.lt_of_lt_of_le h2 hb.size, fun j s hj => (hb.cell (p := ⟨b, j, none⟩) h2).trans (h3 j s hj)⟩
set_option maxRecDepth 100000 in
theorem dindexf_any (l : List ByteArray) (hl : ∀ s ∈ l, NmOk s) (hn : l.length ≤ 1000) (A : Option Addr) (c : Nat) (w : World) (hr : NmRow w A l) :
  Calls Tryz.prog 250 #[.slice A l.length c, .func (.func 236) #[] #[]] w fun r w' => r = .returned (.int .i64 (-1)) ∧ Below w.heap.size w w' := by
 have HL := hd_ (fun k (hk : k < l.length) (W : World) => dlive1_any l[k] (hl _ (List.getElem_mem hk)) W)
 have HR := hd_ hr
 clear hl hr
 go_enter Tryz.func250, Tryz.ntmps250
 go_wp2_with fail
 go_loopw [8] (fun i wr => ∃ k : Nat, k ≤ l.length ∧ i = .int .i64 k ∧ Below w.heap.size w wr) (fun i _ => l.length - (intOf i).toNat)
 case atStart => exact ⟨0, by omega, rfl, Below.refl _ _⟩
 case round =>
  obtain ⟨k, hk, rfl, hb⟩ := hrel
  by_cases hlt : k < l.length
  · obtain ⟨b, rfl, hbl, hcs⟩ := HR.out.ext hb (by intro e; rw [e] at hlt; simp at hlt)
    have hck := hcs k l[k] (List.getElem?_eq_getElem hlt)
    have HB := hd_ hb
    clear hcs hb
    go_wp2_with fail
    refine (HL.out k hlt _).mono ?_
    rintro r w1 ⟨rfl, hb1⟩
    have HB1 : Hid (Below w.heap.size w w1) := bt HB.out hb1
    clear hb1 hck hbl
    go_wp2_with fail
    go_roundw
    case rel => exact ⟨k + 1, by omega, by go_num, HB1.out⟩
    case measure => simp [intOf]; omega
  · obtain rfl : k = l.length := by omega
    go_wp2_with fail
    go_ret
    exact ⟨rfl, hb⟩
theorem dcontainsf_any (l : List ByteArray) (hl : ∀ s ∈ l, NmOk s) (hn : l.length ≤ 1000) (A : Option Addr) (c : Nat) (w : World) (hr : NmRow w A l) :
  Calls Tryz.prog 235 #[.slice A l.length c, .func (.func 236) #[] #[]] w fun r w' => r = .returned (.bool false) ∧ Below w.heap.size w w' := by
 have HI := hd_ (dindexf_any l hl hn A c w hr)
 clear hl hr
 go_enter Tryz.func235, Tryz.ntmps235
 go_wp2_with fail
 refine HI.out.mono ?_
 rintro r w1 ⟨rfl, hb1⟩
 go_wp2_with fail
 go_ret
 exact ⟨rfl, hb1⟩
theorem dlive_any (d F : Nat) (u lo : Value) (ks : List ByteArray) (sz : ByteArray → Nat) (l : List ByteArray) (hl : ∀ s ∈ l, NmOk s) (hn : l.length ≤ 1000) (A : Option Addr) (c : Nat) (w : World) (hr : NmRow w A l) (hd : DkW w d F u lo ks sz) :
  Calls Tryz.prog 195 #[.pointer (some ⟨d, 0, none⟩), .slice A l.length c] w fun r w' => r = .returned (.int .i64 0) ∧ Below w.heap.size w w' := by
 have HI := hd_ (dcontainsf_any l hl hn A c w hr)
 obtain ⟨ld, d0, d1, d2, d3, d4, d5, df⟩ := blk6f hd.b
 clear hl hr hd
 go_enter Tryz.func195, Tryz.ntmps195
 go_wp2_with fail
 refine HI.out.mono ?_
 rintro r w1 ⟨rfl, hb1⟩
 go_wp2_with fail
 go_ret
 exact ⟨rfl, hb1⟩
set_option maxRecDepth 100000 in
theorem dhas_any (d F : Nat) (u lo : Value) (ks : List ByteArray) (sz : ByteArray → Nat) (s : ByteArray) (hs : okS s) (w : World) (hd : DkW w d F u lo ks sz) :
  Calls Tryz.prog 196 #[.pointer (some ⟨d, 0, none⟩), .string s] w fun r w' => r = .returned (.bool (decide (s ∈ ks))) ∧ Below w.heap.size w w' := by
 obtain ⟨ld, d0, d1, d2, d3, d4, d5, df⟩ := blk6f hd.b
 rcases hd.files.look (p := s) (mt := 181) (et := 286) Tryz.underlying181 zero_file hs with ⟨hm, v, ⟨t, rfl, ht⟩, hW⟩ | ⟨hm, hW⟩
 · have hlk := (hW w rfl).1
   rw [decide_eq_true hm]
   clear hd hW hm
   go_enter Tryz.func196, Tryz.ntmps196
   go_wp2_with fail
   go_ret
   exact ⟨rfl, (by repeat (first | exact Below.refl _ _ | assumption | refine Below.drew ?_ | refine below_drewN ?_ _ | refine Below.alloc ?_ (by simp <;> omega) _))⟩
 · have hlk := (hW w rfl).1
   rw [decide_eq_false hm]
   clear hd hW hm
   go_enter Tryz.func196, Tryz.ntmps196
   go_wp2_with fail
   go_ret
   exact ⟨rfl, (by repeat (first | exact Below.refl _ _ | assumption | refine Below.drew ?_ | refine below_drewN ?_ _ | refine Below.alloc ?_ (by simp <;> omega) _))⟩
theorem dburn_any (d F : Nat) (u lo : Value) (ks : List ByteArray) (sz : ByteArray → Nat) (w : World) (hd : DkW w d F u lo ks sz) :
  Calls Tryz.prog 199 #[.pointer (some ⟨d, 0, none⟩)] w fun r w' => r = .returned (.int .i64 0) ∧ w' = w := by
 obtain ⟨w3, rfl, ld⟩ := blk_put hd.b
 obtain ⟨pc, pf, pS⟩ := putBlk_facts (w := w3) 184 ld
 clear hd
 go_enter Tryz.func199, Tryz.ntmps199
 go_wp2_with fail
 go_ret
 exact ⟨rfl, rfl⟩
end Go.Proofs.YtceoficoappkpaaGreatDoor
namespace Go.Proofs.YtceoficoappkpaaGreatDoor
open Go.RowKit
theorem hi_get {v j : Nat} {b : UInt8} (hj : j < 8) (h : (hiN 8 v)[j]? = some b) : b.toNat = v / 2 ^ (56 - 8 * j) % 256 := by
 have : (hiN 8 v)[j]? = some (UInt8.ofNat (v / 2 ^ (56 - 8 * j) % 256)) := by
  simp only [hiN, List.nil_append, List.cons_append]
  match j, hj with
  | 0, _ => rfl
  | 1, _ => rfl
  | 2, _ => rfl
  | 3, _ => rfl
  | 4, _ => rfl
  | 5, _ => rfl
  | 6, _ => rfl
  | 7, _ => rfl
 rw [this] at h
 simp only [Option.some.injEq] at h
 rw [← h, UInt8.toNat_ofNat']
 omega
theorem hi_step (v j : Nat) (hj : j < 8) : v / 2 ^ (64 - 8 * j) * 256 + v / 2 ^ (56 - 8 * j) % 256 = v / 2 ^ (64 - 8 * (j + 1)) := by
 have e : (64 - 8 * j) = (56 - 8 * j) + 8 := by omega
 have e2 : 64 - 8 * (j + 1) = 56 - 8 * j := by omega
 rw [e, e2, Nat.pow_add, ← Nat.div_div_eq_div_mul]
 omega
theorem hi_or (a c : Nat) (hc : c < 256) : a * 256 ||| c = a * 256 + c := by
 have := Nat.two_pow_add_eq_or_of_lt (i := 8) (b := c) hc a
 rw [Nat.mul_comm a 256]
 exact this.symm
end Go.Proofs.YtceoficoappkpaaGreatDoor
namespace Go.Proofs.YtceoficoappkpaaGreatDoor
open Go.RowKit Go.Shelf
attribute [local go_sem] Oper.semAt_some

theorem bsO_take (a r : List UInt8) : (bsO (a ++ r)).extract 0 a.length = bsO a := by
 unfold bsO
 apply ByteArray.ext
 apply Array.toList_inj.1
 rw [ByteArray.data_extract]
 simp
theorem bsO_drop (a r : List UInt8) : (bsO (a ++ r)).extract a.length (a ++ r).length = bsO r := by
 unfold bsO
 apply ByteArray.ext
 apply Array.toList_inj.1
 rw [ByteArray.data_extract]
 simp
theorem chg_put0 {w3 : World} {b : Nat} {cs ds : Array Value} {t : TypeId} : Chg [b] (putBlk w3 b cs t) (putBlk w3 b ds t) := by
 refine ⟨rfl, rfl, rfl, by rw [putBlk_size, putBlk_size]; exact Nat.le_refl _, fun i hi hne => ?_⟩
 have hne' : b ≠ i := fun e => hne (by simp [e])
 unfold putBlk
 simp only
 rw [Array.getElem?_setIfInBounds_ne hne', Array.getElem?_setIfInBounds_ne hne']
set_option maxRecDepth 100000 in
theorem kg1_any (a r : List UInt8) (n : Int) (hn : n = a.length) (hs : (a ++ r).length ≤ 140737488355328) (b1 b2 : Nat) (w : World) (h1 : Blk w b1 #[.string (bsO (a ++ r))] 9) :
  Calls Tryz.prog 93 #[.int .i64 n, .pointer (some ⟨b1, 0, none⟩), .pointer (some ⟨b2, 0, none⟩)] w fun e w' => e = .returned (.string (bsO a)) ∧ Blk w' b1 #[.string (bsO r)] 9 ∧ Chg [b1] w w' := by
 have e1 := bsO_take a r
 have e2 := bsO_drop a r
 have e3 : (bsO (a ++ r)).size = (a ++ r).length := bsO_size _
 have e4 : ((a ++ r).length : Int) = a.length + r.length := by simp
 generalize (a ++ r).length = m at *
 generalize bsO (a ++ r) = s at *
 generalize bsO a = sa at *
 generalize bsO r = sr at *
 subst hn
 generalize a.length = n at *
 generalize r.length = q at *
 obtain ⟨w3, rfl, lb⟩ := blk_put h1
 obtain ⟨pc, pf, pS⟩ := putBlk_facts (w := w3) 9 lb
 subst e3
 have hle : n ≤ s.size := by omega
 have HE2 := hd_ e2
 clear e2 e4 h1
 go_enter Tryz.func93, Tryz.ntmps93
 go_wp2_with fail
 go_ret
 exact ⟨rfl, by rw [HE2.out]; exact putBlk_blk _ _ lb, chg_put0⟩
end Go.Proofs.YtceoficoappkpaaGreatDoor
