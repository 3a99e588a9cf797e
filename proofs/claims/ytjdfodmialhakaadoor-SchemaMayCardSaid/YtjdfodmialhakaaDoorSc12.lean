/- schema.Get: which schema bytes are. -/
import Derived.Test.YtjdfodmialhakaaDoorSc11
namespace Go.Proofs.YtjdfodmialhakaaDoor
open Go.RowKit

def SGet (b : ByteArray) (w : World) (r : Ending) (w' : World) : Prop :=
  Below w.heap.size w w' ∧ ((∃ (T : List Ta) (A : Option Addr) (c : Nat), r = .returned (.tuple #[.agg #[.slice A T.length c], .int .i64 0]) ∧ TRow w' A c T ∧ schB T = true ∧ putS T = b.data.toList ∧ ∀ s0, schB s0 = true → putS s0 = b.data.toList → s0.map Ta.d = T.map Ta.d)
    ∨ (r = .returned (.tuple #[.agg #[.slice none 0 0], .int .i64 7]) ∧ ∀ s0, schB s0 = true → putS s0 ≠ b.data.toList))
theorem info_col : (Tryd.prog.info? 180).map (fun i => (i.zero, i.size, i.bytes)) = some (some (.agg #[.string ⟨#[]⟩, .int .u8 0, .bool false]), 3, 24) := by kernel_rfl
theorem info_tab : (Tryd.prog.info? 116).map (fun i => (i.zero, i.size, i.bytes)) = some (some (.agg #[.string ⟨#[]⟩, .slice none 0 0, .int .i64 0, .int .i64 0, .int .i64 0]), 5, 64) := by kernel_rfl
theorem own_below_put {w : World} {b : Nat} {cs : Array Value} {t : TypeId} {base : Nat} {e : TypeId} {size n : Nat} {v : Value} {xs : List Value} (h : w.ownsRow base e size v n xs) (hb : Blk w b cs t) (hne : e ≠ t) (ds : Array Value) : (putBlk w b ds t).ownsRow base e size v n xs := by
  have e1 := putBlk_self hb
  have h' : (putBlk w b cs t).ownsRow base e size v n xs := by rw [e1]; exact h
  exact own_put h' hb.lt hne ds
theorem cells_blk5 {w : World} {b : Nat} {a0 a1 a2 a3 a4 : Value} {t : TypeId} (h : Blk w b #[a0, a1, a2, a3, a4] t) : ∀ j u, [a0, a1, a2, a3, a4][j]? = some u → w.cell? ((⟨b, 0, none⟩ : Addr).add j) = some u := by
  intro j u hu
  match j with
  | 0 => exact (h.cell 0).trans (by simpa using hu)
  | 1 => exact (h.cell 1).trans (by simpa using hu)
  | 2 => exact (h.cell 2).trans (by simpa using hu)
  | 3 => exact (h.cell 3).trans (by simpa using hu)
  | 4 => exact (h.cell 4).trans (by simpa using hu)
  | j + 5 => simp at hu
theorem str_neq {a b : ByteArray} (h : ¬ a = b) : (a.toList == b.toList) = false ∧ (!a.toList == b.toList) = true := by
  have e : (a.toList == b.toList) = false := by
    rw [beq_eq_false_iff_ne]
    intro e
    apply h
    apply str_inj
    rw [Lib.toList_data, Lib.toList_data] at e
    exact e
  exact ⟨e, by rw [e]; rfl⟩
theorem GI.trow_put {w0 : World} {r0 sb B x : Nat} {A : Option Addr} {c : Nat} {T : List Ta} {w : World} {cs : Array Value} (h : GI w0 r0 sb B A c T w) (hx : Blk w x cs 103) (ds : Array Value) : TRow (putBlk w x ds 103) A c T :=
  TRow.of_own (fun t ht => by
    obtain ⟨h1, h2, h3, _, base, h5⟩ := h.2.2.2.2.2.1 t ht
    exact ⟨h1, CRow.of_own h2 (by omega) rfl (own_below_put h5 hx (by decide) ds)⟩) (by have := h.1.2.2.2.2.2; omega) rfl (own_below_put h.2.2.2.1 hx (by decide) ds)
set_option maxRecDepth 100000 in
set_option maxHeartbeats 6400000 in
theorem getsch_any (b : ByteArray) (w : World) (hT : Tabs w) (hb : b.size ≤ 140737488355328) :
    Calls Tryd.prog 79 #[.string b] w (SGet b w) := by
  have HT := Lib.hid hT
  clear hT
  obtain ⟨i1, hi1, hx0, hx1, hx2⟩ := info_parts info_col
  obtain ⟨i2, hi2, hy0, hy1, hy2⟩ := info_parts info_tab
  go_enter Tryd.func79, Tryd.ntmps79
  go_wp2_with fail
  have h0 : Blk ((((w.alloc (.cells #[.slice none 0 0] 103)).alloc (.cells #[.string b] 9)).alloc (.cells #[.bool false] 4)).alloc (.cells #[.slice none 0 0] 103)) w.heap.size #[.slice none 0 0] 103 := (((Blk.new w #[.slice none 0 0] 103).old _).old _).old _
  have h1 : Blk ((((w.alloc (.cells #[.slice none 0 0] 103)).alloc (.cells #[.string b] 9)).alloc (.cells #[.bool false] 4)).alloc (.cells #[.slice none 0 0] 103)) (w.heap.size + 1) #[.string b] 9 := (by repeat (first | exact Blk.at (by simp) | assumption | refine Blk.drew ?_ | refine Blk.old ?_ _))
  have h2 : Blk ((((w.alloc (.cells #[.slice none 0 0] 103)).alloc (.cells #[.string b] 9)).alloc (.cells #[.bool false] 4)).alloc (.cells #[.slice none 0 0] 103)) (w.heap.size + 1 + 1) #[.bool false] 4 := (by repeat (first | exact Blk.at (by simp) | assumption | refine Blk.drew ?_ | refine Blk.old ?_ _))
  have h3 : Blk ((((w.alloc (.cells #[.slice none 0 0] 103)).alloc (.cells #[.string b] 9)).alloc (.cells #[.bool false] 4)).alloc (.cells #[.slice none 0 0] 103)) (w.heap.size + 1 + 1 + 1) #[.slice none 0 0] 103 := (by repeat (first | exact Blk.at (by simp) | assumption | refine Blk.drew ?_ | refine Blk.old ?_ _))
  have hC : Below w.heap.size w ((((w.alloc (.cells #[.slice none 0 0] 103)).alloc (.cells #[.string b] 9)).alloc (.cells #[.bool false] 4)).alloc (.cells #[.slice none 0 0] 103)) := (by repeat (first | exact Below.refl _ _ | assumption | refine Below.drew ?_ | refine below_drewN ?_ _ | refine Below.alloc ?_ (by simp <;> omega) _))
  generalize (((w.alloc (.cells #[.slice none 0 0] 103)).alloc (.cells #[.string b] 9)).alloc (.cells #[.bool false] 4)).alloc (.cells #[.slice none 0 0] 103) = W0 at h0 h1 h2 h3 hC ⊢
  have q1 : w.heap.size ≤ w.heap.size + 1 + 1 + 1 := by omega
  have q2 : w.heap.size ≠ w.heap.size + 1 + 1 + 1 := by omega
  have q3 : w.heap.size ≤ w.heap.size + 1 := by omega
  have q4 : w.heap.size ≤ w.heap.size + 1 + 1 := by omega
  generalize w.heap.size + 1 + 1 + 1 = sb at h3 q1 q2 ⊢
  generalize w.heap.size + 1 + 1 = bb at h2 q4 ⊢
  generalize w.heap.size + 1 = rb at h1 q3 ⊢
  have HGI0 : Hid (GI w w.heap.size sb W0.heap.size none 0 [] W0) := ⟨⟨Nat.le_refl _, q1, h0.lt, h3.lt, q2, by simp⟩, h0, h3, World.ownsRow_nil _ _ _ _, (fun g h => by cases h), (fun t h => by cases h), hC⟩
  refine (one_any rb bb b false W0 h1 h2 hb).mono ?_
  rintro r w1 ⟨v, s1, bd1, rfl, hrd, v0, v1, hz1, HF⟩
  have HR1 := Lib.hid hrd.r
  have HB1 := Lib.hid hrd.b
  have HGI1 := Lib.hid ((HGI0.out.rd hrd h1 h2 q3 q4).mono hrd.size)
  have HGO1 := Lib.hid (go_start HF.out)
  clear HGI0 HF hrd h0 h1 h2 h3 hC
  go_wp2_with fail
  go_loopw [9] (fun n wr => ∃ (m : Int) (s : ByteArray) (bd : Bool) (A : Option Addr) (c : Nat) (T : List Ta), n = .int .i64 m ∧ 0 ≤ m ∧ (T.length : Int) + m ≤ 255 ∧ s.size ≤ b.size ∧ Hid (Blk wr rb #[.string s] 9) ∧ Hid (Blk wr bb #[.bool bd] 4) ∧ Hid (GI w w.heap.size sb wr.heap.size A c T wr) ∧ Hid (GO b s bd T m)) (fun n _ => (intOf n).toNat)
  case atStart => exact ⟨v, s1, bd1, none, 0, [], rfl, v0, by simpa using v1, hz1, HR1, HB1, HGI1, HGO1⟩
  case round =>
    clear HR1 HB1 HGI1 HGO1
    obtain ⟨m, s, bd, A, c, T, rfl, hm0, hTm, hsz, HRB, HBD, HGI, HGO⟩ := hrel
    have hbd := HBD.out.cell 0
    simp only [List.getElem?_toArray, List.getElem?_cons_zero] at hbd
    by_cases hm : 0 < m
    · cases bd
      · have HWD := Lib.hid (fun (s : ByteArray) (bd : Bool) (W : World) (hW : Below w.heap.size w W) => word_any rb bb s bd W (HT.out.ext hW))
        have HON := Lib.hid (fun (s : ByteArray) (bd : Bool) (W : World) => one_any rb bb s bd W)
        go_wp2_with fail
        refine (HWD.out s false wr HGI.out.2.2.2.2.2.2 HRB.out HBD.out (by omega)).mono ?_
        rintro r w2 ⟨nm, s1, bd1, rfl, hrd, hnz, hz1, HF1⟩
        have HR1 := Lib.hid hrd.r
        have HB1 := Lib.hid hrd.b
        have HGI1 := Lib.hid ((HGI.out.rd hrd HRB.out HBD.out q3 q4).mono hrd.size)
        clear hrd HRB HBD HGI hbd
        go_wp2_with fail
        have hlow : Below w2.heap.size w2 (w2.alloc (.cells #[.string nm, .slice none 0 0, .int .i64 0, .int .i64 0, .int .i64 0] 116)) := (by repeat (first | exact Below.refl _ _ | assumption | refine Below.drew ?_ | refine below_drewN ?_ _ | refine Below.alloc ?_ (by simp <;> omega) _))
        have HTB := Lib.hid (Blk.new w2 #[.string nm, .slice none 0 0, .int .i64 0, .int .i64 0, .int .i64 0] 116)
        have HR2 := Lib.hid (HR1.out.ext hlow)
        have HB2 := Lib.hid (HB1.out.ext hlow)
        have HGI2 := Lib.hid (HGI1.out.low hlow)
        have hrB := HR1.out.lt
        have hbB := HB1.out.lt
        have hszB := hlow.size
        have hBw := HGI1.out.2.2.2.2.2.2.size
        generalize w2.alloc (.cells #[.string nm, .slice none 0 0, .int .i64 0, .int .i64 0, .int .i64 0] 116) = w3 at HTB HR2 HB2 HGI2 hszB ⊢
        generalize w2.heap.size = B at HTB HGI2 hrB hbB hszB hBw ⊢
        clear HR1 HB1 HGI1 hlow
        refine (HON.out s1 bd1 w3 HR2.out HB2.out (by omega)).mono ?_
        rintro r w4 ⟨n1, s2, bd2, rfl, hrd, n0, n255, hz2, HF2⟩
        have HR4 := Lib.hid hrd.r
        have HB4 := Lib.hid hrd.b
        have HGI4 := Lib.hid (HGI2.out.rd hrd HR2.out HB2.out q3 q4)
        have HTB4 := Lib.hid (hrd.blk HTB.out (by omega) (by omega))
        have HGN4 := Lib.hid (go_enter_tab HGO.out hm HF1.out HF2.out)
        have hB4 : B ≤ w4.heap.size := Nat.le_trans hszB hrd.size
        have hcond : m ≤ 255 := by omega
        clear hrd HR2 HB2 HGI2 HTB HGO HF1 HF2
        go_wp2_with fail
        go_loopw [11] (fun n wr => ∃ (q : Int) (s : ByteArray) (bd : Bool) (Cs : List Co) (CA : Option Addr) (cc : Nat), n = .int .i64 q ∧ 0 ≤ q ∧ (Cs.length : Int) + q ≤ 255 ∧ s.size ≤ b.size ∧ B ≤ wr.heap.size ∧ Hid (Blk wr rb #[.string s] 9) ∧ Hid (Blk wr bb #[.bool bd] 4) ∧ Hid (GI w w.heap.size sb B A c T wr) ∧ Hid (Blk wr B #[.string nm, .slice CA Cs.length cc, .int .i64 0, .int .i64 0, .int .i64 0] 116) ∧ Hid (wr.ownsRow B 180 3 (.slice CA Cs.length cc) Cs.length (ccells Cs)) ∧ Hid (∀ c ∈ Cs, c.wf) ∧ Hid (GN b s bd T m nm Cs q)) (fun n _ => (intOf n).toNat)
        case atStart => exact ⟨n1, s2, bd2, [], none, 0, rfl, n0, by simpa using n255, by omega, hB4, HR4, HB4, HGI4, HTB4, World.ownsRow_nil _ _ _ _, (fun c h => by cases h), HGN4⟩
        case round =>
          clear HR4 HB4 HGI4 HTB4 HGN4 hB4
          obtain ⟨q, s, bd, Cs, CA, cc, rfl, hq0, hCq, hsz, hBr, HRB, HBD, HGI, HTB, HCO, HCW, HGN⟩ := hrel
          have hbd := HBD.out.cell 0
          simp only [List.getElem?_toArray, List.getElem?_cons_zero] at hbd
          by_cases hq : 0 < q
          · cases bd
            · go_wp2_with fail
              refine (HWD.out s false wr HGI.out.2.2.2.2.2.2 HRB.out HBD.out (by omega)).mono ?_
              rintro r w5 ⟨cn, s3, bd3, rfl, hrd, hcz, hz3, HF3⟩
              have HR5 := Lib.hid hrd.r
              have HB5 := Lib.hid hrd.b
              have HGI5 := Lib.hid (HGI.out.rd hrd HRB.out HBD.out q3 q4)
              have HTB5 := Lib.hid (hrd.blk HTB.out (by omega) (by omega))
              have HCO5 := Lib.hid (hrd.own HRB.out HBD.out HCO.out (by decide) (by decide))
              have hB5 : B ≤ w5.heap.size := Nat.le_trans hBr hrd.size
              clear hrd HRB HBD HGI HTB HCO hbd
              go_wp2_with fail
              refine (HON.out s3 bd3 w5 HR5.out HB5.out (by omega)).mono ?_
              rintro r w6 ⟨cv, s4, bd4, rfl, hrd, cv0, cv1, hz4, HF4⟩
              have HR6 := Lib.hid hrd.r
              have HB6 := Lib.hid hrd.b
              have HGI6 := Lib.hid (HGI5.out.rd hrd HR5.out HB5.out q3 q4)
              have HTB6 := Lib.hid (hrd.blk HTB5.out (by omega) (by omega))
              have HCO6 := Lib.hid (hrd.own HR5.out HB5.out HCO5.out (by decide) (by decide))
              have hB6 : B ≤ w6.heap.size := Nat.le_trans hB5 hrd.size
              have hwv : IntKind.u8.wrap cv = cv := by simp [IntKind.wrap, IntKind.bits, IntKind.signed]; omega
              clear hrd HR5 HB5 HGI5 HTB5 HCO5
              go_wp2_with fail
              have hlow : Below w6.heap.size w6 (w6.alloc (.cells #[.string cn, .int .u8 cv, .bool false] 180)) := (by repeat (first | exact Below.refl _ _ | assumption | refine Below.drew ?_ | refine below_drewN ?_ _ | refine Below.alloc ?_ (by simp <;> omega) _))
              have HCB := Lib.hid (Blk.new w6 #[.string cn, .int .u8 cv, .bool false] 180)
              have HR7 := Lib.hid (HR6.out.ext hlow)
              have HB7 := Lib.hid (HB6.out.ext hlow)
              have HGI7 := Lib.hid (HGI6.out.low (hlow.mono hB6))
              have HTB7 := Lib.hid (HTB6.out.ext hlow)
              have HCO7 := Lib.hid (own_below HCO6.out hlow)
              have HOB := Lib.hid (obl_own HCO6.out)
              have hcb := HTB6.out.lt
              have hs7 := hlow.size
              unfold obl at HOB
              generalize w6.alloc (.cells #[.string cn, .int .u8 cv, .bool false] 180) = w7 at HCB HR7 HB7 HGI7 HTB7 HCO7 hs7 ⊢
              generalize w6.heap.size = cb at HCB HOB hcb hB6 hs7 ⊢
              clear HR6 HB6 HGI6 HTB6 HCO6 hlow
              refine (HON.out s4 bd4 w7 HR7.out HB7.out (by omega)).mono ?_
              rintro r w8 ⟨cu, s5, bd5, rfl, hrd, cu0, cu1, hz5, HF5⟩
              have HR8 := Lib.hid hrd.r
              have HB8 := Lib.hid hrd.b
              have HGI8 := Lib.hid (HGI7.out.rd hrd HR7.out HB7.out q3 q4)
              have HTB8 := Lib.hid (hrd.blk HTB7.out (by omega) (by omega))
              have HCO8 := Lib.hid (hrd.own HR7.out HB7.out HCO7.out (by decide) (by decide))
              have hCB8 := hrd.blk HCB.out (by omega) (by omega)
              have hB8 : B ≤ w8.heap.size := Nat.le_trans (Nat.le_trans hB6 hs7) hrd.size
              obtain ⟨ub, hub⟩ : ∃ ub : Bool, (cu == 1) = ub := ⟨_, rfl⟩
              have hub2 : decide (cu = 1) = ub := by rw [← hub]; exact (Bool.eq_iff_iff.2 (by simp))
              have HGN8 := Lib.hid (go_col HGN.out hq HF3.out HF4.out HF5.out)
              rw [hub2] at HGN8
              clear hrd HR7 HB7 HGI7 HTB7 HCO7 HCB HF3 HF4 HF5 HGN hub2
              have hlowP : Below B w8 (putBlk w8 cb #[.string cn, .int .u8 cv, .bool ub] 180) := putBlk_below _ _ (Below.mono (Below.refl w8.heap.size w8) hB8) hB6
              have HR9 := Lib.hid (putBlk_ne (t := 180) (cs := #[.string cn, .int .u8 cv, .bool ub]) HR8.out (show rb ≠ cb by omega))
              have HB9 := Lib.hid (putBlk_ne (t := 180) (cs := #[.string cn, .int .u8 cv, .bool ub]) HB8.out (show bb ≠ cb by omega))
              have HTB9 := Lib.hid (putBlk_ne (t := 180) (cs := #[.string cn, .int .u8 cv, .bool ub]) HTB8.out (show B ≠ cb by omega))
              have HGI9 := Lib.hid (HGI8.out.low hlowP)
              have HCO9 := Lib.hid (own_low HCO8.out (putBlk_below (w := w8) (b := cb) #[.string cn, .int .u8 cv, .bool ub] 180 (Below.mono (Below.refl w8.heap.size w8) (Nat.le_of_lt hCB8.lt)) (Nat.le_refl cb)) HOB.out)
              have HCB9 := Lib.hid (putBlk_blk #[.string cn, .int .u8 cv, .bool ub] 180 hCB8.lt)
              have hB9 : B ≤ (putBlk w8 cb #[.string cn, .int .u8 cv, .bool ub] 180).heap.size := by rw [putBlk_size]; exact hB8
              have e8 : ∀ w20 cs, w8 = putBlk w20 cb #[.string cn, .int .u8 cv, .bool false] 180 → putBlk w8 cb cs 180 = putBlk w20 cb cs 180 := fun w20 cs e => by rw [e]; unfold putBlk; simp
              obtain ⟨w20, hw20, lt⟩ := blk_put hCB8
              rw [e8 w20 _ hw20] at HR9 HB9 HTB9 HGI9 HCO9 HCB9 hB9
              subst hw20
              obtain ⟨pc, pf, pS⟩ := putBlk_facts (w := w20) 180 lt
              clear HR8 HB8 HTB8 HGI8 HCO8 hCB8 e8 hlowP hB8
              go_upto_region 14 with fail
              generalize putBlk w20 cb #[.string cn, .int .u8 cv, .bool ub] 180 = w9 at HR9 HB9 HTB9 HGI9 HCO9 HCB9 hB9 ⊢
              clear pc pf pS lt
              have y0 := HCB9.out.cell 0
              have y1 := HCB9.out.cell 1
              have y2 := HCB9.out.cell 2
              have z1 := HTB9.out.cell 1
              simp only [List.getElem?_toArray, List.getElem?_cons_zero, List.getElem?_cons_succ] at y0 y1 y2 z1
              have hco := HCO9.out
              have hlt1 := HCB9.out.lt
              have hlt2 := HTB9.out.lt
              obtain ⟨j, hj⟩ : ∃ j, j = Cs.length := ⟨_, rfl⟩
              rw [← hj] at hco z1 hCq
              have HJ := Lib.hid hj
              (try simp only [← hj])
              clear hj
              go_wp2_with (at_builtin; refine wpList_append_own _ rfl _ _ 114 rfl B 180 i1 _ 3 24 Tryd.underlying114 hi1 hx0 hx1 hx2 rfl (by decide) _ j _ rfl (hco.alloc _) ⟨w9.heap.size, 0, none⟩ 1 1 [.string cn, .int .u8 cv, .bool ub] rfl rfl (cells_blk3 (Blk.new _ _ _)) ?c2 ?c3 ?c4 ?c5 ?_)
              case c2 => simp [Value.oneCell']
              case c3 => have hj := HJ.out; simp only [maxLen]; omega
              case c4 => have hj := HJ.out; omega
              case c5 => simp; omega
              intro v' w11 hown3 hg3 _
              obtain ⟨CA2, cc2, rfl⟩ := own_form hown3
              have hoL := hco.alloc (.cells #[.string cn, .int .u8 cv, .bool ub] 180)
              have hlow2 : Below B w9 w11 := (Below.alloc (Below.mono (Below.refl w9.heap.size w9) hB9) hB9 _).grown hg3 (by simp; omega) (own_ge hco)
              have HGI11 := Lib.hid (HGI9.out.low hlow2)
              have HR11 := Lib.hid ((HR9.out.old _).grown hoL (by decide) hg3)
              have HB11 := Lib.hid ((HB9.out.old _).grown hoL (by decide) hg3)
              have hTB11 := (HTB9.out.old (.cells #[.string cn, .int .u8 cv, .bool ub] 180)).grown hoL (by decide) hg3
              have hB11 : B ≤ w11.heap.size := Nat.le_trans hB9 hlow2.size
              have HLN : Hid ((Cs ++ [(⟨cn, cv, ub⟩ : Co)]).length = j + 1) := by show _ = _; rw [HJ.out]; simp
              have HCO11 : Hid (w11.ownsRow B 180 3 (.slice CA2 (j + 1) cc2) (j + 1) (ccells (Cs ++ [(⟨cn, cv, ub⟩ : Co)]))) := by
                show World.ownsRow _ _ _ _ _ _ _
                unfold ccells
                rw [List.flatMap_append]
                exact hown3
              have HCW2 : Hid (∀ c ∈ Cs ++ [(⟨cn, cv, ub⟩ : Co)], c.wf) := fun c hc => by
                rcases List.mem_append.1 hc with h | h
                · exact HCW.out c h
                · obtain rfl : c = _ := by simpa using h
                  exact ⟨by simp only; omega, cv0, cv1⟩
              clear hown3 hg3 hoL hlow2 HGI9 HR9 HB9 HTB9 HCO9 HCB9 hco y0 y1 y2 z1 hlt1 hlt2 HCW
              have hlowQ : Below B w11 (putBlk w11 B #[.string nm, .slice CA2 (j + 1) cc2, .int .i64 0, .int .i64 0, .int .i64 0] 116) := putBlk_below _ _ (Below.mono (Below.refl w11.heap.size w11) hB11) (Nat.le_refl B)
              have HR12 := Lib.hid (putBlk_ne (t := 116) (cs := #[.string nm, .slice CA2 (j + 1) cc2, .int .i64 0, .int .i64 0, .int .i64 0]) HR11.out (show rb ≠ B by omega))
              have HB12 := Lib.hid (putBlk_ne (t := 116) (cs := #[.string nm, .slice CA2 (j + 1) cc2, .int .i64 0, .int .i64 0, .int .i64 0]) HB11.out (show bb ≠ B by omega))
              have HGI12 := Lib.hid (HGI11.out.low hlowQ)
              have HCO12 := Lib.hid (own_below_put HCO11.out hTB11 (by decide) #[.string nm, .slice CA2 (j + 1) cc2, .int .i64 0, .int .i64 0, .int .i64 0])
              have HTB12 := Lib.hid (putBlk_blk #[.string nm, .slice CA2 (j + 1) cc2, .int .i64 0, .int .i64 0, .int .i64 0] 116 hTB11.lt)
              have hB12 : B ≤ (putBlk w11 B #[.string nm, .slice CA2 (j + 1) cc2, .int .i64 0, .int .i64 0, .int .i64 0] 116).heap.size := by rw [putBlk_size]; exact hB11
              have e8 : ∀ w20 ds cs, w11 = putBlk w20 B ds 116 → putBlk w11 B cs 116 = putBlk w20 B cs 116 := fun w20 ds cs e => by rw [e]; unfold putBlk; simp
              obtain ⟨w21, hw21, lt⟩ := blk_put hTB11
              rw [e8 w21 _ _ hw21] at HR12 HB12 HGI12 HCO12 HTB12 hB12
              subst hw21
              obtain ⟨pc, pf, pS⟩ := putBlk_facts (w := w21) 116 lt
              clear HR11 HB11 HGI11 HCO11 hTB11 hlowQ hB11 e8
              go_wp2_with fail
              go_roundw
              case rel => exact ⟨q - 1, s5, bd5, Cs ++ [⟨cn, cv, ub⟩], CA2, cc2, rfl, by omega, by rw [HLN.out]; push_cast; omega, by omega, hB12, HR12, HB12, HGI12, by rw [HLN.out]; exact HTB12, by rw [HLN.out]; exact HCO12, HCW2, HGN8⟩
              case measure => simp [intOf]; omega
            · go_upto_region 15 with fail
              clear hbd
              generalize hbt : true = bd at HBD HGN
              have HX : Hid (q ≤ 0 ∨ bd = true) := Or.inr hbt.symm
              clear hbt
              go_wp2_with fail
              refine (HON.out s bd wr HRB.out HBD.out (by omega)).mono ?_
              rintro r w5 ⟨g1, s3, bd3, rfl, hrd, ga1, gb1, hz3, HF3⟩
              have HR5 := Lib.hid hrd.r
              have HB5 := Lib.hid hrd.b
              have HGI5 := Lib.hid (HGI.out.rd hrd HRB.out HBD.out q3 q4)
              have HTB5 := Lib.hid (hrd.blk HTB.out (by omega) (by omega))
              have HCO5 := Lib.hid (hrd.own HRB.out HBD.out HCO.out (by decide) (by decide))
              have hB5 : B ≤ w5.heap.size := Nat.le_trans hBr hrd.size
              clear hrd HRB HBD HGI HTB HCO
              go_wp2_with fail
              refine (HON.out s3 bd3 w5 HR5.out HB5.out (by omega)).mono ?_
              rintro r w6 ⟨g2, s4, bd4, rfl, hrd, ga2, gb2, hz4, HF4⟩
              have HR6 := Lib.hid hrd.r
              have HB6 := Lib.hid hrd.b
              have HGI6 := Lib.hid (HGI5.out.rd hrd HR5.out HB5.out q3 q4)
              have HTB6 := Lib.hid (hrd.blk HTB5.out (by omega) (by omega))
              have HCO6 := Lib.hid (hrd.own HR5.out HB5.out HCO5.out (by decide) (by decide))
              have hB6 : B ≤ w6.heap.size := Nat.le_trans hB5 hrd.size
              clear hrd HR5 HB5 HGI5 HTB5 HCO5
              go_wp2_with fail
              refine (HON.out s4 bd4 w6 HR6.out HB6.out (by omega)).mono ?_
              rintro r w7 ⟨g3, s5, bd5, rfl, hrd, ga3, gb3, hz5, HF5⟩
              have HR7 := Lib.hid hrd.r
              have HB7 := Lib.hid hrd.b
              have HGI7 := Lib.hid (HGI6.out.rd hrd HR6.out HB6.out q3 q4)
              have hTB7 := hrd.blk HTB6.out (by omega) (by omega)
              have HCO7 := Lib.hid (hrd.own HR6.out HB6.out HCO6.out (by decide) (by decide))
              have hB7 : B ≤ w7.heap.size := Nat.le_trans hB6 hrd.size
              have HGO7 := Lib.hid (go_leave_tab HGN.out HX.out HF3.out HF4.out HF5.out CA cc)
              clear hrd HR6 HB6 HGI6 HTB6 HCO6 HF3 HF4 HF5 HGN HX
              have hlowQ : Below B w7 (putBlk w7 B #[.string nm, .slice CA Cs.length cc, .int .i64 g1, .int .i64 (g2 - 1), .int .i64 (g3 - 1)] 116) := putBlk_below _ _ (Below.mono (Below.refl w7.heap.size w7) hB7) (Nat.le_refl B)
              have HR8 := Lib.hid (putBlk_ne (t := 116) (cs := #[.string nm, .slice CA Cs.length cc, .int .i64 g1, .int .i64 (g2 - 1), .int .i64 (g3 - 1)]) HR7.out (show rb ≠ B by omega))
              have HB8 := Lib.hid (putBlk_ne (t := 116) (cs := #[.string nm, .slice CA Cs.length cc, .int .i64 g1, .int .i64 (g2 - 1), .int .i64 (g3 - 1)]) HB7.out (show bb ≠ B by omega))
              have HGI8 := Lib.hid (HGI7.out.low hlowQ)
              have HCO8 := Lib.hid (own_below_put HCO7.out hTB7 (by decide) #[.string nm, .slice CA Cs.length cc, .int .i64 g1, .int .i64 (g2 - 1), .int .i64 (g3 - 1)])
              have HTB8 := Lib.hid (putBlk_blk #[.string nm, .slice CA Cs.length cc, .int .i64 g1, .int .i64 (g2 - 1), .int .i64 (g3 - 1)] 116 hTB7.lt)
              have hB8 : B ≤ (putBlk w7 B #[.string nm, .slice CA Cs.length cc, .int .i64 g1, .int .i64 (g2 - 1), .int .i64 (g3 - 1)] 116).heap.size := by rw [putBlk_size]; exact hB7
              have e8 : ∀ w20 ds cs, w7 = putBlk w20 B ds 116 → putBlk w7 B cs 116 = putBlk w20 B cs 116 := fun w20 ds cs e => by rw [e]; unfold putBlk; simp
              obtain ⟨w21, hw21, lt⟩ := blk_put hTB7
              rw [e8 w21 _ _ hw21] at HR8 HB8 HGI8 HCO8 HTB8 hB8
              subst hw21
              obtain ⟨pc, pf, pS⟩ := putBlk_facts (w := w21) 116 lt
              clear HR7 HB7 HGI7 HCO7 hTB7 hlowQ hB7 e8
              go_upto_region 16 with fail
              generalize putBlk w21 B #[.string nm, .slice CA Cs.length cc, .int .i64 g1, .int .i64 (g2 - 1), .int .i64 (g3 - 1)] 116 = w8 at HR8 HB8 HGI8 HCO8 HTB8 hB8 ⊢
              clear pc pf pS lt
              obtain ⟨⟨o1, o2, o3, o4, o5, o6⟩, hr0, hsb, hTo, hTl, hTk, hbw⟩ := HGI8.out
              obtain ⟨y0, y1, y2, y3, y4⟩ := blk5 HTB8.out
              have z0 := hsb.cell 0
              simp only [List.getElem?_toArray, List.getElem?_cons_zero] at z0
              have hltS := hsb.lt
              have hltB := HTB8.out.lt
              have HR0 := Lib.hid hr0
              have HSB := Lib.hid hsb
              have HTK := Lib.hid hTk
              have HTL := Lib.hid hTl
              have hszw := hbw.size
              clear hr0 hsb hTk HGI8 hTl
              go_wp2_with (at_builtin; refine wpList_append_own _ rfl _ _ 101 rfl w.heap.size 116 i2 _ 5 64 Tryd.underlying101 hi2 hy0 hy1 hy2 rfl (by decide) _ T.length _ rfl (hTo.alloc _) ⟨w8.heap.size, 0, none⟩ 1 1 [.string nm, .slice CA Cs.length cc, .int .i64 g1, .int .i64 (g2 - 1), .int .i64 (g3 - 1)] rfl rfl (cells_blk5 (Blk.new _ _ _)) ?c2 ?c3 ?c4 ?c5 ?_)
              case c2 => simp [Value.oneCell']
              case c3 => simp only [maxLen]; omega
              case c4 => omega
              case c5 => simp; omega
              intro v' w9 hown3 hg3 _
              obtain ⟨A2, c2, rfl⟩ := own_form hown3
              have hoL := hTo.alloc (.cells #[.string nm, .slice CA Cs.length cc, .int .i64 g1, .int .i64 (g2 - 1), .int .i64 (g3 - 1)] 116)
              have hbw9 : Below w.heap.size w w9 := (hbw.alloc hszw _).grown hg3 (by simp; omega) (own_ge hTo)
              have HR9 := Lib.hid ((HR8.out.old _).grown hoL (by decide) hg3)
              have HB9 := Lib.hid ((HB8.out.old _).grown hoL (by decide) hg3)
              have HR09 := Lib.hid ((HR0.out.old _).grown hoL (by decide) hg3)
              have hSB9 := (HSB.out.old (.cells #[.string nm, .slice CA Cs.length cc, .int .i64 g1, .int .i64 (g2 - 1), .int .i64 (g3 - 1)] 116)).grown hoL (by decide) hg3
              have HCO9 := Lib.hid (own_grown (HCO8.out.alloc (.cells #[.string nm, .slice CA Cs.length cc, .int .i64 g1, .int .i64 (g2 - 1), .int .i64 (g3 - 1)] 116)) hg3 (own_far (HCO8.out.alloc _) hoL (by decide)))
              have hs89 : w8.heap.size ≤ w9.heap.size := by have := hg3.size; simp at this; omega
              have HTK9 : Hid (∀ t ∈ T, TOk w9.heap.size t w9) := fun t ht => by
                obtain ⟨p1, p2, p3, p4, base, p5⟩ := HTK.out t ht
                exact ⟨p1, p2, p3, fun g hg => by have := p4 g hg; omega, base, own_grown (p5.alloc _) hg3 (own_far (p5.alloc _) hoL (by decide))⟩
              have HTN9 : Hid (TOk w9.heap.size ⟨nm, Cs, g1, g2 - 1, g3 - 1, CA, cc⟩ w9) :=
                ⟨⟨by simp only; omega, by simp only; omega, by simp only; omega, by simp only; omega⟩, HCW.out, by simp only; omega, obl_own HCO9.out, B, HCO9.out⟩
              have HLN : Hid ((T ++ [(⟨nm, Cs, g1, g2 - 1, g3 - 1, CA, cc⟩ : Ta)]).length = T.length + 1) := by show _ = _; simp
              have HTO9 : Hid (w9.ownsRow w.heap.size 116 5 (.slice A2 (T.length + 1) c2) (T.length + 1) (tcells (T ++ [(⟨nm, Cs, g1, g2 - 1, g3 - 1, CA, cc⟩ : Ta)]))) := by
                show World.ownsRow _ _ _ _ _ _ _
                unfold tcells
                rw [List.flatMap_append]
                exact hown3
              have HOB9 := Lib.hid (obl_own HTO9.out)
              clear hown3 hg3 hoL HR8 HB8 HCO8 HTB8 HR0 HSB HTK HTL HCO9 hTo hbw y0 y1 y2 y3 y4 z0 hltS hltB HCW
              have HR10 := Lib.hid (putBlk_ne (t := 103) (cs := #[.slice A2 (T.length + 1) c2]) HR9.out (blk_ne HR9.out hSB9 (by decide)))
              have HB10 := Lib.hid (putBlk_ne (t := 103) (cs := #[.slice A2 (T.length + 1) c2]) HB9.out (blk_ne HB9.out hSB9 (by decide)))
              have HGI10 : Hid (GI w w.heap.size sb (putBlk w9 sb #[.slice A2 (T.length + 1) c2] 103).heap.size A2 c2 (T ++ [(⟨nm, Cs, g1, g2 - 1, g3 - 1, CA, cc⟩ : Ta)]) (putBlk w9 sb #[.slice A2 (T.length + 1) c2] 103)) := by
                have hl := hSB9.lt
                have hl0 := HR09.out.lt
                refine ⟨⟨o1, o2, by rw [putBlk_size]; exact hl0, by rw [putBlk_size]; exact hl, o5, by rw [HLN.out]; omega⟩, putBlk_ne HR09.out o5, ?_, ?_, ?_, ?_, putBlk_below _ _ hbw9 o2⟩
                · rw [HLN.out]
                  exact putBlk_blk _ _ hl
                · rw [HLN.out]
                  exact own_below_put HTO9.out hSB9 (by decide) _
                · rw [HLN.out, putBlk_size]
                  exact HOB9.out
                · rw [putBlk_size]
                  intro t ht
                  have key : ∀ u, TOk w9.heap.size u w9 → TOk w9.heap.size u (putBlk w9 sb #[.slice A2 (T.length + 1) c2] 103) := fun u hu => by
                    obtain ⟨p1, p2, p3, p4, base, p5⟩ := hu
                    exact ⟨p1, p2, p3, p4, base, own_below_put p5 hSB9 (by decide) _⟩
                  rcases List.mem_append.1 ht with h | h
                  · exact key t (HTK9.out t h)
                  · obtain rfl : t = _ := by simpa using h
                    exact key _ HTN9.out
              have e8 : ∀ w20 ds cs, w9 = putBlk w20 sb ds 103 → putBlk w9 sb cs 103 = putBlk w20 sb cs 103 := fun w20 ds cs e => by rw [e]; unfold putBlk; simp
              obtain ⟨w22, hw22, lt⟩ := blk_put hSB9
              rw [e8 w22 _ _ hw22] at HR10 HB10 HGI10
              subst hw22
              obtain ⟨pc, pf, pS⟩ := putBlk_facts (w := w22) 103 lt
              clear HR9 HB9 HR09 hSB9 HTK9 HTN9 HTO9 HOB9 hbw9 e8
              go_wp2_with fail
              go_roundw
              case rel => exact ⟨m - 1, s5, bd5, A2, c2, T ++ [⟨nm, Cs, g1, g2 - 1, g3 - 1, CA, cc⟩], rfl, by omega, by rw [HLN.out]; push_cast; omega, by omega, HR10, HB10, HGI10, HGO7⟩
              case measure => simp [intOf]; omega
          · have hq' : q ≤ 0 := by omega
            have HX : Hid (q ≤ 0 ∨ bd = true) := Or.inl hq'
            go_upto_region 15 with fail
            clear hbd
            go_wp2_with fail
            refine (HON.out s bd wr HRB.out HBD.out (by omega)).mono ?_
            rintro r w5 ⟨g1, s3, bd3, rfl, hrd, ga1, gb1, hz3, HF3⟩
            have HR5 := Lib.hid hrd.r
            have HB5 := Lib.hid hrd.b
            have HGI5 := Lib.hid (HGI.out.rd hrd HRB.out HBD.out q3 q4)
            have HTB5 := Lib.hid (hrd.blk HTB.out (by omega) (by omega))
            have HCO5 := Lib.hid (hrd.own HRB.out HBD.out HCO.out (by decide) (by decide))
            have hB5 : B ≤ w5.heap.size := Nat.le_trans hBr hrd.size
            clear hrd HRB HBD HGI HTB HCO
            go_wp2_with fail
            refine (HON.out s3 bd3 w5 HR5.out HB5.out (by omega)).mono ?_
            rintro r w6 ⟨g2, s4, bd4, rfl, hrd, ga2, gb2, hz4, HF4⟩
            have HR6 := Lib.hid hrd.r
            have HB6 := Lib.hid hrd.b
            have HGI6 := Lib.hid (HGI5.out.rd hrd HR5.out HB5.out q3 q4)
            have HTB6 := Lib.hid (hrd.blk HTB5.out (by omega) (by omega))
            have HCO6 := Lib.hid (hrd.own HR5.out HB5.out HCO5.out (by decide) (by decide))
            have hB6 : B ≤ w6.heap.size := Nat.le_trans hB5 hrd.size
            clear hrd HR5 HB5 HGI5 HTB5 HCO5
            go_wp2_with fail
            refine (HON.out s4 bd4 w6 HR6.out HB6.out (by omega)).mono ?_
            rintro r w7 ⟨g3, s5, bd5, rfl, hrd, ga3, gb3, hz5, HF5⟩
            have HR7 := Lib.hid hrd.r
            have HB7 := Lib.hid hrd.b
            have HGI7 := Lib.hid (HGI6.out.rd hrd HR6.out HB6.out q3 q4)
            have hTB7 := hrd.blk HTB6.out (by omega) (by omega)
            have HCO7 := Lib.hid (hrd.own HR6.out HB6.out HCO6.out (by decide) (by decide))
            have hB7 : B ≤ w7.heap.size := Nat.le_trans hB6 hrd.size
            have HGO7 := Lib.hid (go_leave_tab HGN.out HX.out HF3.out HF4.out HF5.out CA cc)
            clear hrd HR6 HB6 HGI6 HTB6 HCO6 HF3 HF4 HF5 HGN HX
            have hlowQ : Below B w7 (putBlk w7 B #[.string nm, .slice CA Cs.length cc, .int .i64 g1, .int .i64 (g2 - 1), .int .i64 (g3 - 1)] 116) := putBlk_below _ _ (Below.mono (Below.refl w7.heap.size w7) hB7) (Nat.le_refl B)
            have HR8 := Lib.hid (putBlk_ne (t := 116) (cs := #[.string nm, .slice CA Cs.length cc, .int .i64 g1, .int .i64 (g2 - 1), .int .i64 (g3 - 1)]) HR7.out (show rb ≠ B by omega))
            have HB8 := Lib.hid (putBlk_ne (t := 116) (cs := #[.string nm, .slice CA Cs.length cc, .int .i64 g1, .int .i64 (g2 - 1), .int .i64 (g3 - 1)]) HB7.out (show bb ≠ B by omega))
            have HGI8 := Lib.hid (HGI7.out.low hlowQ)
            have HCO8 := Lib.hid (own_below_put HCO7.out hTB7 (by decide) #[.string nm, .slice CA Cs.length cc, .int .i64 g1, .int .i64 (g2 - 1), .int .i64 (g3 - 1)])
            have HTB8 := Lib.hid (putBlk_blk #[.string nm, .slice CA Cs.length cc, .int .i64 g1, .int .i64 (g2 - 1), .int .i64 (g3 - 1)] 116 hTB7.lt)
            have hB8 : B ≤ (putBlk w7 B #[.string nm, .slice CA Cs.length cc, .int .i64 g1, .int .i64 (g2 - 1), .int .i64 (g3 - 1)] 116).heap.size := by rw [putBlk_size]; exact hB7
            have e8 : ∀ w20 ds cs, w7 = putBlk w20 B ds 116 → putBlk w7 B cs 116 = putBlk w20 B cs 116 := fun w20 ds cs e => by rw [e]; unfold putBlk; simp
            obtain ⟨w21, hw21, lt⟩ := blk_put hTB7
            rw [e8 w21 _ _ hw21] at HR8 HB8 HGI8 HCO8 HTB8 hB8
            subst hw21
            obtain ⟨pc, pf, pS⟩ := putBlk_facts (w := w21) 116 lt
            clear HR7 HB7 HGI7 HCO7 hTB7 hlowQ hB7 e8
            go_upto_region 16 with fail
            generalize putBlk w21 B #[.string nm, .slice CA Cs.length cc, .int .i64 g1, .int .i64 (g2 - 1), .int .i64 (g3 - 1)] 116 = w8 at HR8 HB8 HGI8 HCO8 HTB8 hB8 ⊢
            clear pc pf pS lt
            obtain ⟨⟨o1, o2, o3, o4, o5, o6⟩, hr0, hsb, hTo, hTl, hTk, hbw⟩ := HGI8.out
            obtain ⟨y0, y1, y2, y3, y4⟩ := blk5 HTB8.out
            have z0 := hsb.cell 0
            simp only [List.getElem?_toArray, List.getElem?_cons_zero] at z0
            have hltS := hsb.lt
            have hltB := HTB8.out.lt
            have HR0 := Lib.hid hr0
            have HSB := Lib.hid hsb
            have HTK := Lib.hid hTk
            have HTL := Lib.hid hTl
            have hszw := hbw.size
            clear hr0 hsb hTk HGI8 hTl
            go_wp2_with (at_builtin; refine wpList_append_own _ rfl _ _ 101 rfl w.heap.size 116 i2 _ 5 64 Tryd.underlying101 hi2 hy0 hy1 hy2 rfl (by decide) _ T.length _ rfl (hTo.alloc _) ⟨w8.heap.size, 0, none⟩ 1 1 [.string nm, .slice CA Cs.length cc, .int .i64 g1, .int .i64 (g2 - 1), .int .i64 (g3 - 1)] rfl rfl (cells_blk5 (Blk.new _ _ _)) ?c2 ?c3 ?c4 ?c5 ?_)
            case c2 => simp [Value.oneCell']
            case c3 => simp only [maxLen]; omega
            case c4 => omega
            case c5 => simp; omega
            intro v' w9 hown3 hg3 _
            obtain ⟨A2, c2, rfl⟩ := own_form hown3
            have hoL := hTo.alloc (.cells #[.string nm, .slice CA Cs.length cc, .int .i64 g1, .int .i64 (g2 - 1), .int .i64 (g3 - 1)] 116)
            have hbw9 : Below w.heap.size w w9 := (hbw.alloc hszw _).grown hg3 (by simp; omega) (own_ge hTo)
            have HR9 := Lib.hid ((HR8.out.old _).grown hoL (by decide) hg3)
            have HB9 := Lib.hid ((HB8.out.old _).grown hoL (by decide) hg3)
            have HR09 := Lib.hid ((HR0.out.old _).grown hoL (by decide) hg3)
            have hSB9 := (HSB.out.old (.cells #[.string nm, .slice CA Cs.length cc, .int .i64 g1, .int .i64 (g2 - 1), .int .i64 (g3 - 1)] 116)).grown hoL (by decide) hg3
            have HCO9 := Lib.hid (own_grown (HCO8.out.alloc (.cells #[.string nm, .slice CA Cs.length cc, .int .i64 g1, .int .i64 (g2 - 1), .int .i64 (g3 - 1)] 116)) hg3 (own_far (HCO8.out.alloc _) hoL (by decide)))
            have hs89 : w8.heap.size ≤ w9.heap.size := by have := hg3.size; simp at this; omega
            have HTK9 : Hid (∀ t ∈ T, TOk w9.heap.size t w9) := fun t ht => by
              obtain ⟨p1, p2, p3, p4, base, p5⟩ := HTK.out t ht
              exact ⟨p1, p2, p3, fun g hg => by have := p4 g hg; omega, base, own_grown (p5.alloc _) hg3 (own_far (p5.alloc _) hoL (by decide))⟩
            have HTN9 : Hid (TOk w9.heap.size ⟨nm, Cs, g1, g2 - 1, g3 - 1, CA, cc⟩ w9) :=
              ⟨⟨by simp only; omega, by simp only; omega, by simp only; omega, by simp only; omega⟩, HCW.out, by simp only; omega, obl_own HCO9.out, B, HCO9.out⟩
            have HLN : Hid ((T ++ [(⟨nm, Cs, g1, g2 - 1, g3 - 1, CA, cc⟩ : Ta)]).length = T.length + 1) := by show _ = _; simp
            have HTO9 : Hid (w9.ownsRow w.heap.size 116 5 (.slice A2 (T.length + 1) c2) (T.length + 1) (tcells (T ++ [(⟨nm, Cs, g1, g2 - 1, g3 - 1, CA, cc⟩ : Ta)]))) := by
              show World.ownsRow _ _ _ _ _ _ _
              unfold tcells
              rw [List.flatMap_append]
              exact hown3
            have HOB9 := Lib.hid (obl_own HTO9.out)
            clear hown3 hg3 hoL HR8 HB8 HCO8 HTB8 HR0 HSB HTK HTL HCO9 hTo hbw y0 y1 y2 y3 y4 z0 hltS hltB HCW
            have HR10 := Lib.hid (putBlk_ne (t := 103) (cs := #[.slice A2 (T.length + 1) c2]) HR9.out (blk_ne HR9.out hSB9 (by decide)))
            have HB10 := Lib.hid (putBlk_ne (t := 103) (cs := #[.slice A2 (T.length + 1) c2]) HB9.out (blk_ne HB9.out hSB9 (by decide)))
            have HGI10 : Hid (GI w w.heap.size sb (putBlk w9 sb #[.slice A2 (T.length + 1) c2] 103).heap.size A2 c2 (T ++ [(⟨nm, Cs, g1, g2 - 1, g3 - 1, CA, cc⟩ : Ta)]) (putBlk w9 sb #[.slice A2 (T.length + 1) c2] 103)) := by
              have hl := hSB9.lt
              have hl0 := HR09.out.lt
              refine ⟨⟨o1, o2, by rw [putBlk_size]; exact hl0, by rw [putBlk_size]; exact hl, o5, by rw [HLN.out]; omega⟩, putBlk_ne HR09.out o5, ?_, ?_, ?_, ?_, putBlk_below _ _ hbw9 o2⟩
              · rw [HLN.out]
                exact putBlk_blk _ _ hl
              · rw [HLN.out]
                exact own_below_put HTO9.out hSB9 (by decide) _
              · rw [HLN.out, putBlk_size]
                exact HOB9.out
              · rw [putBlk_size]
                intro t ht
                have key : ∀ u, TOk w9.heap.size u w9 → TOk w9.heap.size u (putBlk w9 sb #[.slice A2 (T.length + 1) c2] 103) := fun u hu => by
                  obtain ⟨p1, p2, p3, p4, base, p5⟩ := hu
                  exact ⟨p1, p2, p3, p4, base, own_below_put p5 hSB9 (by decide) _⟩
                rcases List.mem_append.1 ht with h | h
                · exact key t (HTK9.out t h)
                · obtain rfl : t = _ := by simpa using h
                  exact key _ HTN9.out
            have e8 : ∀ w20 ds cs, w9 = putBlk w20 sb ds 103 → putBlk w9 sb cs 103 = putBlk w20 sb cs 103 := fun w20 ds cs e => by rw [e]; unfold putBlk; simp
            obtain ⟨w22, hw22, lt⟩ := blk_put hSB9
            rw [e8 w22 _ _ hw22] at HR10 HB10 HGI10
            subst hw22
            obtain ⟨pc, pf, pS⟩ := putBlk_facts (w := w22) 103 lt
            clear HR9 HB9 HR09 hSB9 HTK9 HTN9 HTO9 HOB9 hbw9 e8
            go_wp2_with fail
            go_roundw
            case rel => exact ⟨m - 1, s5, bd5, A2, c2, T ++ [⟨nm, Cs, g1, g2 - 1, g3 - 1, CA, cc⟩], rfl, by omega, by rw [HLN.out]; push_cast; omega, by omega, HR10, HB10, HGI10, HGO7⟩
            case measure => simp [intOf]; omega
      · go_upto_region 17 with fail
        clear hbd
        generalize hbt : true = bd at HBD HGO
        have HX : Hid (m ≤ 0 ∨ bd = true) := Or.inr hbt.symm
        clear hbt
        have h8 := (HGI.out.2.2.1).cell 0
        simp only [List.getElem?_toArray, List.getElem?_cons_zero] at h8
        have hl8 := (HGI.out.2.2.1).lt
        have HPT := Lib.hid (putsch_any T A c wr (HT.out.ext HGI.out.2.2.2.2.2.2) HGI.out.trow)
        unfold putSR at HPT
        have HEND := Lib.hid (fun (s0 : List Ta) (hv : schB s0 = true) (hp : putS s0 = b.data.toList) => go_end HGO.out HX.out hv hp)
        clear HX HGO
        cases hsT : schB T
        · rw [hsT] at HPT
          rw [okE_f' rfl, if_neg (by decide)] at HPT
          have HNO : Hid (∀ s0, schB s0 = true → putS s0 ≠ b.data.toList) := fun s0 hv hp => by
            have := schB_d (HEND.out s0 hv hp).2.1
            rw [hv, hsT] at this
            cases this
          clear HEND
          go_wp2_with fail
          refine HPT.out.mono ?_
          rintro r w2 ⟨rfl, hb2⟩
          have HGI2 := Lib.hid (HGI.out.low hb2)
          have hbb2 := (HBD.out.ext hb2).cell 0
          simp only [List.getElem?_toArray, List.getElem?_cons_zero] at hbb2
          clear HGI h8 hl8 HPT hb2 HBD HRB
          have HGI := HGI2
          clear HGI2
          clear hsT
          cases bd
          · go_upto_region 19 with fail
            clear hbb2
            have hGr := HGI.out.2.1
            have hGb := HGI.out.2.2.2.2.2.2
            clear HGI
            obtain ⟨w20, rfl, lt⟩ := blk_put hGr
            obtain ⟨pc, pf, pS⟩ := putBlk_facts (w := w20) 103 lt
            clear hGr
            go_wp2_with fail
            refine bodyPost_ret (v := .tuple #[.agg #[.slice none 0 0], .int .i64 7]) (by simp [results, Tryd.results79, go_sem, pc]) rfl ?_
            exact ⟨putBlk_belows hGb (by omega) _, Or.inr ⟨rfl, HNO.out⟩⟩
          · go_upto_region 19 with fail
            clear hbb2
            have hGr := HGI.out.2.1
            have hGb := HGI.out.2.2.2.2.2.2
            clear HGI
            obtain ⟨w20, rfl, lt⟩ := blk_put hGr
            obtain ⟨pc, pf, pS⟩ := putBlk_facts (w := w20) 103 lt
            clear hGr
            go_wp2_with fail
            refine bodyPost_ret (v := .tuple #[.agg #[.slice none 0 0], .int .i64 7]) (by simp [results, Tryd.results79, go_sem, pc]) rfl ?_
            exact ⟨putBlk_belows hGb (by omega) _, Or.inr ⟨rfl, HNO.out⟩⟩
        · rw [hsT] at HPT
          rw [okE_t' rfl, if_pos rfl] at HPT
          obtain ⟨PS, hPS⟩ : ∃ q : ByteArray, q = ⟨(putS T).toArray⟩ := ⟨_, rfl⟩
          rw [← hPS] at HPT
          have HPSL : Hid (PS.data.toList = putS T) := by show _ = _; rw [hPS]
          have HST := Lib.hid hsT
          clear hPS hsT
          go_wp2_with fail
          refine HPT.out.mono ?_
          rintro r w2 ⟨rfl, hb2⟩
          have HGI2 := Lib.hid (HGI.out.low hb2)
          have hbb2 := (HBD.out.ext hb2).cell 0
          simp only [List.getElem?_toArray, List.getElem?_cons_zero] at hbb2
          clear HGI h8 hl8 HPT hb2 HBD HRB
          have HGI := HGI2
          clear HGI2
          cases bd
          · by_cases hpb : PS = b
            · subst hpb
              have HUN : Hid (∀ s0, schB s0 = true → putS s0 = PS.data.toList → s0.map Ta.d = T.map Ta.d) := fun s0 hv hp => (HEND.out s0 hv hp).2.1
              clear HEND
              go_upto_region 20 with fail
              clear hbb2
              have hGr := HGI.out.2.1
              have h8 := (HGI.out.2.2.1).cell 0
              simp only [List.getElem?_toArray, List.getElem?_cons_zero] at h8
              have hl8 := (HGI.out.2.2.1).lt
              have hne := HGI.out.1.2.2.2.2.1
              have HGB := Lib.hid (HGI.out.2.2.2.2.2.2)
              have HROW := Lib.hid (fun cs => HGI.out.trow_put hGr cs)
              have h8' : ∀ cs, (putBlk w2 w.heap.size cs 103).cell? ⟨sb, 0, none⟩ = some (.slice A T.length c) := fun cs => by
                have e : putBlk w2 w.heap.size #[.slice none 0 0] 103 = w2 := putBlk_self hGr
                have := putBlk_cell_ne (w := w2) (Ne.symm hne) #[.slice none 0 0] cs 103 0
                rw [this, e]
                exact h8
              clear h8 HGI
              obtain ⟨w20, rfl, lt⟩ := blk_put hGr
              obtain ⟨pc, pf, pS⟩ := putBlk_facts (w := w20) 103 lt
              have e2 : ∀ cs, putBlk (putBlk w20 w.heap.size #[.slice none 0 0] 103) w.heap.size cs 103 = putBlk w20 w.heap.size cs 103 := fun cs => by unfold putBlk; simp
              have h9 := h8' #[.slice none 0 0]
              rw [e2] at h9
              have HROW2 := Lib.hid (HROW.out #[.slice A T.length c])
              rw [e2] at HROW2
              clear hGr h8' e2 HROW
              go_wp2_with fail
              refine bodyPost_ret (v := .tuple #[.agg #[.slice A T.length c], .int .i64 0]) (by simp [results, Tryd.results79, go_sem, pc]) rfl ?_
              exact ⟨putBlk_belows HGB.out (by omega) _, Or.inl ⟨T, A, c, rfl, HROW2.out, HST.out, HPSL.out.symm, HUN.out⟩⟩
            · have HNO : Hid (∀ s0, schB s0 = true → putS s0 ≠ b.data.toList) := fun s0 hv hp => by
                apply hpb
                apply str_inj
                rw [HPSL.out, ← hp]
                exact (putS_d (HEND.out s0 hv hp).2.1).symm
              obtain ⟨n1, n2⟩ := str_neq hpb
              clear HEND hpb
              go_upto_region 19 with fail
              clear hbb2
              have hGr := HGI.out.2.1
              have hGb := HGI.out.2.2.2.2.2.2
              clear HGI
              obtain ⟨w20, rfl, lt⟩ := blk_put hGr
              obtain ⟨pc, pf, pS⟩ := putBlk_facts (w := w20) 103 lt
              clear hGr
              go_wp2_with fail
              refine bodyPost_ret (v := .tuple #[.agg #[.slice none 0 0], .int .i64 7]) (by simp [results, Tryd.results79, go_sem, pc]) rfl ?_
              exact ⟨putBlk_belows hGb (by omega) _, Or.inr ⟨rfl, HNO.out⟩⟩
          · have HNO : Hid (∀ s0, schB s0 = true → putS s0 ≠ b.data.toList) := fun s0 hv hp => by
              have := (HEND.out s0 hv hp).1
              cases this
            clear HEND
            go_upto_region 19 with fail
            clear hbb2
            have hGr := HGI.out.2.1
            have hGb := HGI.out.2.2.2.2.2.2
            clear HGI
            obtain ⟨w20, rfl, lt⟩ := blk_put hGr
            obtain ⟨pc, pf, pS⟩ := putBlk_facts (w := w20) 103 lt
            clear hGr
            go_wp2_with fail
            refine bodyPost_ret (v := .tuple #[.agg #[.slice none 0 0], .int .i64 7]) (by simp [results, Tryd.results79, go_sem, pc]) rfl ?_
            exact ⟨putBlk_belows hGb (by omega) _, Or.inr ⟨rfl, HNO.out⟩⟩
    · have hm' : m ≤ 0 := by omega
      have HX : Hid (m ≤ 0 ∨ bd = true) := Or.inl hm'
      go_upto_region 17 with fail
      clear hbd
      have h8 := (HGI.out.2.2.1).cell 0
      simp only [List.getElem?_toArray, List.getElem?_cons_zero] at h8
      have hl8 := (HGI.out.2.2.1).lt
      have HPT := Lib.hid (putsch_any T A c wr (HT.out.ext HGI.out.2.2.2.2.2.2) HGI.out.trow)
      unfold putSR at HPT
      have HEND := Lib.hid (fun (s0 : List Ta) (hv : schB s0 = true) (hp : putS s0 = b.data.toList) => go_end HGO.out HX.out hv hp)
      clear HX HGO
      cases hsT : schB T
      · rw [hsT] at HPT
        rw [okE_f' rfl, if_neg (by decide)] at HPT
        have HNO : Hid (∀ s0, schB s0 = true → putS s0 ≠ b.data.toList) := fun s0 hv hp => by
          have := schB_d (HEND.out s0 hv hp).2.1
          rw [hv, hsT] at this
          cases this
        clear HEND
        go_wp2_with fail
        refine HPT.out.mono ?_
        rintro r w2 ⟨rfl, hb2⟩
        have HGI2 := Lib.hid (HGI.out.low hb2)
        have hbb2 := (HBD.out.ext hb2).cell 0
        simp only [List.getElem?_toArray, List.getElem?_cons_zero] at hbb2
        clear HGI h8 hl8 HPT hb2 HBD HRB
        have HGI := HGI2
        clear HGI2
        clear hsT
        cases bd
        · go_upto_region 19 with fail
          clear hbb2
          have hGr := HGI.out.2.1
          have hGb := HGI.out.2.2.2.2.2.2
          clear HGI
          obtain ⟨w20, rfl, lt⟩ := blk_put hGr
          obtain ⟨pc, pf, pS⟩ := putBlk_facts (w := w20) 103 lt
          clear hGr
          go_wp2_with fail
          refine bodyPost_ret (v := .tuple #[.agg #[.slice none 0 0], .int .i64 7]) (by simp [results, Tryd.results79, go_sem, pc]) rfl ?_
          exact ⟨putBlk_belows hGb (by omega) _, Or.inr ⟨rfl, HNO.out⟩⟩
        · go_upto_region 19 with fail
          clear hbb2
          have hGr := HGI.out.2.1
          have hGb := HGI.out.2.2.2.2.2.2
          clear HGI
          obtain ⟨w20, rfl, lt⟩ := blk_put hGr
          obtain ⟨pc, pf, pS⟩ := putBlk_facts (w := w20) 103 lt
          clear hGr
          go_wp2_with fail
          refine bodyPost_ret (v := .tuple #[.agg #[.slice none 0 0], .int .i64 7]) (by simp [results, Tryd.results79, go_sem, pc]) rfl ?_
          exact ⟨putBlk_belows hGb (by omega) _, Or.inr ⟨rfl, HNO.out⟩⟩
      · rw [hsT] at HPT
        rw [okE_t' rfl, if_pos rfl] at HPT
        obtain ⟨PS, hPS⟩ : ∃ q : ByteArray, q = ⟨(putS T).toArray⟩ := ⟨_, rfl⟩
        rw [← hPS] at HPT
        have HPSL : Hid (PS.data.toList = putS T) := by show _ = _; rw [hPS]
        have HST := Lib.hid hsT
        clear hPS hsT
        go_wp2_with fail
        refine HPT.out.mono ?_
        rintro r w2 ⟨rfl, hb2⟩
        have HGI2 := Lib.hid (HGI.out.low hb2)
        have hbb2 := (HBD.out.ext hb2).cell 0
        simp only [List.getElem?_toArray, List.getElem?_cons_zero] at hbb2
        clear HGI h8 hl8 HPT hb2 HBD HRB
        have HGI := HGI2
        clear HGI2
        cases bd
        · by_cases hpb : PS = b
          · subst hpb
            have HUN : Hid (∀ s0, schB s0 = true → putS s0 = PS.data.toList → s0.map Ta.d = T.map Ta.d) := fun s0 hv hp => (HEND.out s0 hv hp).2.1
            clear HEND
            go_upto_region 20 with fail
            clear hbb2
            have hGr := HGI.out.2.1
            have h8 := (HGI.out.2.2.1).cell 0
            simp only [List.getElem?_toArray, List.getElem?_cons_zero] at h8
            have hl8 := (HGI.out.2.2.1).lt
            have hne := HGI.out.1.2.2.2.2.1
            have HGB := Lib.hid (HGI.out.2.2.2.2.2.2)
            have HROW := Lib.hid (fun cs => HGI.out.trow_put hGr cs)
            have h8' : ∀ cs, (putBlk w2 w.heap.size cs 103).cell? ⟨sb, 0, none⟩ = some (.slice A T.length c) := fun cs => by
              have e : putBlk w2 w.heap.size #[.slice none 0 0] 103 = w2 := putBlk_self hGr
              have := putBlk_cell_ne (w := w2) (Ne.symm hne) #[.slice none 0 0] cs 103 0
              rw [this, e]
              exact h8
            clear h8 HGI
            obtain ⟨w20, rfl, lt⟩ := blk_put hGr
            obtain ⟨pc, pf, pS⟩ := putBlk_facts (w := w20) 103 lt
            have e2 : ∀ cs, putBlk (putBlk w20 w.heap.size #[.slice none 0 0] 103) w.heap.size cs 103 = putBlk w20 w.heap.size cs 103 := fun cs => by unfold putBlk; simp
            have h9 := h8' #[.slice none 0 0]
            rw [e2] at h9
            have HROW2 := Lib.hid (HROW.out #[.slice A T.length c])
            rw [e2] at HROW2
            clear hGr h8' e2 HROW
            go_wp2_with fail
            refine bodyPost_ret (v := .tuple #[.agg #[.slice A T.length c], .int .i64 0]) (by simp [results, Tryd.results79, go_sem, pc]) rfl ?_
            exact ⟨putBlk_belows HGB.out (by omega) _, Or.inl ⟨T, A, c, rfl, HROW2.out, HST.out, HPSL.out.symm, HUN.out⟩⟩
          · have HNO : Hid (∀ s0, schB s0 = true → putS s0 ≠ b.data.toList) := fun s0 hv hp => by
              apply hpb
              apply str_inj
              rw [HPSL.out, ← hp]
              exact (putS_d (HEND.out s0 hv hp).2.1).symm
            obtain ⟨n1, n2⟩ := str_neq hpb
            clear HEND hpb
            go_upto_region 19 with fail
            clear hbb2
            have hGr := HGI.out.2.1
            have hGb := HGI.out.2.2.2.2.2.2
            clear HGI
            obtain ⟨w20, rfl, lt⟩ := blk_put hGr
            obtain ⟨pc, pf, pS⟩ := putBlk_facts (w := w20) 103 lt
            clear hGr
            go_wp2_with fail
            refine bodyPost_ret (v := .tuple #[.agg #[.slice none 0 0], .int .i64 7]) (by simp [results, Tryd.results79, go_sem, pc]) rfl ?_
            exact ⟨putBlk_belows hGb (by omega) _, Or.inr ⟨rfl, HNO.out⟩⟩
        · have HNO : Hid (∀ s0, schB s0 = true → putS s0 ≠ b.data.toList) := fun s0 hv hp => by
            have := (HEND.out s0 hv hp).1
            cases this
          clear HEND
          go_upto_region 19 with fail
          clear hbb2
          have hGr := HGI.out.2.1
          have hGb := HGI.out.2.2.2.2.2.2
          clear HGI
          obtain ⟨w20, rfl, lt⟩ := blk_put hGr
          obtain ⟨pc, pf, pS⟩ := putBlk_facts (w := w20) 103 lt
          clear hGr
          go_wp2_with fail
          refine bodyPost_ret (v := .tuple #[.agg #[.slice none 0 0], .int .i64 7]) (by simp [results, Tryd.results79, go_sem, pc]) rfl ?_
          exact ⟨putBlk_belows hGb (by omega) _, Or.inr ⟨rfl, HNO.out⟩⟩
end Go.Proofs.YtjdfodmialhakaaDoor
