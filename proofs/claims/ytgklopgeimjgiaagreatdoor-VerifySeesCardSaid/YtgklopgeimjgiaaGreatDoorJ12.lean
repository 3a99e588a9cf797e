/- Several texts in one: see each part's head. -/
import Derived.Test.YtgklopgeimjgiaaGreatDoorJ11
import Derived.Test.YtgklopgeimjgiaaGreatDoorJ7
/- schema.Kids. -/
namespace Go.Proofs.YtgklopgeimjgiaaGreatDoor
open Go.RowKit

def isKid (ts : List Ta) (k : Int) (i : Nat) : Bool := match ts[i]? with
  | some t => decide (t.par = k)
  | none => false
def kidsF (ts : List Ta) (k : Int) (n : Nat) : List Int := ((List.range n).filter (isKid ts k)).map Int.ofNat
def kidsR (ts : List Ta) (k : Int) : List Int := if hasS ts k then kidsF ts k ts.length else []
theorem kids_yes {ts : List Ta} {k : Int} {j : Nat} {t : Ta} (h : ts[j]? = some t) (hp : t.par = k) : kidsF ts k (j + 1) = kidsF ts k j ++ [(j : Int)] := by
  unfold kidsF
  have : isKid ts k j = true := by unfold isKid; rw [h]; simp [hp]
  rw [List.range_succ, List.filter_append]
  simp [this]
theorem kids_no {ts : List Ta} {k : Int} {j : Nat} {t : Ta} (h : ts[j]? = some t) (hp : ¬ t.par = k) : kidsF ts k (j + 1) = kidsF ts k j := by
  unfold kidsF
  have : isKid ts k j = false := by unfold isKid; rw [h]; simp [hp]
  rw [List.range_succ, List.filter_append]
  simp [this]
theorem kids_len (ts : List Ta) (k : Int) (n : Nat) : (kidsF ts k n).length ≤ n := by
  unfold kidsF
  rw [List.length_map]
  have := List.length_filter_le (isKid ts k) (List.range n)
  simpa using this
def RowPost1 (l : List Int) (w : World) (r : Ending) (w' : World) : Prop :=
  Below w.heap.size w w' ∧ ∃ A c, r = .returned (.slice A l.length c) ∧ NRow .i64 w' A l
set_option maxRecDepth 100000 in
set_option maxHeartbeats 400000 in
theorem kids_any (ts : List Ta) (A : Option Addr) (c : Nat) (k : Int) (w : World) (ht : TRow w A c ts) :
    Calls Tryz.prog 47 #[.agg #[.slice A ts.length c], .int .i64 k] w (RowPost1 (kidsR ts k) w) := by
  have HH := Lib.hid (fun (W : World) (hW : Below w.heap.size w W) => has_any ts A c k W (ht.ext hW))
  have hlen := ht.2.1
  have HT := Lib.hid ht
  cases hh : hasS ts k
  · rw [hh] at HH
    have hR : kidsR ts k = [] := by unfold kidsR; rw [hh]; rfl
    rw [hR]
    clear hR hh ht
    go_enter Tryz.func47, Tryz.ntmps47
    go_wp2_with fail
    refine (HH.out _ (by repeat (first | exact Below.refl _ _ | assumption | refine Below.drew ?_ | refine below_drewN ?_ _ | refine Below.alloc ?_ (by simp <;> omega) _))).mono ?_
    rintro r w1 ⟨rfl, hb1⟩
    have hbw : Below w.heap.size w w1 := bt (by repeat (first | exact Below.refl _ _ | assumption | refine Below.drew ?_ | refine below_drewN ?_ _ | refine Below.alloc ?_ (by simp <;> omega) _)) hb1
    clear hb1
    go_wp2_with fail
    go_ret
    exact ⟨hbw, none, 0, rfl, NRow.nil _ _ _⟩
  · rw [hh] at HH
    have hR : kidsR ts k = kidsF ts k ts.length := by unfold kidsR; rw [hh]; rfl
    have h12 : ts.length ≤ 12 := by
      unfold hasS at hh
      exact (sch_parts (Bool.and_eq_true_iff.1 hh).1).1.2
    rw [hR]
    obtain ⟨i3, hi3, hy0, hy1, hy2⟩ := info_parts info_i64
    clear hR hh ht
    go_enter Tryz.func47, Tryz.ntmps47
    go_wp2_with fail
    refine (HH.out _ (by repeat (first | exact Below.refl _ _ | assumption | refine Below.drew ?_ | refine below_drewN ?_ _ | refine Below.alloc ?_ (by simp <;> omega) _))).mono ?_
    rintro r w1 ⟨rfl, hb1⟩
    have hbw : Below w.heap.size w w1 := bt (by repeat (first | exact Below.refl _ _ | assumption | refine Below.drew ?_ | refine below_drewN ?_ _ | refine Below.alloc ?_ (by simp <;> omega) _)) hb1
    have HB := Lib.hid ((Blk.new w #[.slice A ts.length c] 24).ext hb1)
    have h00 := HB.out.cell 0
    simp only [List.getElem?_toArray, List.getElem?_cons_zero] at h00
    clear hb1 HH
    go_wp2_with fail
    clear h00
    go_loopw [4, 14] (fun l i wr => ∃ (j : Nat) (A' : Option Addr) (c' : Nat), j ≤ ts.length ∧ i = .int .i64 j ∧ l = .slice A' (kidsF ts k j).length c' ∧ Hid (wr.ownsRow w.heap.size 3 1 (.slice A' (kidsF ts k j).length c') (kidsF ts k j).length ((kidsF ts k j).map (Value.int .i64))) ∧ Below w.heap.size w wr) (fun _ i _ => ts.length - (intOf i).toNat)
    case atStart => exact ⟨0, none, 0, by omega, rfl, rfl, World.ownsRow_nil _ _ _ _, hbw⟩
    case round =>
      clear HB hbw
      obtain ⟨j, A', c', hj, rfl, rfl, HO, hbw⟩ := hrel
      by_cases hlt : j < ts.length
      · obtain ⟨b, off, t, rfl, hb, hlk, _, _, _, c0, c1, c2, c3, c4⟩ := (HT.out.ext hbw).at_ hlt
        have HLK := Lib.hid hlk
        have hkl := kids_len ts k j
        have hj' : (j : Int) < ts.length := by omega
        clear hlk
        by_cases hp : t.par = k
        · have HKY := Lib.hid (kids_yes HLK.out hp)
          have hp' : (t.par == k) = true := beq_iff_eq.2 hp
          obtain ⟨n, hn⟩ : ∃ n, n = (kidsF ts k j).length := ⟨_, rfl⟩
          rw [← hn] at HO hkl ⊢
          have HNN := Lib.hid hn
          have hsz := hbw.size
          have hown := HO.out
          clear hp hn HO
          go_wp2_with (at_builtin; refine wpList_append_own _ rfl _ _ 111 rfl w.heap.size 3 i3 _ 1 8 Tryz.underlying111 hi3 hy0 hy1 hy2 rfl (by decide) _ n _ rfl ((hown.alloc _).alloc _) ⟨wr.heap.size + 1, 0, none⟩ 1 1 [.int .i64 j] rfl rfl (cells_blk1 (t := 3) (by repeat (first | exact Blk.at (by simp) | assumption | refine Blk.drew ?_ | refine Blk.old ?_ _))) ?c2 ?c3 ?c4 ?c5 ?_)
          case c2 => simp [Value.oneCell']
          case c3 => simp only [maxLen]; omega
          case c4 => omega
          case c5 => simp; omega
          intro v' w3 hown3 hg3 _
          obtain ⟨A2, c2', rfl⟩ := own_form hown3
          have hbw3 : Below w.heap.size w w3 := ((hbw.alloc hbw.size _).alloc (by simp; omega) _).grown hg3 (by simp; omega) (own_ge hown)
          have HL : Hid (n + 1 = (kidsF ts k (j + 1)).length) := by show _ = _; rw [HKY.out, HNN.out]; simp
          have HO3 : Hid (w3.ownsRow w.heap.size 3 1 (.slice A2 (n + 1) c2') (n + 1) ((kidsF ts k (j + 1)).map (Value.int .i64))) := by
            show World.ownsRow _ _ _ _ _ _ _
            rw [HKY.out, List.map_append]
            exact hown3
          clear hown3 hg3 hown hbw c0 c1 c2 c3 c4 hsz
          go_wp2_with fail
          go_roundw
          case rel => exact ⟨j + 1, A2, c2', by omega, by go_num, by rw [← HL.out], by rw [← HL.out]; exact HO3, hbw3⟩
          case measure => simp [intOf]; omega
        · have HKN := Lib.hid (kids_no HLK.out hp)
          have hp' : (t.par == k) = false := beq_eq_false_iff_ne.2 hp
          clear hp
          go_wp2_with fail
          go_roundw
          case rel => exact ⟨j + 1, A', c', by omega, by go_num, by rw [HKN.out], by rw [HKN.out]; exact own_below HO.out (by repeat (first | exact Below.refl _ _ | assumption | refine Below.drew ?_ | refine below_drewN ?_ _ | refine Below.alloc ?_ (by simp <;> omega) _)), bt hbw (by repeat (first | exact Below.refl _ _ | assumption | refine Below.drew ?_ | refine below_drewN ?_ _ | refine Below.alloc ?_ (by simp <;> omega) _))⟩
          case measure => simp [intOf]; omega
      · obtain rfl : j = ts.length := by omega
        have hkl := kids_len ts k ts.length
        have hnr := (NRow.of_own (by omega) HO.out).1
        have HNR := Lib.hid hnr
        clear hnr HO hlt
        go_wp2_with fail
        go_ret
        exact ⟨hbw, A', c', rfl, HNR.out⟩
end Go.Proofs.YtgklopgeimjgiaaGreatDoor

/- VerifySees, the plain law: a schema's tables and a state's rows over them are a forest (stok_of); all together (vsees_none .. vsees_other). -/
namespace Go.Proofs.YtgklopgeimjgiaaGreatDoor
open Go.Sort (SWO)

/-- The tables below one. -/
def kdsN (ts : List Ta) (t : Nat) : List Nat := (List.range ts.length).filter (isKid ts t)
/-- The tables of roots. -/
def rootsN (ts : List Ta) : List Nat := (List.range ts.length).filter fun t => match ts[t]? with
  | some u => decide (u.par < 0)
  | none => false
def zV : V := ⟨0, 0, 0, ⟨#[]⟩⟩
def keyN (ts : List Ta) (t : Nat) (row : List V) : V := match ts[t]? with
  | some u => row.getD u.key.toNat zV
  | none => zV
def refN (ts : List Ta) (t : Nat) (row : List V) : V := match ts[t]? with
  | some u => row.getD u.ref.toNat zV
  | none => zV
def dpN (ts : List Ta) (t : Nat) : Nat := if t < ts.length then (depA ts t).toNat else 1
/-- Where a row stands. -/
def plN (ts : List Ta) (x : Rw) : Nat × V := (x.1, keyN ts x.1 x.2)
theorem mem_kdsN {ts : List Ta} {t c : Nat} : c ∈ kdsN ts t ↔ ∃ u, ts[c]? = some u ∧ u.par = t := by
  unfold kdsN
  rw [List.mem_filter, List.mem_range]
  unfold isKid
  constructor
  · rintro ⟨h1, h2⟩
    rw [List.getElem?_eq_getElem h1] at h2
    exact ⟨ts[c], List.getElem?_eq_getElem h1, by simpa using h2⟩
  · rintro ⟨u, h1, h2⟩
    exact ⟨(List.getElem?_eq_some_iff.1 h1).1, by rw [h1]; simp [h2]⟩
theorem kdsN_F (ts : List Ta) (t : Nat) : kidsF ts t ts.length = (kdsN ts t).map Int.ofNat := rfl
theorem kdsN_nd (ts : List Ta) (t : Nat) : (kdsN ts t).Nodup := List.Pairwise.filter _ List.nodup_range
theorem rootsN_nd (ts : List Ta) : (rootsN ts).Nodup := List.Pairwise.filter _ List.nodup_range
theorem mem_rootsN {ts : List Ta} {t : Nat} : t ∈ rootsN ts ↔ ∃ u, ts[t]? = some u ∧ u.par < 0 := by
  unfold rootsN
  rw [List.mem_filter, List.mem_range]
  constructor
  · rintro ⟨h1, h2⟩
    rw [List.getElem?_eq_getElem h1] at h2
    exact ⟨ts[t], List.getElem?_eq_getElem h1, by simpa using h2⟩
  · rintro ⟨u, h1, h2⟩
    exact ⟨(List.getElem?_eq_some_iff.1 h1).1, by rw [h1]; simp [h2]⟩
theorem stok_of {ts : List Ta} (hp : preB ts ts.length = true) {l : List Rw} (hs : Ris (plN ts) l) : StOk (kdsN ts) (keyN ts) (dpN ts) l where
  nd := ris_nodup hs
  one := fun x hx y hy h1 h2 => ris_one hs hx hy (Prod.ext h1 h2)
  kid := by
    intro t c hc
    obtain ⟨u, h1, h2⟩ := mem_kdsN.1 hc
    have hl := (List.getElem?_eq_some_iff.1 h1).1
    rcases dep_par hp hl h1 with ⟨e, _, _⟩ | ⟨e1, e2, e3⟩
    · omega
    · have ht : t < ts.length := by omega
      have e4 : u.par.toNat = t := by omega
      rw [e4] at e3
      have := dep_range hp (t + 1) t (by omega) ht (Nat.le_refl _)
      unfold dpN
      rw [if_pos hl, if_pos ht, e3]; omega
  par := by
    intro t t' c h1 h2
    obtain ⟨u, h1, h3⟩ := mem_kdsN.1 h1
    obtain ⟨u', h2, h4⟩ := mem_kdsN.1 h2
    rw [h1] at h2
    obtain rfl := Option.some.inj h2
    omega
  knd := kdsN_nd ts
  le := by
    intro t
    unfold dpN
    by_cases h : t < ts.length
    · rw [if_pos h]; have := dep_range hp (t + 1) t (by omega) h (Nat.le_refl _); omega
    · rw [if_neg h]; omega
  pos := by
    intro t
    unfold dpN
    by_cases h : t < ts.length
    · rw [if_pos h]; have := dep_range hp (t + 1) t (by omega) h (Nat.le_refl _); omega
    · rw [if_neg h]; omega
/-- The documents of a state. -/
def docsN (ts : List Ta) (l : List Rw) : List De := allD (kdsN ts) (keyN ts) (refN ts) l (rootsN ts)
theorem docsN_nodup {ts : List Ta} (hp : preB ts ts.length = true) {l : List Rw} (hs : Ris (plN ts) l) : ((docsN ts l).map (rtD (keyN ts))).Nodup :=
  allD_nodup (stok_of hp hs) (rootsN_nd ts)
theorem docsN_size {ts : List Ta} (hp : preB ts ts.length = true) {l : List Rw} (hs : Ris (plN ts) l) (hl : l.length ≤ 200) {d : De} (hd : d ∈ docsN ts l) : 0 < sizeD d := by
  obtain ⟨x, hx, _, rfl⟩ := allD_mem.1 hd
  exact docF_size (stok_of hp hs) hl hx
end Go.Proofs.YtgklopgeimjgiaaGreatDoor
