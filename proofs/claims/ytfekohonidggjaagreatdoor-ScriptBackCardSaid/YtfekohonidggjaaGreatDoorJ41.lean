/- Several texts in one: see each part's head. -/
import Derived.Test.YtfekohonidggjaaGreatDoorJ39
import Derived.Test.YtfekohonidggjaaGreatDoorJ40
import Derived.Test.YtfekohonidggjaaGreatDoorJ13
/- Scripts written and read again, plain. -/
namespace Go.Proofs.YtfekohonidggjaaGreatDoor
open Go.RowKit

theorem writeV_cases (c : Cf) (l : List Ac) : (∃ e : Int, e ≠ 0 ∧ writeV c l = .tuple #[.string ⟨#[]⟩, .int .i64 e]) ∨ (confB c = true ∧ (l.all fun a => (actT a).isSome) = true ∧ (textF (linesF (c.st l))).length ≤ 1048576 ∧ writeV c l = .tuple #[.string (bsO (textF (linesF (c.st l)))), .int .i64 0]) := by
  unfold writeV
  by_cases h : (confB c && l.all fun a => (actT a).isSome) = true
  · rw [if_pos h]
    obtain ⟨h1, h2⟩ := Bool.and_eq_true_iff.1 h
    by_cases h3 : (textF (linesF (c.st l))).length ≤ 1048576
    · rw [if_pos h3]
      exact Or.inr ⟨h1, h2, h3, rfl⟩
    · rw [if_neg h3]
      exact Or.inl ⟨5, by decide, rfl⟩
  · rw [if_neg h]
    exact Or.inl ⟨2, by decide, rfl⟩
theorem textF_len : ∀ ls : List (List UInt8), ls.length ≤ (textF ls).length
  | [] => by simp [textF]
  | l :: ls => by
    have := textF_len ls
    unfold textF at this ⊢
    simp only [List.flatMap_cons, List.length_append, List.length_cons, List.length_nil]
    omega
theorem lines_l (st : Ls) : st.l.length ≤ (linesF st).length := by
  unfold linesF
  simp only [List.length_append, List.length_map]
  omega
/-- What was read is written as the text that it was. -/
theorem writeV_read {text : ByteArray} {st : Ls} (h : goP Ls0 (spW 10 text.data.toList) = .ok st) (hl : text.size ≤ 1048576) {T : List Ta} (hT : T.map Ta.z = st.ts) : writeV ⟨st.seg, st.bd, st.r0, st.r1, st.r2, T⟩ st.l = .tuple #[.string text, .int .i64 0] ∧ st.l.length ≤ text.size := by
  have hsz : text.data.toList.length = text.size := by simp
  obtain ⟨hok, htx, hts⟩ := read_write (by omega) h
  have hne : st.ts ≠ [] := fun e => hts (by rw [e]; rfl)
  obtain ⟨hsc, hn⟩ := hok.ts.resolve_left hne
  have h0 := hok.h0.resolve_left (by omega)
  have h1 := hok.h1.resolve_left (by omega)
  have h2 := hok.h2.resolve_left (by omega)
  have hsT : schB T = true := by rw [← sch_z, hT]; exact hsc
  have hc : confB ⟨st.seg, st.bd, st.r0, st.r1, st.r2, T⟩ = true := by
    unfold confB
    simp only [h0, h1, hsT, Bool.and_true]
    exact h2
  have ha : (st.l.all fun a => (actT a).isSome) = true := List.all_eq_true.2 fun a ha => (hok.l a ha).2
  have hlin : linesF (Cf.st ⟨st.seg, st.bd, st.r0, st.r1, st.r2, T⟩ st.l) = linesF st := by
    unfold linesF Cf.st headLs
    simp only [hT]
    rw [List.take_of_length_le (by simp; omega), List.take_of_length_le (by simp; omega)]
  have htl : (textF (linesF st)).length ≤ 1048576 := by rw [htx, hsz]; exact hl
  refine ⟨?_, ?_⟩
  · unfold writeV
    rw [if_pos (by rw [hc, ha]; rfl), hlin, if_pos htl, htx]
    rfl
  · have a1 := lines_l st
    have a2 := textF_len (linesF st)
    rw [htx, hsz] at a2
    omega
/-- What was written is read as itself. -/
theorem read_written {c : Cf} {l : List Ac} (hc : confB c = true) (ha : (l.all fun a => (actT a).isSome) = true) (hl : (textF (linesF (c.st l))).length ≤ 1048576) (hw : ∀ t ∈ c.ts, t.wf ∧ ∀ x ∈ t.cs, x.wf) (hz : ∀ a ∈ l, a.wf) :
    goP Ls0 (spW 10 (bsO (textF (linesF (c.st l)))).data.toList) = .ok (mid c (c.ts.map Ta.z) l) :=
  write_read hc hw (fun a h => ⟨hz a h, List.all_eq_true.1 ha a h⟩) (by omega)
theorem same_z {T ts : List Ta} (h : T.map Ta.z = ts.map Ta.z) : sameS ts T = true := by
  refine decide_eq_true ?_
  have := congrArg (List.map Ta.d) h
  rw [List.map_map, List.map_map] at this
  exact this.symm
end Go.Proofs.YtfekohonidggjaaGreatDoor

/- Scripts as texts, the plain side: the chapter's example. -/
namespace Go.Proofs.YtfekohonidggjaaGreatDoor
open Go.RowKit

def exT : Ta := ⟨bsO [97], [⟨bsO [105, 100], 2, false⟩], 0, -1, -1, none, 0⟩
def exC : Cf := ⟨1, 2, 9, 9, 9, [exT]⟩
def exA : Ac := ⟨2, 1, 0, [⟨2, 7, 0, bsO []⟩], 0, 0, 0, bsO []⟩
def textC : List UInt8 := [115, 101, 103, 32, 49, 10, 98, 111, 117, 110, 100, 32, 50, 10, 114, 111, 111, 109, 115, 32, 57, 32, 57, 32, 57, 10, 116, 97, 98, 108, 101, 32, 97, 32, 48, 32, 45, 49, 32, 45, 49, 32, 105, 100, 58, 105, 110, 116, 10, 105, 110, 115, 101, 114, 116, 32, 48, 32, 55, 10]
def exBad : List UInt8 := [105, 110, 115, 101, 114, 116, 32, 48, 32, 48, 55]
def exBadC : List UInt8 := textC ++ (exBad ++ [10])
theorem itoa_dig {n : Nat} (h : n < 10) : Lib.itoa (n : Int) = [UInt8.ofNat (48 + n)] := by
  unfold Lib.itoa
  rw [if_neg (by omega), Int.toNat_natCast, Lib.decDigits, dif_pos h]
theorem itoa_m1 : Lib.itoa (-1) = [45, 49] := by
  unfold Lib.itoa
  rw [if_pos (by omega), show (-1 : Int).natAbs = 1 from rfl, Lib.decDigits, dif_pos (by omega)]
  rfl
theorem itoa_0 : Lib.itoa 0 = [48] := itoa_dig (n := 0) (by omega)
theorem itoa_1 : Lib.itoa 1 = [49] := itoa_dig (n := 1) (by omega)
theorem itoa_2 : Lib.itoa 2 = [50] := itoa_dig (n := 2) (by omega)
theorem itoa_7 : Lib.itoa 7 = [55] := itoa_dig (n := 7) (by omega)
theorem itoa_9 : Lib.itoa 9 = [57] := itoa_dig (n := 9) (by omega)
theorem ex_valW : valW ⟨2, 7, 0, bsO []⟩ = [55] := by
  have h := itoa_7
  unfold valW
  simpa using h
theorem ex_actW : actW exA = some [tOp1, [48], [55]] := by
  rw [show actW exA = if opB exA = true then some (opW exA.k :: Lib.itoa exA.tb :: List.map valW exA.row) else none from rfl, if_pos (by decide)]
  show some (tOp1 :: Lib.itoa 0 :: [valW ⟨2, 7, 0, bsO []⟩]) = _
  rw [itoa_0, ex_valW]
theorem ex_act : actT exA = some [105, 110, 115, 101, 114, 116, 32, 48, 32, 55] := by
  unfold actT
  rw [ex_actW]
  rfl
theorem ex_tab : tabT exT = [116, 97, 98, 108, 101, 32, 97, 32, 48, 32, 45, 49, 32, 45, 49, 32, 105, 100, 58, 105, 110, 116] := by
  unfold tabT tabW
  show jnW 32 (tTable :: [97] :: Lib.itoa 0 :: Lib.itoa (-1) :: Lib.itoa (-1) :: [colW ⟨bsO [105, 100], 2, false⟩]) = _
  rw [itoa_0, itoa_m1]
  decide
theorem ex_head : headLs (mid exC [] []) = [[115, 101, 103, 32, 49], [98, 111, 117, 110, 100, 32, 50], [114, 111, 111, 109, 115, 32, 57, 32, 57, 32, 57]] := by
  show [jnW 32 [tSeg, Lib.itoa 1], jnW 32 [tBound, Lib.itoa 2], jnW 32 [tRooms, Lib.itoa 9, Lib.itoa 9, Lib.itoa 9]] = _
  rw [itoa_1, itoa_2, itoa_9]
  decide
theorem ex_conf : confB exC = true := by decide
theorem ex_wf : ∀ t ∈ exC.ts, t.wf ∧ ∀ x ∈ t.cs, x.wf := by
  intro t ht
  obtain rfl : t = exT := by simpa [exC] using ht
  refine ⟨⟨by decide, by decide, by decide, by decide⟩, fun x hx => ?_⟩
  obtain rfl : x = ⟨bsO [105, 100], 2, false⟩ := by simpa [exT] using hx
  exact ⟨by decide, by decide, by decide⟩
theorem ex_awf : exA.wf := by
  refine ⟨by decide, by decide, ⟨by decide, by decide⟩, ?_, ⟨by decide, by decide⟩, ⟨by decide, by decide⟩, ⟨by decide, by decide⟩, by decide⟩
  intro v hv
  obtain rfl : v = ⟨2, 7, 0, bsO []⟩ := by simpa [exA] using hv
  refine ⟨?_, ?_, ?_, ?_, ?_, ?_, ?_⟩ <;> decide
theorem ex_lines : linesF (exC.st [exA]) = [[115, 101, 103, 32, 49], [98, 111, 117, 110, 100, 32, 50], [114, 111, 111, 109, 115, 32, 57, 32, 57, 32, 57], [116, 97, 98, 108, 101, 32, 97, 32, 48, 32, 45, 49, 32, 45, 49, 32, 105, 100, 58, 105, 110, 116], [105, 110, 115, 101, 114, 116, 32, 48, 32, 55]] := by
  show (headLs (mid exC [] [])).take 5 ++ ([tabT exT] ++ [(actT exA).getD []]) = _
  rw [ex_head, ex_tab, ex_act]
  rfl
theorem ex_text : textF (linesF (exC.st [exA])) = textC := by
  rw [ex_lines]
  decide
theorem ex_read : goP Ls0 (spW 10 textC) = .ok (mid exC [exT] [exA]) := by
  have h := write_read (l := [exA]) ex_conf ex_wf (fun a ha => by
    obtain rfl : a = exA := by simpa using ha
    exact ⟨ex_awf, by rw [ex_act]; rfl⟩) (by rw [ex_text]; decide)
  rw [ex_text] at h
  exact h
theorem long_07 : longZ [48, 55] = none := by
  cases h : longZ [48, 55] with
  | none => rfl
  | some v =>
    exfalso
    have h7 : Lib.parseIntB 64 [48, 55] = .ok 7 := by decide
    obtain ⟨hv, e⟩ := longZ_some.1 h
    have h2 := parse_itoa v hv.1 hv.2
    rw [e, h7] at h2
    cases h2
    rw [itoa_7] at e
    revert e
    decide
theorem read_07 : readV [48, 55] = none := by
  cases h : readV [48, 55] with
  | none => rfl
  | some v =>
    exfalso
    have h0 : readV0 [48, 55] = some v := by
      unfold readV at h
      cases h1 : readV0 [48, 55] with
      | none => rw [h1] at h; cases h
      | some u => rw [h1] at h; simp [Option.filter] at h; rw [h.2]
    have hz : readV0 [48, 55] = (longZ [48, 55]).map fun n => ⟨2, n, 0, bsO []⟩ := by
      unfold readV0
      simp [tNull, tTrue, tFalse]
    rw [hz, long_07] at h0
    cases h0
theorem bad_line : lineF (mid exC [exT] [exA]) exBad = none := by
  have hw : wordsF exBad = some [tOp1, [48], [48, 55]] := by decide
  have hr : readA exBad = none := by
    unfold readA
    rw [hw]
    have h0 : longZ [48] = some 0 := by have := longZ_itoa (v := 0) ⟨by omega, by omega⟩; rwa [itoa_0] at this
    show opR 1 [[48], [48, 55]] = none
    unfold opR
    simp only [h0]
    have : rowR [[48, 55]] = none := by unfold rowR; rw [read_07]
    simp [this]
  show bodyF (mid exC [exT] [exA]) exBad = none
  unfold bodyF
  have hac : (mid exC [exT] [exA]).acts = true := rfl
  simp only [hac, if_true, hr]
  rfl
theorem ex_bad : goP Ls0 (spW 10 exBadC) = .bad 6 := by
  have hs : spW 10 exBadC = headLs (mid exC [] []) ++ ([tabT exT] ++ [[105, 110, 115, 101, 114, 116, 32, 48, 32, 55], exBad, []]) := by
    rw [ex_head, ex_tab]
    decide
  rw [hs, head_run ex_conf _ (by simp)]
  have h1 := tabs_run (c := exC) (by decide) ex_wf (fun t ht => by
    obtain rfl : t = exT := by simpa [exC] using ht
    rw [ex_tab]; decide) [[105, 110, 115, 101, 114, 116, 32, 48, 32, 55], exBad, []] (by simp) [exT] [] rfl
  rw [show mid exC [] [] = mid exC (([] : List Ta).map Ta.z) [] from rfl]
  refine Eq.trans h1 ?_
  have ha : readA [105, 110, 115, 101, 114, 116, 32, 48, 32, 55] = some exA := (readA_some (by decide)).2 ⟨ex_awf, ex_act⟩
  have hl : lineF (mid exC [exT] []) [105, 110, 115, 101, 114, 116, 32, 48, 32, 55] = some (mid exC [exT] [exA]) := by
    have hn : readT [105, 110, 115, 101, 114, 116, 32, 48, 32, 55] = none := act_not (by decide) ex_awf ex_act
    show bodyF (mid exC [exT] []) [105, 110, 115, 101, 114, 116, 32, 48, 32, 55] = _
    unfold bodyF
    have hac : (mid exC [exT] []).acts = false := rfl
    simp only [hac, Bool.false_eq_true, if_false, hn, ha]
    rfl
  show goP (mid exC [exT] []) ([105, 110, 115, 101, 114, 116, 32, 48, 32, 55] :: [exBad, []]) = _
  rw [goP_cons (st1 := mid exC [exT] [exA]) hl _ (by simp)]
  show goP (mid exC [exT] [exA]) [exBad, []] = _
  unfold goP
  rw [bad_line]
  rfl
theorem ex_no : actT Ac0 = none := by
  unfold actT
  rw [show actW Ac0 = none by decide]
  rfl
end Go.Proofs.YtfekohonidggjaaGreatDoor
