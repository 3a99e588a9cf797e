/- Texts joined by a tool: contracts and walks of this claim. -/
import Derived.Test.YtfekohonidggjaaGreatDoorB18
namespace Go.Proofs.YtfekohonidggjaaGreatDoor
open Go.RowKit
def kindV (o : Option (List UInt8 × Nat × Bool)) : Value := match o with
 | some (x, c, f) => .tuple #[.agg #[.string (bsO x), .int .i64 c, .bool f], .bool true]
 | none => .tuple #[.agg #[.string ⟨#[]⟩, .int .i64 0, .bool false], .bool false]
theorem formOf_far {d : Int} (h : 17 ≤ d) : formOf d = none := by
 have : formL.find? (·.1 == d) = none := by
  rw [List.find?_eq_none]
  intro x hx
  have hm : ∀ y ∈ formL, y.1 < 17 := by decide
  have := hm x hx
  simp
  omega
 unfold formOf
 rw [this]
 rfl
set_option maxRecDepth 100000 in
set_option maxHeartbeats 6400000 in
theorem refkind_any (d : Int) (hd : 0 ≤ d ∧ d ≤ 255) (w : World) :
 Calls Tryz.prog 44 #[.int .u8 d] w fun r w' => r = .returned (kindV (formOf d)) ∧ Below w.heap.size w w' := by
 have W : ∀ W2 : World, W2 = (w.alloc (.cells #[.string ⟨#[]⟩, .int .i64 0, .bool false] 78)).alloc (.cells #[.string ⟨#[]⟩, .int .i64 0, .bool false, .string ⟨#[98, 101, 103, 105, 110]⟩, .int .i64 0, .bool false, .string ⟨#[]⟩, .int .i64 0, .bool false, .string ⟨#[99, 111, 109, 109, 105, 116]⟩, .int .i64 0, .bool false, .string ⟨#[97, 98, 111, 114, 116]⟩, .int .i64 0, .bool false, .string ⟨#[115, 116, 101, 112]⟩, .int .i64 0, .bool false, .string ⟨#[102, 101, 116, 99, 104]⟩, .int .i64 3, .bool false, .string ⟨#[112, 117, 98, 108, 105, 115, 104]⟩, .int .i64 0, .bool false, .string ⟨#[116, 101, 108, 108]⟩, .int .i64 0, .bool false, .string ⟨#[114, 101, 116, 97, 105, 110]⟩, .int .i64 1, .bool false, .string ⟨#[102, 108, 117, 115, 104]⟩, .int .i64 0, .bool false, .string ⟨#[99, 111, 109, 112, 97, 99, 116]⟩, .int .i64 0, .bool false, .string ⟨#[102, 117, 115, 101]⟩, .int .i64 2, .bool false, .string ⟨#[99, 114, 97, 115, 104]⟩, .int .i64 3, .bool false, .string ⟨#[102, 108, 105, 112]⟩, .int .i64 3, .bool true, .string ⟨#[114, 111, 111, 109]⟩, .int .i64 2, .bool false, .string ⟨#[111, 112, 101, 110]⟩, .int .i64 1, .bool false] 78) → Blk W2 w.heap.size #[.string ⟨#[]⟩, .int .i64 0, .bool false] 78 ∧ Blk W2 (w.heap.size + 1) #[.string ⟨#[]⟩, .int .i64 0, .bool false, .string ⟨#[98, 101, 103, 105, 110]⟩, .int .i64 0, .bool false, .string ⟨#[]⟩, .int .i64 0, .bool false, .string ⟨#[99, 111, 109, 109, 105, 116]⟩, .int .i64 0, .bool false, .string ⟨#[97, 98, 111, 114, 116]⟩, .int .i64 0, .bool false, .string ⟨#[115, 116, 101, 112]⟩, .int .i64 0, .bool false, .string ⟨#[102, 101, 116, 99, 104]⟩, .int .i64 3, .bool false, .string ⟨#[112, 117, 98, 108, 105, 115, 104]⟩, .int .i64 0, .bool false, .string ⟨#[116, 101, 108, 108]⟩, .int .i64 0, .bool false, .string ⟨#[114, 101, 116, 97, 105, 110]⟩, .int .i64 1, .bool false, .string ⟨#[102, 108, 117, 115, 104]⟩, .int .i64 0, .bool false, .string ⟨#[99, 111, 109, 112, 97, 99, 116]⟩, .int .i64 0, .bool false, .string ⟨#[102, 117, 115, 101]⟩, .int .i64 2, .bool false, .string ⟨#[99, 114, 97, 115, 104]⟩, .int .i64 3, .bool false, .string ⟨#[102, 108, 105, 112]⟩, .int .i64 3, .bool true, .string ⟨#[114, 111, 111, 109]⟩, .int .i64 2, .bool false, .string ⟨#[111, 112, 101, 110]⟩, .int .i64 1, .bool false] 78 ∧ Below w.heap.size w W2 := by
  rintro W2 rfl
  exact ⟨(by repeat (first | exact Blk.at (by simp) | assumption | refine Blk.drew ?_ | refine Blk.old ?_ _)), (by repeat (first | exact Blk.at (by simp) | assumption | refine Blk.drew ?_ | refine Blk.old ?_ _)), (by repeat (first | exact Below.refl _ _ | assumption | refine Below.drew ?_ | refine below_drewN ?_ _ | refine Below.alloc ?_ (by simp <;> omega) _))⟩
 go_enter Tryz.func44, Tryz.ntmps44
 go_upto_region 2 with fail
 obtain ⟨hz, hk, hb⟩ := W _ rfl
 clear W
 generalize (w.alloc (.cells #[.string ⟨#[]⟩, .int .i64 0, .bool false] 78)).alloc (.cells #[.string ⟨#[]⟩, .int .i64 0, .bool false, .string ⟨#[98, 101, 103, 105, 110]⟩, .int .i64 0, .bool false, .string ⟨#[]⟩, .int .i64 0, .bool false, .string ⟨#[99, 111, 109, 109, 105, 116]⟩, .int .i64 0, .bool false, .string ⟨#[97, 98, 111, 114, 116]⟩, .int .i64 0, .bool false, .string ⟨#[115, 116, 101, 112]⟩, .int .i64 0, .bool false, .string ⟨#[102, 101, 116, 99, 104]⟩, .int .i64 3, .bool false, .string ⟨#[112, 117, 98, 108, 105, 115, 104]⟩, .int .i64 0, .bool false, .string ⟨#[116, 101, 108, 108]⟩, .int .i64 0, .bool false, .string ⟨#[114, 101, 116, 97, 105, 110]⟩, .int .i64 1, .bool false, .string ⟨#[102, 108, 117, 115, 104]⟩, .int .i64 0, .bool false, .string ⟨#[99, 111, 109, 112, 97, 99, 116]⟩, .int .i64 0, .bool false, .string ⟨#[102, 117, 115, 101]⟩, .int .i64 2, .bool false, .string ⟨#[99, 114, 97, 115, 104]⟩, .int .i64 3, .bool false, .string ⟨#[102, 108, 105, 112]⟩, .int .i64 3, .bool true, .string ⟨#[114, 111, 111, 109]⟩, .int .i64 2, .bool false, .string ⟨#[111, 112, 101, 110]⟩, .int .i64 1, .bool false] 78) = w2 at hz hk hb ⊢
 by_cases h17 : 17 ≤ d
 · have HN := hd_ (formOf_far h17)
   obtain ⟨w3, rfl, lt⟩ := blk_put hz
   obtain ⟨pc, pf, pS⟩ := putBlk_facts (w := w3) 78 lt
   have HB := hd_ (putBlk_belows hb (Nat.le_refl _) #[.string ⟨#[]⟩, .int .i64 0, .bool false])
   clear hz hk hb
   go_wp2_with fail
   refine bodyPost_ret (v := kindV none) (by simp [results, Tryz.results44, go_sem, kindV, pc]) rfl ?_
   exact ⟨by rw [HN.out], HB.out⟩
 · have hc : d = 0 ∨ d = 1 ∨ d = 2 ∨ d = 3 ∨ d = 4 ∨ d = 5 ∨ d = 6 ∨ d = 7 ∨ d = 8 ∨ d = 9 ∨ d = 10 ∨ d = 11 ∨ d = 12 ∨ d = 13 ∨ d = 14 ∨ d = 15 ∨ d = 16 := by omega
   clear hd h17
   rcases hc with rfl | rfl | rfl | rfl | rfl | rfl | rfl | rfl | rfl | rfl | rfl | rfl | rfl | rfl | rfl | rfl | rfl
   · have hlt := hk.lt
     obtain ⟨w3, rfl, lt⟩ := blk_put hz
     obtain ⟨pc, pf, pS⟩ := putBlk_facts (w := w3) 78 lt
     have y0 : (putBlk w3 w.heap.size #[.string ⟨#[]⟩, .int .i64 0, .bool false] 78).cell? ⟨w.heap.size + 1, 0, none⟩ = some (.string ⟨#[]⟩) := hk.cell 0
     have HB := hd_ (putBlk_belows hb (Nat.le_refl _) #[.string ⟨#[]⟩, .int .i64 0, .bool false])
     clear hz hk hb
     go_wp2_with fail
     refine bodyPost_ret (v := kindV (none)) (by simp [results, Tryz.results44, go_sem, kindV, pc]) rfl ?_
     exact ⟨rfl, HB.out⟩
   · have hlt := hk.lt
     obtain ⟨w3, rfl, lt⟩ := blk_put hz
     obtain ⟨pc, pf, pS⟩ := putBlk_facts (w := w3) 78 lt
     have y0 : (putBlk w3 w.heap.size #[.string ⟨#[]⟩, .int .i64 0, .bool false] 78).cell? ⟨w.heap.size + 1, 3, none⟩ = some (.string ⟨#[98, 101, 103, 105, 110]⟩) := hk.cell 3
     have y1 : (putBlk w3 w.heap.size #[.string ⟨#[]⟩, .int .i64 0, .bool false] 78).cell? ⟨w.heap.size + 1, 4, none⟩ = some (.int .i64 0) := hk.cell 4
     have y2 : (putBlk w3 w.heap.size #[.string ⟨#[]⟩, .int .i64 0, .bool false] 78).cell? ⟨w.heap.size + 1, 5, none⟩ = some (.bool false) := hk.cell 5
     have HB := hd_ (putBlk_belows hb (Nat.le_refl _) #[.string ⟨#[98, 101, 103, 105, 110]⟩, .int .i64 0, .bool false])
     clear hz hk hb
     go_wp2_with fail
     refine bodyPost_ret (v := kindV (some ([98, 101, 103, 105, 110], 0, false))) (by simp [results, Tryz.results44, go_sem, kindV, bsO, pc]) rfl ?_
     exact ⟨rfl, HB.out⟩
   · have hlt := hk.lt
     obtain ⟨w3, rfl, lt⟩ := blk_put hz
     obtain ⟨pc, pf, pS⟩ := putBlk_facts (w := w3) 78 lt
     have y0 : (putBlk w3 w.heap.size #[.string ⟨#[]⟩, .int .i64 0, .bool false] 78).cell? ⟨w.heap.size + 1, 6, none⟩ = some (.string ⟨#[]⟩) := hk.cell 6
     have HB := hd_ (putBlk_belows hb (Nat.le_refl _) #[.string ⟨#[]⟩, .int .i64 0, .bool false])
     clear hz hk hb
     go_wp2_with fail
     refine bodyPost_ret (v := kindV (none)) (by simp [results, Tryz.results44, go_sem, kindV, pc]) rfl ?_
     exact ⟨rfl, HB.out⟩
   · have hlt := hk.lt
     obtain ⟨w3, rfl, lt⟩ := blk_put hz
     obtain ⟨pc, pf, pS⟩ := putBlk_facts (w := w3) 78 lt
     have y0 : (putBlk w3 w.heap.size #[.string ⟨#[]⟩, .int .i64 0, .bool false] 78).cell? ⟨w.heap.size + 1, 9, none⟩ = some (.string ⟨#[99, 111, 109, 109, 105, 116]⟩) := hk.cell 9
     have y1 : (putBlk w3 w.heap.size #[.string ⟨#[]⟩, .int .i64 0, .bool false] 78).cell? ⟨w.heap.size + 1, 10, none⟩ = some (.int .i64 0) := hk.cell 10
     have y2 : (putBlk w3 w.heap.size #[.string ⟨#[]⟩, .int .i64 0, .bool false] 78).cell? ⟨w.heap.size + 1, 11, none⟩ = some (.bool false) := hk.cell 11
     have HB := hd_ (putBlk_belows hb (Nat.le_refl _) #[.string ⟨#[99, 111, 109, 109, 105, 116]⟩, .int .i64 0, .bool false])
     clear hz hk hb
     go_wp2_with fail
     refine bodyPost_ret (v := kindV (some ([99, 111, 109, 109, 105, 116], 0, false))) (by simp [results, Tryz.results44, go_sem, kindV, bsO, pc]) rfl ?_
     exact ⟨rfl, HB.out⟩
   · have hlt := hk.lt
     obtain ⟨w3, rfl, lt⟩ := blk_put hz
     obtain ⟨pc, pf, pS⟩ := putBlk_facts (w := w3) 78 lt
     have y0 : (putBlk w3 w.heap.size #[.string ⟨#[]⟩, .int .i64 0, .bool false] 78).cell? ⟨w.heap.size + 1, 12, none⟩ = some (.string ⟨#[97, 98, 111, 114, 116]⟩) := hk.cell 12
     have y1 : (putBlk w3 w.heap.size #[.string ⟨#[]⟩, .int .i64 0, .bool false] 78).cell? ⟨w.heap.size + 1, 13, none⟩ = some (.int .i64 0) := hk.cell 13
     have y2 : (putBlk w3 w.heap.size #[.string ⟨#[]⟩, .int .i64 0, .bool false] 78).cell? ⟨w.heap.size + 1, 14, none⟩ = some (.bool false) := hk.cell 14
     have HB := hd_ (putBlk_belows hb (Nat.le_refl _) #[.string ⟨#[97, 98, 111, 114, 116]⟩, .int .i64 0, .bool false])
     clear hz hk hb
     go_wp2_with fail
     refine bodyPost_ret (v := kindV (some ([97, 98, 111, 114, 116], 0, false))) (by simp [results, Tryz.results44, go_sem, kindV, bsO, pc]) rfl ?_
     exact ⟨rfl, HB.out⟩
   · have hlt := hk.lt
     obtain ⟨w3, rfl, lt⟩ := blk_put hz
     obtain ⟨pc, pf, pS⟩ := putBlk_facts (w := w3) 78 lt
     have y0 : (putBlk w3 w.heap.size #[.string ⟨#[]⟩, .int .i64 0, .bool false] 78).cell? ⟨w.heap.size + 1, 15, none⟩ = some (.string ⟨#[115, 116, 101, 112]⟩) := hk.cell 15
     have y1 : (putBlk w3 w.heap.size #[.string ⟨#[]⟩, .int .i64 0, .bool false] 78).cell? ⟨w.heap.size + 1, 16, none⟩ = some (.int .i64 0) := hk.cell 16
     have y2 : (putBlk w3 w.heap.size #[.string ⟨#[]⟩, .int .i64 0, .bool false] 78).cell? ⟨w.heap.size + 1, 17, none⟩ = some (.bool false) := hk.cell 17
     have HB := hd_ (putBlk_belows hb (Nat.le_refl _) #[.string ⟨#[115, 116, 101, 112]⟩, .int .i64 0, .bool false])
     clear hz hk hb
     go_wp2_with fail
     refine bodyPost_ret (v := kindV (some ([115, 116, 101, 112], 0, false))) (by simp [results, Tryz.results44, go_sem, kindV, bsO, pc]) rfl ?_
     exact ⟨rfl, HB.out⟩
   · have hlt := hk.lt
     obtain ⟨w3, rfl, lt⟩ := blk_put hz
     obtain ⟨pc, pf, pS⟩ := putBlk_facts (w := w3) 78 lt
     have y0 : (putBlk w3 w.heap.size #[.string ⟨#[]⟩, .int .i64 0, .bool false] 78).cell? ⟨w.heap.size + 1, 18, none⟩ = some (.string ⟨#[102, 101, 116, 99, 104]⟩) := hk.cell 18
     have y1 : (putBlk w3 w.heap.size #[.string ⟨#[]⟩, .int .i64 0, .bool false] 78).cell? ⟨w.heap.size + 1, 19, none⟩ = some (.int .i64 3) := hk.cell 19
     have y2 : (putBlk w3 w.heap.size #[.string ⟨#[]⟩, .int .i64 0, .bool false] 78).cell? ⟨w.heap.size + 1, 20, none⟩ = some (.bool false) := hk.cell 20
     have HB := hd_ (putBlk_belows hb (Nat.le_refl _) #[.string ⟨#[102, 101, 116, 99, 104]⟩, .int .i64 3, .bool false])
     clear hz hk hb
     go_wp2_with fail
     refine bodyPost_ret (v := kindV (some ([102, 101, 116, 99, 104], 3, false))) (by simp [results, Tryz.results44, go_sem, kindV, bsO, pc]) rfl ?_
     exact ⟨rfl, HB.out⟩
   · have hlt := hk.lt
     obtain ⟨w3, rfl, lt⟩ := blk_put hz
     obtain ⟨pc, pf, pS⟩ := putBlk_facts (w := w3) 78 lt
     have y0 : (putBlk w3 w.heap.size #[.string ⟨#[]⟩, .int .i64 0, .bool false] 78).cell? ⟨w.heap.size + 1, 21, none⟩ = some (.string ⟨#[112, 117, 98, 108, 105, 115, 104]⟩) := hk.cell 21
     have y1 : (putBlk w3 w.heap.size #[.string ⟨#[]⟩, .int .i64 0, .bool false] 78).cell? ⟨w.heap.size + 1, 22, none⟩ = some (.int .i64 0) := hk.cell 22
     have y2 : (putBlk w3 w.heap.size #[.string ⟨#[]⟩, .int .i64 0, .bool false] 78).cell? ⟨w.heap.size + 1, 23, none⟩ = some (.bool false) := hk.cell 23
     have HB := hd_ (putBlk_belows hb (Nat.le_refl _) #[.string ⟨#[112, 117, 98, 108, 105, 115, 104]⟩, .int .i64 0, .bool false])
     clear hz hk hb
     go_wp2_with fail
     refine bodyPost_ret (v := kindV (some ([112, 117, 98, 108, 105, 115, 104], 0, false))) (by simp [results, Tryz.results44, go_sem, kindV, bsO, pc]) rfl ?_
     exact ⟨rfl, HB.out⟩
   · have hlt := hk.lt
     obtain ⟨w3, rfl, lt⟩ := blk_put hz
     obtain ⟨pc, pf, pS⟩ := putBlk_facts (w := w3) 78 lt
     have y0 : (putBlk w3 w.heap.size #[.string ⟨#[]⟩, .int .i64 0, .bool false] 78).cell? ⟨w.heap.size + 1, 24, none⟩ = some (.string ⟨#[116, 101, 108, 108]⟩) := hk.cell 24
     have y1 : (putBlk w3 w.heap.size #[.string ⟨#[]⟩, .int .i64 0, .bool false] 78).cell? ⟨w.heap.size + 1, 25, none⟩ = some (.int .i64 0) := hk.cell 25
     have y2 : (putBlk w3 w.heap.size #[.string ⟨#[]⟩, .int .i64 0, .bool false] 78).cell? ⟨w.heap.size + 1, 26, none⟩ = some (.bool false) := hk.cell 26
     have HB := hd_ (putBlk_belows hb (Nat.le_refl _) #[.string ⟨#[116, 101, 108, 108]⟩, .int .i64 0, .bool false])
     clear hz hk hb
     go_wp2_with fail
     refine bodyPost_ret (v := kindV (some ([116, 101, 108, 108], 0, false))) (by simp [results, Tryz.results44, go_sem, kindV, bsO, pc]) rfl ?_
     exact ⟨rfl, HB.out⟩
   · have hlt := hk.lt
     obtain ⟨w3, rfl, lt⟩ := blk_put hz
     obtain ⟨pc, pf, pS⟩ := putBlk_facts (w := w3) 78 lt
     have y0 : (putBlk w3 w.heap.size #[.string ⟨#[]⟩, .int .i64 0, .bool false] 78).cell? ⟨w.heap.size + 1, 27, none⟩ = some (.string ⟨#[114, 101, 116, 97, 105, 110]⟩) := hk.cell 27
     have y1 : (putBlk w3 w.heap.size #[.string ⟨#[]⟩, .int .i64 0, .bool false] 78).cell? ⟨w.heap.size + 1, 28, none⟩ = some (.int .i64 1) := hk.cell 28
     have y2 : (putBlk w3 w.heap.size #[.string ⟨#[]⟩, .int .i64 0, .bool false] 78).cell? ⟨w.heap.size + 1, 29, none⟩ = some (.bool false) := hk.cell 29
     have HB := hd_ (putBlk_belows hb (Nat.le_refl _) #[.string ⟨#[114, 101, 116, 97, 105, 110]⟩, .int .i64 1, .bool false])
     clear hz hk hb
     go_wp2_with fail
     refine bodyPost_ret (v := kindV (some ([114, 101, 116, 97, 105, 110], 1, false))) (by simp [results, Tryz.results44, go_sem, kindV, bsO, pc]) rfl ?_
     exact ⟨rfl, HB.out⟩
   · have hlt := hk.lt
     obtain ⟨w3, rfl, lt⟩ := blk_put hz
     obtain ⟨pc, pf, pS⟩ := putBlk_facts (w := w3) 78 lt
     have y0 : (putBlk w3 w.heap.size #[.string ⟨#[]⟩, .int .i64 0, .bool false] 78).cell? ⟨w.heap.size + 1, 30, none⟩ = some (.string ⟨#[102, 108, 117, 115, 104]⟩) := hk.cell 30
     have y1 : (putBlk w3 w.heap.size #[.string ⟨#[]⟩, .int .i64 0, .bool false] 78).cell? ⟨w.heap.size + 1, 31, none⟩ = some (.int .i64 0) := hk.cell 31
     have y2 : (putBlk w3 w.heap.size #[.string ⟨#[]⟩, .int .i64 0, .bool false] 78).cell? ⟨w.heap.size + 1, 32, none⟩ = some (.bool false) := hk.cell 32
     have HB := hd_ (putBlk_belows hb (Nat.le_refl _) #[.string ⟨#[102, 108, 117, 115, 104]⟩, .int .i64 0, .bool false])
     clear hz hk hb
     go_wp2_with fail
     refine bodyPost_ret (v := kindV (some ([102, 108, 117, 115, 104], 0, false))) (by simp [results, Tryz.results44, go_sem, kindV, bsO, pc]) rfl ?_
     exact ⟨rfl, HB.out⟩
   · have hlt := hk.lt
     obtain ⟨w3, rfl, lt⟩ := blk_put hz
     obtain ⟨pc, pf, pS⟩ := putBlk_facts (w := w3) 78 lt
     have y0 : (putBlk w3 w.heap.size #[.string ⟨#[]⟩, .int .i64 0, .bool false] 78).cell? ⟨w.heap.size + 1, 33, none⟩ = some (.string ⟨#[99, 111, 109, 112, 97, 99, 116]⟩) := hk.cell 33
     have y1 : (putBlk w3 w.heap.size #[.string ⟨#[]⟩, .int .i64 0, .bool false] 78).cell? ⟨w.heap.size + 1, 34, none⟩ = some (.int .i64 0) := hk.cell 34
     have y2 : (putBlk w3 w.heap.size #[.string ⟨#[]⟩, .int .i64 0, .bool false] 78).cell? ⟨w.heap.size + 1, 35, none⟩ = some (.bool false) := hk.cell 35
     have HB := hd_ (putBlk_belows hb (Nat.le_refl _) #[.string ⟨#[99, 111, 109, 112, 97, 99, 116]⟩, .int .i64 0, .bool false])
     clear hz hk hb
     go_wp2_with fail
     refine bodyPost_ret (v := kindV (some ([99, 111, 109, 112, 97, 99, 116], 0, false))) (by simp [results, Tryz.results44, go_sem, kindV, bsO, pc]) rfl ?_
     exact ⟨rfl, HB.out⟩
   · have hlt := hk.lt
     obtain ⟨w3, rfl, lt⟩ := blk_put hz
     obtain ⟨pc, pf, pS⟩ := putBlk_facts (w := w3) 78 lt
     have y0 : (putBlk w3 w.heap.size #[.string ⟨#[]⟩, .int .i64 0, .bool false] 78).cell? ⟨w.heap.size + 1, 36, none⟩ = some (.string ⟨#[102, 117, 115, 101]⟩) := hk.cell 36
     have y1 : (putBlk w3 w.heap.size #[.string ⟨#[]⟩, .int .i64 0, .bool false] 78).cell? ⟨w.heap.size + 1, 37, none⟩ = some (.int .i64 2) := hk.cell 37
     have y2 : (putBlk w3 w.heap.size #[.string ⟨#[]⟩, .int .i64 0, .bool false] 78).cell? ⟨w.heap.size + 1, 38, none⟩ = some (.bool false) := hk.cell 38
     have HB := hd_ (putBlk_belows hb (Nat.le_refl _) #[.string ⟨#[102, 117, 115, 101]⟩, .int .i64 2, .bool false])
     clear hz hk hb
     go_wp2_with fail
     refine bodyPost_ret (v := kindV (some ([102, 117, 115, 101], 2, false))) (by simp [results, Tryz.results44, go_sem, kindV, bsO, pc]) rfl ?_
     exact ⟨rfl, HB.out⟩
   · have hlt := hk.lt
     obtain ⟨w3, rfl, lt⟩ := blk_put hz
     obtain ⟨pc, pf, pS⟩ := putBlk_facts (w := w3) 78 lt
     have y0 : (putBlk w3 w.heap.size #[.string ⟨#[]⟩, .int .i64 0, .bool false] 78).cell? ⟨w.heap.size + 1, 39, none⟩ = some (.string ⟨#[99, 114, 97, 115, 104]⟩) := hk.cell 39
     have y1 : (putBlk w3 w.heap.size #[.string ⟨#[]⟩, .int .i64 0, .bool false] 78).cell? ⟨w.heap.size + 1, 40, none⟩ = some (.int .i64 3) := hk.cell 40
     have y2 : (putBlk w3 w.heap.size #[.string ⟨#[]⟩, .int .i64 0, .bool false] 78).cell? ⟨w.heap.size + 1, 41, none⟩ = some (.bool false) := hk.cell 41
     have HB := hd_ (putBlk_belows hb (Nat.le_refl _) #[.string ⟨#[99, 114, 97, 115, 104]⟩, .int .i64 3, .bool false])
     clear hz hk hb
     go_wp2_with fail
     refine bodyPost_ret (v := kindV (some ([99, 114, 97, 115, 104], 3, false))) (by simp [results, Tryz.results44, go_sem, kindV, bsO, pc]) rfl ?_
     exact ⟨rfl, HB.out⟩
   · have hlt := hk.lt
     obtain ⟨w3, rfl, lt⟩ := blk_put hz
     obtain ⟨pc, pf, pS⟩ := putBlk_facts (w := w3) 78 lt
     have y0 : (putBlk w3 w.heap.size #[.string ⟨#[]⟩, .int .i64 0, .bool false] 78).cell? ⟨w.heap.size + 1, 42, none⟩ = some (.string ⟨#[102, 108, 105, 112]⟩) := hk.cell 42
     have y1 : (putBlk w3 w.heap.size #[.string ⟨#[]⟩, .int .i64 0, .bool false] 78).cell? ⟨w.heap.size + 1, 43, none⟩ = some (.int .i64 3) := hk.cell 43
     have y2 : (putBlk w3 w.heap.size #[.string ⟨#[]⟩, .int .i64 0, .bool false] 78).cell? ⟨w.heap.size + 1, 44, none⟩ = some (.bool true) := hk.cell 44
     have HB := hd_ (putBlk_belows hb (Nat.le_refl _) #[.string ⟨#[102, 108, 105, 112]⟩, .int .i64 3, .bool true])
     clear hz hk hb
     go_wp2_with fail
     refine bodyPost_ret (v := kindV (some ([102, 108, 105, 112], 3, true))) (by simp [results, Tryz.results44, go_sem, kindV, bsO, pc]) rfl ?_
     exact ⟨rfl, HB.out⟩
   · have hlt := hk.lt
     obtain ⟨w3, rfl, lt⟩ := blk_put hz
     obtain ⟨pc, pf, pS⟩ := putBlk_facts (w := w3) 78 lt
     have y0 : (putBlk w3 w.heap.size #[.string ⟨#[]⟩, .int .i64 0, .bool false] 78).cell? ⟨w.heap.size + 1, 45, none⟩ = some (.string ⟨#[114, 111, 111, 109]⟩) := hk.cell 45
     have y1 : (putBlk w3 w.heap.size #[.string ⟨#[]⟩, .int .i64 0, .bool false] 78).cell? ⟨w.heap.size + 1, 46, none⟩ = some (.int .i64 2) := hk.cell 46
     have y2 : (putBlk w3 w.heap.size #[.string ⟨#[]⟩, .int .i64 0, .bool false] 78).cell? ⟨w.heap.size + 1, 47, none⟩ = some (.bool false) := hk.cell 47
     have HB := hd_ (putBlk_belows hb (Nat.le_refl _) #[.string ⟨#[114, 111, 111, 109]⟩, .int .i64 2, .bool false])
     clear hz hk hb
     go_wp2_with fail
     refine bodyPost_ret (v := kindV (some ([114, 111, 111, 109], 2, false))) (by simp [results, Tryz.results44, go_sem, kindV, bsO, pc]) rfl ?_
     exact ⟨rfl, HB.out⟩
   · have hlt := hk.lt
     obtain ⟨w3, rfl, lt⟩ := blk_put hz
     obtain ⟨pc, pf, pS⟩ := putBlk_facts (w := w3) 78 lt
     have y0 : (putBlk w3 w.heap.size #[.string ⟨#[]⟩, .int .i64 0, .bool false] 78).cell? ⟨w.heap.size + 1, 48, none⟩ = some (.string ⟨#[111, 112, 101, 110]⟩) := hk.cell 48
     have y1 : (putBlk w3 w.heap.size #[.string ⟨#[]⟩, .int .i64 0, .bool false] 78).cell? ⟨w.heap.size + 1, 49, none⟩ = some (.int .i64 1) := hk.cell 49
     have y2 : (putBlk w3 w.heap.size #[.string ⟨#[]⟩, .int .i64 0, .bool false] 78).cell? ⟨w.heap.size + 1, 50, none⟩ = some (.bool false) := hk.cell 50
     have HB := hd_ (putBlk_belows hb (Nat.le_refl _) #[.string ⟨#[111, 112, 101, 110]⟩, .int .i64 1, .bool false])
     clear hz hk hb
     go_wp2_with fail
     refine bodyPost_ret (v := kindV (some ([111, 112, 101, 110], 1, false))) (by simp [results, Tryz.results44, go_sem, kindV, bsO, pc]) rfl ?_
     exact ⟨rfl, HB.out⟩
end Go.Proofs.YtfekohonidggjaaGreatDoor
