/- Several texts in one: see each part's head. -/
import Derived.Test.YtfekohonidggjaaGreatDoorJ16
import Derived.Lib.SplitLaws
import Derived.Lib.IndexLaws
/- Contracts: which value a word is, by the reference. -/
namespace Go.Proofs.YtfekohonidggjaaGreatDoor
open Go.RowKit

def readP (o : Option V) : Value := match o with
  | some v => .tuple #[v.agg, .int .i64 0]
  | none => .tuple #[.agg #[.int .u8 0, .int .i64 0, .int .u64 0, .string ⟨#[]⟩], .int .i64 310]
theorem zero_set {W : World} {n : Nat} (h : Blk W n #[.int .u8 0, .int .i64 0, .int .u64 0, .string ⟨#[]⟩] 48) :
    n < W.heap.size ∧ W.cell? ⟨n, 0, none⟩ = some (.int .u8 0) ∧ W.cell? ⟨n, 1, none⟩ = some (.int .i64 0) ∧ W.cell? ⟨n, 2, none⟩ = some (.int .u64 0) ∧ W.cell? ⟨n, 3, none⟩ = some (.string ⟨#[]⟩) ∧ (∀ i, W.frozen? ⟨n, i, none⟩ = false) ∧
      W.setCell ⟨n, 0, none⟩ (.int .u8 0) = W ∧ W.setCell ⟨n, 1, none⟩ (.int .i64 0) = W ∧ W.setCell ⟨n, 2, none⟩ (.int .u64 0) = W ∧ W.setCell ⟨n, 3, none⟩ (.string ⟨#[]⟩) = W := by
  have hS : ∀ i v, (#[.int .u8 0, .int .i64 0, .int .u64 0, .string ⟨#[]⟩] : Array Value).setIfInBounds i v = #[.int .u8 0, .int .i64 0, .int .u64 0, .string ⟨#[]⟩] → W.setCell ⟨n, i, none⟩ v = W := by
    intro i v e
    obtain ⟨w3, rfl, lt⟩ := blk_put h
    rw [(putBlk_facts (w := w3) 48 lt).2.2, e]
  obtain ⟨_, y0, y1, y2, y3⟩ := mk4 h
  exact ⟨h.lt, y0, y1, y2, y3, h.frozen, hS 0 _ rfl, hS 1 _ rfl, hS 2 _ rfl, hS 3 _ rfl⟩
end Go.Proofs.YtfekohonidggjaaGreatDoor

/- Contracts: a reading that may end, caught; ReadValue. -/
namespace Go.Proofs.YtfekohonidggjaaGreatDoor
open Go.RowKit

set_option maxRecDepth 100000 in
theorem scaught_idle (p : Addr) (w : World) :
    CallsD Tryz.prog 77 #[.pointer (some p)] .returning w fun e u' w' => e = .returned (.tuple #[]) ∧ u' = .returning ∧ w' = w := by
  refine callsD_of_wpS Tryz.func77 rfl fun c₀ cs hu => ?_
  have he : ∀ w : World, (binOp .eql 20 .nilIface .nilIface).run Tryz.prog w = .ok (.bool true) w := fun _ => by kernel_rfl
  apply wpS_seq
  apply wpS_region
  simp [wpOpsS, go_sem, recoverD, hu, Tryz.ntmps77, Exit.thenS]
  refine wpS_of_wp ?_
  go_wp2
  cases c₀
  simp_all [bodyPostS, results, Tryz.results77]
theorem run_eql_wrong (w : World) : (binOp .eql 20 (.iface 126 (.agg #[])) (.iface 126 (.agg #[]))).run Tryz.prog w = .ok (.bool true) w := by kernel_rfl
set_option maxRecDepth 100000 in
theorem scaught_up (p : Addr) (x : Bool) (older : List PanicEntry) (w : World) (hc : w.cell? p = some (.bool x)) (hz : w.frozen? p = false) :
    CallsD Tryz.prog 77 #[.pointer (some p)] (.panicking ({ v := .iface 126 (.agg #[]), recovered := false } :: older)) w fun e u' w' =>
      e = .returned (.tuple #[]) ∧ u' = .panicking ({ v := .iface 126 (.agg #[]), recovered := true } :: older) ∧ w' = w.setCell p (.bool true) := by
  have he : ∀ w : World, (binOp .eql 20 (.iface 126 (.agg #[])) .nilIface).run Tryz.prog w = .ok (.bool false) w := fun w => run_eql_held_nil w _ _ _ (by kernel_rfl)
  have ht := run_eql_wrong
  refine callsD_of_wpS Tryz.func77 rfl fun c₀ cs hu => ?_
  apply wpS_seq
  apply wpS_region
  simp [wpOpsS, go_sem, recoverD, hu, Tryz.ntmps77, Exit.thenS]
  refine wpS_of_wp ?_
  have HU := Lib.hid hu
  clear hu
  generalize hQ : (fun e a' w' => bodyPostS Tryz.prog Tryz.f77 c₀ cs _ e a' _ w') = Q
  have HQ := Lib.hid hQ
  clear hQ
  go_wp2
  rw [← HQ.out]
  simp [bodyPostS, results, Tryz.results77]
/-- What a closure that may end leaves: it returned, or it ended. -/
def mayEnd (b : Nat) (Q : Ending → World → Prop) : Prop := ∀ r w', Q r w' → (r = .returned (.tuple #[]) ∨ r = gaveW) ∧ Blk w' b #[.bool false] 4
def caughtP (b : Nat) (Q : Ending → World → Prop) (r : Ending) (w' : World) : Prop :=
  ∃ w1, (Q (.returned (.tuple #[])) w1 ∧ r = .returned (.bool false) ∧ w' = w1) ∨ (Q gaveW w1 ∧ r = .returned (.bool true) ∧ w' = putBlk w1 b #[.bool true] 4)
theorem blk1c {w : World} {b : Nat} {v : Value} {t : TypeId} (h : Blk w b #[v] t) : w.cell? ⟨b, 0, none⟩ = some v ∧ w.frozen? ⟨b, 0, none⟩ = false ∧ b < w.heap.size := ⟨by have := h.cell 0; simpa using this, h.frozen 0, h.lt⟩
theorem putputS (w : World) (b : Nat) (cs ds : Array Value) (t u : TypeId) : putBlk (putBlk w b cs t) b ds u = putBlk w b ds u := by unfold putBlk; simp
theorem cell_same {w : World} {b : Nat} {v : Value} {t : TypeId} (h : Blk w b #[v] t) : w.setCell ⟨b, 0, none⟩ v = w := by
  obtain ⟨w3, rfl, lt⟩ := blk_put h
  rw [(putBlk_facts (w := w3) t lt).2.2]
  rfl
theorem cell_put {w : World} {b : Nat} {v u : Value} {t : TypeId} (h : Blk w b #[v] t) : w.setCell ⟨b, 0, none⟩ u = putBlk w b #[u] t := by
  obtain ⟨w3, rfl, lt⟩ := blk_put h
  rw [(putBlk_facts (w := w3) t lt).2.2, putputS]
  rfl
set_option maxRecDepth 100000 in
theorem caught_rv (c1 c2 : Value) (w : World) (Q : Ending → World → Prop) (hcall : Calls Tryz.prog 56 #[c1, c2] (w.alloc (.cells #[.bool false] 4)) Q) (hQ : mayEnd w.heap.size Q) :
    Calls Tryz.prog 38 #[.func (Fn.func 56) #[] #[c1, c2]] w (caughtP w.heap.size Q) := by
  have HC := Lib.hid hcall
  have HQ := Lib.hid hQ
  clear hcall hQ
  go_enter_defers Tryz.func38, Tryz.ntmps38
  go_wp2_with fail
  refine HC.out.mono ?_
  intro r w1 hq
  obtain ⟨hr, hB⟩ := HQ.out r w1 hq
  obtain ⟨b0, b1, b2⟩ := blk1c hB
  have hsame := cell_same hB
  rcases hr with rfl | rfl
  · have HQQ := Lib.hid hq
    have HBB := Lib.hid hB
    clear hq hB
    go_wp2_with fail
    refine leaves_cons (f := 77) (args := #[.pointer (some ⟨w.heap.size, 0, none⟩)]) (by simp) (by simp [go_sem]) ?_
    refine (scaught_idle ⟨w.heap.size, 0, none⟩ _).mono ?_
    rintro e u' w'' ⟨rfl, rfl, rfl⟩
    simp [Leaves, settle, results, Tryz.results38, go_sem, b0]
    exact ⟨_, Or.inl ⟨HQQ.out, rfl, rfl⟩⟩
  · have HQQ := Lib.hid hq
    have HBB := Lib.hid hB
    clear hq hB hsame
    unfold gaveW
    refine leaves_cons (f := 77) (args := #[.pointer (some ⟨w.heap.size, 0, none⟩)]) (by simp) (by simp [go_sem]) ?_
    refine (scaught_up ⟨w.heap.size, 0, none⟩ false [] _ b0 b1).mono ?_
    rintro e u' w'' ⟨rfl, rfl, rfl⟩
    rw [cell_put HBB.out]
    have pc := (putBlk_facts (w := w1) 4 b2).1
    simp [Leaves, settle, results, Tryz.results38, go_sem, pc]
    exact ⟨_, Or.inr ⟨HQQ.out, rfl, rfl⟩⟩
set_option maxRecDepth 100000 in
theorem caught_ra (c1 c2 : Value) (w : World) (Q : Ending → World → Prop) (hcall : Calls Tryz.prog 51 #[c1, c2] (w.alloc (.cells #[.bool false] 4)) Q) (hQ : mayEnd w.heap.size Q) :
    Calls Tryz.prog 38 #[.func (Fn.func 51) #[] #[c1, c2]] w (caughtP w.heap.size Q) := by
  have HC := Lib.hid hcall
  have HQ := Lib.hid hQ
  clear hcall hQ
  go_enter_defers Tryz.func38, Tryz.ntmps38
  go_wp2_with fail
  refine HC.out.mono ?_
  intro r w1 hq
  obtain ⟨hr, hB⟩ := HQ.out r w1 hq
  obtain ⟨b0, b1, b2⟩ := blk1c hB
  have hsame := cell_same hB
  rcases hr with rfl | rfl
  · have HQQ := Lib.hid hq
    have HBB := Lib.hid hB
    clear hq hB
    go_wp2_with fail
    refine leaves_cons (f := 77) (args := #[.pointer (some ⟨w.heap.size, 0, none⟩)]) (by simp) (by simp [go_sem]) ?_
    refine (scaught_idle ⟨w.heap.size, 0, none⟩ _).mono ?_
    rintro e u' w'' ⟨rfl, rfl, rfl⟩
    simp [Leaves, settle, results, Tryz.results38, go_sem, b0]
    exact ⟨_, Or.inl ⟨HQQ.out, rfl, rfl⟩⟩
  · have HQQ := Lib.hid hq
    have HBB := Lib.hid hB
    clear hq hB hsame
    unfold gaveW
    refine leaves_cons (f := 77) (args := #[.pointer (some ⟨w.heap.size, 0, none⟩)]) (by simp) (by simp [go_sem]) ?_
    refine (scaught_up ⟨w.heap.size, 0, none⟩ false [] _ b0 b1).mono ?_
    rintro e u' w'' ⟨rfl, rfl, rfl⟩
    rw [cell_put HBB.out]
    have pc := (putBlk_facts (w := w1) 4 b2).1
    simp [Leaves, settle, results, Tryz.results38, go_sem, pc]
    exact ⟨_, Or.inr ⟨HQQ.out, rfl, rfl⟩⟩
set_option maxRecDepth 100000 in
theorem caught_act (c1 c2 : Value) (w : World) (Q : Ending → World → Prop) (hcall : Calls Tryz.prog 39 #[c1, c2] (w.alloc (.cells #[.bool false] 4)) Q) (hQ : mayEnd w.heap.size Q) :
    Calls Tryz.prog 38 #[.func (Fn.func 39) #[] #[c1, c2]] w (caughtP w.heap.size Q) := by
  have HC := Lib.hid hcall
  have HQ := Lib.hid hQ
  clear hcall hQ
  go_enter_defers Tryz.func38, Tryz.ntmps38
  go_wp2_with fail
  refine HC.out.mono ?_
  intro r w1 hq
  obtain ⟨hr, hB⟩ := HQ.out r w1 hq
  obtain ⟨b0, b1, b2⟩ := blk1c hB
  have hsame := cell_same hB
  rcases hr with rfl | rfl
  · have HQQ := Lib.hid hq
    have HBB := Lib.hid hB
    clear hq hB
    go_wp2_with fail
    refine leaves_cons (f := 77) (args := #[.pointer (some ⟨w.heap.size, 0, none⟩)]) (by simp) (by simp [go_sem]) ?_
    refine (scaught_idle ⟨w.heap.size, 0, none⟩ _).mono ?_
    rintro e u' w'' ⟨rfl, rfl, rfl⟩
    simp [Leaves, settle, results, Tryz.results38, go_sem, b0]
    exact ⟨_, Or.inl ⟨HQQ.out, rfl, rfl⟩⟩
  · have HQQ := Lib.hid hq
    have HBB := Lib.hid hB
    clear hq hB hsame
    unfold gaveW
    refine leaves_cons (f := 77) (args := #[.pointer (some ⟨w.heap.size, 0, none⟩)]) (by simp) (by simp [go_sem]) ?_
    refine (scaught_up ⟨w.heap.size, 0, none⟩ false [] _ b0 b1).mono ?_
    rintro e u' w'' ⟨rfl, rfl, rfl⟩
    rw [cell_put HBB.out]
    have pc := (putBlk_facts (w := w1) 4 b2).1
    simp [Leaves, settle, results, Tryz.results38, go_sem, pc]
    exact ⟨_, Or.inr ⟨HQQ.out, rfl, rfl⟩⟩
set_option maxRecDepth 100000 in
theorem caught_rd (c1 c2 : Value) (w : World) (Q : Ending → World → Prop) (hcall : Calls Tryz.prog 48 #[c1, c2] (w.alloc (.cells #[.bool false] 4)) Q) (hQ : mayEnd w.heap.size Q) :
    Calls Tryz.prog 38 #[.func (Fn.func 48) #[] #[c1, c2]] w (caughtP w.heap.size Q) := by
  have HC := Lib.hid hcall
  have HQ := Lib.hid hQ
  clear hcall hQ
  go_enter_defers Tryz.func38, Tryz.ntmps38
  go_wp2_with fail
  refine HC.out.mono ?_
  intro r w1 hq
  obtain ⟨hr, hB⟩ := HQ.out r w1 hq
  obtain ⟨b0, b1, b2⟩ := blk1c hB
  have hsame := cell_same hB
  rcases hr with rfl | rfl
  · have HQQ := Lib.hid hq
    have HBB := Lib.hid hB
    clear hq hB
    go_wp2_with fail
    refine leaves_cons (f := 77) (args := #[.pointer (some ⟨w.heap.size, 0, none⟩)]) (by simp) (by simp [go_sem]) ?_
    refine (scaught_idle ⟨w.heap.size, 0, none⟩ _).mono ?_
    rintro e u' w'' ⟨rfl, rfl, rfl⟩
    simp [Leaves, settle, results, Tryz.results38, go_sem, b0]
    exact ⟨_, Or.inl ⟨HQQ.out, rfl, rfl⟩⟩
  · have HQQ := Lib.hid hq
    have HBB := Lib.hid hB
    clear hq hB hsame
    unfold gaveW
    refine leaves_cons (f := 77) (args := #[.pointer (some ⟨w.heap.size, 0, none⟩)]) (by simp) (by simp [go_sem]) ?_
    refine (scaught_up ⟨w.heap.size, 0, none⟩ false [] _ b0 b1).mono ?_
    rintro e u' w'' ⟨rfl, rfl, rfl⟩
    rw [cell_put HBB.out]
    have pc := (putBlk_facts (w := w1) 4 b2).1
    simp [Leaves, settle, results, Tryz.results38, go_sem, pc]
    exact ⟨_, Or.inr ⟨HQQ.out, rfl, rfl⟩⟩
end Go.Proofs.YtfekohonidggjaaGreatDoor

/- Contracts: ReadValue by the program. -/
namespace Go.Proofs.YtfekohonidggjaaGreatDoor
open Go.RowKit

def RvQ (l : List UInt8) (b : Nat) (W : World) (r : Ending) (w' : World) : Prop :=
  (∃ v w1, readV l = some v ∧ r = .returned (.tuple #[]) ∧ Below W.heap.size W w1 ∧ w' = putBlk w1 b #[.int .u8 v.k, .int .i64 v.n, .int .u64 v.r, .string v.t] 48) ∨ (readV l = none ∧ r = gaveW ∧ Below W.heap.size W w')
set_option maxRecDepth 100000 in
set_option maxHeartbeats 800000 in
theorem rvdo_any (s : ByteArray) (hs : s.size ≤ 35184372088832) (a b : Nat) (W : World) (hL : LayS W) (ha : Blk W a #[.string s] 9) (hb : Blk W b #[.int .u8 0, .int .i64 0, .int .u64 0, .string ⟨#[]⟩] 48) :
    Calls Tryz.prog 56 #[.pointer (some ⟨a, 0, none⟩), .pointer (some ⟨b, 0, none⟩)] W (RvQ s.data.toList b W) := by
  have HRV := Lib.hid (readValue_any s hs W hL)
  obtain ⟨y0, y1, y2⟩ := blk1c ha
  have HB := Lib.hid hb
  clear hL hb
  go_enter Tryz.func56, Tryz.ntmps56
  go_wp2_with fail
  cases hr : readV s.data.toList with
  | none =>
    rw [hr] at HRV
    have HR := Lib.hid hr
    clear hr
    refine HRV.out.mono ?_
    rintro q w1 ⟨rfl, hb1⟩
    simp only [Option.map_none, orGave, gaveW]
    go_wp2_with fail
    exact ⟨rfl, Or.inr ⟨HR.out, rfl, hb1⟩⟩
  | some v =>
    rw [hr] at HRV
    have HR := Lib.hid hr
    clear hr
    refine HRV.out.mono ?_
    rintro q w1 ⟨rfl, hb1⟩
    simp only [Option.map_some, orGave, V.agg]
    have hB1 := HB.out.ext hb1
    obtain ⟨w3, rfl, lt⟩ := blk_put hB1
    obtain ⟨pc, pf, pS⟩ := putBlk_facts (w := w3) 48 lt
    have HB1 := Lib.hid hb1
    clear hb1 hB1
    go_wp2_with fail
    go_end0
    exact Or.inl ⟨v, _, HR.out, rfl, HB1.out, by rw [putputS]⟩
theorem RvQ_end {l : List UInt8} {b n : Nat} {W : World} (hn : Blk W n #[.bool false] 4) (hne : n ≠ b) : mayEnd n (RvQ l b W) := by
  rintro r w' (⟨v, w1, _, rfl, hb, rfl⟩ | ⟨_, rfl, hb⟩)
  · exact ⟨Or.inl rfl, putBlk_ne (hn.ext hb) hne⟩
  · exact ⟨Or.inr rfl, hn.ext hb⟩
set_option maxRecDepth 100000 in
set_option maxHeartbeats 1600000 in
theorem scriptReadValue_any (s : ByteArray) (hs : s.size ≤ 35184372088832) (w : World) (hL : LayS w) :
    Calls Tryz.prog 21 #[.string s] w fun r w' => r = .returned (readP (readV s.data.toList)) ∧ Below w.heap.size w w' := by
  have hA : Below w.heap.size w ((w.alloc (.cells #[.string s] 9)).alloc (.cells #[.int .u8 0, .int .i64 0, .int .u64 0, .string ⟨#[]⟩] 48)) := (by repeat (first | exact Below.refl _ _ | assumption | refine Below.drew ?_ | refine below_drewN ?_ _ | refine Below.alloc ?_ (by simp <;> omega) _))
  have hS : Blk ((w.alloc (.cells #[.string s] 9)).alloc (.cells #[.int .u8 0, .int .i64 0, .int .u64 0, .string ⟨#[]⟩] 48)) w.heap.size #[.string s] 9 := (by repeat (first | exact Blk.at (by simp) | assumption | refine Blk.drew ?_ | refine Blk.old ?_ _))
  have hV : Blk ((w.alloc (.cells #[.string s] 9)).alloc (.cells #[.int .u8 0, .int .i64 0, .int .u64 0, .string ⟨#[]⟩] 48)) (w.heap.size + 1) #[.int .u8 0, .int .i64 0, .int .u64 0, .string ⟨#[]⟩] 48 := (by repeat (first | exact Blk.at (by simp) | assumption | refine Blk.drew ?_ | refine Blk.old ?_ _))
  have hsz : ((w.alloc (.cells #[.string s] 9)).alloc (.cells #[.int .u8 0, .int .i64 0, .int .u64 0, .string ⟨#[]⟩] 48)).heap.size = w.heap.size + 2 := by simp
  generalize hW : (w.alloc (.cells #[.string s] 9)).alloc (.cells #[.int .u8 0, .int .i64 0, .int .u64 0, .string ⟨#[]⟩] 48) = W at hA hS hV hsz
  have hb3 : Below W.heap.size W (W.alloc (.cells #[.bool false] 4)) := (by repeat (first | exact Below.refl _ _ | assumption | refine Below.drew ?_ | refine below_drewN ?_ _ | refine Below.alloc ?_ (by simp <;> omega) _))
  have hn3 := Blk.new W #[.bool false] 4
  have HCA := Lib.hid (caught_rv (.pointer (some ⟨w.heap.size, 0, none⟩)) (.pointer (some ⟨w.heap.size + 1, 0, none⟩)) W _ (rvdo_any s hs w.heap.size (w.heap.size + 1) (W.alloc (.cells #[.bool false] 4)) ((hL.ext hA).ext hb3) (hS.ext hb3) (hV.ext hb3)) (RvQ_end hn3 (by omega)))
  have HV := Lib.hid (hV.ext hb3)
  have HSZ := Lib.hid hsz
  have HA := Lib.hid hA
  have HB3 := Lib.hid hb3
  have HN3 := Lib.hid hn3
  clear hA hS hV hsz hL hb3 hn3
  go_enter Tryz.func21, Tryz.ntmps21
  go_wp2_with fail
  clear hW
  refine HCA.out.mono ?_
  rintro r w1 ⟨w4, ⟨hq, rfl, rfl⟩ | ⟨hq, rfl, rfl⟩⟩
  · rcases hq with ⟨v, w5, hr, _, hb, rfl⟩ | ⟨_, h, _⟩
    · have hv5 := HV.out.ext hb
      obtain ⟨pc, pf, pS⟩ := putBlk_facts (w := w5) 48 hv5.lt
      have hBB : Below w.heap.size w (putBlk w5 (w.heap.size + 1) #[.int .u8 v.k, .int .i64 v.n, .int .u64 v.r, .string v.t] 48) := putBlk_below _ _ (bt HA.out (bt HB3.out hb)) (by omega)
      have HR := Lib.hid hr
      have HBB := Lib.hid hBB
      have l5 := hv5.lt
      clear hr hBB hb hv5
      go_wp2_with fail
      refine bodyPost_ret (v := .tuple #[V.agg v, .int .i64 0]) (by simp [results, Tryz.results21, go_sem, pc, V.agg]) rfl ?_
      exact ⟨by rw [HR.out]; rfl, HBB.out⟩
    · cases h
  · rcases hq with ⟨v, w5, _, h, _⟩ | ⟨hr, _, hb⟩
    · cases h
    · have hv5 := HV.out.ext hb
      have HR := Lib.hid hr
      have hz := putBlk_ne (cs := #[.bool true]) (t := 4) (b := W.heap.size) hv5 (by rw [HSZ.out]; omega)
      have hBB : Below w.heap.size w (putBlk w4 W.heap.size #[.bool true] 4) := putBlk_below _ _ (bt HA.out (bt HB3.out hb)) (by rw [HSZ.out]; omega)
      have HBB := Lib.hid hBB
      obtain ⟨zl, zc0, zc1, zc2, zc3, zf, zs0, zs1, zs2, zs3⟩ := zero_set hz
      clear hr hBB hb hv5 hz
      go_wp2_with fail
      refine bodyPost_ret (v := .tuple #[.agg #[.int .u8 0, .int .i64 0, .int .u64 0, .string ⟨#[]⟩], .int .i64 310]) (by simp [results, Tryz.results21, go_sem, zc0, zc1, zc2, zc3]) rfl ?_
      exact ⟨by rw [HR.out]; rfl, HBB.out⟩
end Go.Proofs.YtfekohonidggjaaGreatDoor

/- Contracts: words of a line, by the program. -/
namespace Go.Proofs.YtfekohonidggjaaGreatDoor
open Go.RowKit

theorem indexB_one (s : ByteArray) (b : UInt8) : Lib.indexB s ⟨#[b]⟩ = Lib.indexByte s.data.toList b := Lib.index_one s.data.toList b
theorem split_sp (b : UInt8) : ∀ (k : Nat) (s : ByteArray), Lib.countB s ⟨#[b]⟩ = k → (Lib.splitB ⟨#[b]⟩ 0 k s).map (·.data.toList) = spW b s.data.toList
  | 0, s, h => by
    have hn : b ∉ s.data.toList := by
      rcases Lib.indexB_cases s ⟨#[b]⟩ with hx | ⟨i, hx, _⟩
      · rw [indexB_one] at hx
        intro hm
        obtain ⟨j, hj, e⟩ := List.getElem_of_mem hm
        exact Lib.indexByte_none hx j (by rw [List.getElem?_eq_getElem hj, e])
      · rw [Lib.countB_hit s ⟨#[b]⟩ i (Nat.le_refl 1) hx] at h; omega
    rw [Lib.splitB_zero, sp_one b _ hn]
    rfl
  | k + 1, s, h => by
    rcases Lib.indexB_cases s ⟨#[b]⟩ with hx | ⟨i, hx, hr⟩
    · rw [Lib.countB_miss s _ hx] at h; omega
    · have h1 := Lib.countB_hit s ⟨#[b]⟩ i (Nat.le_refl 1) hx
      have hsz : (⟨#[b]⟩ : ByteArray).size = 1 := rfl
      rw [hsz] at h1 hr
      rw [Lib.splitB_hit _ 0 k s i hx, hsz, List.map_cons, split_sp b k (s.extract (i + 1) s.size) (by omega)]
      rw [indexB_one] at hx
      obtain ⟨h2, h3⟩ := Lib.indexByte_some hx
      have hlen : s.data.toList.length = s.size := by simp
      have e1 : (s.extract 0 (i + 0)).data.toList = s.data.toList.take i := by
        have := Lib.extract_toList s 0 (i + 0)
        rw [Lib.toList_data] at this
        rw [this]; rfl
      have e2 : (s.extract (i + 1) s.size).data.toList = s.data.toList.drop (i + 1) := by
        have := Lib.extract_toList s (i + 1) s.size
        rw [Lib.toList_data] at this
        rw [this]
        exact List.take_of_length_le (by simp)
      have hsp : s.data.toList = s.data.toList.take i ++ b :: s.data.toList.drop (i + 1) := by
        obtain ⟨hi, e⟩ := List.getElem?_eq_some_iff.1 h2
        rw [← e, List.getElem_cons_drop, List.take_append_drop]
      rw [e1, e2]
      conv => rhs; rw [hsp]
      rw [sp_app b]
      intro hm
      obtain ⟨j, hj, e⟩ := List.getElem_of_mem hm
      have hj' : j < i := by simp at hj; omega
      refine h3 j hj' ?_
      rw [List.getElem_take] at e
      rw [List.getElem?_eq_getElem (by omega), e]
theorem count_sp (b : UInt8) (s : ByteArray) : (spW b s.data.toList).length = Lib.countB s ⟨#[b]⟩ + 1 := by
  rw [← split_sp b _ s rfl, List.length_map]
  exact Lib.splitB_all ⟨#[b]⟩ (Nat.le_refl 1) 0 _ s rfl
/-- Words in memory: their slice at block g. -/
def WRow (w : World) (g : Nat) (ws : List (List UInt8)) : Prop := Blk w g ((ws.map fun x => Value.string (bsO x)).toArray) 9
theorem split_cells (b : UInt8) (s : ByteArray) : ((Lib.splitB ⟨#[b]⟩ 0 (Lib.countB s ⟨#[b]⟩) s).map Value.string).toArray = ((spW b s.data.toList).map fun x => Value.string (bsO x)).toArray := by
  rw [← split_sp b _ s rfl, List.map_map]
  rfl
theorem WRow.ext {w w' : World} {g : Nat} {ws : List (List UInt8)} (h : WRow w g ws) (hb : Below w.heap.size w w') : WRow w' g ws := Blk.ext h hb
theorem WRow.at_ {w : World} {g : Nat} {ws : List (List UInt8)} (h : WRow w g ws) {j : Nat} {x : List UInt8} (hj : ws[j]? = some x) : w.cell? ⟨g, j, none⟩ = some (.string (bsO x)) := by
  have := Blk.cell h j
  rw [this]
  simp [hj]
theorem mem_bsO {ws : List (List UInt8)} : (bsO [] ∈ ws.map bsO) ↔ ([] ∈ ws) := by
  rw [List.mem_map]
  exact ⟨fun ⟨x, h, e⟩ => by rw [← bsO_inj e]; exact h, fun h => ⟨[], h, rfl⟩⟩
def WordsP (o : Option (List (List UInt8))) (w : World) (r : Ending) (w' : World) : Prop := match o with
  | some ws => ∃ g, r = .returned (.slice (some ⟨g, 0, none⟩) ws.length ws.length) ∧ WRow w' g ws ∧ w.heap.size ≤ g
  | none => r = gaveW
set_option maxRecDepth 100000 in
set_option maxHeartbeats 1600000 in
theorem words_any (s : ByteArray) (hs : s.size < 4294967281) (w : World) (hL : LayS w) :
    Calls Tryz.prog 93 #[.string s] w fun r w' => WordsP (wordsF s.data.toList) w r w' ∧ Below w.heap.size w w' := by
  obtain ⟨m, hm⟩ := hL.ml
  have hsp := Tryz.strings_Split s ⟨#[32]⟩ m w hs hm (by decide)
  rw [split_cells, ← count_sp] at hsp
  have HSP := Lib.hid hsp
  generalize hws : spW 32 s.data.toList = ws at HSP
  have hrow : WRow (w.alloc (.cells ((ws.map fun x => Value.string (bsO x)).toArray) 9)) w.heap.size ws := Blk.new _ _ _
  have hbel : Below w.heap.size w (w.alloc (.cells ((ws.map fun x => Value.string (bsO x)).toArray) 9)) := (by repeat (first | exact Below.refl _ _ | assumption | refine Below.drew ?_ | refine below_drewN ?_ _ | refine Below.alloc ?_ (by simp <;> omega) _))
  generalize hW : w.alloc (.cells ((ws.map fun x => Value.string (bsO x)).toArray) 9) = W at HSP hrow hbel
  have hct := Tryz.slices_Contains_string w.heap.size 0 ws.length ws.length (ws.map bsO) ⟨#[]⟩ W (by simp) (by
    have h1 : ws.length ≤ s.size + 1 := by
      rw [← hws, count_sp]
      have := Lib.countB_le ⟨#[32]⟩ (by decide) s.size s (Nat.le_refl _)
      omega
    omega) (fun j hj => by
      rw [List.length_map] at hj
      rw [Nat.zero_add, hrow.at_ (List.getElem?_eq_getElem hj), List.getD_eq_getElem?_getD, List.getElem?_map, List.getElem?_eq_getElem hj]
      rfl)
  rw [List.take_of_length_le (by simp)] at hct
  have HCT := Lib.hid hct
  have HROW := Lib.hid hrow
  have HBEL := Lib.hid hbel
  have HWS := Lib.hid hws
  clear hsp hrow hbel hct hL hm hws hW
  by_cases hin : [] ∈ ws
  · have hc : Lib.containsS (ws.map bsO) ⟨#[]⟩ = true := (Lib.containsS_iff _ _).2 (mem_bsO.2 hin)
    have hF : wordsF s.data.toList = none := by unfold wordsF; rw [HWS.out, if_pos hin]
    have HF := Lib.hid hF
    rw [hc] at HCT
    clear hin hc hF
    go_enter Tryz.func93, Tryz.ntmps93
    go_wp2_with fail
    refine HSP.out.mono ?_
    rintro r w1 ⟨rfl, rfl⟩
    go_wp2_with fail
    refine HCT.out.mono ?_
    rintro r w2 ⟨rfl, rfl⟩
    go_wp2_with fail
    refine (need_no _).mono ?_
    rintro r w2 ⟨rfl, rfl⟩
    unfold gaveW
    go_wp2_with fail
    exact ⟨rfl, by rw [HF.out]; rfl, HBEL.out⟩
  · have hc : Lib.containsS (ws.map bsO) ⟨#[]⟩ = false := Bool.eq_false_iff.2 fun h => hin (mem_bsO.1 ((Lib.containsS_iff _ _).1 h))
    have hF : wordsF s.data.toList = some ws := by unfold wordsF; rw [HWS.out, if_neg hin]
    have HF := Lib.hid hF
    rw [hc] at HCT
    clear hin hc hF
    go_enter Tryz.func93, Tryz.ntmps93
    go_wp2_with fail
    refine HSP.out.mono ?_
    rintro r w1 ⟨rfl, rfl⟩
    go_wp2_with fail
    refine HCT.out.mono ?_
    rintro r w2 ⟨rfl, rfl⟩
    go_wp2_with fail
    refine (need_yes _).mono ?_
    rintro r w2 ⟨rfl, rfl⟩
    go_wp2_with fail
    go_ret
    exact ⟨by rw [HF.out]; exact ⟨_, rfl, HROW.out, Nat.le_refl _⟩, HBEL.out⟩
end Go.Proofs.YtfekohonidggjaaGreatDoor

/- Contracts: words of a line and their joining, by the reference. -/
namespace Go.Proofs.YtfekohonidggjaaGreatDoor
open Go.RowKit

theorem info_txt : (Tryz.prog.info? 9).map (fun i => (i.zero, i.size, i.bytes)) = some (some (.string ByteArray.empty), 1, 16) := by kernel_rfl
def wsC (ws : List (List UInt8)) : List Value := ws.map fun x => Value.string (bsO x)
end Go.Proofs.YtfekohonidggjaaGreatDoor
