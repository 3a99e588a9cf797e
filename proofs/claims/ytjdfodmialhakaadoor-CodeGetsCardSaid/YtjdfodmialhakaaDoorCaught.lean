/- Contracts of the deferred call that catches a reader's giving up. -/
import Derived.Test.YtjdfodmialhakaaDoorRead5
import Derived.Defers
import Derived.Recover
import Derived.Laws.Pointers
import Derived.WideLaws
namespace Go.Proofs.YtjdfodmialhakaaDoor
open Go.RowKit

set_option maxRecDepth 100000 in
theorem caught_idle (p : Addr) (w : World) :
    CallsD Tryd.prog 100 #[.pointer (some p)] .returning w fun e u' w' => e = .returned (.tuple #[]) ∧ u' = .returning ∧ w' = w := by
  refine callsD_of_wpS Tryd.func100 rfl fun c₀ cs hu => ?_
  have he : ∀ w : World, (binOp .eql 20 .nilIface .nilIface).run Tryd.prog w = .ok (.bool true) w := fun _ => by kernel_rfl
  apply wpS_seq
  apply wpS_region
  simp [wpOpsS, go_sem, recoverD, hu, Tryd.ntmps100, Exit.thenS]
  refine wpS_of_wp ?_
  go_wp2
  cases c₀
  simp_all [bodyPostS, results, Tryd.results100]
set_option maxRecDepth 100000 in
theorem caught_up (p : Addr) (x n : Int) (older : List PanicEntry) (w : World) (hc : w.cell? p = some (.int .i64 x)) (hz : w.frozen? p = false) :
    CallsD Tryd.prog 100 #[.pointer (some p)] (.panicking ({ v := .iface 29 (.int .i64 n), recovered := false } :: older)) w fun e u' w' =>
      e = .returned (.tuple #[]) ∧ u' = .panicking ({ v := .iface 29 (.int .i64 n), recovered := true } :: older) ∧ w' = w.setCell p (.int .i64 n) := by
  have he : ∀ w : World, (binOp .eql 20 (.iface 29 (.int .i64 n)) .nilIface).run Tryd.prog w = .ok (.bool false) w := fun w => run_eql_held_nil w _ _ _ (by kernel_rfl)
  have ht : ∀ w : World, (Instr.typeAssert (.iface 29 (.int .i64 n)) 20 29 true).run Tryd.prog w = .ok (.tuple #[.int .i64 n, .bool true]) w := fun w => by
    simp [Instr.typeAssert, run_underlying Tryd.underlying29]
  refine callsD_of_wpS Tryd.func100 rfl fun c₀ cs hu => ?_
  apply wpS_seq
  apply wpS_region
  simp [wpOpsS, go_sem, recoverD, hu, Tryd.ntmps100, Exit.thenS]
  refine wpS_of_wp ?_
  have HU := Lib.hid hu
  clear hu
  generalize hQ : (fun e a' w' => bodyPostS Tryd.prog Tryd.f100 c₀ cs _ e a' _ w') = Q
  have HQ := Lib.hid hQ
  clear hQ
  rw [show (#[Value.pointer (some p)] ++ (Array.replicate 13 undef).setIfInBounds 4 (.iface 29 (.int .i64 n)) : Array Value) = #[.pointer (some p), undef, undef, undef, undef, .iface 29 (.int .i64 n), undef, undef, undef, undef, undef, undef, undef, undef] from rfl]
  go_wp2
  rw [← HQ.out]
  simp [bodyPostS, results, Tryd.results100]
end Go.Proofs.YtjdfodmialhakaaDoor
