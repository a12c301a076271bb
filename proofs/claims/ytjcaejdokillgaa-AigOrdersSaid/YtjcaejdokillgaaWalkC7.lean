/- Contract: the closure that recovers. -/
import Derived.Test.YtjcaejdokillgaaWalkC6
namespace Go.Proofs.Ytjcaejdokillgaa
open Go.RowKit Go.Shelf

theorem ta_hit (w : World) : (Instr.typeAssert (.iface 30 (.int .i64 9)) 20 30 true).run Try.prog w = .ok (.tuple #[.int .i64 9, .bool true]) w := by kernel_rfl
theorem ta_nil (w : World) : (Instr.typeAssert .nilIface 20 30 true).run Try.prog w = .ok (.tuple #[.int .i64 0, .bool false]) w := by kernel_rfl

set_option maxRecDepth 10000 in
theorem catch_panicking (p : Addr) (x : Value) (w : World) (hc : w.cell? p = some x) (hz : w.frozen? p = false) :
    CallsD Try.prog 38 #[.pointer (some p)] (.panicking stChain) w fun e u' w' =>
      e = .returned (.tuple #[]) ∧ u' = .panicking [{ v := .iface 30 (.int .i64 9), recovered := true }] ∧ w' = w.setCell p (.int .i64 9) := by
  unfold stChain
  have hta := ta_hit
  refine callsD_of_wpS Try.func38 rfl fun c₀ cs hu => ?_
  rw [show (#[.pointer (some p)] ++ Array.replicate (Try.f38.ntmps - (#[Value.pointer (some p)] : Array Value).size) undef : Array Value) = #[.pointer (some p), undef, undef, undef, undef, undef, undef, undef, undef, undef] from rfl]
  apply wpS_seq
  apply wpS_region
  simp [wpOpsS, go_sem, recoverD, hu, hta, Exit.thenS]
  apply wpS_seq
  apply wpS_region
  simp [wpOpsS, go_sem, Exit.thenS]
  refine wpS_cond (t := true) (by simp [Act.eval]) ?_
  simp only [if_true]
  apply wpS_region
  simp [wpOpsS, go_sem, hc, hz, bodyPostS, results, Try.results38]

set_option maxRecDepth 10000 in
theorem catch_idle (p : Addr) (w : World) :
    CallsD Try.prog 38 #[.pointer (some p)] .returning w fun e u' w' => e = .returned (.tuple #[]) ∧ u' = .returning ∧ w' = w := by
  have hta := ta_nil
  refine callsD_of_wpS Try.func38 rfl fun c₀ cs hu => ?_
  rw [show (#[.pointer (some p)] ++ Array.replicate (Try.f38.ntmps - (#[Value.pointer (some p)] : Array Value).size) undef : Array Value) = #[.pointer (some p), undef, undef, undef, undef, undef, undef, undef, undef, undef] from rfl]
  apply wpS_seq
  apply wpS_region
  simp [wpOpsS, go_sem, recoverD, hu, hta, Exit.thenS]
  apply wpS_seq
  apply wpS_region
  simp [wpOpsS, go_sem, Exit.thenS]
  refine wpS_cond (t := false) (by simp [Act.eval]) ?_
  simp only [Bool.false_eq_true, if_false]
  refine wpS_of_wp (wp_skip ?_)
  cases c₀
  simp_all [bodyPostS, results, Try.results38]

end Go.Proofs.Ytjcaejdokillgaa
