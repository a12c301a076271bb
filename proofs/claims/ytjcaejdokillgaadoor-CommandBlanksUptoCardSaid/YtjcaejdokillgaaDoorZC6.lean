/- Contract: the closure that recovers. -/
import Derived.Test.YtjcaejdokillgaaDoorZC4
import Derived.Defers
import Derived.Recover
namespace Go.Proofs.YtjcaejdokillgaaDoor
open Go.RowKit Go.Shelf

/-- is a literal of something that was met? -/
def knownV (ks : List Int) (l : Int) : Bool := decide (0 ≤ l) && (decide (l < 2) || ks.contains (PC.varOf l))

theorem knownV_eq (ks : List Int) (l : Int) : knownV ks l = PC.knownP ks l := by
  unfold knownV PC.knownP
  by_cases h : 0 ≤ l
  · have e : (PC.varOf l : Int) = l / 2 := by unfold PC.varOf; omega
    rw [e]
  · simp [h]

theorem enters_call1 : ∀ args w, (callFunc 99 args).run Tryd.prog w = .ok (.enter 99 args) w := enters_of Tryd.func99 (by kernel_rfl) rfl

set_option maxHeartbeats 1000000 in
theorem call1_any (ks : List Int) (l : Int) (p b q : Nat) (w : World) (hl : rng l) (h : Names w p b ks) (hq : w.cell? ⟨q, 0, none⟩ = some (.pointer (some ⟨p, 0, none⟩))) :
    Calls Tryd.prog 99 (#[.int .i64 l] ++ #[.pointer (some ⟨q, 0, none⟩)]) w fun e w' => e = .returned (.bool (!PC.knownP ks l)) ∧ Below w.heap.size w w' := by
  rw [← knownV_eq]
  have hk := cknown_any ks l p b w hl h
  change Calls _ _ _ _ fun e w' => e = .returned (.bool (knownV ks l)) ∧ Below w.heap.size w w' at hk
  generalize knownV ks l = R at *
  show Calls Tryd.prog 99 #[.int .i64 l, .pointer (some ⟨q, 0, none⟩)] w _
  go_enter Tryd.func99, Tryd.ntmps99
  go_wp2_with (go_at_call 66; refine (hk).mono ?_; rintro e w1 ⟨rfl, hb1⟩)
  go_ret
  exact ⟨rfl, hb1⟩

set_option maxHeartbeats 1000000 in
theorem call_any (ks : List Int) (l : List Int) (v : Value) (p b : Nat) (w : World) (hv : Ints w v l) (h : Names w p b ks) :
    Calls Tryd.prog 67 #[.pointer (some ⟨p, 0, none⟩), v] w fun e w' => e = .returned (.bool (l.all (PC.knownP ks))) ∧ Below w.heap.size w w' := by
  have hmf : ∀ (fn : Fn) (first cap : Array Value) (w : World), (Instr.makeFunc fn first cap).run Tryd.prog w = .ok (.func fn first cap) w := fun _ _ _ _ => rfl
  have hbw : Below w.heap.size w (w.alloc (.cells #[.pointer (some ⟨p, 0, none⟩)] 110)) := (Below.refl _ _).alloc (Nat.le_refl _) _
  have hq : (w.alloc (.cells #[.pointer (some ⟨p, 0, none⟩)] 110)).cell? ⟨w.heap.size, 0, none⟩ = some (.pointer (some ⟨p, 0, none⟩)) := World.cell?_alloc_mark _ _ _ _ _
  have hC := ContainsFuncI_any (fun x => !PC.knownP ks x) 99 #[.pointer (some ⟨w.heap.size, 0, none⟩)] _ enters_call1
    (fun x w1 hx hb => call1_any ks x p b w.heap.size w1 hx ((h.mono hbw).mono hb) ((hb.cell (World.block_lt_of_cell? _ _ hq)).trans hq)) l v (hv.mono hbw)
  have e : l.all (PC.knownP ks) = !l.any (fun x => !PC.knownP ks x) := by
    rw [List.any_eq_not_all_not, Bool.not_not]; simp
  rw [e]
  generalize l.any (fun x => !PC.knownP ks x) = R at *
  have hC := Lib.hid hC
  clear hq hbw
  go_enter Tryd.func67, Tryd.ntmps67
  go_wp2_with (go_at_call 98; refine (hC.out).mono ?_; rintro e w1 ⟨rfl, hb1⟩)
  go_ret
  exact ⟨rfl, below1 hb1⟩

end Go.Proofs.YtjcaejdokillgaaDoor

namespace Go.Proofs.YtjcaejdokillgaaDoor
open Go.RowKit Go.Shelf

theorem ta_hit (w : World) : (Instr.typeAssert (.iface 29 (.int .i64 9)) 20 29 true).run Tryd.prog w = .ok (.tuple #[.int .i64 9, .bool true]) w := by kernel_rfl
theorem ta_nil (w : World) : (Instr.typeAssert .nilIface 20 29 true).run Tryd.prog w = .ok (.tuple #[.int .i64 0, .bool false]) w := by kernel_rfl

set_option maxRecDepth 10000 in
theorem catch_panicking (p : Addr) (x : Value) (w : World) (hc : w.cell? p = some x) (hz : w.frozen? p = false) :
    CallsD Tryd.prog 63 #[.pointer (some p)] (.panicking stChain) w fun e u' w' =>
      e = .returned (.tuple #[]) ∧ u' = .panicking [{ v := .iface 29 (.int .i64 9), recovered := true }] ∧ w' = w.setCell p (.int .i64 9) := by
  unfold stChain
  have hta := ta_hit
  refine callsD_of_wpS Tryd.func63 rfl fun c₀ cs hu => ?_
  rw [show (#[.pointer (some p)] ++ Array.replicate (Tryd.f63.ntmps - (#[Value.pointer (some p)] : Array Value).size) undef : Array Value) = #[.pointer (some p), undef, undef, undef, undef, undef, undef, undef, undef, undef] from rfl]
  apply wpS_seq
  apply wpS_region
  simp [wpOpsS, go_sem, recoverD, hu, hta, Exit.thenS]
  apply wpS_seq
  apply wpS_region
  simp [wpOpsS, go_sem, Exit.thenS]
  refine wpS_cond (t := true) (by simp [Act.eval]) ?_
  simp only [if_true]
  apply wpS_region
  simp [wpOpsS, go_sem, hc, hz, bodyPostS, results, Tryd.results63]

set_option maxRecDepth 10000 in
theorem catch_idle (p : Addr) (w : World) :
    CallsD Tryd.prog 63 #[.pointer (some p)] .returning w fun e u' w' => e = .returned (.tuple #[]) ∧ u' = .returning ∧ w' = w := by
  have hta := ta_nil
  refine callsD_of_wpS Tryd.func63 rfl fun c₀ cs hu => ?_
  rw [show (#[.pointer (some p)] ++ Array.replicate (Tryd.f63.ntmps - (#[Value.pointer (some p)] : Array Value).size) undef : Array Value) = #[.pointer (some p), undef, undef, undef, undef, undef, undef, undef, undef, undef] from rfl]
  apply wpS_seq
  apply wpS_region
  simp [wpOpsS, go_sem, recoverD, hu, hta, Exit.thenS]
  apply wpS_seq
  apply wpS_region
  simp [wpOpsS, go_sem, Exit.thenS]
  refine wpS_cond (t := false) (by simp [Act.eval]) ?_
  simp only [Bool.false_eq_true, if_false]
  refine wpS_of_wp (wp_skip ?_)
  cases c₀
  simp_all [bodyPostS, results, Tryd.results63]

end Go.Proofs.YtjcaejdokillgaaDoor
