/- Contracts: names.all; the closure that recovers. -/
import Derived.Test.YtjcaejdokillgaaWalkC5
import Derived.Defers
import Derived.Recover
namespace Go.Proofs.Ytjcaejdokillgaa
open Go.RowKit Go.Shelf

/-- is a literal of something that was met? -/
def knownV (ks : List Int) (l : Int) : Bool := decide (0 ≤ l) && (decide (l < 2) || ks.contains (PC.varOf l))

theorem knownV_eq (ks : List Int) (l : Int) : knownV ks l = PC.knownP ks l := by
  unfold knownV PC.knownP
  by_cases h : 0 ≤ l
  · have e : (PC.varOf l : Int) = l / 2 := by unfold PC.varOf; omega
    rw [e]
  · simp [h]

theorem enters_call1 : ∀ args w, (callFunc 57 args).run Try.prog w = .ok (.enter 57 args) w := enters_of Try.func57 (by kernel_rfl) rfl

set_option maxHeartbeats 1000000 in
theorem call1_any (ks : List Int) (l : Int) (p b q : Nat) (w : World) (hl : rng l) (h : Names w p b ks) (hq : w.cell? ⟨q, 0, none⟩ = some (.pointer (some ⟨p, 0, none⟩))) :
    Calls Try.prog 57 (#[.int .i64 l] ++ #[.pointer (some ⟨q, 0, none⟩)]) w fun e w' => e = .returned (.bool (!PC.knownP ks l)) ∧ Below w.heap.size w w' := by
  rw [← knownV_eq]
  have hk := cknown_any ks l p b w hl h
  change Calls _ _ _ _ fun e w' => e = .returned (.bool (knownV ks l)) ∧ Below w.heap.size w w' at hk
  generalize knownV ks l = R at *
  show Calls Try.prog 57 #[.int .i64 l, .pointer (some ⟨q, 0, none⟩)] w _
  go_enter Try.func57, Try.ntmps57
  go_wp2_with (go_at_call 41; refine (hk).mono ?_; rintro e w1 ⟨rfl, hb1⟩)
  go_ret
  exact ⟨rfl, hb1⟩

set_option maxHeartbeats 1000000 in
theorem call_any (ks : List Int) (l : List Int) (v : Value) (p b : Nat) (w : World) (hv : Ints w v l) (h : Names w p b ks) :
    Calls Try.prog 42 #[.pointer (some ⟨p, 0, none⟩), v] w fun e w' => e = .returned (.bool (l.all (PC.knownP ks))) ∧ Below w.heap.size w w' := by
  have hmf : ∀ (fn : Fn) (first cap : Array Value) (w : World), (Instr.makeFunc fn first cap).run Try.prog w = .ok (.func fn first cap) w := fun _ _ _ _ => rfl
  have hbw : Below w.heap.size w (w.alloc (.cells #[.pointer (some ⟨p, 0, none⟩)] 81)) := (Below.refl _ _).alloc (Nat.le_refl _) _
  have hq : (w.alloc (.cells #[.pointer (some ⟨p, 0, none⟩)] 81)).cell? ⟨w.heap.size, 0, none⟩ = some (.pointer (some ⟨p, 0, none⟩)) := World.cell?_alloc_mark _ _ _ _ _
  have hC := ContainsFuncI_any (fun x => !PC.knownP ks x) 57 #[.pointer (some ⟨w.heap.size, 0, none⟩)] _ enters_call1
    (fun x w1 hx hb => call1_any ks x p b w.heap.size w1 hx ((h.mono hbw).mono hb) ((hb.cell (World.block_lt_of_cell? _ _ hq)).trans hq)) l v (hv.mono hbw)
  have e : l.all (PC.knownP ks) = !l.any (fun x => !PC.knownP ks x) := by
    rw [List.any_eq_not_all_not, Bool.not_not]; simp
  rw [e]
  generalize l.any (fun x => !PC.knownP ks x) = R at *
  have hC := Lib.hid hC
  clear hq hbw
  go_enter Try.func42, Try.ntmps42
  go_wp2_with (go_at_call 56; refine (hC.out).mono ?_; rintro e w1 ⟨rfl, hb1⟩)
  go_ret
  exact ⟨rfl, below1 hb1⟩

end Go.Proofs.Ytjcaejdokillgaa
