/- Contracts of the small functions below digits: prefix, closure, ContainsFunc at bytes. -/
import Derived.Test.YtfjejjdkogfelaaDoorPlain01
import Derived.Test.YtfjejjdkogfelaaDoorLib
namespace Go.Proofs.YtfjejjdkogfelaaDoor
open Go.RowKit

set_option maxHeartbeats 400000 in
theorem form1_any (c : Int) (w : World) :
    Calls Tryd.prog 42 #[.int .u8 c] w fun e w' => e = .returned (.bool (decide (c < 48) || decide (57 < c))) ∧ w = w' := by
  by_cases h1 : c < 48
  · go_enter Tryd.func42, Tryd.ntmps42
    go_wp2
    go_ret
    exact ⟨by simp [h1], rfl⟩
  · by_cases h2 : 57 < c
    · go_enter Tryd.func42, Tryd.ntmps42
      go_wp2
      go_ret
      exact ⟨by simp, rfl⟩
    · go_enter Tryd.func42, Tryd.ntmps42
      go_wp2
      go_ret
      exact ⟨by simp [h1, h2], rfl⟩

/-- the first place at which p holds, or -1 -/
def idx {α : Type} (p : α → Bool) (l : List α) : Int := match l.findIdx? p with | some i => i | none => -1

theorem idx_nonneg {α : Type} (p : α → Bool) (l : List α) : decide (0 ≤ idx p l) = l.any p := by
  unfold idx
  cases h : l.findIdx? p with
  | none =>
    have := List.findIdx?_eq_none_iff.1 h
    simp only [Int.reduceNeg, Int.reduceLE, decide_false]
    symm
    rw [List.any_eq_false]
    intro x hx
    simpa using this x hx
  | some i =>
    have := List.findIdx?_eq_some_iff_getElem.1 h
    obtain ⟨hi, hp, _⟩ := this
    simp only [Int.natCast_nonneg, decide_true]
    symm
    rw [List.any_eq_true]
    exact ⟨_, List.getElem_mem hi, hp⟩

end Go.Proofs.YtfjejjdkogfelaaDoor
