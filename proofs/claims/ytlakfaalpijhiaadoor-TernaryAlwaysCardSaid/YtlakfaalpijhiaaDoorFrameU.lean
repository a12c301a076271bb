/- What a list of numbers without a sign among the arguments reads as. -/
import Derived.Test.YtlakfaalpijhiaaDoorFrameC4
import Derived.Test.YtlakfaalpijhiaaDoorWalkYR
namespace Go.Proofs.YtlakfaalpijhiaaDoor
open Go.ChangeShapes Go.WideShapes Go.RowKit

theorem cells_u64 : Tryd.prog.cellsOf 28 = 1 := by kernel_rfl

section
variable {H : Type} {enc : TypeId × Value → H} {w : World} {spare : Nat → Bool} {held : Bool}

theorem tr_u64 {n : Nat} {cs : List Value} {x : DataW H × List MemPlace} (h : DataW.trod enc Tryd.prog w 0 spare held n 28 cs = some x) : ∃ y, cs = [.int .u64 y] ∧ (0 ≤ y ∧ y ≤ 18446744073709551615) := by
  obtain ⟨y, rfl, _, hw⟩ := DataW.trod_int Tryd.underlying28 h
  exact ⟨y, rfl, bounds_u64 hw⟩

theorem tr_u64s {n : Nat} {cs : List Value} {x : DataW H × List MemPlace} (h : DataW.trod enc Tryd.prog w 0 spare held n 48 cs = some x) : ∃ v l, cs = [v] ∧ U64s w v l ∧ True := by
  obtain ⟨v, ys, rfl, hc, hB, hok⟩ := tr_slice (α := Int) Tryd.underlying48 cells_u64 (by decide) (fun y => [.int .u64 y]) (fun y _ => 0 ≤ y ∧ y ≤ 18446744073709551615) (fun _ => rfl)
    (fun n cs' x' h' => tr_u64 h') h block_lt
  refine ⟨v, ys, rfl, ⟨?_, fun y hy => (hok y hy).choose_spec⟩, trivial⟩
  rw [flat1] at hc
  exact hc

end
end Go.Proofs.YtlakfaalpijhiaaDoor
