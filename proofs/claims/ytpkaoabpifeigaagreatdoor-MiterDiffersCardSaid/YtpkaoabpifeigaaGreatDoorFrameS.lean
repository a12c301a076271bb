/- What a list of texts among the arguments reads as. -/
import Derived.Test.YtpkaoabpifeigaaGreatDoorFrameC4
namespace Go.Proofs.YtpkaoabpifeigaaGreatDoor
open Go.ChangeShapes Go.WideShapes Go.RowKit

theorem cells_strs : Tryz.prog.cellsOf 40 = 1 := by kernel_rfl
theorem bytes_string : Tryz.prog.bytesOf 9 = 16 := by kernel_rfl

section
variable {H : Type} {enc : TypeId × Value → H} {w : World} {spare : Nat → Bool} {held : Bool}
theorem tr_strs {n : Nat} {cs : List Value} {x : DataW H × List MemPlace} (h : DataW.trod enc Tryz.prog w 0 spare held n 40 cs = some x) :
    ∃ v l, cs = [v] ∧ Strs w v l ∧ ∀ B, Wt Tryz.prog B 40 x.1 → l.length * 16 ≤ B := by
  obtain ⟨v, ys, rfl, hc, hB, hok⟩ := tr_slice (α := List UInt8) Tryz.underlying40 cells_string (by decide) (fun y => [.string ⟨y.toArray⟩]) (fun y _ => y.length ≤ 9223372036854775807) (fun _ => rfl)
    (fun n cs' x' h' => tr_string h') h block_lt
  refine ⟨v, ys, rfl, ⟨?_, fun y hy => (hok y hy).choose_spec⟩, fun B hb => ?_⟩
  · rw [flat1] at hc
    exact hc
  · have := (hB B hb).1
    rw [bytes_string] at this
    exact this
end

end Go.Proofs.YtpkaoabpifeigaaGreatDoor
