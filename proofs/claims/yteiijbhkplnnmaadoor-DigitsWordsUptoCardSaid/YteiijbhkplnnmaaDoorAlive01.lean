/- Contracts: num and alive of interlocklaw01. -/
import Derived.Test.YteiijbhkplnnmaaDoorWalks01e
namespace Go.Proofs.YteiijbhkplnnmaaDoor.digits01
open Go.RowKit

theorem num_any (n : Int) (w : World) : Calls Tryd.prog 12 #[.int .i64 n] w fun e w' => e = .returned (.int .i64 n) ∧ w = w' := by
  go_enter Tryd.func12, Tryd.ntmps12
  go_wp2
  go_ret
  exact ⟨rfl, rfl⟩

theorem parse07 : P01.parse [48, 55] = (0, 33) := by
  have e : P01.form [48, 55] = false := by decide
  unfold P01.parse
  rw [if_pos (Or.inl (by exact e))]

theorem dec12 : P01.decI (-12) = [45, 49, 50] := by
  unfold P01.decI
  rw [if_pos (by omega), show (-12 : Int).natAbs = 12 from rfl, P01.dec_ge 12 (by omega), show 12 / 10 = 1 from rfl, show 12 % 10 = 2 from rfl, P01.dec_lt 1 (by omega)]
  rfl

set_option maxHeartbeats 400000 in
theorem alive_any (w : World) : Calls Tryd.prog 5 #[] w fun e w' => e = .returned (.bool true) ∧ Below w.heap.size w w' := by
  have hp := Parse_any [48, 55] w (by simp)
  rw [parse07] at hp
  have hq : ∀ w, _ := fun w => Print_any (-12) w (by omega) (by omega)
  simp only [dec12] at hq
  go_enter Tryd.func5, Tryd.ntmps5
  go_wp2_with (first | (go_at_call 11; refine hp.mono ?_; rintro e w1 ⟨rfl, hb1⟩) | (go_at_call 12; refine (num_any _ _).mono ?_; rintro e w' ⟨rfl, rfl⟩) | (go_at_call 13; refine (hq _).mono ?_; rintro e w2 ⟨rfl, hb2⟩))
  go_ret
  exact ⟨rfl, Below.of hb1 hb2⟩

end Go.Proofs.YteiijbhkplnnmaaDoor.digits01
