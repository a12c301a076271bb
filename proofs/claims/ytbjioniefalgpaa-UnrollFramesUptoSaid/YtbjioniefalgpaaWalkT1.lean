/- Contracts: literals and clauses of a circuit from a base. -/
import Derived.Test.YtbjioniefalgpaaWalkC1
import Derived.Test.YtbjioniefalgpaaPlainT
namespace Go.Proofs.Ytbjioniefalgpaa
open Go.RowKit Go.Shelf

theorem tat_any (b : Int) (w : World) (h0 : 0 ≤ b) (h1 : b ≤ 262144) : Calls Try.prog 51 #[.int .i64 b] w fun e w' => e = .returned (.int .i64 b) ∧ w = w' := by
  have h2 : ¬ b < 0 := by omega
  have h3 : ¬ 262144 < b := by omega
  go_enter Try.func51, Try.ntmps51
  go_wp2
  go_ret
  exact ⟨rfl, rfl⟩

theorem tof_any (b v : Int) (w : World) (h0 : 0 ≤ b) (h1 : b ≤ 262144) (g0 : 0 ≤ v) (g1 : v ≤ 2097152) : Calls Try.prog 45 #[.int .i64 b, .int .i64 v] w fun e w' => e = .returned (.int .i64 (b + v + 1)) ∧ w = w' := by
  have e1 : IntKind.i64.wrap (b + v) = b + v := IntWalk.i64_in _ (by omega)
  have e2 : IntKind.i64.wrap (b + v + 1) = b + v + 1 := IntWalk.i64_in _ (by omega)
  go_enter Try.func45, Try.ntmps45
  go_wp2
  go_ret
  exact ⟨rfl, rfl⟩

theorem litT_neg (b l : Int) (h : l ≤ 4097) (hn : PC.negOf l = true) : PC.litT b l = -(b + (PC.varOf l : Int) + 1) := by
  simp only [PC.negOf, Bool.and_eq_true, decide_eq_true_eq] at hn
  have hv : (PC.varOf l : Int) = l / 2 := by unfold PC.varOf; omega
  unfold PC.litT
  have e : min (max l 0) 4097 = l := by omega
  rw [e, if_pos hn.2, hv]

theorem litT_pos (b l : Int) (h : l ≤ 4097) (hn : PC.negOf l = false) : PC.litT b l = b + (PC.varOf l : Int) + 1 := by
  simp only [PC.negOf, Bool.and_eq_false_iff, decide_eq_false_iff_not] at hn
  unfold PC.litT
  by_cases h0 : 0 ≤ l
  · have hv : (PC.varOf l : Int) = l / 2 := by unfold PC.varOf; omega
    have e : min (max l 0) 4097 = l := by omega
    rw [e, if_neg (by omega), hv]
  · have hv : (PC.varOf l : Int) = 0 := by unfold PC.varOf; omega
    have e : min (max l 0) 4097 = 0 := by omega
    rw [e, hv]; rfl

theorem tlit_any (b l : Int) (w : World) (h0 : 0 ≤ b) (h1 : b ≤ 262144) (hl : rng l) (h : l ≤ 4097) : Calls Try.prog 34 #[.int .i64 b, .int .i64 l] w fun e w' => e = .returned (.int .i64 (PC.litT b l)) ∧ w = w' := by
  have hV := fun w => litsVar_any l w hl
  have hNg := fun w => litsNeg_any l w hl
  have hv : (PC.varOf l : Int) ≤ 2097152 := by unfold PC.varOf; omega
  have hv0 : 0 ≤ (PC.varOf l : Int) := by omega
  have hO := fun w => tof_any b (PC.varOf l : Int) w h0 h1 (by omega) hv
  cases hn : PC.negOf l with
  | true =>
    rw [litT_neg b l h hn]
    rw [hn] at hNg
    clear hn
    generalize (PC.varOf l : Int) = v at *
    obtain ⟨r, hr⟩ : ∃ r, r = b + v + 1 := ⟨_, rfl⟩
    rw [← hr] at hO
    rw [← hr]
    have hw : IntKind.i64.wrap (-r) = -r := IntWalk.i64_in _ (by unfold rng at hl; omega)
    clear hr
    go_enter Try.func34, Try.ntmps34
    go_wp2_with (first | (go_at_call 56; refine (hV _).mono ?_; rintro e w1 ⟨rfl, rfl⟩) | (go_at_call 55; refine (hNg _).mono ?_; rintro e w1 ⟨rfl, rfl⟩) | (go_at_call 45; refine (hO _).mono ?_; rintro e w1 ⟨rfl, rfl⟩))
    go_ret
    exact ⟨rfl, rfl⟩
  | false =>
    rw [litT_pos b l h hn]
    rw [hn] at hNg
    clear hn
    generalize (PC.varOf l : Int) = v at *
    go_enter Try.func34, Try.ntmps34
    go_wp2_with (first | (go_at_call 56; refine (hV _).mono ?_; rintro e w1 ⟨rfl, rfl⟩) | (go_at_call 55; refine (hNg _).mono ?_; rintro e w1 ⟨rfl, rfl⟩) | (go_at_call 45; refine (hO _).mono ?_; rintro e w1 ⟨rfl, rfl⟩))
    go_ret
    exact ⟨rfl, rfl⟩

theorem litT_min (b l : Int) : PC.litT b (min l 4097) = PC.litT b l := by
  unfold PC.litT
  have e : min (max (min l 4097) 0) 4097 = min (max l 0) 4097 := by omega
  rw [e]

theorem tLit_any (b l : Int) (w : World) (h0 : 0 ≤ b) (h1 : b ≤ 262144) (hl : rng l) : Calls Try.prog 29 #[.int .i64 b, .int .i64 l] w fun e w' => e = .returned (.int .i64 (PC.litT b l)) ∧ w = w' := by
  have hA := fun w => tat_any b w h0 h1
  rw [← litT_min]
  have hL := fun w => tlit_any b (min l 4097) w h0 h1 (by unfold rng at *; omega) (by omega)
  generalize PC.litT b (min l 4097) = R at *
  by_cases hc : 4097 < l
  · have e : min l 4097 = 4097 := by omega
    rw [e] at hL
    go_enter Try.func29, Try.ntmps29
    go_wp2_with (first | (go_at_call 51; refine (hA _).mono ?_; rintro e w1 ⟨rfl, rfl⟩) | (go_at_call 34; refine (hL _).mono ?_; rintro e w1 ⟨rfl, rfl⟩))
    go_ret
    exact ⟨rfl, rfl⟩
  · have e : min l 4097 = l := by omega
    rw [e] at hL
    go_enter Try.func29, Try.ntmps29
    go_wp2_with (first | (go_at_call 51; refine (hA _).mono ?_; rintro e w1 ⟨rfl, rfl⟩) | (go_at_call 34; refine (hL _).mono ?_; rintro e w1 ⟨rfl, rfl⟩))
    go_ret
    exact ⟨rfl, rfl⟩

end Go.Proofs.Ytbjioniefalgpaa
