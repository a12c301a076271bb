/- Contracts: a model's literals, clauses; what holds, what is allowed. -/
import Derived.Test.YtbjioniefalgpaaWalkV1
import Derived.Test.YtbjioniefalgpaaPlainT
namespace Go.Proofs.Ytbjioniefalgpaa
open Go.RowKit Go.Shelf
attribute [local simp] mk_get

theorem rAbs_pos (x : Int) (w : World) (h : 0 ≤ x) (h2 : x ≤ 9223372036854775807) : Calls Try.prog 57 #[.int .i64 x] w fun e w' => e = .returned (.int .i64 x) ∧ w = w' := by
  have h1 : ¬ x < -x := by omega
  have hw : IntKind.i64.wrap (-x) = -x := IntWalk.i64_in _ (by omega)
  go_enter Try.func57, Try.ntmps57
  go_wp2
  go_ret
  exact ⟨rfl, rfl⟩

theorem rAbs_neg (x : Int) (w : World) (h : x < 0) (h2 : -9223372036854775807 ≤ x) : Calls Try.prog 57 #[.int .i64 x] w fun e w' => e = .returned (.int .i64 (-x)) ∧ w = w' := by
  have h1 : x < -x := by omega
  have hw : IntKind.i64.wrap (-x) = -x := IntWalk.i64_in _ (by omega)
  go_enter Try.func57, Try.ntmps57
  go_wp2
  go_ret
  exact ⟨rfl, rfl⟩

theorem rAbs_min (w : World) : Calls Try.prog 57 #[.int .i64 (-9223372036854775808)] w fun e w' => e = .returned (.int .i64 (-9223372036854775808)) ∧ w = w' := by
  have hw : IntKind.i64.wrap (9223372036854775808) = -9223372036854775808 := by decide
  go_enter Try.func57, Try.ntmps57
  go_wp2
  go_ret
  exact ⟨rfl, rfl⟩

theorem isM_at (m : List UInt8) (x : Int) (j : Nat) (hj : j < m.length) (hx : max x (-x) = (j : Int) + 1) : PC.isM m x = ((m[j] == 49) == decide (0 < x)) := by
  unfold PC.isM
  rw [hx]
  have e1 : decide ((1 : Int) ≤ (j : Int) + 1) = true := decide_eq_true (by omega)
  have e2 : decide ((j : Int) + 1 ≤ (m.length : Int)) = true := decide_eq_true (by omega)
  rw [e1, e2]
  have e3 : ((j : Int) + 1).toNat - 1 = j := by omega
  rw [e3, List.getElem?_eq_getElem hj]
  simp

theorem isM_far (m : List UInt8) (x : Int) (h : max x (-x) < 1 ∨ (m.length : Int) < max x (-x)) : PC.isM m x = false := by
  unfold PC.isM
  rcases h with h | h
  · rw [show decide (1 ≤ max x (-x)) = false from by simpa using h]; rfl
  · rw [show decide (max x (-x) ≤ (m.length : Int)) = false from by simpa using h]
    simp

theorem eq49 (x : UInt8) : (x == 49) = ((x.toNat : Int) == 49) := by
  rw [Bool.eq_iff_iff]
  simp only [beq_iff_eq]
  exact (u8_49 x).symm

set_option maxHeartbeats 1000000 in
theorem rIs_any (m : List UInt8) (x : Int) (w : World) (h : rng x) (hm : m.length ≤ 9223372036854775807) :
    Calls Try.prog 36 #[.string ⟨m.toArray⟩, .int .i64 x] w fun e w' => e = .returned (.bool (PC.isM m x)) ∧ w = w' := by
  obtain ⟨h1, h2⟩ := h
  by_cases hx0 : x = 0
  · subst hx0
    rw [isM_far m 0 (Or.inl (by decide))]
    have hA := fun w => rAbs_pos 0 w (by omega) (by omega)
    go_enter Try.func36, Try.ntmps36
    go_wp2_with (go_at_call 57; refine (hA _).mono ?_; rintro e w1 ⟨rfl, rfl⟩)
    go_ret
    exact ⟨rfl, rfl⟩
  by_cases hpos : 0 < x
  · obtain ⟨j, rfl⟩ : ∃ j : Nat, x = (j : Int) + 1 := ⟨(x - 1).toNat, by omega⟩
    have hA := fun w => rAbs_pos ((j : Int) + 1) w (by omega) (by omega)
    have hj0 : 1 ≤ (j : Int) + 1 := by omega
    by_cases hj : j < m.length
    · rw [isM_at m _ j hj (by omega), eq49]
      have hjz : (j : Int) + 1 ≤ (m.length : Int) := by omega
      have hjz2 : (j : Int) < (m.length : Int) := by omega
      have hw1 : IntKind.i64.wrap (j : Int) = (j : Int) := IntWalk.i64_in _ (by omega)
      have hdec : decide (0 < (j : Int) + 1) = true := decide_eq_true (by omega)
      rw [hdec]
      obtain ⟨y, hy⟩ : ∃ y, m[j] = y := ⟨_, rfl⟩
      rw [hy]
      go_enter Try.func36, Try.ntmps36
      go_wp2_with (go_at_call 57; refine (hA _).mono ?_; rintro e w1 ⟨rfl, rfl⟩)
      go_ret
      exact ⟨by first | rfl | simp, rfl⟩
    · rw [isM_far m _ (Or.inr (by omega))]
      have hjz : decide ((j : Int) + 1 ≤ (m.length : Int)) = false := decide_eq_false (by omega)
      clear hj
      go_enter Try.func36, Try.ntmps36
      go_wp2_with (go_at_call 57; refine (hA _).mono ?_; rintro e w1 ⟨rfl, rfl⟩)
      go_ret
      exact ⟨rfl, rfl⟩
  · by_cases hmin : x = -9223372036854775808
    · subst hmin
      rw [isM_far m _ (Or.inr (by omega))]
      go_enter Try.func36, Try.ntmps36
      go_wp2_with (go_at_call 57; refine (rAbs_min _).mono ?_; rintro e w1 ⟨rfl, rfl⟩)
      go_ret
      exact ⟨rfl, rfl⟩
    · obtain ⟨j, rfl⟩ : ∃ j : Nat, x = -((j : Int) + 1) := ⟨(-x - 1).toNat, by omega⟩
      have hA := fun w => rAbs_neg (-((j : Int) + 1)) w (by omega) (by omega)
      rw [Int.neg_neg] at hA
      have hj0 : 1 ≤ (j : Int) + 1 := by omega
      by_cases hj : j < m.length
      · rw [isM_at m _ j hj (by omega), eq49]
        have hjz : (j : Int) + 1 ≤ (m.length : Int) := by omega
        have hjz2 : (j : Int) < (m.length : Int) := by omega
        have hw1 : IntKind.i64.wrap (j : Int) = (j : Int) := IntWalk.i64_in _ (by omega)
        have hdec : decide (0 < -((j : Int) + 1)) = false := decide_eq_false (by omega)
        rw [hdec]
        obtain ⟨y, hy⟩ : ∃ y, m[j] = y := ⟨_, rfl⟩
        rw [hy]
        go_enter Try.func36, Try.ntmps36
        go_wp2_with (go_at_call 57; refine (hA _).mono ?_; rintro e w1 ⟨rfl, rfl⟩)
        go_ret
        exact ⟨by first | rfl | simp, rfl⟩
      · rw [isM_far m _ (Or.inr (by omega))]
        have hjz : decide ((j : Int) + 1 ≤ (m.length : Int)) = false := decide_eq_false (by omega)
        clear hj
        go_enter Try.func36, Try.ntmps36
        go_wp2_with (go_at_call 57; refine (hA _).mono ?_; rintro e w1 ⟨rfl, rfl⟩)
        go_ret
        exact ⟨rfl, rfl⟩

set_option maxHeartbeats 1000000 in
theorem rOne_any (m : List UInt8) (l : List Int) (v : Value) (w : World) (hv : Ints w v l) (hm : m.length ≤ 9223372036854775807) :
    Calls Try.prog 13 #[.string ⟨m.toArray⟩, v] w fun e w' => e = .returned (.bool (PC.one m l)) ∧ w = w' := by
  unfold PC.one
  obtain ⟨ao, cap, rfl, h1, h2, hc⟩ := hv.open_
  obtain ⟨R, hR⟩ : ∃ R, R = l.any (PC.isM m) := ⟨_, rfl⟩
  rw [← hR]
  have HR := Lib.hid hR
  clear hR
  have HC := Lib.hid hc
  clear hc
  go_enter Try.func13, Try.ntmps13
  go_wp2
  go_loopg [5] l.length (fun gg s5 wr => ∃ k : Nat, k ≤ l.length ∧ l.length - k ≤ gg ∧ s5 = .int .i64 k ∧ w = wr ∧ Aside (∀ j (hj : j < k) (h : j < l.length), PC.isM m l[j] = false))
  case atStart => exact ⟨0, Nat.zero_le _, by omega, rfl, rfl, fun j hj => absurd hj (Nat.not_lt_zero _)⟩
  case round =>
    obtain ⟨k, hk, hg, rfl, rfl, A⟩ := hrel
    by_cases hlt : k < l.length
    · obtain ⟨b, off, rfl, hbs, hry, hcell⟩ := HC.out k hlt
      have hmea : ∀ g : Nat, l.length - k ≤ g → l.length - (k + 1) < g := fun g h => by omega
      generalize hy : l[k] = y at *
      have B := Lib.hid hy
      clear hy
      have hltz : (k : Int) < (l.length : Int) := by omega
      have hcall := rIs_any m y w hry hm
      cases hq : PC.isM m y with
      | true =>
        rw [hq] at hcall
        have Q := Lib.hid hq
        clear hq
        go_wp2_with (go_at_call 36; refine (hcall).mono ?_; rintro e w' ⟨rfl, rfl⟩)
        go_ret
        have : R = true := by
          rw [HR.out, List.any_eq_true]
          exact ⟨l[k], List.getElem_mem hlt, by rw [B.out]; exact Q.out⟩
        exact ⟨by rw [this]; rfl, rfl⟩
      | false =>
        rw [hq] at hcall
        have Q := Lib.hid hq
        clear hq
        go_wp2_with (go_at_call 36; refine (hcall).mono ?_; rintro e w' ⟨rfl, rfl⟩)
        go_roundg (l.length - (k + 1))
        case measure => exact hmea _ hg
        case rel =>
          refine ⟨k + 1, by omega, by omega, by go_num, rfl, (show Aside _ from fun j hj h => ?_)⟩
          by_cases e : j = k
          · subst e; rw [B.out]; exact Q.out
          · exact A.out j (by omega) h
    · have hltz : ¬ (k : Int) < (l.length : Int) := by omega
      obtain rfl : k = l.length := by omega
      go_wp2
      go_ret
      have : R = false := by
        rw [HR.out, List.any_eq_false]
        intro x hx
        obtain ⟨j, hj, rfl⟩ := List.getElem_of_mem hx
        simpa using A.out j hj hj
      exact ⟨by rw [this]; rfl, rfl⟩

set_option maxHeartbeats 1000000 in
theorem rHolds_any (m : List UInt8) (l : List Int) (v : Value) (w : World) (hv : Ints w v l) (hm : m.length ≤ 9223372036854775807) :
    Calls Try.prog 28 #[.string ⟨m.toArray⟩, v] w fun e w' => e = .returned (.bool (PC.holds m l)) ∧ w = w' := by
  unfold PC.holds
  obtain ⟨ao, cap, rfl, h1, h2, hc⟩ := hv.open_
  obtain ⟨R, hR⟩ : ∃ R, R = l.any (PC.tru m) := ⟨_, rfl⟩
  rw [← hR]
  have HR := Lib.hid hR
  clear hR
  have HC := Lib.hid hc
  clear hc
  go_enter Try.func28, Try.ntmps28
  go_wp2
  go_loopg [5] l.length (fun gg s5 wr => ∃ k : Nat, k ≤ l.length ∧ l.length - k ≤ gg ∧ s5 = .int .i64 k ∧ w = wr ∧ Aside (∀ j (hj : j < k) (h : j < l.length), PC.tru m l[j] = false))
  case atStart => exact ⟨0, Nat.zero_le _, by omega, rfl, rfl, fun j hj => absurd hj (Nat.not_lt_zero _)⟩
  case round =>
    obtain ⟨k, hk, hg, rfl, rfl, A⟩ := hrel
    by_cases hlt : k < l.length
    · obtain ⟨b, off, rfl, hbs, hry, hcell⟩ := HC.out k hlt
      have hmea : ∀ g : Nat, l.length - k ≤ g → l.length - (k + 1) < g := fun g h => by omega
      generalize hy : l[k] = y at *
      have B := Lib.hid hy
      clear hy
      have hltz : (k : Int) < (l.length : Int) := by omega
      have hcall := rTrue_any m y w hry hm
      cases hq : PC.tru m y with
      | true =>
        rw [hq] at hcall
        have Q := Lib.hid hq
        clear hq
        go_wp2_with (go_at_call 32; refine (hcall).mono ?_; rintro e w' ⟨rfl, rfl⟩)
        go_ret
        have : R = true := by
          rw [HR.out, List.any_eq_true]
          exact ⟨l[k], List.getElem_mem hlt, by rw [B.out]; exact Q.out⟩
        exact ⟨by rw [this]; rfl, rfl⟩
      | false =>
        rw [hq] at hcall
        have Q := Lib.hid hq
        clear hq
        go_wp2_with (go_at_call 32; refine (hcall).mono ?_; rintro e w' ⟨rfl, rfl⟩)
        go_roundg (l.length - (k + 1))
        case measure => exact hmea _ hg
        case rel =>
          refine ⟨k + 1, by omega, by omega, by go_num, rfl, (show Aside _ from fun j hj h => ?_)⟩
          by_cases e : j = k
          · subst e; rw [B.out]; exact Q.out
          · exact A.out j (by omega) h
    · have hltz : ¬ (k : Int) < (l.length : Int) := by omega
      obtain rfl : k = l.length := by omega
      go_wp2
      go_ret
      have : R = false := by
        rw [HR.out, List.any_eq_false]
        intro x hx
        obtain ⟨j, hj, rfl⟩ := List.getElem_of_mem hx
        simpa using A.out j hj hj
      exact ⟨by rw [this]; rfl, rfl⟩

end Go.Proofs.Ytbjioniefalgpaa
