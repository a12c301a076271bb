/- Contract: what is allowed. -/
import Derived.Test.YtmnionocehflmaaDoorWalkVH
namespace Go.Proofs.YtmnionocehflmaaDoor
open Go.RowKit Go.Shelf

set_option maxRecDepth 100000 in
set_option maxHeartbeats 4000000 in
theorem rAllowed_any (c : PC.Circ) (vc va : Value) (assume : List (List Int)) (m : List UInt8) (w : World) (h : IsCirc w vc c) (hA : Lists w va assume) (hm : m.length ≤ 9223372036854775807) :
    Calls Tryd.prog 27 #[vc, va, .string ⟨m.toArray⟩] w fun e w' => e = .returned (.bool (PC.allowed c assume m)) ∧ Below w.heap.size w w' := by
  obtain ⟨vi, vl, vo, vb, vv, va', vn, rfl, hp, hmx⟩ := h
  obtain ⟨av, capv, rfl, hv1, hv2, hv3⟩ := hp.invars.open_
  obtain ⟨asm, caps, rfl, hs1, hs2, hs3⟩ := hA.open_
  clear hp hA
  have HV := Lib.hid hv3
  have HS := Lib.hid hs3
  clear hv3 hs3
  obtain ⟨R, hR⟩ : ∃ R, R = PC.allowed c assume m := ⟨_, rfl⟩
  rw [← hR]
  have HR := Lib.hid hR
  clear hR
  have hb1 : Below w.heap.size w (w.alloc (.cells #[.int .i64 c.max, vi, vl, vo, vb, .slice av c.invars.length capv, va', vn] 27)) := (Below.refl _ _).alloc (Nat.le_refl _) _
  have hbx := Box8.new w (.int .i64 c.max) vi vl vo vb (.slice av c.invars.length capv) va' vn 27
  go_enter Tryd.func27, Tryd.ntmps27
  go_wp2
  obtain ⟨w1, hw1⟩ : ∃ w1, w1 = w.alloc (.cells #[.int .i64 c.max, vi, vl, vo, vb, .slice av c.invars.length capv, va', vn] 27) := ⟨_, rfl⟩
  rw [← hw1] at hb1 hbx ⊢
  clear hw1
  obtain ⟨q0, q1, q2, q3, q4, q5, q6, q7⟩ := hbx
  go_loopg [7] c.invars.length (fun gg s7 wr => ∃ k : Nat, k ≤ c.invars.length ∧ c.invars.length - k ≤ gg ∧ s7 = .int .i64 k ∧ w1 = wr ∧ Aside (∀ j (hj : j < k) (h : j < c.invars.length), PC.tru m c.invars[j] = true))
  case atStart => exact ⟨0, Nat.zero_le _, by omega, rfl, rfl, fun j hj => absurd hj (Nat.not_lt_zero _)⟩
  case round =>
    obtain ⟨k, hk, hg, rfl, rfl, A⟩ := hrel
    by_cases hlt : k < c.invars.length
    · obtain ⟨b', off, rfl, hbs, hry, hc⟩ := HV.out k hlt
      have hmea : ∀ g : Nat, c.invars.length - k ≤ g → c.invars.length - (k + 1) < g := fun g h => by omega
      have hc := (hb1.cell hbs).trans hc
      generalize hy : c.invars[k] = y at *
      have Y := Lib.hid hy
      clear hy
      have hltz : (k : Int) < (c.invars.length : Int) := by omega
      have hT := rTrue_any m y w1 hry hm
      cases hq : PC.tru m y with
      | true =>
        rw [hq] at hT
        have Q := Lib.hid hq
        clear hq
        go_wp2_with (go_at_call 18; refine hT.mono ?_; rintro e w2 ⟨rfl, rfl⟩)
        go_roundg (c.invars.length - (k + 1))
        case measure => exact hmea _ hg
        case rel =>
          refine ⟨k + 1, by omega, by omega, by go_num, rfl, (show Aside _ from fun j hj h => ?_)⟩
          by_cases e : j = k
          · subst e; rw [Y.out]; exact Q.out
          · exact A.out j (by omega) h
      | false =>
        rw [hq] at hT
        have Q := Lib.hid hq
        clear hq
        go_wp2_with (go_at_call 18; refine hT.mono ?_; rintro e w2 ⟨rfl, rfl⟩)
        go_ret
        have : R = false := by
          rw [HR.out, PC.allowed, Bool.and_eq_false_iff]
          left
          rw [List.all_eq_false]
          exact ⟨c.invars[k], List.getElem_mem hlt, by rw [Y.out, Q.out]; decide⟩
        exact ⟨by rw [this]; rfl, hb1⟩
    · have hltz : ¬ (k : Int) < (c.invars.length : Int) := by omega
      obtain rfl : k = c.invars.length := by omega
      have S1 : Hid (c.invars.all (PC.tru m) = true) := by
        show _ = _
        rw [List.all_eq_true]
        intro x hx
        obtain ⟨j, hj, rfl⟩ := List.getElem_of_mem hx
        exact A.out j hj hj
      clear A HV
      go_wp2
      go_loopg [8] assume.length (fun gg s8 wr => ∃ k : Nat, k ≤ assume.length ∧ assume.length - k ≤ gg ∧ s8 = .int .i64 k ∧ w1 = wr ∧ Aside (∀ j (hj : j < k) (h : j < assume.length), PC.holds m assume[j] = true))
      case atStart => exact ⟨0, Nat.zero_le _, by omega, rfl, rfl, fun j hj => absurd hj (Nat.not_lt_zero _)⟩
      case round =>
        clear hg hk hlt hltz
        obtain ⟨k, hk, hg, rfl, rfl, A⟩ := hrel
        by_cases hlt : k < assume.length
        · obtain ⟨b', off, u, rfl, hbs, hc, hiu⟩ := HS.out k hlt
          have hmea : ∀ g : Nat, assume.length - k ≤ g → assume.length - (k + 1) < g := fun g h => by omega
          have hc := (hb1.cell hbs).trans hc
          have hiu := hiu.mono hb1
          generalize hy : assume[k] = y at *
          have Y := Lib.hid hy
          clear hy
          have hltz : (k : Int) < (assume.length : Int) := by omega
          have hH := Lib.hid (rHolds_any m y u w1 hiu hm)
          go_wp2_with fail
          cases hq : PC.holds m y with
          | true =>
            refine hH.out.mono ?_
            rintro e w2 ⟨rfl, rfl⟩
            rw [hq]
            have Q := Lib.hid hq
            clear hq
            go_wp2_with fail
            go_roundg (assume.length - (k + 1))
            case measure => exact hmea _ hg
            case rel =>
              refine ⟨k + 1, by omega, by omega, by go_num, rfl, (show Aside _ from fun j hj h => ?_)⟩
              by_cases e : j = k
              · subst e; rw [Y.out]; exact Q.out
              · exact A.out j (by omega) h
          | false =>
            refine hH.out.mono ?_
            rintro e w2 ⟨rfl, rfl⟩
            rw [hq]
            have Q := Lib.hid hq
            clear hq
            go_wp2_with fail
            go_ret
            have : R = false := by
              rw [HR.out, PC.allowed, Bool.and_eq_false_iff]
              right
              rw [List.all_eq_false]
              exact ⟨assume[k], List.getElem_mem hlt, by rw [Y.out, Q.out]; decide⟩
            exact ⟨by rw [this]; rfl, hb1⟩
        · have hltz : ¬ (k : Int) < (assume.length : Int) := by omega
          obtain rfl : k = assume.length := by omega
          go_wp2
          go_ret
          have : R = true := by
            rw [HR.out, PC.allowed, S1.out, Bool.true_and, List.all_eq_true]
            intro x hx
            obtain ⟨j, hj, rfl⟩ := List.getElem_of_mem hx
            exact A.out j hj hj
          exact ⟨by rw [this]; rfl, hb1⟩

end Go.Proofs.YtmnionocehflmaaDoor
