/- Contracts: within, Check of a clause. -/
import Derived.Test.YtbjioniefalgpaaWalkH5
namespace Go.Proofs.Ytbjioniefalgpaa
open Go.RowKit Go.Shelf

namespace PC
/-- are literals a circuit's? -/
def withinL (most : Int) (l : List Int) : Bool := l.all fun x => decide (0 ≤ x) && decide (x ≤ 2 * most + 1)
/-- are clauses a circuit's? -/
def withinT (most : Int) (l : List (List Int)) : Bool := l.all fun a => decide (a.length ≤ 1024) && withinL most a
/-- may a clause be? -/
def clOk (vars : Int) (l : List Int) : Bool := l.all fun x => decide (1 ≤ max x (-x)) && decide (max x (-x) ≤ vars)
def clE (vars : Int) (l : List Int) : Int := if 1024 < l.length then 5 else if clOk vars l then 0 else 4
end PC

set_option maxHeartbeats 1000000 in
theorem rWithin_any (most : Int) (v : Value) (l : List Int) (w : World) (hv : Ints w v l) (h0 : 0 ≤ most) (h1 : most ≤ 2048) :
    Calls Try.prog 61 #[.int .i64 most, v] w fun e w' => e = .returned (.bool (PC.withinL most l)) ∧ w = w' := by
  obtain ⟨ao, cap, rfl, hlc, hcm, hc⟩ := hv.open_
  clear hv
  obtain ⟨R, hR⟩ : ∃ R, R = PC.withinL most l := ⟨_, rfl⟩
  rw [← hR]
  have HR := Lib.hid hR
  clear hR
  have n0 : ¬ most < 0 := by omega
  have n1 : ¬ 2048 < most := by omega
  go_enter Try.func61, Try.ntmps61
  go_wp2
  go_loopg [5] l.length (fun gg s5 wr => ∃ k : Nat, k ≤ l.length ∧ l.length - k ≤ gg ∧ s5 = .int .i64 k ∧ w = wr ∧ Aside (∀ j (hj : j < k) (h : j < l.length), 0 ≤ l[j] ∧ l[j] ≤ 2 * most + 1))
  case atStart => exact ⟨0, Nat.zero_le _, by omega, rfl, rfl, fun j hj => absurd hj (Nat.not_lt_zero _)⟩
  case round =>
    obtain ⟨k, hk, hg, rfl, rfl, A⟩ := hrel
    by_cases hlt : k < l.length
    · obtain ⟨b, off, rfl, hbs, hr, hcell⟩ := hc k hlt
      have hmea : ∀ g : Nat, l.length - k ≤ g → l.length - (k + 1) < g := fun g h => by omega
      have HC := Lib.hid hc
      clear hc
      generalize hy : l[k] = y at hcell hr
      have B := Lib.hid hy
      clear hy
      have hltz : (k : Int) < (l.length : Int) := by omega
      by_cases y0 : y < 0
      · go_wp2
        go_ret
        have : R = false := by
          rw [HR.out, PC.withinL, List.all_eq_false]
          exact ⟨l[k], List.getElem_mem hlt, by rw [B.out, decide_eq_false (show ¬ 0 ≤ y by omega)]; simp⟩
        exact ⟨by rw [this]; rfl, rfl⟩
      · by_cases y1 : 2 * most + 1 < y
        · go_wp2
          go_ret
          have : R = false := by
            rw [HR.out, PC.withinL, List.all_eq_false]
            exact ⟨l[k], List.getElem_mem hlt, by rw [B.out, decide_eq_false (show ¬ y ≤ 2 * most + 1 by omega)]; simp⟩
          exact ⟨by rw [this]; rfl, rfl⟩
        · go_wp2
          go_roundg (l.length - (k + 1))
          case measure => exact hmea _ hg
          case rel =>
            refine ⟨k + 1, by omega, by omega, by go_num, rfl, (show Aside _ from fun j hj h => ?_)⟩
            by_cases e : j = k
            · subst e; rw [B.out]; omega
            · exact A.out j (by omega) h
    · have hltz : ¬ (k : Int) < (l.length : Int) := by omega
      obtain rfl : k = l.length := by omega
      go_wp2
      go_ret
      have : R = true := by
        rw [HR.out, PC.withinL, List.all_eq_true]
        intro x hx
        obtain ⟨j, hj, rfl⟩ := List.getElem_of_mem hx
        have := A.out j hj hj
        rw [decide_eq_true this.1, decide_eq_true this.2]; rfl
      exact ⟨by rw [this]; rfl, rfl⟩

set_option maxRecDepth 100000 in
set_option maxHeartbeats 1000000 in
theorem within13_any (c : PC.Circ) (vc v : Value) (l : List (List Int)) (w : World) (h : IsCirc w vc c) (hv : Lists w v l) (h0 : 0 ≤ c.max) (h1 : c.max ≤ 2048) :
    Calls Try.prog 49 #[vc, v] w fun e w' => e = .returned (.bool (PC.withinT c.max l)) ∧ Below w.heap.size w w' := by
  obtain ⟨ao, cap, rfl, hlc, hcm, hc⟩ := hv.open_
  have HC := Lib.hid hc
  clear hv hc
  obtain ⟨vi, vl, vo, vb, vv, va, vn, rfl, hp, hmax⟩ := h
  clear hp hmax
  obtain ⟨R, hR⟩ : ∃ R, R = PC.withinT c.max l := ⟨_, rfl⟩
  rw [← hR]
  have HR := Lib.hid hR
  clear hR
  go_enter Try.func49, Try.ntmps49
  go_wp2
  go_loopg [5] l.length (fun gg s5 wr => ∃ k : Nat, k ≤ l.length ∧ l.length - k ≤ gg ∧ s5 = .int .i64 k ∧ Below w.heap.size w wr ∧ Box8 wr w.heap.size (.int .i64 c.max) vi vl vo vb vv va vn ∧ Aside (∀ j (hj : j < k) (h : j < l.length), l[j].length ≤ 1024 ∧ PC.withinL c.max l[j] = true))
  case atStart => exact ⟨0, Nat.zero_le _, by omega, rfl, (Below.refl _ _).alloc (Nat.le_refl _) _, Box8.new _ _ _ _ _ _ _ _ _ _, fun j hj => absurd hj (Nat.not_lt_zero _)⟩
  case round =>
    obtain ⟨k, hk, hg, rfl, hbel, hbox, A⟩ := hrel
    by_cases hlt : k < l.length
    · obtain ⟨b, off, u, rfl, hbs, hcell, hiu⟩ := HC.out k hlt
      have hmea : ∀ g : Nat, l.length - k ≤ g → l.length - (k + 1) < g := fun g h => by omega
      have hiu := hiu.mono hbel
      generalize hy : l[k] = y at *
      have B := Lib.hid hy
      clear hy
      obtain ⟨ay, cy, rfl, _, _, _⟩ := id hiu.open_
      have hcell : ∀ x : Later wr, x.at_.cell? ⟨b, off + k, none⟩ = some (.slice ay y.length cy) := fun x => x.cell ((hbel.cell hbs).trans hcell)
      obtain ⟨q0, q1, q2, q3, q4, q5, q6, q7⟩ := hbox.later
      have hltz : (k : Int) < (l.length : Int) := by omega
      by_cases hyl : 1024 < y.length
      · have hylz : (1024 : Int) < (y.length : Int) := by omega
        clear hiu
        go_wp2_with fail
        refine wp_region_later (by kernel_rfl) (by kernel_rfl) ?_; (repeat (go_big_quiet_step (fail))); refine wpQuiet_nil ?_; rintro w3 ⟨⟨_, hb3⟩, rfl⟩
        go_wp2
        go_ret
        refine ⟨?_, Below.of hbel hb3⟩
        have : R = false := by
          rw [HR.out, PC.withinT, List.all_eq_false]
          exact ⟨l[k], List.getElem_mem hlt, by rw [B.out, decide_eq_false (show ¬ y.length ≤ 1024 by omega)]; simp⟩
        rw [this]; rfl
      · have hylz : decide ((1024 : Int) < (y.length : Int)) = false := decide_eq_false (by omega)
        have hW : ∀ x : Later wr, _ := fun x => rWithin_any c.max _ y x.at_ (hiu.mono x.below) h0 h1
        have YL := Lib.hid hyl
        clear hiu hyl
        cases hq : PC.withinL c.max y with
        | true =>
          rw [hq] at hW
          have Q := Lib.hid hq
          clear hq
          go_wp2_with fail
          refine wp_region_later (by kernel_rfl) (by kernel_rfl) ?_; (repeat (go_big_quiet_step ((go_at_call 61; with_reducible exact Calls.later_same (hW _))))); refine wpQuiet_nil ?_; rintro w3 ⟨⟨_, hb3⟩, rfl⟩
          go_wp2
          go_roundg (l.length - (k + 1))
          case measure => exact hmea _ hg
          case rel =>
            refine ⟨k + 1, by omega, by omega, by go_num, Below.of hbel hb3, hbox.mono hb3, (show Aside _ from fun j hj h => ?_)⟩
            by_cases e : j = k
            · subst e; rw [B.out]; exact ⟨by have := YL.out; omega, Q.out⟩
            · exact A.out j (by omega) h
        | false =>
          rw [hq] at hW
          have Q := Lib.hid hq
          clear hq
          go_wp2_with fail
          refine wp_region_later (by kernel_rfl) (by kernel_rfl) ?_; (repeat (go_big_quiet_step ((go_at_call 61; with_reducible exact Calls.later_same (hW _))))); refine wpQuiet_nil ?_; rintro w3 ⟨⟨_, hb3⟩, rfl⟩
          go_wp2
          go_ret
          refine ⟨?_, Below.of hbel hb3⟩
          have : R = false := by
            rw [HR.out, PC.withinT, List.all_eq_false]
            exact ⟨l[k], List.getElem_mem hlt, by rw [B.out, Q.out]; simp⟩
          rw [this]; rfl
    · have hltz : ¬ (k : Int) < (l.length : Int) := by omega
      obtain rfl : k = l.length := by omega
      go_wp2
      go_ret
      refine ⟨?_, hbel⟩
      have : R = true := by
        rw [HR.out, PC.withinT, List.all_eq_true]
        intro x hx
        obtain ⟨j, hj, rfl⟩ := List.getElem_of_mem hx
        have := A.out j hj hj
        rw [decide_eq_true this.1, this.2]; rfl
      rw [this]; rfl

theorem rAbs_any (x : Int) (w : World) (h : rng x) : Calls Try.prog 57 #[.int .i64 x] w fun e w' => e = .returned (.int .i64 (if x = -9223372036854775808 then x else max x (-x))) ∧ w = w' := by
  obtain ⟨h1, h2⟩ := h
  by_cases hx : x = -9223372036854775808
  · subst hx
    rw [if_pos rfl]
    exact rAbs_min w
  · rw [if_neg hx]
    by_cases h0 : 0 ≤ x
    · rw [show max x (-x) = x by omega]
      exact rAbs_pos x w h0 h2
    · rw [show max x (-x) = -x by omega]
      exact rAbs_neg x w (by omega) (by omega)

set_option maxHeartbeats 1000000 in
theorem rCheck10_any (vars : Nat) (v : Value) (l : List Int) (w : World) (hv : Ints w v l) (h1 : vars ≤ 9223372036854775807) :
    Calls Try.prog 50 #[.int .i64 (vars : Int), v] w fun e w' => e = .returned (.int .i64 (PC.clE vars l)) ∧ w = w' := by
  obtain ⟨ao, cap, rfl, hlc, hcm, hc⟩ := hv.open_
  clear hv
  obtain ⟨R, hR⟩ : ∃ R, R = PC.clE vars l := ⟨_, rfl⟩
  rw [← hR]
  have HR := Lib.hid hR
  clear hR
  by_cases hl : 1024 < l.length
  · have hlz : (1024 : Int) < (l.length : Int) := by omega
    go_enter Try.func50, Try.ntmps50
    go_wp2
    go_ret
    have : R = 5 := by rw [HR.out, PC.clE, if_pos hl]
    exact ⟨by rw [this]; rfl, rfl⟩
  have hlz : decide ((1024 : Int) < (l.length : Int)) = false := decide_eq_false (by omega)
  go_enter Try.func50, Try.ntmps50
  go_wp2
  go_loopg [5] l.length (fun gg s5 wr => ∃ k : Nat, k ≤ l.length ∧ l.length - k ≤ gg ∧ s5 = .int .i64 k ∧ w = wr ∧ Aside (∀ j (hj : j < k) (h : j < l.length), 1 ≤ max l[j] (-l[j]) ∧ max l[j] (-l[j]) ≤ vars))
  case atStart => exact ⟨0, Nat.zero_le _, by omega, rfl, rfl, fun j hj => absurd hj (Nat.not_lt_zero _)⟩
  case round =>
    clear hlz
    obtain ⟨k, hk, hg, rfl, rfl, A⟩ := hrel
    by_cases hlt : k < l.length
    · obtain ⟨b, off, rfl, hbs, hr, hcell⟩ := hc k hlt
      have hmea : ∀ g : Nat, l.length - k ≤ g → l.length - (k + 1) < g := fun g h => by omega
      have HC := Lib.hid hc
      clear hc
      generalize hy : l[k] = y at hcell hr
      have B := Lib.hid hy
      clear hy
      have hltz : (k : Int) < (l.length : Int) := by omega
      have hA := fun w => rAbs_any y w hr
      obtain ⟨a, ha⟩ : ∃ a, a = (if y = -9223372036854775808 then y else max y (-y)) := ⟨_, rfl⟩
      rw [← ha] at hA
      obtain ⟨hr1, hr2⟩ := hr
      by_cases a0 : a < 1
      · have hbad : Hid (¬ (1 ≤ max y (-y) ∧ max y (-y) ≤ (vars : Int))) := by
          show ¬ _
          split at ha <;> omega
        clear ha hr1 hr2
        go_wp2_with (go_at_call 57; refine (hA _).mono ?_; rintro e w1 ⟨rfl, rfl⟩)
        go_ret
        have : R = 4 := by
          rw [HR.out, PC.clE, if_neg (by omega), if_neg]
          rw [Bool.not_eq_true, PC.clOk, List.all_eq_false]
          exact ⟨l[k], List.getElem_mem hlt, by
            rw [B.out]
            intro h
            rw [Bool.and_eq_true, decide_eq_true_eq, decide_eq_true_eq] at h
            exact hbad.out h⟩
        exact ⟨by rw [this]; rfl, rfl⟩
      · by_cases a1 : (vars : Int) < a
        · have hbad : Hid (¬ (1 ≤ max y (-y) ∧ max y (-y) ≤ (vars : Int))) := by
            show ¬ _
            split at ha <;> omega
          clear ha hr1 hr2
          go_wp2_with (go_at_call 57; refine (hA _).mono ?_; rintro e w1 ⟨rfl, rfl⟩)
          go_ret
          have : R = 4 := by
            rw [HR.out, PC.clE, if_neg (by omega), if_neg]
            rw [Bool.not_eq_true, PC.clOk, List.all_eq_false]
            exact ⟨l[k], List.getElem_mem hlt, by
              rw [B.out]
              intro h
              rw [Bool.and_eq_true, decide_eq_true_eq, decide_eq_true_eq] at h
              exact hbad.out h⟩
          exact ⟨by rw [this]; rfl, rfl⟩
        · have hok : Hid (1 ≤ max y (-y) ∧ max y (-y) ≤ (vars : Int)) := by
            show _ ∧ _
            split at ha <;> omega
          clear ha hr1 hr2
          go_wp2_with (go_at_call 57; refine (hA _).mono ?_; rintro e w1 ⟨rfl, rfl⟩)
          go_roundg (l.length - (k + 1))
          case measure => exact hmea _ hg
          case rel =>
            refine ⟨k + 1, by omega, by omega, by go_num, rfl, (show Aside _ from fun j hj h => ?_)⟩
            by_cases e : j = k
            · subst e; rw [B.out]; exact hok.out
            · exact A.out j (by omega) h
    · have hltz : ¬ (k : Int) < (l.length : Int) := by omega
      obtain rfl : k = l.length := by omega
      go_wp2
      go_ret
      have : R = 0 := by
        rw [HR.out, PC.clE, if_neg hl, if_pos]
        rw [PC.clOk, List.all_eq_true]
        intro x hx
        obtain ⟨j, hj, rfl⟩ := List.getElem_of_mem hx
        have := A.out j hj hj
        rw [decide_eq_true this.1, decide_eq_true this.2]; rfl
      exact ⟨by rw [this]; rfl, rfl⟩

end Go.Proofs.Ytbjioniefalgpaa
