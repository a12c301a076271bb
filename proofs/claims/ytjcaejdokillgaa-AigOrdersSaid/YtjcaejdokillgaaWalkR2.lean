/- Contracts: the page's known, all, count, rank. -/
import Derived.Test.YtjcaejdokillgaaWalkR1
namespace Go.Proofs.Ytjcaejdokillgaa
open Go.RowKit Go.Shelf

set_option maxHeartbeats 400000 in
theorem rknown_any (c : PC.Circ) (vc : Value) (l : Int) (w : World) (hl : rng l) (h : IsCirc w vc c) :
    Calls Try.prog 29 #[vc, .int .i64 l] w fun e w' => e = .returned (.bool (PC.known c l)) ∧ Below w.heap.size w w' := by
  obtain ⟨hl1, hl2⟩ := hl
  have hK : ∀ (v : Int) w1, rng v → Below w.heap.size w w1 → _ := fun v w1 hv hb => rKind_any c vc v w1 hv (h.mono hb)
  obtain ⟨vi, vl, vo, vb, vv, va, vn, rfl, hp, hmax⟩ := h
  clear hp hmax
  by_cases h0 : 0 ≤ l
  · have e : PC.known c l = !(PC.kindS c (l / 2)).isEmpty := by simp [PC.known, h0]
    rw [e]
    clear e
    have hK := fun w1 hb => hK (l / 2) w1 ⟨by omega, by omega⟩ hb
    generalize PC.kindS c (l / 2) = K at hK
    go_enter Try.func29, Try.ntmps29
    go_wp2_with (go_at_call 51; refine (hK _ (by exact (Below.refl _ _).alloc (Nat.le_refl _) _)).mono ?_; rintro e w1 ⟨rfl, hb1⟩)
    go_ret
    exact ⟨rfl, below1 hb1⟩
  · have e : PC.known c l = false := by simp [PC.known, h0]
    rw [e]
    clear hK
    go_enter Try.func29, Try.ntmps29
    go_wp2
    go_ret
    exact ⟨rfl, (Below.refl _ _).alloc (Nat.le_refl _) _⟩

set_option maxHeartbeats 1000000 in
theorem rall_any (c : PC.Circ) (vc v : Value) (l : List Int) (w : World) (hv : Ints w v l) (h : IsCirc w vc c) :
    Calls Try.prog 31 #[vc, v] w fun e w' => e = .returned (.bool (PC.allKnown c l)) ∧ Below w.heap.size w w' := by
  obtain ⟨ao, cap, rfl, hlc, hcm, hc⟩ := hv.open_
  clear hv
  have hK : ∀ (l : Int) w1, rng l → Below w.heap.size w w1 → _ := fun l w1 hl hb => rknown_any c vc l w1 hl (h.mono hb)
  obtain ⟨vi, vl, vo, vb, vv, va, vn, rfl, hp, hmax⟩ := h
  clear hp hmax
  obtain ⟨R, hR⟩ : ∃ R, R = PC.allKnown c l := ⟨_, rfl⟩
  rw [← hR]
  have HR := Lib.hid hR
  clear hR
  go_enter Try.func31, Try.ntmps31
  go_wp2
  go_loopg [5] l.length (fun gg s5 wr => ∃ k : Nat, k ≤ l.length ∧ l.length - k ≤ gg ∧ s5 = .int .i64 k ∧ Below w.heap.size w wr ∧ Box8 wr w.heap.size (.int .i64 c.max) vi vl vo vb vv va vn ∧ Aside (∀ j (hj : j < k) (h : j < l.length), PC.known c l[j] = true))
  case atStart => exact ⟨0, Nat.zero_le _, by omega, rfl, (Below.refl _ _).alloc (Nat.le_refl _) _, Box8.new _ _ _ _ _ _ _ _ _ _, fun j hj => absurd hj (Nat.not_lt_zero _)⟩
  case round =>
    obtain ⟨k, hk, hg, rfl, hbel, hbox, A⟩ := hrel
    by_cases hlt : k < l.length
    · obtain ⟨b, off, rfl, hbs, hr, hcell⟩ := hc k hlt
      have hcell : ∀ x : Later wr, x.at_.cell? ⟨b, off + k, none⟩ = some (.int .i64 l[k]) := fun x => x.cell ((hbel.cell hbs).trans hcell)
      clear hc
      generalize hy : l[k] = y at hcell hr
      have B : Aside (l[k] = y) := hy
      clear hy
      have hK : ∀ x : Later wr, _ := fun x => hK y x.at_ hr (Below.of hbel x.below)
      obtain ⟨q0, q1, q2, q3, q4, q5, q6, q7⟩ := hbox.later
      have hltz : (k : Int) < (l.length : Int) := by omega
      cases hq : PC.known c y with
      | true =>
        rw [hq] at hK
        go_wp2_with fail
        refine wp_region_later (by kernel_rfl) (by kernel_rfl) ?_; (repeat (go_big_quiet_step ((go_at_call 29; exact Calls.later (hK _))))); refine wpQuiet_nil ?_; rintro w3 ⟨⟨_, hb3⟩, rfl⟩
        go_wp2
        go_roundg (l.length - (k + 1))
        case measure => omega
        case rel =>
          refine ⟨k + 1, by omega, by omega, by go_num, Below.of hbel hb3, hbox.mono hb3, (show Aside _ from fun j hj h => ?_)⟩
          by_cases e : j = k
          · subst e; rw [B.out]; exact hq
          · exact A.out j (by omega) h
      | false =>
        rw [hq] at hK
        go_wp2_with fail
        refine wp_region_later (by kernel_rfl) (by kernel_rfl) ?_; (repeat (go_big_quiet_step ((go_at_call 29; exact Calls.later (hK _))))); refine wpQuiet_nil ?_; rintro w3 ⟨⟨_, hb3⟩, rfl⟩
        go_wp2
        go_ret
        refine ⟨?_, Below.of hbel hb3⟩
        have : PC.allKnown c l = false := by
          unfold PC.allKnown
          rw [Bool.and_eq_false_iff]
          left
          rw [Bool.eq_false_iff]
          intro h
          have := List.all_eq_true.1 h _ (List.getElem_mem hlt)
          rw [B.out, hq] at this
          cases this
        rw [HR.out, this]; rfl
    · have hltz : ¬ (k : Int) < (l.length : Int) := by omega
      go_wp2
      go_ret
      refine ⟨?_, hbel⟩
      have : PC.allKnown c l = decide ((l.length : Int) ≤ 64) := by
        unfold PC.allKnown
        have h1 : l.all (PC.known c) = true := List.all_eq_true.2 fun x hx => by
          obtain ⟨j, hj, e⟩ := List.getElem_of_mem hx
          rw [← e]; exact A.out j (by omega) hj
        rw [h1, Bool.true_and]
        exact decide_eq_decide.2 (by omega)
      rw [HR.out, this]; rfl

set_option maxHeartbeats 1000000 in
theorem rcount_any (c : PC.Circ) (vc : Value) (k : List UInt8) (w : World) (h : IsCirc w vc c) :
    Calls Try.prog 49 #[vc, .string ⟨k.toArray⟩] w fun e w' => e = .returned (.int .i64 (PC.count c k)) ∧ Below w.heap.size w w' := by
  obtain ⟨vi, vl, vo, vb, vv, va, vn, rfl, hp, hmax⟩ := h
  obtain ⟨ai, capi, rfl, hi1, hi2, hi3⟩ := hp.inputs.open_
  obtain ⟨al, capl, rfl, hl1, hl2, hl3⟩ := hp.latches.open_
  obtain ⟨ao, capo, rfl, ho1, ho2, ho3⟩ := hp.outputs.open_
  obtain ⟨ab, capb, rfl, hb1, hb2, hb3⟩ := hp.bads.open_
  obtain ⟨av, capv, rfl, hv1, hv2, hv3⟩ := hp.invars.open_
  clear hp hi3 hl3 ho3 hb3 hv3 hmax
  unfold PC.count
  by_cases k1 : k = [105]
  · subst k1
    go_enter Try.func49, Try.ntmps49
    go_wp2
    go_ret
    exact ⟨rfl, (Below.refl _ _).alloc (Nat.le_refl _) _⟩
  rw [if_neg k1]
  by_cases k2 : k = [108]
  · subst k2
    go_enter Try.func49, Try.ntmps49
    go_wp2
    go_ret
    exact ⟨rfl, (Below.refl _ _).alloc (Nat.le_refl _) _⟩
  rw [if_neg k2]
  by_cases k3 : k = [111]
  · subst k3
    go_enter Try.func49, Try.ntmps49
    go_wp2
    go_ret
    exact ⟨rfl, (Below.refl _ _).alloc (Nat.le_refl _) _⟩
  rw [if_neg k3]
  by_cases k4 : k = [98]
  · subst k4
    go_enter Try.func49, Try.ntmps49
    go_wp2
    go_ret
    exact ⟨rfl, (Below.refl _ _).alloc (Nat.le_refl _) _⟩
  rw [if_neg k4]
  by_cases k5 : k = [99]
  · subst k5
    go_enter Try.func49, Try.ntmps49
    go_wp2
    go_ret
    exact ⟨rfl, (Below.refl _ _).alloc (Nat.le_refl _) _⟩
  rw [if_neg k5]
  have b1 : (k == [105]) = false := by simpa using k1
  have b2 : (k == [108]) = false := by simpa using k2
  have b3 : (k == [111]) = false := by simpa using k3
  have b4 : (k == [98]) = false := by simpa using k4
  have b5 : (k == [99]) = false := by simpa using k5
  clear k1 k2 k3 k4 k5
  go_enter Try.func49, Try.ntmps49
  go_wp2
  go_ret
  exact ⟨rfl, (Below.refl _ _).alloc (Nat.le_refl _) _⟩

end Go.Proofs.Ytjcaejdokillgaa
