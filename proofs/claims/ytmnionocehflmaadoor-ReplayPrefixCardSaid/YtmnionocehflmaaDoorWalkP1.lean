/- Contracts: slices.ContainsFunc at a bound method, at lists, at texts; what a step of a path is; replay.Allowed. -/
import Derived.Test.YtmnionocehflmaaDoorWalkP0
import Derived.Test.YtmnionocehflmaaDoorWalkV4
namespace Go.Proofs.YtmnionocehflmaaDoor
open Go.RowKit Go.Shelf

set_option maxHeartbeats 1000000 in
theorem IndexFuncI_m (p : Int → Bool) (g : Nat) (mv : Value) (W : World) (eg : ∀ args w, (callFunc g args).run Tryd.prog w = .ok (.enter g args) w)
    (hp : ∀ (x : Int) w, rng x → Below W.heap.size W w → Calls Tryd.prog g #[mv, .int .i64 x] w fun e w' => e = .returned (.bool (p x)) ∧ Below w.heap.size w w')
    (l : List (Int)) (v : Value) (hv : Ints W v l) :
    Calls Tryd.prog 66 #[v, .func (.func g) #[mv] #[]] W fun e w' => e = .returned (.int .i64 (idx p l)) ∧ Below W.heap.size W w' := by
  obtain ⟨ao, cap, rfl, h1, h2, hc⟩ := hv.open_
  go_enter Tryd.func66, Tryd.ntmps66
  go_wp2
  go_loopg [5, 8] l.length (fun gg _ s8 wr => ∃ k : Nat, k ≤ l.length ∧ l.length - k ≤ gg ∧ s8 = .int .i64 k ∧ Below W.heap.size W wr ∧ Aside (∀ j (hj : j < k) (h : j < l.length), p l[j] = false))
  case atStart => exact ⟨0, Nat.zero_le _, by omega, rfl, Below.refl _ _, fun j hj => absurd hj (Nat.not_lt_zero _)⟩
  case round =>
    obtain ⟨k, hk, hg, rfl, hbr, A⟩ := hrel
    by_cases hlt : k < l.length
    · obtain ⟨b, off, rfl, hbs, hry, hcell⟩ := hc k hlt
      have hcell := (hbr.cell hbs).trans hcell
      clear hc
      generalize hy : l[k] = y at *
      have B : Aside (l[k] = y) := hy
      clear hy
      have hcall := hp y wr hry hbr
      clear hp
      have hltz : (k : Int) < (l.length : Int) := by omega
      cases hq : p y with
      | true =>
        rw [hq] at hcall
        go_wp2_with (go_at_fn g; refine (hcall).mono ?_; rintro e w' ⟨rfl, hb'⟩)
        go_ret
        refine ⟨?_, Below.of hbr hb'⟩
        rw [idx_hit p l k hlt (fun j hj => A.out j hj (by omega)) (by rw [B.out]; exact hq)]; rfl
      | false =>
        rw [hq] at hcall
        go_wp2_with (go_at_fn g; refine (hcall).mono ?_; rintro e w' ⟨rfl, hb'⟩)
        go_roundg (l.length - (k + 1))
        case measure => omega
        case rel =>
          refine ⟨k + 1, by omega, by omega, by go_num, Below.of hbr hb', (show Aside _ from fun j hj h => ?_)⟩
          by_cases e : j = k
          · subst e; rw [B.out]; exact hq
          · exact A.out j (by omega) h
    · have hltz : ¬ (k : Int) < (l.length : Int) := by omega
      go_wp2
      go_ret
      refine ⟨?_, hbr⟩
      rw [idx_miss p l (fun j hj => A.out j (by omega) hj)]; rfl

set_option maxHeartbeats 1000000 in
theorem ContainsFuncI_m (p : Int → Bool) (g : Nat) (mv : Value) (W : World) (eg : ∀ args w, (callFunc g args).run Tryd.prog w = .ok (.enter g args) w)
    (hp : ∀ (x : Int) w, rng x → Below W.heap.size W w → Calls Tryd.prog g #[mv, .int .i64 x] w fun e w' => e = .returned (.bool (p x)) ∧ Below w.heap.size w w')
    (l : List (Int)) (v : Value) (hv : Ints W v l) :
    Calls Tryd.prog 45 #[v, .func (.func g) #[mv] #[]] W fun e w' => e = .returned (.bool (l.any p)) ∧ Below W.heap.size W w' := by
  rw [← idx_nonneg]
  go_enter Tryd.func45, Tryd.ntmps45
  go_wp2_with (go_at_call 66; refine (IndexFuncI_m p g mv W eg hp l v hv).mono ?_; rintro e w' ⟨rfl, hb⟩)
  go_ret
  exact ⟨rfl, hb⟩

set_option maxHeartbeats 1000000 in
theorem IndexFuncL_m (p : List Int → Bool) (g : Nat) (mv : Value) (W : World) (eg : ∀ args w, (callFunc g args).run Tryd.prog w = .ok (.enter g args) w)
    (hp : ∀ (u : Value) (x : List Int) w, Ints w u x → Below W.heap.size W w → Calls Tryd.prog g #[mv, u] w fun e w' => e = .returned (.bool (p x)) ∧ Below w.heap.size w w')
    (l : List (List Int)) (v : Value) (hv : Lists W v l) :
    Calls Tryd.prog 77 #[v, .func (.func g) #[mv] #[]] W fun e w' => e = .returned (.int .i64 (idx p l)) ∧ Below W.heap.size W w' := by
  obtain ⟨ao, cap, rfl, h1, h2, hc⟩ := hv.open_
  go_enter Tryd.func77, Tryd.ntmps77
  go_wp2
  go_loopg [5, 8] l.length (fun gg _ s8 wr => ∃ k : Nat, k ≤ l.length ∧ l.length - k ≤ gg ∧ s8 = .int .i64 k ∧ Below W.heap.size W wr ∧ Aside (∀ j (hj : j < k) (h : j < l.length), p l[j] = false))
  case atStart => exact ⟨0, Nat.zero_le _, by omega, rfl, Below.refl _ _, fun j hj => absurd hj (Nat.not_lt_zero _)⟩
  case round =>
    obtain ⟨k, hk, hg, rfl, hbr, A⟩ := hrel
    by_cases hlt : k < l.length
    · obtain ⟨b, off, u, rfl, hbs, hcell, hiu⟩ := hc k hlt
      have hiu := hiu.mono hbr
      have hcell := (hbr.cell hbs).trans hcell
      clear hc
      generalize hy : l[k] = y at *
      have B : Aside (l[k] = y) := hy
      clear hy
      have hcall := hp u y wr hiu hbr
      clear hp
      have hltz : (k : Int) < (l.length : Int) := by omega
      cases hq : p y with
      | true =>
        rw [hq] at hcall
        go_wp2_with (go_at_fn g; refine (hcall).mono ?_; rintro e w' ⟨rfl, hb'⟩)
        go_ret
        refine ⟨?_, Below.of hbr hb'⟩
        rw [idx_hit p l k hlt (fun j hj => A.out j hj (by omega)) (by rw [B.out]; exact hq)]; rfl
      | false =>
        rw [hq] at hcall
        go_wp2_with (go_at_fn g; refine (hcall).mono ?_; rintro e w' ⟨rfl, hb'⟩)
        go_roundg (l.length - (k + 1))
        case measure => omega
        case rel =>
          refine ⟨k + 1, by omega, by omega, by go_num, Below.of hbr hb', (show Aside _ from fun j hj h => ?_)⟩
          by_cases e : j = k
          · subst e; rw [B.out]; exact hq
          · exact A.out j (by omega) h
    · have hltz : ¬ (k : Int) < (l.length : Int) := by omega
      go_wp2
      go_ret
      refine ⟨?_, hbr⟩
      rw [idx_miss p l (fun j hj => A.out j (by omega) hj)]; rfl

set_option maxHeartbeats 1000000 in
theorem ContainsFuncL_m (p : List Int → Bool) (g : Nat) (mv : Value) (W : World) (eg : ∀ args w, (callFunc g args).run Tryd.prog w = .ok (.enter g args) w)
    (hp : ∀ (u : Value) (x : List Int) w, Ints w u x → Below W.heap.size W w → Calls Tryd.prog g #[mv, u] w fun e w' => e = .returned (.bool (p x)) ∧ Below w.heap.size w w')
    (l : List (List Int)) (v : Value) (hv : Lists W v l) :
    Calls Tryd.prog 50 #[v, .func (.func g) #[mv] #[]] W fun e w' => e = .returned (.bool (l.any p)) ∧ Below W.heap.size W w' := by
  rw [← idx_nonneg]
  go_enter Tryd.func50, Tryd.ntmps50
  go_wp2_with (go_at_call 77; refine (IndexFuncL_m p g mv W eg hp l v hv).mono ?_; rintro e w' ⟨rfl, hb⟩)
  go_ret
  exact ⟨rfl, hb⟩

set_option maxHeartbeats 1000000 in
theorem IndexFuncS_any (p : List UInt8 → Bool) (g : Nat) (lb : Array Value) (W : World) (eg : ∀ args w, (callFunc g args).run Tryd.prog w = .ok (.enter g args) w)
    (hp : ∀ (x : List UInt8) w, x.length ≤ 9223372036854775807 → Below W.heap.size W w → Calls Tryd.prog g (#[.string ⟨x.toArray⟩] ++ lb) w fun e w' => e = .returned (.bool (p x)) ∧ Below w.heap.size w w')
    (l : List (List UInt8)) (v : Value) (hv : Strs W v l) :
    Calls Tryd.prog 95 #[v, .func (.func g) #[] lb] W fun e w' => e = .returned (.int .i64 (idx p l)) ∧ Below W.heap.size W w' := by
  obtain ⟨ao, cap, rfl, h1, h2, hc⟩ := hv.open_
  go_enter Tryd.func95, Tryd.ntmps95
  go_wp2
  go_loopg [5, 8] l.length (fun gg _ s8 wr => ∃ k : Nat, k ≤ l.length ∧ l.length - k ≤ gg ∧ s8 = .int .i64 k ∧ Below W.heap.size W wr ∧ Aside (∀ j (hj : j < k) (h : j < l.length), p l[j] = false))
  case atStart => exact ⟨0, Nat.zero_le _, by omega, rfl, Below.refl _ _, fun j hj => absurd hj (Nat.not_lt_zero _)⟩
  case round =>
    obtain ⟨k, hk, hg, rfl, hbr, A⟩ := hrel
    by_cases hlt : k < l.length
    · obtain ⟨b, off, rfl, hbs, hry, hcell⟩ := hc k hlt
      have hcell := (hbr.cell hbs).trans hcell
      clear hc
      generalize hy : l[k] = y at *
      have B : Aside (l[k] = y) := hy
      clear hy
      have hcall := hp y wr hry hbr
      clear hp
      have hltz : (k : Int) < (l.length : Int) := by omega
      cases hq : p y with
      | true =>
        rw [hq] at hcall
        go_wp2_with (go_at_fn g; refine (hcall).mono ?_; rintro e w' ⟨rfl, hb'⟩)
        go_ret
        refine ⟨?_, Below.of hbr hb'⟩
        rw [idx_hit p l k hlt (fun j hj => A.out j hj (by omega)) (by rw [B.out]; exact hq)]; rfl
      | false =>
        rw [hq] at hcall
        go_wp2_with (go_at_fn g; refine (hcall).mono ?_; rintro e w' ⟨rfl, hb'⟩)
        go_roundg (l.length - (k + 1))
        case measure => omega
        case rel =>
          refine ⟨k + 1, by omega, by omega, by go_num, Below.of hbr hb', (show Aside _ from fun j hj h => ?_)⟩
          by_cases e : j = k
          · subst e; rw [B.out]; exact hq
          · exact A.out j (by omega) h
    · have hltz : ¬ (k : Int) < (l.length : Int) := by omega
      go_wp2
      go_ret
      refine ⟨?_, hbr⟩
      rw [idx_miss p l (fun j hj => A.out j (by omega) hj)]; rfl

set_option maxHeartbeats 1000000 in
theorem ContainsFuncS_any (p : List UInt8 → Bool) (g : Nat) (lb : Array Value) (W : World) (eg : ∀ args w, (callFunc g args).run Tryd.prog w = .ok (.enter g args) w)
    (hp : ∀ (x : List UInt8) w, x.length ≤ 9223372036854775807 → Below W.heap.size W w → Calls Tryd.prog g (#[.string ⟨x.toArray⟩] ++ lb) w fun e w' => e = .returned (.bool (p x)) ∧ Below w.heap.size w w')
    (l : List (List UInt8)) (v : Value) (hv : Strs W v l) :
    Calls Tryd.prog 74 #[v, .func (.func g) #[] lb] W fun e w' => e = .returned (.bool (l.any p)) ∧ Below W.heap.size W w' := by
  rw [← idx_nonneg]
  go_enter Tryd.func74, Tryd.ntmps74
  go_wp2_with (go_at_call 95; refine (IndexFuncS_any p g lb W eg hp l v hv).mono ?_; rintro e w' ⟨rfl, hb⟩)
  go_ret
  exact ⟨rfl, hb⟩

theorem enters_isNot : ∀ args w, (callFunc 49 args).run Tryd.prog w = .ok (.enter 49 args) w := enters_of Tryd.func49 (by kernel_rfl) rfl
theorem enters_broken : ∀ args w, (callFunc 51 args).run Tryd.prog w = .ok (.enter 51 args) w := enters_of Tryd.func51 (by kernel_rfl) rfl

theorem stIs_any (m : List UInt8) (l : Int) (w : World) (hb : ∀ b ∈ m, b = 48 ∨ b = 49) (hr : rng l) (hm : m.length ≤ 9223372036854775807) :
    Calls Tryd.prog 76 #[.string ⟨m.toArray⟩, .int .i64 l] w fun e w' => e = .returned (.bool (PC.tru m l)) ∧ Below w.heap.size w w' := by
  go_enter Tryd.func76, Tryd.ntmps76
  go_wp2_with fail
  refine (simTrue_any m l w hb hr hm).mono ?_
  rintro e w1 ⟨rfl, hb1⟩
  go_wp2_with fail
  go_ret
  exact ⟨rfl, hb1⟩

theorem stIsNot_any (m : List UInt8) (l : Int) (w : World) (hb : ∀ b ∈ m, b = 48 ∨ b = 49) (hr : rng l) (hm : m.length ≤ 9223372036854775807) :
    Calls Tryd.prog 49 #[.string ⟨m.toArray⟩, .int .i64 l] w fun e w' => e = .returned (.bool (!PC.tru m l)) ∧ Below w.heap.size w w' := by
  go_enter Tryd.func49, Tryd.ntmps49
  go_wp2_with fail
  refine (stIs_any m l w hb hr hm).mono ?_
  rintro e w1 ⟨rfl, hb1⟩
  go_wp2_with fail
  go_ret
  exact ⟨rfl, hb1⟩

theorem stBroken_any (m : List UInt8) (l : List Int) (v : Value) (w : World) (hv : Ints w v l) (hb : ∀ b ∈ m, b = 48 ∨ b = 49) (hm : m.length ≤ 9223372036854775807) :
    Calls Tryd.prog 51 #[.string ⟨m.toArray⟩, v] w fun e w' => e = .returned (.bool (!PC.holds m l)) ∧ Below w.heap.size w w' := by
  go_enter Tryd.func51, Tryd.ntmps51
  go_wp2_with fail
  refine (simHolds_any m l v w hv hb hm).mono ?_
  rintro e w1 ⟨rfl, hb1⟩
  go_wp2_with fail
  go_ret
  exact ⟨rfl, hb1⟩

theorem any_not {α : Type} (p : α → Bool) (l : List α) : (l.any fun x => !p x) = !l.all p := by
  induction l with
  | nil => rfl
  | cons x r ih => simp only [List.any_cons, List.all_cons, ih, Bool.not_and]

set_option maxHeartbeats 1000000 in
theorem repAllowed_any (c : PC.Circ) (vc va : Value) (A : List (List Int)) (m : List UInt8) (w : World) (h : IsCirc w vc c) (hA : Lists w va A) (hb : ∀ b ∈ m, b = 48 ∨ b = 49) (hm : m.length ≤ 9223372036854775807) :
    Calls Tryd.prog 26 #[vc, va, .string ⟨m.toArray⟩] w fun e w' => e = .returned (.bool (PC.allowed c A m)) ∧ Below w.heap.size w w' := by
  have hmf : ∀ (fn : Fn) (first cap : Array Value) (w : World), (Instr.makeFunc fn first cap).run Tryd.prog w = .ok (.func fn first cap) w := fun _ _ _ _ => rfl
  obtain ⟨vi, vl, vo, vb, vv, va', vn, rfl, hp, hmx⟩ := h
  have hC := Lib.hid fun w1 (hb1 : Below w.heap.size w w1) => ContainsFuncI_m (fun x => !PC.tru m x) 49 (.string ⟨m.toArray⟩) w1 enters_isNot (fun x w2 hr _ => stIsNot_any m x w2 hb hr hm) c.invars vv (hp.invars.mono hb1)
  have hL := Lib.hid fun w1 (hb1 : Below w.heap.size w w1) => ContainsFuncL_m (fun x => !PC.holds m x) 51 (.string ⟨m.toArray⟩) w1 enters_broken (fun u x w2 hu _ => stBroken_any m x u w2 hu hb hm) A va (hA.mono hb1)
  rw [any_not] at hC hL
  obtain ⟨R, hR⟩ : ∃ R, R = PC.allowed c A m := ⟨_, rfl⟩
  rw [← hR]
  rw [PC.allowed] at hR
  clear hp hA
  have hb0 := Lib.hid ((Below.refl w.heap.size w).alloc (Nat.le_refl _) (.cells #[.int .i64 c.max, vi, vl, vo, vb, vv, va', vn] 27))
  cases h1 : c.invars.all (PC.tru m) with
  | false =>
    rw [h1] at hC hR
    obtain rfl : R = false := hR
    clear h1 hL
    go_enter Tryd.func26, Tryd.ntmps26
    go_wp2_with fail
    refine (hC.out _ hb0.out).mono ?_
    rintro e w1 ⟨rfl, hb1⟩
    go_wp2_with fail
    go_ret
    exact ⟨rfl, Below.of hb0.out hb1⟩
  | true =>
    rw [h1] at hC hR
    obtain rfl : R = A.all (PC.holds m) := hR
    clear h1
    go_enter Tryd.func26, Tryd.ntmps26
    go_wp2_with fail
    refine (hC.out _ hb0.out).mono ?_
    rintro e w1 ⟨rfl, hb1⟩
    have hb01 := Lib.hid (Below.of hb0.out hb1)
    go_wp2_with fail
    refine (hL.out _ hb01.out).mono ?_
    rintro e w2 ⟨rfl, hb2⟩
    go_wp2_with fail
    go_ret
    exact ⟨by simp, Below.of hb01.out hb2⟩

end Go.Proofs.YtmnionocehflmaaDoor
