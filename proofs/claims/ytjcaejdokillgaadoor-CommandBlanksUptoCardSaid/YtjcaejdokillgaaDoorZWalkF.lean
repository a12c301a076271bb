/- Contracts: slices.IndexFunc, ContainsFunc at octets and at numbers. -/
import Derived.Test.YtjcaejdokillgaaDoorZL2
namespace Go.Proofs.YtjcaejdokillgaaDoor
open Go.RowKit Go.Shelf

/-- the first place at which p holds, or -1 -/
def idx {α : Type} (p : α → Bool) (l : List α) : Int := match l.findIdx? p with | some i => i | none => -1

theorem idx_nonneg {α : Type} (p : α → Bool) (l : List α) : decide (0 ≤ idx p l) = l.any p := by
  unfold idx
  cases h : l.findIdx? p with
  | none =>
    have := List.findIdx?_eq_none_iff.1 h
    simp only [Int.reduceNeg, Int.reduceLE, decide_false]
    symm
    rw [List.any_eq_false]
    intro x hx
    simpa using this x hx
  | some i =>
    have := List.findIdx?_eq_some_iff_getElem.1 h
    obtain ⟨hi, hp, _⟩ := this
    simp only [Int.natCast_nonneg, decide_true]
    symm
    rw [List.any_eq_true]
    exact ⟨_, List.getElem_mem hi, hp⟩

theorem idx_hit {α : Type} (p : α → Bool) (l : List α) (k : Nat) (h : k < l.length) (h0 : ∀ j (hj : j < k), p (l[j]'(by omega)) = false) (h1 : p l[k] = true) : idx p l = k := by
  unfold idx
  rw [List.findIdx?_eq_some_iff_getElem.2 ⟨h, h1, fun j hj => by simp [h0 j hj]⟩]

theorem idx_miss {α : Type} (p : α → Bool) (l : List α) (h0 : ∀ j (hj : j < l.length), p l[j] = false) : idx p l = -1 := by
  unfold idx
  rw [List.findIdx?_eq_none_iff.2 fun x hx => by
    obtain ⟨j, hj, rfl⟩ := List.getElem_of_mem hx
    exact h0 j hj]

/-- a slice value that reads as octets -/
def Bytes (w : World) (v : Value) (l : List UInt8) : Prop :=
  ∃ ao cap, v = .slice ao l.length cap ∧ l.length ≤ 9223372036854775807 ∧ ∀ j (hj : j < l.length), ∃ b off, ao = some ⟨b, off, none⟩ ∧ w.cell? ⟨b, off + j, none⟩ = some (.int .u8 (l[j].toNat : Int))

set_option maxHeartbeats 1000000 in
theorem IndexFuncB_any (p : UInt8 → Bool) (g : Nat) (lb : Array Value) (eg : ∀ args w, (callFunc g args).run Tryd.prog w = .ok (.enter g args) w)
    (hp : ∀ (x : UInt8) w, Calls Tryd.prog g (#[.int .u8 (x.toNat : Int)] ++ lb) w fun e w' => e = .returned (.bool (p x)) ∧ w = w')
    (l : List UInt8) (v : Value) (w : World) (hv : Bytes w v l) :
    Calls Tryd.prog 76 #[v, .func (.func g) #[] lb] w fun e w' => e = .returned (.int .i64 (idx p l)) ∧ w = w' := by
  obtain ⟨ao, cap, rfl, hbig, hc⟩ := hv
  go_enter Tryd.func76, Tryd.ntmps76
  go_wp2
  go_loopg [5, 8] l.length (fun gg _ s8 wr => ∃ k : Nat, k ≤ l.length ∧ l.length - k ≤ gg ∧ s8 = .int .i64 k ∧ wr = w ∧ Aside (∀ j (hj : j < k) (h : j < l.length), p l[j] = false))
  case atStart => exact ⟨0, Nat.zero_le _, by omega, rfl, rfl, fun j hj => absurd hj (Nat.not_lt_zero _)⟩
  case round =>
    obtain ⟨k, hk, hg, rfl, rfl, A⟩ := hrel
    by_cases hlt : k < l.length
    · obtain ⟨b, off, rfl, hcell⟩ := hc k hlt
      clear hc
      generalize hy : l[k] = y at hcell
      have B : Aside (l[k] = y) := hy
      clear hy
      have hcall := hp y wr
      clear hp
      have hltz : (k : Int) < (l.length : Int) := by omega
      cases hq : p y with
      | true =>
        rw [hq] at hcall
        go_wp2_with (go_at_fn g; refine (hcall).mono ?_; rintro e w' ⟨rfl, rfl⟩)
        go_ret
        refine ⟨?_, rfl⟩
        rw [idx_hit p l k hlt (fun j hj => A.out j hj (by omega)) (by rw [B.out]; exact hq)]; rfl
      | false =>
        rw [hq] at hcall
        go_wp2_with (go_at_fn g; refine (hcall).mono ?_; rintro e w' ⟨rfl, rfl⟩)
        go_roundg (l.length - (k + 1))
        case measure => omega
        case rel =>
          refine ⟨k + 1, by omega, by omega, by go_num, rfl, (show Aside _ from fun j hj h => ?_)⟩
          by_cases e : j = k
          · subst e; rw [B.out]; exact hq
          · exact A.out j (by omega) h
    · have hltz : ¬ (k : Int) < (l.length : Int) := by omega
      go_wp2
      go_ret
      refine ⟨?_, rfl⟩
      rw [idx_miss p l (fun j hj => A.out j (by omega) hj)]; rfl

set_option maxHeartbeats 1000000 in
theorem ContainsFuncB_any (p : UInt8 → Bool) (g : Nat) (lb : Array Value) (eg : ∀ args w, (callFunc g args).run Tryd.prog w = .ok (.enter g args) w)
    (hp : ∀ (x : UInt8) w, Calls Tryd.prog g (#[.int .u8 (x.toNat : Int)] ++ lb) w fun e w' => e = .returned (.bool (p x)) ∧ w = w')
    (l : List UInt8) (v : Value) (w : World) (hv : Bytes w v l) :
    Calls Tryd.prog 41 #[v, .func (.func g) #[] lb] w fun e w' => e = .returned (.bool (l.any p)) ∧ w = w' := by
  rw [← idx_nonneg]
  go_enter Tryd.func41, Tryd.ntmps41
  go_wp2_with (go_at_call 76; refine (IndexFuncB_any p g lb eg hp l v _ hv).mono ?_; rintro e w' ⟨rfl, rfl⟩)
  go_ret
  exact ⟨rfl, rfl⟩

/-- '[]byte(s)' reads as s's octets -/
theorem Bytes_conv (w : World) (l : List UInt8) (c : Nat) (e : TypeId) (fr : Nat × Nat) (h : l.length ≤ 9223372036854775807) :
    Bytes (w.alloc (.cells (bytesRow ⟨l.toArray⟩ c) e fr)) (.slice (some ⟨w.heap.size, 0, none⟩) l.length c) l := by
  refine ⟨_, _, rfl, h, fun j hj => ⟨w.heap.size, 0, rfl, ?_⟩⟩
  rw [Nat.zero_add, World.cell?_alloc_mark, bytesRow_at _ _ _ (by simpa using hj)]
  simp

theorem Bytes.drew {w : World} {v : Value} {l : List UInt8} (h : Bytes w v l) : Bytes w.drew v l := h


set_option maxHeartbeats 1000000 in
/-- a predicate over numbers that may make memory -/
theorem IndexFuncI_any (p : Int → Bool) (g : Nat) (lb : Array Value) (W : World) (eg : ∀ args w, (callFunc g args).run Tryd.prog w = .ok (.enter g args) w)
    (hp : ∀ (x : Int) w, rng x → Below W.heap.size W w → Calls Tryd.prog g (#[.int .i64 x] ++ lb) w fun e w' => e = .returned (.bool (p x)) ∧ Below w.heap.size w w')
    (l : List Int) (v : Value) (hv : Ints W v l) :
    Calls Tryd.prog 123 #[v, .func (.func g) #[] lb] W fun e w' => e = .returned (.int .i64 (idx p l)) ∧ Below W.heap.size W w' := by
  obtain ⟨ao, cap, rfl, h1, h2, hc⟩ := hv.open_
  go_enter Tryd.func123, Tryd.ntmps123
  go_wp2
  go_loopg [5, 8] l.length (fun gg _ s8 wr => ∃ k : Nat, k ≤ l.length ∧ l.length - k ≤ gg ∧ s8 = .int .i64 k ∧ Below W.heap.size W wr ∧ Aside (∀ j (hj : j < k) (h : j < l.length), p l[j] = false))
  case atStart => exact ⟨0, Nat.zero_le _, by omega, rfl, Below.refl _ _, fun j hj => absurd hj (Nat.not_lt_zero _)⟩
  case round =>
    obtain ⟨k, hk, hg, rfl, hbr, A⟩ := hrel
    by_cases hlt : k < l.length
    · obtain ⟨b, off, rfl, hbs, hry, hcell⟩ := hc k hlt
      have hcell := (hbr.cell hbs).trans hcell
      clear hc
      generalize hy : l[k] = y at *
      have B : Aside (l[k] = y) := hy
      clear hy
      have hcall := hp y wr hry hbr
      clear hp
      have hltz : (k : Int) < (l.length : Int) := by omega
      cases hq : p y with
      | true =>
        rw [hq] at hcall
        go_wp2_with (go_at_fn g; refine (hcall).mono ?_; rintro e w' ⟨rfl, hb'⟩)
        go_ret
        refine ⟨?_, Below.of hbr hb'⟩
        rw [idx_hit p l k hlt (fun j hj => A.out j hj (by omega)) (by rw [B.out]; exact hq)]; rfl
      | false =>
        rw [hq] at hcall
        go_wp2_with (go_at_fn g; refine (hcall).mono ?_; rintro e w' ⟨rfl, hb'⟩)
        go_roundg (l.length - (k + 1))
        case measure => omega
        case rel =>
          refine ⟨k + 1, by omega, by omega, by go_num, Below.of hbr hb', (show Aside _ from fun j hj h => ?_)⟩
          by_cases e : j = k
          · subst e; rw [B.out]; exact hq
          · exact A.out j (by omega) h
    · have hltz : ¬ (k : Int) < (l.length : Int) := by omega
      go_wp2
      go_ret
      refine ⟨?_, hbr⟩
      rw [idx_miss p l (fun j hj => A.out j (by omega) hj)]; rfl

set_option maxHeartbeats 1000000 in
theorem ContainsFuncI_any (p : Int → Bool) (g : Nat) (lb : Array Value) (W : World) (eg : ∀ args w, (callFunc g args).run Tryd.prog w = .ok (.enter g args) w)
    (hp : ∀ (x : Int) w, rng x → Below W.heap.size W w → Calls Tryd.prog g (#[.int .i64 x] ++ lb) w fun e w' => e = .returned (.bool (p x)) ∧ Below w.heap.size w w')
    (l : List Int) (v : Value) (hv : Ints W v l) :
    Calls Tryd.prog 98 #[v, .func (.func g) #[] lb] W fun e w' => e = .returned (.bool (l.any p)) ∧ Below W.heap.size W w' := by
  rw [← idx_nonneg]
  go_enter Tryd.func98, Tryd.ntmps98
  go_wp2_with (go_at_call 123; refine (IndexFuncI_any p g lb W eg hp l v hv).mono ?_; rintro e w' ⟨rfl, hb⟩)
  go_ret
  exact ⟨rfl, hb⟩

end Go.Proofs.YtjcaejdokillgaaDoor
