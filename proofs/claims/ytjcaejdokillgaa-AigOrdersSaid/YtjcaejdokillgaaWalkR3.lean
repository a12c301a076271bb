/- Contracts: the page's rank, names. -/
import Derived.Test.YtjcaejdokillgaaWalkR2
namespace Go.Proofs.Ytjcaejdokillgaa
open Go.RowKit Go.Shelf

namespace PC
/-- the names from the k-th on -/
def namesAt (c : Circ) (k : Nat) : Bool := namesFrom c (if k = 0 then none else c.names[k - 1]?) (c.names.drop k)

theorem namesAt_zero (c : Circ) : namesAt c 0 = namesFrom c none c.names := rfl
theorem namesAt_end (c : Circ) : namesAt c c.names.length = true := by
  unfold namesAt
  rw [List.drop_length]
  cases (if c.names.length = 0 then none else c.names[c.names.length - 1]?) <;> rfl
/-- the name ahead of the k-th -/
def before (c : Circ) (k : Nat) : Nam := (c.names[k - 1]?).getD default
theorem namesAt_step (c : Circ) (k : Nat) (h : k < c.names.length) : namesAt c k = (nameOk c c.names[k] && (decide (k = 0) || ahead (before c k) c.names[k]) && namesAt c (k + 1)) := by
  unfold namesAt before
  rw [List.drop_eq_getElem_cons h, if_neg (Nat.succ_ne_zero k), Nat.add_sub_cancel, List.getElem?_eq_getElem h]
  by_cases h0 : k = 0
  · subst h0; simp [namesFrom]
  · rw [if_neg h0, List.getElem?_eq_getElem (by omega)]
    simp [namesFrom, h0]
end PC

set_option maxHeartbeats 2000000 in
theorem rrank_any (k : List UInt8) (w : World) : Calls Try.prog 50 #[.string ⟨k.toArray⟩] w fun e w' => e = .returned (.int .i64 (PC.rank k)) ∧ Below w.heap.size w w' := by
  obtain ⟨R, hR⟩ : ∃ R, R = PC.rank k := ⟨_, rfl⟩
  rw [← hR]
  have HR := Lib.hid hR
  clear hR
  obtain ⟨k1, h1⟩ : ∃ b, (([105] : List UInt8) == k) = b := ⟨_, rfl⟩
  obtain ⟨k2, h2⟩ : ∃ b, (([108] : List UInt8) == k) = b := ⟨_, rfl⟩
  obtain ⟨k3, h3⟩ : ∃ b, (([111] : List UInt8) == k) = b := ⟨_, rfl⟩
  obtain ⟨k4, h4⟩ : ∃ b, (([98] : List UInt8) == k) = b := ⟨_, rfl⟩
  obtain ⟨k5, h5⟩ : ∃ b, (([99] : List UInt8) == k) = b := ⟨_, rfl⟩
  have hr : R = if k1 then 0 else if k2 then 1 else if k3 then 2 else if k4 then 3 else if k5 then 4 else -1 := by
    rw [HR.out, ← h1, ← h2, ← h3, ← h4, ← h5]
    simp only [PC.rank, beq_iff_eq, @eq_comm _ _ k]
  have HR := Lib.hid hr
  clear hr
  go_enter Try.func50, Try.ntmps50
  go_wp2
  go_loopg [4] 5 (fun gg s4 wr => ∃ n : Nat, n ≤ 5 ∧ 5 - n ≤ gg ∧ s4 = .int .i64 n ∧ wr = w.alloc (.cells #[.string ⟨#[105]⟩, .string ⟨#[108]⟩, .string ⟨#[111]⟩, .string ⟨#[98]⟩, .string ⟨#[99]⟩] 9) ∧
    Aside ((0 < n → k1 = false) ∧ (1 < n → k2 = false) ∧ (2 < n → k3 = false) ∧ (3 < n → k4 = false) ∧ (4 < n → k5 = false)))
  case atStart => exact ⟨0, by omega, by omega, rfl, rfl, by omega, by omega, by omega, by omega, by omega⟩
  case round =>
    obtain ⟨n, hn, hg, rfl, rfl, A⟩ := hrel
    have hn' : n = 0 ∨ n = 1 ∨ n = 2 ∨ n = 3 ∨ n = 4 ∨ n = 5 := by omega
    rcases hn' with rfl | rfl | rfl | rfl | rfl | rfl
    · cases k1
      · go_wp2
        go_roundg 4
        case measure => omega
        case rel => exact ⟨1, by omega, by omega, rfl, rfl, fun _ => (by first | rfl | trivial), by omega, by omega, by omega, by omega⟩
      · go_wp2
        go_ret
        exact ⟨by rw [HR.out]; rfl, (Below.refl _ _).alloc (Nat.le_refl _) _⟩
    · obtain ⟨a1, _⟩ := A.out
      have a1 := a1 (by omega)
      cases k2
      · go_wp2
        go_roundg 3
        case measure => omega
        case rel => exact ⟨2, by omega, by omega, rfl, rfl, fun _ => a1, fun _ => (by first | rfl | trivial), by omega, by omega, by omega⟩
      · go_wp2
        go_ret
        exact ⟨by rw [HR.out, a1]; rfl, (Below.refl _ _).alloc (Nat.le_refl _) _⟩
    · obtain ⟨a1, a2, _⟩ := A.out
      have a1 := Lib.hid (a1 (by omega))
      have a2 := Lib.hid (a2 (by omega))
      cases k3
      · go_wp2
        go_roundg 2
        case measure => omega
        case rel => exact ⟨3, by omega, by omega, rfl, rfl, fun _ => a1.out, fun _ => a2.out, fun _ => (by first | rfl | trivial), by omega, by omega⟩
      · go_wp2
        go_ret
        exact ⟨by rw [HR.out, a1.out, a2.out]; rfl, (Below.refl _ _).alloc (Nat.le_refl _) _⟩
    · obtain ⟨a1, a2, a3, _⟩ := A.out
      have a1 := Lib.hid (a1 (by omega))
      have a2 := Lib.hid (a2 (by omega))
      have a3 := Lib.hid (a3 (by omega))
      cases k4
      · go_wp2
        go_roundg 1
        case measure => omega
        case rel => exact ⟨4, by omega, by omega, rfl, rfl, fun _ => a1.out, fun _ => a2.out, fun _ => a3.out, fun _ => (by first | rfl | trivial), by omega⟩
      · go_wp2
        go_ret
        exact ⟨by rw [HR.out, a1.out, a2.out, a3.out]; rfl, (Below.refl _ _).alloc (Nat.le_refl _) _⟩
    · obtain ⟨a1, a2, a3, a4, _⟩ := A.out
      have a1 := Lib.hid (a1 (by omega))
      have a2 := Lib.hid (a2 (by omega))
      have a3 := Lib.hid (a3 (by omega))
      have a4 := Lib.hid (a4 (by omega))
      cases k5
      · go_wp2
        go_roundg 0
        case measure => omega
        case rel => exact ⟨5, by omega, by omega, rfl, rfl, fun _ => a1.out, fun _ => a2.out, fun _ => a3.out, fun _ => a4.out, fun _ => (by first | rfl | trivial)⟩
      · go_wp2
        go_ret
        exact ⟨by rw [HR.out, a1.out, a2.out, a3.out, a4.out]; rfl, (Below.refl _ _).alloc (Nat.le_refl _) _⟩
    · obtain ⟨a1, a2, a3, a4, a5⟩ := A.out
      have a1 := Lib.hid (a1 (by omega))
      have a2 := Lib.hid (a2 (by omega))
      have a3 := Lib.hid (a3 (by omega))
      have a4 := Lib.hid (a4 (by omega))
      have a5 := Lib.hid (a5 (by omega))
      go_wp2
      go_ret
      exact ⟨by rw [HR.out, a1.out, a2.out, a3.out, a4.out, a5.out]; rfl, (Below.refl _ _).alloc (Nat.le_refl _) _⟩

end Go.Proofs.Ytjcaejdokillgaa
