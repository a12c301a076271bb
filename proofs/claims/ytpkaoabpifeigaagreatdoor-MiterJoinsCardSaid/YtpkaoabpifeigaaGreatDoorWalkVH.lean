/- Contract: does a clause hold? -/
import Derived.Test.YtpkaoabpifeigaaGreatDoorWalkV1
namespace Go.Proofs.YtpkaoabpifeigaaGreatDoor
open Go.RowKit Go.Shelf
attribute [local simp] mk_get

set_option maxHeartbeats 1000000 in
theorem rHolds_any (m : List UInt8) (l : List Int) (v : Value) (w : World) (hv : Ints w v l) (hm : m.length ≤ 9223372036854775807) :
    Calls Tryz.prog 50 #[.string ⟨m.toArray⟩, v] w fun e w' => e = .returned (.bool (PC.holds m l)) ∧ w = w' := by
  unfold PC.holds
  obtain ⟨ao, cap, rfl, h1, h2, hc⟩ := hv.open_
  obtain ⟨R, hR⟩ : ∃ R, R = l.any (PC.tru m) := ⟨_, rfl⟩
  rw [← hR]
  have HR := Lib.hid hR
  clear hR
  have HC := Lib.hid hc
  clear hc
  go_enter Tryz.func50, Tryz.ntmps50
  go_wp2
  go_loopg [5] l.length (fun gg s5 wr => ∃ k : Nat, k ≤ l.length ∧ l.length - k ≤ gg ∧ s5 = .int .i64 k ∧ w = wr ∧ Aside (∀ j (hj : j < k) (h : j < l.length), PC.tru m l[j] = false))
  case atStart => exact ⟨0, Nat.zero_le _, by omega, rfl, rfl, fun j hj => absurd hj (Nat.not_lt_zero _)⟩
  case round =>
    obtain ⟨k, hk, hg, rfl, rfl, A⟩ := hrel
    by_cases hlt : k < l.length
    · obtain ⟨b, off, rfl, hbs, hry, hcell⟩ := HC.out k hlt
      have hmea : ∀ g : Nat, l.length - k ≤ g → l.length - (k + 1) < g := fun g h => by omega
      generalize hy : l[k] = y at *
      have B := Lib.hid hy
      clear hy
      have hltz : (k : Int) < (l.length : Int) := by omega
      have hcall := rTrue_any m y w hry hm
      cases hq : PC.tru m y with
      | true =>
        rw [hq] at hcall
        have Q := Lib.hid hq
        clear hq
        go_wp2_with (go_at_call 20; refine (hcall).mono ?_; rintro e w' ⟨rfl, rfl⟩)
        go_ret
        have : R = true := by
          rw [HR.out, List.any_eq_true]
          exact ⟨l[k], List.getElem_mem hlt, by rw [B.out]; exact Q.out⟩
        exact ⟨by rw [this]; rfl, rfl⟩
      | false =>
        rw [hq] at hcall
        have Q := Lib.hid hq
        clear hq
        go_wp2_with (go_at_call 20; refine (hcall).mono ?_; rintro e w' ⟨rfl, rfl⟩)
        go_roundg (l.length - (k + 1))
        case measure => exact hmea _ hg
        case rel =>
          refine ⟨k + 1, by omega, by omega, by go_num, rfl, (show Aside _ from fun j hj h => ?_)⟩
          by_cases e : j = k
          · subst e; rw [B.out]; exact Q.out
          · exact A.out j (by omega) h
    · have hltz : ¬ (k : Int) < (l.length : Int) := by omega
      obtain rfl : k = l.length := by omega
      go_wp2
      go_ret
      have : R = false := by
        rw [HR.out, List.any_eq_false]
        intro x hx
        obtain ⟨j, hj, rfl⟩ := List.getElem_of_mem hx
        simpa using A.out j hj hj
      exact ⟨by rw [this]; rfl, rfl⟩

end Go.Proofs.YtpkaoabpifeigaaGreatDoor
