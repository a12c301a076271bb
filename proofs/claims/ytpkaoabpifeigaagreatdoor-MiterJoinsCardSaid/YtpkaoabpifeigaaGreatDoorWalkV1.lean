/- Contracts: Bits, True, set of the page's values. -/
import Derived.Test.YtpkaoabpifeigaaGreatDoorWalkR1
import Derived.BigRegion
namespace Go.Proofs.YtpkaoabpifeigaaGreatDoor
open Go.RowKit Go.Shelf
attribute [local simp] mk_get

theorem set_octet (s : List UInt8) (n : Nat) (c : UInt8) (hn : n < s.length) :
    ((ByteArray.mk s.toArray).extract 0 n ++ ⟨#[c]⟩ ++ (ByteArray.mk s.toArray).extract (n + 1) s.length) = ⟨(s.set n c).toArray⟩ := by
  apply ByteArray.ext
  simp only [ByteArray.data_append, ByteArray.data_extract]
  apply Array.ext'
  simp [List.set_eq_take_append_cons_drop, hn, List.take_of_length_le]

set_option maxHeartbeats 1000000 in
theorem rset_any (s : List UInt8) (n : Nat) (c : UInt8) (w : World) (hn : n < s.length) (hs : s.length ≤ 9223372036854775806) :
    Calls Tryz.prog 48 #[.string ⟨s.toArray⟩, .int .i64 (n : Int), .int .u8 (c.toNat : Int)] w fun e w' => e = .returned (.string ⟨(s.set n c).toArray⟩) ∧ Below w.heap.size w w' := by
  have h1 : (n : Int) < (s.length : Int) := by omega
  have h2 : (n : Int) + 1 ≤ (s.length : Int) := by omega
  have h3 : n ≤ s.length := by omega
  have h4 : n + 1 ≤ s.length := by omega
  have hcv : (convert 109 9 (.slice (some ⟨w.heap.size, 0, none⟩) 1 1)).run Tryz.prog (w.alloc (.cells #[.int .u8 (c.toNat : Int)] 5)).drew = .ok (.string ⟨#[c]⟩) (w.alloc (.cells #[.int .u8 (c.toNat : Int)] 5)).drew := by
    refine run_convert_bytes_back (w.alloc (.cells #[.int .u8 (c.toNat : Int)] 5)).drew 109 9 5 ⟨w.heap.size, 0, none⟩ 1 [c] Tryz.underlying109 Tryz.underlying5 Tryz.underlying9 fun j hj => ?_
    have hj0 : j = 0 := by simp at hj; omega
    subst hj0
    exact World.cell?_alloc_mark _ _ _ _ _
  go_enter Tryz.func48, Tryz.ntmps48
  go_wp2
  go_region
  go_wp2
  go_ret
  exact ⟨by rw [← set_octet s n c hn]; rfl, ((Below.refl _ _).alloc (Nat.le_refl _) _).drew⟩

set_option maxHeartbeats 1000000 in
theorem rTrue_any (s : List UInt8) (l : Int) (w : World) (h : rng l) (_hs : s.length ≤ 9223372036854775807) :
    Calls Tryz.prog 20 #[.string ⟨s.toArray⟩, .int .i64 l] w fun e w' => e = .returned (.bool (PC.tru s l)) ∧ w = w' := by
  have hV := rVar_any l w h
  have hN := rNeg_any l w h
  by_cases hv : PC.varOf l < s.length
  · have hvz : (PC.varOf l : Int) < (s.length : Int) := by omega
    obtain ⟨x, hx⟩ : ∃ x, s[PC.varOf l] = x := ⟨_, rfl⟩
    have e : PC.tru s l = ((x == 49) != PC.negOf l) := by
      unfold PC.tru
      rw [List.getElem?_eq_getElem hv, hx]
      simp
    rw [e]
    have e2 : (x == 49) = decide ((x.toNat : Int) = 49) := by
      rw [Bool.eq_iff_iff]
      simp only [beq_iff_eq, decide_eq_true_eq]
      have : x = 49 ↔ x.toNat = 49 := by rw [← UInt8.toNat_inj]; rfl
      rw [this]; omega
    rw [e2]
    clear e e2
    generalize PC.varOf l = v at *
    generalize PC.negOf l = ng at *
    go_enter Tryz.func20, Tryz.ntmps20
    go_wp2_with (first | (go_at_call 51; refine hV.mono ?_; rintro e w1 ⟨rfl, rfl⟩) | (go_at_call 52; refine hN.mono ?_; rintro e w1 ⟨rfl, rfl⟩))
    go_ret
    exact ⟨rfl, rfl⟩
  · have hvz : ¬ (PC.varOf l : Int) < (s.length : Int) := by omega
    have e : PC.tru s l = (false != PC.negOf l) := by
      unfold PC.tru
      rw [List.getElem?_eq_none (by omega)]
      rfl
    rw [e]
    clear e
    generalize PC.varOf l = v at *
    generalize PC.negOf l = ng at *
    go_enter Tryz.func20, Tryz.ntmps20
    go_wp2_with (first | (go_at_call 51; refine hV.mono ?_; rintro e w1 ⟨rfl, rfl⟩) | (go_at_call 52; refine hN.mono ?_; rintro e w1 ⟨rfl, rfl⟩))
    go_ret
    exact ⟨by cases ng <;> rfl, rfl⟩

/-- bits at the k-th and behind -/
theorem bitsOk_step (s : List UInt8) (n : Nat) : PC.bitsOk s n = true ↔ (∀ j (h : j < s.length), s[j] = 48 ∨ s[j] = 49) ∧ s.length = n := by
  unfold PC.bitsOk
  simp only [Bool.and_eq_true, List.all_eq_true, Bool.or_eq_true, beq_iff_eq, decide_eq_true_eq]
  constructor
  · rintro ⟨h1, h2⟩
    exact ⟨fun j h => h1 _ (List.getElem_mem h), h2⟩
  · rintro ⟨h1, h2⟩
    refine ⟨fun b hb => ?_, h2⟩
    obtain ⟨j, hj, rfl⟩ := List.getElem_of_mem hb
    exact h1 j hj

theorem u8_48 (x : UInt8) : ((x.toNat : Int) = 48) ↔ x = 48 := by
  rw [← UInt8.toNat_inj]
  show _ ↔ x.toNat = 48
  omega
theorem u8_49 (x : UInt8) : ((x.toNat : Int) = 49) ↔ x = 49 := by
  rw [← UInt8.toNat_inj]
  show _ ↔ x.toNat = 49
  omega

theorem u8_beq49 (x : UInt8) : (x == 49) = ((x.toNat : Int) == 49) := by
  rw [Bool.eq_iff_iff]
  simp only [beq_iff_eq]
  exact (u8_49 x).symm

set_option maxHeartbeats 1000000 in
theorem rBits_any (s : List UInt8) (n : Nat) (w : World) (hs : s.length ≤ 9223372036854775807) :
    Calls Tryz.prog 22 #[.string ⟨s.toArray⟩, .int .i64 (n : Int)] w fun e w' => e = .returned (.bool (PC.bitsOk s n)) ∧ w = w' := by
  obtain ⟨R, hR⟩ : ∃ R, R = PC.bitsOk s n := ⟨_, rfl⟩
  rw [← hR]
  have HR := Lib.hid hR
  clear hR
  go_enter Tryz.func22, Tryz.ntmps22
  go_wp2
  go_loopg [5] s.length (fun gg s5 wr => ∃ k : Nat, k ≤ s.length ∧ s.length - k ≤ gg ∧ s5 = .int .i64 k ∧ w = wr ∧ Aside (∀ j (hj : j < k) (h : j < s.length), s[j] = 48 ∨ s[j] = 49))
  case atStart => exact ⟨0, Nat.zero_le _, by omega, rfl, rfl, fun j hj => absurd hj (Nat.not_lt_zero _)⟩
  case round =>
    obtain ⟨k, hk, hg, rfl, rfl, A⟩ := hrel
    by_cases hlt : k < s.length
    · obtain ⟨x, hx⟩ : ∃ x, s[k] = x := ⟨_, rfl⟩
      have X := Lib.hid hx
      have hltz : (k : Int) < (s.length : Int) := by omega
      by_cases h1 : (x.toNat : Int) = 48
      · have H1 : Hid (x = 48) := (u8_48 x).1 h1
        go_wp2
        go_roundg (s.length - (k + 1))
        case measure => omega
        case rel =>
          refine ⟨k + 1, by omega, by omega, by go_num, rfl, (show Aside _ from fun j hj h => ?_)⟩
          by_cases e : j = k
          · subst e; exact Or.inl (X.out.trans H1.out)
          · exact A.out j (by omega) h
      · by_cases h2 : (x.toNat : Int) = 49
        · have H1 : Hid (x = 49) := (u8_49 x).1 h2
          go_wp2
          go_roundg (s.length - (k + 1))
          case measure => omega
          case rel =>
            refine ⟨k + 1, by omega, by omega, by go_num, rfl, (show Aside _ from fun j hj h => ?_)⟩
            by_cases e : j = k
            · subst e; exact Or.inr (X.out.trans H1.out)
            · exact A.out j (by omega) h
        · have h1' : ((x.toNat : Int) != 48) = true := by simpa using h1
          have h2' : ((x.toNat : Int) != 49) = true := by simpa using h2
          go_wp2
          go_ret
          have : R = false := by
            rw [HR.out, Bool.eq_false_iff]
            intro hb
            rcases ((bitsOk_step s n).1 hb).1 k hlt with h | h
            · rw [X.out] at h; exact h1 ((u8_48 x).2 h)
            · rw [X.out] at h; exact h2 ((u8_49 x).2 h)
          exact ⟨by rw [this]; rfl, rfl⟩
    · have hltz : ¬ (k : Int) < (s.length : Int) := by omega
      go_wp2
      go_ret
      refine ⟨?_, rfl⟩
      have : R = decide ((s.length : Int) = (n : Int)) := by
        rw [HR.out, Bool.eq_iff_iff, bitsOk_step, decide_eq_true_iff]
        constructor
        · rintro ⟨_, h⟩; omega
        · intro h; exact ⟨fun j hj => A.out j (by omega) hj, by omega⟩
      rw [this]; rfl

end Go.Proofs.YtpkaoabpifeigaaGreatDoor
